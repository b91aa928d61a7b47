/-
  Texts that the claim hangs on, part 7.
-/
import Derived.Test.YtibillhjmfbneaaGreatDoorR5
set_option linter.unusedSimpArgs false
set_option linter.unusedVariables false
namespace Go.Proofs.YtibillhjmfbneaaGreatDoor
open Go.Ab
section
variable {h:ah} {L:jf} {S:List Sl} {F:List (ah→Prop)} {p mp en i n:Nat} {o:Int} {tv:AV} {T:List Lx} {K Q k:au}
theorem Jl {e1 e2:Nat×fB} {r:Nat} {c c0:List AV} {v:Bt} {F':List (ah→Prop)} (A:Cx h (e1 :: e2 :: vr r c0 :: L) S F') (h0:c0.length=9) (R:RB h c v) (s:∀h,Cx h (e1 :: L) S F'→K (.agg c) h=true):
 (aN h 9 (.ptr r 0 0 0) (.agg c) fun h=>gq (fG h [(.ptr r 0 0 0,some (true,9))]) h K)=true:=by
 obtain⟨w1,w2,_⟩:=R.cells
 exact UR A rfl w1 h0 w2 fun h A=>vT A.v2 w1 (s h A.rest1.rest1)
theorem RW.lit (k:Int) (b:Bool) (n:Int) (t:Str):RW h [.int .i64 k, .bool b, .int .i64 n, .str t, .nilSlc] (.mk k b n t []):=by
 simp only[RW]
 exact⟨.nilSlc,[],rfl,View.nil h 5,by simp[Ns]⟩
theorem Ui {w:Str} (h:cZ T i w=true):txt T i=w:=by
 unfold cZ at h
 unfold txt
 cases e:T[i]? with
 |none=>rw[e] at h;cases h
 |some l=>
  rw[e] at h
  simp only[Bool.and_eq_true,decide_eq_true_eq] at h
  exact h.1
theorem Vh (s:dJ T en i o) (hk:eB T i 2=true):(pI (txt T i)).isSome=true∧(txt T i).length≤1000000∧∀v,pI (txt T i)=some (some v)→0≤v:=by
 have hi:=qY hk
 have e:T[i]? =some T[i]:=List.getElem?_eq_getElem hi
 unfold eB at hk
 rw[e] at hk
 rw[qd e]
 exact s.num _ (List.getElem_mem hi) (of_decide_eq_true hk)
theorem c56 (hn:1≤n) {t:Str} (A:Cx h L S F) (g:GvF∈F) (h1:(pI t).isSome=true) (h2:t.length≤1000000)
 (H1:∀v,pI t=some (some v)→K (.tup [.int .i64 v, .nilIf]) h=true)
 (H2:pI t=some none→∀h u w,Cx h L S F→K (.tup [.int .i64 u, .ifc 151 w]) h=true):av E n (.func 56) [.str t, .int .i64 10, .int .i64 64] h K=true:=by
 obtain⟨n,rfl⟩:∃m,n=m+1:=⟨n-1,by omega⟩
 have hp:E.prim 56=some (Fq 151 1):=rfl
 simp only[av,hp]
 show Fq 151 1 (av E n) n [.str t, .int .i64 (.ofNat 10), .int .i64 (.ofNat 64)] h K=true
 simp only[Fq,aK.2 h2,Nat.beq_refl,Bool.and_self,cond_true]
 cases e:pI t with
 |none=>rw[e] at h1;cases h1
 |some v=>
  cases v with
  |some v=>exact H1 v e
  |none=>
   have hg:h.get 0=some (.gvar 1):=A.fact g
   simp only[hg,Nat.beq_refl,cond_true]
   exact H2 e _ _ _ (A.new .gone).rest
theorem Xf {k:Nat} (hk:k≤100000) (W:WB tv p mp en T k):∀{n h L S F i o K} [BaseF tv mp T F],4*(k+1)+40≤n→Cx h (vr p (pc tv mp en i o) :: L) S F→dJ T en i o→
 Post (oJ T (k+1) i o) (Qo K p mp en tv T L S F) (FK K p mp en tv T L S F)→av E n (.func 105) [.ptr p 0 0 0] h K=true:=by
 intro n h L S F i o K b hn A s H
 obtain⟨n,rfl⟩:∃m,n=m+1:=⟨n-1,by omega⟩
 have hmo:most=1099511627776:=rfl
 have hl:=s.len
 have hlim:=qH
 apply ah0
 unfold ZM
 refine OU A rfl fun pb h A=> ?_
 refine bT A rfl rfl rfl fun r h A=> ?_
 repeat with_reducible refine aG A.v2 rfl ?_
 refine bT A rfl rfl rfl fun l h A=> ?_
 repeat first |with_reducible refine aG A.v3 rfl ?_ |refine dU (kM.ptr _ _ _ _) ?_
 refine c50 (by omega) A s (aI rfl ?_)
 refine aG A.v3 rfl ?_;refine dU (kM.ptr _ _ _ _) ?_
 refine c51 (d:=0) (by omega) (by omega) A s fun h A=>aI rfl ?_
 rw[Nat.add_zero]
 obtain⟨x1,x2,ea⟩:=CP T i
 rw[ea]
 refine gL A rfl rfl rfl rfl fun h A=> ?_
 refine aB ?_;refine aG A.v1 rfl ?_;refine oO ?_
 rw[show decide (kdI T i=2)=eB T i 2 from Ld T i 2]
 unfold oJ at H
 cases k2:eB T i 2 with
 |true=>
  rw[if_pos k2] at H
  obtain⟨n1,n2,_⟩:=Vh s k2
  have hi:=qY k2
  refine bN ?_;refine aB ?_;refine aG A.v1 rfl ?_
  refine c56 (by omega) A b.gv n1 n2 ?_ ?_
  ·intro v ev
   rw[ev] at H
   refine aI rfl ?_
   unfold vO
   refine jl ?_;refine jh ?_;refine aG A.v3 rfl ?_;refine oU (show D6 h false .ifn .nilIf .nilIf=some (.bool true) from rfl) ?_
   refine Nr (by omega) A s (aZ fun h A s=>aI rfl ?_)
   refine aG A.v3 rfl ?_;refine dW ?_;refine aB ?_;refine aG A.var rfl ?_;refine lD (show i+1≤lim by omega) ?_;refine dW ?_;refine aB ?_
   refine BA A rfl rfl fun h A=> ?_
   refine dQ rfl ?_
   refine c107 (by omega) (fun h _=>RW.lit 2 false v []) A fun h c A=>aI rfl ?_
   unfold zN
   exact Jl A rfl A.f0 fun h A=>H (show(1:Nat)≤30 by decide) h c A.rest1 (s.step hi)
  ·intro ev h u w A
   rw[ev] at H
   refine aI rfl ?_
   unfold vO
   refine jl ?_;refine jh ?_;refine aG A.v3 rfl ?_;refine oU (show D6 h false .ifn (.ifc 151 w) .nilIf=some (.bool false) from rfl) ?_
   exact Nr (by omega) A s (FK.pz' (show FK K p mp en tv T L S F i from H).rest.rest.rest)
 |false=>
  rw[if_neg (by rw[k2];simp)] at H
  refine bC ?_;refine aB ?_;refine aG A.v1 rfl ?_;refine oO ?_
  rw[show decide (kdI T i=3)=eB T i 3 from Ld T i 3]
  cases k3:eB T i 3 with
  |true=>
   rw[if_pos k3] at H
   have hi:=qY k3
   refine bN ?_;refine aG A.v3 rfl ?_
   refine c53 (by omega) hi A s fun h A s=>aI rfl ?_
   unfold zM
   refine dQ rfl ?_
   refine c107 (by omega) (fun h _=>RW.lit 3 false 0 (txt T i)) A fun h c A=>aI rfl ?_
   unfold zo
   exact Jl A rfl A.f0 fun h A=>H (show(1:Nat)≤30 by decide) h c A.rest1 s
  |false=>
   rw[if_neg (by rw[k3];simp)] at H
   refine bC ?_;refine aG A.v3 rfl ?_
   refine c19 (by omega) (by decide) A s ?_
   unfold fq
   cases bt:cZ T i [116,114,117,101] with
   |true=>
    rw[if_pos bt] at H
    rw[if_pos rfl]
    refine aZ fun h A s=>aI rfl ?_
    refine bN ?_
    unfold xR
    refine bN ?_;refine aB ?_;refine aG A.v1 rfl ?_;refine BR ?_
    rw[Ui bt]
    refine dQ rfl ?_
    refine c107 (by omega) (fun h _=>RW.lit 1 true 0 []) A fun h c A=>aI rfl ?_
    unfold vL
    exact Jl A rfl A.f0 fun h A=>H (show(1:Nat)≤30 by decide) h c A.rest1 s
   |false=>
    rw[if_neg (by rw[bt];simp)] at H
    rw[if_neg (by simp)]
    refine aZ fun h A s=>aI rfl ?_
    refine bC ?_;refine aG A.v3 rfl ?_
    refine c19 (by omega) (by decide) A s ?_
    unfold fq
    cases bf:cZ T i [102,97,108,115,101] with
    |true=>
     rw[if_pos bf] at H
     rw[if_pos rfl]
     refine aZ fun h A s=>aI rfl ?_
     unfold xR
     refine bN ?_;refine aB ?_;refine aG A.v1 rfl ?_;refine BR ?_
     rw[Ui bf]
     refine dQ rfl ?_
     refine c107 (by omega) (fun h _=>RW.lit 1 false 0 []) A fun h c A=>aI rfl ?_
     unfold vL
     exact Jl A rfl A.f0 fun h A=>H (show(1:Nat)≤30 by decide) h c A.rest1 s
    |false=>
     rw[if_neg (by rw[bf];simp)] at H
     rw[if_neg (by simp)]
     refine aZ fun h A s=>aI rfl ?_
     unfold xR
     refine bC ?_;refine aG A.v3 rfl ?_
     refine c19 (by omega) (by decide) A s ?_
     unfold fq
     cases bn:cZ T i [110,117,108,108] with
     |true=>
      rw[if_pos bn] at H
      rw[if_pos rfl]
      refine aZ fun h A s=>aI rfl ?_
      refine bN (dQ rfl ?_)
      refine c107 (by omega) (fun h _=>RW.zero) A fun h c A=>aI rfl ?_
      unfold zC
      exact Jl A rfl A.f0 fun h A=>H (show(1:Nat)≤30 by decide) h c A.rest1 s
     |false=>
      rw[if_neg (by rw[bn];simp)] at H
      rw[if_neg (by simp)]
      refine aZ fun h A s=>aI rfl ?_
      refine bC ?_;refine aB ?_;refine aG A.v1 rfl ?_;refine oO ?_
      rw[show decide (kdI T i=1)=eB T i 1 from Ld T i 1]
      cases k1:eB T i 1 with
      |true=>
       rw[if_pos k1,aC] at H
       refine bN ?_;refine aG A.v3 rfl ?_
       refine c42 (by omega) A s (Post.mono H ?_ fun x f=>FK.pz' f.rest.rest.rest)
       intro t i o H h A s
       refine aI rfl ?_
       unfold zx
       refine dQ rfl (dQ rfl ?_)
       have A:=A.add (R:=fun h=>RB h (Zm 2 t++[.int .i64 1]) ⟨iT 2 t,1⟩) fun h _=>⟨Zm 2 t,rfl,RE.op 2 t⟩
       exact Jl (c:=Zm 2 t++[.int .i64 1]) A rfl A.f0 fun h A=>H (show(1:Nat)≤30 by decide) h _ A.rest1 s
      |false=>
       rw[if_neg (by rw[k1];simp)] at H
       refine bC ?_;refine aG A.v3 rfl ?_
       refine Uw (d:=0) (by omega) (by omega) (by decide) A s fun h A=>aI rfl ?_
       rw[Nat.add_zero]
       cases bp:cZ T i [40] with
       |true=>
        rw[if_pos bp,aC] at H
        refine bN ?_;refine aG A.v3 rfl ?_
        refine c32 (by omega) (by decide) A s (Post.mono H ?_ fun x f=>FK.pz' f.rest.rest.rest)
        intro u i o H h A s
        refine aI rfl ?_
        refine aG A.v3 rfl ?_
        rw[aC] at H
        refine W.level (lv:=0) (by omega) (by omega) A s (Post.mono H ?_ fun x f=>FK.pz' f.rest.rest.rest)
        intro v i o H hd h c A s
        refine aI rfl ?_
        obtain⟨w1,w2,w3⟩:=(A.f0:RB h c v).cells
        unfold z8
        refine bT A rfl rfl rfl fun e h A=> ?_
        refine gL A rfl w1 rfl w2 fun h A=> ?_
        refine aG A.v4 rfl ?_
        rw[aC] at H
        refine Y7 (by omega) (by decide) A s (Post.mono H ?_ fun x f=>FK.pz' f.rest.rest.rest.rest.drop)
        intro u i o H h A s
        refine aI rfl (iw A.v1 w1 ?_)
        exact Jl A.rest1 rfl A.f0 fun h A=>H hd h c A.rest1 s
       |false=>
        rw[if_neg (by rw[bp];simp)] at H
        refine bC ?_;refine aG A.v3 rfl ?_
        refine Uw (d:=0) (by omega) (by omega) (by decide) A s fun h A=>aI rfl ?_
        rw[Nat.add_zero]
        cases bq:cZ T i [91] with
        |true=>
         rw[if_pos bq,aC] at H
         refine bN ?_
         refine bT A rfl rfl rfl fun ab h A=> ?_
         refine aG A.v4 rfl ?_
         refine c32 (by omega) (by decide) A s (Post.mono H ?_ fun x f=>FK.pz' f.rest.rest.rest.rest)
         intro u i1 o1 H h A s
         refine aI rfl ?_
         refine aG A.v4 rfl ?_;refine aY ?_
         rw[aC] at H
         obtain⟨n,rfl⟩:∃m,n=m+1:=⟨n-1,by omega⟩
         have A:=(A.slc 9).tru (R:=fun h=>Ba h [] []) fun h=>rfl
         let L1:jf:=vr l [.int .i64 (kdI T i), .str (txt T i), .int .i64 x1, .int .i64 x2] :: vr r Z9 :: vr pb [.ptr p 0 0 0] :: L
         refine c40 (one:=fun l=>bnd (bD T k 0) fun b=>ret (l++[b])) (kk:=k) (s:=[])
          (C:=fun j acc L' S' F'=>∃va ea,L'=vr ab [va] :: L1∧S'=⟨va,9,ea⟩ :: S∧F'=(fun h=>Ba h ea acc) :: F∧acc.length+j≤k∧∀b∈acc,b.deep≤30)
          (D:=fun L' S' F'=>∃va ea R,L'=vr ab [va] :: L1∧S'=⟨va,9,ea⟩ :: S∧F'=R :: F)
          (fun{j s L S F} hC=>by obtain⟨_,_,_,_,rfl,_⟩:=hC;infer_instance)
          (fun{j s L S F} hC=>by obtain⟨va,ea,h1,h2,h3,_⟩:=hC;exact⟨va,ea,_,h1,h2,h3⟩)
          (by omega) (by decide) ?_ ⟨.nilSlc,[],rfl,rfl,rfl,by simp,by simp⟩ A s (Post.mono H ?_ ?_)
         ·intro j acc h L' S' F' i o K' hC A s H
          obtain⟨va,ea,rfl,rfl,rfl,hj,hdp⟩:=hC
          show av E n (.func 108) [.ptr ab 0 0 0, .ptr pb 0 0 0] h K'=true
          obtain⟨n,rfl⟩:∃m,n=m+1:=⟨n-1,by omega⟩
          apply aic
          unfold XV
          refine aG A.v1 rfl ?_;refine aG A.v4 rfl ?_
          rw[aC] at H
          have hlen:=(A.f0:Ba h ea acc).get.1
          refine W.level (lv:=0) (by omega) (by omega) A s (Post.mono H ?_ ?_)
          ·intro v i o H hd h c A s
           obtain⟨w1,w2,w3⟩:=(A.f0:RB h c v).cells
           refine aI rfl ?_
           have V:kM va:=A.view.kM
           refine aG A.v1 rfl ?_;refine dU V ?_
           refine kT A rfl rfl rfl rfl (gH w1 w2) rfl fun vb h A _=> ?_
           refine aG A.v1 rfl ?_;refine dU V ?_;refine aG A.v4 rfl ?_;refine dU (kM.ptr _ _ _ _) ?_
           refine qA A rfl A.f0.src ?_ ?_ fun va' h A _=> ?_
           ·simp;omega
           ·simp;omega
           refine gW A rfl A.leafS fun h A=> ?_
           have A:=A.dropF.imp2 (R:=fun h=>Ba h (ea++[c]) (acc++[v])) fun h R1 R2=>R2.app (Ba.one R1)
           refine H h _ _ _ ⟨va',ea++[c],rfl,rfl,rfl,by simp;omega, ?_⟩ A s
           intro b hb
           rcases List.mem_append.1 hb with hb |hb
           ·exact hdp b hb
           ·simp at hb;subst hb;exact hd
          ·intro x f h i o A
           exact f h i o _ _ _ ⟨va,ea,_,rfl,rfl,rfl⟩ A
         ·intro acc i o H h L' S' F' hC A s
          obtain⟨j,va,ea,rfl,rfl,rfl,hj,hdp⟩:=hC
          refine aI rfl (dQ rfl ?_)
          refine aG A.v1 rfl ?_
          have A:=A.freeze
          obtain⟨H1,H2⟩:=Dj H
          refine c93 (ea:=ea) (args:=acc) (by omega) (by omega) (by omega) (fun b hb=>by have:=hdp b hb;omega) (Knows.mem (by simp)) (fun h q=>q (fun h=>Ba h ea acc) (by simp)) A ?_ ?_
          ·intro hm h c A
           refine aI rfl ?_
           unfold Ag
           have A:=A.rest1
           exact Jl A rfl A.f0 fun h A=>H1 hm hm h c A.rest1.drop1.drop1 s
          ·intro hm h A
           exact H2 hm h i o A.dropF.dropF.rest1.rest1.rest1.rest1
         ·intro x f h i o L' S' F' hD A
          obtain⟨va,ea,R,rfl,rfl,rfl⟩:=hD
          exact f h i o A.freeze.dropF.dropF.rest1.rest1.rest1.rest1
        |false=>
         rw[if_neg (by rw[bq];simp)] at H
         refine bC ?_;refine aG A.v3 rfl ?_
         refine c19 (by omega) (by decide) A s ?_
         unfold fq
         cases bs:cZ T i [115,105,122,101] with
         |true=>
          rw[if_pos bs,aC] at H
          rw[if_pos rfl]
          refine aZ fun h A s=>aI rfl ?_
          refine bN ?_;refine aG A.v3 rfl ?_
          refine c32 (by omega) (by decide) A s (Post.mono H ?_ fun x f=>FK.pz' f.rest.rest.rest)
          intro u i1 o1 H h A s
          refine aI rfl ?_
          refine aG A.v3 rfl ?_
          rw[aC] at H
          refine W.level (lv:=0) (by omega) (by omega) A s (Post.mono H ?_ fun x f=>FK.pz' f.rest.rest.rest)
          intro v i1 o1 H hd h c A s
          refine aI rfl ?_
          obtain⟨w1,w2,w3⟩:=(A.f0:RB h c v).cells
          unfold Ac
          refine bT A rfl rfl rfl fun e h A=> ?_
          refine gL A rfl w1 rfl w2 fun h A=> ?_
          refine aG A.v4 rfl ?_
          rw[aC] at H
          refine Y7 (by omega) (by decide) A s (Post.mono H ?_ fun x f=>FK.pz' f.rest.rest.rest.rest.drop)
          intro u i1 o1 H h A s
          refine aI rfl (dQ rfl (iw A.v1 w1 ?_))
          refine kT A rfl rfl rfl rfl (gH w1 w2) rfl fun vb h A _=> ?_
          refine XR (c:=c) (by omega) hd (by simp) (Knows.mem (by simp)) A s (Post.mono H ?_ fun x f=>FK.pz' f.rest.rest.rest.rest.drop.drop)
          intro v2 i2 o2 H hd h c' A s
          refine aI rfl ?_
          unfold zY
          have A:=A.rest1
          exact Jl A rfl A.f0 fun h A=>H hd h c' A.rest1.drop1.drop1 s
         |false=>
          rw[if_neg (by rw[bs];simp)] at H
          rw[if_neg (by simp)]
          refine aZ fun h A s=>aI rfl ?_
          refine bC ?_;refine aG A.v3 rfl ?_
          refine c19 (by omega) (by decide) A s ?_
          unfold fq
          cases bh:cZ T i [104,97,115] with
          |true=>
           rw[if_pos bh,aC] at H
           rw[if_pos rfl]
           refine aZ fun h A s=>aI rfl ?_
           refine bN ?_;refine aG A.v3 rfl ?_
           refine c32 (by omega) (by decide) A s (Post.mono H ?_ fun x f=>FK.pz' f.rest.rest.rest)
           intro u i1 o1 H h A s
           refine aI rfl ?_
           refine aG A.v3 rfl ?_
           rw[aC] at H
           refine W.level (lv:=0) (by omega) (by omega) A s (Post.mono H ?_ fun x f=>FK.pz' f.rest.rest.rest)
           intro v i1 o1 H hd h c A s
           refine aI rfl ?_
           obtain⟨w1,w2,w3⟩:=(A.f0:RB h c v).cells
           unfold zW
           refine bT A rfl rfl rfl fun e h A=> ?_
           refine gL A rfl w1 rfl w2 fun h A=> ?_
           refine aG A.v4 rfl ?_
           rw[aC] at H
           refine jW (by omega) (by decide) A s (Post.mono H ?_ fun x f=>f.rest.rest.rest.rest.drop)
           intro u i1 o1 H h A s
           refine aG A.v4 rfl ?_
           rw[aC] at H
           refine W.level (lv:=0) (by omega) (by omega) A s (Post.mono H ?_ fun x f=>FK.pz' f.rest.rest.rest.rest.drop)
           intro v2 i1 o1 H hd2 h c2 A s
           refine aI rfl ?_
           obtain⟨y1,y2,y3⟩:=(A.f0:RB h c2 v2).cells
           unfold zT
           refine bT A rfl rfl rfl fun e2 h A=> ?_
           refine gL A rfl y1 rfl y2 fun h A=> ?_
           refine aG A.rest.v4 rfl ?_
           rw[aC] at H
           refine Y7 (by omega) (by decide) A s (Post.mono H ?_ fun x f=>FK.pz' f.rest.rest.rest.rest.rest.drop.drop)
           intro u i1 o1 H h A s
           refine aI rfl (dQ rfl (iw A.v2 w1 (iw A.v1 y1 ?_)))
           refine kT A rfl rfl rfl rfl (EN w1 w2 y1 y2) rfl fun vb h A _=> ?_
           refine ab2 (c:=c) (c':=c2) (by omega) hd hd2 (by simp) (by simp) (Knows.mem (by simp)) A s (Post.mono H ?_ fun x f=>FK.pz' f.rest.rest.rest.rest.rest.drop.drop.drop)
           intro v3 i2 o2 H hd h c' A s
           refine aI rfl ?_
           unfold zJ
           have A:=A.rest1.rest1
           exact Jl A rfl A.f0 fun h A=>H hd h c' A.rest1.drop1.drop1.drop1 s
          |false=>
           rw[if_neg (by rw[bh];simp),aC] at H
           rw[if_neg (by simp)]
           refine aZ fun h A s=>aI rfl ?_
           refine bC ?_;refine aG A.v3 rfl ?_
           refine c31 (by omega) A s (Post.mono H ?_ fun x f=>FK.pz' f.rest.rest.rest)
           intro t i o H h A s
           refine aI rfl ?_
           unfold wI
           refine dQ rfl (dQ rfl ?_)
           have A:=A.add (R:=fun h=>RB h (Zm 3 t++[.int .i64 1]) ⟨iT 3 t,1⟩) fun h _=>⟨Zm 3 t,rfl,RE.op 3 t⟩
           exact Jl (c:=Zm 3 t++[.int .i64 1]) A rfl A.f0 fun h A=>H (show(1:Nat)≤30 by decide) h _ A.rest1 s
theorem YO:∀k,k≤100000→WB tv p mp en T k
 |0,_=>⟨fun _ _ _ _ H=>absurd H (by unfold bD;exact fun q=>q),fun _ _ _ _ _ _ _ H=>absurd H (by unfold mQ;exact fun q=>q),fun _ _ _ H=>absurd H (by unfold iV;exact fun q=>q),
   fun _ _ _ H=>absurd H (by unfold qE;exact fun q=>q),fun _ _ _ _ _ _ H=>absurd H (by unfold oD;exact fun q=>q),fun _ _ _ H=>absurd H (by unfold oJ;exact fun q=>q)⟩
 |k+1,hk=>by
  have W:=YO k (by omega)
  exact⟨Q0 W,ZC W,Xt W,WT W,Xy W,Xf (by omega) W⟩
def OkE (K:au) (p mp en:Nat) (tv:AV) (T:List Lx) (L:jf) (S:List Sl) (F:List (ah→Prop)):Ex→Nat→Int→Prop:=fun v i o=>∀h c,Cx h (vr p (pc tv mp en i o) :: L) S ((fun h=>RE h c v) :: F)→dJ T en i o→K (.agg c) h=true
theorem c59 [b:BaseF tv mp T F] {k:Nat} (hk:k≤100000) (hn:4*k+41≤n) (A:Cx h (vr p (pc tv mp en i o) :: L) S F) (s:dJ T en i o)
 (H:Post (iM T k i o) (OkE K p mp en tv T L S F) (FK K p mp en tv T L S F)):av E n (.func 59) [.ptr p 0 0 0] h K=true:=by
 obtain⟨n,rfl⟩:∃m,n=m+1:=⟨n-1,by omega⟩
 apply d59
 unfold s59
 unfold iM at H
 rw[aC] at H
 refine bT A rfl rfl rfl fun r h A=> ?_
 refine(YO k hk).level (lv:=0) (by omega) (by omega) A s (Post.mono H ?_ fun x f=>FK.pz' f.rest)
 intro v i o H hd h c A s
 refine aI rfl ?_
 obtain⟨ce,rfl,R⟩:=(A.f0:RB h c v)
 obtain⟨w1,w2,w3⟩:=R.cells
 unfold Hr
 refine oU (v:= .agg ce) ?_ ?_
 ·simp only[JW,lY,cond_true,List.length_append,w1,List.length_cons,List.length_nil,List.drop_zero]
  rw[List.take_append_of_le_length (by omega),List.take_of_length_le (by omega)]
  rfl
 refine gL A rfl w1 rfl w2 fun h A=>vT A.v1 w1 ?_
 refine H h ce (A.rest1.imp fun h R=> ?_) s
 obtain⟨ce',e,R⟩:=R
 obtain⟨q1,_⟩:=List.append_inj' e rfl
 rw[q1];exact R
end
def qw (h:ah):List (List AV)→List (Str×Ex)→Prop
 |es,[]=>es=[]
 |es,g :: l=>∃ce r,es=(.str g.1 :: ce) :: r∧RE h ce g.2∧qw h r l
def nR (b:Str×Str):List AV:=[.str b.1, .str b.2]
mutual
def RC (h:ah):List AV→Cd→Prop
 |a, .mk kind var cls binds tests conds thn alts e fn name args=>∃vb vt et vc ec vn en va ea ce vg eg,a=[.int .i64 kind, .str var, .str cls,vb,vt,vc,vn,va]++(ce++[.str fn, .str name,vg])∧
   View h 2 vb (binds.map nR)∧View h 8 vt et∧oG h et tests∧View h 19 vc ec∧jY h ec conds∧View h 19 vn en∧jY h en thn∧View h 1 va ea∧jg h ea alts∧RE h ce e∧View h 9 vg eg∧qw h eg args
def jY (h:ah):List (List AV)→List Cd→Prop
 |es,[]=>es=[]
 |es,c :: l=>∃a r,es=a :: r∧RC h a c∧jY h r l
def jg (h:ah):List (List AV)→List (List Cd)→Prop
 |es,[]=>es=[]
 |es,l :: m=>∃v ec r,es=[v] :: r∧View h 19 v ec∧jY h ec l∧jg h r m
end
section
variable {h:ah} {L:jf} {S:List Sl} {F:List (ah→Prop)} {p mp en i n:Nat} {o:Int} {tv:AV} {T:List Lx} {K Q k:au}
@[reducible] def Fx:List AV:=[.int .i64 0, .str [], .str [], .nilSlc, .nilSlc, .nilSlc, .nilSlc, .nilSlc, .int .i64 0, .str [], .int .i64 0, .bool false, .int .i64 0, .str [], .nilSlc, .nilSlc, .str [], .str [], .nilSlc]
theorem qw.app {es es':List (List AV)} {l l':List (Str×Ex)} (R:qw h es l) (R':qw h es' l'):qw h (es++es') (l++l'):=by
 induction l generalizing es with
 |nil=>simp only[qw] at R;subst R;exact R'
 |cons b l ih=>
  simp only[qw] at R
  obtain⟨c,r,rfl,R1,R2⟩:=R
  exact⟨c,r++es',rfl,R1,ih R2⟩
theorem qw.one {c:List AV} {t:Str} {e:Ex} (R:RE h c e):qw h [.str t :: c] [(t,e)]:=⟨c,[],rfl,R,rfl⟩
theorem qw.len {es:List (List AV)} {l:List (Str×Ex)} (R:qw h es l):es.length=l.length:=by
 induction l generalizing es with
 |nil=>simp only[qw] at R;subst R;rfl
 |cons b l ih=>
  simp only[qw] at R
  obtain⟨c,r,rfl,R1,R2⟩:=R
  simp[ih R2]
theorem oG.app {es es':List (List AV)} {l l':List Ex} (R:oG h es l) (R':oG h es' l'):oG h (es++es') (l++l'):=by
 induction l generalizing es with
 |nil=>simp only[oG] at R;subst R;exact R'
 |cons b l ih=>
  simp only[oG] at R
  obtain⟨c,r,rfl,R1,R2⟩:=R
  simp only[List.cons_append,oG]
  exact⟨c,r++es',rfl,R1,ih R2⟩
theorem oG.one {c:List AV} {e:Ex} (R:RE h c e):oG h [c] [e]:=by simp only[oG];exact⟨c,[],rfl,R,rfl⟩
theorem oG.nil:oG h [] []:=by simp[oG]
theorem oG.len {es:List (List AV)} {l:List Ex} (R:oG h es l):es.length=l.length∧∀e∈es,e.length=8:=by
 induction l generalizing es with
 |nil=>simp only[oG] at R;subst R;simp
 |cons b l ih=>
  simp only[oG] at R
  obtain⟨c,r,rfl,R1,R2⟩:=R
  have:=ih R2
  refine⟨by simp[this.1],fun e he=> ?_⟩
  rcases List.mem_cons.1 he with rfl |he
  ·exact R1.cells.1
  ·exact this.2 e he
theorem jY.nil:jY h [] []:=by simp[jY]
theorem jg.nil:jg h [] []:=by simp[jg]
theorem jY.app {es es':List (List AV)} {l l':List Cd} (R:jY h es l) (R':jY h es' l'):jY h (es++es') (l++l'):=by
 induction l generalizing es with
 |nil=>simp only[jY] at R;subst R;exact R'
 |cons b l ih=>
  simp only[jY] at R
  obtain⟨c,r,rfl,R1,R2⟩:=R
  simp only[List.cons_append,jY]
  exact⟨c,r++es',rfl,R1,ih R2⟩
theorem jY.one {c:List AV} {e:Cd} (R:RC h c e):jY h [c] [e]:=by simp only[jY];exact⟨c,[],rfl,R,rfl⟩
theorem jY.len {es:List (List AV)} {l:List Cd} (R:jY h es l):es.length=l.length:=by
 induction l generalizing es with
 |nil=>simp only[jY] at R;subst R;rfl
 |cons b l ih=>
  simp only[jY] at R
  obtain⟨c,r,rfl,R1,R2⟩:=R
  simp[ih R2]
theorem jg.app {es es':List (List AV)} {l l':List (List Cd)} (R:jg h es l) (R':jg h es' l'):jg h (es++es') (l++l'):=by
 induction l generalizing es with
 |nil=>simp only[jg] at R;subst R;exact R'
 |cons b l ih=>
  simp only[jg] at R
  obtain⟨v,ec,r,rfl,R1,R2,R3⟩:=R
  simp only[List.cons_append,jg]
  exact⟨v,ec,r++es',rfl,R1,R2,ih R3⟩
theorem jg.one {v:AV} {ec:List (List AV)} {l:List Cd} (V:View h 19 v ec) (R:jY h ec l):jg h [[v]] [l]:=by simp only[jg];exact⟨v,ec,[],rfl,V,R,rfl⟩
theorem jg.len {es:List (List AV)} {l:List (List Cd)} (R:jg h es l):es.length=l.length:=by
 induction l generalizing es with
 |nil=>simp only[jg] at R;subst R;rfl
 |cons b l ih=>
  simp only[jg] at R
  obtain⟨v,ec,r,rfl,R1,R2,R3⟩:=R
  simp[ih R3]
theorem RC.cells {a:List AV} {c:Cd} (R:RC h a c):a.length=19∧aD a=true∧rQ a:=by
 obtain⟨kind,var,cls,binds,tests,conds,thn,alts,e,fn,name,args⟩:=c
 simp only[RC] at R
 obtain⟨vb,vt,et,vc,ec,vn,en,va,ea,ce,vg,eg,rfl,h1,h2, -,h3, -,h4, -,h5, -,h6,h7, -⟩:=R
 obtain⟨w1,w2,w3⟩:=h6.cells
 refine⟨by simp[w1], ?_, ?_⟩
 ·refine gG ?_ (gG w2 ?_)
  ·exact aJ rfl (aJ rfl (aJ rfl (aJ h1.leaf (aJ h2.leaf (aJ h3.leaf (aJ h4.leaf (aJ h5.leaf rfl)))))))
  ·exact aJ rfl (aJ rfl (aJ h7.leaf rfl))
 ·exact rQ.app (.cons (.int _ _) (.cons (.str _) (.cons (.str _) (.cons h1.kM (.cons h2.kM (.cons h3.kM (.cons h4.kM (.cons h5.kM .nil)))))))) (w3.app (.cons (.str _) (.cons (.str _) (.cons h7.kM .nil))))
theorem RC.put {kind:Int} {var cls fn name:Str} {binds:List (Str×Str)} {tests:List Ex} {conds thn:List Cd} {alts:List (List Cd)} {e:Ex} {args:List (Str×Ex)} {vb vt vc vn va vg:AV} {et ec ne ea eg:List (List AV)} {ce:List AV}
 (h1:View h 2 vb (binds.map nR)) (h2:View h 8 vt et) (r2:oG h et tests) (h3:View h 19 vc ec) (r3:jY h ec conds) (h4:View h 19 vn ne) (r4:jY h ne thn) (h5:View h 1 va ea) (r5:jg h ea alts) (r6:RE h ce e) (h7:View h 9 vg eg) (r7:qw h eg args):
 RC h ([.int .i64 kind, .str var, .str cls,vb,vt,vc,vn,va]++(ce++[.str fn, .str name,vg])) (.mk kind var cls binds tests conds thn alts e fn name args):=by
 simp only[RC]
 exact⟨vb,vt,et,vc,ec,vn,ne,va,ea,ce,vg,eg,rfl,h1,h2,r2,h3,r3,h4,r4,h5,r5,r6,h7,r7⟩
theorem RE.zero:RE h Z8 uJ:=RE.op 0 []
def Qz (K:au) (p mp en:Nat) (tv:AV) (T:List Lx) (L:jf) (S:List Sl) (F:List (ah→Prop)):Cd→Nat→Int→Prop:=fun v i o=>∀h c,Cx h (vr p (pc tv mp en i o) :: L) S ((fun h=>RC h c v) :: F)→dJ T en i o→K (.agg c) h=true
theorem vR {e1:Nat×fB} {r:Nat} {c c0:List AV} {v:Cd} {F':List (ah→Prop)} (A:Cx h (e1 :: vr r c0 :: L) S F') (h0:c0.length=19) (R:RC h c v) (s:∀h,Cx h (e1 :: L) S F'→K (.agg c) h=true):
 (aN h 19 (.ptr r 0 0 0) (.agg c) fun h=>gq (fG h [(.ptr r 0 0 0,some (true,19))]) h K)=true:=by
 obtain⟨w1,w2,_⟩:=R.cells
 exact gL A rfl w1 h0 w2 fun h A=>vT A.v1 w1 (s h A.rest1)
theorem ab3 {z:List AV} {off n:Nat} {v:AV} (h1:v.cells.length=n) (h2:Nat.ble (off+n) z.length=true) (h3:aD v.cells=true):oP z [(off,n,v)]=some (lay z off v.cells):=by
 simp only[oP,h1,aH.2 rfl,h2,h3,Bool.and_self,cond_true]
theorem len8 {l:List AV} (h:l.length=8):∃a b c d e f g k,l=[a,b,c,d,e,f,g,k]:=by
 match l,h with
 | [a,b,c,d,e,f,g,k],_=>exact⟨a,b,c,d,e,f,g,k,rfl⟩
@[reducible] def Nc (nm:Str) (vg:AV):List AV:=[.int .i64 9, .str [], .str [], .nilSlc, .nilSlc, .nilSlc, .nilSlc, .nilSlc, .int .i64 0, .str [], .int .i64 0, .bool false, .int .i64 0, .str [], .nilSlc, .nilSlc, .str [], .str nm,vg]
theorem c90 {kk:Nat} (hk:kk≤100000) (hn:4*kk+60≤n) [b:BaseF tv mp T F] {pb c r:Nat} {nm:Str} {vg:AV} {eg:List (List AV)} {acc:List (Str×Ex)} (hacc:acc.length≤100000)
 (A:Cx h (vr p (pc tv mp en i o) :: vr c (Nc nm vg) :: vr r Fx :: vr pb [.ptr p 0 0 0] :: L) (⟨vg,9,eg⟩ :: S) ((fun h=>qw h eg acc) :: F)) (s:dJ T en i o)
 (H:Post (rW T kk acc i o)
   (fun acc' i o=>acc'.length=acc.length+1→∀h vg eg,Cx h (vr p (pc tv mp en i o) :: vr c (Nc nm vg) :: vr r Fx :: vr pb [.ptr p 0 0 0] :: L) (⟨vg,9,eg⟩ :: S) ((fun h=>qw h eg acc') :: F)→dJ T en i o→K (.tup []) h=true)
   (fun x=>∀h i o vg eg R,Cx h (vr p (pc tv mp en i o) :: vr c (Nc nm vg) :: vr r Fx :: vr pb [.ptr p 0 0 0] :: L) (⟨vg,9,eg⟩ :: S) (R :: F)→K (flt T en x) h=true)):
 av E n (.func 90) [.ptr pb 0 0 0, .ptr c 0 0 0] h K=true:=by
 obtain⟨n,rfl⟩:∃m,n=m+1:=⟨n-1,by omega⟩
 have hmo:most=1099511627776:=rfl
 apply d90
 unfold s90
 refine aG A.v3 rfl ?_
 refine c55 (k:=1) (by omega) A s fun h A=>aI rfl ?_
 unfold Gl
 unfold rW at H
 have hlen:=(A.f0:qw h eg acc).len
 have expr:∀{h},Cx h (vr p (pc tv mp en i o) :: vr c (Nc nm vg) :: vr r Fx :: vr pb [.ptr p 0 0 0] :: L) (⟨vg,9,eg⟩ :: S) ((fun h=>qw h eg acc) :: F)→
  Post (bnd (iM T kk) (fun e=>ret (acc++[([],e)])) i o) (fun acc' i o=>acc'.length=acc.length+1→∀h vg eg,Cx h (vr p (pc tv mp en i o) :: vr c (Nc nm vg) :: vr r Fx :: vr pb [.ptr p 0 0 0] :: L) (⟨vg,9,eg⟩ :: S) ((fun h=>qw h eg acc') :: F)→dJ T en i o→K (.tup []) h=true)
   (fun x=>∀h i o vg eg R,Cx h (vr p (pc tv mp en i o) :: vr c (Nc nm vg) :: vr r Fx :: vr pb [.ptr p 0 0 0] :: L) (⟨vg,9,eg⟩ :: S) (R :: F)→K (flt T en x) h=true)→
  (av E n (.func 59) [.ptr p 0 0 0] h <| pz K fun v21 h=>ay h (.ptr c 0 0 18) <| dN vg <| dK [.str [], .int .i64 0, .str [], .int .i64 0, .bool false, .int .i64 0, .str [], .nilSlc, .nilSlc] [(1,8,v21)] fun v22=>aW (bG h 1 9 [.str [], .int .i64 0, .str [], .int .i64 0, .bool false, .int .i64 0, .str [], .nilSlc, .nilSlc] [(0,v22)]) fun v23 h=>ay h (.ptr c 0 0 18) <| dN vg <| ay h (.ptr pb 0 0 0) <| dN (.ptr p 0 0 0) <| pV h 9 128 vg v23 fun v24 h=>aA 18 (.ptr c 0 0 0) fun v25=>bJ h v25 v24 fun h=>K (.tup []) h)=true:=by
  intro h A H
  have V:kM vg:=A.view.kM
  rw[aC] at H
  refine c59 hk (by omega) A s (Post.mono H ?_ ?_)
  ·intro e i o H h ce A s
   obtain⟨w1,w2,w3⟩:=(A.f0:RE h ce e).cells
   refine aI rfl ?_
   refine aG A.v1 rfl ?_;refine dU V ?_
   refine dQ (ab3 w1 rfl w2) ?_
   have e1:lay [AV.str [], .int .i64 0, .str [], .int .i64 0, .bool false, .int .i64 0, .str [], .nilSlc, .nilSlc] 1 (AV.agg ce).cells= .str [] :: ce:=by
    obtain⟨_,_,_,_,_,_,_,_,rfl⟩:=len8 w1;rfl
   rw[e1]
   refine kT A rfl rfl rfl rfl (gH (by simp[w1]) (aJ rfl w2)) rfl fun vb h A _=> ?_
   refine aG A.v1 rfl ?_;refine dU V ?_;refine aG A.v3 rfl ?_;refine dU (kM.ptr _ _ _ _) ?_
   refine qA A rfl A.f0.src ?_ ?_ fun vg' h A _=> ?_
   ·simp;omega
   ·simp;omega
   refine aB ?_
   refine gW A rfl A.leafS fun h A=> ?_
   have A:=A.dropF.imp2 (R:=fun h=>qw h (eg++[.str [] :: ce]) (acc++[([],e)])) fun h R1 R2=>R2.app (qw.one R1)
   exact H (by simp) h vg' _ A s
  ·intro x f h i o A
   exact f h i o _ _ _ A
 cases e1:eB T i 1 with
 |false=>
  rw[e1,Bool.false_and,if_neg (by simp)] at H
  refine fH ?_;refine qy ?_
  unfold BH
  refine eG ?_;refine bC ?_;refine aB ?_;refine aG A.v1 rfl ?_;refine aG A.v3 rfl ?_
  exact expr A H
 |true=>
  refine bH ?_;refine aG A.v3 rfl ?_;refine dR ?_
  refine Uw (d:=1) (by omega) (by omega) (by decide) A s fun h A=>aI rfl ?_
  unfold BH
  cases e2:cZ T (i+1) [63] with
  |false=>
   rw[e1,e2,if_neg (by simp)] at H
   refine dV ?_;refine bC ?_;refine aB ?_;refine aG A.v1 rfl ?_;refine aG A.v3 rfl ?_
   exact expr A H
  |true=>
   rw[e1,e2,if_pos (by simp),aC] at H
   have V:kM vg:=A.view.kM
   refine dV ?_;refine bN ?_;refine aB ?_;refine aG A.v1 rfl ?_;refine aG A.v3 rfl ?_
   refine c42 (by omega) A s (Post.mono H ?_ ?_)
   ·intro v i o H h A s
    refine aI rfl ?_
    refine aG A.v1 rfl ?_;refine dU V ?_
    refine dQ rfl ?_
    refine kT A rfl rfl rfl rfl rfl rfl fun vb h A _=> ?_
    refine aG A.v1 rfl ?_;refine dU V ?_;refine aG A.v3 rfl ?_;refine dU (kM.ptr _ _ _ _) ?_
    refine qA A rfl A.f0.src ?_ ?_ fun vg' h A _=> ?_
    ·show(eg.length+1)*128≤most;omega
    ·show eg.length+1≤most;omega
    refine aB ?_
    refine gW A rfl A.leafS fun h A=> ?_
    have A:=A.dropF.imp (R:=fun h=>qw h (eg++[.str v :: Z8]) (acc++[(v,uJ)])) fun h R2=>R2.app (qw.one RE.zero)
    refine aG A.v3 rfl ?_
    rw[aC] at H
    refine jW (by omega) (by decide) A s (Post.mono H ?_ ?_)
    ·intro u i o H h A s
     exact H (by simp) h vg' _ A s
    ·intro x f h i o A
     exact f h i o _ _ _ A
   ·intro x f h i o A
    exact f h i o _ _ _ A
theorem c76 {kk:Nat} (hk:kk≤100000) (hn:4*kk+70≤n) [b:BaseF tv mp T F] (A:Cx h (vr p (pc tv mp en i o) :: L) S F) (s:dJ T en i o)
 (H:Post (Y4 T kk i o) (Qz K p mp en tv T L S F) (FK K p mp en tv T L S F)):av E n (.func 76) [.ptr p 0 0 0] h K=true:=by
 obtain⟨n,rfl⟩:∃m,n=m+1:=⟨n-1,by omega⟩
 apply d76
 unfold s76
 refine OU A rfl fun pb h A=> ?_
 refine bT A rfl rfl rfl fun r h A=> ?_
 refine aG A.v2 rfl ?_
 unfold Y4 at H
 rw[aC] at H
 refine c31 (by omega) A s (Post.mono H ?_ fun x f=>FK.pz' f.rest.rest)
 intro nm i o H h A s
 refine aI rfl ?_
 unfold Gt
 refine dQ rfl ?_
 refine bT A rfl rfl rfl fun c h A=> ?_
 refine gL A rfl rfl rfl rfl fun h A=> ?_
 refine aG A.v3 rfl ?_
 rw[aC] at H
 refine c32 (by omega) (by decide) A s (Post.mono H ?_ fun x f=>FK.pz' f.rest.rest.rest)
 intro u i o H h A s
 refine aI rfl ?_
 refine aG A.v3 rfl ?_;refine aY ?_
 rw[aC] at H
 obtain⟨n,rfl⟩:∃m,n=m+1:=⟨n-1,by omega⟩
 have A:=(A.slc 9).tru (R:=fun h=>qw h [] []) fun h=>rfl
 refine c40 (one:=rW T kk) (kk:=kk) (s:=[])
  (C:=fun j acc L' S' F'=>∃vg eg,L'=vr c (Nc nm vg) :: vr r Fx :: vr pb [.ptr p 0 0 0] :: L∧S'=⟨vg,9,eg⟩ :: S∧F'=(fun h=>qw h eg acc) :: F∧acc.length+j≤kk)
  (D:=fun L' S' F'=>∃vg eg R,L'=vr c (Nc nm vg) :: vr r Fx :: vr pb [.ptr p 0 0 0] :: L∧S'=⟨vg,9,eg⟩ :: S∧F'=R :: F)
  (fun{j s L S F} hC=>by obtain⟨_,_,_,_,rfl,_⟩:=hC;infer_instance)
  (fun{j s L S F} hC=>by obtain⟨vg,eg,h1,h2,h3,_⟩:=hC;exact⟨vg,eg,_,h1,h2,h3⟩)
  (by omega) (by decide) ?_ ⟨.nilSlc,[],rfl,rfl,rfl,by simp⟩ A s (Post.mono H ?_ ?_)
 ·intro j acc h L' S' F' i o K' hC A s H
  obtain⟨vg,eg,rfl,rfl,rfl,hj⟩:=hC
  show av E n (.func 90) [.ptr pb 0 0 0, .ptr c 0 0 0] h K'=true
  refine c90 hk (by omega) (by omega) A s (Post.mono H ?_ ?_)
  ·intro acc' i o H hl h vg eg A s
   exact H h _ _ _ ⟨vg,eg,rfl,rfl,rfl,by omega⟩ A s
  ·intro x f h i o vg eg R A
   exact f h i o _ _ _ ⟨vg,eg,R,rfl,rfl,rfl⟩ A
 ·intro acc i o H h L' S' F' hC A s
  obtain⟨j,vg,eg,rfl,rfl,rfl,hj⟩:=hC
  refine aI rfl (iw A.v1 rfl ?_)
  have A:=A.freeze
  have A:=A.rest1.imp2 (R:=fun h=>RC h (Nc nm vg) (.mk 9 [] [] [] [] [] [] [] uJ [] nm acc)) fun h V R=>
   RC.put (ce:=Z8) (View.nil h 2) (View.nil h 8) oG.nil (View.nil h 19) jY.nil (View.nil h 19) jY.nil (View.nil h 1) jg.nil RE.zero V R
  exact vR A rfl A.f0 fun h A=>H h _ A.rest1 s
 ·intro x f h i o L' S' F' hD A
  obtain⟨vg,eg,R,rfl,rfl,rfl⟩:=hD
  exact f h i o A.freeze.dropF.dropF.rest1.rest1.rest1
end
section
variable {h:ah} {L:jf} {S:List Sl} {F:List (ah→Prop)} {p mp en i n:Nat} {o:Int} {tv:AV} {T:List Lx} {K Q k:au}
@[reducible] def I8 (v cl:Str) (vb vt:AV):List AV:=[.int .i64 1, .str v, .str cl,vb,vt, .nilSlc, .nilSlc, .nilSlc, .int .i64 0, .str [], .int .i64 0, .bool false, .int .i64 0, .str [], .nilSlc, .nilSlc, .str [], .str [], .nilSlc]
theorem c91 {kk:Nat} (hk:kk≤100000) (hn:4*kk+60≤n) [b:BaseF tv mp T F] {pb c r:Nat} {w cl:Str} {vb vt:AV} {et:List (List AV)} {bs:List (Str×Str)} {ts:List Ex} (hacc:bs.length+ts.length≤100000)
 (A:Cx h (vr p (pc tv mp en i o) :: vr c (I8 w cl vb vt) :: vr r Fx :: vr pb [.ptr p 0 0 0] :: L) (⟨vb,2,bs.map nR⟩ :: ⟨vt,8,et⟩ :: S) ((fun h=>oG h et ts) :: F)) (s:dJ T en i o)
 (H:Post (o7 T kk (bs,ts) i o)
   (fun s' i o=>s'.1.length+s'.2.length=bs.length+ts.length+1→∀h vb vt et,Cx h (vr p (pc tv mp en i o) :: vr c (I8 w cl vb vt) :: vr r Fx :: vr pb [.ptr p 0 0 0] :: L) (⟨vb,2,s'.1.map nR⟩ :: ⟨vt,8,et⟩ :: S) ((fun h=>oG h et s'.2) :: F)→dJ T en i o→K (.tup []) h=true)
   (fun x=>∀h i o vb vt et R,Cx h (vr p (pc tv mp en i o) :: vr c (I8 w cl vb vt) :: vr r Fx :: vr pb [.ptr p 0 0 0] :: L) (⟨vb,2,bs.map nR⟩ :: ⟨vt,8,et⟩ :: S) (R :: F)→K (flt T en x) h=true)):
 av E n (.func 91) [.ptr pb 0 0 0, .ptr c 0 0 0] h K=true:=by
 obtain⟨n,rfl⟩:∃m,n=m+1:=⟨n-1,by omega⟩
 have hmo:most=1099511627776:=rfl
 have hlim:=qH
 apply d91
 unfold s91
 refine aG A.v3 rfl ?_
 refine c55 (k:=1) (by omega) A s fun h A=>aI rfl ?_
 unfold Gv
 unfold o7 at H
 have hlen:=(A.f0:oG h et ts).len
 have expr:∀{h},Cx h (vr p (pc tv mp en i o) :: vr c (I8 w cl vb vt) :: vr r Fx :: vr pb [.ptr p 0 0 0] :: L) (⟨vb,2,bs.map nR⟩ :: ⟨vt,8,et⟩ :: S) ((fun h=>oG h et ts) :: F)→
  Post (bnd (iM T kk) (fun e=>ret (bs,ts++[e])) i o)
  (fun s' i o=>s'.1.length+s'.2.length=bs.length+ts.length+1→∀h vb vt et,Cx h (vr p (pc tv mp en i o) :: vr c (I8 w cl vb vt) :: vr r Fx :: vr pb [.ptr p 0 0 0] :: L) (⟨vb,2,s'.1.map nR⟩ :: ⟨vt,8,et⟩ :: S) ((fun h=>oG h et s'.2) :: F)→dJ T en i o→K (.tup []) h=true)
  (fun x=>∀h i o vb vt et R,Cx h (vr p (pc tv mp en i o) :: vr c (I8 w cl vb vt) :: vr r Fx :: vr pb [.ptr p 0 0 0] :: L) (⟨vb,2,bs.map nR⟩ :: ⟨vt,8,et⟩ :: S) (R :: F)→K (flt T en x) h=true)→
  (gu vt fun v23=>aW (bG h 1 8 [.int .i64 0, .str [], .int .i64 0, .bool false, .int .i64 0, .str [], .nilSlc, .nilSlc] [(0,(.agg [.int .i64 0, .str [], .int .i64 0, .bool false, .int .i64 0, .str [], .nilSlc, .nilSlc]))]) fun v24 h=>ay h (.ptr c 0 0 4) <| dN vt <| ay h (.ptr pb 0 0 0) <| dN (.ptr p 0 0 0) <| gu vt <| dN v23 <| av E n (.func 59) [.ptr p 0 0 0] h <| pz (sP [v24] K) fun v25 h=>ay h (.ptr c 0 0 4) <| dN vt <| gu vt <| dN v23 <| pV h 8 112 vt v24 fun v26 h=>dX h 8 v26 v23 fun v27=>aA 4 (.ptr c 0 0 0) fun v28=>aW (bif qm v27 v28 then unit (bW h 8 v27 v25) else none) fun _ h=>bJ h v28 v26 fun h=>dX h 8 v26 v23 <| dN v27 <| K (.tup []) h)=true:=by
  intro h A H
  have V:kM vt:=A.swapS.view.kM
  refine fD A.swapS.view ?_
  refine DC (es:=[Z8]) A rfl rfl rfl rfl rfl rfl fun q h A=> ?_
  refine aG A.v2 rfl (dU V ?_)
  refine aG A.v4 rfl (dU (kM.ptr _ _ _ _) ?_)
  refine fD A.swapS.view (dU (kM.int _ _) ?_)
  rw[aC] at H
  refine c59 hk (by omega) A s (Post.mono H ?_ ?_)
  ·intro e i o H h ce A s
   obtain⟨w1,w2,w3⟩:=(A.f0:RE h ce e).cells
   refine aI rfl (aG A.v2 rfl (dU V ?_))
   refine fD A.swapS.view (dU (kM.int _ _) ?_)
   have A:=A.swapS
   refine qA A rfl A.rowL.src ?_ ?_ fun vt' h A _=> ?_
   ·show(et.length+1)*112≤most;omega
   ·show et.length+1≤most;omega
   have A:=A.rest1
   have hall:∀e∈et++[Z8],e.length=8:=by
    intro e he
    rcases List.mem_append.1 he with he |he
    ·exact hlen.2 e he
    ·simp at he;subst he;rfl
   obtain⟨id,g,hv,ia,hne,st⟩:=A.elem (j:=et.length) (by simp) hall
   refine wm (ia _) (aB ?_)
   obtain⟨h',e1,A',ia'⟩:=st ce w1 w2
   have hap:qm (.ptr id g et.length 0) (.ptr c 0 0 (0+4))=true:=by
    have:=hne (vr c (I8 w cl vb vt)) (by simp)
    simp only[qm,Bool.not_eq_true',bZ]
    exact fun q=>this q.symm
   rw[hap,cond_true,e1]
   show bJ h' _ _ _=true
   rw[show(et++[Z8]).set et.length ce=et++[ce] from by simp] at A'
   refine gW A' rfl A'.leafS fun h A=> ?_
   have hall:∀e∈et++[ce],e.length=8:=by
    intro e he
    rcases List.mem_append.1 he with he |he
    ·exact hlen.2 e he
    ·simp at he;subst he;exact w1
   obtain⟨id2,g2,hv2,ia2,_⟩:=A.elem (j:=et.length) (by simp) hall
   rw[hv2] at hv
   obtain⟨q1,q2,_⟩:=AV.slc.inj hv
   subst q1;subst q2
   refine wm (ia2 _) (dU (kM.ptr _ _ _ _) ?_)
   have A:=A.swapS.imp2 (R:=fun h=>oG h (et++[ce]) (ts++[e])) fun h R1 R2=>R2.app (oG.one R1)
   exact H (by simp;omega) h vb _ _ A s
  ·intro x f
   refine FK.pz' fun h i o A=>vP rfl rfl A fun h A=> ?_
   exact f h i o _ _ _ _ A
 cases e1:eB T i 1 with
 |false=>
  rw[e1,Bool.false_and,if_neg (by simp)] at H
  refine fH ?_;refine qy ?_
  unfold Bh
  refine eG ?_;refine bC ?_;refine aB ?_;refine aG A.v1 rfl ?_;refine aG A.v3 rfl ?_
  exact expr A H
 |true=>
  refine bH ?_;refine aG A.v3 rfl ?_;refine dR ?_
  refine Uw (d:=1) (by omega) (by omega) (by decide) A s fun h A=>aI rfl ?_
  unfold Bh
  cases e2:cZ T (i+1) [58] with
  |false=>
   rw[e1,e2,if_neg (by simp)] at H
   refine dV ?_;refine bC ?_;refine aB ?_;refine aG A.v1 rfl ?_;refine aG A.v3 rfl ?_
   exact expr A H
  |true=>
   rw[e1,e2,if_pos (by simp),aC] at H
   have V:kM vb:=A.view.kM
   refine dV ?_;refine bN ?_;refine aG A.v3 rfl ?_
   refine c42 (by omega) A s (Post.mono H ?_ ?_)
   ·intro v i o H h A s
    refine aI rfl ?_
    refine aG A.v3 rfl ?_
    rw[aC] at H
    refine jW (by omega) (by decide) A s (Post.mono H ?_ ?_)
    ·intro u i o H h A s
     refine aB ?_;refine aG A.v1 rfl ?_;refine aG A.v3 rfl ?_
     rw[aC] at H
     refine c31 (by omega) A s (Post.mono H ?_ ?_)
     ·intro f i o H h A s
      refine aI rfl ?_
      refine aG A.v1 rfl ?_;refine dU V ?_
      refine dQ rfl ?_
      refine kT A rfl rfl rfl rfl rfl rfl fun vq h A _=> ?_
      refine aG A.v1 rfl ?_;refine dU V ?_;refine aG A.v3 rfl ?_;refine dU (kM.ptr _ _ _ _) ?_
      refine qA A rfl A.f0.src ?_ ?_ fun vb' h A _=> ?_
      ·show((bs.map nR).length+1)*32≤most;rw[List.length_map];omega
      ·show(bs.map nR).length+1≤most;rw[List.length_map];omega
      refine aB ?_
      refine gW A rfl A.leafS fun h A=> ?_
      refine H (by simp;omega) h vb' vt et ?_ s
      rw[show(bs++[(v,f)]).map nR=bs.map nR++[[.str v, .str f]] from by simp[nR]]
      exact A.dropF
     ·intro x f h i o A
      exact f h i o _ _ _ _ A
    ·intro x f h i o A
     exact f h i o _ _ _ _ A
   ·intro x f h i o A
    exact f h i o _ _ _ _ A
theorem Ij {kk:Nat} (hk:kk≤100000) (hn:4*kk+65≤n) [b:BaseF tv mp T F] {pb c r:Nat} {w:Str} (A:Cx h (vr p (pc tv mp en i o) :: vr c (I8 w [] .nilSlc .nilSlc) :: vr r Fx :: vr pb [.ptr p 0 0 0] :: L) S F) (s:dJ T en i o)
 (H:Post (mE T kk w i o) (Qz K p mp en tv T L S F) (FK K p mp en tv T L S F)):Jp (av E n) n (.ptr pb 0 0 0) (.ptr r 0 0 0) (.ptr c 0 0 0) h K=true:=by
 unfold Jp
 refine aG A.v3 rfl ?_
 unfold mE at H
 rw[aC] at H
 refine c31 (by omega) A s (Post.mono H ?_ fun x f=>FK.pz' f.rest.rest.rest)
 intro cl i o H h A s
 refine aI rfl ?_
 unfold CQ
 refine aB ?_
 refine gW A rfl rfl fun h A=> ?_
 refine aG A.v3 rfl ?_
 rw[aC] at H
 refine c32 (by omega) (by decide) A s (Post.mono H ?_ fun x f=>FK.pz' f.rest.rest.rest)
 intro u i o H h A s
 refine aI rfl ?_
 refine aG A.v3 rfl ?_;refine aY ?_
 rw[aC] at H
 obtain⟨n,rfl⟩:∃m,n=m+1:=⟨n-1,by omega⟩
 have A:=((A.slc 8).slc 2).tru (R:=fun h=>oG h [] []) fun h=>oG.nil
 refine c40 (one:=o7 T kk) (kk:=kk) (s:=([],[]))
  (C:=fun j st L' S' F'=>∃vb vt et,L'=vr c (I8 w cl vb vt) :: vr r Fx :: vr pb [.ptr p 0 0 0] :: L∧S'=⟨vb,2,st.1.map nR⟩ :: ⟨vt,8,et⟩ :: S∧F'=(fun h=>oG h et st.2) :: F∧st.1.length+st.2.length+j≤kk)
  (D:=fun L' S' F'=>∃(vb vt:AV) (et:List (List AV)) (bs:List (Str×Str)) (R:ah→Prop),L'=vr c (I8 w cl vb vt) :: vr r Fx :: vr pb [.ptr p 0 0 0] :: L∧S'=⟨vb,2,bs.map nR⟩ :: ⟨vt,8,et⟩ :: S∧F'=R :: F)
  (fun{j s L S F} hC=>by obtain⟨_,_,_,_,_,rfl,_⟩:=hC;infer_instance)
  (fun{j s L S F} hC=>by obtain⟨vb,vt,et,h1,h2,h3,_⟩:=hC;exact⟨vb,vt,et,_,_,h1,h2,h3⟩)
  (by omega) (by decide) ?_ ⟨.nilSlc, .nilSlc,[],rfl,rfl,rfl,by simp⟩ A s (Post.mono H ?_ ?_)
 ·intro j st h L' S' F' i o K' hC A s H
  obtain⟨vb,vt,et,rfl,rfl,rfl,hj⟩:=hC
  obtain⟨bs,ts⟩:=st
  simp only at hj
  show av E n (.func 91) [.ptr pb 0 0 0, .ptr c 0 0 0] h K'=true
  have hj':bs.length+ts.length+(j+1)≤kk:=hj
  refine c91 (bs:=bs) (ts:=ts) hk (by omega) (by omega) A s (Post.mono H ?_ ?_)
  ·intro s' i o H hl h vb vt et A s
   exact H h _ _ _ ⟨vb,vt,et,rfl,rfl,rfl,by omega⟩ A s
  ·intro x f h i o vb vt et R A
   exact f h i o _ _ _ ⟨vb,vt,et,bs,R,rfl,rfl,rfl⟩ A
 ·intro st i o H h L' S' F' hC A s
  obtain⟨j,vb,vt,et,rfl,rfl,rfl,hj⟩:=hC
  refine aI rfl (iw A.v1 rfl ?_)
  have A:=A.freeze.freeze
  have A:=A.rest1.imp3 (R:=fun h=>RC h (I8 w cl vb vt) (.mk 1 w cl st.1 st.2 [] [] [] uJ [] [] [])) fun h V1 V2 R=>
   RC.put (ce:=Z8) V2 V1 R (View.nil h 19) jY.nil (View.nil h 19) jY.nil (View.nil h 1) jg.nil RE.zero (View.nil h 9) rfl
  exact vR A rfl A.f0 fun h A=>H h _ A.rest1 s
 ·intro x f h i o L' S' F' hD A
  obtain⟨vb,vt,et,bs,R,rfl,rfl,rfl⟩:=hD
  exact f h i o A.freeze.freeze.dropF.dropF.dropF.rest1.rest1.rest1
theorem c77 {kk:Nat} (hk:kk≤100000) (hn:4*kk+70≤n) [b:BaseF tv mp T F] (A:Cx h (vr p (pc tv mp en i o) :: L) S F) (s:dJ T en i o)
 (H:Post (Q5 T kk i o) (Qz K p mp en tv T L S F) (FK K p mp en tv T L S F)):av E n (.func 77) [.ptr p 0 0 0] h K=true:=by
 obtain⟨n,rfl⟩:∃m,n=m+1:=⟨n-1,by omega⟩
 apply d77
 unfold s77
 refine OU A rfl fun pb h A=> ?_
 refine bT A rfl rfl rfl fun r h A=> ?_
 refine dQ rfl ?_
 refine bT A rfl rfl rfl fun c h A=> ?_
 refine gL A rfl rfl rfl rfl fun h A=> ?_
 refine aG A.v3 rfl ?_
 refine c55 (k:=1) (by omega) A s fun h A=>aI rfl ?_
 unfold Q5 at H
 cases e1:eB T i 1 with
 |false=>
  rw[if_neg (by rw[e1];simp)] at H
  refine bC ?_
  exact Ij hk (by omega) A s H
 |true=>
  rw[if_pos e1,aC] at H
  refine bN ?_;refine aG A.v3 rfl ?_
  refine c42 (by omega) A s (Post.mono H ?_ fun x f=>FK.pz' f.rest.rest.rest)
  intro v i o H h A s
  refine aI rfl ?_
  unfold Ec
  refine aB ?_
  refine gW A rfl rfl fun h A=> ?_
  refine aG A.v3 rfl ?_
  rw[aC] at H
  refine jW (by omega) (by decide) A s (Post.mono H ?_ fun x f=>f.rest.rest.rest)
  intro u i o H h A s
  exact Ij hk (by omega) A s H
end
section
variable {h:ah} {L:jf} {S:List Sl} {F:List (ah→Prop)} {p mp en i n:Nat} {o:Int} {tv:AV} {T:List Lx} {K Q k:au}
theorem CG {v:AV} {m:Nat} {es:List (List AV)} (V:View h m v es):iQ v=none:=by
 rcases V with⟨_,rfl |rfl⟩|⟨_,_,_,_,_,_,rfl,_⟩<;>rfl
theorem uF {z:List AV} {off:Nat} {v:AV} {ps:List (Nat×Nat×AV)} (h:v.leaf=true) (hl:Nat.blt off z.length=true):oP z ((off,1,v) :: ps)=oP (z.set off v) ps:=by
 have hl:=bg.1 hl
 have hc:=oW h
 simp only[oP,hc,aD,h,List.length_cons,List.length_nil,cond_true,aK.2 (show off+1≤z.length by omega),show Nat.beq (0+1) 1=true from rfl,Bool.and_self,TW hl]
theorem vG {z:List AV} {v:AV} (h:v.leaf=true):jU 1 (xq 1 z) [(0,v)]=some [[v]]:=by
 simp only[jU,oW h,aD,h,xq,List.length_cons,List.length_nil,lg,show Nat.beq (0+1) 1=true from rfl,show Nat.blt 0 (0+1)=true from rfl,Bool.and_self,cond_true]
def OkL (N:Nat) (K:au) (p mp en:Nat) (tv:AV) (T:List Lx) (L:jf) (S:List Sl) (F:List (ah→Prop)):List Cd→Nat→Int→Prop:=fun l i o=>l.length≤N→∀h v ec,Cx h (vr p (pc tv mp en i o) :: L) S ((fun h=>jY h ec l) :: (fun h=>View h 19 v ec) :: F)→dJ T en i o→K v h=true
@[reducible] def oC (w:Str):List AV:=[.str w]
structure WC (tv:AV) (p mp en:Nat) (T:List Lx) (k:Nat):Prop where
 conds:∀{n m h L S F i o K} [BaseF tv mp T F] {ve va:AV} {ec:List (List AV)} {ends:List Str} {acc:List Cd},4*k+80≤n→k≤m→(∀w∈ends,w≠[])→ends.length≤10→Knows L S F (fun h=>View h 1 ve (ends.map oC))→acc.length+k≤100000→
  Cx h (vr p (pc tv mp en i o) :: L) (⟨va,19,ec⟩ :: S) ((fun h=>jY h ec acc) :: F)→dJ T en i o→Post (jq T k ends acc i o) (OkL 100000 K p mp en tv T L S F) (FK K p mp en tv T L S F)→IW (av E n) n m (.ptr p 0 0 0) ve va h K=true
 some:∀{n h L S F i o K} [BaseF tv mp T F] {ve:AV} {ends:List Str},4*k+80≤n→(∀w∈ends,w≠[])→ends.length≤10→Knows L S F (fun h=>View h 1 ve (ends.map oC))→
  Cx h (vr p (pc tv mp en i o) :: L) S F→dJ T en i o→Post (iP T k ends i o) (OkL 100001 K p mp en tv T L S F) (FK K p mp en tv T L S F)→av E n (.func 73) [.ptr p 0 0 0,ve] h K=true
 block:∀{n h L S F i o K} [BaseF tv mp T F],4*k+80≤n→Cx h (vr p (pc tv mp en i o) :: L) S F→dJ T en i o→Post (nD T k i o) (OkL 100001 K p mp en tv T L S F) (FK K p mp en tv T L S F)→av E n (.func 72) [.ptr p 0 0 0] h K=true
 alts:∀{n m h L S F i o K} [BaseF tv mp T F] {c r:Nat} {va:AV} {ea:List (List AV)} {acc:List (List Cd)},4*k+80≤n→k+1≤m→acc.length+k≤100001→
  Cx h (vr p (pc tv mp en i o) :: vr c [.int .i64 5, .str [], .str [], .nilSlc, .nilSlc, .nilSlc, .nilSlc,va, .int .i64 0, .str [], .int .i64 0, .bool false, .int .i64 0, .str [], .nilSlc, .nilSlc, .str [], .str [], .nilSlc] :: vr r Fx :: L) (⟨va,1,ea⟩ :: S) ((fun h=>jg h ea acc) :: F)→dJ T en i o→
  Post (sU T k acc i o) (fun a i o=>Post (bnd (dD T [41]) (fun _=>ret (.mk 5 [] [] [] [] [] [] a uJ [] [] [])) i o) (Qz K p mp en tv T L S F) (FK K p mp en tv T L S F)) (FK K p mp en tv T L S F)→
  Af (av E n) n m (.ptr p 0 0 0) (.ptr r 0 0 0) (.ptr c 0 0 0) (.bool true) h K=true
 orr:∀{n h L S F i o K} [BaseF tv mp T F],4*k+80≤n→Cx h (vr p (pc tv mp en i o) :: L) S F→dJ T en i o→Post (orM T k i o) (Qz K p mp en tv T L S F) (FK K p mp en tv T L S F)→av E n (.func 74) [.ptr p 0 0 0] h K=true
 acc:∀{n h L S F i o K} [BaseF tv mp T F],4*k+80≤n→Cx h (vr p (pc tv mp en i o) :: L) S F→dJ T en i o→Post (JN T k i o) (Qz K p mp en tv T L S F) (FK K p mp en tv T L S F)→av E n (.func 75) [.ptr p 0 0 0] h K=true
 cond:∀{n h L S F i o K} [BaseF tv mp T F],4*k+80≤n→Cx h (vr p (pc tv mp en i o) :: L) S F→dJ T en i o→Post (sN T k i o) (Qz K p mp en tv T L S F) (FK K p mp en tv T L S F)→av E n (.func 57) [.ptr p 0 0 0] h K=true
theorem Sg {kk:Nat} (W:WC tv p mp en T kk):∀{n m h L S F i o K} [BaseF tv mp T F] {ve va:AV} {ec:List (List AV)} {ends:List Str} {acc:List Cd},4*(kk+1)+80≤n→kk+1≤m→(∀w∈ends,w≠[])→ends.length≤10→Knows L S F (fun h=>View h 1 ve (ends.map oC))→acc.length+(kk+1)≤100000→
 Cx h (vr p (pc tv mp en i o) :: L) (⟨va,19,ec⟩ :: S) ((fun h=>jY h ec acc) :: F)→dJ T en i o→Post (jq T (kk+1) ends acc i o) (OkL 100000 K p mp en tv T L S F) (FK K p mp en tv T L S F)→IW (av E n) n m (.ptr p 0 0 0) ve va h K=true:=by
 intro n m h L S F i o K b ve va ec ends acc hn hm hw he kv hacc A s H
 obtain⟨m,rfl⟩:∃q,m=q+1:=⟨m-1,by omega⟩
 have hmo:most=1099511627776:=rfl
 have hlim:=qH
 have kv':∀{h va ec R},Cx h (vr p (pc tv mp en i o) :: L) (⟨va,19,ec⟩ :: S) (R :: F)→View h 1 ve (ends.map oC):=fun A=>kv _ A.freeze.dropF.dropF.rest
 rw[abH]
 unfold Tz
 refine fD (kv' A) ?_
 unfold jq at H
 rw[List.length_map]
 have loop:∀d j m' h,ends.length=j+d→d+1≤m'→(∀w∈ends.take j,cZ T i w=false)→Cx h (vr p (pc tv mp en i o) :: L) (⟨va,19,ec⟩ :: S) ((fun h=>jY h ec acc) :: F)→
  Jq (av E n) n (fun x0 x1 x5 h=>IW (av E n) n m x0 x1 x5 h K) m' (.ptr p 0 0 0) ve va ve (.int .i64 (ends.length:Int)) (.int .i64 (j:Int)) h K=true:=by
  intro d
  induction d with
  |zero=>
   intro j m' h hj hm' hf A
   obtain⟨m',rfl⟩:∃q,m'=q+1:=⟨m'-1,by omega⟩
   have hjj:j=ends.length:=by omega
   subst hjj
   rw[List.take_length] at hf
   rw[Pz]
   unfold Iw
   refine iZ ?_
   rw[show decide (ends.length<ends.length)=false from decide_eq_false (by omega)]
   refine bC ?_
   unfold Rj
   rw[if_neg (by
    intro q
    obtain⟨w,hw,hq⟩:=List.any_eq_true.1 q
    rw[hf w hw] at hq;cases hq),aC] at H
   refine W.cond (by omega) A s (Post.mono H ?_ ?_)
   ·intro c i o H h a A s
    obtain⟨w1,w2,w3⟩:=(A.f0:RC h a c).cells
    refine aI rfl ?_
    unfold Dh
    refine kT A rfl rfl rfl rfl (gH w1 w2) rfl fun vb h A _=> ?_
    have hlen:=(A.f2:jY h ec acc).len
    refine qA A rfl A.f0.src ?_ ?_ fun va' h A _=> ?_
    ·show(ec.length+1)*328≤most;omega
    ·show ec.length+1≤most;omega
    have A:=A.dropF.imp2 (R:=fun h=>jY h (ec++[a]) (acc++[c])) fun h R1 R2=>R2.app (jY.one R1)
    exact W.conds (by omega) (by omega) hw he kv (by simp;omega) A s H
   ·intro x f
    exact FK.pz' fun h i o A=>f h i o A.freeze.dropF.dropF
  |succ d ih=>
   intro j m' h hj hm' hf A
   obtain⟨m',rfl⟩:∃q,m'=q+1:=⟨m'-1,by omega⟩
   have hlt:j<ends.length:=by omega
   have hwj:ends[j]? =some ends[j]:=List.getElem?_eq_getElem hlt
   rw[Pz]
   unfold Iw
   refine iZ ?_
   rw[show decide (j<ends.length)=true from decide_eq_true hlt]
   refine bN (nE (kv' A) (e:=oC ends[j]) (by rw[List.getElem?_map,hwj];rfl) fun id g q ld=>aR (ld false 0 1) ?_)
   refine Uw (d:=0) (by omega) (by omega) (hw _ (List.getElem_mem hlt)) A s fun h A=>aI rfl ?_
   rw[Nat.add_zero]
   cases e:cZ T i ends[j] with
   |true=>
    rw[if_pos (List.any_eq_true.2 ⟨_,List.getElem_mem hlt,e⟩)] at H
    refine bN ?_
    exact H (by omega) h va ec A.freeze.swapF s
   |false=>
    refine bC (lD (by omega) ?_)
    refine ih (j+1) m' h (by omega) (by omega) ?_ A
    intro w hw'
    rw[List.take_add_one,hwj] at hw'
    rcases List.mem_append.1 hw' with hw' |hw'
    ·exact hf w hw'
    ·simp at hw';subst hw';exact e
 exact loop ends.length 0 n h (by omega) (by omega) (by simp) A
theorem WM {kk:Nat} (W:WC tv p mp en T kk) (hk:kk≤100000):∀{n h L S F i o K} [BaseF tv mp T F] {ve:AV} {ends:List Str},4*(kk+1)+80≤n→(∀w∈ends,w≠[])→ends.length≤10→Knows L S F (fun h=>View h 1 ve (ends.map oC))→
 Cx h (vr p (pc tv mp en i o) :: L) S F→dJ T en i o→Post (iP T (kk+1) ends i o) (OkL 100001 K p mp en tv T L S F) (FK K p mp en tv T L S F)→av E n (.func 73) [.ptr p 0 0 0,ve] h K=true:=by
 intro n h L S F i o K b ve ends hn hw he kv A s H
 obtain⟨n,rfl⟩:∃m,n=m+1:=⟨n-1,by omega⟩
 obtain⟨n,rfl⟩:∃m,n=m+1:=⟨n-1,by omega⟩
 have hmo:most=1099511627776:=rfl
 apply d73
 unfold s73
 unfold iP at H
 rw[aC] at H
 refine W.cond (by omega) A s (Post.mono H ?_ fun x f=>FK.pz' f)
 intro c i o H h a A s
 obtain⟨w1,w2,w3⟩:=(A.f0:RC h a c).cells
 refine aI rfl ?_
 unfold G5
 refine bT A rfl rfl rfl fun x h A=> ?_
 refine gL A rfl w1 rfl w2 fun h A=> ?_
 refine iw A.v1 w1 (DC A rfl rfl rfl rfl (gH w1 w2) rfl fun q h A=> ?_)
 refine iw A.v2 w1 (dU (.agg w3) ?_)
 rw[aC] at H
 apply d38
 unfold s38
 have A:=(A.slc 19).tru (R:=fun h=>jY h [] []) fun h=>jY.nil
 refine W.conds (by omega) (by omega) hw he (fun h A=>kv h A.rest.rest.dropF) (by simpa using hk) A s (Post.mono H ?_ ?_)
 ·intro l i o H hl h v ec A s
  refine aI (CG A.f1) ?_
  refine iw A.v2 w1 (dU (.agg w3) ?_)
  have hlen:=(A.f0:jY h ec l).len
  refine aeh A rfl A.f1.src ?_ ?_ fun v' h A hp=> ?_
  ·show(1+ec.length)*328≤most;omega
  ·show 1+ec.length≤most;omega
  have A:=A.rest1
  have A:=A.add (R:=fun h=>jY h ([a]++ec) (c :: l)) fun h q=>
   (jY.one (q (fun h=>RC h a c) (by simp))).app (q (fun h=>jY h ec l) (by simp))
  exact H (by simp;omega) h v' _ (A.facts' fun R m=>by
   simp only[List.mem_cons] at m ⊢
   rcases m with h |h |h
   ·exact .inl h
   ·exact .inr (.inl h)
   ·simp[h]) s
 ·intro x f
  exact FK.pz' fun h i o A=>vP rfl rfl A fun h A=>f h i o A.rest1.dropF
theorem SF {kk:Nat} (W:WC tv p mp en T kk):∀{n h L S F i o K} [BaseF tv mp T F],4*(kk+1)+80≤n→Cx h (vr p (pc tv mp en i o) :: L) S F→dJ T en i o→Post (nD T (kk+1) i o) (OkL 100001 K p mp en tv T L S F) (FK K p mp en tv T L S F)→av E n (.func 72) [.ptr p 0 0 0] h K=true:=by
 intro n h L S F i o K b hn A s H
 obtain⟨n,rfl⟩:∃m,n=m+1:=⟨n-1,by omega⟩
 apply d72
 unfold s72
 unfold nD at H
 rw[aC] at H
 refine c32 (by omega) (by decide) A s (Post.mono H ?_ fun x f=>FK.pz' f)
 intro u i o H h A s
 refine aI rfl ?_
 rw[aC] at H
 refine kT A rfl rfl rfl rfl rfl rfl fun ve h A _=> ?_
 refine W.some (ends:=[[41]]) (by omega) (by decide) (by decide) (Knows.mem (by exact List.mem_cons_self)) A s (Post.mono H ?_ fun x f=>FK.pz' f.drop)
 intro l i o H hl h v ec A s
 refine aI (CG A.f1) ?_
 rw[aC] at H
 refine Y7 (by omega) (by decide) A s (Post.mono H ?_ fun x f=>FK.pz' f.drop.drop.drop)
 intro u i o H h A s
 refine aI rfl ?_
 exact H hl h v ec (A.facts' fun R m=>by
  simp only[List.mem_cons] at m ⊢
  rcases m with h |h |h
  ·exact .inl h
  ·exact .inr (.inl h)
  ·simp[h]) s
end
section
variable {h:ah} {L:jf} {S:List Sl} {F:List (ah→Prop)} {p mp en i n:Nat} {o:Int} {tv:AV} {T:List Lx} {K Q k:au}
@[reducible] def cOr (va:AV):List AV:=[.int .i64 5, .str [], .str [], .nilSlc, .nilSlc, .nilSlc, .nilSlc,va, .int .i64 0, .str [], .int .i64 0, .bool false, .int .i64 0, .str [], .nilSlc, .nilSlc, .str [], .str [], .nilSlc]
@[reducible] def cCd (kind:Int) (vc vn:AV):List AV:=[.int .i64 kind, .str [], .str [], .nilSlc, .nilSlc,vc,vn, .nilSlc, .int .i64 0, .str [], .int .i64 0, .bool false, .int .i64 0, .str [], .nilSlc, .nilSlc, .str [], .str [], .nilSlc]
theorem RC.lists {kind:Int} {vc vn:AV} {ec ne:List (List AV)} {l m:List Cd} (V:View h 19 vc ec) (R:jY h ec l) (V':View h 19 vn ne) (R':jY h ne m):RC h (cCd kind vc vn) (.mk kind [] [] [] [] l m [] uJ [] [] []):=
 RC.put (ce:=Z8) (View.nil h 2) (View.nil h 8) oG.nil V R V' R' (View.nil h 1) jg.nil RE.zero (View.nil h 9) rfl
theorem agE {kind:Int} {vc vn:AV} (h1:vc.leaf=true) (h2:vn.leaf=true):aD (cCd kind vc vn)=true:=
 aJ rfl (aJ rfl (aJ rfl (aJ rfl (aJ rfl (aJ h1 (aJ h2 rfl))))))
theorem aeC [b:BaseF tv mp T F] (hn:8≤n) {c r:Nat} {va:AV} {ea:List (List AV)} {a:List (List Cd)} (A:Cx h (vr p (pc tv mp en i o) :: vr c (cOr va) :: vr r Fx :: L) (⟨va,1,ea⟩ :: S) ((fun h=>jg h ea a) :: F)) (s:dJ T en i o)
 (H:Post (bnd (dD T [41]) (fun _=>ret (Cd.mk 5 [] [] [] [] [] [] a uJ [] [] [])) i o) (Qz K p mp en tv T L S F) (FK K p mp en tv T L S F)):Ml (av E n) n (.ptr p 0 0 0) (.ptr r 0 0 0) (.ptr c 0 0 0) h K=true:=by
 unfold Ml
 rw[aC] at H
 have A:=A.freeze
 refine Y7 hn (by decide) A s (Post.mono H ?_ fun x f=>FK.pz' f.rest.rest.drop.drop)
 intro u i o H h A s
 refine aI rfl (iw A.v1 rfl ?_)
 have A:=A.rest1.imp2 (R:=fun h=>RC h (cOr va) (.mk 5 [] [] [] [] [] [] a uJ [] [] [])) fun h V R=>
  RC.put (ce:=Z8) (View.nil h 2) (View.nil h 8) oG.nil (View.nil h 19) jY.nil (View.nil h 19) jY.nil V R RE.zero (View.nil h 9) rfl
 exact vR A rfl A.f0 fun h A=>H h _ A s
theorem Wi {kk:Nat} (W:WC tv p mp en T kk):∀{n m h L S F i o K} [BaseF tv mp T F] {c r:Nat} {va:AV} {ea:List (List AV)} {acc:List (List Cd)},4*(kk+1)+80≤n→kk+1+1≤m→acc.length+(kk+1)≤100001→
 Cx h (vr p (pc tv mp en i o) :: vr c (cOr va) :: vr r Fx :: L) (⟨va,1,ea⟩ :: S) ((fun h=>jg h ea acc) :: F)→dJ T en i o→
 Post (sU T (kk+1) acc i o) (fun a i o=>Post (bnd (dD T [41]) (fun _=>ret (.mk 5 [] [] [] [] [] [] a uJ [] [] [])) i o) (Qz K p mp en tv T L S F) (FK K p mp en tv T L S F)) (FK K p mp en tv T L S F)→
 Af (av E n) n m (.ptr p 0 0 0) (.ptr r 0 0 0) (.ptr c 0 0 0) (.bool true) h K=true:=by
 intro n m h L S F i o K b c r va ea acc hn hm hacc A s H
 obtain⟨m,rfl⟩:∃q,m=q+1:=⟨m-1,by omega⟩
 have hmo:most=1099511627776:=rfl
 rw[PX]
 unfold IJ
 have V:kM va:=A.view.kM
 have hlen:=(A.f0:jg h ea acc).len
 refine bN ?_;refine aB ?_;refine aG A.v1 rfl ?_
 refine DC (es:=[[.str Qg],[.str [41]]]) A rfl rfl rfl rfl rfl rfl fun q h A=> ?_
 refine aG A.v2 rfl (dU V ?_)
 unfold sU at H
 rw[aC] at H
 refine W.some (ends:=[Qg,[41]]) (by omega) (by decide) (by decide) (fun h A=> ?_) A s (Post.mono H ?_ fun x f=>FK.pz' fun h i o A=>vP rfl rfl A fun h A=>f h i o A.freeze.dropF.dropF.rest1.rest1)
 ·exact(A.rowL':_)
 intro l i o H hl h v ec A s
 refine aI (CG A.f1) ?_
 refine aG A.v2 rfl (dU V ?_)
 refine kT A rfl rfl rfl rfl (vG A.f1.leaf) rfl fun vb h A _=> ?_
 refine aG A.v2 rfl (dU V ?_)
 refine qA A rfl A.f0.src ?_ ?_ fun va' h A _=> ?_
 ·show(ea.length+1)*24≤most;omega
 ·show ea.length+1≤most;omega
 refine aB (OB A rfl A.leafS fun h A=> ?_)
 have A:=(A.rest1.dropF.add (R:=fun h=>jg h (ea++[[v]]) (acc++[l])) fun h q=>
  (q (fun h=>jg h ea acc) (by simp)).app (jg.one (q (fun h=>View h 19 v ec) (by simp)) (q (fun h=>jY h ec l) (by simp)))).drop1.drop1.drop1
 rw[aC] at H
 refine c19 (by omega) (by decide) A s (Post.mono H ?_ fun _ _=>trivial)
 intro bb i o H h A s
 refine aI rfl ?_
 cases bb with
 |true=>
  rw[if_pos rfl] at H
  exact W.alts (by omega) (by omega) (by simp;omega) A s H
 |false=>
  rw[if_neg (by simp)] at H
  obtain⟨m,rfl⟩:∃q,m=q+1:=⟨m-1,by omega⟩
  show Af _ _ _ _ _ _ _ _ _=true
  rw[PX]
  unfold IJ
  refine bC ?_
  exact aeC (by omega) A s H
theorem abr {kk:Nat} (W:WC tv p mp en T kk) (hk:kk≤100000):∀{n h L S F i o K} [BaseF tv mp T F],4*(kk+1)+80≤n→Cx h (vr p (pc tv mp en i o) :: L) S F→dJ T en i o→Post (orM T (kk+1) i o) (Qz K p mp en tv T L S F) (FK K p mp en tv T L S F)→av E n (.func 74) [.ptr p 0 0 0] h K=true:=by
 intro n h L S F i o K b hn A s H
 obtain⟨n,rfl⟩:∃m,n=m+1:=⟨n-1,by omega⟩
 have hmo:most=1099511627776:=rfl
 apply d74
 unfold s74
 refine bT A rfl rfl rfl fun r h A=> ?_
 refine dQ rfl ?_
 refine bT A rfl rfl rfl fun c h A=> ?_
 refine gL A rfl rfl rfl rfl fun h A=> ?_
 unfold orM at H
 rw[aC] at H
 refine c32 (by omega) (by decide) A s (Post.mono H ?_ fun x f=>FK.pz' f.rest.rest)
 intro u i o H h A s
 refine aI rfl ?_
 refine aB ?_;refine aG A.v1 rfl ?_
 refine DC (es:=[[.str Qg],[.str [41]]]) A rfl rfl rfl rfl rfl rfl fun q h A=> ?_
 refine aG A.v2 rfl (dU kM.nslc ?_)
 rw[aC] at H
 refine W.some (ends:=[Qg,[41]]) (by omega) (by decide) (by decide) (fun h A=>A.rowL') A s (Post.mono H ?_ fun x f=>FK.pz' fun h i o A=>vP rfl rfl A fun h A=>f h i o A.rest1.rest1)
 intro l i o H hl h v ec A s
 refine aI (CG A.f1) ?_
 refine aG A.v2 rfl (dU kM.nslc ?_)
 refine kT A rfl rfl rfl rfl (vG A.f1.leaf) rfl fun vb h A _=> ?_
 refine aG A.v2 rfl (dU kM.nslc ?_)
 have A:=A.slc 1
 refine qA A rfl A.f0.src ?_ ?_ fun va' h A _=> ?_
 ·show(0+1)*24≤most;omega
 ·show 0+1≤most;omega
 refine aB (OB A rfl A.leafS fun h A=> ?_)
 have A:=(A.rest1.dropF.add (R:=fun h=>jg h [[v]] [l]) fun h q=>
  jg.one (q (fun h=>View h 19 v ec) (by simp)) (q (fun h=>jY h ec l) (by simp))).drop1.drop1
 rw[aC] at H
 refine jW (by omega) (by decide) A s (Post.mono H ?_ fun x f h i o A=>f h i o A.freeze.dropF.dropF.rest1.rest1)
 intro u i o H h A s
 rw[aC] at H
 exact W.alts (by omega) (by omega) (by simp;omega) A s H
@[reducible] def WJ (v fn:Str) (vc:AV) (ce:List AV):List AV:=[.int .i64 7, .str v, .str [], .nilSlc, .nilSlc,vc, .nilSlc, .nilSlc]++(ce++[.str fn, .str [], .nilSlc])
theorem VD {kk:Nat} (W:WC tv p mp en T kk) (hk:kk≤100000) [b:BaseF tv mp T F] (hn:4*(kk+1)+79≤n) {c r:Nat} {v fn:Str} (A:Cx h (vr p (pc tv mp en i o) :: vr c (WJ v fn .nilSlc Z8) :: vr r Fx :: L) S F) (s:dJ T en i o)
 (H:Post (bnd (eP T [40]) (fun _=>bnd (iM T kk) fun e=>bnd (dD T [41]) fun _=>bnd (dI T YM) fun _=>bnd (iP T kk [[41]]) fun l=>bnd (dD T [41]) fun _=>ret (Cd.mk 7 v [] [] [] l [] [] e fn [] [])) i o) (Qz K p mp en tv T L S F) (FK K p mp en tv T L S F)):
 Jv (av E n) n (.ptr p 0 0 0) (.ptr r 0 0 0) (.ptr c 0 0 0) h K=true:=by
 unfold Jv
 rw[aC] at H
 refine c32 (by omega) (by decide) A s (Post.mono H ?_ fun x f=>FK.pz' f.rest.rest)
 intro u i o H h A s
 refine aI rfl ?_
 rw[aC] at H
 refine c59 hk (by omega) A s (Post.mono H ?_ fun x f=>FK.pz' f.rest.rest)
 intro e i o H h ce A s
 obtain⟨w1,w2,w3⟩:=(A.f0:RE h ce e).cells
 refine aI rfl ?_
 unfold CU
 refine aB (wQ A rfl w1 rfl w2 fun h A=> ?_)
 have e1:lay (WJ v fn .nilSlc Z8) (0+8) ce=WJ v fn .nilSlc ce:=by
  obtain⟨_,_,_,_,_,_,_,_,rfl⟩:=len8 w1;rfl
 rw[e1] at A
 rw[aC] at H
 refine Y7 (by omega) (by decide) A s (Post.mono H ?_ fun x f=>FK.pz' f.rest.rest.drop)
 intro u i o H h A s
 refine aI rfl ?_
 rw[aC] at H
 refine jW (by omega) (by decide) A s (Post.mono H ?_ fun x f=>f.rest.rest.drop)
 intro u i o H h A s
 rw[aC] at H
 refine kT A rfl rfl rfl rfl rfl rfl fun ve h A _=> ?_
 refine W.some (ends:=[[41]]) (by omega) (by decide) (by decide) (Knows.mem (by exact List.mem_cons_self)) A s (Post.mono H ?_ fun x f=>FK.pz' f.rest.rest.drop.drop)
 intro l i o H hl h vc ec A s
 refine aI (CG A.f1) ?_
 unfold DK
 refine aB (gW A (by simp[w1]) A.f1.leaf fun h A=> ?_)
 have e2:(WJ v fn .nilSlc ce).set (0+5) vc=WJ v fn vc ce:=rfl
 rw[e2] at A
 rw[aC] at H
 refine Y7 (by omega) (by decide) A s (Post.mono H ?_ fun x f=>FK.pz' f.rest.rest.drop.drop.drop.drop)
 intro u i o H h A s
 refine aI rfl (iw A.v1 (by simp[w1]) ?_)
 have A:=(A.rest1.add (R:=fun h=>RC h (WJ v fn vc ce) (.mk 7 v [] [] [] l [] [] e fn [] [])) fun h q=>
  RC.put (View.nil h 2) (View.nil h 8) oG.nil (q (fun h=>View h 19 vc ec) (by simp)) (q (fun h=>jY h ec l) (by simp)) (View.nil h 19) jY.nil (View.nil h 1) jg.nil (q (fun h=>RE h ce e) (by simp)) (View.nil h 9) rfl)
 exact vR A rfl A.f0 fun h A=>H h _ A.drop1.drop1.drop1.drop1 s
theorem YC {kk:Nat} (W:WC tv p mp en T kk) (hk:kk≤100000):∀{n h L S F i o K} [BaseF tv mp T F],4*(kk+1)+80≤n→Cx h (vr p (pc tv mp en i o) :: L) S F→dJ T en i o→Post (JN T (kk+1) i o) (Qz K p mp en tv T L S F) (FK K p mp en tv T L S F)→av E n (.func 75) [.ptr p 0 0 0] h K=true:=by
 intro n h L S F i o K b hn A s H
 obtain⟨n,rfl⟩:∃m,n=m+1:=⟨n-1,by omega⟩
 apply d75
 unfold s75
 refine bT A rfl rfl rfl fun r h A=> ?_
 unfold JN at H
 rw[aC] at H
 refine c32 (by omega) (by decide) A s (Post.mono H ?_ fun x f=>FK.pz' f.rest)
 intro u i o H h A s
 refine aI rfl ?_
 rw[aC] at H
 refine c42 (by omega) A s (Post.mono H ?_ fun x f=>FK.pz' f.rest)
 intro v i o H h A s
 refine aI rfl ?_
 unfold Ho
 refine dQ rfl ?_
 refine bT A rfl rfl rfl fun c h A=> ?_
 refine gL A rfl rfl rfl rfl fun h A=> ?_
 rw[aC] at H
 refine jW (by omega) (by decide) A s (Post.mono H ?_ fun x f=>f.rest.rest)
 intro u i o H h A s
 rw[aC] at H
 refine c19 (by omega) (by decide) A s (Post.mono H ?_ fun _ _=>trivial)
 intro bb i o H h A s
 refine aI rfl ?_
 rw[aC] at H
 cases bb with
 |true=>
  rw[if_pos rfl] at H
  refine bN (aB (gW A rfl rfl fun h A=> ?_))
  exact VD W hk (by omega) A s H
 |false=>
  rw[if_neg (by simp)] at H
  refine bC ?_
  refine c31 (by omega) A s (Post.mono H ?_ fun x f=>FK.pz' f.rest.rest)
  intro fn i o H h A s
  refine aI rfl ?_
  unfold Cu
  refine aB (gW A rfl rfl fun h A=> ?_)
  exact VD W hk (by omega) A s H
@[reducible] def cEv (kind:Int) (v:Str) (ce:List AV):List AV:=[.int .i64 kind, .str v, .str [], .nilSlc, .nilSlc, .nilSlc, .nilSlc, .nilSlc]++(ce++[.str [], .str [], .nilSlc])
theorem RC.ev {kind:Int} {v:Str} {ce:List AV} {e:Ex} (R:RE h ce e):RC h (cEv kind v ce) (.mk kind v [] [] [] [] [] [] e [] [] []):=
 RC.put (View.nil h 2) (View.nil h 8) oG.nil (View.nil h 19) jY.nil (View.nil h 19) jY.nil (View.nil h 1) jg.nil R (View.nil h 9) rfl
theorem Ww {kk:Nat} (W:WC tv p mp en T kk) (hk:kk≤100000):∀{n h L S F i o K} [BaseF tv mp T F],4*(kk+1)+80≤n→Cx h (vr p (pc tv mp en i o) :: L) S F→dJ T en i o→Post (sN T (kk+1) i o) (Qz K p mp en tv T L S F) (FK K p mp en tv T L S F)→av E n (.func 57) [.ptr p 0 0 0] h K=true:=by
 intro n h L S F i o K b hn A s H
 obtain⟨n,rfl⟩:∃m,n=m+1:=⟨n-1,by omega⟩
 apply d57
 unfold s57
 refine bT A rfl rfl rfl fun r h A=> ?_
 unfold sN at H
 have alone:∀(kind:Int) {h i o l v ec},Cx h (vr p (pc tv mp en i o) :: vr r Fx :: L) S ((fun h=>jY h ec l) :: (fun h=>View h 19 v ec) :: F)→dJ T en i o→Qz K p mp en tv T L S F (cdL kind l) i o→
  (dK Fx [(0,1,(.int .i64 kind)),(5,1,v)] fun v4=>aN h 19 (.ptr r 0 0 0) v4 fun h=>gq (fG h [(.ptr r 0 0 0,some (true,19))]) h K)=true:=by
  intro kind h i o l v ec A s H
  refine dQ ((uF rfl rfl).trans ((uF A.f1.leaf rfl).trans rfl)) ?_
  have A:=A.add (R:=fun h=>RC h (cCd kind v .nilSlc) (cdL kind l)) fun h q=>RC.lists (q (fun h=>View h 19 v ec) (by simp)) (q (fun h=>jY h ec l) (by simp)) (View.nil h 19) jY.nil
  exact vR (c:=cCd kind v .nilSlc) A rfl A.f0 fun h A=>H h _ A.drop1.drop1 s
 refine c19 (by omega) (by decide) A s ?_
 unfold fq
 cases b1:cZ T i [110,111,116] with
 |true=>
  rw[if_pos (show cZ T i abL=true from b1),aC] at H
  rw[if_pos rfl]
  refine aZ fun h A s=>aI rfl (bN ?_)
  refine W.block (by omega) A s (Post.mono H ?_ fun x f=>FK.pz' f.rest)
  intro l i o H hl h v ec A s
  refine aI (CG A.f1) ?_
  unfold Ju
  exact alone 2 A s H
 |false=>
  rw[if_neg (by show ¬(cZ T i abL=true);rw[show cZ T i abL=false from b1];simp)] at H
  rw[if_neg (by simp)]
  refine aZ fun h A s=>aI rfl (bC ?_)
  refine c19 (by omega) (by decide) A s ?_
  unfold fq
  cases b2:cZ T i [101,120,105,115,116,115] with
  |true=>
   rw[if_pos (show cZ T i FN=true from b2),aC] at H
   rw[if_pos rfl]
   refine aZ fun h A s=>aI rfl (bN ?_)
   refine W.block (by omega) A s (Post.mono H ?_ fun x f=>FK.pz' f.rest)
   intro l i o H hl h v ec A s
   refine aI (CG A.f1) ?_
   unfold Df
   exact alone 3 A s H
  |false=>
   rw[if_neg (by show ¬(cZ T i FN=true);rw[show cZ T i FN=false from b2];simp)] at H
   rw[if_neg (by simp)]
   refine aZ fun h A s=>aI rfl (bC ?_)
   refine c19 (by omega) (by decide) A s ?_
   unfold fq
   cases b3:cZ T i [102,111,114,97,108,108] with
   |true=>
    rw[if_pos (show cZ T i FD=true from b3),aC] at H
    rw[if_pos rfl]
    refine aZ fun h A s=>aI rfl (bN ?_)
    refine c32 (by omega) (by decide) A s (Post.mono H ?_ fun x f=>FK.pz' f.rest)
    intro u i o H h A s
    refine aI rfl ?_
    rw[aC] at H
    refine kT A rfl rfl rfl rfl rfl rfl fun ve h A _=> ?_
    refine W.some (ends:=[[59]]) (by omega) (by decide) (by decide) (Knows.mem (by exact List.mem_cons_self)) A s (Post.mono H ?_ fun x f=>FK.pz' f.rest.drop)
    intro l i o H hl h v ec A s
    refine aI (CG A.f1) ?_
    unfold Ej
    have hvl:=A.f1.leaf
    refine dQ ((uF rfl rfl).trans ((uF hvl rfl).trans rfl)) ?_
    refine bT A rfl rfl rfl fun c h A=> ?_
    refine gL (l:=cCd 4 v .nilSlc) A rfl rfl rfl (agE hvl rfl) fun h A=> ?_
    rw[aC] at H
    refine jW (by omega) (by decide) A s (Post.mono H ?_ fun x f=>f.rest.rest.drop.drop.drop)
    intro u i o H h A s
    rw[aC] at H
    refine kT A rfl rfl rfl rfl rfl rfl fun ve2 h A _=> ?_
    refine W.some (ends:=[[41]]) (by omega) (by decide) (by decide) (Knows.mem (by exact List.mem_cons_self)) A s (Post.mono H ?_ fun x f=>FK.pz' f.rest.rest.drop.drop.drop.drop)
    intro l2 i o H hl2 h v2 ec2 A s
    refine aI (CG A.f1) ?_
    unfold DR
    refine aB (gW A rfl A.f1.leaf fun h A=> ?_)
    rw[aC] at H
    refine Y7 (by omega) (by decide) A s (Post.mono H ?_ fun x f=>FK.pz' f.rest.rest.drop.drop.drop.drop.drop.drop)
    intro u i o H h A s
    refine aI rfl (iw (c:=cCd 4 v v2) A.v1 rfl ?_)
    have A:=A.rest1.add (R:=fun h=>RC h (cCd 4 v v2) (.mk 4 [] [] [] [] l l2 [] uJ [] [] [])) fun h q=>
     RC.lists (q (fun h=>View h 19 v ec) (by simp)) (q (fun h=>jY h ec l) (by simp)) (q (fun h=>View h 19 v2 ec2) (by simp)) (q (fun h=>jY h ec2 l2) (by simp))
    exact vR (c:=cCd 4 v v2) A rfl A.f0 fun h A=>H h _ A.drop1.drop1.drop1.drop1.drop1.drop1 s
   |false=>
    rw[if_neg (by show ¬(cZ T i FD=true);rw[show cZ T i FD=false from b3];simp)] at H
    rw[if_neg (by simp)]
    refine aZ fun h A s=>aI rfl (bC ?_)
    refine Uw (d:=0) (by omega) (by omega) (by decide) A s fun h A=>aI rfl ?_
    rw[Nat.add_zero]
    cases b4:cZ T i [40] with
    |true=>
     rw[if_pos b4] at H
     refine bN ?_
     refine W.orr (by omega) A s (Post.mono H ?_ fun x f=>FK.pz' f.rest)
     intro v i o H h c A s
     refine aI rfl ?_
     unfold Em
     exact vR A rfl A.f0 fun h A=>H h c A s
    |false=>
     rw[if_neg (by rw[b4];simp)] at H
     refine bC ?_
     refine c19 (by omega) (by decide) A s ?_
     unfold fq
     cases b5:cZ T i [101,118,97,108] with
     |true=>
      rw[if_pos (show cZ T i TF=true from b5),aC] at H
      rw[if_pos rfl]
      refine aZ fun h A s=>aI rfl (bN ?_)
      refine c32 (by omega) (by decide) A s (Post.mono H ?_ fun x f=>FK.pz' f.rest)
      intro u i o H h A s
      refine aI rfl ?_
      rw[aC] at H
      refine c59 hk (by omega) A s (Post.mono H ?_ fun x f=>FK.pz' f.rest)
      intro e i o H h ce A s
      obtain⟨w1,w2,w3⟩:=(A.f0:RE h ce e).cells
      refine aI rfl ?_
      unfold CY
      have e1:lay ((Fx).set 0 (.int .i64 8)) 8 ce=cEv 8 [] ce:=by
       obtain⟨_,_,_,_,_,_,_,_,rfl⟩:=len8 w1;rfl
      refine dQ ((uF rfl rfl).trans ((ab3 (v:= .agg ce) w1 rfl w2).trans (congrArg Option.some e1))) ?_
      refine bT A rfl rfl rfl fun c h A=> ?_
      have hl:aD (cEv 8 [] ce)=true:=gG rfl (gG w2 rfl)
      refine gL A rfl (by simp[w1]) rfl hl fun h A=> ?_
      rw[aC] at H
      refine Y7 (by omega) (by decide) A s (Post.mono H ?_ fun x f=>FK.pz' f.rest.rest.drop)
      intro u i o H h A s
      refine aI rfl (iw A.v1 (by simp[w1]) ?_)
      have A:=A.rest1.imp (R:=fun h=>RC h (cEv 8 [] ce) (.mk 8 [] [] [] [] [] [] [] e [] [] [])) fun h R=>RC.ev R
      exact vR A rfl A.f0 fun h A=>H h _ A s
     |false=>
      rw[if_neg (by show ¬(cZ T i TF=true);rw[show cZ T i TF=false from b5];simp)] at H
      rw[if_neg (by simp)]
      refine aZ fun h A s=>aI rfl (bC ?_)
      refine c19 (by omega) (by decide) A s ?_
      unfold fq
      cases b6:cZ T i [97,99,99] with
      |true=>
       rw[if_pos (show cZ T i abK=true from b6)] at H
       rw[if_pos rfl]
       refine aZ fun h A s=>aI rfl (bN ?_)
       refine W.acc (by omega) A s (Post.mono H ?_ fun x f=>FK.pz' f.rest)
       intro v i o H h c A s
       refine aI rfl ?_
       unfold DF
       exact vR A rfl A.f0 fun h A=>H h c A s
      |false=>
       rw[if_neg (by show ¬(cZ T i abK=true);rw[show cZ T i abK=false from b6];simp)] at H
       rw[if_neg (by simp)]
       refine aZ fun h A s=>aI rfl (bC ?_)
       refine c19 (by omega) (by decide) A s ?_
       unfold fq
       cases b7:cZ T i [63] with
       |true=>
        rw[if_pos b7] at H
        rw[if_pos rfl]
        refine aZ fun h A s=>aI rfl (bN ?_)
        refine c76 hk (by omega) A s (Post.mono H ?_ fun x f=>FK.pz' f.rest)
        intro v i o H h c A s
        refine aI rfl ?_
        unfold DL
        exact vR A rfl A.f0 fun h A=>H h c A s
       |false=>
        rw[if_neg (by rw[b7];simp)] at H
        rw[if_neg (by simp)]
        refine aZ fun h A s=>aI rfl (bC ?_)
        refine c55 (k:=1) (by omega) A s fun h A=>aI rfl ?_
        unfold Eo
        have pat:∀{h},Cx h (vr p (pc tv mp en i o) :: vr r Fx :: L) S F→Post (Q5 T kk i o) (Qz K p mp en tv T L S F) (FK K p mp en tv T L S F)→
         (av E n (.func 77) [.ptr p 0 0 0] h <| pz K fun v60 h=>yD (av E n) n (.ptr r 0 0 0) v60 h K)=true:=by
         intro h A H
         refine c77 hk (by omega) A s (Post.mono H ?_ fun x f=>FK.pz' f.rest)
         intro v i o H h c A s
         refine aI rfl ?_
         unfold yD
         exact vR A rfl A.f0 fun h A=>H h c A s
        cases k1:eB T i 1 with
        |false=>
         rw[k1,Bool.false_and,if_neg (by simp)] at H
         refine fH ?_;refine qy ?_
         unfold yh
         refine fH ?_;refine eG ?_;refine bC ?_
         exact pat A H
        |true=>
         refine bH ?_;refine aY ?_;refine dR ?_
         refine Uw (d:=1) (by omega) (by omega) (by decide) A s fun h A=>aI rfl ?_
         unfold yh
         cases k2:cZ T (i+1) [58] with
         |true=>
          rw[k1,k2,if_neg (by simp)] at H
          refine bH ?_;refine bY ?_;refine dV ?_;refine bC ?_
          exact pat A H
         |false=>
          rw[k1,k2,if_pos (by simp),aC] at H
          refine bH ?_;refine dn ?_;refine dV ?_;refine bN ?_
          refine c42 (by omega) A s (Post.mono H ?_ fun x f=>FK.pz' f.rest)
          intro v i o H h A s
          refine aI rfl ?_
          unfold Cz
          refine dQ rfl ?_
          refine bT A rfl rfl rfl fun c h A=> ?_
          refine gL (l:=cEv 6 v Z8) A rfl rfl rfl rfl fun h A=> ?_
          rw[aC] at H
          refine jW (by omega) (by decide) A s (Post.mono H ?_ fun x f=>f.rest.rest)
          intro u i o H h A s
          rw[aC] at H
          refine c59 hk (by omega) A s (Post.mono H ?_ fun x f=>FK.pz' f.rest.rest)
          intro e i o H h ce A s
          obtain⟨w1,w2,w3⟩:=(A.f0:RE h ce e).cells
          refine aI rfl ?_
          unfold D5
          refine aB (wQ A rfl w1 rfl w2 fun h A=> ?_)
          have e1:lay (cEv 6 v Z8) (0+8) ce=cEv 6 v ce:=by
           obtain⟨_,_,_,_,_,_,_,_,rfl⟩:=len8 w1;rfl
          rw[show lay _ (0+8) ce=cEv 6 v ce from e1] at A
          refine iw A.v1 (by simp[w1]) ?_
          have A:=A.rest1.imp (R:=fun h=>RC h (cEv 6 v ce) (.mk 6 v [] [] [] [] [] [] e [] [] [])) fun h R=>RC.ev R
          exact vR A rfl A.f0 fun h A=>H h _ A s
theorem YZ:∀k,k≤100000→WC tv p mp en T k
 |0,_=>⟨fun _ _ _ _ _ _ _ _ H=>absurd H (by unfold jq;exact fun q=>q),fun _ _ _ _ _ _ H=>absurd H (by unfold iP;exact fun q=>q),fun _ _ _ H=>absurd H (by unfold nD;exact fun q=>q),
   fun _ _ _ _ _ H=>absurd H (by unfold sU;exact fun q=>q),fun _ _ _ H=>absurd H (by unfold orM;exact fun q=>q),fun _ _ _ H=>absurd H (by unfold JN;exact fun q=>q),fun _ _ _ H=>absurd H (by unfold sN;exact fun q=>q)⟩
 |k+1,hk=>by
  have W:=YZ k (by omega)
  exact⟨Sg W,WM W (by omega),SF W,Wi W,abr W (by omega),YC W (by omega),Ww W (by omega)⟩
end
def RA (h:ah) (c:List AV) (a:Act):Prop:=∃vs eg ce,c=[.int .i64 a.kind, .str a.cls,vs]++(ce++[.str a.text])∧View h 9 vs eg∧qw h eg a.set∧RE h ce a.e
section
variable {h:ah} {L:jf} {S:List Sl} {F:List (ah→Prop)} {p mp en i n:Nat} {o:Int} {tv:AV} {T:List Lx} {K Q k:au}
theorem RA.cells {c:List AV} {a:Act} (R:RA h c a):c.length=12∧aD c=true∧rQ c:=by
 obtain⟨vs,eg,ce,rfl,V,_,R⟩:=R
 obtain⟨w1,w2,w3⟩:=R.cells
 exact⟨by simp[w1],gG (aJ rfl (aJ rfl (aJ V.leaf rfl))) (gG w2 rfl),rQ.app (.cons (.int _ _) (.cons (.str _) (.cons V.kM .nil))) (w3.app (.cons (.str _) .nil))⟩
@[reducible] def Z9g:List AV:=[.str [], .int .i64 0, .str [], .int .i64 0, .bool false, .int .i64 0, .str [], .nilSlc, .nilSlc]
def OkG (K:au) (p mp en:Nat) (tv:AV) (T:List Lx) (L:jf) (S:List Sl) (F:List (ah→Prop)):List (Str×Ex)→Nat→Int→Prop:=fun l i o=>∀h v eg,Cx h (vr p (pc tv mp en i o) :: L) S ((fun h=>qw h eg l) :: (fun h=>View h 9 v eg) :: F)→dJ T en i o→K v h=true
theorem c78 {kk:Nat} (hk:kk≤100000) (hn:4*kk+60≤n) [b:BaseF tv mp T F] {pb ab:Nat} {va:AV} {ea:List (List AV)} {acc:List (Str×Ex)} (hacc:acc.length≤100000)
 (A:Cx h (vr p (pc tv mp en i o) :: vr ab [va] :: vr pb [.ptr p 0 0 0] :: L) (⟨va,9,ea⟩ :: S) ((fun h=>qw h ea acc) :: F)) (s:dJ T en i o)
 (H:Post (iU T kk acc i o)
   (fun acc' i o=>acc'.length=acc.length+1→∀h va ea,Cx h (vr p (pc tv mp en i o) :: vr ab [va] :: vr pb [.ptr p 0 0 0] :: L) (⟨va,9,ea⟩ :: S) ((fun h=>qw h ea acc') :: F)→dJ T en i o→K (.tup []) h=true)
   (fun x=>∀h i o va ea R,Cx h (vr p (pc tv mp en i o) :: vr ab [va] :: vr pb [.ptr p 0 0 0] :: L) (⟨va,9,ea⟩ :: S) (R :: F)→K (flt T en x) h=true)):
 av E n (.func 78) [.ptr pb 0 0 0, .ptr ab 0 0 0] h K=true:=by
 obtain⟨n,rfl⟩:∃m,n=m+1:=⟨n-1,by omega⟩
 have hmo:most=1099511627776:=rfl
 apply d78
 unfold s78
 have hlen:=(A.f0:qw h ea acc).len
 refine aG A.v2 rfl ?_
 unfold iU at H
 rw[aC] at H
 refine c31 (by omega) A s (Post.mono H ?_ fun x f h i o A=>f h i o _ _ _ A)
 intro nm i o H h A s
 refine aI rfl ?_
 unfold F9
 refine dQ rfl ?_
 refine bT A rfl rfl rfl fun x h A=> ?_
 refine gL (l:= .str nm :: Z8) A rfl rfl rfl rfl fun h A=> ?_
 refine aG A.v3 rfl ?_
 rw[aC] at H
 refine jW (by omega) (by decide) A s (Post.mono H ?_ fun x f h i o A=>f h i o _ _ _ A.rest1)
 intro u i o H h A s
 refine aG A.v3 rfl ?_
 rw[aC] at H
 refine c59 hk (by omega) A s (Post.mono H ?_ fun x f h i o A=>f h i o _ _ _ A.rest1)
 intro e i o H h ce A s
 obtain⟨w1,w2,w3⟩:=(A.f0:RE h ce e).cells
 refine aI rfl ?_
 unfold GA
 refine aB (wQ A rfl w1 rfl w2 fun h A=> ?_)
 have e1:lay (AV.str nm :: Z8) (0+1) ce= .str nm :: ce:=by
  obtain⟨_,_,_,_,_,_,_,_,rfl⟩:=len8 w1;rfl
 rw[e1] at A
 refine aG A.v2 rfl ?_
 refine iw A.v1 (by simp[w1]) ?_
 refine kT A rfl rfl rfl rfl (gH (by simp[w1]) (aJ rfl w2)) rfl fun vb h A _=> ?_
 refine qA A rfl A.f0.src ?_ ?_ fun va' h A _=> ?_
 ·show(ea.length+1)*128≤most;omega
 ·show ea.length+1≤most;omega
 refine OB A rfl A.leafS fun h A=> ?_
 have A:=A.rest1.dropF.imp2 (R:=fun h=>qw h (ea++[.str nm :: ce]) (acc++[(nm,e)])) fun h R1 R2=>R2.app (qw.one R1)
 exact H (by simp) h va' _ A s
theorem Nu {kk:Nat} (hk:kk≤100000) (hn:4*kk+70≤n) [b:BaseF tv mp T F] {pb ab:Nat} (A:Cx h (vr p (pc tv mp en i o) :: vr ab [.nilSlc] :: vr pb [.ptr p 0 0 0] :: L) S F) (s:dJ T en i o)
 (H:Post (gM T [125] (iU T kk) kk [] i o) (OkG K p mp en tv T L S F) (FK K p mp en tv T L S F)):Gy (av E n) n (.ptr pb 0 0 0) (.ptr ab 0 0 0) h K=true:=by
 unfold Gy
 refine aG A.v2 rfl ?_;refine aY ?_
 obtain⟨n,rfl⟩:∃m,n=m+1:=⟨n-1,by omega⟩
 have A:=(A.slc 9).tru (R:=fun h=>qw h [] []) fun h=>rfl
 refine c40 (one:=iU T kk) (kk:=kk) (s:=[])
  (C:=fun j acc L' S' F'=>∃va ea,L'=vr ab [va] :: vr pb [.ptr p 0 0 0] :: L∧S'=⟨va,9,ea⟩ :: S∧F'=(fun h=>qw h ea acc) :: F∧acc.length+j≤kk)
  (D:=fun L' S' F'=>∃va ea R,L'=vr ab [va] :: vr pb [.ptr p 0 0 0] :: L∧S'=⟨va,9,ea⟩ :: S∧F'=R :: F)
  (fun{j s L S F} hC=>by obtain⟨_,_,_,_,rfl,_⟩:=hC;infer_instance)
  (fun{j s L S F} hC=>by obtain⟨va,ea,h1,h2,h3,_⟩:=hC;exact⟨va,ea,_,h1,h2,h3⟩)
  (by omega) (by decide) ?_ ⟨.nilSlc,[],rfl,rfl,rfl,by simp⟩ A s (Post.mono H ?_ ?_)
 ·intro j acc h L' S' F' i o K' hC A s H
  obtain⟨va,ea,rfl,rfl,rfl,hj⟩:=hC
  show av E n (.func 78) [.ptr pb 0 0 0, .ptr ab 0 0 0] h K'=true
  refine c78 (acc:=acc) hk (by omega) (by omega) A s (Post.mono H ?_ ?_)
  ·intro acc' i o H hl h va ea A s
   exact H h _ _ _ ⟨va,ea,rfl,rfl,rfl,by omega⟩ A s
  ·intro x f h i o va ea R A
   exact f h i o _ _ _ ⟨va,ea,R,rfl,rfl,rfl⟩ A
 ·intro acc i o H h L' S' F' hC A s
  obtain⟨j,va,ea,rfl,rfl,rfl,hj⟩:=hC
  refine aI rfl ?_
  refine aG A.v1 rfl ?_
  exact H h va ea A.freeze.swapF.rest1.rest1 s
 ·intro x f h i o L' S' F' hD A
  obtain⟨va,ea,R,rfl,rfl,rfl⟩:=hD
  exact f h i o A.freeze.dropF.dropF.rest1.rest1
def aeM (least:Bool):AV:= .int .i64 (bif least then 1 else 0)
theorem c58 {kk:Nat} (hk:kk≤100000) (hn:4*kk+75≤n) [b:BaseF tv mp T F] {least:Bool} (A:Cx h (vr p (pc tv mp en i o) :: L) S F) (s:dJ T en i o)
 (H:Post (qz T kk least i o) (OkG K p mp en tv T L S F) (FK K p mp en tv T L S F)):av E n (.func 58) [.ptr p 0 0 0,aeM least] h K=true:=by
 obtain⟨n,rfl⟩:∃m,n=m+1:=⟨n-1,by omega⟩
 apply d58
 unfold s58
 refine OU A rfl fun pb h A=> ?_
 refine bT A rfl rfl rfl fun ab h A=> ?_
 refine aG A.v2 rfl ?_
 unfold qz at H
 rw[aC] at H
 refine c32 (by omega) (by decide) A s (Post.mono H ?_ fun x f=>FK.pz' f.rest.rest)
 intro u i o H h A s
 refine aI rfl ?_
 cases least with
 |false=>
  rw[if_neg (by simp)] at H
  refine Jy (bC ?_)
  exact Nu hk (by omega) A s H
 |true=>
  rw[if_pos rfl,aC] at H
  refine Jy (bN ?_)
  repeat with_reducible refine aG A.v2 rfl ?_
  refine Uw (d:=0) (by omega) (by omega) (by decide) A s fun h A=>aI rfl ?_
  rw[Nat.add_zero]
  refine aG A.v2 rfl ?_;refine dU (kM.ptr _ _ _ _) ?_
  refine Vj ?_
  refine Nr (by omega) A s (Post.mono H ?_ fun x f=>FK.pz' f.rest.rest)
  intro u i o H h A s
  refine aI rfl ?_
  exact Nu hk (by omega) A s H
@[reducible] def Z12:List AV:=[.int .i64 0, .str [], .nilSlc, .int .i64 0, .str [], .int .i64 0, .bool false, .int .i64 0, .str [], .nilSlc, .nilSlc, .str []]
@[reducible] def RL (kind:Int) (cl:Str) (vs:AV) (ce:List AV) (t:Str):List AV:=[.int .i64 kind, .str cl,vs]++(ce++[.str t])
def OkA (K:au) (p mp en:Nat) (tv:AV) (T:List Lx) (L:jf) (S:List Sl) (F:List (ah→Prop)):Act→Nat→Int→Prop:=fun v i o=>∀h c,Cx h (vr p (pc tv mp en i o) :: L) S ((fun h=>RA h c v) :: F)→dJ T en i o→K (.agg c) h=true
theorem BJ [b:BaseF tv mp T F] (hn:8≤n) {a r:Nat} {c:List AV} {v:Act} (A:Cx h (vr p (pc tv mp en i o) :: vr a c :: vr r Z12 :: L) S F) (R:∀h,(∀Q∈F,Q h)→RA h c v) (s:dJ T en i o)
 (H:Post (mP T v i o) (OkA K p mp en tv T L S F) (FK K p mp en tv T L S F)):tq (av E n) n (.ptr p 0 0 0) (.ptr r 0 0 0) (.ptr a 0 0 0) h K=true:=by
 unfold tq
 unfold mP at H
 rw[aC] at H
 refine jW (by omega) (by decide) A s (Post.mono H ?_ fun x f=>f.rest.rest)
 intro u i o H h A s
 have A:=A.add R
 obtain⟨w1,w2,w3⟩:=(A.f0:RA h c v).cells
 refine iw A.v1 w1 ?_
 have A:=A.rest1
 refine gL A rfl w1 rfl w2 fun h A=>vT A.v1 w1 ?_
 exact H h c A.rest1 s
theorem OkA.drop {R:ah→Prop} {v:Act} (H:OkA K p mp en tv T L S F v i o):OkA K p mp en tv T L S (R :: F) v i o:=fun h c A s=>H h c A.drop1 s
theorem c39 {kk:Nat} (hk:kk≤100000) (hn:4*kk+80≤n) [b:BaseF tv mp T F] (A:Cx h (vr p (pc tv mp en i o) :: L) S F) (s:dJ T en i o)
 (H:Post (Fw T kk i o) (OkA K p mp en tv T L S F) (FK K p mp en tv T L S F)):av E n (.func 39) [.ptr p 0 0 0] h K=true:=by
 obtain⟨n,rfl⟩:∃m,n=m+1:=⟨n-1,by omega⟩
 apply d39
 unfold s39
 refine bT A rfl rfl rfl fun r h A=> ?_
 refine bT A rfl rfl rfl fun a h A=> ?_
 unfold Fw at H
 have ofE:∀(kind:Int) {h i o e ce},Cx h (vr p (pc tv mp en i o) :: vr a Z12 :: vr r Z12 :: L) S ((fun h=>RE h ce e) :: F)→dJ T en i o→Post (mP T ⟨kind,[],[],e,[]⟩ i o) (OkA K p mp en tv T L S F) (FK K p mp en tv T L S F)→
  (aA 0 (.ptr a 0 0 0) fun v31=>bJ h v31 (.int .i64 kind) fun h=>aA 3 (.ptr a 0 0 0) fun v33=>aN h 8 v33 (.agg ce) fun h=>tq (av E n) n (.ptr p 0 0 0) (.ptr r 0 0 0) (.ptr a 0 0 0) h K)=true:=by
  intro kind h i o e ce A s H
  obtain⟨w1,w2,w3⟩:=(A.f0:RE h ce e).cells
  refine aB (gW A rfl rfl fun h A=> ?_)
  refine aB (wQ A rfl w1 rfl w2 fun h A=> ?_)
  have e1:lay ((Z12).set (0+0) (.int .i64 kind)) (0+3) ce=RL kind [] .nilSlc ce []:=by
   obtain⟨_,_,_,_,_,_,_,_,rfl⟩:=len8 w1;rfl
  rw[show lay _ (0+3) ce=_ from e1] at A
  exact BJ (by omega) A (fun h q=>⟨.nilSlc,[],ce,rfl,View.nil h 9,(show qw h [] [] from rfl),q (fun h=>RE h ce e) (by simp)⟩) s (Post.mono H (fun v i o H=>H.drop) fun x f=>f.drop)
 have ins:∀{h},(cZ T i qG=true∨cZ T i iA=true)→Cx h (vr p (pc tv mp en i o) :: vr a Z12 :: vr r Z12 :: L) S F→
  Post (bnd (yU T) (fun t=>bnd (fZ T) fun c=>bnd (qz T kk false) fun l=>mP T ⟨if t=iA then 2 else 1,c,l,uJ,[]⟩) i o) (OkA K p mp en tv T L S F) (FK K p mp en tv T L S F)→
  (aA 0 (.ptr a 0 0 0) fun v4=>bJ h v4 (.int .i64 1) fun h=>av E n (.func 53) [.ptr p 0 0 0] h <| pz K fun v6 h=>yA (av E n) n (.ptr p 0 0 0) (.ptr r 0 0 0) (.ptr a 0 0 0) v6 h K)=true:=by
  intro h hi A H
  have hlt:i<T.length:=by rcases hi with q |q<;>exact X3 q
  refine aB (gW A rfl rfl fun h A=> ?_)
  have H:Post (bnd (fZ T) (fun c=>bnd (qz T kk false) fun l=>mP T ⟨if txt T i=iA then 2 else 1,c,l,uJ,[]⟩) (i+1) o) (OkA K p mp en tv T L S F) (FK K p mp en tv T L S F):=H
  refine c53 (by omega) hlt A s fun h A s=>aI rfl ?_
  unfold yA
  refine BR ?_
  have rest:∀{h:ah} (kind:Int),Cx h (vr p (pc tv mp en (i+1) o) :: vr a (RL kind [] .nilSlc Z8 []) :: vr r Z12 :: L) S F→
   Post (bnd (fZ T) (fun c=>bnd (qz T kk false) fun l=>mP T ⟨kind,c,l,uJ,[]⟩) (i+1) o) (OkA K p mp en tv T L S F) (FK K p mp en tv T L S F)→JC (av E n) n (.ptr p 0 0 0) (.ptr r 0 0 0) (.ptr a 0 0 0) h K=true:=by
   intro h kind A H
   unfold JC
   rw[aC] at H
   refine c31 (by omega) A s (Post.mono H ?_ fun x f=>FK.pz' f.rest.rest)
   intro cl i o H h A s
   refine aI rfl ?_
   unfold Du
   refine aB (gW A rfl rfl fun h A=> ?_)
   rw[aC] at H
   refine c58 (least:=false) hk (by omega) A s (Post.mono H ?_ fun x f=>FK.pz' f.rest.rest)
   intro l i o H h v eg A s
   refine aI (CG A.f1) ?_
   unfold DU
   refine aB (gW A rfl A.f1.leaf fun h A=> ?_)
   exact BJ (c:=RL kind cl v Z8 []) (v:=⟨kind,cl,l,uJ,[]⟩) (by omega) A (fun h q=>⟨v,eg,Z8,rfl,q (fun h=>View h 9 v eg) (by simp),q (fun h=>qw h eg l) (by simp),RE.zero⟩) s (Post.mono H (fun v i o H=>H.drop.drop) fun x f=>f.drop.drop)
  cases hc:decide (txt T i=[108,111,103,105,99,97,108]) with
  |true=>
   rw[if_pos (show txt T i=iA from of_decide_eq_true hc)] at H
   refine bN (aB (gW A rfl rfl fun h A=> ?_))
   exact rest 2 A H
  |false=>
   rw[if_neg (show ¬txt T i=iA from of_decide_eq_false hc)] at H
   refine bC ?_
   exact rest 1 A H
 refine Uw (d:=0) (by omega) (by omega) (by decide) A s fun h A=>aI rfl ?_
 rw[Nat.add_zero]
 cases b1:cZ T i [105,110,115,101,114,116] with
 |true=>
  rw[if_pos (.inl (show cZ T i qG=true from b1))] at H
  refine bN ?_
  unfold Gx
  refine bN ?_
  exact ins (.inl b1) A H
 |false=>
  have b1:cZ T i qG=false:=b1
  refine bC ?_
  refine Uw (d:=0) (by omega) (by omega) (by decide) A s fun h A=>aI rfl ?_
  rw[Nat.add_zero]
  unfold Gx
  cases b2:cZ T i [108,111,103,105,99,97,108] with
  |true=>
   rw[if_pos (.inr (show cZ T i iA=true from b2))] at H
   refine bN ?_
   exact ins (.inr b2) A H
  |false=>
   have b2:cZ T i iA=false:=b2
   rw[if_neg (by rw[b1,b2];simp)] at H
   refine bC ?_
   refine c19 (by omega) (by decide) A s ?_
   unfold fq
   cases b3:cZ T i [117,112,100,97,116,101] with
   |true=>
    rw[if_pos (show cZ T i Ce=true from b3),aC] at H
    rw[if_pos rfl]
    refine aZ fun h A s=>aI rfl (bN ?_)
    refine c59 hk (by omega) A s (Post.mono H ?_ fun x f=>FK.pz' f.rest.rest)
    intro e i o H h ce A s
    obtain⟨w1,w2,w3⟩:=(A.f0:RE h ce e).cells
    refine aI rfl ?_
    unfold Ct
    refine aB (gW A rfl rfl fun h A=> ?_)
    refine aB (wQ A rfl w1 rfl w2 fun h A=> ?_)
    have e1:lay ((Z12).set (0+0) (.int .i64 3)) (0+3) ce=RL 3 [] .nilSlc ce []:=by
     obtain⟨_,_,_,_,_,_,_,_,rfl⟩:=len8 w1;rfl
    rw[show lay _ (0+3) ce=_ from e1] at A
    rw[aC] at H
    refine c58 (least:=true) hk (by omega) A s (Post.mono H ?_ fun x f=>FK.pz' f.rest.rest.drop)
    intro l i o H h v eg A s
    refine aI (CG A.f1) ?_
    unfold Dn
    refine aB (gW A (by simp[w1]) A.f1.leaf fun h A=> ?_)
    exact BJ (c:=RL 3 [] v ce []) (v:=⟨3,[],l,e,[]⟩) (by omega) A (fun h q=>⟨v,eg,ce,rfl,q (fun h=>View h 9 v eg) (by simp),q (fun h=>qw h eg l) (by simp),q (fun h=>RE h ce e) (by simp)⟩) s (Post.mono H (fun v i o H=>H.drop.drop.drop) fun x f=>f.drop.drop.drop)
   |false=>
    rw[if_neg (by show ¬(cZ T i Ce=true);rw[show cZ T i Ce=false from b3];simp)] at H
    rw[if_neg (by simp)]
    refine aZ fun h A s=>aI rfl (bC ?_)
    refine c19 (by omega) (by decide) A s ?_
    unfold fq
    cases b4:cZ T i [100,101,108,101,116,101] with
    |true=>
     rw[if_pos (show cZ T i Bg=true from b4),aC] at H
     rw[if_pos rfl]
     refine aZ fun h A s=>aI rfl (bN ?_)
     refine c59 hk (by omega) A s (Post.mono H ?_ fun x f=>FK.pz' f.rest.rest)
     intro e i o H h ce A s
     refine aI rfl ?_
     unfold Ev
     exact ofE 4 A s H
    |false=>
     rw[if_neg (by show ¬(cZ T i Bg=true);rw[show cZ T i Bg=false from b4];simp)] at H
     rw[if_neg (by simp)]
     refine aZ fun h A s=>aI rfl (bC ?_)
     refine c19 (by omega) (by decide) A s ?_
     unfold fq
     cases b5:cZ T i [102,111,99,117,115] with
     |true=>
      rw[if_pos (show cZ T i H6=true from b5),aC] at H
      rw[if_pos rfl]
      refine aZ fun h A s=>aI rfl (bN ?_)
      refine c36 (by omega) A s (Post.mono H ?_ fun x f=>FK.pz' f.rest.rest)
      intro t i o H h A s
      refine aI rfl ?_
      unfold Et
      refine aB (gW A rfl rfl fun h A=> ?_)
      refine aB (gW A rfl rfl fun h A=> ?_)
      exact BJ (c:=RL 5 [] .nilSlc Z8 t) (v:=⟨5,[],[],uJ,t⟩) (by omega) A (fun h q=>⟨.nilSlc,[],Z8,rfl,View.nil h 9,(show qw h [] [] from rfl),RE.zero⟩) s H
     |false=>
      rw[if_neg (by show ¬(cZ T i H6=true);rw[show cZ T i H6=false from b5];simp)] at H
      rw[if_neg (by simp)]
      refine aZ fun h A s=>aI rfl (bC ?_)
      refine c19 (by omega) (by decide) A s ?_
      unfold fq
      cases b6:cZ T i [112,114,105,110,116] with
      |true=>
       rw[if_pos (show cZ T i Ja=true from b6),aC] at H
       rw[if_pos rfl]
       refine aZ fun h A s=>aI rfl (bN ?_)
       refine c59 hk (by omega) A s (Post.mono H ?_ fun x f=>FK.pz' f.rest.rest)
       intro e i o H h ce A s
       refine aI rfl ?_
       unfold Co
       exact ofE 6 A s H
      |false=>
       rw[if_neg (by show ¬(cZ T i Ja=true);rw[show cZ T i Ja=false from b6];simp),aC] at H
       rw[if_neg (by simp)]
       refine aZ fun h A s=>aI rfl (bC ?_)
       refine jW (by omega) (by decide) A s (Post.mono H ?_ fun x f=>f.rest.rest)
       intro u i o H h A s
       refine aB (gW A rfl rfl fun h A=> ?_)
       exact BJ (c:=RL 7 [] .nilSlc Z8 []) (v:=⟨7,[],[],uJ,[]⟩) (by omega) A (fun h q=>⟨.nilSlc,[],Z8,rfl,View.nil h 9,(show qw h [] [] from rfl),RE.zero⟩) s H
end
@[reducible] def oQ (f:Ey):List AV:=[.str f.name, .int .i64 f.ty, .str f.cls]
def RK (h:ah) (c:List AV) (k:Cls):Prop:=∃v,c=[.str k.name, .str k.super,v]∧View h 3 v (k.fields.map oQ)
section
variable {h:ah} {L:jf} {S:List Sl} {F:List (ah→Prop)} {p mp en i n:Nat} {o:Int} {tv:AV} {T:List Lx} {K Q k:au}
theorem RK.cells {c:List AV} {a:Cls} (R:RK h c a):c.length=3∧aD c=true∧rQ c:=by
 obtain⟨v,rfl,V⟩:=R
 exact⟨rfl,aJ rfl (aJ rfl (aJ V.leaf rfl)), .cons (.str _) (.cons (.str _) (.cons V.kM .nil))⟩
@[reducible] def Z3f:List AV:=[.str [], .int .i64 0, .str []]
theorem UL {e1 e2:Nat×fB} {r a:Nat} {c:List AV} (A:Cx h (e1 :: vr a c :: vr r Z3f :: L) S F) (h1:c.length=3) (h2:aD c=true) (H:∀h,Cx h (e1 :: L) S F→K (.agg c) h=true):tK (av E n) n (.ptr r 0 0 0) (.ptr a 0 0 0) h K=true:=by
 unfold tK
 refine iw A.v1 h1 ?_
 exact gL A.rest1 rfl h1 rfl h2 fun h A=>vT A.v1 h1 (H h A.rest1)
theorem c34 [b:BaseF tv mp T F] (hn:12≤n) (A:Cx h (vr p (pc tv mp en i o) :: L) S F) (s:dJ T en i o)
 (H:Post (vB T i o) (Ql K (fun f=> .agg (oQ f)) p mp en tv T L S F) (FK K p mp en tv T L S F)):av E n (.func 34) [.ptr p 0 0 0] h K=true:=by
 obtain⟨n,rfl⟩:∃m,n=m+1:=⟨n-1,by omega⟩
 apply d34
 unfold s34
 refine bT A rfl rfl rfl fun r h A=> ?_
 unfold vB at H
 rw[aC] at H
 refine c31 (by omega) A s (Post.mono H ?_ fun x f=>FK.pz' f.rest)
 intro nm i o H h A s
 refine aI rfl ?_
 unfold Ik
 refine dQ rfl ?_
 refine bT A rfl rfl rfl fun a h A=> ?_
 refine gL (l:=[.str nm, .int .i64 0, .str []]) A rfl rfl rfl rfl fun h A=> ?_
 rw[aC] at H
 refine jW (by omega) (by decide) A s (Post.mono H ?_ fun x f=>f.rest.rest)
 intro u i o H h A s
 have fin:∀(ty:Int) {h i o},Cx h (vr p (pc tv mp en i o) :: vr a [.str nm, .int .i64 0, .str []] :: vr r Z3f :: L) S F→dJ T en i o→Ql K (fun f=> .agg (oQ f)) p mp en tv T L S F ⟨nm,ty,[]⟩ i o→
  (aA 1 (.ptr a 0 0 0) fun v9=>bJ h v9 (.int .i64 ty) fun h=>tK (av E n) n (.ptr r 0 0 0) (.ptr a 0 0 0) h K)=true:=by
  intro ty h i o A s H
  refine aB (gW A rfl rfl fun h A=> ?_)
  exact UL (c:=[.str nm, .int .i64 ty, .str []]) (e2:=(0, .gone)) A rfl rfl fun h A=>H h A s
 refine c19 (by omega) (by decide) A s ?_
 unfold fq
 cases b1:cZ T i [105,110,116] with
 |true=>
  rw[if_pos (show cZ T i QJ=true from b1)] at H
  rw[if_pos rfl]
  exact aZ fun h A s=>aI rfl (bN (fin 2 A s H))
 |false=>
 rw[if_neg (by show ¬(cZ T i QJ=true);rw[show cZ T i QJ=false from b1];simp)] at H
 rw[if_neg (by simp)]
 refine aZ fun h A s=>aI rfl (bC ?_)
 refine c19 (by omega) (by decide) A s ?_
 unfold fq
 cases b2:cZ T i [98,111,111,108] with
 |true=>
  rw[if_pos (show cZ T i Ir=true from b2)] at H
  rw[if_pos rfl]
  exact aZ fun h A s=>aI rfl (bN (fin 1 A s H))
 |false=>
 rw[if_neg (by show ¬(cZ T i Ir=true);rw[show cZ T i Ir=false from b2];simp)] at H
 rw[if_neg (by simp)]
 refine aZ fun h A s=>aI rfl (bC ?_)
 refine c19 (by omega) (by decide) A s ?_
 unfold fq
 cases b3:cZ T i [116,101,120,116] with
 |true=>
  rw[if_pos (show cZ T i Gz=true from b3)] at H
  rw[if_pos rfl]
  exact aZ fun h A s=>aI rfl (bN (fin 3 A s H))
 |false=>
 rw[if_neg (by show ¬(cZ T i Gz=true);rw[show cZ T i Gz=false from b3];simp)] at H
 rw[if_neg (by simp)]
 refine aZ fun h A s=>aI rfl (bC ?_)
 refine c19 (by omega) (by decide) A s ?_
 unfold fq
 cases b4:cZ T i [108,105,115,116] with
 |true=>
  rw[if_pos (show cZ T i qD=true from b4)] at H
  rw[if_pos rfl]
  exact aZ fun h A s=>aI rfl (bN (fin 4 A s H))
 |false=>
 rw[if_neg (by show ¬(cZ T i qD=true);rw[show cZ T i qD=false from b4];simp)] at H
 rw[if_neg (by simp)]
 refine aZ fun h A s=>aI rfl (bC ?_)
 refine c19 (by omega) (by decide) A s ?_
 unfold fq
 cases b5:cZ T i [97,110,121] with
 |true=>
  rw[if_pos (show cZ T i Ri=true from b5)] at H
  rw[if_pos rfl]
  exact aZ fun h A s=>aI rfl (bN (fin 0 A s H))
 |false=>
 rw[if_neg (by show ¬(cZ T i Ri=true);rw[show cZ T i Ri=false from b5];simp),aC] at H
 rw[if_neg (by simp)]
 refine aZ fun h A s=>aI rfl (bC ?_)
 refine jW (by omega) (by decide) A s (Post.mono H ?_ fun x f=>f.rest.rest)
 intro u i o H h A s
 rw[aC] at H
 refine c31 (by omega) A s (Post.mono H ?_ fun x f=>FK.pz' f.rest.rest)
 intro cl i o H h A s
 refine aI rfl ?_
 unfold CB
 refine aB (gW A rfl rfl fun h A=> ?_)
 refine aB (gW A rfl rfl fun h A=> ?_)
 exact UL (c:=[.str nm, .int .i64 5, .str cl]) (e2:=(0, .gone)) A rfl rfl fun h A=>H h A s
def OkK (K:au) (p mp en:Nat) (tv:AV) (T:List Lx) (L:jf) (S:List Sl) (F:List (ah→Prop)):Cls→Nat→Int→Prop:=fun v i o=>∀h c,Cx h (vr p (pc tv mp en i o) :: L) S ((fun h=>RK h c v) :: F)→dJ T en i o→K (.agg c) h=true
@[reducible] def Z3c:List AV:=[.str [], .str [], .nilSlc]
theorem c20 {kk:Nat} (hk:kk≤100000) (hn:kk+30≤n) [b:BaseF tv mp T F] (A:Cx h (vr p (pc tv mp en i o) :: L) S F) (s:dJ T en i o)
 (H:Post (xu T kk i o) (OkK K p mp en tv T L S F) (FK K p mp en tv T L S F)):av E n (.func 20) [.ptr p 0 0 0] h K=true:=by
 obtain⟨n,rfl⟩:∃m,n=m+1:=⟨n-1,by omega⟩
 have hmo:most=1099511627776:=rfl
 apply d20
 unfold s20
 refine bT A rfl rfl rfl fun r h A=> ?_
 unfold xu at H
 rw[aC] at H
 refine c31 (by omega) A s (Post.mono H ?_ fun x f=>FK.pz' f.rest)
 intro nm i o H h A s
 refine aI rfl ?_
 unfold JA
 refine dQ rfl ?_
 refine bT A rfl rfl rfl fun a h A=> ?_
 refine gL (l:=[.str nm, .str [], .nilSlc]) A rfl rfl rfl rfl fun h A=> ?_
 have loop:∀kq m first (su:Str) {h i o v} {fs:List Ey},kq≤m→fs.length+kq≤100000→Cx h (vr p (pc tv mp en i o) :: vr a [.str nm, .str su,v] :: vr r Z3c :: L) (⟨v,3,fs.map oQ⟩ :: S) F→dJ T en i o→
  Post (iO T kq first fs i o) (fun fs i o=>Post (bnd (dD T [125]) (fun _=>ret ⟨nm,su,fs⟩) i o) (OkK K p mp en tv T L S F) (FK K p mp en tv T L S F)) (FK K p mp en tv T L S F)→
  Dt (av E n) n m (.ptr p 0 0 0) (.ptr r 0 0 0) (.ptr a 0 0 0) (.bool first) h K=true:=by
  intro kq
  induction kq with
  |zero=>intro m first su h i o v fs hm hf A s H;exact absurd H (by unfold iO;exact fun q=>q)
  |succ kq ih=>
   intro m first su h i o v fs hm hf A s H
   obtain⟨m,rfl⟩:∃q,m=q+1:=⟨m-1,by omega⟩
   have shut:∀{h},Cx h (vr p (pc tv mp en i o) :: vr a [.str nm, .str su,v] :: vr r Z3c :: L) (⟨v,3,fs.map oQ⟩ :: S) F→Post (bnd (dD T [125]) (fun _=>ret ⟨nm,su,fs⟩) i o) (OkK K p mp en tv T L S F) (FK K p mp en tv T L S F)→
    Lv (av E n) n (.ptr p 0 0 0) (.ptr r 0 0 0) (.ptr a 0 0 0) h K=true:=by
    intro h A H
    unfold Lv
    rw[aC] at H
    have A:=A.freeze
    refine Y7 (by omega) (by decide) A s (Post.mono H ?_ fun x f=>FK.pz' f.rest.rest.drop)
    intro u i o H h A s
    refine aI rfl (iw A.v1 rfl ?_)
    have A:=A.rest1.imp (R:=fun h=>RK h [.str nm, .str su,v] ⟨nm,su,fs⟩) fun h V=>⟨v,rfl,V⟩
    obtain⟨w1,w2,_⟩:=(A.f0:RK h _ _).cells
    exact gL A rfl rfl rfl w2 fun h A=>vT A.v1 rfl (H h _ A.rest1 s)
   have more:∀{h i o},Cx h (vr p (pc tv mp en i o) :: vr a [.str nm, .str su,v] :: vr r Z3c :: L) (⟨v,3,fs.map oQ⟩ :: S) F→dJ T en i o→
    Post (bnd (vB T) (fun f=>iO T kq false (fs++[f])) i o) (fun fs i o=>Post (bnd (dD T [125]) (fun _=>ret ⟨nm,su,fs⟩) i o) (OkK K p mp en tv T L S F) (FK K p mp en tv T L S F)) (FK K p mp en tv T L S F)→
    (av E n (.func 34) [.ptr p 0 0 0] h <| pz K fun v28 h=>ay h (.ptr a 0 0 2) <| dN v <| aW (bG h 1 3 [.str [], .int .i64 0, .str []] [(0,v28)]) fun v29 h=>ay h (.ptr a 0 0 2) <| dN v <| pV h 3 40 v v29 fun v30 h=>aA 2 (.ptr a 0 0 0) fun v31=>bJ h v31 v30 fun h=>Dt (av E n) n m (.ptr p 0 0 0) (.ptr r 0 0 0) (.ptr a 0 0 0) (.bool false) h K)=true:=by
    intro h i o A s H
    have V:kM v:=A.view.kM
    rw[aC] at H
    refine c34 (by omega) A s (Post.mono H ?_ fun x f=>FK.pz' fun h i o A=>f h i o A.freeze.dropF.rest1.rest1)
    intro f i o H h A s
    refine aI rfl (aG A.v1 rfl (dU V ?_))
    refine kT A rfl rfl rfl rfl rfl rfl fun vb h A _=> ?_
    refine aG A.v1 rfl (dU V ?_)
    refine qA A rfl A.f0.src ?_ ?_ fun v' h A _=> ?_
    ·show((fs.map oQ).length+1)*40≤most;rw[List.length_map];omega
    ·show(fs.map oQ).length+1≤most;rw[List.length_map];omega
    refine aB (gW A rfl A.leafS fun h A=> ?_)
    refine ih m false su (v:=v') (fs:=fs++[f]) (by omega) (by simp;omega) ?_ s H
    rw[show(fs++[f]).map oQ=fs.map oQ++[oQ f] from by simp]
    exact A.dropF
   rw[Yy]
   unfold MS
   unfold iO at H
   cases first with
   |true=>
    rw[if_pos rfl] at H
    refine bH ?_;refine aY ?_;refine dR ?_
    refine Uw (d:=0) (by omega) (by omega) (by decide) A s fun h A=>aI rfl ?_
    unfold yC
    rw[Nat.add_zero]
    cases e:cZ T i [125] with
    |true=>
     rw[if_pos e] at H
     repeat first |(with_reducible first |refine aY ?_ |refine bY ?_ |refine bH ?_ |refine bV ?_ |refine fH ?_ |refine qy ?_ |refine dV ?_)
     unfold qP
     refine fH ?_;refine rJ ?_;refine zB ?_
     unfold qM
     refine fH ?_;refine bV ?_;refine eG ?_;refine eG ?_;refine bC ?_
     exact shut A H
    |false=>
     rw[if_neg (by rw[e];simp)] at H
     refine bH ?_;refine dn ?_;refine dV ?_;refine lK ?_;refine lK ?_;refine lK ?_;refine rJ ?_;refine zB ?_
     unfold qP
     refine rJ ?_;refine rJ ?_;refine zB ?_
     unfold qM
     refine rJ ?_;refine lK ?_;refine dV ?_;refine bN ?_;refine aB ?_;refine aG A.v1 rfl ?_
     exact more A s H
   |false=>
    rw[if_neg (by simp)] at H
    refine fH ?_;refine qy ?_
    unfold yC
    repeat first |(with_reducible first |refine aY ?_ |refine dn ?_ |refine bH ?_ |refine bV ?_ |refine fH ?_ |refine dR ?_ |refine eG ?_)
    refine c19 (by omega) (by decide) A s ?_
    unfold fq
    cases e:cZ T i [44] with
    |true=>
     rw[if_pos e] at H
     rw[if_pos rfl]
     refine aZ fun h A s=>aI rfl ?_
     unfold qP
     refine bH ?_;refine aY ?_;refine lK ?_;refine acn ?_
     unfold qM
     refine bH ?_;refine dV ?_;refine bV ?_;refine dV ?_;refine eG ?_;refine bN ?_;refine aB ?_;refine aG A.v1 rfl ?_
     exact more A s H
    |false=>
     rw[if_neg (by rw[e];simp)] at H
     rw[if_neg (by simp)]
     refine aZ fun h A s=>aI rfl ?_
     unfold qP
     refine bH ?_;refine aY ?_;refine bV ?_;refine aY ?_;refine eX ?_
     refine c33 (by omega) A s fun h A=>aI rfl ?_
     unfold qM
     cases e2:ou T i with
     |true=>
      rw[if_pos e2] at H
      refine bH ?_;refine eG ?_;refine bV ?_;refine dV ?_;refine eG ?_;refine bN ?_;refine aB ?_;refine aG A.v1 rfl ?_
      exact more A s H
     |false=>
      rw[if_neg (by rw[e2];simp)] at H
      refine bH ?_;refine eG ?_;refine bV ?_;refine dV ?_;refine eG ?_;refine bC ?_
      exact shut A H
 have opn:∀(su:Str) {h i o},Cx h (vr p (pc tv mp en i o) :: vr a [.str nm, .str su, .nilSlc] :: vr r Z3c :: L) S F→dJ T en i o→
  Post (bnd (eP T [123]) (fun _=>bnd (iO T kk true []) fun fs=>bnd (dD T [125]) fun _=>ret ⟨nm,su,fs⟩) i o) (OkK K p mp en tv T L S F) (FK K p mp en tv T L S F)→F8 (av E n) n (.ptr p 0 0 0) (.ptr r 0 0 0) (.ptr a 0 0 0) h K=true:=by
  intro su h i o A s H
  unfold F8
  rw[aC] at H
  refine c32 (by omega) (by decide) A s (Post.mono H ?_ fun x f=>FK.pz' f.rest.rest)
  intro u i o H h A s
  refine aI rfl ?_
  rw[aC] at H
  exact loop kk n true su (fs:=[]) (by omega) (by simpa using hk) (A.slc 3) s H
 rw[aC] at H
 unfold MO at H
 rw[aC] at H
 refine c19 (by omega) (by decide) A s (Post.mono H ?_ fun _ _=>trivial)
 intro bb i o H h A s
 refine aI rfl ?_
 cases bb with
 |true=>
  rw[if_pos rfl] at H
  refine bN ?_
  refine c31 (by omega) A s (Post.mono H ?_ fun x f=>FK.pz' f.rest.rest)
  intro su i o H h A s
  refine aI rfl ?_
  unfold Jr
  refine aB (gW A rfl rfl fun h A=> ?_)
  exact opn su A s H
 |false=>
  rw[if_neg (by simp)] at H
  refine bC ?_
  exact opn [] A s H
theorem c37 (hn:8≤n) [b:BaseF tv mp T F] (A:Cx h (vr p (pc tv mp en i o) :: L) S F) (s:dJ T en i o)
 (H:Post (Oh T i o) (Ql K (fun v=> .int .i64 v) p mp en tv T L S F) (FK K p mp en tv T L S F)):av E n (.func 37) [.ptr p 0 0 0] h K=true:=by
 obtain⟨n,rfl⟩:∃m,n=m+1:=⟨n-1,by omega⟩
 have hl:=s.len
 have hlim:=qH
 apply d37
 unfold s37
 unfold Oh at H
 rw[aC] at H
 refine c19 (by omega) (by decide) A s (Post.mono H ?_ fun _ _=>trivial)
 intro least i o H h A s
 refine aI rfl ?_
 refine c55 (k:=2) (by omega) A s fun h A=>aI rfl ?_
 unfold Jb
 cases k2:eB T i 2 with
 |false=>
  rw[if_neg (by rw[k2];simp)] at H
  exact Nr (by omega) A s (FK.pz' H)
 |true=>
  rw[if_pos k2] at H
  obtain⟨n1,n2,n3⟩:=Vh s k2
  have hi:=qY k2
  refine Nr (by omega) A s (aZ fun h A s=>aI rfl ?_)
  refine c51 (d:=0) (by omega) (by omega) A s fun h A=>aI rfl ?_
  rw[Nat.add_zero]
  obtain⟨x1,x2,ea⟩:=CP T i
  rw[ea]
  unfold GD
  refine OV rfl ?_
  refine c56 (by omega) A b.gv n1 n2 ?_ ?_
  ·intro v ev
   rw[ev] at H
   simp only at H
   have h0:=n3 v ev
   refine aI rfl ?_
   unfold Bf
   refine jl ?_;refine jh ?_;refine oU (show D6 h false .ifn .nilIf .nilIf=some (.bool true) from rfl) ?_;refine bH ?_;refine aY ?_;refine bH ?_;refine PY ?_;refine dV ?_
   cases hc:decide (v≤2147483648) with
   |false=>
    rw[if_neg (of_decide_eq_false hc)] at H
    exact Nr (by omega) A s (FK.pz' H)
   |true=>
    have hv:=of_decide_eq_true hc
    rw[if_pos hv] at H
    refine Nr (by omega) A s (aZ fun h A s=>aI rfl ?_)
    refine dW ?_;refine aB ?_;refine aG A.var rfl ?_;refine lD (show i+1≤lim by omega) ?_;refine dW ?_;refine aB ?_
    refine BA A rfl rfl fun h A=> ?_
    have s:=s.step hi
    cases least with
    |true=>
     rw[if_pos rfl] at H
     refine bN (oU (v:= .int .i64 (-v)) ?_ (H h A s))
     simp only[Xm]
     rw[wrap64 (by omega) (by omega),Int.zero_sub]
    |false=>
     rw[if_neg (by simp)] at H
     exact bC (H h A s)
  ·intro ev h u w A
   rw[ev] at H
   refine aI rfl ?_
   unfold Bf
   refine jl ?_;refine jh ?_;refine oU (show D6 h false .ifn (.ifc 151 w) .nilIf=some (.bool false) from rfl) ?_;refine fH ?_;refine fH ?_;refine eG ?_
   exact Nr (by omega) A s (FK.pz' H)
end
def zG (h:ah):List (List AV)→List Act→Prop
 |es,[]=>es=[]
 |es,a :: l=>∃c r,es=c :: r∧RA h c a∧zG h r l
@[reducible] def Xk (r:Fy) (vw vt:AV):List AV:=[.str r.name, .int .i64 r.sal, .str r.group, .str r.flow, .bool r.noloop, .bool r.lock,vw,vt]
def RR (h:ah) (c:List AV) (r:Fy):Prop:=∃vw ew vt et,c=Xk r vw vt∧View h 19 vw ew∧jY h ew r.whn∧View h 12 vt et∧zG h et r.thn
def RQ (h:ah) (c:List AV) (q:Nt):Prop:=∃vp vw ew,c=[.str q.name,vp,vw]∧View h 1 vp (q.params.map oC)∧View h 19 vw ew∧jY h ew q.whn
section
variable {h:ah} {L:jf} {S:List Sl} {F:List (ah→Prop)} {p mp en i n:Nat} {o:Int} {tv:AV} {T:List Lx} {K Q k:au}
theorem zG.app {es es':List (List AV)} {l l':List Act} (R:zG h es l) (R':zG h es' l'):zG h (es++es') (l++l'):=by
 induction l generalizing es with
 |nil=>simp only[zG] at R;subst R;exact R'
 |cons b l ih=>
  simp only[zG] at R
  obtain⟨c,r,rfl,R1,R2⟩:=R
  exact⟨c,r++es',rfl,R1,ih R2⟩
theorem zG.one {c:List AV} {a:Act} (R:RA h c a):zG h [c] [a]:=⟨c,[],rfl,R,rfl⟩
theorem zG.len {es:List (List AV)} {l:List Act} (R:zG h es l):es.length=l.length:=by
 induction l generalizing es with
 |nil=>simp only[zG] at R;subst R;rfl
 |cons b l ih=>
  simp only[zG] at R
  obtain⟨c,r,rfl,R1,R2⟩:=R
  simp[ih R2]
theorem WS {r:Fy} {vw vt:AV} (h1:vw.leaf=true) (h2:vt.leaf=true):aD (Xk r vw vt)=true:=
 aJ rfl (aJ rfl (aJ rfl (aJ rfl (aJ rfl (aJ rfl (aJ h1 (aJ h2 rfl)))))))
theorem RR.cells {c:List AV} {r:Fy} (R:RR h c r):c.length=8∧aD c=true∧rQ c:=by
 obtain⟨vw,ew,vt,et,rfl,V1,_,V2,_⟩:=R
 exact⟨rfl,WS V1.leaf V2.leaf, .cons (.str _) (.cons (.int _ _) (.cons (.str _) (.cons (.str _) (.cons (.bool _) (.cons (.bool _) (.cons V1.kM (.cons V2.kM .nil)))))))⟩
theorem RQ.cells {c:List AV} {r:Nt} (R:RQ h c r):c.length=3∧aD c=true∧rQ c:=by
 obtain⟨vp,vw,ew,rfl,V1,V2,_⟩:=R
 exact⟨rfl,aJ rfl (aJ V1.leaf (aJ V2.leaf rfl)), .cons (.str _) (.cons V1.kM (.cons V2.kM .nil))⟩
def OkR (K:au) (p mp en:Nat) (tv:AV) (T:List Lx) (L:jf) (S:List Sl) (F:List (ah→Prop)):Fy→Nat→Int→Prop:=fun v i o=>∀h c,Cx h (vr p (pc tv mp en i o) :: L) S ((fun h=>RR h c v) :: F)→dJ T en i o→K (.agg c) h=true
def OkQ (K:au) (p mp en:Nat) (tv:AV) (T:List Lx) (L:jf) (S:List Sl) (F:List (ah→Prop)):Nt→Nat→Int→Prop:=fun v i o=>∀h c,Cx h (vr p (pc tv mp en i o) :: L) S ((fun h=>RQ h c v) :: F)→dJ T en i o→K (.agg c) h=true
@[reducible] def Z8r:List AV:=[.str [], .int .i64 0, .str [], .str [], .bool false, .bool false, .nilSlc, .nilSlc]
theorem c38 {kk:Nat} (hk:kk≤100000) (hn:4*kk+81≤n) [b:BaseF tv mp T F] {ve:AV} {ends:List Str} (hw:∀w∈ends,w≠[]) (he:ends.length≤10) (kv:Knows L S F (fun h=>View h 1 ve (ends.map oC)))
 (A:Cx h (vr p (pc tv mp en i o) :: L) S F) (s:dJ T en i o)
 (H:Post (jq T kk ends [] i o) (OkL 100000 K p mp en tv T L S F) (FK K p mp en tv T L S F)):av E n (.func 38) [.ptr p 0 0 0,ve] h K=true:=by
 obtain⟨n,rfl⟩:∃m,n=m+1:=⟨n-1,by omega⟩
 apply d38
 unfold s38
 have A:=(A.slc 19).tru (R:=fun h=>jY h [] []) fun h=>jY.nil
 exact(YZ kk hk).conds (by omega) (by omega) hw he kv (by simpa using hk) A s H
theorem c21 {kk:Nat} (hk:kk≤100000) (hn:4*kk+90≤n) [b:BaseF tv mp T F] (A:Cx h (vr p (pc tv mp en i o) :: L) S F) (s:dJ T en i o)
 (H:Post (E5 T kk i o) (OkR K p mp en tv T L S F) (FK K p mp en tv T L S F)):av E n (.func 21) [.ptr p 0 0 0] h K=true:=by
 obtain⟨n,rfl⟩:∃m,n=m+1:=⟨n-1,by omega⟩
 have hmo:most=1099511627776:=rfl
 apply d21
 unfold s21
 refine bT A rfl rfl rfl fun r h A=> ?_
 unfold E5 at H
 rw[aC] at H
 refine c36 (by omega) A s (Post.mono H ?_ fun x f=>FK.pz' f.rest)
 intro nm i o H h A s
 refine aI rfl ?_
 unfold GN
 refine dQ rfl ?_
 refine bT A rfl rfl rfl fun a h A=> ?_
 refine gL (l:=Xk ⟨nm,0,[],[],false,false,[],[]⟩ .nilSlc .nilSlc) A rfl rfl rfl rfl fun h A=> ?_
 have acts:∀kq m (ru:Fy) (w:List Cd) (vw:AV) (ew:List (List AV)) {h i o vt et} {acc:List Act},vw.leaf=true→kq≤m→acc.length+kq≤100000→
  Cx h (vr p (pc tv mp en i o) :: vr a (Xk ru vw vt) :: vr r Z8r :: L) (⟨vt,12,et⟩ :: S) ((fun h=>zG h et acc) :: (fun h=>jY h ew w) :: (fun h=>View h 19 vw ew) :: F)→dJ T en i o→
  Post (rP T kk kq acc i o) (fun t i o=>Post (ret {ru with whn:=w,thn:=t} i o) (OkR K p mp en tv T L S F) (FK K p mp en tv T L S F)) (FK K p mp en tv T L S F)→
  JF (av E n) n m (.ptr p 0 0 0) (.ptr r 0 0 0) (.ptr a 0 0 0) h K=true:=by
  intro kq
  induction kq with
  |zero=>intro m ru w vw ew h i o vt et acc hvl hm hf A s H;exact absurd H (by unfold rP;exact fun q=>q)
  |succ kq ih=>
   intro m ru w vw ew h i o vt et acc hvl hm hf A s H
   obtain⟨m,rfl⟩:∃q,m=q+1:=⟨m-1,by omega⟩
   have hlen:=(A.f0:zG h et acc).len
   rw[X8]
   unfold Ng
   refine c19 (by omega) (by decide) A s ?_
   unfold fq
   unfold rP at H
   cases e:cZ T i [101,110,100] with
   |true=>
    rw[if_pos (show cZ T i yQ=true from e)] at H
    rw[if_pos rfl]
    refine aZ fun h A s=>aI rfl ?_
    unfold yI
    refine bY ?_;refine bC ?_
    unfold Qr
    have A:=A.freeze
    refine iw A.v1 rfl ?_
    have A:=A.rest1.add (R:=fun h=>RR h (Xk ru vw vt) {ru with whn:=w,thn:=acc}) fun h q=>
     ⟨vw,ew,vt,et,rfl,q (fun h=>View h 19 vw ew) (by simp),q (fun h=>jY h ew w) (by simp),q (fun h=>View h 12 vt et) (by simp),q (fun h=>zG h et acc) (by simp)⟩
    obtain⟨w1,w2,_⟩:=(A.f0:RR h _ _).cells
    refine gL A rfl rfl rfl w2 fun h A=>vT A.v1 rfl ?_
    exact H h _ A.rest1.drop1.drop1.drop1.drop1 s
   |false=>
    rw[if_neg (by show ¬(cZ T i yQ=true);rw[show cZ T i yQ=false from e];simp),aC] at H
    rw[if_neg (by simp)]
    refine aZ fun h A s=>aI rfl ?_
    unfold yI
    have V:kM vt:=A.view.kM
    refine dn ?_;refine bN ?_;refine aB ?_;refine aG A.v1 rfl ?_
    refine c39 hk (by omega) A s (Post.mono H ?_ fun x f=>FK.pz' fun h i o A=>f h i o A.freeze.dropF.dropF.dropF.dropF.rest1.rest1)
    intro ac i o H h c A s
    obtain⟨w1,w2,w3⟩:=(A.f0:RA h c ac).cells
    refine aI rfl (aG A.v1 rfl (dU V ?_))
    refine kT A rfl rfl rfl rfl (gH w1 w2) rfl fun vb h A _=> ?_
    refine aG A.v1 rfl (dU V ?_)
    refine qA A rfl A.f0.src ?_ ?_ fun vt' h A _=> ?_
    ·show(et.length+1)*176≤most;omega
    ·show et.length+1≤most;omega
    refine aB (gW A rfl A.leafS fun h A=> ?_)
    have A:=A.dropF.imp2 (R:=fun h=>zG h (et++[c]) (acc++[ac])) fun h R1 R2=>R2.app (zG.one R1)
    exact ih m ru w vw ew hvl (by omega) (by simp;omega) A s H
 have head:∀kq m (ru:Fy) {h i o},kq≤m→Cx h (vr p (pc tv mp en i o) :: vr a (Xk ru .nilSlc .nilSlc) :: vr r Z8r :: L) S F→dJ T en i o→
  Post (lM T kq ru i o) (fun ru i o=>Post (bnd (jq T kk [Aw] []) (fun w=>bnd (dI T Aw) fun _=>bnd (rP T kk kk []) fun t=>ret {ru with whn:=w,thn:=t}) i o) (OkR K p mp en tv T L S F) (FK K p mp en tv T L S F)) (FK K p mp en tv T L S F)→
  P9 (av E n) n m (.ptr p 0 0 0) (.ptr r 0 0 0) (.ptr a 0 0 0) h K=true:=by
  intro kq
  induction kq with
  |zero=>intro m ru h i o hm A s H;exact absurd H (by unfold lM;exact fun q=>q)
  |succ kq ih=>
   intro m ru h i o hm A s H
   obtain⟨m,rfl⟩:∃q,m=q+1:=⟨m-1,by omega⟩
   rw[abA]
   unfold U9
   unfold lM at H
   refine c19 (by omega) (by decide) A s ?_
   unfold fq
   cases b1:cZ T i [119,104,101,110] with
   |true=>
    rw[if_pos (show cZ T i Pn=true from b1)] at H
    rw[if_pos rfl]
    refine aZ fun h A s=>aI rfl ?_
    unfold xW
    refine bY (bC ?_)
    unfold Sr
    have H:Post (bnd (jq T kk [Aw] []) (fun w=>bnd (dI T Aw) fun _=>bnd (rP T kk kk []) fun t=>ret {ru with whn:=w,thn:=t}) (i+1) o) (OkR K p mp en tv T L S F) (FK K p mp en tv T L S F):=H
    rw[aC] at H
    refine kT A rfl rfl rfl rfl rfl rfl fun ve h A _=> ?_
    refine c38 (ends:=[Aw]) hk (by omega) (by decide) (by decide) (Knows.mem (by exact List.mem_cons_self)) A s (Post.mono H ?_ fun x f=>FK.pz' f.rest.rest.drop)
    intro w i o H hl h v ew A s
    have hvl:=A.f1.leaf
    refine aI (CG A.f1) ?_
    unfold Eb
    refine aB (gW A rfl hvl fun h A=> ?_)
    rw[aC] at H
    have A:=A.facts' (F':=(fun h=>jY h ew w) :: (fun h=>View h 19 v ew) :: F) fun R m=>by
     simp only[List.mem_cons] at m ⊢
     rcases m with h |h |h
     ·exact .inl h
     ·exact .inr (.inl h)
     ·simp[h]
    refine jW (by omega) (by decide) A s (Post.mono H ?_ fun x f=>f.rest.rest.drop.drop)
    intro u i o H h A s
    rw[aC] at H
    have A:=(A.slc 12).tru (R:=fun h=>zG h [] []) fun h=>rfl
    exact acts kk n ru w v ew hvl (by omega) (by simpa using hk) A s H
   |false=>
   rw[if_neg (by show ¬(cZ T i Pn=true);rw[show cZ T i Pn=false from b1];simp)] at H
   rw[if_neg (by simp)]
   refine aZ fun h A s=>aI rfl ?_
   unfold xW
   refine dn (bN ?_)
   refine c19 (by omega) (by decide) A s ?_
   unfold fq
   cases b2:cZ T i [115,97,108,105,101,110,99,101] with
   |true=>
    rw[if_pos (show cZ T i abj=true from b2),aC] at H
    rw[if_pos rfl]
    refine aZ fun h A s=>aI rfl (bN ?_)
    refine c37 (by omega) A s (Post.mono H ?_ fun x f=>FK.pz' f.rest.rest)
    intro v i o H h A s
    refine aI rfl ?_
    unfold DT
    refine aB (gW A rfl rfl fun h A=> ?_)
    exact ih m {ru with sal:=v} (by omega) A s H
   |false=>
   rw[if_neg (by show ¬(cZ T i abj=true);rw[show cZ T i abj=false from b2];simp)] at H
   rw[if_neg (by simp)]
   refine aZ fun h A s=>aI rfl (bC ?_)
   refine c19 (by omega) (by decide) A s ?_
   unfold fq
   cases b3:cZ T i [103,114,111,117,112] with
   |true=>
    rw[if_pos (show cZ T i LU=true from b3),aC] at H
    rw[if_pos rfl]
    refine aZ fun h A s=>aI rfl (bN ?_)
    refine c36 (by omega) A s (Post.mono H ?_ fun x f=>FK.pz' f.rest.rest)
    intro v i o H h A s
    refine aI rfl ?_
    unfold En
    refine aB (gW A rfl rfl fun h A=> ?_)
    exact ih m {ru with group:=v} (by omega) A s H
   |false=>
   rw[if_neg (by show ¬(cZ T i LU=true);rw[show cZ T i LU=false from b3];simp)] at H
   rw[if_neg (by simp)]
   refine aZ fun h A s=>aI rfl (bC ?_)
   refine c19 (by omega) (by decide) A s ?_
   unfold fq
   cases b4:cZ T i [102,108,111,119] with
   |true=>
    rw[if_pos (show cZ T i Uh=true from b4),aC] at H
    rw[if_pos rfl]
    refine aZ fun h A s=>aI rfl (bN ?_)
    refine c36 (by omega) A s (Post.mono H ?_ fun x f=>FK.pz' f.rest.rest)
    intro v i o H h A s
    refine aI rfl ?_
    unfold DJ
    refine aB (gW A rfl rfl fun h A=> ?_)
    exact ih m {ru with flow:=v} (by omega) A s H
   |false=>
   rw[if_neg (by show ¬(cZ T i Uh=true);rw[show cZ T i Uh=false from b4];simp)] at H
   rw[if_neg (by simp)]
   refine aZ fun h A s=>aI rfl (bC ?_)
   refine c19 (by omega) (by decide) A s ?_
   unfold fq
   cases b5:cZ T i [110,111,108,111,111,112] with
   |true=>
    rw[if_pos (show cZ T i FL=true from b5)] at H
    rw[if_pos rfl]
    refine aZ fun h A s=>aI rfl (bN ?_)
    refine aB (gW A rfl rfl fun h A=> ?_)
    exact ih m {ru with noloop:=true} (by omega) A s H
   |false=>
   rw[if_neg (by show ¬(cZ T i FL=true);rw[show cZ T i FL=false from b5];simp),aC] at H
   rw[if_neg (by simp)]
   refine aZ fun h A s=>aI rfl (bC ?_)
   refine jW (by omega) (by decide) A s (Post.mono H ?_ fun x f=>f.rest.rest)
   intro u i o H h A s
   refine aB (gW A rfl rfl fun h A=> ?_)
   exact ih m {ru with lock:=true} (by omega) A s H
 rw[aC] at H
 exact head kk n _ (by omega) A s H
@[reducible] def Pt (nm:Str) (vp vw:AV):List AV:=[.str nm,vp,vw]
@[reducible] def Z3q:List AV:=[.str [], .nilSlc, .nilSlc]
theorem c41 (hn:12≤n) [b:BaseF tv mp T F] {pb c r:Nat} {nm:Str} {vp:AV} {acc:List Str} (hacc:acc.length≤100000)
 (A:Cx h (vr p (pc tv mp en i o) :: vr c (Pt nm vp .nilSlc) :: vr r Z3q :: vr pb [.ptr p 0 0 0] :: L) (⟨vp,1,acc.map oC⟩ :: S) F) (s:dJ T en i o)
 (H:Post (rD T acc i o)
   (fun acc' i o=>acc'.length=acc.length+1→∀h vp,Cx h (vr p (pc tv mp en i o) :: vr c (Pt nm vp .nilSlc) :: vr r Z3q :: vr pb [.ptr p 0 0 0] :: L) (⟨vp,1,acc'.map oC⟩ :: S) F→dJ T en i o→K (.tup []) h=true)
   (fun x=>∀h i o,Cx h (vr p (pc tv mp en i o) :: vr c (Pt nm vp .nilSlc) :: vr r Z3q :: vr pb [.ptr p 0 0 0] :: L) (⟨vp,1,acc.map oC⟩ :: S) F→K (flt T en x) h=true)):
 av E n (.func 41) [.ptr c 0 0 0, .ptr pb 0 0 0] h K=true:=by
 obtain⟨n,rfl⟩:∃m,n=m+1:=⟨n-1,by omega⟩
 have hmo:most=1099511627776:=rfl
 apply d41
 unfold s41
 have V:kM vp:=A.view.kM
 refine aB ?_;refine aG A.v1 rfl ?_;refine aG A.v3 rfl ?_
 unfold rD at H
 rw[aC] at H
 refine c42 (by omega) A s (Post.mono H ?_ fun x f=>FK.pz' fun h i o A=>f h i o A)
 intro v i o H h A s
 refine aI rfl ?_
 refine aG A.v1 rfl ?_;refine dU V ?_
 refine kT A rfl rfl rfl rfl (vG rfl) rfl fun vb h A _=> ?_
 refine aG A.v1 rfl ?_;refine dU V ?_;refine aG A.v3 rfl ?_;refine dU (kM.ptr _ _ _ _) ?_
 refine qA A rfl A.f0.src ?_ ?_ fun vp' h A _=> ?_
 ·show((acc.map oC).length+1)*16≤most;rw[List.length_map];omega
 ·show(acc.map oC).length+1≤most;rw[List.length_map];omega
 refine aB (gW A rfl A.leafS fun h A=> ?_)
 refine H (by simp) h vp' ?_ s
 rw[show(acc++[v]).map oC=acc.map oC++[[.str v]] from by simp]
 exact A.dropF
theorem c23 {kk:Nat} (hk:kk≤100000) (hn:4*kk+90≤n) [b:BaseF tv mp T F] (A:Cx h (vr p (pc tv mp en i o) :: L) S F) (s:dJ T en i o)
 (H:Post (vM T kk i o) (OkQ K p mp en tv T L S F) (FK K p mp en tv T L S F)):av E n (.func 23) [.ptr p 0 0 0] h K=true:=by
 obtain⟨n,rfl⟩:∃m,n=m+1:=⟨n-1,by omega⟩
 apply d23
 unfold s23
 refine OU A rfl fun pb h A=> ?_
 refine bT A rfl rfl rfl fun r h A=> ?_
 refine aG A.v2 rfl ?_
 unfold vM at H
 rw[aC] at H
 refine c31 (by omega) A s (Post.mono H ?_ fun x f=>FK.pz' f.rest.rest)
 intro nm i o H h A s
 refine aI rfl ?_
 unfold I6
 refine dQ rfl ?_
 refine bT A rfl rfl rfl fun c h A=> ?_
 refine gL (l:=Pt nm .nilSlc .nilSlc) A rfl rfl rfl rfl fun h A=> ?_
 refine aG A.v3 rfl ?_
 rw[aC] at H
 refine c32 (by omega) (by decide) A s (Post.mono H ?_ fun x f=>FK.pz' f.rest.rest.rest)
 intro u i o H h A s
 refine aI rfl ?_
 refine aG A.v3 rfl ?_;refine aY ?_
 rw[aC] at H
 obtain⟨n,rfl⟩:∃m,n=m+1:=⟨n-1,by omega⟩
 have A:=A.slc 1
 refine c40 (one:=rD T) (kk:=kk) (s:=[])
  (C:=fun j acc L' S' F'=>∃vp,L'=vr c (Pt nm vp .nilSlc) :: vr r Z3q :: vr pb [.ptr p 0 0 0] :: L∧S'=⟨vp,1,acc.map oC⟩ :: S∧F=F'∧acc.length+j≤kk)
  (D:=fun L' S' F'=>∃(vp:AV) (acc:List Str),L'=vr c (Pt nm vp .nilSlc) :: vr r Z3q :: vr pb [.ptr p 0 0 0] :: L∧S'=⟨vp,1,acc.map oC⟩ :: S∧F=F')
  (fun{j s L S F} hC=>by obtain⟨_,_,_,rfl,_⟩:=hC;infer_instance)
  (fun{j s L S F} hC=>by obtain⟨vp,h1,h2,h3,_⟩:=hC;exact⟨vp,s,h1,h2,h3⟩)
  (by omega) (by decide) ?_ ⟨.nilSlc,rfl,rfl,rfl,by simp⟩ A s (Post.mono H ?_ ?_)
 ·intro j acc h L' S' F' i o K' hC A s H
  obtain⟨vp,rfl,rfl,rfl,hj⟩:=hC
  show av E n (.func 41) [.ptr c 0 0 0, .ptr pb 0 0 0] h K'=true
  refine c41 (acc:=acc) (by omega) (by omega) A s (Post.mono H ?_ ?_)
  ·intro acc' i o H hl h vp A s
   exact H h _ _ _ ⟨vp,rfl,rfl,rfl,by omega⟩ A s
  ·intro x f h i o A
   exact f h i o _ _ _ ⟨vp,acc,rfl,rfl,rfl⟩ A
 ·intro ps i o H h L' S' F' hC A s
  obtain⟨j,vp,rfl,rfl,rfl,hj⟩:=hC
  refine aI rfl ?_
  refine aG A.v3 rfl ?_
  have A:=A.freeze
  have hpl:=A.f0.leaf
  rw[aC] at H
  refine kT A rfl rfl rfl rfl rfl rfl fun ve h A _=> ?_
  refine c38 (ends:=[yQ]) hk (by omega) (by decide) (by decide) (Knows.mem (by exact List.mem_cons_self)) A s (Post.mono H ?_ fun x f=>FK.pz' f.rest.rest.rest.drop.drop)
  intro w i o H hl h vw ew A s
  have hvl:=A.f1.leaf
  refine aI (CG A.f1) ?_
  unfold Cy
  refine aB (gW A rfl hvl fun h A=> ?_)
  refine aG A.v3 rfl ?_
  rw[aC] at H
  refine jW (by omega) (by decide) A s (Post.mono H ?_ fun x f=>f.rest.rest.rest.drop.drop.drop.drop)
  intro u i o H h A s
  refine iw (c:=Pt nm vp vw) A.v1 rfl ?_
  have A:=A.rest1.add (R:=fun h=>RQ h (Pt nm vp vw) ⟨nm,ps,w⟩) fun h q=>
   ⟨vp,vw,ew,rfl,q (fun h=>View h 1 vp (ps.map oC)) (by simp),q (fun h=>View h 19 vw ew) (by simp),q (fun h=>jY h ew w) (by simp)⟩
  obtain⟨w1,w2,_⟩:=(A.f0:RQ h _ _).cells
  refine gL A rfl rfl rfl w2 fun h A=>vT A.v1 rfl ?_
  exact H h _ A.rest1.rest1.drop1.drop1.drop1.drop1 s
 ·intro x f h i o L' S' F' hD A
  obtain⟨vp,acc,rfl,rfl,rfl⟩:=hD
  exact f h i o A.freeze.dropF.rest1.rest1.rest1
end
def AB (h:ah):List (List AV)→List Cls→Prop
 |es,[]=>es=[]
 |es,a :: l=>∃c r,es=c :: r∧RK h c a∧AB h r l
def BG (h:ah):List (List AV)→List Fy→Prop
 |es,[]=>es=[]
 |es,a :: l=>∃c r,es=c :: r∧RR h c a∧BG h r l
def Br (h:ah):List (List AV)→List Nt→Prop
 |es,[]=>es=[]
 |es,a :: l=>∃c r,es=c :: r∧RQ h c a∧Br h r l
def sw (h:ah) (c:List AV) (b:Qp):Prop:=∃v0 e0 v1 e1 v2 e2,c=[v0,v1,v2]∧View h 3 v0 e0∧AB h e0 b.classes∧View h 8 v1 e1∧BG h e1 b.rules∧View h 3 v2 e2∧Br h e2 b.queries
section
variable {h:ah} {L:jf} {S:List Sl} {F:List (ah→Prop)} {p mp en i n:Nat} {o:Int} {tv:AV} {T:List Lx} {K Q k:au}
theorem AB.app {es es':List (List AV)} {l l':List Cls} (R:AB h es l) (R':AB h es' l'):AB h (es++es') (l++l'):=by
 induction l generalizing es with
 |nil=>simp only[AB] at R;subst R;exact R'
 |cons b l ih=>
  simp only[AB] at R
  obtain⟨c,r,rfl,R1,R2⟩:=R
  exact⟨c,r++es',rfl,R1,ih R2⟩
theorem BG.app {es es':List (List AV)} {l l':List Fy} (R:BG h es l) (R':BG h es' l'):BG h (es++es') (l++l'):=by
 induction l generalizing es with
 |nil=>simp only[BG] at R;subst R;exact R'
 |cons b l ih=>
  simp only[BG] at R
  obtain⟨c,r,rfl,R1,R2⟩:=R
  exact⟨c,r++es',rfl,R1,ih R2⟩
theorem Br.app {es es':List (List AV)} {l l':List Nt} (R:Br h es l) (R':Br h es' l'):Br h (es++es') (l++l'):=by
 induction l generalizing es with
 |nil=>simp only[Br] at R;subst R;exact R'
 |cons b l ih=>
  simp only[Br] at R
  obtain⟨c,r,rfl,R1,R2⟩:=R
  exact⟨c,r++es',rfl,R1,ih R2⟩
theorem AB.one {c:List AV} {a:Cls} (R:RK h c a):AB h [c] [a]:=⟨c,[],rfl,R,rfl⟩
theorem BG.one {c:List AV} {a:Fy} (R:RR h c a):BG h [c] [a]:=⟨c,[],rfl,R,rfl⟩
theorem Br.one {c:List AV} {a:Nt} (R:RQ h c a):Br h [c] [a]:=⟨c,[],rfl,R,rfl⟩
theorem AB.len {es:List (List AV)} {l:List Cls} (R:AB h es l):es.length=l.length:=by
 induction l generalizing es with
 |nil=>simp only[AB] at R;subst R;rfl
 |cons b l ih=>simp only[AB] at R;obtain⟨c,r,rfl,R1,R2⟩:=R;simp[ih R2]
theorem BG.len {es:List (List AV)} {l:List Fy} (R:BG h es l):es.length=l.length:=by
 induction l generalizing es with
 |nil=>simp only[BG] at R;subst R;rfl
 |cons b l ih=>simp only[BG] at R;obtain⟨c,r,rfl,R1,R2⟩:=R;simp[ih R2]
theorem Br.len {es:List (List AV)} {l:List Nt} (R:Br h es l):es.length=l.length:=by
 induction l generalizing es with
 |nil=>simp only[Br] at R;subst R;rfl
 |cons b l ih=>simp only[Br] at R;obtain⟨c,r,rfl,R1,R2⟩:=R;simp[ih R2]
theorem sw.cells {c:List AV} {b:Qp} (R:sw h c b):c.length=3∧aD c=true:=by
 obtain⟨v0,e0,v1,e1,v2,e2,rfl,V0,_,V1,_,V2,_⟩:=R
 exact⟨rfl,aJ V0.leaf (aJ V1.leaf (aJ V2.leaf rfl))⟩
theorem _root_.Go.Ab.Cx.rotS {a b c:Sl} (A:Cx h L (a :: b :: c :: S) F):Cx h L (c :: b :: a :: S) F:=A.perm (.refl _) (by
 exact((List.Perm.swap b c _).trans ((List.Perm.swap a c S).cons b)).trans (List.Perm.swap a b _))
def af8 (K:au) (p mp en:Nat) (tv:AV) (T:List Lx) (L:jf) (S:List Sl) (F:List (ah→Prop)):Qp→Nat→Int→Prop:=fun v i o=>∀h c,Cx h (vr p (pc tv mp en i o) :: L) S ((fun h=>sw h c v) :: F)→dJ T en i o→K (.agg c) h=true
@[reducible] def Qk:List AV:=[.nilSlc, .nilSlc, .nilSlc]
theorem c12 {kk kq:Nat} (hk:kk≤100000) (hq:kq≤100000) (hn:4*kk+100≤n) (hn2:kq+1≤n) [b:BaseF tv mp T F] (A:Cx h (vr p (pc tv mp en i o) :: L) S F) (s:dJ T en i o)
 (H:Post (lH T kk kq ⟨[],[],[]⟩ i o) (af8 K p mp en tv T L S F) (FK K p mp en tv T L S F)):av E n (.func 12) [.ptr p 0 0 0] h K=true:=by
 obtain⟨n,rfl⟩:∃m,n=m+1:=⟨n-1,by omega⟩
 have hmo:most=1099511627776:=rfl
 apply d12
 unfold s12
 refine bT A rfl rfl rfl fun r h A=> ?_
 refine bT A rfl rfl rfl fun a h A=> ?_
 have loop:∀kq m (ba:Qp) {h i o v0 e0 v1 e1 v2 e2},kq≤m→ba.classes.length+ba.rules.length+ba.queries.length+kq≤100000→
  Cx h (vr p (pc tv mp en i o) :: vr a [v0,v1,v2] :: vr r Qk :: L) (⟨v0,3,e0⟩ :: ⟨v1,8,e1⟩ :: ⟨v2,3,e2⟩ :: S) ((fun h=>AB h e0 ba.classes∧BG h e1 ba.rules∧Br h e2 ba.queries) :: F)→dJ T en i o→
  Post (lH T kk kq ba i o) (af8 K p mp en tv T L S F) (FK K p mp en tv T L S F)→OM (av E n) n m (.ptr p 0 0 0) (.ptr r 0 0 0) (.ptr a 0 0 0) h K=true:=by
  intro kq
  induction kq with
  |zero=>intro m ba h i o v0 e0 v1 e1 v2 e2 hm hf A s H;exact absurd H (by unfold lH;exact fun q=>q)
  |succ kq ih=>
   intro m ba h i o v0 e0 v1 e1 v2 e2 hm hf A s H
   obtain⟨m,rfl⟩:∃q,m=q+1:=⟨m-1,by omega⟩
   obtain⟨R0,R1,R2⟩:AB h e0 ba.classes∧BG h e1 ba.rules∧Br h e2 ba.queries:=A.f0
   have l0:=R0.len
   have l1:=R1.len
   have l2:=R2.len
   have V0:kM v0:=A.view.kM
   have V1:kM v1:=A.swapS.view.kM
   have V2:kM v2:=A.rotS.view.kM
   have pan:∀{x:Nat} {R:ah→Prop},FK K p mp en tv T L S F x→FK K p mp en tv T (vr a [v0,v1,v2] :: vr r Qk :: L) (⟨v0,3,e0⟩ :: ⟨v1,8,e1⟩ :: ⟨v2,3,e2⟩ :: S) (R :: F) x:=
    fun f h i o A=>f h i o A.freeze.freeze.freeze.dropF.dropF.dropF.dropF.rest1.rest1
   rw[abS]
   unfold UN
   have VT:View h 4 tv (T.map jP):=A.fact (List.mem_cons_of_mem _ b.tok)
   repeat first |(with_reducible first |refine dW ?_ |refine aB ?_ |refine iZ ?_ |refine aG A.var rfl ?_)|refine fD VT ?_
   rw[List.length_map]
   unfold lH at H
   cases hc:decide (i<T.length) with
   |false=>
    rw[if_neg (of_decide_eq_false hc)] at H
    refine bC ?_
    unfold RX
    have A:=A.freeze.freeze.freeze
    refine iw A.v1 rfl ?_
    have A:=A.rest1.add (R:=fun h=>sw h [v0,v1,v2] ba) fun h q=>by
     have RR:=q (fun h=>AB h e0 ba.classes∧BG h e1 ba.rules∧Br h e2 ba.queries) (by simp)
     exact⟨v0,e0,v1,e1,v2,e2,rfl,q (fun h=>View h 3 v0 e0) (by simp),RR.1,q (fun h=>View h 8 v1 e1) (by simp),RR.2.1,q (fun h=>View h 3 v2 e2) (by simp),RR.2.2⟩
    obtain⟨w1,w2⟩:=(A.f0:sw h _ _).cells
    refine gL A rfl rfl rfl w2 fun h A=>vT A.v1 rfl ?_
    exact H h _ A.rest1.drop1.drop1.drop1.drop1 s
   |true=>
    rw[if_pos (of_decide_eq_true hc)] at H
    refine bN ?_
    refine c19 (by omega) (by decide) A s ?_
    unfold fq
    cases b1:cZ T i [99,108,97,115,115] with
    |true=>
     rw[if_pos (show cZ T i Da=true from b1),aC] at H
     rw[if_pos rfl]
     refine aZ fun h A s=>aI rfl (bN ?_)
     refine aB (aG A.v1 rfl ?_)
     refine c20 hk (by omega) A s (Post.mono H ?_ fun x f=>FK.pz' (pan f))
     intro cl i o H h c A s
     obtain⟨w1,w2,_⟩:=(A.f0:RK h c cl).cells
     refine aI rfl (aG A.v1 rfl (dU V0 ?_))
     refine kT A rfl rfl rfl rfl (gH w1 w2) rfl fun vb h A _=> ?_
     refine aG A.v1 rfl (dU V0 ?_)
     refine qA A rfl A.f0.src ?_ ?_ fun v' h A _=> ?_
     ·show(e0.length+1)*56≤most;omega
     ·show e0.length+1≤most;omega
     refine aB (gW A rfl A.leafS fun h A=> ?_)
     have A:=A.dropF.imp2 (R:=fun h=>AB h (e0++[c]) (ba.classes++[cl])∧BG h e1 ba.rules∧Br h e2 ba.queries) fun h R RR=>⟨RR.1.app (AB.one R),RR.2⟩
     exact ih m {ba with classes:=ba.classes++[cl]} (by omega) (by simp;omega) A s H
    |false=>
    rw[if_neg (by show ¬(cZ T i Da=true);rw[show cZ T i Da=false from b1];simp)] at H
    rw[if_neg (by simp)]
    refine aZ fun h A s=>aI rfl (bC ?_)
    refine c19 (by omega) (by decide) A s ?_
    unfold fq
    cases b2:cZ T i [114,117,108,101] with
    |true=>
     rw[if_pos (show cZ T i Om=true from b2),aC] at H
     rw[if_pos rfl]
     refine aZ fun h A s=>aI rfl (bN ?_)
     refine aB (aG A.v1 rfl ?_)
     refine c21 hk (by omega) A s (Post.mono H ?_ fun x f=>FK.pz' (pan f))
     intro ru i o H h c A s
     obtain⟨w1,w2,_⟩:=(A.f0:RR h c ru).cells
     refine aI rfl (aG A.v1 rfl (dU V1 ?_))
     refine kT A rfl rfl rfl rfl (gH w1 w2) rfl fun vb h A _=> ?_
     refine aG A.v1 rfl (dU V1 ?_)
     refine qA A.swapS rfl A.f0.src ?_ ?_ fun v' h A _=> ?_
     ·show(e1.length+1)*112≤most;omega
     ·show e1.length+1≤most;omega
     refine aB (gW A rfl A.leafS fun h A=> ?_)
     have A:=A.swapS.dropF.imp2 (R:=fun h=>AB h e0 ba.classes∧BG h (e1++[c]) (ba.rules++[ru])∧Br h e2 ba.queries) fun h R RR=>⟨RR.1,RR.2.1.app (BG.one R),RR.2.2⟩
     exact ih m {ba with rules:=ba.rules++[ru]} (by omega) (by simp;omega) A s H
    |false=>
    rw[if_neg (by show ¬(cZ T i Om=true);rw[show cZ T i Om=false from b2];simp),aC] at H
    rw[if_neg (by simp)]
    refine aZ fun h A s=>aI rfl (bC ?_)
    refine jW (by omega) (by decide) A s (Post.mono H ?_ fun x f=>pan f)
    intro u i o H h A s
    rw[aC] at H
    refine aB (aG A.v1 rfl ?_)
    refine c23 hk (by omega) A s (Post.mono H ?_ fun x f=>FK.pz' (pan f))
    intro qu i o H h c A s
    obtain⟨w1,w2,_⟩:=(A.f0:RQ h c qu).cells
    refine aI rfl (aG A.v1 rfl (dU V2 ?_))
    refine kT A rfl rfl rfl rfl (gH w1 w2) rfl fun vb h A _=> ?_
    refine aG A.v1 rfl (dU V2 ?_)
    refine qA A.rotS rfl A.f0.src ?_ ?_ fun v' h A _=> ?_
    ·show(e2.length+1)*64≤most;omega
    ·show e2.length+1≤most;omega
    refine aB (gW A rfl A.leafS fun h A=> ?_)
    have A:=A.rotS.dropF.imp2 (R:=fun h=>AB h e0 ba.classes∧BG h e1 ba.rules∧Br h (e2++[c]) (ba.queries++[qu])) fun h R RR=>⟨RR.1,RR.2.1,RR.2.2.app (Br.one R)⟩
    exact ih m {ba with queries:=ba.queries++[qu]} (by omega) (by simp;omega) A s H
 have A:=(((A.slc 3).slc 8).slc 3).tru (R:=fun h=>AB h [] []∧BG h [] []∧Br h [] []) fun h=>⟨rfl,rfl,rfl⟩
 exact loop kq n ⟨[],[],[]⟩ (by omega) (by simpa using hq) A s H
end
section
variable {h:ah} {L:jf} {S:List Sl} {F:List (ah→Prop)} {p mp en i n:Nat} {o:Int} {tv:AV} {T:List Lx} {K Q k:au}
theorem ac2 {call:aj} {μ:Go.Ab.Mode} {d:Bool} {σ:Go.Ab.St} {KM:Go.Ab.KMo} (s:KM .normal d σ=true):Go.Ab.mO call n μ .skip d σ KM=true:=s
theorem VG {call:aj} {a b:Nat} {KD:MX} (s:KD .ret h=true):zF E call n 27 [.ptr a 0 0 0, .ptr b 0 0 0] .ret h KD=true:=by
 have hp:E.prim 27=none:=rfl
 have hc:E.code 27=some C27:=rfl
 simp only[zF,hp,hc]
 exact s
theorem Xl {call:aj} {a b:Nat} {x va vb:AV} {KD:MX} (A:Cx h (vr a [va] :: vr b [vb] :: L) S F) (hx:x.leaf=true) (s:∀h,Cx h (vr a [x] :: vr b [.int .i64 20] :: L) S F→KD .ret h=true):
 zF E call n 27 [.ptr a 0 0 0, .ptr b 0 0 0] (.pan (.ifc 93 (.agg [x]))) h KD=true:=by
 have hp:E.prim 27=none:=rfl
 have hc:E.code 27=some C27:=rfl
 simp only[zF,hp,hc]
 show mO call n (.pan (.ifc 93 (.agg [x]))) C27.body false ⟨oK 0 [.ptr a 0 0 0, .ptr b 0 0 0] .lf,h⟩ _=true
 refine OT (aha rfl ?_)
 show mO call n _ _ true ⟨((oK 0 [.ptr a 0 0 0, .ptr b 0 0 0] .lf).set 5 (.ifc 93 (.agg [x]))).set 2 (.ifc 93 (.agg [x])),h⟩ _=true
 refine OT (Vl rfl ?_)
 refine gU (v:= .ifc 93 (.agg [x])) (h':=h) rfl rfl (gU (v:= .bool true) (h':=h) rfl rfl (oq ?_))
 refine aa5 rfl (OT (Vl rfl ?_))
 refine gU (v:= .ifc 93 (.agg [x])) (h':=h) rfl rfl (gU (v:= .tup [.agg [x], .bool true]) (h':=h) rfl rfl (gU (v:= .tup [.agg [x], .bool true]) (h':=h) rfl rfl (gU (v:= .agg [x]) (h':=h) rfl rfl (gU (v:= .bool true) (h':=h) rfl rfl ?_))))
 obtain⟨h1,e1,A⟩:=A.alloc (z:=[.int .i64 0]) (by decide) rfl
 refine gU rfl e1 ?_
 obtain⟨h2,e2,A⟩:=A.store (n:=1) (off:=0) (v:= .agg [x]) rfl (by decide) (aJ hx rfl)
 refine gU (v:= .tup []) (h':=h2) rfl (by show unit (bW h1 1 _ _)=_;rw[show bW h1 1 _ _=some h2 from e2];rfl) ?_
 refine gU (v:= .bool true) (h':=h2) rfl rfl (oq ?_)
 refine OT (OT (Vl rfl ?_))
 refine gU (v:= .bool true) (h':=h2) rfl rfl (gU (v:= .bool false) (h':=h2) rfl rfl (oq ?_))
 show mO call n _ (.cond (.t 14) _ .skip) true _ _=true
 refine aaG rfl (ac2 ?_)
 show mO call n _ (.reg _) true _ _=true
 refine Vl rfl ?_
 refine gU (v:= .ptr h.sz 0 0 0) (h':=h2) rfl rfl ?_
 have A:Cx h2 (vr h.sz [x] :: vr a [va] :: vr b [vb] :: L) S F:=A
 have el:dZ h2 false 1 (.ptr h.sz 0 0 0)=some x:=by rw[A.var.load];rfl
 refine gU (v:=x) (h':=h2) rfl (by show bP (dZ h2 false 1 (.ptr h.sz 0 0 0)) h2=_;rw[el];rfl) ?_
 obtain⟨h3,e3,A⟩:=A.rest.set1 (off:=0) (v:=x) (by simp) hx
 refine gU (v:= .tup []) (h':=h3) rfl (by show unit (bW h2 1 _ _)=_;rw[show bW h2 1 _ _=some h3 from e3];rfl) ?_
 obtain⟨h4,e4,A⟩:=A.swapL.set1 (off:=0) (v:= .int .i64 20) (by simp) rfl
 refine gU (v:= .tup []) (h':=h4) rfl (by show unit (bW h3 1 _ _)=_;rw[show bW h3 1 _ _=some h4 from e4];rfl) (oq ?_)
 exact s h4 A.swapL
end
section
variable {h:ah} {L:jf} {S:List Sl} {F:List (ah→Prop)} {n:Nat} {K:au}
theorem _root_.Go.Ab.Cx.frozeO {id:Nat} {o:fB} (A:Cx h ((id,o) :: L) S F):Cx h L S ((fun h=>h.get id=some o) :: F):=by
 have C:=A.rest
 have hn:=A.nod
 have hs:places ((id,o) :: L) S=id :: places L S:=rfl
 rw[hs] at hn
 refine⟨C.ok,C.has,C.sls,C.nod,fun R m=> ?_⟩
 rcases List.mem_cons.1 m with rfl |m
 ·intro h' k
  exact k.2 id _ (fun q=>(List.nodup_cons.1 hn).1 q) (A.has _ List.mem_cons_self)
 ·exact C.facts R m
theorem VH (A:Cx h L S F) (s:∀id h',Cx h' ((id, .map [] 0) :: L) S F→K (.map id) h'=true):aW (wK h) K=true:=s _ _ (A.new _)
noncomputable def aav (kk:KK) (k v:AV) (es:List (AV×AV×Nat)) (c:Nat):Option (List (AV×AV×Nat)×Nat):=
 bif jA kk k then(match mK k es with
  |some (some _)=>some (QT k v es,c)
  |some none=>some (es++[(k,v,c)],c+1)
  |none=>none) else none
theorem aa0 {kk:KK} {k v:AV} {es es':List (AV×AV×Nat)} {c c' id:Nat} (hg:h.get id=some (.map es c)) (e:aav kk k v es c=some (es',c')):kG h kk (.map id) k v=some (h.put id (.map es' c')):=by
 unfold aav at e
 unfold kG
 cases hf:jA kk k with
 |false=>rw[hf] at e;cases e
 |true=>
  rw[hf,cond_true] at e
  simp only[cond_true,hg]
  cases hx:mK k es with
  |none=>rw[hx] at e;cases e
  |some x=>
   rw[hx] at e
   cases x<;>(simp only[Option.some.injEq,Prod.mk.injEq] at e;obtain⟨rfl,rfl⟩:=e;rfl)
theorem sS {kk:KK} {k v:AV} {es es':List (AV×AV×Nat)} {c c' id:Nat} (A:Cx h ((id, .map es c) :: L) S F) (e:aav kk k v es c=some (es',c')) (s:∀h',Cx h' ((id, .map es' c') :: L) S F→K (.tup []) h'=true):aW (unit (kG h kk (.map id) k v)) K=true:=by
 rw[aa0 (A.has _ List.mem_cons_self) e]
 exact s _ (A.wr _)
theorem Pe {kk:KK} {k v:AV} {es es':List (AV×AV×Nat)} {c c' id:Nat} {e1:Nat×fB} (A:Cx h (e1 :: (id, .map es c) :: L) S F) (e:aav kk k v es c=some (es',c')) (s:∀h',Cx h' (e1 :: (id, .map es' c') :: L) S F→K (.tup []) h'=true):aW (unit (kG h kk (.map id) k v)) K=true:=
 sS A.swapL e fun h' B=>s h' B.swapL
theorem uL {t u:Str} {v:AV} {m:Nat} {l:List (AV×AV×Nat)}:mK (.str t) ((.str u,v,m) :: l)=if t=u then some (some v) else mK (.str t) l:=by
 simp only[mK,AA,qX,pX]
 by_cases h:t=u
 ·simp[h]
 ·simp[h]
theorem Ca {id c:Nat} {es:List (AV×AV×Nat)} (hg:h.get id=some (.map es c)) (t:Str) {x:Option Int} (e:mK (.str t) es=some (x.map fun n=> .int .i64 n)):rY h (.leaf .str) true (.int .i64 0) (.map id) (.str t)=some (.tup [.int .i64 (x.getD 0), .bool x.isSome]):=by
 simp only[rY,jA,pW,cond_true,mapOf,hg,e]
 cases x<;>rfl
@[reducible] def EA:List (AV×AV×Nat):=[(.str [124,124], .int .i64 9,0)]
@[reducible] def EB:List (AV×AV×Nat):=[(.str [38,38], .int .i64 8,0)]
@[reducible] def EC:List (AV×AV×Nat):=[(.str [61,61], .int .i64 10,0),(.str [33,61], .int .i64 11,1),(.str [60], .int .i64 12,2),(.str [60,61], .int .i64 13,3),(.str [62], .int .i64 14,4),(.str [62,61], .int .i64 15,5)]
@[reducible] def ED:List (AV×AV×Nat):=[(.str [43], .int .i64 16,0),(.str [45], .int .i64 17,1)]
@[reducible] def EE:List (AV×AV×Nat):=[(.str [42], .int .i64 18,0),(.str [47], .int .i64 19,1),(.str [37], .int .i64 20,2)]
@[reducible] def EM (a b c d e:Nat):List (AV×AV×Nat):=[(.int .i64 0, .map a,0),(.int .i64 1, .map b,1),(.int .i64 2, .map c,2),(.int .i64 3, .map d,3),(.int .i64 4, .map e,4)]
def opsV (a b c d e:Nat):Nat→AV
 |0=> .map a
 |1=> .map b
 |2=> .map c
 |3=> .map d
 |_=> .map e
theorem uO {k:AV}:mK k []=some none:=rfl
theorem agz (t:Str):mK (.str t) EA=some ((uz 0 t).map fun n=> .int .i64 n):=by
 by_cases e0:t=[124,124]
 ·subst e0;rfl
 simp[uL,uO,uz,e0]
theorem ahz (t:Str):mK (.str t) EB=some ((uz 1 t).map fun n=> .int .i64 n):=by
 by_cases e0:t=[38,38]
 ·subst e0;rfl
 simp[uL,uO,uz,e0]
theorem afO (t:Str):mK (.str t) EC=some ((uz 2 t).map fun n=> .int .i64 n):=by
 by_cases e0:t=[61,61]
 ·subst e0;rfl
 by_cases e1:t=[33,61]
 ·subst e1;rfl
 by_cases e2:t=[60]
 ·subst e2;rfl
 by_cases e3:t=[60,61]
 ·subst e3;rfl
 by_cases e4:t=[62]
 ·subst e4;rfl
 by_cases e5:t=[62,61]
 ·subst e5;rfl
 simp[uL,uO,uz,e0,e1,e2,e3,e4,e5]
theorem findD (t:Str):mK (.str t) ED=some ((uz 3 t).map fun n=> .int .i64 n):=by
 by_cases e0:t=[43]
 ·subst e0;rfl
 by_cases e1:t=[45]
 ·subst e1;rfl
 simp[uL,uO,uz,e0,e1]
theorem findF (t:Str):mK (.str t) EE=some ((uz 4 t).map fun n=> .int .i64 n):=by
 by_cases e0:t=[42]
 ·subst e0;rfl
 by_cases e1:t=[47]
 ·subst e1;rfl
 by_cases e2:t=[37]
 ·subst e2;rfl
 simp[uL,uO,uz,e0,e1,e2]
theorem aaq {m a b c d e:Nat} (hm:h.get m=some (.map (EM a b c d e) 5)) (ha:h.get a=some (.map EA 1)) (hb:h.get b=some (.map EB 1)) (hc:h.get c=some (.map EC 6)) (hd:h.get d=some (.map ED 2)) (he:h.get e=some (.map EE 3)):MP m h:=by
 refine⟨opsV a b c d e,fun lv hlv=> ?_,fun lv t hlv=> ?_⟩
 ·match lv,hlv with
  |0,_=>simp only[rY,jA,pW,cond_true,mapOf,hm];rfl
  |1,_=>simp only[rY,jA,pW,cond_true,mapOf,hm];rfl
  |2,_=>simp only[rY,jA,pW,cond_true,mapOf,hm];rfl
  |3,_=>simp only[rY,jA,pW,cond_true,mapOf,hm];rfl
  |4,_=>simp only[rY,jA,pW,cond_true,mapOf,hm];rfl
 ·match lv,hlv with
  |0,_=>exact Ca ha t (agz t)
  |1,_=>exact Ca hb t (ahz t)
  |2,_=>exact Ca hc t (afO t)
  |3,_=>exact Ca hd t (findD t)
  |4,_=>exact Ca he t (findF t)
theorem c28 (hn:2≤n) (A:Cx h L S F) (H:∀h mp,Cx h L S (MP mp :: F)→K (.map mp) h=true):av E n (.func 28) [] h K=true:=by
 obtain⟨n,rfl⟩:∃m,n=m+1:=⟨n-1,by omega⟩
 apply d28
 unfold s28
 refine VH A fun m h A=> ?_
 refine VH A fun a h A=> ?_
 refine sS A rfl fun h A=> ?_
 refine Pe A rfl fun h A=> ?_
 have A:=A.frozeO
 refine VH A fun b h A=> ?_
 refine sS A rfl fun h A=> ?_
 refine Pe A rfl fun h A=> ?_
 have A:=A.frozeO
 refine VH A fun c h A=> ?_
 refine sS A rfl fun h A=> ?_
 refine sS A rfl fun h A=> ?_
 refine sS A rfl fun h A=> ?_
 refine sS A rfl fun h A=> ?_
 refine sS A rfl fun h A=> ?_
 refine sS A rfl fun h A=> ?_
 refine Pe A rfl fun h A=> ?_
 have A:=A.frozeO
 refine VH A fun d h A=> ?_
 refine sS A rfl fun h A=> ?_
 refine sS A rfl fun h A=> ?_
 refine Pe A rfl fun h A=> ?_
 have A:=A.frozeO
 refine VH A fun e h A=> ?_
 refine sS A rfl fun h A=> ?_
 refine sS A rfl fun h A=> ?_
 refine sS A rfl fun h A=> ?_
 refine Pe A rfl fun h A=> ?_
 have A:=A.frozeO.frozeO
 have A:Cx h L S ((fun h=>h.get m=some (.map (EM a b c d e) 5)) :: (fun h=>h.get e=some (.map EE 3)) :: (fun h=>h.get d=some (.map ED 2)) :: (fun h=>h.get c=some (.map EC 6)) :: (fun h=>h.get b=some (.map EB 1)) :: (fun h=>h.get a=some (.map EA 1)) :: F):=A
 have A:=A.add (R:=MP m) fun h q=>aaq (q (fun h=>h.get m=some (.map (EM a b c d e) 5)) (by simp)) (q (fun h=>h.get a=some (.map EA 1)) (by simp)) (q (fun h=>h.get b=some (.map EB 1)) (by simp)) (q (fun h=>h.get c=some (.map EC 6)) (by simp)) (q (fun h=>h.get d=some (.map ED 2)) (by simp)) (q (fun h=>h.get e=some (.map EE 3)) (by simp))
 exact H h m A.drop1.drop1.drop1.drop1.drop1.drop1
end
def wV (T:List Lx) (k:Nat):PM Qp:=bnd (lH T k k ⟨[],[],[]⟩) fun b i o=>if i=T.length then .ok b i o else .fail i
theorem Mt {α β:Type} {m:PM α} {g:α→PM β} {i:Nat} {o:Int} {v:β} {i':Nat} {o':Int} (h:bnd m g i o= .ok v i' o'):∃w i1 o1,m i o= .ok w i1 o1∧g w i1 o1= .ok v i' o':=by
 unfold bnd at h
 cases e:m i o with
 |ok w i1 o1=>rw[e] at h;exact⟨w,i1,o1,rfl,h⟩
 |fail x=>rw[e] at h;cases h
 |out=>rw[e] at h;cases h
theorem xQ {T:List Lx} (k0:Nat):∀(k:Nat) (b:Qp) (i:Nat) (o:Int) (v:Qp) (i':Nat) (o':Int),lH T k0 k b i o= .ok v i' o'→T.length≤i'
 |0,b,i,o,v,i',o',h=>by unfold lH at h;cases h
 |k+1,b,i,o,v,i',o',h=>by
  unfold lH at h
  by_cases hc:i<T.length
  ·rw[if_pos hc] at h
   refine vX h (fun h=> ?_) fun h=> ?_
   ·obtain⟨_,_,_,_,h⟩:=Mt h
    exact xQ k0 k _ _ _ _ _ _ h
   ·refine vX h (fun h=> ?_) fun h=> ?_
    ·obtain⟨_,_,_,_,h⟩:=Mt h
     exact xQ k0 k _ _ _ _ _ _ h
    ·obtain⟨_,_,_,_,h⟩:=Mt h
     obtain⟨_,_,_,_,h⟩:=Mt h
     exact xQ k0 k _ _ _ _ _ _ h
  ·rw[if_neg hc] at h
   cases h
   exact Nat.le_of_not_lt hc
section
variable {h:ah} {L:jf} {S:List Sl} {F:List (ah→Prop)} {p mp en i n:Nat} {o:Int} {tv:AV} {T:List Lx} {K Q k:au}
theorem c11 {kk:Nat} (hk:kk≤100000) (hn:4*kk+101≤n) [b:BaseF tv mp T F] {bx:Nat} (A:Cx h (vr p (pc tv mp en i o) :: vr bx Qk :: L) S F) (s:dJ T en i o)
 (H:Post (lH T kk kk ⟨[],[],[]⟩ i o) (fun v i o=>∀h c,Cx h (vr p (pc tv mp en i o) :: vr bx c :: L) S ((fun h=>sw h c v) :: F)→dJ T en i o→K (.tup []) h=true) (FK K p mp en tv T (vr bx Qk :: L) S F)):
 av E n (.func 11) [.ptr p 0 0 0, .ptr bx 0 0 0] h K=true:=by
 obtain⟨n,rfl⟩:∃m,n=m+1:=⟨n-1,by omega⟩
 apply d11
 unfold s11
 refine c12 hk hk (by omega) (by omega) A s (Post.mono H ?_ fun x f=>FK.pz' f)
 intro v i o H h c A s
 obtain⟨w1,w2⟩:=(A.f0:sw h c v).cells
 refine aI rfl ?_
 unfold GY
 refine gL A rfl w1 rfl w2 fun h A=> ?_
 exact H h c A s
def OkP (K:au) (T:List Lx) (en:Nat) (bx:Nat) (L:jf) (S:List Sl) (F:List (ah→Prop)) (r:Mx Qp):Prop:=
 Post r (fun b _ _=>∀h c,Cx h (vr bx c :: L) S ((fun h=>sw h c b) :: F)→K (.tup [.int .i64 0, .int .i64 0]) h=true)
  (fun x=>∀h c,Cx h (vr bx c :: L) S F→K (.tup [.int .i64 (FB T en x:Int), .int .i64 20]) h=true)
theorem ae3 {call:aj} {df:lN} {n:Nat} {σ:Go.Ab.St} {pend:List (AV×List AV)} {KT:Go.Ab.Mode→Go.Ab.St→Bool} {n0:List aU} {rest:List (aU×List aU×List aU)} {b:dx} {ρ':dw} (e:nX n0 σ.regs σ.h=some ρ')
 (s:Go.Ab.nI call (zS rest (xH n0 σ.regs)) [] rest ⟨ρ',σ.h⟩ (fun x σ'=>match x with | .normal=>Go.Ab.runT call df n b pend σ' KT |x=>atEnd df pend x σ' KT)=true):Go.Ab.runT call df n (.seq (.dreg n0 rest) b) pend σ KT=true:=by
 simp only[Go.Ab.runT,Go.Ab.dA,e];exact s
theorem jH {ρ ρ':dw} {h h':ah} {dst:Option Nat} {op:fE} {v:AV} {l:List aU} (e:aO ρ h op=some (v,h')) (s:nX l (put ρ dst v) h=some ρ'):nX (⟨dst,op,none⟩ :: l) ρ h=some ρ':=by
 simp only[nX,eT,e];exact s
theorem abW {call:aj} {ρ ρ0:dw} {h:ah} {KE:nG} {dst:Option Nat} {f:bS} {args:List bS} {tgt:VI} {first cap vs:List AV} (ef:ev ρ f=some (.fn tgt first cap)) (ea:evs ρ args=some vs)
 (s:call tgt (first++vs++cap) h (fun v h'=>match iQ v with |some x=>KE (.panic x) ⟨ρ0,h'⟩|none=>KE .normal ⟨put ρ dst v,h'⟩)=true):Go.Ab.nI call ρ0 [] [(⟨dst, .call f args,none⟩,[],[])] ⟨ρ,h⟩ KE=true:=by
 simp only[Go.Ab.nI,jy,eT,gy,ef,ea,dF,oH,yP,cond_true,nA,again,nX]
 refine(congrArg (fun k=>call tgt (first++vs++cap) h k) ?_).trans s
 funext v h'
 cases iQ v<;>rfl
theorem ahe {call:aj} {df:lN} {n:Nat} {σ:Go.Ab.St} {pend:List (AV×List AV)} {KT:Go.Ab.Mode→Go.Ab.St→Bool} (s:ends df pend .ret σ.h (fun μ h=>KT μ ⟨σ.regs,h⟩)=true):Go.Ab.runT call df n .ret pend σ KT=true:=s
theorem ace {ρ:dw} {h:ah} {a c:Nat} {x y:AV} (e6:ρ.get 6=some (.ptr a 0 0 0)) (e7:ρ.get 7=some (.ptr c 0 0 0)) (l6:dZ h false 1 (.ptr a 0 0 0)=some x) (l7:dZ h false 1 (.ptr c 0 0 0)=some y) (s:K (.tup [x,y]) h=true):nk C18.res K .ret ⟨ρ,h⟩=true:=by
 show(match jm ρ h [(6,some (false,1)),(7,some (false,1))] with |some l=>K (oneOf l) h |none=>false)=true
 simp only[jm,uR,e6,e7,l6,l7]
 exact s
def Uk:Nat→dx→dx
 |n+1, .seq _ b=>Uk n b
 |_,b=>b
theorem ah6 {df:lN} {g:Nat} {fs cs ag:List AV} {v:AV} {σ:Go.Ab.St} {KT:Go.Ab.Mode→Go.Ab.St→Bool} (s:df g (fs++ag++cs) (.pan v) σ.h (fun μ h=>KT μ ⟨σ.regs,h⟩)=true):atEnd df [(.fn (.func g) fs cs,ag)] (.panic v) σ KT=true:=s
theorem ajY {call:aj} {df:lN} {n g:Nat} {fs cs ag:List AV} {σ:Go.Ab.St} {KT:Go.Ab.Mode→Go.Ab.St→Bool} (s:df g (fs++ag++cs) .ret σ.h (fun μ h=>KT μ ⟨σ.regs,h⟩)=true):Go.Ab.runT call df n .ret [(.fn (.func g) fs cs,ag)] σ KT=true:=s
theorem ah4 {a c:Nat} {x y:AV} {ρ:dw} (e6:ρ.get 6=some (.ptr a 0 0 0)) (e7:ρ.get 7=some (.ptr c 0 0 0)) (A:Cx h (vr a [x] :: vr c [y] :: L) S F)
 (s:∀h,Cx h (vr c [.int .i64 0] :: vr a [.int .i64 0] :: L) S F→K (.tup [.int .i64 0, .int .i64 0]) h=true):
 Go.Ab.runT (av E n) (zF E (av E n) n) n (Uk 5 C18.body) [(.fn (.func 27) [] [.ptr a 0 0 0, .ptr c 0 0 0],[])] ⟨ρ,h⟩ (nk C18.res K)=true:=by
 obtain⟨h4,e4,A⟩:=A.set1 (off:=0) (v:= .int .i64 0) (by simp) rfl
 have A:Cx h4 (vr a [.int .i64 0] :: vr c [y] :: L) S F:=A
 obtain⟨h5,e5,A⟩:=A.swapL.set1 (off:=0) (v:= .int .i64 0) (by simp) rfl
 have A:Cx h5 (vr c [.int .i64 0] :: vr a [.int .i64 0] :: L) S F:=A
 show Go.Ab.runT _ _ n (.seq (.reg _) .ret) _ _ _=true
 have f6:aO ρ h (.store 1 (.t 6) (.c (.int .i64 0)))=some (.tup [],h4):=by
  simp only[aO,ev,e6];show unit (bW h 1 _ _)=_;rw[show bW h 1 _ _=some h4 from e4];rfl
 have f7:aO ρ h4 (.store 1 (.t 7) (.c (.int .i64 0)))=some (.tup [],h5):=by
  simp only[aO,ev,e7];show unit (bW h4 1 _ _)=_;rw[show bW h4 1 _ _=some h5 from e5];rfl
 refine EY rfl (gU rfl f6 (gU rfl f7 (oq ?_)))
 refine ajY (VG ?_)
 refine ace e6 e7 (x:= .int .i64 0) (y:= .int .i64 0) (by rw[A.v1.load];rfl) (by rw[A.var.load];rfl) ?_
 exact s h5 A
theorem ahG {a c:Nat} {x y v:AV} {ρ:dw} (hl:v.leaf=true) (e6:ρ.get 6=some (.ptr a 0 0 0)) (e7:ρ.get 7=some (.ptr c 0 0 0)) (A:Cx h (vr a [x] :: vr c [y] :: L) S F)
 (s:∀h,Cx h (vr a [v] :: vr c [.int .i64 20] :: L) S F→K (.tup [v, .int .i64 20]) h=true):
 atEnd (zF E (av E n) n) [(.fn (.func 27) [] [.ptr a 0 0 0, .ptr c 0 0 0],[])] (.panic (.ifc 93 (.agg [v]))) ⟨ρ,h⟩ (nk C18.res K)=true:=by
 refine ah6 (Xl A hl fun h A=> ?_)
 refine ace e6 e7 (x:=v) (y:= .int .i64 20) (by rw[A.var.load];rfl) (by rw[A.v1.load];rfl) ?_
 exact s h A
theorem c18 {kk:Nat} (hk:kk≤100000) (hn:4*kk+110≤n) (ht:abk tv T∈F) (hg:GvF∈F) {bx:Nat} (A:Cx h (vr bx Qk :: L) S F) (s:dJ T en 0 0)
 (H:OkP K T en bx L S F (wV T kk 0 0)):av E n (.func 18) [tv, .int .i64 (en:Int), .fn (.func 11) [] [.ptr bx 0 0 0]] h K=true:=by
 obtain⟨n,rfl⟩:∃m,n=m+1:=⟨n-1,by omega⟩
 have hp:E.prim 18=none:=rfl
 have hc:E.code 18=some C18:=rfl
 simp only[av,hp,hc]
 show Go.Ab.runT (av E n) (zF E (av E n) n) n C18.body [] ⟨oK 0 [tv, .int .i64 (en:Int), .fn (.func 11) [] [.ptr bx 0 0 0]] .lf,h⟩ (nk C18.res K)=true
 have V:View h 4 tv (T.map jP):=A.fact ht
 obtain⟨h1,e1,A⟩:=A.alloc (z:=[.int .i64 0]) (by decide) rfl
 have ha:h.sz=h.sz:=rfl
 generalize h.sz=a at e1 A
 obtain⟨h2,e2,A⟩:=A.alloc (z:=[.int .i64 0]) (by decide) rfl
 generalize h1.sz=c at e2 A
 refine EY rfl (gU rfl e1 (gU rfl e2 (oq ?_)))
 refine agm (f:= .t 9) (pre:=[⟨some 9, .mkfn 27 [] [.t 6, .t 7],none⟩]) rfl (gU (v:= .fn (.func 27) [] [.ptr a 0 0 0, .ptr c 0 0 0]) (h':=h2) rfl rfl (oq ?_))
 show Go.Ab.runT _ _ n (.seq (.reg _) _) [(.fn (.func 27) [] [.ptr a 0 0 0, .ptr c 0 0 0],[])] ⟨_,h2⟩ _=true
 refine EY rfl (gU (v:=tv) (h':=h2) rfl rfl (gU (v:= .int .i64 (en:Int)) (h':=h2) rfl rfl (Sb (tgt:= .func 28) (first:=[]) (cap:=[]) (vs:=[]) rfl rfl ?_)))
 show av E n (.func 28) [] h2 _=true
 refine c28 (by omega) A fun h mp A=> ?_
 show Go.Ab.mR _ _ _ _=true
 have hcl:aD (AV.agg (pc tv mp en 0 0)).cells=true:=aJ V.leaf rfl
 refine gU (v:= .agg (pc tv mp en 0 0)) (h':=h) rfl (by rcases V with⟨_,rfl |rfl⟩|⟨_,_,_,_,_,_,rfl,_⟩<;>rfl) ?_
 obtain⟨h3,e3,A⟩:=A.box (n:=5) (v:= .agg (pc tv mp en 0 0)) rfl (by decide) hcl
 generalize h.sz=p at e3 A
 refine gU rfl e3 (gU (v:= .ptr p 0 0 0) (h':=h3) rfl rfl (oq ?_))
 have A:Cx h3 (vr p (pc tv mp en 0 0) :: vr c [.int .i64 0] :: vr a [.int .i64 0] :: vr bx Qk :: L) S (MP mp :: F):=A
 have A:=A.swap23.swap12
 have bF:BaseF tv mp T (MP mp :: F):=⟨List.mem_cons_of_mem _ ht,List.mem_cons_self,List.mem_cons_of_mem _ hg⟩
 show Go.Ab.runT _ _ n (.seq (.reg _) _) _ _ _=true
 refine EY rfl (gU (v:= .fn (.func 11) [] [.ptr bx 0 0 0]) (h':=h3) rfl rfl (gU (v:= .ptr p 0 0 0) (h':=h3) rfl rfl (Sb (tgt:= .func 11) (first:=[]) (cap:=[.ptr bx 0 0 0]) (vs:=[.ptr p 0 0 0]) rfl rfl ?_)))
 show av E n (.func 11) [.ptr p 0 0 0, .ptr bx 0 0 0] h3 _=true
 unfold OkP wV at H
 rw[aC] at H
 refine c11 hk (by omega) A s (Post.mono H.eqn ?_ ?_)
 ·intro v i o ⟨eq,H⟩ h cb A s
  have hi:i=T.length:=Nat.le_antisymm s.le (xQ kk kk _ _ _ _ _ _ eq)
  rw[if_pos hi] at H
  have V:View h 4 tv (T.map jP):=A.fact (List.mem_cons_of_mem _ bF.tok)
  have el1:dZ h false 1 (.ptr p 0 0 1)=some (.int .i64 (i:Int)):=by rw[A.var.load];rfl
  have el0:dZ h false 1 (.ptr p 0 0 0)=some tv:=by rw[A.var.load];rfl
  show Go.Ab.mR _ [] _ _=true
  refine oq ?_
  show Go.Ab.runT _ _ n (.seq (.dreg _ _) _) _ _ _=true
  refine ae3 (jH (v:= .ptr p 0 0 0) (h':=h) rfl (jH (v:= .ptr p 0 0 0) (h':=h) rfl (jH (v:= .ptr p 0 0 0) (h':=h) rfl (jH (v:= .ptr p 0 0 1) (h':=h) rfl
   (jH (v:= .int .i64 (i:Int)) (h':=h) (by show bP (dZ h false 1 (.ptr p 0 0 1)) h=_;rw[el1];rfl) (jH (v:= .ptr p 0 0 0) (h':=h) rfl (jH (v:= .ptr p 0 0 0) (h':=h) rfl (jH (v:= .ptr p 0 0 0) (h':=h) rfl
   (jH (v:=tv) (h':=h) (by show bP (dZ h false 1 (.ptr p 0 0 0)) h=_;rw[el0];rfl) (jH (v:= .int .i64 ((T.map jP).length:Int)) (h':=h) (by show bP (Ae h 1 tv) h=_;rw[V.len];rfl)
   (jH (v:= .bool true) (h':=h) (by
     show bP (eH .eql (.int .i64 (i:Int)) (.int .i64 ((T.map jP).length:Int))) h=_
     rw[iC _ _ _ _ rfl]
     simp only[lC,qb,List.length_map,hi,decide_true]
     rfl) rfl))))))))))) ?_
  refine abW (tgt:= .func 29) (first:=[]) (cap:=[]) (vs:=[.ptr p 0 0 0, .bool true]) rfl rfl ?_
  show av E n (.func 29) [.ptr p 0 0 0, .bool true] h _=true
  refine Nr (by omega) A s (aZ fun h A s=> ?_)
  show Go.Ab.runT _ _ n (.seq (.reg _) _) _ _ _=true
  have A:Cx h (vr a [.int .i64 0] :: vr c [.int .i64 0] :: vr bx cb :: vr p (pc tv mp en i o) :: L) S ((fun h=>sw h cb v) :: MP mp :: F):=A.perm (by
   have q1:List.Perm [vr a [AV.int .i64 0],vr c [.int .i64 0],vr bx cb,vr p (pc tv mp en i o)] [vr p (pc tv mp en i o),vr bx cb,vr c [.int .i64 0],vr a [.int .i64 0]]:=List.reverse_perm [vr p (pc tv mp en i o),vr bx cb,vr c [.int .i64 0],vr a [.int .i64 0]]
   exact q1.append_right L) (.refl _)
  refine ah4 rfl rfl A fun h A=> ?_
  exact H h cb (A.rest.rest.rest1.drop1)
 ·intro x f h i o A
  have A:Cx h (vr a [.int .i64 0] :: vr c [.int .i64 0] :: vr bx Qk :: vr p (pc tv mp en i o) :: L) S (MP mp :: F):=A.perm (by
   have q1:List.Perm [vr a [AV.int .i64 0],vr c [.int .i64 0],vr bx Qk,vr p (pc tv mp en i o)] [vr p (pc tv mp en i o),vr bx Qk,vr c [.int .i64 0],vr a [.int .i64 0]]:=List.reverse_perm [vr p (pc tv mp en i o),vr bx Qk,vr c [.int .i64 0],vr a [.int .i64 0]]
   exact q1.append_right L) (.refl _)
  refine ahG rfl rfl rfl A fun h A=> ?_
  exact f h Qk (A.rest.rest.rest1.dropF)
end
structure But (x:Nat) (h h':ah):Prop where
 sz:h.sz≤h'.sz
 keep:∀j o,j≠x→h.get j=some o→h'.get j=some o
theorem But.refl (x:Nat) (h:ah):But x h h:=⟨Nat.le_refl _,fun _ _ _ e=>e⟩
theorem But.trans {x:Nat} {a b c:ah} (p:But x a b) (q:But x b c):But x a c:=⟨Nat.le_trans p.sz q.sz,fun j o e h=>q.keep j o e (p.keep j o e h)⟩
theorem But.put (x:Nat) (h:ah) (o:fB):But x h (h.put x o):=⟨by simp,fun j o' e hj=>by rw[ah.get_put,if_neg e];exact hj⟩
theorem But.ext {x:Nat} {h0 h h':ah} (p:But x h h') (e:Ext h0 h) (k0:h0.Ok) (hx:h0.sz≤x):Ext h0 h':=
 ⟨Nat.le_trans e.1 p.sz,fun j o hj=>p.keep j o (by have:=k0.lt hj;omega) (e.2 j o hj)⟩
theorem But.var {x j:Nat} {h h':ah} {c:List AV} (p:But x h h') (V:Var h j c) (e:j≠x):Var h' j c:=by
 have V':h.row j=some (kW c):=V
 show h'.row j=_
 rw[ah.row_some] at V' ⊢
 exact p.keep j _ e V'
theorem PK {b:Nat} {h h':ah} {n:Nat} {v:AV} {es:List (List AV)} (O:Own b h n v es) (p:∀j o,b≤j→h.get j=some o→h'.get j=some o):Own b h' n v es:=by
 rcases O with V |⟨id,r,w1,w2,w3,w4,w5,w6,w7⟩
 ·exact .inl V
 ·exact .inr ⟨id,r,w1,w2,by rw[ah.row_some] at w3 ⊢;exact p _ _ w1 w3,w4,w5,w6,w7⟩
theorem But.own {x b:Nat} {h h':ah} {n:Nat} {v:AV} {es:List (List AV)} (p:But x h h') (O:Own b h n v es) (e:x<b):Own b h' n v es:=
 PK O fun j o hj g=>p.keep j o (by omega) g
theorem LG {h h':ah} {v:AV} {e:Nat} (T:Md h v e) (p:∀id g s l c ex o,v= .slc id g s l c ex→h.get id=some o→h'.get id=some o):Md h' v e:=by
 intro id g s l c ex hv
 obtain⟨r,q1,q2⟩:=T id g s l c ex hv
 exact⟨r,by rw[ah.row_some] at q1 ⊢;exact p _ _ _ _ _ _ _ hv q1,q2⟩
def Lp (regs:dw) (ps:List Nat) (asg body:dx) (st:IZ):fB:= .loop {regs,ps,asg,body,st}
theorem y8 (h:ah) (o:fB):(h.push o).get h.sz=some o:=by rw[ah.get_push,if_pos rfl]
theorem ow (h:ah) (id:Nat) (o:fB):(h.put id o).get id=some o:=by rw[ah.get_put,if_pos rfl]
theorem Js {h:ah} {id j:Nat} {o:fB} (e:j≠id):(h.put id o).get j=h.get j:=by rw[ah.get_put,if_neg e]
theorem GZ (k:IntKind) (a:Int):AV.same (.int k a) (.int k a)=true:=by
 simp only[AV.same,Nat.beq_refl,Bool.true_and];rw[qb];simp
theorem YN (a b c d:Nat):AV.same (.ptr a b c d) (.ptr a b c d)=true:=by
 simp only[AV.same,Nat.beq_refl,Bool.and_self]
theorem o8 {s:Str} {j k:IntKind} {a b:Nat} (hab:a≤b) (hb:b≤s.length):mF (.str s) (some (.int j (a:Int))) (some (.int k (b:Int)))=some (.str ((s.take b).drop a)):=by
 simp only[mF,rC,qN,aK.2 hab,aK.2 hb,Bool.and_self,cond_true]
theorem dO {s:Str} {j:IntKind} {a:Nat} (hb:a≤s.length):mF (.str s) (some (.int j (a:Int))) none=some (.str (s.drop a)):=by
 simp only[mF,rC,qN,aK.2 hb,aK.2 (Nat.le_refl _),Bool.and_self,cond_true,List.take_length]
theorem ZY {s:Str} {k:IntKind} {b:Nat} (hb:b≤s.length):mF (.str s) none (some (.int k (b:Int)))=some (.str (s.take b)):=by
 simp only[mF,rC,qN,aK.2 hb,aK.2 (Nat.zero_le _),Bool.and_self,cond_true,List.drop_zero]
theorem dz {a b:Nat} (h:a+b<lim):eH .add (.int .i64 (a:Int)) (.int .i64 (b:Int))=some (.int .i64 ((a+b:Nat):Int)):=by
 have h':a+b<4611686018427387904:=h
 rw[ab1 (by omega) (by omega)];rfl
theorem kU {a b:Nat} (h:b≤a) (h2:a<lim):eH .sub (.int .i64 (a:Int)) (.int .i64 (b:Int))=some (.int .i64 ((a-b:Nat):Int)):=by
 have h':a<4611686018427387904:=h2
 rw[ahj (by omega) (by omega)];congr 2;omega
theorem PO {a:Nat} (k:Nat) (h:a+k<lim):eH .add (.int .i64 (a:Int)) (.int .i64 (@OfNat.ofNat Int k _))=some (.int .i64 ((a+k:Nat):Int)):=dz h
def wh (s:Str):List (List AV):=s.map fun(b:Nat)=>[AV.int .u8 (b:Int)]
theorem EU:∀(s:Str),(∀b∈s,b<256)→bytesOf (wh s)=some s
 | [],_=>rfl
 |b :: s,h=>by
  show bytesOf ([AV.int .u8 (.ofNat b)] :: wh s)=_
  simp only[bytesOf,EU s (fun c hc=>h c (List.mem_cons_of_mem _ hc)),bg.2 (h b List.mem_cons_self),cond_true]
def pk (s:Str) (i:Nat):Nat:=s[i]?.getD 0
theorem TR {s:Str} {i:Nat} (h:i<s.length):pk s i=s[i]:=by simp[pk,h]
theorem Hu {s:Str} {i:Nat} (h:s.length≤i):pk s i=0:=by simp[pk,h]
theorem eD {s:Str} {k:IntKind} {i:Nat} (h:i<s.length):lX (.str s) (.int k (i:Int))=some (.int .u8 (pk s i:Int)):=by
 rw[TR h];exact QU (List.getElem?_eq_getElem h)
theorem qL {s:Str} {i:Nat} (h:i<s.length):s.drop i=pk s i :: s.drop (i+1):=by
 rw[TR h];exact List.drop_eq_getElem_cons h
theorem gD {x y v:AV} {k:AV→Bool} (e:eH .add x y=some v) (s:k v=true):gX x y k=true:=by rw[XZ,e];exact s
theorem iI {x y v:AV} {k:AV→Bool} (e:eH .sub x y=some v) (s:k v=true):JJ x y k=true:=by rw[X5,e];exact s
theorem iH {x y v:AV} {k:AV→Bool} (e:lX x y=some v) (s:k v=true):ES x y k=true:=by rw[aaT,e];exact s
theorem iD {x v:AV} {y z:Option AV} {k:AV→Bool} (e:mF x y z=some v) (s:k v=true):Nh x y z k=true:=by rw[acM,e];exact s
theorem Ew {h h':ah} {w v:AV} {k:ah→Bool} (e:bW h 1 w v=some h') (s:k h'=true):bJ h w v k=true:=by rw[Od,e];exact s
theorem kg {x y v:AV} {k:AV→Bool} (e:eH .eql x y=some v) (s:k v=true):dS x y k=true:=by rw[Q6,e];exact s
theorem nT {x y v:AV} {k:AV→Bool} (e:eH .lss x y=some v) (s:k v=true):lI x y k=true:=by rw[XF,e];exact s
theorem qC {x y v:AV} {k:AV→Bool} (e:eH .geq x y=some v) (s:k v=true):Cr x y k=true:=by rw[YH,e];exact s
theorem qB {h:ah} {x v:AV} {k:AV→Bool} (e:Ae h 1 x=some v) (s:k v=true):gu x k=true:=by rw[X0 h,e];exact s
theorem Y1 {h h':ah} {v w:AV} {k:au} (e:mU h none 1 v=some (w,h')) (s:k w h'=true):Es h v k=true:=by rw[Y0,e];exact s
theorem Sc {h h':ah} {z:List AV} {w:AV} {n:Nat} {k:au} (hn:z.length=n) (h0:Nat.beq n 0=false) (hl:aD z=true) (e:oh h z=some (w,h')) (s:k w h'=true):bR h z n k=true:=by rw[HZ _ _ _ _ hn h0 hl,e];exact s
theorem ZI {h h':ah} {n:Nat} {w v:AV} {k:ah→Bool} (hn:Nat.beq n 0=false) (e:bW h n w v=some h') (s:k h'=true):aN h n w v k=true:=by rw[KP _ _ _ _ _ hn,e];exact s
theorem J8 {z:List AV} {ps:List (Nat×Nat×AV)} {v:AV} {k:AV→Bool} (e:oZ z ps=some v) (s:k v=true):dK z ps k=true:=by rw[Qf,e];exact s
theorem uI {c a b:Bool} (e:c=false) (s:b=true):aM (.bool c) a b=true:=by subst e;exact s
theorem tZ {c a b:Bool} (e:c=true) (s:a=true):aM (.bool c) a b=true:=by subst e;exact s
def mH (b:Nat):Bool:=(decide (97≤b)&&decide (b≤122))||(decide (65≤b)&&decide (b≤90))
def ig (b:Nat):Bool:=decide (48≤b)&&decide (b≤57)
def G9 (b:Nat):Bool:=mH b||ig b||decide (b=95)
def Ah (b:Nat):Bool:=decide (b=32)||decide (b=9)||decide (b=13)||decide (b=10)
def FE (b:Int):Bool:=(decide (97≤b)&&decide (b≤122))||(decide (65≤b)&&decide (b≤90))
def Ls (b:Int):Bool:=decide (48≤b)&&decide (b≤57)
theorem SA (b:Nat):FE (b:Int)=mH b:=by
 unfold FE mH
 rw[show decide ((97:Int)≤(b:Int))=decide (97≤b) from decide_eq_decide.2 (by omega),show decide ((b:Int)≤122)=decide (b≤122) from decide_eq_decide.2 (by omega),
  show decide ((65:Int)≤(b:Int))=decide (65≤b) from decide_eq_decide.2 (by omega),show decide ((b:Int)≤90)=decide (b≤90) from decide_eq_decide.2 (by omega)]
theorem WO (b:Nat):Ls (b:Int)=ig b:=by
 unfold Ls ig
 rw[show decide ((48:Int)≤(b:Int))=decide (48≤b) from decide_eq_decide.2 (by omega),show decide ((b:Int)≤57)=decide (b≤57) from decide_eq_decide.2 (by omega)]
theorem i63 {n:Nat} {b:Int} {h:ah} {K:au} (k:K (.bool (FE b)) h=true):av E (n+1) (.func 63) [.int .u8 b] h K=true:=by
 apply d63
 unfold s63
 unfold FE at k
 cases h1:decide (97≤b)<;>cases h2:decide (b≤122)<;>cases h3:decide (65≤b)<;>cases h4:decide (b≤90)<;>rw[h1,h2,h3,h4] at k
 all_goals(repeat first |(with_reducible first |refine aY ?_ |refine dV ?_ |refine eG ?_ |refine bH ?_ |refine bV ?_ |refine lK ?_ |refine fH ?_ |refine O8 ?_ |refine PY ?_)|rw[h1]|rw[h2]|rw[h3]|rw[h4])
 all_goals exact k
theorem c63 {n b:Nat} {h:ah} {K:au} (k:K (.bool (mH b)) h=true):av E (n+1) (.func 63) [.int .u8 (b:Int)] h K=true:=i63 (by rw[SA];exact k)
theorem i65 {n:Nat} {b:Int} {h:ah} {K:au} (k:K (.bool (Ls b)) h=true):av E (n+1) (.func 65) [.int .u8 b] h K=true:=by
 apply d65
 unfold s65
 unfold Ls at k
 cases h1:decide (48≤b)<;>cases h2:decide (b≤57)<;>rw[h1,h2] at k
 all_goals(repeat first |(with_reducible first |refine aY ?_ |refine dV ?_ |refine eG ?_ |refine bH ?_ |refine bV ?_ |refine lK ?_ |refine fH ?_ |refine O8 ?_ |refine PY ?_)|rw[h1]|rw[h2])
 all_goals exact k
theorem c65 {n b:Nat} {h:ah} {K:au} (k:K (.bool (ig b)) h=true):av E (n+1) (.func 65) [.int .u8 (b:Int)] h K=true:=i65 (by rw[WO];exact k)
theorem Yw (c:Nat) (b:Nat):eH .eql (.int .u8 (b:Int)) (.int .u8 (c:Int))=some (.bool (decide (b=c))):=by
 rw[OZ,show decide ((b:Int)=(c:Int))=decide (b=c) from decide_eq_decide.2 (by omega)]
theorem ltb (c:Nat) (b:Nat):eH .lss (.int .u8 (b:Int)) (.int .u8 (c:Int))=some (.bool (decide (b<c))):=by
 rw[He,show decide ((b:Int)<(c:Int))=decide (b<c) from decide_eq_decide.2 (by omega)]
theorem c81 {n b:Nat} {h:ah} {K:au} (k:K (.bool (G9 b)) h=true):av E (n+2) (.func 81) [.int .u8 (b:Int)] h K=true:=by
 apply d81
 unfold s81
 refine c63 ?_
 unfold G9 at k
 cases hl:mH b with
 |true=>
  rw[hl] at k
  refine aI rfl ?_
  unfold AX
  refine lK ?_;refine acn ?_
  unfold Bz
  refine dV ?_;refine lK ?_;refine lK ?_;refine dV ?_
  exact k
 |false=>
  rw[hl] at k
  refine aI rfl ?_
  unfold AX
  refine bV ?_;refine aY ?_;refine eX ?_
  refine c65 (aI rfl ?_)
  unfold Bz
  cases hd:ig b with
  |true=>
   rw[hd] at k
   refine eG ?_;refine lK ?_;refine lK ?_;refine dV ?_
   exact k
  |false=>
   rw[hd] at k
   have e:eH .eql (.int .u8 (b:Int)) (AV.int .u8 95)=some (.bool (decide (b=95))):=Yw 95 b
   refine eG (bV (aY (bV (kg e (eG ?_)))))
   simpa using k
def LX (h:ah) (x:Nat) (s:Str) (a:Nat) (bad:Bool):Prop:=Var h x [.str s, .int .i64 (a:Int), .bool bad]
theorem LX.l0 {h:ah} {x a:Nat} {s:Str} {bad:Bool} (V:LX h x s a bad):dZ h false 1 (.ptr x 0 0 0)=some (.str s):=by rw[Var.load V];rfl
theorem LX.l1 {h:ah} {x a:Nat} {s:Str} {bad:Bool} (V:LX h x s a bad):dZ h false 1 (.ptr x 0 0 1)=some (.int .i64 (a:Int)):=by rw[Var.load V];rfl
theorem LX.l2 {h:ah} {x a:Nat} {s:Str} {bad:Bool} (V:LX h x s a bad):dZ h false 1 (.ptr x 0 0 2)=some (.bool bad):=by rw[Var.load V];rfl
theorem LX.set {h:ah} {x a:Nat} {s:Str} {bad:Bool} (V:LX h x s a bad) (b:Nat):bW h 1 (.ptr x 0 0 1) (.int .i64 (b:Int))=some (h.put x (.row (kW [.str s, .int .i64 (b:Int), .bool bad]))):=by
 rw[Var.set1 V (by show 1<3;omega) rfl];rfl
theorem LX.setb {h:ah} {x a:Nat} {s:Str} {bad:Bool} (V:LX h x s a bad) (b:Bool):bW h 1 (.ptr x 0 0 2) (.bool b)=some (h.put x (.row (kW [.str s, .int .i64 (a:Int), .bool b]))):=by
 rw[Var.set1 V (by show 2<3;omega) rfl];rfl
theorem R6 (h:ah) (x:Nat) (s:Str) (a:Nat) (bad:Bool):LX (h.put x (.row (kW [.str s, .int .i64 (a:Int), .bool bad]))) x s a bad:=vv x _
theorem c60 {n x a k:Nat} {s:Str} {bad:Bool} {h:ah} {K:au} (V:LX h x s a bad) (hL:s.length+k<lim) (ha:a≤s.length) (kk:K (.int .u8 (pk s (a+k):Int)) h=true):av E (n+1) (.func 60) [.ptr x 0 0 0, .int .i64 (k:Int)] h K=true:=by
 apply d60
 unfold s60
 refine dW ?_;refine aB ?_;refine aR (LX.l1 V) ?_
 first |refine aR (dz (show a+k<lim by omega)) ?_ |refine gD (dz (show a+k<lim by omega)) ?_ |refine iI (dz (show a+k<lim by omega)) ?_ |refine iH (dz (show a+k<lim by omega)) ?_ |refine iD (dz (show a+k<lim by omega)) ?_ |refine oU (dz (show a+k<lim by omega)) ?_
 refine dW ?_;refine aB ?_;refine aR (LX.l0 V) ?_;refine oF ?_;refine O8 ?_
 by_cases hlt:a+k<s.length
 ·refine uI (decide_eq_false (by omega)) ?_
  refine dW ?_;refine aB ?_;refine aR (LX.l0 V) ?_;refine dW ?_;refine aB ?_;refine aR (LX.l1 V) ?_
  first |refine aR (dz (show a+k<lim by omega)) ?_ |refine gD (dz (show a+k<lim by omega)) ?_ |refine iI (dz (show a+k<lim by omega)) ?_ |refine iH (dz (show a+k<lim by omega)) ?_ |refine iD (dz (show a+k<lim by omega)) ?_ |refine oU (dz (show a+k<lim by omega)) ?_
  first |refine aR (eD hlt) ?_ |refine gD (eD hlt) ?_ |refine iI (eD hlt) ?_ |refine iH (eD hlt) ?_ |refine iD (eD hlt) ?_ |refine oU (eD hlt) ?_
  exact kk
 ·refine tZ (decide_eq_true (by omega)) ?_
  rw[Hu (by omega)] at kk
  exact kk
theorem l66 {n x a f:Nat} {p:Nat→Bool} {fv:AV} {s:Str} {bad:Bool} {h:ah} {K:au} (V:LX h x s a bad) (hL:s.length+f<lim) (ha:a≤s.length)
 (hf:∀(b:Nat) (K':au),K' (.bool (p b)) h=true→mI (av E n) fv [.int .u8 (b:Int)] h K'=true):∀(m j:Nat),a+f+j≤s.length∨j=0→s.length-(a+f+j)<m→
 K (.int .i64 ((j+((s.drop (a+f+j)).takeWhile p).length:Nat):Int)) h=true→U5 (av E n) n m (.ptr x 0 0 0) (.int .i64 (f:Int)) fv (.int .i64 (j:Int)) h K=true:=by
 intro m
 induction m with
 |zero=>intro j _ hm;omega
 |succ m ih=>
  intro j hj hm k
  unfold U5 XJ
  have hb1:a+f+j<lim:=by omega
  refine dW ?_;refine aB ?_;refine aR (LX.l1 V) ?_
  first |refine aR (dz (show a+f<lim by omega)) ?_ |refine gD (dz (show a+f<lim by omega)) ?_ |refine iI (dz (show a+f<lim by omega)) ?_ |refine iH (dz (show a+f<lim by omega)) ?_ |refine iD (dz (show a+f<lim by omega)) ?_ |refine oU (dz (show a+f<lim by omega)) ?_
  first |refine aR (dz hb1) ?_ |refine gD (dz hb1) ?_ |refine iI (dz hb1) ?_ |refine iH (dz hb1) ?_ |refine iD (dz hb1) ?_ |refine oU (dz hb1) ?_
  refine dW ?_;refine aB ?_;refine aR (LX.l0 V) ?_;refine oF ?_;refine iZ ?_
  by_cases hlt:a+f+j<s.length
  ·have hd:decide (a+f+j<s.length)=true:=decide_eq_true (by omega)
   rw[qL hlt,List.takeWhile_cons] at k
   rw[hd]
   repeat first |(with_reducible first |refine dW ?_ |refine aB ?_ |refine aY ?_ |refine bH ?_)|refine aR (LX.l0 V) ?_ |refine aR (LX.l1 V) ?_
   first |refine aR (dz (show a+f<lim by omega)) ?_ |refine gD (dz (show a+f<lim by omega)) ?_ |refine iI (dz (show a+f<lim by omega)) ?_ |refine iH (dz (show a+f<lim by omega)) ?_ |refine iD (dz (show a+f<lim by omega)) ?_ |refine oU (dz (show a+f<lim by omega)) ?_
   refine bH ?_;refine aY ?_;refine bH ?_
   first |refine aR (dz hb1) ?_ |refine gD (dz hb1) ?_ |refine iI (dz hb1) ?_ |refine iH (dz hb1) ?_ |refine iD (dz hb1) ?_ |refine oU (dz hb1) ?_
   refine bH ?_
   first |refine aR (eD hlt) ?_ |refine gD (eD hlt) ?_ |refine iI (eD hlt) ?_ |refine iH (eD hlt) ?_ |refine iD (eD hlt) ?_ |refine oU (eD hlt) ?_
   refine dR ?_
   refine hf _ _ ?_
   cases hp:p (pk s (a+f+j)) with
   |true=>
    rw[hp] at k
    refine aI rfl ?_;refine dV ?_;refine bN ?_
    first |refine aR (jw (show j<lim by omega)) ?_ |refine gD (jw (show j<lim by omega)) ?_ |refine iI (jw (show j<lim by omega)) ?_ |refine iH (jw (show j<lim by omega)) ?_ |refine iD (jw (show j<lim by omega)) ?_ |refine oU (jw (show j<lim by omega)) ?_
    refine ih (j+1) (by omega) (by omega) ?_
    rw[if_pos rfl,List.length_cons] at k
    have e1:j+1+((s.drop (a+f+(j+1))).takeWhile p).length=j+(((s.drop (a+f+j+1)).takeWhile p).length+1):=by
     rw[show a+f+(j+1)=a+f+j+1 by omega];omega
    rw[e1];exact k
   |false=>
    rw[hp] at k
    refine aI rfl ?_;refine dV ?_;refine bC ?_
    simpa using k
  ·have hd:decide (a+f+j<s.length)=false:=decide_eq_false (by omega)
   rw[hd]
   repeat first |(with_reducible first |refine bC ?_ |refine fH ?_ |refine qy ?_ |refine eG ?_)
   rw[List.drop_of_length_le (by omega)] at k
   simpa using k
theorem c66 {n x a f:Nat} {p:Nat→Bool} {fv:AV} {s:Str} {bad:Bool} {h:ah} {K:au} (V:LX h x s a bad) (hL:s.length+f<lim) (hn:s.length<n) (ha:a≤s.length)
 (hf:∀(b:Nat) (K':au),K' (.bool (p b)) h=true→mI (av E n) fv [.int .u8 (b:Int)] h K'=true)
 (k:K (.int .i64 (((s.drop (a+f)).takeWhile p).length:Int)) h=true):av E (n+1) (.func 66) [.ptr x 0 0 0, .int .i64 (f:Int),fv] h K=true:=by
 apply d66
 unfold s66
 exact l66 V hL ha hf n 0 (.inr rfl) (by omega) (by simpa using k)
def nV (l:Str):Nat:=match l with
 | []=>0
 |c :: l=>if mH c=true then((c :: l).takeWhile G9).length else 0
theorem WY {s:Str} {i:Nat}:nV (s.drop i)=if mH (pk s i)=true then((s.drop i).takeWhile G9).length else 0:=by
 by_cases h:i<s.length
 ·rw[qL h];rfl
 ·rw[List.drop_of_length_le (by omega),Hu (by omega)];rfl
theorem c64 {n x a f:Nat} {s:Str} {bad:Bool} {h:ah} {K:au} (V:LX h x s a bad) (hL:s.length+f<lim) (hn:s.length<n) (hn3:3≤n) (ha:a≤s.length)
 (k:K (.int .i64 (nV (s.drop (a+f)):Int)) h=true):av E (n+2) (.func 64) [.ptr x 0 0 0, .int .i64 (f:Int)] h K=true:=by
 apply d64
 unfold s64
 refine c60 V hL ha (aI rfl ?_)
 unfold GU
 refine c63 (aI rfl ?_)
 unfold Ht
 rw[WY] at k
 refine Vj ?_
 cases hl:mH (pk s (a+f)) with
 |false=>rw[hl] at k;refine bN ?_;simpa using k
 |true=>
  rw[hl] at k
  refine bC ?_
  refine c66 (p:=G9) V hL hn ha ?_ (aI rfl (by simpa using k))
  intro b K' kk
  obtain⟨n,rfl⟩:∃j,n=j+2:=⟨n-2,by omega⟩
  exact c81 kk
theorem c62 {n x a p f m:Nat} {s:Str} {bad:Bool} {h:ah} {K:au} (V:LX h x s a bad) (P:Var h p [.ptr x 0 0 0]) (hL:s.length<lim) (hb:a+f+m≤s.length)
 (k:K (.str ((s.drop (a+f)).take m)) h=true):av E (n+1) (.func 62) [.int .i64 (f:Int), .int .i64 (m:Int), .ptr p 0 0 0] h K=true:=by
 apply d62
 unfold s62
 have P0:dZ h false 1 (.ptr p 0 0 0)=some (.ptr x 0 0 0):=by rw[P.load];rfl
 first |refine aR P0 ?_ |refine gD P0 ?_ |refine iI P0 ?_ |refine iH P0 ?_ |refine iD P0 ?_ |refine oU P0 ?_
 refine dW ?_;refine aB ?_
 first |refine aR V.l0 ?_ |refine gD V.l0 ?_ |refine iI V.l0 ?_ |refine iH V.l0 ?_ |refine iD V.l0 ?_ |refine oU V.l0 ?_
 first |refine aR P0 ?_ |refine gD P0 ?_ |refine iI P0 ?_ |refine iH P0 ?_ |refine iD P0 ?_ |refine oU P0 ?_
 refine dW ?_;refine aB ?_
 first |refine aR V.l1 ?_ |refine gD V.l1 ?_ |refine iI V.l1 ?_ |refine iH V.l1 ?_ |refine iD V.l1 ?_ |refine oU V.l1 ?_
 first |refine aR (dz (show a+f<lim by omega)) ?_ |refine gD (dz (show a+f<lim by omega)) ?_ |refine iI (dz (show a+f<lim by omega)) ?_ |refine iH (dz (show a+f<lim by omega)) ?_ |refine iD (dz (show a+f<lim by omega)) ?_ |refine oU (dz (show a+f<lim by omega)) ?_
 first |refine aR P0 ?_ |refine gD P0 ?_ |refine iI P0 ?_ |refine iH P0 ?_ |refine iD P0 ?_ |refine oU P0 ?_
 refine dW ?_;refine aB ?_
 first |refine aR V.l1 ?_ |refine gD V.l1 ?_ |refine iI V.l1 ?_ |refine iH V.l1 ?_ |refine iD V.l1 ?_ |refine oU V.l1 ?_
 first |refine aR (dz (show a+f<lim by omega)) ?_ |refine gD (dz (show a+f<lim by omega)) ?_ |refine iI (dz (show a+f<lim by omega)) ?_ |refine iH (dz (show a+f<lim by omega)) ?_ |refine iD (dz (show a+f<lim by omega)) ?_ |refine oU (dz (show a+f<lim by omega)) ?_
 first |refine aR (dz (show a+f+m<lim by omega)) ?_ |refine gD (dz (show a+f+m<lim by omega)) ?_ |refine iI (dz (show a+f+m<lim by omega)) ?_ |refine iH (dz (show a+f+m<lim by omega)) ?_ |refine iD (dz (show a+f+m<lim by omega)) ?_ |refine oU (dz (show a+f+m<lim by omega)) ?_
 first |refine aR (o8 (show a+f≤a+f+m by omega) hb) ?_ |refine gD (o8 (show a+f≤a+f+m by omega) hb) ?_ |refine iI (o8 (show a+f≤a+f+m by omega) hb) ?_ |refine iH (o8 (show a+f≤a+f+m by omega) hb) ?_ |refine iD (o8 (show a+f≤a+f+m by omega) hb) ?_ |refine oU (o8 (show a+f≤a+f+m by omega) hb) ?_
 have e:(s.take (a+f+m)).drop (a+f)=(s.drop (a+f)).take m:=by rw[List.drop_take];congr 1;omega
 rw[e];exact k
def bidx (c:Nat):Str→Option Nat
 | []=>none
 |b :: l=>if b=c then some 0 else(bidx c l).map (· + 1)
def fint:Option Nat→Int
 |none=> -1
 |some k=>k
theorem Kt (c:Nat):∀(l:Str) (i:Nat),JL c l i=match bidx c l with |none=> -1 |some k=>((i+k:Nat):Int)
 | [],i=>rfl
 |b :: l,i=>by
  simp only[JL,bidx]
  by_cases e:b=c
  ·rw[aH.2 e,cond_true,if_pos e];rfl
  ·rw[bZ.2 e,cond_false,if_neg e,Kt c l (i+1)]
   cases bidx c l with
   |none=>rfl
   |some k=>simp only[Option.map];congr 1;omega
theorem Xo (c:Nat) (l:Str):JL c l 0=fint (bidx c l):=by
 rw[Kt]
 cases bidx c l with
 |none=>rfl
 |some k=>simp[fint]
theorem c94 {n c:Nat} {s:Str} {h:ah} {K:au} (hc:c<256) (k:K (.int .i64 (fint (bidx c s))) h=true):av E (n+1) (.func 94) [.str s, .int .u8 (c:Int)] h K=true:=by
 show uU (av E n) n [.str s, .int .u8 (.ofNat c)] h K=true
 simp only[uU,bg.2 hc,cond_true,Xo]
 exact k
theorem c80 {n c:Nat} {s:Str} {h:ah} {K:au} (hc:c<256) (k:K (.int .i64 (fint (bidx c s))) h=true):av E (n+2) (.func 80) [.str s, .int .u8 (c:Int)] h K=true:=by
 apply d80
 unfold s80
 exact c94 hc k
theorem c61 {n c:Nat} {s:Str} {h:ah} {K:au} (hc:c<256) (k:K (.int .i64 (fint (bidx c s))) h=true):av E (n+3) (.func 61) [.str s, .int .u8 (c:Int)] h K=true:=by
 apply d61
 unfold s61
 exact c80 hc k
theorem c96 {n:Nat} {s t:Str} {h:ah} {K:au} (k:K (.bool (t.isPrefixOf s)) h=true):av E (n+1) (.func 96) [.str s, .str t] h K=true:=by
 apply d96
 unfold s96
 refine oF (oF (O8 ?_))
 by_cases hle:t.length≤s.length
 ·have hd:decide ((t.length:Int)≤(s.length:Int))=true:=decide_eq_true (by omega)
  have e:(decide (s.take t.length=t))=t.isPrefixOf s:=by
   rw[Bool.eq_iff_iff,decide_eq_true_iff,List.isPrefixOf_iff_prefix,List.prefix_iff_eq_take]
   exact eq_comm
  rw[hd]
  refine bH (aY (bH (aY (bH (oF (bH (iD (ZY hle) (bH (aY (bH (BR (dV ?_))))))))))))
  rw[e]
  exact k
 ·have hd:decide ((t.length:Int)≤(s.length:Int))=false:=decide_eq_false (by omega)
  have e:t.isPrefixOf s=false:=by
   cases hh:t.isPrefixOf s with
   |false=>rfl
   |true=>exact absurd (List.isPrefixOf_iff_prefix.1 hh).length_le hle
  rw[e] at k
  rw[hd]
  refine fH (fH (fH (fH (fH (fH (eG ?_))))))
  exact k
theorem c84 {n:Nat} {s t:Str} {h:ah} {K:au} (k:K (.bool (t.isPrefixOf s)) h=true):av E (n+2) (.func 84) [.str s, .str t] h K=true:=by
 apply d84
 unfold s84
 exact c96 k
def zI (p buf:AV):Row:={es:=[[p,buf]],sz:=2,g:=0,m:=0,rw:=true,ty:=some 143}
theorem Ee {h:ah} {id:Nat} {p buf:AV} (V:h.row id=some (zI p buf)) (ag:Bool) (off n:Nat):dZ h ag n (.ptr id 0 0 off)=lY ag off n [p,buf]:=by
 simp only[dZ,V,zI,Nat.ble_self_eq_true,cond_true,wL]
theorem WW {h:ah} {id:Nat} {p buf v:AV} (V:h.row id=some (zI p buf)) (hv:v.leaf=true):bW h 1 (.ptr id 0 0 0) v=some (h.put id (.row (zI v buf))):=by
 have hc:=oW hv
 simp only[bW,V,zI,hc,Nat.beq_refl,aD,hv,List.length_cons,List.length_nil,Bool.and_self,cond_true,wL,lg,lay]
 rfl
theorem WX {h:ah} {id:Nat} {p buf v:AV} (V:h.row id=some (zI p buf)) (hv:v.leaf=true):bW h 1 (.ptr id 0 0 1) v=some (h.put id (.row (zI p v))):=by
 have hc:=oW hv
 simp only[bW,V,zI,hc,Nat.beq_refl,aD,hv,List.length_cons,List.length_nil,Bool.and_self,cond_true,wL,lg,lay]
 rfl
structure Bld (h:ah) (id:Nat) (s:Str):Prop where
 ex:∃p buf,h.row id=some (zI p buf)∧(p= .nilPtr∨p= .ptr id 0 0 0)∧Own (id+1) h 1 buf (wh s)∧Md h buf 5∧(s=[]→buf= .nilSlc)
 bytes:∀b∈s,b<256
theorem aaP {h:ah} (k:h.Ok):RS h 143 [AV.nilPtr,AV.nilSlc]=some (.ptr h.sz 0 0 0,Ab.newRow h [[AV.nilPtr,AV.nilSlc]] 2 (some 143))∧Bld (Ab.newRow h [[AV.nilPtr,AV.nilSlc]] 2 (some 143)) h.sz []∧(Ab.newRow h [[AV.nilPtr,AV.nilSlc]] 2 (some 143)).Ok∧Ext h (Ab.newRow h [[AV.nilPtr,AV.nilSlc]] 2 (some 143)):=by
 refine⟨rfl,⟨⟨.nilPtr, .nilSlc, ?_, .inl rfl,Own.nil _ _ _, ?_,fun _=>rfl⟩,fun b hb=>by cases hb⟩,k.push _,sj k _⟩
 ·rw[ah.row_some];exact y8 _ _
 ·intro id g s l c ex hv;cases hv
theorem aiS {n a b c d:Nat} {h:ah} {K:au} (k:K (.ptr a b c d) h=true):av E (n+1) (.func 103) [.ptr a b c d] h K=true:=by
 show Kg (av E n) n [.ptr a b c d] h K=true
 exact k
theorem c95 {n id:Nat} {p buf:AV} {h:ah} {K:au} (V:h.row id=some (zI p buf)) (hp:p= .nilPtr∨p= .ptr id 0 0 0) (ho:h.Ok)
 (k:∀h',But id h h'→h'.Ok→h'.row id=some (zI (.ptr id 0 0 0) buf)→K (.tup []) h'=true):av E (n+2) (.func 95) [.ptr id 0 0 0] h K=true:=by
 apply d95
 unfold s95
 have hid:=ho.lt (ah.row_some.1 V)
 have L0:dZ h false 1 (.ptr id 0 0 0)=some p:=by rw[Ee V];rfl
 refine dW (aB (aR L0 ?_))
 rcases hp with rfl |rfl
 ·have e1:D6 h false .ptr .nilPtr .nilPtr=some (.bool true):=rfl
  have e2:Sz h (.ptr id 0 0 0)=some (.ptr id 0 0 0):=by simp only[Sz,V,zI];rfl
  refine oU e1 (bN (oU e2 (aiS (aI rfl ?_))))
  have e3:QD h 143 2 [] (.ptr id 0 0 0)=some (.ptr id 0 0 0):=by simp only[QD,V,zI];rfl
  unfold Gi
  refine oU e3 (dW (aB (Ew (WW V (show(AV.ptr id 0 0 0).leaf=true from rfl)) ?_)))
  exact k _ (But.put _ _ _) (ho.put hid _) (by rw[ah.row_some];exact ow _ _ _)
 ·have e1:D6 h false .ptr (.ptr id 0 0 0) .nilPtr=some (.bool false):=rfl
  have e2:D6 h true .ptr (.ptr id 0 0 0) (.ptr id 0 0 0)=some (.bool false):=by
   simp only[D6,TS,Tq,V,zI,Nat.beq_refl,cond_true]
   rfl
  refine oU e1 (bC (dW (aB (aR L0 (oU e2 (bC ?_))))))
  exact k _ (But.refl _ _) ho V
theorem c83 {n id b:Nat} {s:Str} {h h0:ah} {K:au} (B:Bld h id s) (ho:h.Ok) (ho0:h0.Ok) (e0:Ext h0 h) (hid:h0.sz≤id) (hl:s.length+1≤most) (hb:b<256)
 (k:∀h',Ext h0 h'→h'.Ok→Bld h' id (s++[b])→K .nilIf h'=true):av E (n+3) (.func 83) [.ptr id 0 0 0, .int .u8 (b:Int)] h K=true:=by
 apply d83
 unfold s83
 obtain⟨⟨p,buf,V,hp,O,T,hn⟩,hB⟩:=B
 refine c95 V hp ho ?_
 intro h1 B1 o1 V1
 refine aI rfl ?_
 have x1:=B1.ext e0 ho0 hid
 have id1:id<h1.sz:=o1.lt (ah.row_some.1 V1)
 have O1:=B1.own O (by omega)
 have T1:Md h1 buf 5:=LG T fun i g st l c ex o hv ho=>by
  rcases O with⟨rfl,_⟩|⟨i',r,q1,q2,_⟩
  ·cases hv
  ·rw[q2] at hv;cases hv
   exact B1.keep _ _ (by omega) ho
 have L1:dZ h1 false 1 (.ptr id 0 0 1)=some buf:=by rw[Ee V1];rfl
 refine dW (aB (aR L1 ?_))
 obtain⟨v,g1,W⟩:=xE (h:=h1) (n:=1) (sz:=1) (z:=[AV.int .u8 0]) (ps:=[(0, .int .u8 (b:Int))]) (es:=[[.int .u8 (b:Int)]]) rfl (by decide) (by decide) rfl rfl rfl
 refine Wd g1 ?_
 have e2:=gY o1 [[AV.int .u8 (b:Int)]] 1
 have o2:=iN o1 [[AV.int .u8 (b:Int)]] 1
 have z2:(Ab.newRow h1 [[AV.int .u8 (b:Int)]] 1).sz=h1.sz+1:=rfl
 have T2:Md (Ab.newRow h1 [[AV.int .u8 (b:Int)]] 1) buf 5:=LG T1 fun _ _ _ _ _ _ _ _ hg=>e2.2 _ _ hg
 generalize Ab.newRow h1 [[AV.int .u8 (b:Int)]] 1=h2 at *
 obtain⟨v',h3,a1,a2,a3,a4,a5,a6,_,a8⟩:=(O1.ext e2).appb (e:=5) (by omega) o2 ho0 (x1.trans e2) (by omega) W.src (by simpa[wh] using hl)
 refine Wd a1 ?_
 have V3:h3.row id=some (zI (.ptr id 0 0 0) buf):=by
  rw[ah.row_some]
  refine a6 _ _ (e2.2 _ _ (ah.row_some.1 V1)) ?_
  intro i g st l c ex hv
  rcases O with⟨rfl,_⟩|⟨i',r,q1,q2,_⟩
  ·cases hv
  ·rw[q2] at hv;cases hv;omega
 have id3:id<h3.sz:=a3.lt (ah.row_some.1 V3)
 refine dW (aB (Ew (WX V3 a2.view.leaf) ?_))
 refine k _ (FU a4 ho0 hid _) (a3.put id3 _) ⟨⟨.ptr id 0 0 0,v',by rw[ah.row_some];exact ow _ _ _, .inr rfl, ?_, ?_,fun h=>by simp at h⟩, ?_⟩
 ·have:wh (s++[b])=wh s++[[.int .u8 (b:Int)]]:=by simp[wh]
  rw[this]
  exact PK a2 fun j o hj g=>by rw[Js (by omega)];exact g
 ·refine LG (a8 T2) fun i g st l c ex o hv hg=> ?_
  rcases a2 with⟨rfl,_⟩|⟨i',r,q1,q2,_⟩
  ·cases hv
  ·rw[q2] at hv;cases hv
   rw[Js (by omega)];exact hg
 ·intro c hc
  rcases List.mem_append.1 hc with hc |hc
  ·exact hB c hc
  ·simp only[List.mem_singleton] at hc;omega
theorem c82 {n id:Nat} {s:Str} {h h0:ah} {K:au} (B:Bld h id s) (ho:h.Ok) (ho0:h0.Ok) (e0:Ext h0 h) (hid:h0.sz≤id) (hl:s.length≤most)
 (k:∀h',Ext h0 h'→h'.Ok→K (.str s) h'=true):av E (n+1) (.func 82) [.ptr id 0 0 0] h K=true:=by
 apply d82
 unfold s82
 obtain⟨⟨p,buf,V,hp,O,T,hn⟩,hB⟩:=B
 have L1:dZ h false 1 (.ptr id 0 0 1)=some buf:=by rw[Ee V];rfl
 have V0:=O.view
 refine dW (aB (aR L1 ?_))
 by_cases hs:s=[]
 ·subst hs
  rw[hn rfl] at L1
  rw[hn rfl]
  refine oU (v:= .nilPtr) rfl (dW (aB (aR L1 (adF (Wd (v:= .str []) (h':=h) rfl ?_)))))
  exact k _ e0 ho
 ·rcases O with⟨rfl,he⟩|⟨i,r,q1,rfl,q3,q4,q5,q6,q7⟩
  ·cases s with
   |nil=>exact absurd rfl hs
   |cons b s=>simp[wh] at he
  ·obtain⟨r',t1,t2⟩:=T _ _ _ _ _ _ rfl
   rw[q3] at t1;cases t1
   have hpos:0<(wh s).length:=by cases s with |nil=>exact absurd rfl hs |cons b s=>simp[wh]
   have hlen:(wh s).length=s.length:=by simp[wh]
   have e1:Ih (.slc i r.g 0 (wh s).length (wh s).length false)=some (.ptr i r.g 0 0):=by simp only[Ih,bg.2 hpos,cond_true]
   have hk:Nat.beq (wh s).length 0=false:=bZ.2 (by omega)
   have e2:EF h 5 (.ptr i r.g 0 0) (.int .i64 ((wh s).length:Int))=some (.str s,h.put i .gone):=by
    show EF h 5 (.ptr i r.g 0 0) (.int .i64 (.ofNat (wh s).length))=_
    simp only[EF,hk,cond_false,q3,t2,q4,Nat.beq_refl,q6,aK.2 (show(wh s).length≤most by omega),Bool.and_self,cond_true,q7,List.take_length,EU s hB]
   refine oU e1 (dW (aB (aR L1 (fD V0 (Wd e2 ?_)))))
   exact k _ (FU e0 ho0 (by omega) _) (ho.put (ho.lt (ah.row_some.1 q3)) _)
def skip:Bool→Str→Nat
 |_,[]=>0
 |true,c :: l=>if c=10 then skip false l+1 else skip true l+1
 |false,c :: l=>if Ah c=true then skip false l+1 else if c=47∧l.head? =some 47 then skip true l+1 else 0
theorem yF:∀(b:Bool) (l:Str),skip b l≤l.length
 |_,[]=>by simp[skip]
 |true,c :: l=>by
  have h1:=yF true l
  have h2:=yF false l
  simp only[skip,List.length_cons];split<;>omega
 |false,c :: l=>by
  have h1:=yF true l
  have h2:=yF false l
  simp only[skip,List.length_cons];split
  ·omega
  ·split<;>omega
theorem EL:∀(l:Str),skip true l=match bidx 10 l with |none=>l.length |some k=>k+skip false (l.drop k)
 | []=>rfl
 |c :: l=>by
  simp only[skip,bidx]
  by_cases e:c=10
  ·subst e
   simp[skip,Ah]
  ·rw[if_neg e,if_neg e,EL l]
   cases bidx 10 l with
   |none=>rfl
   |some k=>
    show k+skip false (l.drop k)+1=(k+1)+skip false ((c :: l).drop (k+1))
    rw[List.drop_succ_cons];omega
theorem LZ {c:Nat}:∀{l:Str} {k:Nat},bidx c l=some k→k<l.length
 | [],_,h=>by cases h
 |b :: l,k,h=>by
  simp only[bidx] at h
  split at h
  ·cases h;simp
  ·cases hb:bidx c l with
   |none=>rw[hb] at h;cases h
   |some j=>rw[hb] at h;cases h;have:=LZ hb;simp;omega
theorem aa8 {s:Str} {i:Nat} {c:Nat} (hc:c≠0):((s.drop i).head? =some c)↔pk s i=c:=by
 by_cases h:i<s.length
 ·rw[qL h];simp
 ·rw[List.drop_of_length_le (by omega),Hu (by omega)]
  constructor
  ·intro e;cases e
  ·intro e;omega
theorem aaH {s:Str} {a:Nat} (h:a<s.length):skip false (s.drop a)=if Ah (pk s a)=true then skip false (s.drop (a+1))+1 else if pk s a=47∧pk s (a+1)=47 then skip true (s.drop a) else 0:=by
 rw[qL h]
 simp only[skip]
 split
 ·rfl
 ·rename_i hb
  have hp:=aa8 (s:=s) (i:=a+1) (c:=47) (by decide)
  by_cases hh:pk s a=47∧pk s (a+1)=47
  ·have:¬pk s a=10:=by rw[hh.1];decide
   rw[if_pos ⟨hh.1,hp.2 hh.2⟩,if_pos hh,if_neg this]
  ·rw[if_neg (fun e=>hh ⟨e.1,hp.1 e.2⟩),if_neg hh]
theorem abI (b:Nat) {k:AV→Bool} (s:k (.bool (Ah b))=true):
 (dS (.int .u8 (b:Int)) (.int .u8 32) fun v2=>gK v2 false (bM (some (.int .u8 (b:Int)))) fun v3=>gK v2 false (dS v3 (.int .u8 9)) fun v4=>bU v2 (.bool true) v4 fun v5=>gK v5 false (bM (some (.int .u8 (b:Int)))) fun v6=>gK v5 false (dS v6 (.int .u8 13)) fun v7=>bU v5 (.bool true) v7 fun v8=>gK v8 false (bM (some (.int .u8 (b:Int)))) fun v9=>gK v8 false (dS v9 (.int .u8 10)) fun v10=>bU v8 (.bool true) v10 fun v11=>k v11)=true:=by
 have e1:eH .eql (.int .u8 (b:Int)) (AV.int .u8 32)=some (.bool (decide (b=32))):=Yw 32 b
 have e2:eH .eql (.int .u8 (b:Int)) (AV.int .u8 9)=some (.bool (decide (b=9))):=Yw 9 b
 have e3:eH .eql (.int .u8 (b:Int)) (AV.int .u8 13)=some (.bool (decide (b=13))):=Yw 13 b
 have e4:eH .eql (.int .u8 (b:Int)) (AV.int .u8 10)=some (.bool (decide (b=10))):=Yw 10 b
 unfold Ah at s
 cases h1:decide (b=32)<;>cases h2:decide (b=9)<;>cases h3:decide (b=13)<;>cases h4:decide (b=10)<;>rw[h1,h2,h3,h4] at s<;>rw[h1] at e1<;>rw[h2] at e2<;>rw[h3] at e3<;>rw[h4] at e4
 all_goals(repeat first |(with_reducible first |refine dV ?_ |refine eG ?_ |refine bV ?_ |refine lK ?_ |refine aY ?_)|refine kg e1 ?_ |refine kg e2 ?_ |refine kg e3 ?_ |refine kg e4 ?_)
 all_goals exact s
theorem j44 {n x a:Nat} {s:Str} {bad:Bool} {h:ah} {K:au} {B0:AV→ah→Bool} (V:LX h x s a bad) (ho:h.Ok) (hL:s.length+1<lim) (ha:a≤s.length)
 (kB:∀h' a',But x h h'→h'.Ok→LX h' x s a' bad→a<a'→a'≤s.length→a+skip false (s.drop a)=a'+skip false (s.drop a')→B0 (.ptr x 0 0 0) h'=true)
 (kE:skip false (s.drop a)=0→K (.tup []) h=true):NP (av E (n+3)) (n+3) B0 (.ptr x 0 0 0) h K=true:=by
 have hx:x<h.sz:=Var.lt V ho
 unfold NP
 refine c60 (k:=0) V (by omega) ha (aI rfl ?_)
 refine abI _ ?_
 rw[Nat.add_zero]
 have go:∀a',a<a'→a'≤s.length→a+skip false (s.drop a)=a'+skip false (s.drop a')→
  B0 (.ptr x 0 0 0) (h.put x (.row (kW [.str s, .int .i64 (a':Int), .bool bad])))=true:=fun a' h1 h2 h3=>kB _ a' (But.put x h _) (ho.put hx _) (R6 h x s a' bad) h1 h2 h3
 by_cases hend:a<s.length
 ·have hs:=aaH hend
  cases hb:Ah (pk s a) with
  |true=>
   rw[hb,if_pos rfl] at hs
   refine bN ?_;refine dW ?_;refine aB ?_;refine aR (LX.l1 V) ?_
   first |refine aR (jw (show a<lim by omega)) ?_ |refine gD (jw (show a<lim by omega)) ?_ |refine iI (jw (show a<lim by omega)) ?_ |refine iH (jw (show a<lim by omega)) ?_ |refine iD (jw (show a<lim by omega)) ?_ |refine oU (jw (show a<lim by omega)) ?_ |refine kg (jw (show a<lim by omega)) ?_ |refine z_neE (jw (show a<lim by omega)) ?_ |refine nT (jw (show a<lim by omega)) ?_ |refine qC (jw (show a<lim by omega)) ?_ |refine wm (jw (show a<lim by omega)) ?_ |refine qB (jw (show a<lim by omega)) ?_
   refine dW ?_;refine aB ?_
   refine Ew (V.set _) ?_
   exact go (a+1) (by omega) (by omega) (by omega)
  |false=>
   rw[hb,if_neg (by decide)] at hs
   have e47:eH .eql (.int .u8 (pk s a:Int)) (AV.int .u8 47)=some (.bool (decide (pk s a=47))):=Yw 47 _
   refine bC ?_;refine oO ?_
   rw[show decide ((pk s a:Int)=47)=decide (pk s a=47) from decide_eq_decide.2 (by omega)]
   by_cases h1:pk s a=47
   ·rw[decide_eq_true h1]
    refine bH ?_;refine aY ?_;refine dR ?_
    refine c60 (k:=1) V hL ha (aI rfl ?_)
    unfold Ep
    have e47':eH .eql (.int .u8 (pk s (a+1):Int)) (AV.int .u8 47)=some (.bool (decide (pk s (a+1)=47))):=Yw 47 _
    refine bH ?_;refine oO ?_;refine dV ?_
    rw[show decide ((pk s (a+1):Int)=47)=decide (pk s (a+1)=47) from decide_eq_decide.2 (by omega)]
    skip
    by_cases h2:pk s (a+1)=47
    ·refine tZ (decide_eq_true h2) ?_
     rw[if_pos ⟨h1,h2⟩,EL] at hs
     refine dW ?_;refine aB ?_;refine aR (LX.l0 V) ?_;refine dW ?_;refine aB ?_;refine aR (LX.l1 V) ?_
     first |refine aR (dO ha) ?_ |refine gD (dO ha) ?_ |refine iI (dO ha) ?_ |refine iH (dO ha) ?_ |refine iD (dO ha) ?_ |refine oU (dO ha) ?_ |refine kg (dO ha) ?_ |refine z_neE (dO ha) ?_ |refine nT (dO ha) ?_ |refine qC (dO ha) ?_ |refine wm (dO ha) ?_ |refine qB (dO ha) ?_
     refine c61 (c:=10) (by decide) (aI rfl ?_)
     have hgo:∀d:Nat,a+d≤s.length→0<d→a+skip false (s.drop a)=(a+d)+skip false (s.drop (a+d))→IE (av E (n+3)) (n+3) B0 (.ptr x 0 0 0) (.int .i64 (d:Int)) h K=true:=by
      intro d hd hd0 he
      unfold IE
      refine dW ?_;refine aB ?_;refine aR (LX.l1 V) ?_
      first |refine aR (dz (show a+d<lim by omega)) ?_ |refine gD (dz (show a+d<lim by omega)) ?_ |refine iI (dz (show a+d<lim by omega)) ?_ |refine iH (dz (show a+d<lim by omega)) ?_ |refine iD (dz (show a+d<lim by omega)) ?_ |refine oU (dz (show a+d<lim by omega)) ?_ |refine kg (dz (show a+d<lim by omega)) ?_ |refine z_neE (dz (show a+d<lim by omega)) ?_ |refine nT (dz (show a+d<lim by omega)) ?_ |refine qC (dz (show a+d<lim by omega)) ?_ |refine wm (dz (show a+d<lim by omega)) ?_ |refine qB (dz (show a+d<lim by omega)) ?_
      refine dW ?_;refine aB ?_
      refine Ew (V.set _) ?_
      exact go (a+d) (by omega) hd he
     cases hk:bidx 10 (s.drop a) with
     |none=>
      rw[hk] at hs
      have hl:(s.drop a).length=s.length-a:=by simp
      have e0:eH .lss (.int .i64 (fint none)) (AV.int .i64 0)=some (.bool true):=rfl
      first |refine aR e0 ?_ |refine gD e0 ?_ |refine iI e0 ?_ |refine iH e0 ?_ |refine iD e0 ?_ |refine oU e0 ?_ |refine kg e0 ?_ |refine z_neE e0 ?_ |refine nT e0 ?_ |refine qC e0 ?_ |refine wm e0 ?_ |refine qB e0 ?_
      refine bN ?_;refine dW ?_;refine aB ?_;refine aR (LX.l0 V) ?_;refine oF ?_;refine dW ?_;refine aB ?_;refine aR (LX.l1 V) ?_
      first |refine aR (kU ha (show s.length<lim by omega)) ?_ |refine gD (kU ha (show s.length<lim by omega)) ?_ |refine iI (kU ha (show s.length<lim by omega)) ?_ |refine iH (kU ha (show s.length<lim by omega)) ?_ |refine iD (kU ha (show s.length<lim by omega)) ?_ |refine oU (kU ha (show s.length<lim by omega)) ?_ |refine kg (kU ha (show s.length<lim by omega)) ?_ |refine z_neE (kU ha (show s.length<lim by omega)) ?_ |refine nT (kU ha (show s.length<lim by omega)) ?_ |refine qC (kU ha (show s.length<lim by omega)) ?_ |refine wm (kU ha (show s.length<lim by omega)) ?_ |refine qB (kU ha (show s.length<lim by omega)) ?_
      refine hgo (s.length-a) (by omega) (by omega) ?_
      rw[show a+(s.length-a)=s.length by omega,List.drop_length]
      simp only[hl] at hs
      rw[hs]
      simp only[skip];omega
     |some k=>
      rw[hk] at hs
      have hlt:=LZ hk
      simp only[List.length_drop] at hlt
      have hk0:0<k:=by
       rcases Nat.eq_zero_or_pos k with h0 |h0
       ·subst h0
        rw[qL hend] at hk
        simp only[bidx] at hk
        rw[if_neg (by rw[h1];decide)] at hk
        cases hq:bidx 10 (s.drop (a+1))<;>rw[hq] at hk<;>simp at hk
       ·exact h0
      have e0:eH .lss (.int .i64 (fint (some k))) (AV.int .i64 0)=some (.bool false):=by
       rw[He];rfl
      first |refine aR e0 ?_ |refine gD e0 ?_ |refine iI e0 ?_ |refine iH e0 ?_ |refine iD e0 ?_ |refine oU e0 ?_ |refine kg e0 ?_ |refine z_neE e0 ?_ |refine nT e0 ?_ |refine qC e0 ?_ |refine wm e0 ?_ |refine qB e0 ?_
      skip
      refine hgo k (by omega) hk0 ?_
      simp only[List.drop_drop] at hs
      omega
    ·refine uI (decide_eq_false h2) ?_
     rw[if_neg (by omega)] at hs
     exact kE hs
   ·rw[decide_eq_false h1]
    refine fH ?_;refine qy ?_
    rw[if_neg (by omega)] at hs
    exact kE hs
 ·have hp:=Hu (s:=s) (i:=a) (by omega)
  have hb:Ah (pk s a)=false:=by rw[hp];rfl
  have e47:eH .eql (.int .u8 (pk s a:Int)) (AV.int .u8 47)=some (.bool false):=by rw[hp];rfl
  rw[hb]
  refine bC ?_;refine oO ?_
  rw[show decide ((pk s a:Int)=47)=false from by rw[hp];rfl]
  refine fH ?_;refine qy ?_
  exact kE (by rw[List.drop_of_length_le (by omega)];rfl)
theorem g44 {n x:Nat} {s:Str} {bad:Bool} {K:au} (hL:s.length+1<lim):∀(m a:Nat) (h:ah),LX h x s a bad→h.Ok→a≤s.length→s.length-a<m→
 (∀h',But x h h'→h'.Ok→LX h' x s (a+skip false (s.drop a)) bad→K (.tup []) h'=true)→O5 (av E (n+3)) (n+3) m (.ptr x 0 0 0) h K=true:=by
 intro m
 induction m with
 |zero=>intro a h _ _ _ hm;omega
 |succ m ih=>
  intro a h V ho ha hm k
  unfold O5
  refine j44 V ho hL ha (fun h' a' B o' V' h1 h2 h3=>ih a' h' V' o' h2 (by omega) fun h'' B' o'' V''=>k h'' (B.trans B') o'' (by rw[h3];exact V'')) fun h0=>k h (But.refl _ _) ho (by rw[h0];exact V)
theorem c44 {n x a:Nat} {s:Str} {bad:Bool} {h:ah} {K:au} (V:LX h x s a bad) (ho:h.Ok) (hL:s.length+1<lim) (ha:a≤s.length) (hn:s.length<n)
 (k:∀h',But x h h'→h'.Ok→LX h' x s (a+skip false (s.drop a)) bad→K (.tup []) h'=true):av E (n+4) (.func 44) [.ptr x 0 0 0] h K=true:=by
 apply d44
 show NP (av E (n+3)) (n+3) (fun x0 h=>O5 (av E (n+3)) (n+3) (n+3) x0 h K) (.ptr x 0 0 0) h K=true
 refine j44 V ho hL ha (fun h' a' B o' V' h1 h2 h3=>g44 hL _ a' h' V' o' h2 (by omega) fun h'' B' o'' V''=>k h'' (B.trans B') o'' (by rw[h3];exact V'')) fun h0=>k h (But.refl _ _) ho (by rw[h0];exact V)
def xw:List Str:=[[61,61],[33,61],[60,61],[62,61],[38,38],[124,124]]
def FH:Str:=[40,41,91,93,123,125,44,46,58,59,63,60,62,61,43,45,42,47,37,33]
def nu (l:Str):Nat:=if(xw.any fun t=>t.isPrefixOf l)=true then 2 else match l with
 | []=>0
 |c :: _=>if(bidx c FH).isSome=true then 1 else 0
theorem l68 {n x a:Nat} {s:Str} {bad:Bool} {h:ah} {v:AV} {K:au} (V:LX h x s a bad) (W:View h 1 v (xw.map fun t=>[.str t])) (hb:∀b∈s,b<256) (ha:a<s.length)
 (k:K (.int .i64 (nu (s.drop a):Int)) h=true):∀(m i:Nat),i≤6→6-i<m→((xw.take i).any fun t=>t.isPrefixOf (s.drop a))=false→
 U7 (av E (n+3)) (n+3) m (.ptr x 0 0 0) v (.int .i64 6) (.int .i64 (i:Int)) h K=true:=by
 intro m
 induction m with
 |zero=>intro i _ hm;omega
 |succ m ih=>
  intro i hi hm hany
  unfold U7 Zj
  by_cases hlt:i<6
  ·have ht:xw[i]? =some (xw[i]'hlt):=List.getElem?_eq_getElem hlt
   have he:(xw.map fun t=>[AV.str t])[i]? =some [.str (xw[i]'hlt)]:=by rw[List.getElem?_map,ht];rfl
   obtain⟨id,g,j,p1,p2⟩:=W.at he
   have e6:decide ((i:Int)<6)=true:=decide_eq_true (by omega)
   have p3:dZ h false 1 (.ptr id g j 0)=some (.str (xw[i]'hlt)):=by rw[p2];rfl
   refine eY (tZ e6 ?_)
   first |refine aR (p1 _) ?_ |refine gD (p1 _) ?_ |refine iI (p1 _) ?_ |refine iH (p1 _) ?_ |refine iD (p1 _) ?_ |refine oU (p1 _) ?_ |refine kg (p1 _) ?_ |refine z_neE (p1 _) ?_ |refine nT (p1 _) ?_ |refine qC (p1 _) ?_ |refine wm (p1 _) ?_ |refine qB (p1 _) ?_
   first |refine aR p3 ?_ |refine gD p3 ?_ |refine iI p3 ?_ |refine iH p3 ?_ |refine iD p3 ?_ |refine oU p3 ?_ |refine kg p3 ?_ |refine z_neE p3 ?_ |refine nT p3 ?_ |refine qC p3 ?_ |refine wm p3 ?_ |refine qB p3 ?_
   refine dW ?_;refine aB ?_;refine aR (LX.l0 V) ?_;refine dW ?_;refine aB ?_;refine aR (LX.l1 V) ?_
   first |refine aR (dO (Nat.le_of_lt ha)) ?_ |refine gD (dO (Nat.le_of_lt ha)) ?_ |refine iI (dO (Nat.le_of_lt ha)) ?_ |refine iH (dO (Nat.le_of_lt ha)) ?_ |refine iD (dO (Nat.le_of_lt ha)) ?_ |refine oU (dO (Nat.le_of_lt ha)) ?_ |refine kg (dO (Nat.le_of_lt ha)) ?_ |refine z_neE (dO (Nat.le_of_lt ha)) ?_ |refine nT (dO (Nat.le_of_lt ha)) ?_ |refine qC (dO (Nat.le_of_lt ha)) ?_ |refine wm (dO (Nat.le_of_lt ha)) ?_ |refine qB (dO (Nat.le_of_lt ha)) ?_
   refine c84 ?_
   cases hp:(xw[i]'hlt).isPrefixOf (s.drop a) with
   |true=>
    have:(xw.any fun t=>t.isPrefixOf (s.drop a))=true:=List.any_eq_true.2 ⟨_,List.getElem_mem hlt,hp⟩
    have e:nu (s.drop a)=2:=by unfold nu;rw[if_pos this]
    rw[e] at k
    refine aI rfl ?_;refine bN ?_
    exact k
   |false=>
    refine aI rfl ?_;refine bC ?_
    first |refine aR (jw (show i<lim by have:=qp;omega)) ?_ |refine gD (jw (show i<lim by have:=qp;omega)) ?_ |refine iI (jw (show i<lim by have:=qp;omega)) ?_ |refine iH (jw (show i<lim by have:=qp;omega)) ?_ |refine iD (jw (show i<lim by have:=qp;omega)) ?_ |refine oU (jw (show i<lim by have:=qp;omega)) ?_ |refine kg (jw (show i<lim by have:=qp;omega)) ?_ |refine z_neE (jw (show i<lim by have:=qp;omega)) ?_ |refine nT (jw (show i<lim by have:=qp;omega)) ?_ |refine qC (jw (show i<lim by have:=qp;omega)) ?_ |refine wm (jw (show i<lim by have:=qp;omega)) ?_ |refine qB (jw (show i<lim by have:=qp;omega)) ?_
    refine ih (i+1) (by omega) (by omega) ?_
    rw[List.take_add_one,ht,List.any_append,hany]
    simp[hp]
  ·have hi6:i=6:=by omega
   subst hi6
   have e6:decide (((6:Nat):Int)<6)=false:=decide_eq_false (by omega)
   have hany':(xw.any fun t=>t.isPrefixOf (s.drop a))=false:=by
    have:xw.take 6=xw:=rfl
    rw[this] at hany;exact hany
   have hm0:nu (s.drop a)=if(bidx (pk s a) FH).isSome=true then 1 else 0:=by
    unfold nu
    rw[if_neg (by rw[hany'];decide),qL ha]
   refine eY (uI e6 ?_)
   unfold RO
   refine dW ?_;refine aB ?_;refine aR (LX.l0 V) ?_;refine dW ?_;refine aB ?_;refine aR (LX.l1 V) ?_
   first |refine aR (eD ha) ?_ |refine gD (eD ha) ?_ |refine iI (eD ha) ?_ |refine iH (eD ha) ?_ |refine iD (eD ha) ?_ |refine oU (eD ha) ?_ |refine kg (eD ha) ?_ |refine z_neE (eD ha) ?_ |refine nT (eD ha) ?_ |refine qC (eD ha) ?_ |refine wm (eD ha) ?_ |refine qB (eD ha) ?_
   refine c61 (c:=pk s a) (by rw[TR ha];exact hb _ (List.getElem_mem ha)) ?_
   rw[hm0] at k
   refine aI rfl ?_
   show Cr (.int .i64 (fint (bidx (pk s a) FH))) _ _=true
   cases hs:bidx (pk s a) FH with
   |none=>
    rw[hs] at k
    have e0:eH .geq (.int .i64 (fint none)) (AV.int .i64 0)=some (.bool false):=rfl
    first |refine aR e0 ?_ |refine gD e0 ?_ |refine iI e0 ?_ |refine iH e0 ?_ |refine iD e0 ?_ |refine oU e0 ?_ |refine kg e0 ?_ |refine z_neE e0 ?_ |refine nT e0 ?_ |refine qC e0 ?_ |refine wm e0 ?_ |refine qB e0 ?_
    refine bC ?_
    exact k
   |some j=>
    rw[hs] at k
    have e0:eH .geq (.int .i64 (fint (some j))) (AV.int .i64 0)=some (.bool true):=by
     rw[OL];rfl
    first |refine aR e0 ?_ |refine gD e0 ?_ |refine iI e0 ?_ |refine iH e0 ?_ |refine iD e0 ?_ |refine oU e0 ?_ |refine kg e0 ?_ |refine z_neE e0 ?_ |refine nT e0 ?_ |refine qC e0 ?_ |refine wm e0 ?_ |refine qB e0 ?_
    skip
    exact k
theorem c68 {n x a:Nat} {s:Str} {bad:Bool} {h:ah} {K:au} (V:LX h x s a bad) (ho:h.Ok) (hb:∀b∈s,b<256) (ha:a<s.length) (hn:6≤n)
 (k:∀h',Ext h h'→h'.Ok→K (.int .i64 (nu (s.drop a):Int)) h'=true):av E (n+4) (.func 68) [.ptr x 0 0 0] h K=true:=by
 apply d68
 unfold s68
 obtain⟨v,g1,W⟩:=xE (h:=h) (n:=6) (sz:=1) (z:=[AV.str []]) (ps:=[(0,(AV.str [61,61])),(1,(AV.str [33,61])),(2,(AV.str [60,61])),(3,(AV.str [62,61])),(4,(AV.str [38,38])),(5,(AV.str [124,124]))]) (es:=xw.map fun t=>[.str t]) rfl (by decide) (by decide) rfl rfl rfl
 refine Wd g1 ?_
 have e:=gY ho (xw.map fun t=>[AV.str t]) 1
 have o:=iN ho (xw.map fun t=>[AV.str t]) 1
 first |refine aR W.len ?_ |refine gD W.len ?_ |refine iI W.len ?_ |refine iH W.len ?_ |refine iD W.len ?_ |refine oU W.len ?_ |refine kg W.len ?_ |refine z_neE W.len ?_ |refine nT W.len ?_ |refine qC W.len ?_ |refine wm W.len ?_ |refine qB W.len ?_
 exact l68 (V.ext e) W hb ha (k _ e o) (n+3) 0 (by omega) (by omega) rfl
end Go.Proofs.YtibillhjmfbneaaGreatDoor
