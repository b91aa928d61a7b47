/-
  ParseJoins says true of all texts, for every order in which the operands are evaluated and the maps are ranged over; what is handed in reads as it did. The variables that the row lists are as it says. What is handed in is of bulk 1048576 at most.
-/
import Derived.Test.YtibillhjmfbneaaGreatDoorJ7
import Derived.Test.YtibillhjmfbneaaGreatDoorRows
import Derived.Test.YtibillhjmfbneaaGreatDoorCards
import Derived.Test.YtibillhjmfbneaaGreatDoorTie
import Derived.SevenTiedAt
import Derived.ProofKit
import Derived.OpenShut
import Derived.JoinedCond
import Derived.Deep.DeepHandedRow
import Derived.ChangeSame
import Derived.LaidLaws
import Derived.Lay
import Derived.Stop.LaidErr
set_option linter.unusedSimpArgs false
set_option linter.unusedVariables false
namespace Go.Proofs.YtibillhjmfbneaaGreatDoor.parseJoins
open Go.ChangeShapes Go.WideShapes Go.ChangeAt Go.RowKit
theorem own:ownKnob Tryz.prog.godebug=none:=by kernel_rfl
theorem gV:Tryz.prog.globalNamed "strconv.ErrRange" =some 1:=by kernel_rfl
theorem gT:(Tryz.prog.globals[1]?).map (·.type)=some 120:=by kernel_rfl
theorem cellsE:Tryz.prog.cellsOf 169=1:=by kernel_rfl
theorem cellsS:Tryz.prog.cellsOf 9=1:=by kernel_rfl
theorem star: "*" ++ "errors.errorString" = "*errors.errorString" :=by decide
theorem rowP (u:TypeId) (h:Tryz.prog.typeName? 3 u=some "*errors.errorString"):u=167:=
 typeName_ptr_named (nm:= "errors.errorString") (by rw[star];kernel_rfl) (by kernel_rfl) (by decide) u (by rw[star];exact h)
theorem holdsV {W:World} (hL:laidMet Tryz.prog Rows.parseJoinsUptoRow.laid W):∃te pe,W.cell? ⟨1,0,none⟩=some (.iface te pe):=by
 obtain⟨a,s,hv, -, -, -⟩:=laid_sentinel hL.tail.tail.tail gV gT Tryz.underlying120 rowP Tryz.underlying167 Tryz.underlying169 rfl rfl Tryz.underlying9 cellsE cellsS
 exact⟨_,_,by have h0:=World.var?_cell gV hv 0;simpa using h0⟩
theorem texts {es:List (List Ab.AV)} {l:List (List Nat)} {h:Ab.aj} (a:Ab.vE (Ab.Yt h) es l):es=l.map pJ∧∀s∈l,∀b∈s,b<256:=by
 induction a with
 |nil=>exact⟨rfl,fun _ h=>by cases h⟩
 |cons h t ih=>
  obtain⟨h1,h2⟩:=h
  obtain⟨i1,i2⟩:=ih
  refine⟨by rw[h1,i1];rfl,fun s hs=> ?_⟩
  rcases List.mem_cons.1 hs with rfl |hs
  ·exact h2
  ·exact i2 s hs
mutual
theorem Ie {H:Type}:∀(d:DataW H),Rows.uptoBulk d=Ab.bulk d
 | .lit l=>by cases l<;>simp[Rows.uptoBulk,Ab.bulk]
 | .nil=>by simp[Rows.uptoBulk,Ab.bulk]
 | .ptr d=>by simp[Rows.uptoBulk,Ab.bulk,Ie d]
 | .slice a b=>by simp[Rows.uptoBulk,Ab.bulk,uD a,uD b]
 | .agg a=>by simp[Rows.uptoBulk,Ab.bulk,uD a]
 | .iface _ d=>by simp[Rows.uptoBulk,Ab.bulk,Ie d]
 | .map es=>by simp[Rows.uptoBulk,Ab.bulk,zn es]
 | .held _=>by simp[Rows.uptoBulk,Ab.bulk]
theorem uD {H:Type}:∀(l:List (DataW H)),Rows.uptoBulkAll l=Ab.sJ l
 | []=>rfl
 |d :: l=>by simp[Rows.uptoBulkAll,Ab.sJ,Ie d,uD l]
theorem zn {H:Type}:∀(l:List (Lit×DataW H)),Rows.uptoBulkEntries l=Ab.uK l
 | []=>rfl
 |(k,d) :: l=>by
  have h1:=Ie d
  have h2:=zn l
  cases k<;>simp[Rows.uptoBulkEntries,Ab.uK,Rows.uptoBulkEntry,Ab.MW,h1,h2]
end
theorem Rb:∀(l:List (List Nat)),∀s∈l,s.length≤Ab.ZC (fun s:List Nat=>s.length+1) l
 | [],s,h=>by cases h
 |t :: l,s,h=>by
  rcases List.mem_cons.1 h with rfl |h
  ·simp only[Ab.ZC];omega
  ·have:=Rb l s h
   simp only[Ab.ZC];omega
set_option maxRecDepth 100000 in
theorem contract (H:Type) (enc:TypeId×Value→H) (W:World) (base:Nat) (args:Array Value) (ds gs:List (DataW H)) (before:List MemPlace)
 (hval0:∀(j:Nat) t v,Tryz.f4.params[j]? =some t→args[j]? =some v→Value.okWide Tryz.prog W .any base t v)
 (hW:DataW.Whole enc Tryz.prog Tryz.f4.params.toList Rows.parseJoinsSpec.vars false W args.toList ds gs before) (hL:laidMet Tryz.prog Rows.parseJoinsUptoRow.laid W) (hk:Rows.uptoSmall H (ds++gs)=true):
 Calls Tryz.prog 4 args W fun e W'=>∃v,e= .returned v∧Rows.parseJoinsSpec.post enc Tryz.prog Tryz.f4 false true false false W args v W':=by
 have hval:=hval0
 have hW':=hW
 obtain⟨p,q,hA0,hV,rfl,hfz,hnd⟩:=hW
 have hA:DataW.TrodAll enc Tryz.prog W 0 (fun _=>true) true Tryz.f4.params.toList args.toList ds p:=hA0
 rw[Tryz.params4] at hA hval
 obtain⟨v0,d0,rfl,rfl,h0⟩:=trodAll_one hA
 obtain⟨rfl,rfl⟩:=trodVars_none hV
 clear hA0 hA hval0
 simp only[List.append_nil] at hW' hk
 obtain⟨a,len,cap,rfl⟩:=okWide_slice Tryz.underlying22 (hval 0 22 v0 rfl rfl)
 obtain⟨te,pe,hc⟩:=holdsV hL
 have hb0:Ab.bulk d0≤1048576:=by
  have h:Rows.uptoBulkAll [d0]≤1048576:=of_decide_eq_true hk
  rw[uD] at h
  simpa[Ab.sJ] using h
 have inL:Ab.In enc Tryz.prog W true 22 1 (fun l=>Ab.ZC (fun s:List Nat=>s.length+1) l+1) (Ab.RSl 1 Ab.Yt):=Ab.In.slice Tryz.underlying22 (by kernel_rfl) (by decide) Ab.Yt.mono (Ab.In.str Tryz.underlying9)
 have envN:E.code 4=some A4:=rfl
 refine(Ab.O5 Tryz.checked.mixed aeO envN (fuel:=1000000000) (Ab.YO hc) inL h0 (fun avs=>avs.headD .ah) (Ab.adE rfl) ?_).mono fun e W' ⟨he,hg,hr⟩=> ?_
 ·rintro h avs l hx ho R hsz
  obtain⟨u,es,rfl,hv,ha⟩:=R.view
  obtain⟨rfl,hb⟩:=texts ha
  have hg:ZL h:=hx.2 _ _ (by show(Ab.aj.empty.push (.gvar 1)).get 0=_;rw[Ab.aj.get_push];rfl)
  have A:=Ab.Cx.start2 ho (R1:=ZL) (R2:=fun h=>Ab.View h 1 u (l.map pJ)) (fun h' e=>e.2 _ _ hg) (fun h' e=>hv.ext e)
  exact c4 (Nat.le_refl _) (by simp) (by simp) hb (fun s hs=>by have:=Rb l s hs;omega) A fun _=>rfl
 ·subst he
  exact⟨_,rfl,Ab.ZA (pa:=p) (pv:=[]) hW' (fun _ _ _=>trodAll_cons_mk (shut_bool Tryz.underlying4 _) trodAll_mk0) (fun sp' hp=>trodAll_mk1 (hr sp' hp)) (fun _ _=>rfl) (by simp)
   (hg.frame _) hg.2.1 (ok_one (by kernel_rfl) rfl (okWide_bool_mk Tryz.underlying4 _))⟩
theorem ag5:(Rows.parseJoinsUptoRow.laid.filter fun x=>x.2.handleName?.isSome)=[]:=by kernel_rfl
theorem aez (W:World):laidMetH Tryz.prog Rows.parseJoinsUptoRow.laid W=laidMet Tryz.prog Rows.parseJoinsUptoRow.laid W:=by
 unfold laidMetH
 rw[ag5]
theorem ZN (os:Os):laidMetH Tryz.prog Rows.parseJoinsUptoRow.laid ((World.laidAll Tryz.prog os Rows.parseJoinsUptoRow.laid).forCall (fun _ _=>0) ⟨#[], #[.slice none 0 0],[]⟩).memory:=by
 rw[aez]
 exact laidMet_laidAll _ (by kernel_rfl) (by kernel_rfl)
theorem reads (os:Os) {H:Type} (enc:TypeId×Value→H):∃places,DataW.whole enc Tryz.prog ((World.laidAll Tryz.prog os Rows.parseJoinsUptoRow.laid).forCall (fun _ _=>0) ⟨#[], #[.slice none 0 0],[]⟩).memory Tryz.f4.params.toList Rows.parseJoinsSpec.vars false #[Value.slice none 0 0].toList 8=some ([.nil],[],places):=
 ⟨[],by kernel_rfl⟩
set_option maxRecDepth 100000 in
theorem lifted (os:Os) (started:os.Started) (H:Type) (enc:TypeId×Value→H) (F:Stop.Interp):
 ReturnsInHanded {} Tryz.checked os 4 .any ((Rows.OpenSpec.upto Rows.parseJoinsSpec).preRow enc Tryz.prog Tryz.f4 Rows.parseJoinsUptoRow.domain false Rows.parseJoinsUptoRow.laid) (((Rows.OpenSpec.upto Rows.parseJoinsSpec).at F).post enc Tryz.prog Tryz.f4 false true false false):=by
 obtain⟨places,hx⟩:=reads os enc
 refine returnsInHanded_of_row (C:=Tryz.checked) (s:=Rows.OpenSpec.upto Rows.parseJoinsSpec) own started (by kernel_rfl) Tryz.func4
  (witness_row_at (enc:=enc) (C:=Tryz.checked) false (World.laidAll Tryz.prog os Rows.parseJoinsUptoRow.laid) #[.slice none 0 0] (World.laidAll_os _ _ _) (by kernel_rfl) (by kernel_rfl) (by kernel_rfl)
    (OpenSpec.preRow_of_cond 8 hx (by kernel_rfl) (fun k hk=>by cases hk;kernel_rfl) (by kernel_rfl) (ZN os))) ?_
 intro W base args ds gs before hval hW _ hcond _ hL _ _
 have hL2:laidMetH Tryz.prog Rows.parseJoinsUptoRow.laid W:=hL
 rw[aez] at hL2
 exact contract H enc W base args ds gs before hval hW hL2 (hcond _ rfl)
theorem akC:(Rows.parseJoinsUptoRow.inPlace==Tryz.pinned.checked.prog.inPlace 4)=true:=by kernel_rfl
theorem akT:(Rows.parseJoinsUptoRow.unfollowed==Tryz.pinned.checked.prog.unfollowed 4)=true:=by kernel_rfl
theorem akz:(Rows.parseJoinsUptoRow.recurses==Tryz.pinned.checked.prog.recurses 4)=true:=by kernel_rfl
theorem akE:(Rows.parseJoinsUptoRow.named==Tryz.pinned.checked.prog.varsNamed 4)=true:=by kernel_rfl
theorem ael:Tryz.pinned.checked.prog.funcNamed Rows.parseJoinsUptoRow.func=some 4:=by kernel_rfl
theorem closed:True:=trivial
theorem agB:Tryz.f4.isInstance Tryz.pinned.checked.prog Rows.parseJoinsUptoRow.origin Rows.parseJoinsUptoRow.targs:=of_decide_eq_true (by kernel_rfl)
theorem ahb:Tryz.f4.isWrapper Tryz.pinned.checked.prog Rows.parseJoinsUptoRow.wrapper Rows.parseJoinsUptoRow.mainSum:=by
 unfold Func.isWrapper;first |(rw[if_pos (by decide +kernel)];kernel_rfl)|(rw[if_neg (by decide +kernel)];exact⟨rfl,rfl⟩)
theorem said:Rows.ParseJoinsUptoSaid:=
 OpenClaim.holds_of_cond 4 Tryz.f4 rfl rfl rfl rfl rfl rfl rfl ⟨rfl,rfl,rfl,rfl,rfl⟩ rfl rfl rfl rfl rfl ael Tryz.func4 (by kernel_rfl) agB ahb
  (fun os started H enc _ F=>by rw[OpenClaim.pre_eq_preRow];exact lifted os started H enc F)
theorem ahk:Rows.parseJoinsUptoRow.wfByText (Rows.OpenSpec.upto Rows.parseJoinsSpec)=true:=by kernel_rfl
theorem agU:Tryz.pinned.checked.prog.mainIs=some ((true, "b1227b003c2204a4689c23ce527e54b52e3234928456728fda905c83a30ff9e7").1,(true, "b1227b003c2204a4689c23ce527e54b52e3234928456728fda905c83a30ff9e7").2.toList):=by kernel_rfl
theorem ae3:true=Tryz.pinned.checked.prog.looks []:=by kernel_rfl
theorem afP:false=Rows.parseJoinsUptoRow.goesBy Tryz.pinned.checked.prog:=by kernel_rfl
theorem afb:Tryz.pinned.checked.prog.wantsStandIn 22=false:=by kernel_rfl
theorem card:Rows.ParseJoinsUptoCardSaid:=
 Claim7.holds_tied_plain_at .later [] [.data, .data, .data, .sentinel, .sentinel] true (true, "b1227b003c2204a4689c23ce527e54b52e3234928456728fda905c83a30ff9e7") true said (fun _ h=>by cases h) ahk (fun _ h=>by cases h) parseJoinsUpto_row_tie rfl ⟨rfl,rfl⟩ agU rfl
  (fun f fn hf hfn=>by
    obtain rfl:f=4:=Option.some.inj (ael.symm.trans hf) |>.symm
    obtain rfl:fn=Tryz.f4:=(Option.some.inj (Tryz.func4.symm.trans hfn)).symm
    exact⟨ae3,fun j t ht=>by
     rw[Tryz.params4] at ht
     have h3:t=22:=by
      rcases j with _ |j
      ·simpa using ht.symm
      ·simp at ht
     subst h3
     exact afb⟩)
  afP
end Go.Proofs.YtibillhjmfbneaaGreatDoor.parseJoins
