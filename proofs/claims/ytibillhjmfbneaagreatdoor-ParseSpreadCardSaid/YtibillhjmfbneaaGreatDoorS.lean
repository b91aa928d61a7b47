/-
  ParseSpread says true of all texts, for every order in which the operands are evaluated and the maps are ranged over; what is handed in reads as it did. The variables that the row lists are as it says.
-/
import Derived.Test.YtibillhjmfbneaaGreatDoorS7
import Derived.Test.YtibillhjmfbneaaGreatDoorRows
import Derived.Test.YtibillhjmfbneaaGreatDoorCards
import Derived.Test.YtibillhjmfbneaaGreatDoorTie
import Derived.SevenTiedAt
import Derived.ProofKit
import Derived.OpenShut
import Derived.JoinedCond
import Derived.MakeChecks
import Derived.ChangeSame
import Derived.LaidLaws
import Derived.Lay
import Derived.Stop.LaidErr
set_option linter.unusedSimpArgs false
set_option linter.unusedVariables false
namespace Go.Proofs.YtibillhjmfbneaaGreatDoor.parseSpread
open Go.ChangeShapes Go.WideShapes Go.ChangeAt Go.RowKit
theorem own:ownKnob Tryz.prog.godebug=none:=by kernel_rfl
theorem gV:Tryz.prog.globalNamed "strconv.ErrRange" =some 1:=by kernel_rfl
theorem gT:(Tryz.prog.globals[1]?).map (·.type)=some 120:=by kernel_rfl
theorem cellsE:Tryz.prog.cellsOf 169=1:=by kernel_rfl
theorem cellsS:Tryz.prog.cellsOf 9=1:=by kernel_rfl
theorem star: "*" ++ "errors.errorString" = "*errors.errorString" :=by decide
theorem rowP (u:TypeId) (h:Tryz.prog.typeName? 3 u=some "*errors.errorString"):u=167:=
 typeName_ptr_named (nm:= "errors.errorString") (by rw[star];kernel_rfl) (by kernel_rfl) (by decide) u (by rw[star];exact h)
theorem holdsV {W:World} (hL:laidMet Tryz.prog Rows.parseSpreadRow.laid W):∃te pe,W.cell? ⟨1,0,none⟩=some (.iface te pe):=by
 obtain⟨a,s,hv, -, -, -⟩:=laid_sentinel hL.tail.tail.tail gV gT Tryz.underlying120 rowP Tryz.underlying167 Tryz.underlying169 rfl rfl Tryz.underlying9 cellsE cellsS
 exact⟨_,_,by have h0:=World.var?_cell gV hv 0;simpa using h0⟩
theorem texts {es:List (List Ab.AV)} {l:List (List Nat)} {h:Ab.aj} (a:Ab.uS (Ab.YB h) es l):es=l.map nV∧∀s∈l,∀b∈s,b<256:=by
 induction a with
 |nil=>exact⟨rfl,fun _ h=>by cases h⟩
 |cons h t ih=>
  obtain⟨h1,h2⟩:=h
  obtain⟨i1,i2⟩:=ih
  refine⟨by rw[h1,i1];rfl,fun s hs=> ?_⟩
  rcases List.mem_cons.1 hs with rfl |hs
  ·exact h2
  ·exact i2 s hs
set_option maxRecDepth 100000 in
theorem contract (H:Type) (enc:TypeId×Value→H) (W:World) (base:Nat) (args:Array Value) (ds gs:List (DataW H)) (before:List MemPlace)
 (hval0:∀(j:Nat) t v,Tryz.f5.params[j]? =some t→args[j]? =some v→Value.okWide Tryz.prog W .any base t v)
 (hW:DataW.Whole enc Tryz.prog Tryz.f5.params.toList Rows.parseSpreadSpec.vars false W args.toList ds gs before) (hL:laidMet Tryz.prog Rows.parseSpreadRow.laid W):
 Calls Tryz.prog 5 args W fun e W'=>∃v,e= .returned v∧Rows.parseSpreadSpec.post enc Tryz.prog Tryz.f5 false true false false W args v W':=by
 have hval:=hval0
 have hW':=hW
 obtain⟨p,q,hA0,hV,rfl,hfz,hnd⟩:=hW
 have hA:DataW.TrodAll enc Tryz.prog W 0 (fun _=>true) true Tryz.f5.params.toList args.toList ds p:=hA0
 rw[Tryz.params5] at hA hval
 obtain⟨v0,d0,rfl,rfl,h0⟩:=trodAll_one hA
 obtain⟨rfl,rfl⟩:=trodVars_none hV
 clear hA0 hA hval0
 simp only[List.append_nil] at hW'
 obtain⟨a,len,cap,rfl⟩:=okWide_slice Tryz.underlying22 (hval 0 22 v0 rfl rfl)
 obtain⟨te,pe,hc⟩:=holdsV hL
 have inL:Ab.In enc Tryz.prog W true 22 1 (fun l=>Ab.szL (fun s:List Nat=>s.length+1) l+1) (Ab.RSl 1 Ab.YB):=Ab.In.slice Tryz.underlying22 (by kernel_rfl) (by decide) Ab.YB.mono (Ab.In.str Tryz.underlying9)
 have envN:E.code 5=some A5:=rfl
 refine(Ab.Oy Tryz.checked.mixed aej envN (fuel:=1000000000) (Ab.Y5 hc) inL h0 (fun avs=>avs.headD .ah) (Ab.acJ rfl) ?_).mono fun e W' ⟨he,hg,hr⟩=> ?_
 ·rintro h avs l hx ho R hsz
  obtain⟨u,es,rfl,hv,ha⟩:=R.view
  obtain⟨rfl,hb⟩:=texts ha
  have hg:GvF h:=hx.2 _ _ (by show(Ab.aj.empty.push (.gvar 1)).get 0=_;rw[Ab.aj.get_push];rfl)
  have A:=Ab.Cx.start2 ho (R1:=GvF) (R2:=fun h=>Ab.View h 1 u (l.map nV)) (fun h' e=>e.2 _ _ hg) (fun h' e=>hv.ext e)
  exact c5 (Nat.le_refl _) (by simp) (by simp) hb A fun _=>rfl
 ·subst he
  exact⟨_,rfl,Ab.Yd (pa:=p) (pv:=[]) hW' (fun _ _ _=>trodAll_cons_mk (shut_bool Tryz.underlying4 _) trodAll_mk0) (fun sp' hp=>trodAll_mk1 (hr sp' hp)) (fun _ _=>rfl) (by simp)
   (hg.frame _) hg.2.1 (ok_one (by kernel_rfl) rfl (okWide_bool_mk Tryz.underlying4 _))⟩
set_option maxRecDepth 100000 in
theorem lifted (os:Os) (started:os.Started) (H:Type) (enc:TypeId×Value→H):
 ReturnsInHanded {} Tryz.checked os 5 .any (fun w args=>(Rows.parseSpreadSpec.pre enc Tryz.prog Tryz.f5 Rows.parseSpreadRow.domain false w args∧laidMet Tryz.prog Rows.parseSpreadRow.laid w)∧sizedMet enc Tryz.prog Tryz.f5 (OpenSpec.ofChange Rows.parseSpreadSpec) false w args)
  (Rows.parseSpreadSpec.post enc Tryz.prog Tryz.f5 false true false false):=by
 refine returnsInHanded_of_change_and (C:=Tryz.checked) (X:=fun w _=>laidMet Tryz.prog Rows.parseSpreadRow.laid w) (fun _ _ _ hh h=>h.of_heap hh) own started (by kernel_rfl) Tryz.func5
  (ChangeSpec.witness_at (enc:=enc) (C:=Tryz.checked) (os:=os) (X:=fun w _=>laidMet Tryz.prog Rows.parseSpreadRow.laid w) false (World.laidAll Tryz.prog os Rows.parseSpreadRow.laid) #[.slice none 0 0] 8 (World.laidAll_os _ _ _) (by kernel_rfl) (by kernel_rfl) (by kernel_rfl) (by kernel_rfl) (by kernel_rfl) (laidMet_laidAll _ (by kernel_rfl) (by kernel_rfl))) ?_
 intro W base args ds gs before hval0 hW hcnd _ hL _
 exact contract H enc W base args ds gs before hval0 hW hL
theorem af0:(Rows.parseSpreadRow.inPlace==Tryz.pinned.checked.prog.inPlace 5)=true:=by kernel_rfl
theorem agB:(Rows.parseSpreadRow.unfollowed==Tryz.pinned.checked.prog.unfollowed 5)=true:=by kernel_rfl
theorem agm:(Rows.parseSpreadRow.recurses==Tryz.pinned.checked.prog.recurses 5)=true:=by kernel_rfl
theorem agx:(Rows.parseSpreadRow.named==Tryz.pinned.checked.prog.varsNamed 5)=true:=by kernel_rfl
theorem ad2:Tryz.pinned.checked.prog.funcNamed Rows.parseSpreadRow.func=some 5:=by kernel_rfl
theorem closed:joinedFacts Tryz.pinned.checked.prog 5 Tryz.f5 Rows.parseSpreadSpec Rows.parseSpreadRow=true:=by
 unfold joinedFacts
 rw[af0,agB,agm,agx]
 kernel_rfl
theorem aga:Tryz.f5.isInstance Tryz.pinned.checked.prog Rows.parseSpreadRow.origin Rows.parseSpreadRow.targs:=of_decide_eq_true (by kernel_rfl)
theorem agl:Tryz.f5.isWrapper Tryz.pinned.checked.prog Rows.parseSpreadRow.wrapper Rows.parseSpreadRow.mainSum:=by
 unfold Func.isWrapper;first |(rw[if_pos (by decide +kernel)];kernel_rfl)|(rw[if_neg (by decide +kernel)];exact⟨rfl,rfl⟩)
theorem said:Rows.ParseSpreadSaid:=
 OpenClaim.holds_of_wide 5 Tryz.f5 rfl rfl rfl rfl rfl rfl rfl ⟨rfl,rfl,rfl,rfl,rfl⟩ rfl rfl rfl rfl rfl ad2 Tryz.func5 closed aga agl
  (fun os started H enc _=>lifted os started H enc)
theorem agU:Rows.parseSpreadRow.wfByText (OpenSpec.ofChange Rows.parseSpreadSpec)=true:=by kernel_rfl
theorem af6:Tryz.pinned.checked.prog.mainIs=some ((true, "b1227b003c2204a4689c23ce527e54b52e3234928456728fda905c83a30ff9e7").1,(true, "b1227b003c2204a4689c23ce527e54b52e3234928456728fda905c83a30ff9e7").2.toList):=by kernel_rfl
theorem ae6:true=Tryz.pinned.checked.prog.looks []:=by kernel_rfl
theorem aeU:false=Rows.parseSpreadRow.goesBy Tryz.pinned.checked.prog:=by kernel_rfl
theorem afs:Tryz.pinned.checked.prog.wantsStandIn 22=false:=by kernel_rfl
theorem card:Rows.ParseSpreadCardSaid:=
 Claim7.holds_tied_plain_at .later [] [.data, .data, .data, .sentinel, .sentinel] true (true, "b1227b003c2204a4689c23ce527e54b52e3234928456728fda905c83a30ff9e7") true said (fun _ h=>by cases h) agU (fun _ h=>by cases h) parseSpread_row_tie rfl ⟨rfl,rfl⟩ af6 rfl
  (fun f fn hf hfn=>by
    obtain rfl:f=5:=Option.some.inj (ad2.symm.trans hf) |>.symm
    obtain rfl:fn=Tryz.f5:=(Option.some.inj (Tryz.func5.symm.trans hfn)).symm
    exact⟨ae6,fun j t ht=>by
     rw[Tryz.params5] at ht
     have h3:t=22:=by
      rcases j with _ |j
      ·simpa using ht.symm
      ·simp at ht
     subst h3
     exact afs⟩)
  aeU
end Go.Proofs.YtibillhjmfbneaaGreatDoor.parseSpread
