/-
  ParsePlaces says true of all texts, for every order in which the operands are evaluated and the maps are ranged over; what is handed in reads as it did. The variables that the row lists are as it says.
-/
import Derived.Test.YtibillhjmfbneaaGreatDoorR8
import Derived.Test.YtibillhjmfbneaaGreatDoorRows
import Derived.Test.YtibillhjmfbneaaGreatDoorCards
import Derived.Test.YtibillhjmfbneaaGreatDoorTie
import Derived.SevenTiedAt
import Derived.ProofKit
import Derived.OpenShut
import Derived.JoinedCond
import Derived.ChangeSame
import Derived.LaidLaws
import Derived.Lay
import Derived.Stop.LaidErr
set_option linter.unusedSimpArgs false
set_option linter.unusedVariables false
namespace Go.Proofs.YtibillhjmfbneaaGreatDoor.parsePlaces
open Go.ChangeShapes Go.WideShapes Go.ChangeAt Go.RowKit
theorem own:ownKnob Tryz.prog.godebug=none:=by kernel_rfl
theorem gV:Tryz.prog.globalNamed "strconv.ErrRange" =some 1:=by kernel_rfl
theorem gT:(Tryz.prog.globals[1]?).map (·.type)=some 120:=by kernel_rfl
theorem cellsE:Tryz.prog.cellsOf 169=1:=by kernel_rfl
theorem cellsS:Tryz.prog.cellsOf 9=1:=by kernel_rfl
theorem star: "*" ++ "errors.errorString" = "*errors.errorString" :=by decide
theorem rowP (u:TypeId) (h:Tryz.prog.typeName? 3 u=some "*errors.errorString"):u=167:=
 typeName_ptr_named (nm:= "errors.errorString") (by rw[star];kernel_rfl) (by kernel_rfl) (by decide) u (by rw[star];exact h)
theorem holdsV {W:World} (hL:laidMet Tryz.prog Rows.parsePlacesRow.laid W):∃te pe,W.cell? ⟨1,0,none⟩=some (.iface te pe):=by
 obtain⟨a,s,hv, -, -, -⟩:=laid_sentinel hL.tail.tail.tail gV gT Tryz.underlying120 rowP Tryz.underlying167 Tryz.underlying169 rfl rfl Tryz.underlying9 cellsE cellsS
 exact⟨_,_,by have h0:=World.var?_cell gV hv 0;simpa using h0⟩
theorem texts {es:List (List Ab.AV)} {l:List (List Nat)} {h:Ab.ah} (a:Ab.tF (Ab.V9 h) es l):es=l.map oC∧∀s∈l,∀b∈s,b<256:=by
 induction a with
 |nil=>exact⟨rfl,fun _ h=>by cases h⟩
 |cons h t ih=>
  obtain⟨h1,h2⟩:=h
  obtain⟨i1,i2⟩:=ih
  refine⟨by rw[h1,i1];rfl,fun s hs=> ?_⟩
  rcases List.mem_cons.1 hs with rfl |hs
  ·exact h2
  ·exact i2 s hs
set_option maxRecDepth 100000 in
theorem contract (H:Type) (enc:TypeId×Value→H) (W:World) (base:Nat) (args:Array Value) (ds gs:List (DataW H)) (before:List MemPlace)
 (hval0:∀(j:Nat) t v,Tryz.f3.params[j]? =some t→args[j]? =some v→Value.okWide Tryz.prog W .any base t v)
 (hW:DataW.Whole enc Tryz.prog Tryz.f3.params.toList Rows.parsePlacesSpec.vars false W args.toList ds gs before) (hL:laidMet Tryz.prog Rows.parsePlacesRow.laid W):
 Calls Tryz.prog 3 args W fun e W'=>∃v,e= .returned v∧Rows.parsePlacesSpec.post enc Tryz.prog Tryz.f3 false true false false W args v W':=by
 have hval:=hval0
 have hW':=hW
 obtain⟨p,q,hA0,hV,rfl,hfz,hnd⟩:=hW
 have hA:DataW.TrodAll enc Tryz.prog W 0 (fun _=>true) true Tryz.f3.params.toList args.toList ds p:=hA0
 rw[Tryz.params3] at hA hval
 obtain⟨v0,d0,rfl,rfl,h0⟩:=trodAll_one hA
 obtain⟨rfl,rfl⟩:=trodVars_none hV
 clear hA0 hA hval0
 simp only[List.append_nil] at hW'
 obtain⟨a,len,cap,rfl⟩:=okWide_slice Tryz.underlying22 (hval 0 22 v0 rfl rfl)
 obtain⟨te,pe,hc⟩:=holdsV hL
 have inL:Ab.In enc Tryz.prog W true 22 1 (fun l=>Ab.szL (fun s:List Nat=>s.length+1) l+1) (Ab.RSl 1 Ab.V9):=Ab.In.slice Tryz.underlying22 (by kernel_rfl) (by decide) Ab.V9.mono (Ab.In.str Tryz.underlying9)
 have envN:E.code 3=some A3:=rfl
 refine(Ab.Nn Tryz.checked.mixed adU envN (fuel:=1000000000) (Ab.VW hc) inL h0 (fun avs=>avs.headD .nilSlc) (Ab.abQ rfl) ?_).mono fun e W' ⟨he,hg,hr⟩=> ?_
 ·rintro h avs l hx ho R hsz
  obtain⟨u,es,rfl,hv,ha⟩:=R.view
  obtain⟨rfl,hb⟩:=texts ha
  have hg:GvF h:=hx.2 _ _ (by show(Ab.ah.empty.push (.gvar 1)).get 0=_;rw[Ab.ah.get_push];rfl)
  have A:=Ab.Cx.start2 ho (R1:=GvF) (R2:=fun h=>Ab.View h 1 u (l.map oC)) (fun h' e=>e.2 _ _ hg) (fun h' e=>hv.ext e)
  exact c3 (Nat.le_refl _) (by simp) (by simp) hb A fun _=>rfl
 ·subst he
  exact⟨_,rfl,Ab.WU (pa:=p) (pv:=[]) hW' (fun _ _ _=>trodAll_cons_mk (shut_bool Tryz.underlying4 _) trodAll_mk0) (fun sp' hp=>trodAll_mk1 (hr sp' hp)) (fun _ _=>rfl) (by simp)
   (hg.frame _) hg.2.1 (ok_one (by kernel_rfl) rfl (okWide_bool_mk Tryz.underlying4 _))⟩
set_option maxRecDepth 100000 in
theorem lifted (os:Os) (started:os.Started) (H:Type) (enc:TypeId×Value→H):
 ReturnsInHanded {} Tryz.checked os 3 .any (fun w args=>(Rows.parsePlacesSpec.pre enc Tryz.prog Tryz.f3 Rows.parsePlacesRow.domain false w args∧laidMet Tryz.prog Rows.parsePlacesRow.laid w)∧sizedMet enc Tryz.prog Tryz.f3 (OpenSpec.ofChange Rows.parsePlacesSpec) false w args)
  (Rows.parsePlacesSpec.post enc Tryz.prog Tryz.f3 false true false false):=by
 refine returnsInHanded_of_change_and (C:=Tryz.checked) (X:=fun w _=>laidMet Tryz.prog Rows.parsePlacesRow.laid w) (fun _ _ _ hh h=>h.of_heap hh) own started (by kernel_rfl) Tryz.func3
  (ChangeSpec.witness_at (enc:=enc) (C:=Tryz.checked) (os:=os) (X:=fun w _=>laidMet Tryz.prog Rows.parsePlacesRow.laid w) false (World.laidAll Tryz.prog os Rows.parsePlacesRow.laid) #[.slice none 0 0] 8 (World.laidAll_os _ _ _) (by kernel_rfl) (by kernel_rfl) (by kernel_rfl) (by kernel_rfl) (by kernel_rfl) (laidMet_laidAll _ (by kernel_rfl) (by kernel_rfl))) ?_
 intro W base args ds gs before hval0 hW hcnd _ hL _
 exact contract H enc W base args ds gs before hval0 hW hL
theorem agU:(Rows.parsePlacesRow.inPlace==Tryz.pinned.checked.prog.inPlace 3)=true:=by kernel_rfl
theorem ahn:(Rows.parsePlacesRow.unfollowed==Tryz.pinned.checked.prog.unfollowed 3)=true:=by kernel_rfl
theorem agM:(Rows.parsePlacesRow.recurses==Tryz.pinned.checked.prog.recurses 3)=true:=by kernel_rfl
theorem agX:(Rows.parsePlacesRow.named==Tryz.pinned.checked.prog.varsNamed 3)=true:=by kernel_rfl
theorem acC:Tryz.pinned.checked.prog.funcNamed Rows.parsePlacesRow.func=some 3:=by kernel_rfl
theorem closed:joinedFacts Tryz.pinned.checked.prog 3 Tryz.f3 Rows.parsePlacesSpec Rows.parsePlacesRow=true:=by
 unfold joinedFacts
 rw[agU,ahn,agM,agX]
 kernel_rfl
theorem ag7:Tryz.f3.isInstance Tryz.pinned.checked.prog Rows.parsePlacesRow.origin Rows.parsePlacesRow.targs:=of_decide_eq_true (by kernel_rfl)
theorem ahA:Tryz.f3.isWrapper Tryz.pinned.checked.prog Rows.parsePlacesRow.wrapper Rows.parsePlacesRow.mainSum:=by
 unfold Func.isWrapper;first |(rw[if_pos (by decide +kernel)];kernel_rfl)|(rw[if_neg (by decide +kernel)];exact⟨rfl,rfl⟩)
theorem said:Rows.ParsePlacesSaid:=
 OpenClaim.holds_of_wide 3 Tryz.f3 rfl rfl rfl rfl rfl rfl rfl ⟨rfl,rfl,rfl,rfl,rfl⟩ rfl rfl rfl rfl rfl acC Tryz.func3 closed ag7 ahA
  (fun os started H enc _=>lifted os started H enc)
theorem agN:Rows.parsePlacesRow.wfByText (OpenSpec.ofChange Rows.parsePlacesSpec)=true:=by kernel_rfl
theorem ahd:Tryz.pinned.checked.prog.mainIs=some ((true, "b1227b003c2204a4689c23ce527e54b52e3234928456728fda905c83a30ff9e7").1,(true, "b1227b003c2204a4689c23ce527e54b52e3234928456728fda905c83a30ff9e7").2.toList):=by kernel_rfl
theorem aeO:true=Tryz.pinned.checked.prog.looks []:=by kernel_rfl
theorem acF:false=Rows.parsePlacesRow.goesBy Tryz.pinned.checked.prog:=by kernel_rfl
theorem ae8:Tryz.pinned.checked.prog.wantsStandIn 22=false:=by kernel_rfl
theorem card:Rows.ParsePlacesCardSaid:=
 Claim7.holds_tied_plain_at .later [] [.data, .data, .data, .sentinel, .sentinel] true (true, "b1227b003c2204a4689c23ce527e54b52e3234928456728fda905c83a30ff9e7") true said (fun _ h=>by cases h) agN (fun _ h=>by cases h) parsePlaces_row_tie rfl ⟨rfl,rfl⟩ ahd rfl
  (fun f fn hf hfn=>by
    obtain rfl:f=3:=Option.some.inj (acC.symm.trans hf) |>.symm
    obtain rfl:fn=Tryz.f3:=(Option.some.inj (Tryz.func3.symm.trans hfn)).symm
    exact⟨aeO,fun j t ht=>by
     rw[Tryz.params3] at ht
     have h3:t=22:=by
      rcases j with _ |j
      ·simpa using ht.symm
      ·simp at ht
     subst h3
     exact ae8⟩)
  acF
end Go.Proofs.YtibillhjmfbneaaGreatDoor.parsePlaces
