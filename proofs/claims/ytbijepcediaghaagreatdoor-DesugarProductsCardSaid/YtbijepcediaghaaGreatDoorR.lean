/-
  DesugarProducts says true of all that is handed in, for every order in which the operands are evaluated and the maps are ranged over; what is handed in reads as it did. The variables that the row lists are as it says.
-/
import Derived.Test.YtbijepcediaghaaGreatDoorR8
import Derived.Test.YtbijepcediaghaaGreatDoorRows
import Derived.Test.YtbijepcediaghaaGreatDoorCards
import Derived.Test.YtbijepcediaghaaGreatDoorTie
import Derived.SevenTiedAt
import Derived.ProofKit
import Derived.OpenShut
import Derived.JoinedCond
import Derived.ChangeSame
import Derived.LaidLaws
import Derived.Lay
import Derived.Stop.LaidErr
set_option linter.unusedSimpArgs false
set_option linter.unusedVariables false
namespace Go.Proofs.YtbijepcediaghaaGreatDoor.desugarProducts
open Go.ChangeShapes Go.WideShapes Go.ChangeAt Go.RowKit
theorem own:ownKnob Tryz.prog.godebug=none:=by kernel_rfl
theorem gV:Tryz.prog.globalNamed "strconv.ErrRange" =some 1:=by kernel_rfl
theorem gT:(Tryz.prog.globals[1]?).map (·.type)=some 142:=by kernel_rfl
theorem cellsE:Tryz.prog.cellsOf 193=1:=by kernel_rfl
theorem cellsS:Tryz.prog.cellsOf 9=1:=by kernel_rfl
theorem star: "*" ++ "errors.errorString" = "*errors.errorString" :=by decide
theorem rowP (u:TypeId) (h:Tryz.prog.typeName? 3 u=some "*errors.errorString"):u=191:=
 typeName_ptr_named (nm:= "errors.errorString") (by rw[star];kernel_rfl) (by kernel_rfl) (by decide) u (by rw[star];exact h)
theorem holdsV {W:World} (hL:laidMet Tryz.prog Rows.desugarProductsRow.laid W):∃te pe,W.cell? ⟨1,0,none⟩=some (.iface te pe):=by
 obtain⟨a,s,hv, -, -, -⟩:=laid_sentinel hL.tail.tail.tail gV gT Tryz.underlying142 rowP Tryz.underlying191 Tryz.underlying193 rfl rfl Tryz.underlying9 cellsE cellsS;exact⟨_,_,by have h0:=World.var?_cell gV hv 0;simpa using h0⟩
theorem texts {es:List (List Ab.AV)} {l:List (List Nat)} {h:Ab.ah} (a:Ab.vZ (Ab.XP h) es l):es=l.map sV∧∀s∈l,∀b∈s,b<256:=by
 induction a with
 |nil=>exact⟨rfl,fun _ h=>by cases h⟩
 |cons h t ih=>
  have⟨h1,h2⟩:=h;refine have⟨i1,i2⟩:=ih;⟨by rw[h1,i1];rfl,fun s hs=> ?_⟩
  rcases List.mem_cons.1 hs with rfl |hs
  ·exact h2
  ·exact i2 s hs
set_option maxRecDepth 100000 in
theorem contract (H:Type) (enc:TypeId×Value→H) (W:World) (base:Nat) (args:Array Value) (ds gs:List (DataW H)) (before:List MemPlace)
 (hval0:∀(j:Nat) t v,Tryz.f3.params[j]? =some t→args[j]? =some v→Value.okWide Tryz.prog W .any base t v)
 (hW:DataW.Whole enc Tryz.prog Tryz.f3.params.toList Rows.desugarProductsSpec.vars false W args.toList ds gs before) (hL:laidMet Tryz.prog Rows.desugarProductsRow.laid W):
 Calls Tryz.prog 3 args W fun e W'=>∃v,e= .returned v∧Rows.desugarProductsSpec.post enc Tryz.prog Tryz.f3 false true false false W args v W':=by
 have hval:=hval0;have hW':=hW;obtain⟨p,q,hA0,hV,rfl,hfz,hnd⟩:=hW;have hA:DataW.TrodAll enc Tryz.prog W 0 (fun _=>true) true Tryz.f3.params.toList args.toList ds p:=hA0;rw[Tryz.params3] at hA hval;obtain⟨v0,d0,rfl,rfl,h0⟩:=trodAll_one hA;obtain⟨rfl,rfl⟩:=trodVars_none hV;clear hA0 hA hval0;simp only[List.append_nil] at hW';obtain⟨cs,rfl,hcs⟩:=okWide_struct Tryz.underlying25 (hval 0 25 v0 rfl rfl);have⟨te,pe,hc⟩:=holdsV hL;have inS:Ab.In enc Tryz.prog W true 23 1 (fun l=>Ab.szL (fun s:List Nat=>s.length+1) l+1) (Ab.RSl 1 Ab.XP):=Ab.In.slice Tryz.underlying23 (by kernel_rfl) (by decide) Ab.XP.mono (Ab.In.str Tryz.underlying9);have inA:=Ab.In.any (enc:=enc) (W:=W) (T:=(· < Tryz.prog.types.size)) (t:=22) (kids_rows (by kernel_rfl) (by kernel_rfl)) (slices_full_of Tryz.prog (by kernel_rfl)) (of_decide_eq_true (by kernel_rfl)) Tryz.underlying22;have inL:=Ab.In.struct (enc:=enc) (W:=W) (held:=true) Tryz.underlying25 (l:=[(0,22),(1,23)]) rfl (by kernel_rfl) (Ab.InF.cons (off:=0) (n:=1) (by kernel_rfl) (fun _ _ _ _ _ h=>h) inA (Ab.InF.cons (off:=1) (n:=1) (by kernel_rfl) (Ab.RSl.mono Ab.XP.mono) inS Ab.InF.nil));refine have envN:E.code 3=some A3:=rfl;(Ab.QG Tryz.checked.mixed aiV envN (fuel:=4000000000000000000) (Ab.aaK hc) inL h0 (fun avs=> .agg avs) Ab.ajm ?_).mono fun e W' ⟨he,hg,hr⟩=> ?_
 ·rintro h avs ⟨u,l,w⟩ hx ho ⟨b1,c1,rfl,_,⟨v,rfl,hl⟩,b2,c2,rfl,_,R,rfl⟩ hsz;obtain⟨u,es,rfl,hv,ha⟩:=R.view;obtain⟨rfl,hb⟩:=texts ha;exact have hg:GvF h:=hx.2 _ _ (by show(Ab.ah.empty.push (.gvar 1)).get 0=_;rw[Ab.ah.get_push];rfl);x3 (by unfold FF;omega) (F:=[GvF]) (by simp) hl hv hb (Ab.Cx.start1 ho fun h' e=>e.2 _ _ hg) fun _=>rfl
 ·subst he;exact⟨_,rfl,Ab.aax (pa:=p) (pv:=[]) hW' (fun _ _ _=>trodAll_cons_mk (shut_bool Tryz.underlying4 _) trodAll_mk0) (fun sp' hp=>trodAll_mk1 (hr sp' hp)) (fun _ _=>rfl) (by simp)
   (hg.frame _) hg.2.1 (ok_one (by kernel_rfl) rfl (okWide_bool_mk Tryz.underlying4 _))⟩
set_option maxRecDepth 100000 in
theorem lifted (os:Os) (started:os.Started) (H:Type) (enc:TypeId×Value→H):
 ReturnsInHanded {} Tryz.checked os 3 .any (fun w args=>(Rows.desugarProductsSpec.pre enc Tryz.prog Tryz.f3 Rows.desugarProductsRow.domain false w args∧laidMet Tryz.prog Rows.desugarProductsRow.laid w)∧sizedMet enc Tryz.prog Tryz.f3 (OpenSpec.ofChange Rows.desugarProductsSpec) false w args)
  (Rows.desugarProductsSpec.post enc Tryz.prog Tryz.f3 false true false false):=by
 refine returnsInHanded_of_change_and (C:=Tryz.checked) (X:=fun w _=>laidMet Tryz.prog Rows.desugarProductsRow.laid w) (fun _ _ _ hh h=>h.of_heap hh) own started (by kernel_rfl) Tryz.func3
  (ChangeSpec.witness_at (enc:=enc) (C:=Tryz.checked) (os:=os) (X:=fun w _=>laidMet Tryz.prog Rows.desugarProductsRow.laid w) false (World.laidAll Tryz.prog os Rows.desugarProductsRow.laid) #[.agg #[.slice none 0 0, .slice none 0 0]] 8 (World.laidAll_os _ _ _) (by kernel_rfl) (by kernel_rfl) (by kernel_rfl) (by kernel_rfl) (by kernel_rfl) (laidMet_laidAll _ (by kernel_rfl) (by kernel_rfl))) ?_
 exact fun W base args ds gs before hval0 hW hcnd _ hL _=>contract H enc W base args ds gs before hval0 hW hL
theorem akc:(Rows.desugarProductsRow.inPlace==Tryz.pinned.checked.prog.inPlace 3)=true:=by kernel_rfl
theorem aj8:(Rows.desugarProductsRow.unfollowed==Tryz.pinned.checked.prog.unfollowed 3)=true:=by kernel_rfl
theorem akG:(Rows.desugarProductsRow.recurses==Tryz.pinned.checked.prog.recurses 3)=true:=by kernel_rfl
theorem akA:(Rows.desugarProductsRow.named==Tryz.pinned.checked.prog.varsNamed 3)=true:=by kernel_rfl
theorem ahe:Tryz.pinned.checked.prog.funcNamed Rows.desugarProductsRow.func=some 3:=by kernel_rfl
theorem closed:joinedFacts Tryz.pinned.checked.prog 3 Tryz.f3 Rows.desugarProductsSpec Rows.desugarProductsRow=true:=by
 unfold joinedFacts;rw[akc,aj8,akG,akA]
 kernel_rfl
theorem akk:Tryz.f3.isInstance Tryz.pinned.checked.prog Rows.desugarProductsRow.origin Rows.desugarProductsRow.targs:=of_decide_eq_true (by kernel_rfl)
theorem akO:Tryz.f3.isWrapper Tryz.pinned.checked.prog Rows.desugarProductsRow.wrapper Rows.desugarProductsRow.mainSum:=by
 unfold Func.isWrapper;first |(rw[if_pos (by decide +kernel)];kernel_rfl)|(rw[if_neg (by decide +kernel)];exact⟨rfl,rfl⟩)
theorem said:Rows.DesugarProductsSaid:=
 OpenClaim.holds_of_wide 3 Tryz.f3 rfl rfl rfl rfl rfl rfl rfl ⟨rfl,rfl,rfl,rfl,rfl⟩ rfl rfl rfl rfl rfl ahe Tryz.func3 closed akk akO
  (fun os started H enc _=>lifted os started H enc)
theorem akz:Rows.desugarProductsRow.wfByText (OpenSpec.ofChange Rows.desugarProductsSpec)=true:=by kernel_rfl
theorem alb:Tryz.pinned.checked.prog.mainIs=some ((true, "b44476bfc569d6b86b035dc959071817034c97ac1d6d84286abf26c271807579").1,(true, "b44476bfc569d6b86b035dc959071817034c97ac1d6d84286abf26c271807579").2.toList):=by kernel_rfl
theorem ah1:true=Tryz.pinned.checked.prog.looks []:=by kernel_rfl
theorem aiJ:false=Rows.desugarProductsRow.goesBy Tryz.pinned.checked.prog:=by kernel_rfl
theorem ajA:Tryz.pinned.checked.prog.wantsStandIn 25=false:=by kernel_rfl
theorem card:Rows.DesugarProductsCardSaid:=
 Claim7.holds_tied_plain_at .later [] [.data, .data, .data, .sentinel, .sentinel] true (true, "b44476bfc569d6b86b035dc959071817034c97ac1d6d84286abf26c271807579") true said (fun _ h=>by cases h) akz (fun _ h=>by cases h) desugarProducts_row_tie rfl ⟨rfl,rfl⟩ alb rfl
  (fun f fn hf hfn=>by
    obtain rfl:f=3:=Option.some.inj (ahe.symm.trans hf) |>.symm
    obtain rfl:fn=Tryz.f3:=(Option.some.inj (Tryz.func3.symm.trans hfn)).symm;exact⟨ah1,fun j t ht=>by
     rw[Tryz.params3] at ht;have h3:t=25:=by
      rcases j with _ |j
      ·simpa using ht.symm
      ·simp at ht
     subst h3;exact ajA⟩)
  aiJ
end Go.Proofs.YtbijepcediaghaaGreatDoor.desugarProducts
