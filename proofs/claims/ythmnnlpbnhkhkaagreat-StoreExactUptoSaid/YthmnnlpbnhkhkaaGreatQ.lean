/-
  StoreExact says true of all scripts of bulk at most 1,048,576, for every order in which the maps are ranged over and the operands evaluated; what is handed in reads as it did.
-/
import Derived.Test.YthmnnlpbnhkhkaaGreatQ6
import Derived.ProofKit
import Derived.OpenShut
import Derived.JoinedCond
set_option linter.unusedSimpArgs false
set_option linter.unusedVariables false
namespace Go.Proofs.YthmnnlpbnhkhkaaGreat.storeExact
open Go.ChangeShapes Go.WideShapes Go.ChangeAt Go.RowKit
theorem own:ownKnob Tryz.prog.godebug=none:=by kernel_rfl
set_option maxRecDepth 100000 in
theorem contract (H:Type) (enc:TypeId×Value→H) (W:World) (base:Nat) (args:Array Value) (ds gs:List (DataW H)) (before:List MemPlace)
 (hval:∀(j:Nat) t v,Tryz.f3.params[j]? =some t→args[j]? =some v→Value.okWide Tryz.prog W .any base t v)
 (hW:DataW.Whole enc Tryz.prog Tryz.f3.params.toList Rows.storeExactSpec.vars false W args.toList ds gs before) (hk:Rows.uptoSmall H (ds++gs)=true):
 Calls Tryz.prog 3 args W fun e W'=>∃v,e= .returned v∧Rows.storeExactSpec.post enc Tryz.prog Tryz.f3 false true false false W args v W':=by
 have hW':=hW
 obtain⟨p,q,hA0,hV,rfl,hfz,hnd⟩:=hW
 have hA:DataW.TrodAll enc Tryz.prog W 0 (fun _=>true) true Tryz.f3.params.toList args.toList ds p:=hA0
 rw[Tryz.params3] at hA hval
 obtain⟨v0,d0,rfl,rfl,h0⟩:=trodAll_one hA
 obtain⟨rfl,rfl⟩:=trodVars_none hV
 clear hA0 hA
 simp only[List.append_nil] at hW' hk
 obtain⟨cs,rfl,hcs⟩:=okWide_struct Tryz.underlying27 (hval 0 27 v0 rfl rfl)
 have hb:Ab.bulk d0≤1048576:=by
  have h:Rows.uptoBulkAll [d0]≤1048576:=of_decide_eq_true hk
  rw[pz] at h
  simpa[Ab.lD] using h
 have hlim:Ab.lim=4611686018427387904:=rfl
 have env3:E.code 3=some A3:=rfl
 refine(Ab.PI Tryz.checked.mixed XL env3 (fuel:=300000000+9) (adr (enc:=enc) (W:=W)) h0 (fun avs=> .agg avs) Ab.XJ ?_).mono fun e W' ⟨he,hg,hr⟩=> ?_
 ·rintro h avs ⟨cs',l,ns,hds⟩ ho ⟨lv,mo,dv,nv,hv,en,rfl,hC,hD,hVn,hNn,hVh,hlf⟩ hs
  have h1:Ab.sF Ul cs'+Ab.sF YT l≤Ab.bulk d0:=hs
  have p1:∀c∈cs',c.name.length≤1048576∧∀f∈c.fields,f.name.length≤1048576:=fun c hc=>by
   have a1:=Ab.qO (sz:=Ul) hc
   have w1:Ul c=c.name.length+Ab.sF Yj c.fields+1:=rfl
   refine⟨by omega,fun f hf=> ?_⟩
   have a2:=Ab.qO (sz:=Yj) hf
   have w2:Yj f=f.name.length+1:=rfl
   omega
  have p2:∀p∈l,(∀q∈p.set,Ab.jg q.2≤1048576)∧p.set.length<1000000:=fun p hp=>by
   have a1:=Ab.qO (sz:=YT) hp
   have w1:YT p=p.cls.length+Ab.sF TP p.set+1:=rfl
   refine⟨fun q hq=> ?_, ?_⟩
   ·have a2:=Ab.qO (sz:=TP) hq
    have w2:TP q=q.1.length+Ab.jg q.2+1:=rfl
    omega
   ·have a2:=Nz p.set
    omega
  have p3:cs'.length≤1048576:=by
   have a2:=Ab.qR (sz:=Ul) (fun x=>by unfold Ul;omega) cs'
   omega
  exact e3 (cs:=cs') (l:=l) (ns:=ns) (hds:=hds) (b:=1048576) (B:=66000000) (n:=300000000) ho hC hD hVn hNn hVh hlf p2 (by omega) (by omega) (by omega) (by omega) (by omega) (by omega) (fun c hc=>⟨Nat.le_trans (p1 c hc).1 (by decide),fun f hf=>Nat.le_trans ((p1 c hc).2 f hf) (by decide)⟩) fun _=>rfl
 ·subst he
  exact⟨_,rfl,Ab.Oz (pa:=p) (pv:=[]) hW' (fun _ _ _=>trodAll_cons_mk (shut_bool Tryz.underlying4 _) trodAll_mk0) (fun sp' hp=>trodAll_mk1 (hr sp' hp)) (fun _ _=>rfl) (by simp)
   (hg.frame _) hg.2.1 (ok_one (by kernel_rfl) rfl (okWide_bool_mk Tryz.underlying4 _))⟩
set_option maxRecDepth 100000 in
theorem lifted (os:Os) (started:os.Started) (H:Type) (enc:TypeId×Value→H) (F:Stop.Interp):
 ReturnsInHanded {} Tryz.checked os 3 .any ((Rows.OpenSpec.upto Rows.storeExactSpec).pre6 enc Tryz.prog Tryz.f3 Rows.storeExactUptoRow.domain false) (((Rows.OpenSpec.upto Rows.storeExactSpec).at F).post enc Tryz.prog Tryz.f3 false true false false):=by
 refine returnsInHanded_of_cond (C:=Tryz.checked) (s:=Rows.OpenSpec.upto Rows.storeExactSpec) (k:=Rows.uptoSmall) rfl own started (by kernel_rfl) Tryz.func3
  (OpenSpec.witness (enc:=enc) (C:=Tryz.checked) (s:=Rows.OpenSpec.upto Rows.storeExactSpec) (k:=Rows.uptoSmall) rfl false ⟨#[], #[.agg #[.slice none 0 0, .int .i64 0, .slice none 0 0, .slice none 0 0, .slice none 0 0]],[]⟩ 8 (by kernel_rfl) (by kernel_rfl) (by kernel_rfl)
    (x:=([.agg [.nil, .lit (.int .i64 0), .nil, .nil, .nil]],[],[])) (by kernel_rfl) rfl (by kernel_rfl)) ?_
 intro W base args ds gs before hval hW _ hk _
 exact contract H enc W base args ds gs before hval hW hk
theorem said:Rows.StoreExactUptoSaid:=
 OpenClaim.holds_of_cond 3 Tryz.f3 rfl rfl rfl rfl rfl rfl rfl ⟨rfl,rfl,rfl,rfl,rfl⟩ rfl rfl rfl rfl rfl (by kernel_rfl) Tryz.func3 (by kernel_rfl)
  (of_decide_eq_true (by kernel_rfl)) (by unfold Func.isWrapper;first |(rw[if_pos (by decide +kernel)];kernel_rfl)|(rw[if_neg (by decide +kernel)];exact⟨rfl,rfl⟩))
  (fun os started H enc _ F=>lifted os started H enc F)
end Go.Proofs.YthmnnlpbnhkhkaaGreat.storeExact
