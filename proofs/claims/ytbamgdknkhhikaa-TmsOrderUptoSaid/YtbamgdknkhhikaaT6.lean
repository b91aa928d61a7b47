/-
  'Justify': one justification more.
-/
import Derived.Test.YtbamgdknkhhikaaT5
import Derived.Test.YtbamgdknkhhikaaTA
namespace Go.Proofs.Ytbamgdknkhhikaa
open Go.Ab
set_option linter.unusedSimpArgs false
set_option linter.unusedVariables false

theorem alloc0_v {h : AHeap} (o : h.Ok) : ∃ h', allocV h [] = some (.ptr h.sz 0 0 0, h') ∧ h'.row h.sz = none ∧ Ext h h' ∧ h'.Ok ∧ h'.sz = h.sz + 1 := by
  refine ⟨h.push .gone, rfl, ?_, ext_push o _, o.push _, by simp⟩
  cases e : (h.push .gone).row h.sz with
  | none => rfl
  | some r => rw [AHeap.row_some, get_push_same] at e; cases e
theorem store0_v {h : AHeap} {id : Nat} (e : h.row id = none) : storeA h 0 (.ptr id 0 0 0) (.agg []) = some h := by
  simp only [storeA, e]; rfl
theorem build0 : buildV [] [] = some (.agg []) := rfl

theorem upd_one {κ : Type} [DecidableEq κ] {kk : KK} {ek : κ → AV} {h : AHeap} {id : Nat} {l : List (κ × Unit)} (M : KMap ek h id (one l)) (K : Keys kk ek) (k : κ) :
    ∃ h', mupdA h kk (.map id) (ek k) (.agg []) = some h' ∧ But id h h' ∧ h'.sz = h.sz ∧ (h.Ok → h'.Ok) ∧ KMap ek h' id (one (upG l k ())) := by
  obtain ⟨h', h1, h2, h3, h4, h5⟩ := M.upd K k (.agg [])
  refine ⟨h', h1, h2, h3, h4, ?_⟩
  rw [one, upG_mp, ← up_G]; exact h5
theorem look_one {κ : Type} [DecidableEq κ] {kk : KK} {ek : κ → AV} {h : AHeap} {id : Nat} {l : List (κ × Unit)} (M : KMap ek h id (one l)) (K : Keys kk ek) (k : κ) :
    lookA h kk true (.agg []) (.map id) (ek k) = some (.tup [.agg [], .bool (lkG l k).isSome]) := by
  rw [M.look2 K, lk_G, one, lkG_mp]
  cases lkG l k <;> rfl

def tagC (τ : Nat → Tag) (a b : Nat) (k : SK) (j : Nat) : Tag := if j = a then .c k else if j = b then .b k else τ j
def tagR (τ : Nat → Tag) (a b : Nat) (k : BK) (j : Nat) : Tag := if j = a then .r k else if j = b then .o k else τ j
theorem tagC_ne {τ : Nat → Tag} {a b j : Nat} {k : SK} (h1 : j ≠ a) (h2 : j ≠ b) : tagC τ a b k j = τ j := by unfold tagC; rw [if_neg h1, if_neg h2]
theorem tagR_ne {τ : Nat → Tag} {a b j : Nat} {k : BK} (h1 : j ≠ a) (h2 : j ≠ b) : tagR τ a b k j = τ j := by unfold tagR; rw [if_neg h1, if_neg h2]

section
variable {τ : Nat → Tag} {h h' : AHeap} {T : TD}
/-- A content more. -/
theorem TO.addc (O : TO τ h T) {k : SK} {x : CD} (hk : lkG T.cs k = none) (t1 : τ x.id = .out) (t2 : τ x.m = .out) (ne : x.id ≠ x.m)
    (R : Var h x.id [.str x.cls, x.vals, .int .i64 (x.came : Int), .map x.m]) (M : KMap bk2 h x.m (one [])) (hb : x.bys = []) (sm : AV.same x.vals x.vals = true)
    (f : Fr (fun j => j = T.cm) h h') (o : h'.Ok) (M' : KMap sk h' T.cm (up (mp (fun x => .ptr x.id 0 0 0) T.cs) k (.ptr x.id 0 0 0))) :
    TO (tagC τ x.id x.m k) h' { T with cs := upG T.cs k x } := by
  have no : ∀ {j t}, τ j = t → t ≠ .cm → ¬ j = T.cm := fun e w x => w (by rw [← e, x]; exact O.tc)
  have no' : ∀ {t : Tag}, t ≠ .cm → ∀ j, j = T.cm → τ j ≠ t := fun w j x e => w (by rw [← e, x]; exact O.tc)
  have i1 := R.lt O.ok
  have i2 := M.lt O.ok
  have keep : ∀ j, τ j ≠ .out → tagC τ x.id x.m k j = τ j := fun j hj => tagC_ne (fun e => hj (by rw [e]; exact t1)) (fun e => hj (by rw [e]; exact t2))
  refine ⟨o, fun j hj => ?_, ?_, ?_, ?_, f.var O.var (no O.tp fun e => by cases e), ?_, f.kmap O.rs (no O.tr fun e => by cases e), fun k' y hy => ?_, fun k' y hy => (O.r k' y hy).fr f (no' fun e => by cases e) (no' fun e => by cases e) keep⟩
  · have := f.sz
    rw [tagC_ne (by omega) (by omega)]; exact O.hi j (by omega)
  · have := keep T.p (by rw [O.tp]; exact fun e => by cases e); rw [this]; exact O.tp
  · have := keep T.cm (by rw [O.tc]; exact fun e => by cases e); rw [this]; exact O.tc
  · have := keep T.rm (by rw [O.tr]; exact fun e => by cases e); rw [this]; exact O.tr
  · rw [up_G, ← upG_mp (fun x : CD => AV.ptr x.id 0 0 0)] at M'; exact M'
  · rcases upG_mem hy with e | hy
    · cases e
      exact ⟨by unfold tagC; rw [if_pos rfl], by unfold tagC; rw [if_neg (fun e => ne e.symm), if_pos rfl], f.var R (no t1 fun e => by cases e), by rw [hb]; exact f.kmap M (no t2 fun e => by cases e), sm⟩
    · exact (O.c k' y hy).fr f (no' fun e => by cases e) (no' fun e => by cases e) keep
/-- A match more. -/
theorem TO.addr (O : TO τ h T) {k : BK} {x : RD} (hk : lkG T.rs k = none) (t1 : τ x.id = .out) (t2 : τ x.m = .out) (ne : x.id ≠ x.m)
    (R : Var h x.id [.int .i64 x.core, x.els, x.env, .int .i64 (x.came : Int), .map x.m]) (M : KMap sk h x.m (one [])) (hb : x.ofs = [])
    (f : Fr (fun j => j = T.rm) h h') (o : h'.Ok) (M' : KMap bk2 h' T.rm (up (mp (fun x => .ptr x.id 0 0 0) T.rs) k (.ptr x.id 0 0 0))) :
    TO (tagR τ x.id x.m k) h' { T with rs := upG T.rs k x } := by
  have no : ∀ {j t}, τ j = t → t ≠ .rm → ¬ j = T.rm := fun e w x => w (by rw [← e, x]; exact O.tr)
  have no' : ∀ {t : Tag}, t ≠ .rm → ∀ j, j = T.rm → τ j ≠ t := fun w j x e => w (by rw [← e, x]; exact O.tr)
  have i1 := R.lt O.ok
  have i2 := M.lt O.ok
  have keep : ∀ j, τ j ≠ .out → tagR τ x.id x.m k j = τ j := fun j hj => tagR_ne (fun e => hj (by rw [e]; exact t1)) (fun e => hj (by rw [e]; exact t2))
  refine ⟨o, fun j hj => ?_, ?_, ?_, ?_, f.var O.var (no O.tp fun e => by cases e), f.kmap O.cs (no O.tc fun e => by cases e), ?_, fun k' y hy => (O.c k' y hy).fr f (no' fun e => by cases e) (no' fun e => by cases e) keep, fun k' y hy => ?_⟩
  · have := f.sz
    rw [tagR_ne (by omega) (by omega)]; exact O.hi j (by omega)
  · have := keep T.p (by rw [O.tp]; exact fun e => by cases e); rw [this]; exact O.tp
  · have := keep T.cm (by rw [O.tc]; exact fun e => by cases e); rw [this]; exact O.tc
  · have := keep T.rm (by rw [O.tr]; exact fun e => by cases e); rw [this]; exact O.tr
  · rw [up_G, ← upG_mp (fun x : RD => AV.ptr x.id 0 0 0)] at M'; exact M'
  · rcases upG_mem hy with e | hy
    · cases e
      exact ⟨by unfold tagR; rw [if_pos rfl], by unfold tagR; rw [if_neg (fun e => ne e.symm), if_pos rfl], f.var R (no t1 fun e => by cases e), by rw [hb]; exact f.kmap M (no t2 fun e => by cases e)⟩
    · exact (O.r k' y hy).fr f (no' fun e => by cases e) (no' fun e => by cases e) keep
end

section
variable {τ : Nat → Tag} {h : AHeap} {T : TD} {K : Kont} {n : Nat} {k : SK} {r : BK} {x : CD} {y : RD} {a7 a8 : Nat}

theorem p36 (O : TO τ h T) (hx : lkG T.cs k = some x) (hy : lkG T.rs r = some y) (V7 : Var h a7 [.str k.1, .str k.2]) (V8 : Var h a8 [.int .i64 r.1, .str r.2]) (t7 : τ a7 = .out) (t8 : τ a8 = .out)
    (kk : ∀ h', TO τ h' { T with cs := upG T.cs k (setC x (upG x.bys r ())), rs := upG T.rs r (setR y (upG y.ofs k ())) } → Fr (W8 τ) h h' → K (.int .i64 0) h' = true) :
    p10_36 (callN E (n + 1)) (n + 1) (.ptr T.p 0 0 0) (.ptr a7 0 0 0) (.ptr a8 0 0 0) h K = true := by
  unfold p10_36
  have C := O.c k x (lkG_mem hx)
  have A7 : loadA h true 2 (.ptr a7 0 0 0) = some (sk k) := V7.all rfl
  have A8 : loadA h true 2 (.ptr a8 0 0 0) = some (bk2 r) := V8.all rfl
  repeat first | with_reducible refine z_nil ?_ | with_reducible refine z_fadr ?_ | with_reducible refine z_some ?_ | with_reducible refine z_ext0 ?_ | with_reducible refine z_ext1 ?_ | with_reducible refine z_notT ?_ | with_reducible refine z_notF ?_ | with_reducible refine z_cT ?_ | with_reducible refine z_cF ?_ | with_reducible refine z_gtt ?_ | with_reducible refine z_gff ?_ | with_reducible refine z_gtf ?_ | with_reducible refine z_gft ?_ | with_reducible refine z_ptt ?_ | with_reducible refine z_pff ?_ | with_reducible refine z_ptf ?_ | with_reducible refine z_pft ?_ | with_reducible refine z_rtt ?_ | with_reducible refine z_rff ?_ | with_reducible refine z_rtf ?_ | with_reducible refine z_rft ?_ | with_reducible refine z_kt ?_ | with_reducible refine z_kf ?_ | with_reducible refine z_lss ?_ | with_reducible refine z_gtr ?_ | with_reducible refine z_leq ?_ | with_reducible refine z_geq ?_ | with_reducible refine z_eql ?_ | with_reducible refine z_neq ?_ | with_reducible refine z_seq ?_ | with_reducible refine z_sne ?_ | with_reducible refine z_slen ?_ | with_reducible refine z_eqp ?_ | with_reducible refine z_eqn ?_ | with_reducible refine z_cv ?_ | refine z_of O.l0 ?_ | refine z_of A7 ?_ | refine z_of (O.lkc hx) ?_ | refine z_of C.l3 ?_ | refine z_of A8 ?_ | refine z_of build0 ?_
  obtain ⟨h1, q1, q2, q3, q4, q5⟩ := upd_one C.map bks r
  refine z_u q1 ?_
  have o1 := q4 O.ok
  have O1 := O.bys hx (Fr.of_but rfl q2) o1 q5
  have n7 : a7 ≠ x.m := fun e => by have := C.tm; rw [← e, t7] at this; cases this
  have n8 : a8 ≠ x.m := fun e => by have := C.tm; rw [← e, t8] at this; cases this
  have V7 := q2.var V7 n7
  have V8 := q2.var V8 n8
  have A7 : loadA h1 true 2 (.ptr a7 0 0 0) = some (sk k) := V7.all rfl
  have A8 : loadA h1 true 2 (.ptr a8 0 0 0) = some (bk2 r) := V8.all rfl
  have R := O1.r r y (lkG_mem hy)
  have lr : lookA h1 (KK.st [K0.int, K0.str]) false (AV.nilPtr) (.map T.rm) (bk2 r) = some (.ptr y.id 0 0 0) := O1.lkr hy
  have l1 : loadA h1 false 1 (.ptr T.p 0 0 1) = some (.map T.rm) := O1.l1
  repeat first | with_reducible refine z_nil ?_ | with_reducible refine z_fadr ?_ | with_reducible refine z_some ?_ | with_reducible refine z_ext0 ?_ | with_reducible refine z_ext1 ?_ | with_reducible refine z_notT ?_ | with_reducible refine z_notF ?_ | with_reducible refine z_cT ?_ | with_reducible refine z_cF ?_ | with_reducible refine z_gtt ?_ | with_reducible refine z_gff ?_ | with_reducible refine z_gtf ?_ | with_reducible refine z_gft ?_ | with_reducible refine z_ptt ?_ | with_reducible refine z_pff ?_ | with_reducible refine z_ptf ?_ | with_reducible refine z_pft ?_ | with_reducible refine z_rtt ?_ | with_reducible refine z_rff ?_ | with_reducible refine z_rtf ?_ | with_reducible refine z_rft ?_ | with_reducible refine z_kt ?_ | with_reducible refine z_kf ?_ | with_reducible refine z_lss ?_ | with_reducible refine z_gtr ?_ | with_reducible refine z_leq ?_ | with_reducible refine z_geq ?_ | with_reducible refine z_eql ?_ | with_reducible refine z_neq ?_ | with_reducible refine z_seq ?_ | with_reducible refine z_sne ?_ | with_reducible refine z_slen ?_ | with_reducible refine z_eqp ?_ | with_reducible refine z_eqn ?_ | with_reducible refine z_cv ?_ | refine z_of l1 ?_ | refine z_of A8 ?_ | refine z_of lr ?_ | refine z_of R.l4 ?_ | refine z_of A7 ?_ | refine z_of build0 ?_
  obtain ⟨h2, w1, w2, w3, w4, w5⟩ := upd_one R.map sks k
  refine z_u w1 ?_
  exact kk h2 (O1.ofs hy (Fr.of_but rfl w2) (w4 o1) w5) ((Fr.of_but (by show (τ x.m).own; rw [C.tm]; trivial) q2).trans (Fr.of_but (by show (τ y.m).own; rw [R.tm]; trivial) w2))

theorem p28 (O : TO τ h T) (hx : lkG T.cs k = some x) (hy : lkG T.rs r = some y) (V7 : Var h a7 [.str k.1, .str k.2]) (V8 : Var h a8 [.int .i64 r.1, .str r.2]) (t7 : τ a7 = .out) (t8 : τ a8 = .out) (hn : T.n < 1000000)
    (kk : ∀ h', TO τ h' { T with n := T.n + (if (lkG x.bys r).isNone then 1 else 0), cs := upG T.cs k (setC x (upG x.bys r ())), rs := upG T.rs r (setR y (upG y.ofs k ())) } → Fr (W8 τ) h h' → K (.int .i64 0) h' = true) :
    p10_28 (callN E (n + 1)) (n + 1) (.ptr T.p 0 0 0) (.ptr a7 0 0 0) (.ptr a8 0 0 0) h K = true := by
  unfold p10_28
  have C := O.c k x (lkG_mem hx)
  have A7 : loadA h true 2 (.ptr a7 0 0 0) = some (sk k) := V7.all rfl
  have A8 : loadA h true 2 (.ptr a8 0 0 0) = some (bk2 r) := V8.all rfl
  repeat first | with_reducible refine z_nil ?_ | with_reducible refine z_fadr ?_ | with_reducible refine z_some ?_ | with_reducible refine z_ext0 ?_ | with_reducible refine z_ext1 ?_ | with_reducible refine z_notT ?_ | with_reducible refine z_notF ?_ | with_reducible refine z_cT ?_ | with_reducible refine z_cF ?_ | with_reducible refine z_gtt ?_ | with_reducible refine z_gff ?_ | with_reducible refine z_gtf ?_ | with_reducible refine z_gft ?_ | with_reducible refine z_ptt ?_ | with_reducible refine z_pff ?_ | with_reducible refine z_ptf ?_ | with_reducible refine z_pft ?_ | with_reducible refine z_rtt ?_ | with_reducible refine z_rff ?_ | with_reducible refine z_rtf ?_ | with_reducible refine z_rft ?_ | with_reducible refine z_kt ?_ | with_reducible refine z_kf ?_ | with_reducible refine z_lss ?_ | with_reducible refine z_gtr ?_ | with_reducible refine z_leq ?_ | with_reducible refine z_geq ?_ | with_reducible refine z_eql ?_ | with_reducible refine z_neq ?_ | with_reducible refine z_seq ?_ | with_reducible refine z_sne ?_ | with_reducible refine z_slen ?_ | with_reducible refine z_eqp ?_ | with_reducible refine z_eqn ?_ | with_reducible refine z_cv ?_ | refine z_of O.l0 ?_ | refine z_of A7 ?_ | refine z_of (O.lkc hx) ?_ | refine z_of C.l3 ?_ | refine z_of A8 ?_ | refine z_of (look_one C.map bks r) ?_
  obtain ⟨h1, b1, b2, e1, o1, z1⟩ := alloc0_v O.ok
  refine z_p b1 ?_
  have O1 := O.ext e1 o1
  have V7 := V7.ext e1
  have V8 := V8.ext e1
  have C1 := O1.c k x (lkG_mem hx)
  have A7 : loadA h1 true 2 (.ptr a7 0 0 0) = some (sk k) := V7.all rfl
  have A8 : loadA h1 true 2 (.ptr a8 0 0 0) = some (bk2 r) := V8.all rfl
  refine z_same O1.l0 (same_map _) ?_
  refine z_same A7 (same_agg (sames_cons (same_str _) (sames_cons (same_str _) sames_nil))) ?_
  refine z_same (O1.lkc hx) (same_ptr _ _ _ _) ?_
  refine z_same C1.l3 (same_map _) ?_
  refine z_same A8 (same_agg (sames_cons (same_int _ _) (sames_cons (same_str _) sames_nil))) ?_
  refine z_same (look_one C1.map bks r) (same_tup (sames_cons (same_agg sames_nil) (sames_cons (same_bool _) sames_nil))) ?_
  refine z_u (store0_v b2) ?_
  cases hr : lkG x.bys r with
  | some u =>
    rw [hr] at kk
    repeat first | with_reducible refine z_nil ?_ | with_reducible refine z_fadr ?_ | with_reducible refine z_some ?_ | with_reducible refine z_ext0 ?_ | with_reducible refine z_ext1 ?_ | with_reducible refine z_notT ?_ | with_reducible refine z_notF ?_ | with_reducible refine z_cT ?_ | with_reducible refine z_cF ?_ | with_reducible refine z_gtt ?_ | with_reducible refine z_gff ?_ | with_reducible refine z_gtf ?_ | with_reducible refine z_gft ?_ | with_reducible refine z_ptt ?_ | with_reducible refine z_pff ?_ | with_reducible refine z_ptf ?_ | with_reducible refine z_pft ?_ | with_reducible refine z_rtt ?_ | with_reducible refine z_rff ?_ | with_reducible refine z_rtf ?_ | with_reducible refine z_rft ?_ | with_reducible refine z_kt ?_ | with_reducible refine z_kf ?_ | with_reducible refine z_lss ?_ | with_reducible refine z_gtr ?_ | with_reducible refine z_leq ?_ | with_reducible refine z_geq ?_ | with_reducible refine z_eql ?_ | with_reducible refine z_neq ?_ | with_reducible refine z_seq ?_ | with_reducible refine z_sne ?_ | with_reducible refine z_slen ?_ | with_reducible refine z_eqp ?_ | with_reducible refine z_eqn ?_ | with_reducible refine z_cv ?_ | refine z_some ?_
    exact p36 (n := n) O1 hx hy V7 V8 t7 t8 fun h' O' F => kk h' O' ((Fr.of_ext e1).trans F)
  | none =>
    rw [hr] at kk
    repeat first | with_reducible refine z_nil ?_ | with_reducible refine z_fadr ?_ | with_reducible refine z_some ?_ | with_reducible refine z_ext0 ?_ | with_reducible refine z_ext1 ?_ | with_reducible refine z_notT ?_ | with_reducible refine z_notF ?_ | with_reducible refine z_cT ?_ | with_reducible refine z_cF ?_ | with_reducible refine z_gtt ?_ | with_reducible refine z_gff ?_ | with_reducible refine z_gtf ?_ | with_reducible refine z_gft ?_ | with_reducible refine z_ptt ?_ | with_reducible refine z_pff ?_ | with_reducible refine z_ptf ?_ | with_reducible refine z_pft ?_ | with_reducible refine z_rtt ?_ | with_reducible refine z_rff ?_ | with_reducible refine z_rtf ?_ | with_reducible refine z_rft ?_ | with_reducible refine z_kt ?_ | with_reducible refine z_kf ?_ | with_reducible refine z_lss ?_ | with_reducible refine z_gtr ?_ | with_reducible refine z_leq ?_ | with_reducible refine z_geq ?_ | with_reducible refine z_eql ?_ | with_reducible refine z_neq ?_ | with_reducible refine z_seq ?_ | with_reducible refine z_sne ?_ | with_reducible refine z_slen ?_ | with_reducible refine z_eqp ?_ | with_reducible refine z_eqn ?_ | with_reducible refine z_cv ?_ | refine z_some ?_
    repeat first | with_reducible refine z_nil ?_ | with_reducible refine z_fadr ?_ | with_reducible refine z_some ?_ | with_reducible refine z_ext0 ?_ | with_reducible refine z_ext1 ?_ | with_reducible refine z_notT ?_ | with_reducible refine z_notF ?_ | with_reducible refine z_cT ?_ | with_reducible refine z_cF ?_ | with_reducible refine z_gtt ?_ | with_reducible refine z_gff ?_ | with_reducible refine z_gtf ?_ | with_reducible refine z_gft ?_ | with_reducible refine z_ptt ?_ | with_reducible refine z_pff ?_ | with_reducible refine z_ptf ?_ | with_reducible refine z_pft ?_ | with_reducible refine z_rtt ?_ | with_reducible refine z_rff ?_ | with_reducible refine z_rtf ?_ | with_reducible refine z_rft ?_ | with_reducible refine z_kt ?_ | with_reducible refine z_kf ?_ | with_reducible refine z_lss ?_ | with_reducible refine z_gtr ?_ | with_reducible refine z_leq ?_ | with_reducible refine z_geq ?_ | with_reducible refine z_eql ?_ | with_reducible refine z_neq ?_ | with_reducible refine z_seq ?_ | with_reducible refine z_sne ?_ | with_reducible refine z_slen ?_ | with_reducible refine z_eqp ?_ | with_reducible refine z_eqn ?_ | with_reducible refine z_cv ?_ | refine z_of O1.l3 ?_ | refine z_of (add64 (a := (T.n : Int)) (b := 1) (by omega) (by omega)) ?_
    have V := O1.var
    obtain ⟨h2, w1, w2, w3, o2, w5⟩ := V.wr o1 (off := 3) (v := .int .i64 ((T.n : Int) + 1)) (show 3 < 4 by decide) rfl
    refine z_u w1 ?_
    have hn1 : (T.n : Int) + 1 = ((T.n + 1 : Nat) : Int) := by omega
    rw [hn1] at w2
    have O2 : TO τ h2 { T with n := T.n + 1 } := O1.put (ca := T.came) (n := T.n + 1) (Fr.of_but rfl w3) o2 w2
    have n7 : a7 ≠ T.p := fun e => by have := O.tp; rw [← e, t7] at this; cases this
    have n8 : a8 ≠ T.p := fun e => by have := O.tp; rw [← e, t8] at this; cases this
    refine p36 (n := n) (T := { T with n := T.n + 1 }) O2 hx hy (w3.var V7 n7) (w3.var V8 n8) t7 t8 fun h' O' F => kk h' O' (((Fr.of_ext e1).trans (Fr.of_but (by show (τ T.p).own; rw [O.tp]; trivial) w3)).trans F)
end

/-- What is told anew: where it lies, nothing is written. -/
def Kept (τ : Nat → Tag) (h h' : AHeap) (G : AHeap → Nat → Nat → Prop) : Prop := ∃ lo hi, G h' lo hi ∧ h.sz ≤ lo ∧ hi ≤ h'.sz ∧ ∀ j, lo ≤ j → j < hi → τ j = .out

theorem build5 {a b c d e : AV} (h1 : a.leaf = true) (h2 : b.leaf = true) (h3 : c.leaf = true) (h4 : d.leaf = true) (h5 : e.leaf = true) :
    buildV [AV.int IntKind.i64 0, AV.nilSlc, AV.nilSlc, AV.int IntKind.i64 0, AV.nilMap] [(0, 3, .agg [a, b, c]), (3, 1, d), (4, 1, e)] = some (.agg [a, b, c, d, e]) := by
  have c4 := cells_leaf h4
  have c5 := cells_leaf h5
  have c0 : AV.cells (.agg [a, b, c]) = [a, b, c] := rfl
  simp only [buildV, fillV, c0, c4, c5, List.length_cons, List.length_nil, allLeaf, h1, h2, h3, h4, h5, lay]
  rfl
theorem build4 {a b d e : AV} (h1 : a.leaf = true) (h2 : b.leaf = true) (h4 : d.leaf = true) (h5 : e.leaf = true) :
    buildV [AV.str [], AV.nilSlc, AV.int IntKind.i64 0, AV.nilMap] [(0, 2, .agg [a, b]), (2, 1, d), (3, 1, e)] = some (.agg [a, b, d, e]) := by
  have c4 := cells_leaf h4
  have c5 := cells_leaf h5
  have c0 : AV.cells (.agg [a, b]) = [a, b] := rfl
  simp only [buildV, fillV, c0, c4, c5, List.length_cons, List.length_nil, allLeaf, h1, h2, h4, h5, lay]
  rfl
theorem build_by {a b : AV} (h1 : a.leaf = true) (h2 : b.leaf = true) : buildV [AV.int IntKind.i64 0, AV.str []] [(0, 1, a), (1, 1, b)] = some (.agg [a, b]) := build2 h1 h2

section
variable {τ : Nat → Tag} {h : AHeap} {T : TD} {K : Kont} {n : Nat} {k : SK} {r : BK} {x : CD} {y : RD} {a5 a7 a8 : Nat} {core : Int} {els env : AV} {GM : AHeap → Nat → Nat → AV → AV → Prop}

theorem p20 (O : TO τ h T) (hx : lkG T.cs k = some x) (V5 : Var h a5 [.int .i64 core, els, env]) (V7 : Var h a7 [.str k.1, .str k.2]) (V8 : Var h a8 [.int .i64 r.1, .str r.2]) (t5 : τ a5 = .out) (t7 : τ a7 = .out) (t8 : τ a8 = .out) (hn : T.n < 1000000) (hc : T.came < 1000000)
    (se : AV.same els els = true) (sv : AV.same env env = true)
    (ht : ∀ h1, h1.Ok → Fr (W8 τ) h h1 → ∀ K' : Kont, (∀ h2 els' env', Ext h1 h2 → h2.Ok → els'.leaf = true → env'.leaf = true → GM h2 h1.sz h2.sz els' env' → K' (.agg [.int .i64 core, els', env']) h2 = true) → callN E (n + 1) (.func 41) [.agg [.int .i64 core, els, env]] h1 K' = true)
    (gfr : ∀ h1 h2 lo hi a b, GM h1 lo hi a b → (∀ j o, lo ≤ j → j < hi → h1.get j = some o → h2.get j = some o) → GM h2 lo hi a b)
    (kk : ∀ h' τ' y, TO τ' h' { T with came := upC T.came T.rs r, n := T.n + (if (lkG x.bys r).isNone then 1 else 0), cs := upG T.cs k (setC x (upG x.bys r ())), rs := putG RD.ofs setR T.rs r k y } → y.ofs = [] → y.came = T.came + 1 →
      (lkG T.rs r = none → y.core = core ∧ Kept τ' h h' fun h lo hi => GM h lo hi y.els y.env) → (∀ j, j < h.sz → τ' j = τ j) → (∀ j, W8 τ' j → j < h'.sz) → Fr (W8 τ) h h' → K (.int .i64 0) h' = true) :
    p10_20 (callN E (n + 1)) (n + 1) (.ptr T.p 0 0 0) (.ptr a5 0 0 0) (.ptr a7 0 0 0) (.ptr a8 0 0 0) h K = true := by
  have lt' : ∀ {τ' : Nat → Tag} {h' : AHeap} {T' : TD}, TO τ' h' T' → ∀ j, W8 τ' j → j < h'.sz := fun {τ' h' T'} O' j w => by
    by_cases q : j < h'.sz
    · exact q
    · have w : (τ' j).own := w
      rw [O'.hi j (by omega)] at w; exact w.elim
  unfold p10_20
  have A8 : loadA h true 2 (.ptr a8 0 0 0) = some (bk2 r) := V8.all rfl
  cases hy : lkG T.rs r with
  | some y =>
    repeat first | with_reducible refine z_nil ?_ | with_reducible refine z_fadr ?_ | with_reducible refine z_some ?_ | with_reducible refine z_ext0 ?_ | with_reducible refine z_ext1 ?_ | with_reducible refine z_notT ?_ | with_reducible refine z_notF ?_ | with_reducible refine z_cT ?_ | with_reducible refine z_cF ?_ | with_reducible refine z_gtt ?_ | with_reducible refine z_gff ?_ | with_reducible refine z_gtf ?_ | with_reducible refine z_gft ?_ | with_reducible refine z_ptt ?_ | with_reducible refine z_pff ?_ | with_reducible refine z_ptf ?_ | with_reducible refine z_pft ?_ | with_reducible refine z_rtt ?_ | with_reducible refine z_rff ?_ | with_reducible refine z_rtf ?_ | with_reducible refine z_rft ?_ | with_reducible refine z_kt ?_ | with_reducible refine z_kf ?_ | with_reducible refine z_lss ?_ | with_reducible refine z_gtr ?_ | with_reducible refine z_leq ?_ | with_reducible refine z_geq ?_ | with_reducible refine z_eql ?_ | with_reducible refine z_neq ?_ | with_reducible refine z_seq ?_ | with_reducible refine z_sne ?_ | with_reducible refine z_slen ?_ | with_reducible refine z_eqp ?_ | with_reducible refine z_eqn ?_ | with_reducible refine z_cv ?_ | refine z_of O.l1 ?_ | refine z_of A8 ?_ | refine z_of (O.lkr hy) ?_
    refine p28 O hx hy V7 V8 t7 t8 hn fun h' O' F => ?_
    have e1 : upC T.came T.rs r = T.came := by unfold upC; rw [hy]; rfl
    have e2 : putG RD.ofs setR T.rs r k ⟨0, 0, 0, .nilSlc, .nilSlc, T.came + 1, []⟩ = upG T.rs r (setR y (upG y.ofs k ())) := by unfold putG; rw [hy]; rfl
    refine kk h' τ ⟨0, 0, 0, .nilSlc, .nilSlc, T.came + 1, []⟩ (by rw [e1, e2]; exact O') rfl rfl (fun q => by rw [hy] at q; cases q) (fun _ _ => rfl) (lt' O') F
  | none =>
    repeat first | with_reducible refine z_nil ?_ | with_reducible refine z_fadr ?_ | with_reducible refine z_some ?_ | with_reducible refine z_ext0 ?_ | with_reducible refine z_ext1 ?_ | with_reducible refine z_notT ?_ | with_reducible refine z_notF ?_ | with_reducible refine z_cT ?_ | with_reducible refine z_cF ?_ | with_reducible refine z_gtt ?_ | with_reducible refine z_gff ?_ | with_reducible refine z_gtf ?_ | with_reducible refine z_gft ?_ | with_reducible refine z_ptt ?_ | with_reducible refine z_pff ?_ | with_reducible refine z_ptf ?_ | with_reducible refine z_pft ?_ | with_reducible refine z_rtt ?_ | with_reducible refine z_rff ?_ | with_reducible refine z_rtf ?_ | with_reducible refine z_rft ?_ | with_reducible refine z_kt ?_ | with_reducible refine z_kf ?_ | with_reducible refine z_lss ?_ | with_reducible refine z_gtr ?_ | with_reducible refine z_leq ?_ | with_reducible refine z_geq ?_ | with_reducible refine z_eql ?_ | with_reducible refine z_neq ?_ | with_reducible refine z_seq ?_ | with_reducible refine z_sne ?_ | with_reducible refine z_slen ?_ | with_reducible refine z_eqp ?_ | with_reducible refine z_eqn ?_ | with_reducible refine z_cv ?_ | refine z_of O.l1 ?_ | refine z_of A8 ?_ | refine z_of (O.lkr0 hy) ?_
    repeat first | with_reducible refine z_nil ?_ | with_reducible refine z_fadr ?_ | with_reducible refine z_some ?_ | with_reducible refine z_ext0 ?_ | with_reducible refine z_ext1 ?_ | with_reducible refine z_notT ?_ | with_reducible refine z_notF ?_ | with_reducible refine z_cT ?_ | with_reducible refine z_cF ?_ | with_reducible refine z_gtt ?_ | with_reducible refine z_gff ?_ | with_reducible refine z_gtf ?_ | with_reducible refine z_gft ?_ | with_reducible refine z_ptt ?_ | with_reducible refine z_pff ?_ | with_reducible refine z_ptf ?_ | with_reducible refine z_pft ?_ | with_reducible refine z_rtt ?_ | with_reducible refine z_rff ?_ | with_reducible refine z_rtf ?_ | with_reducible refine z_rft ?_ | with_reducible refine z_kt ?_ | with_reducible refine z_kf ?_ | with_reducible refine z_lss ?_ | with_reducible refine z_gtr ?_ | with_reducible refine z_leq ?_ | with_reducible refine z_geq ?_ | with_reducible refine z_eql ?_ | with_reducible refine z_neq ?_ | with_reducible refine z_seq ?_ | with_reducible refine z_sne ?_ | with_reducible refine z_slen ?_ | with_reducible refine z_eqp ?_ | with_reducible refine z_eqn ?_ | with_reducible refine z_cv ?_ | refine z_of O.l2 ?_ | refine z_of (add64 (a := (T.came : Int)) (b := 1) (by omega) (by omega)) ?_
    have V := O.var
    obtain ⟨h1, w1, w2, w3, o1, w5⟩ := V.wr O.ok (off := 2) (v := .int .i64 ((T.came : Int) + 1)) (show 2 < 4 by decide) rfl
    refine z_u w1 ?_
    have hn1 : (T.came : Int) + 1 = ((T.came + 1 : Nat) : Int) := by omega
    rw [hn1] at w2
    have O1 : TO τ h1 { T with came := T.came + 1 } := O.put (ca := T.came + 1) (n := T.n) (Fr.of_but rfl w3) o1 w2
    have ne : ∀ {a}, τ a = .out → a ≠ T.p := fun t e => by have := O.tp; rw [← e, t] at this; cases this
    have V5 := w3.var V5 (ne t5)
    have V7 := w3.var V7 (ne t7)
    have V8 := w3.var V8 (ne t8)
    have A5 : ∀ {h'}, Ext h1 h' → loadA h' true 3 (.ptr a5 0 0 0) = some (.agg [.int .i64 core, els, env]) := fun e => (V5.ext e).all rfl
    have A8 : ∀ {h'}, Ext h1 h' → loadA h' true 2 (.ptr a8 0 0 0) = some (bk2 r) := fun e => (V8.ext e).all rfl
    have L1 : ∀ {h'}, Ext h1 h' → loadA h' false 1 (.ptr T.p 0 0 1) = some (.map T.rm) := fun e => (w2.ext e).get rfl
    have L2 : ∀ {h'}, Ext h1 h' → loadA h' false 1 (.ptr T.p 0 0 2) = some (.int .i64 ((T.came + 1 : Nat) : Int)) := fun e => (w2.ext e).get rfl
    have sA5 : AV.same (.agg [.int .i64 core, els, env]) (.agg [.int .i64 core, els, env]) = true := same_agg (sames_cons (same_int _ _) (sames_cons se (sames_cons sv sames_nil)))
    have sA8 : AV.same (bk2 r) (bk2 r) = true := same_agg (sames_cons (same_int _ _) (sames_cons (same_str _) sames_nil))
    have e0 := Ext.refl h1
    repeat first | with_reducible refine z_nil ?_ | with_reducible refine z_fadr ?_ | with_reducible refine z_some ?_ | with_reducible refine z_ext0 ?_ | with_reducible refine z_ext1 ?_ | with_reducible refine z_notT ?_ | with_reducible refine z_notF ?_ | with_reducible refine z_cT ?_ | with_reducible refine z_cF ?_ | with_reducible refine z_gtt ?_ | with_reducible refine z_gff ?_ | with_reducible refine z_gtf ?_ | with_reducible refine z_gft ?_ | with_reducible refine z_ptt ?_ | with_reducible refine z_pff ?_ | with_reducible refine z_ptf ?_ | with_reducible refine z_pft ?_ | with_reducible refine z_rtt ?_ | with_reducible refine z_rff ?_ | with_reducible refine z_rtf ?_ | with_reducible refine z_rft ?_ | with_reducible refine z_kt ?_ | with_reducible refine z_kf ?_ | with_reducible refine z_lss ?_ | with_reducible refine z_gtr ?_ | with_reducible refine z_leq ?_ | with_reducible refine z_geq ?_ | with_reducible refine z_eql ?_ | with_reducible refine z_neq ?_ | with_reducible refine z_seq ?_ | with_reducible refine z_sne ?_ | with_reducible refine z_slen ?_ | with_reducible refine z_eqp ?_ | with_reducible refine z_eqn ?_ | with_reducible refine z_cv ?_ | refine z_of (L1 e0) ?_ | refine z_of (A8 e0) ?_ | refine z_of (A5 e0) ?_ | refine z_of (L2 e0) ?_
    obtain ⟨h2, m1, M, e2, o2, z2⟩ := mkmap_v sk o1
    refine z_p m1 ?_
    refine z_same (L1 e2) (same_map _) ?_
    refine z_same (A8 e2) sA8 ?_
    refine z_same (A5 e2) sA5 ?_
    refine z_same (L2 e2) (same_int _ _) ?_
    have F1 : Fr (W8 τ) h h1 := Fr.of_but (by show (τ T.p).own; rw [O.tp]; trivial) w3
    refine ht h2 o2 (fr_ext F1 e2) _ fun h3 els' env' e3 o3 le lv hG => ?_
    have e3' := ext_two e2 e3
    refine z_same (L1 e3') (same_map _) ?_
    refine z_same (A8 e3') sA8 ?_
    refine z_same (L2 e3') (same_int _ _) ?_
    refine z_of (build5 rfl le lv rfl rfl) ?_
    obtain ⟨h4, b1, V4, e4, o4, z4⟩ := box_v (n := 5) (v := .agg [.int .i64 core, els', env', .int .i64 ((T.came + 1 : Nat) : Int), .map h1.sz]) o3 rfl (by decide) (by simp only [AV.cells, allLeaf, le, lv]; rfl)
    have V4 : Var h4 h3.sz [.int .i64 core, els', env', .int .i64 ((T.came + 1 : Nat) : Int), .map h1.sz] := V4
    refine z_p b1 ?_
    have e4' := ext_two e3' e4
    refine z_same (L1 e4') (same_map _) ?_
    refine z_same (A8 e4') sA8 ?_
    refine z_same (A5 e4') sA5 ?_
    refine z_same (L2 e4') (same_int _ _) ?_
    have O4 := O1.ext e4' o4
    obtain ⟨h5, u1, u2, u3, u4, u5⟩ := O4.rs.upd bks r (.ptr h3.sz 0 0 0)
    refine z_u u1 ?_
    have hs1 : h.sz = h1.sz := w5.symm
    have hs2 : h1.sz < h3.sz := by have := e3.1; omega
    have O5 : TO (tagR τ h3.sz h1.sz r) h5 { T with came := T.came + 1, rs := upG T.rs r ⟨h3.sz, h1.sz, core, els', env', T.came + 1, []⟩ } := O4.addr (k := r) (x := ⟨h3.sz, h1.sz, core, els', env', T.came + 1, []⟩) hy (O.hi h3.sz (by omega)) (O.hi h1.sz (by omega)) (by show h3.sz ≠ h1.sz; omega) V4 ((Fr.of_ext (X := fun _ => False) (ext_two e3 e4)).kmap M id) rfl (Fr.of_but rfl u2) (u4 o4) u5
    have F5 : Fr (W8 τ) h h5 := (fr_ext F1 e4').trans (Fr.of_but (by show (τ T.rm).own; rw [O.tr]; trivial) u2)
    have tout : ∀ {a}, τ a = .out → a < h.sz → tagR τ h3.sz h1.sz r a = .out := fun {a} t l => by rw [tagR_ne (by omega) (by omega)]; exact t
    have vr : ∀ {a c}, Var h1 a c → τ a = .out → Var h5 a c := fun {a c} V t => u2.var (V.ext e4') (fun e => by have := O.tr; rw [← e, t] at this; cases this)
    have l5 : a5 < h.sz := by have := V5.lt o1; omega
    have l7 : a7 < h.sz := by have := V7.lt o1; omega
    have l8 : a8 < h.sz := by have := V8.lt o1; omega
    have ky : lkG (upG T.rs r ⟨h3.sz, h1.sz, core, els', env', T.came + 1, []⟩) r = some ⟨h3.sz, h1.sz, core, els', env', T.came + 1, []⟩ := by rw [lkG_up, if_pos rfl]
    have p28' := p28 (n := n) (K := K) O5 hx ky (vr V7 t7) (vr V8 t8) (tout t7 l7) (tout t8 l8) hn
    refine p28' fun h' O' F => ?_
    have e1 : upC T.came T.rs r = T.came + 1 := by unfold upC; rw [hy]; rfl
    have e2' : putG RD.ofs setR T.rs r k ⟨h3.sz, h1.sz, core, els', env', T.came + 1, []⟩ = upG (upG T.rs r ⟨h3.sz, h1.sz, core, els', env', T.came + 1, []⟩) r (setR ⟨h3.sz, h1.sz, core, els', env', T.came + 1, []⟩ (upG [] k ())) := by unfold putG; rw [hy, upG_up]; rfl
    refine kk h' (tagR τ h3.sz h1.sz r) ⟨h3.sz, h1.sz, core, els', env', T.came + 1, []⟩ (by rw [e1, e2']; exact O') rfl rfl (fun _ => ⟨rfl, h2.sz, h3.sz, ?_, by omega, by have := F.sz; omega, fun j j1 j2 => by rw [tagR_ne (by omega) (by omega)]; exact O.hi j (by omega)⟩) (fun j hj => tagR_ne (by omega) (by omega)) (lt' O') ?_
    · refine gfr h3 h' _ _ _ _ hG fun j o j1 j2 g => ?_
      have ho : ¬ W8 (tagR τ h3.sz h1.sz r) j := by
        show ¬ (tagR τ h3.sz h1.sz r j).own
        rw [tagR_ne (by omega) (by omega), O.hi j (by omega)]; exact id
      refine F.keep j o ho (u2.keep j o (fun e => ?_) (e4.2 j o g))
      have := O.tr
      rw [← show j = T.rm from e, O.hi j (by omega)] at this; cases this
    · refine fr_acc O.ok F5 F fun j w => ?_
      by_cases q : j < h.sz
      · left
        have w : (tagR τ h3.sz h1.sz r j).own := w
        rw [tagR_ne (by omega) (by omega)] at w; exact w
      · right; omega
end
end Go.Proofs.Ytbamgdknkhhikaa
