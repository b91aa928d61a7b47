/-
  'drop': one justification goes.
-/
import Derived.Test.YtbamgdknkhhikaaT1
namespace Go.Proofs.Ytbamgdknkhhikaa
open Go.Ab
set_option linter.unusedSimpArgs false
set_option linter.unusedVariables false

section
variable {κ β γ : Type} [DecidableEq κ] [DecidableEq γ]
def dropG (get : β → List (γ × Unit)) (set : β → List (γ × Unit) → β) (l : List (κ × β)) (k : κ) (r : γ) : List (κ × β) :=
  match lkG l k with
  | none => l
  | some x => if (dlG (get x) r).length = 0 then dlG l k else upG l k (set x (dlG (get x) r))
end
def setC (x : CD) (l : List (BK × Unit)) : CD := { x with bys := l }
def setR (x : RD) (l : List (SK × Unit)) : RD := { x with ofs := l }
def dropC (cs : List (SK × CD)) (k : SK) (r : BK) : List (SK × CD) := dropG CD.bys setC cs k r
def dropR (rs : List (BK × RD)) (r : BK) (k : SK) : List (BK × RD) := dropG RD.ofs setR rs r k
def dropT (T : TD) (k : SK) (r : BK) : TD := { T with cs := dropC T.cs k r, rs := dropR T.rs r k, n := T.n - 1 }

theorem dels_mid {κ : Type} {ek : κ → AV} {h h1 h2 h3 : AHeap} {id : Nat} {k : κ} (D : Dels ek h1 h2 id k) (p : ∀ o, h.get id = some o → h1.get id = some o) (q : ∀ o, h2.get id = some o → h3.get id = some o) : Dels ek h h3 id k :=
  fun es c e => q _ (D es c (p _ e))
theorem one_dl {κ : Type} [DecidableEq κ] {ek : κ → AV} {h : AHeap} {id : Nat} {l : List (κ × Unit)} {k : κ} (M : KMap ek h id (dl (one l) k)) : KMap ek h id (one (dlG l k)) := by
  rw [one, dlG_mp, ← dl_G]; exact M
theorem one_lk {κ : Type} [DecidableEq κ] {l : List (κ × Unit)} {k : κ} (e : lkG l k = some ()) : lk (one l) k ≠ none := by
  rw [lk_G, one, lkG_mp, e]; exact fun q => by cases q
theorem one_len {κ : Type} (l : List (κ × Unit)) : (one l).length = l.length := by simp [one, mp]

section
variable {τ : Nat → Tag} {h : AHeap} {T : TD} {K : Kont} {n : Nat} {k : SK} {r : BK} {x : CD} {y : RD}

theorem c48 (O : TO τ h T) (hx : lkG T.cs k = some x) (hb : lkG x.bys r = some ()) (hy : lkG T.rs r = some y) (hk : lkG y.ofs k = some ()) (h1n : 1 ≤ T.n) (hn : T.n < 1000000)
    (kk : ∀ h', TO τ h' (dropT T k r) → Fr (W8 τ) h h' → Dels bk2 h h' x.m r → Dels sk h h' y.m k → K (.tup []) h' = true) :
    callN E (n + 1) (.func 48) [.ptr T.p 0 0 0, sk k, bk2 r] h K = true := by
  apply d48
  unfold s48
  have C0 := O.c k x (lkG_mem hx)
  have R0 := O.r r y (lkG_mem hy)
  have xl := C0.map.lt O.ok
  have yl := R0.map.lt O.ok
  have pl := O.plt
  have cl := O.cs.lt O.ok
  have nxy : x.m ≠ y.m := fun e => by have := C0.tm; rw [e, R0.tm] at this; cases this
  have nxp : x.m ≠ T.p := fun e => by have := C0.tm; rw [e, O.tp] at this; cases this
  have nyp : y.m ≠ T.p := fun e => by have := R0.tm; rw [e, O.tp] at this; cases this
  have nxc : x.m ≠ T.cm := fun e => by have := C0.tm; rw [e, O.tc] at this; cases this
  have nyc : y.m ≠ T.cm := fun e => by have := R0.tm; rw [e, O.tc] at this; cases this
  have nxr : x.m ≠ T.rm := fun e => by have := C0.tm; rw [e, O.tr] at this; cases this
  have nyr : y.m ≠ T.rm := fun e => by have := R0.tm; rw [e, O.tr] at this; cases this
  obtain ⟨h1, b1, V1, e1, o1, z1⟩ := box_v (n := 2) (v := sk k) O.ok rfl (by decide) rfl
  have V1 : Var h1 h.sz [.str k.1, .str k.2] := V1
  refine z_p b1 ?_
  obtain ⟨h2, b2, V2, e2, o2, z2⟩ := box_v (n := 2) (v := bk2 r) o1 rfl (by decide) rfl
  have V2 : Var h2 h1.sz [.int .i64 r.1, .str r.2] := V2
  refine z_p b2 ?_
  have O2 := (O.ext e1 o1).ext e2 o2
  have U1 := V1.ext e2
  have A1 : loadA h2 true 2 (.ptr h.sz 0 0 0) = some (sk k) := U1.all rfl
  have A2 : loadA h2 true 2 (.ptr h1.sz 0 0 0) = some (bk2 r) := V2.all rfl
  have C := O2.c k x (lkG_mem hx)
  have R := O2.r r y (lkG_mem hy)
  repeat first | with_reducible refine z_nil ?_ | with_reducible refine z_fadr ?_ | with_reducible refine z_some ?_ | with_reducible refine z_ext0 ?_ | with_reducible refine z_ext1 ?_ | with_reducible refine z_notT ?_ | with_reducible refine z_notF ?_ | with_reducible refine z_cT ?_ | with_reducible refine z_cF ?_ | with_reducible refine z_gtt ?_ | with_reducible refine z_gff ?_ | with_reducible refine z_gtf ?_ | with_reducible refine z_gft ?_ | with_reducible refine z_ptt ?_ | with_reducible refine z_pff ?_ | with_reducible refine z_ptf ?_ | with_reducible refine z_pft ?_ | with_reducible refine z_rtt ?_ | with_reducible refine z_rff ?_ | with_reducible refine z_rtf ?_ | with_reducible refine z_rft ?_ | with_reducible refine z_kt ?_ | with_reducible refine z_kf ?_ | with_reducible refine z_lss ?_ | with_reducible refine z_gtr ?_ | with_reducible refine z_leq ?_ | with_reducible refine z_geq ?_ | with_reducible refine z_eql ?_ | with_reducible refine z_neq ?_ | with_reducible refine z_seq ?_ | with_reducible refine z_sne ?_ | with_reducible refine z_slen ?_ | with_reducible refine z_eqp ?_ | with_reducible refine z_eqn ?_ | with_reducible refine z_cv ?_ | refine z_of O2.l0 ?_ | refine z_of A1 ?_ | refine z_of (O2.lkc hx) ?_ | refine z_of O2.l1 ?_ | refine z_of A2 ?_ | refine z_of (O2.lkr hy) ?_ | refine z_of C.l3 ?_
  obtain ⟨h3, q1, q2, q3, q4, q5, q6⟩ := C.map.delD bks (one_lk hb)
  refine z_u q1 ?_
  have o3 := q4 o2
  have O3 := O2.bys hx (Fr.of_but rfl q2) o3 (one_dl q5)
  have U1 := q2.var U1 (by omega)
  have V2 := q2.var V2 (by omega)
  have A1 : loadA h3 true 2 (.ptr h.sz 0 0 0) = some (sk k) := U1.all rfl
  have A2 : loadA h3 true 2 (.ptr h1.sz 0 0 0) = some (bk2 r) := V2.all rfl
  have R := O3.r r y (lkG_mem hy)
  repeat first | with_reducible refine z_nil ?_ | with_reducible refine z_fadr ?_ | with_reducible refine z_some ?_ | with_reducible refine z_ext0 ?_ | with_reducible refine z_ext1 ?_ | with_reducible refine z_notT ?_ | with_reducible refine z_notF ?_ | with_reducible refine z_cT ?_ | with_reducible refine z_cF ?_ | with_reducible refine z_gtt ?_ | with_reducible refine z_gff ?_ | with_reducible refine z_gtf ?_ | with_reducible refine z_gft ?_ | with_reducible refine z_ptt ?_ | with_reducible refine z_pff ?_ | with_reducible refine z_ptf ?_ | with_reducible refine z_pft ?_ | with_reducible refine z_rtt ?_ | with_reducible refine z_rff ?_ | with_reducible refine z_rtf ?_ | with_reducible refine z_rft ?_ | with_reducible refine z_kt ?_ | with_reducible refine z_kf ?_ | with_reducible refine z_lss ?_ | with_reducible refine z_gtr ?_ | with_reducible refine z_leq ?_ | with_reducible refine z_geq ?_ | with_reducible refine z_eql ?_ | with_reducible refine z_neq ?_ | with_reducible refine z_seq ?_ | with_reducible refine z_sne ?_ | with_reducible refine z_slen ?_ | with_reducible refine z_eqp ?_ | with_reducible refine z_eqn ?_ | with_reducible refine z_cv ?_ | refine z_of R.l4 ?_ | refine z_of A1 ?_
  obtain ⟨h4, p1, p2, p3, p4, p5, p6⟩ := R.map.delD sks (one_lk hk)
  refine z_u p1 ?_
  have o4 := p4 o3
  have O4 : TO τ h4 { T with cs := upG T.cs k { x with bys := dlG x.bys r }, rs := upG T.rs r { y with ofs := dlG y.ofs k } } := O3.ofs hy (Fr.of_but rfl p2) o4 (one_dl p5)
  have U1 := p2.var U1 (by omega)
  have V2 := p2.var V2 (by omega)
  have V4 : Var h4 T.p [.map T.cm, .map T.rm, .int .i64 (T.came : Int), .int .i64 (T.n : Int)] := O4.var
  have l43 : loadA h4 false 1 (.ptr T.p 0 0 3) = some (.int .i64 (T.n : Int)) := O4.l3
  repeat first | with_reducible refine z_nil ?_ | with_reducible refine z_fadr ?_ | with_reducible refine z_some ?_ | with_reducible refine z_ext0 ?_ | with_reducible refine z_ext1 ?_ | with_reducible refine z_notT ?_ | with_reducible refine z_notF ?_ | with_reducible refine z_cT ?_ | with_reducible refine z_cF ?_ | with_reducible refine z_gtt ?_ | with_reducible refine z_gff ?_ | with_reducible refine z_gtf ?_ | with_reducible refine z_gft ?_ | with_reducible refine z_ptt ?_ | with_reducible refine z_pff ?_ | with_reducible refine z_ptf ?_ | with_reducible refine z_pft ?_ | with_reducible refine z_rtt ?_ | with_reducible refine z_rff ?_ | with_reducible refine z_rtf ?_ | with_reducible refine z_rft ?_ | with_reducible refine z_kt ?_ | with_reducible refine z_kf ?_ | with_reducible refine z_lss ?_ | with_reducible refine z_gtr ?_ | with_reducible refine z_leq ?_ | with_reducible refine z_geq ?_ | with_reducible refine z_eql ?_ | with_reducible refine z_neq ?_ | with_reducible refine z_seq ?_ | with_reducible refine z_sne ?_ | with_reducible refine z_slen ?_ | with_reducible refine z_eqp ?_ | with_reducible refine z_eqn ?_ | with_reducible refine z_cv ?_ | refine z_of l43 ?_ | refine z_of (sub64 (a := (T.n : Int)) (b := 1) (by omega) (by omega)) ?_
  obtain ⟨h5, w1, w2, w3, o5, w5⟩ := V4.wr o4 (off := 3) (v := .int .i64 ((T.n : Int) - 1)) (show 3 < 4 by decide) rfl
  refine z_u w1 ?_
  have hn1 : (T.n : Int) - 1 = ((T.n - 1 : Nat) : Int) := by omega
  rw [hn1] at w2
  have O5 : TO τ h5 { T with cs := upG T.cs k { x with bys := dlG x.bys r }, rs := upG T.rs r { y with ofs := dlG y.ofs k }, n := T.n - 1 } := O4.put (ca := T.came) (n := T.n - 1) (Fr.of_but rfl w3) o5 w2
  have U1 := w3.var U1 (show h.sz ≠ T.p by omega)
  have V2 := w3.var V2 (show h1.sz ≠ T.p by omega)
  have A1 : loadA h5 true 2 (.ptr h.sz 0 0 0) = some (sk k) := U1.all rfl
  have A2 : loadA h5 true 2 (.ptr h1.sz 0 0 0) = some (bk2 r) := V2.all rfl
  have kx : lkG (upG T.cs k { x with bys := dlG x.bys r }) k = some { x with bys := dlG x.bys r } := by rw [lkG_up, if_pos rfl]
  have ky : lkG (upG T.rs r { y with ofs := dlG y.ofs k }) r = some { y with ofs := dlG y.ofs k } := by rw [lkG_up, if_pos rfl]
  have C := O5.c k _ (lkG_mem kx)
  have lx : lenA h5 2 (.map x.m) = some (.int .i64 ((dlG x.bys r).length : Int)) := by have := C.map.len; rw [one_len] at this; exact this
  have C3 : loadA h5 false 1 (.ptr x.id 0 0 3) = some (.map x.m) := C.l3
  have fh2 : Fr (W8 τ) h h2 := Fr.of_ext ⟨Nat.le_trans e1.1 e2.1, fun j o e => e2.2 j o (e1.2 j o e)⟩
  have f5 : Fr (W8 τ) h h5 := ((fh2.trans (Fr.of_but (by show (τ x.m).own; rw [C0.tm]; trivial) q2)).trans (Fr.of_but (by show (τ y.m).own; rw [R0.tm]; trivial) p2)).trans (Fr.of_but (by show (τ T.p).own; rw [O.tp]; trivial) w3)
  have pre : ∀ j o, h.get j = some o → h2.get j = some o := fun j o e => e2.2 j o (e1.2 j o e)
  have D1 : Dels bk2 h h5 x.m r := dels_mid q6 (fun o => pre _ o) fun o e => w3.keep _ _ nxp (p2.keep _ _ nxy e)
  have D2 : Dels sk h h5 y.m k := dels_mid p6 (fun o e => q2.keep _ _ (fun e => nxy e.symm) (pre _ o e)) fun o e => w3.keep _ _ nyp e
  have end2 : ∀ h6, TO τ h6 { T with cs := dropC T.cs k r, rs := upG T.rs r { y with ofs := dlG y.ofs k }, n := T.n - 1 } → Fr (W8 τ) h h6 → Dels bk2 h h6 x.m r → Dels sk h h6 y.m k → Var h6 h.sz [.str k.1, .str k.2] → Var h6 h1.sz [.int .i64 r.1, .str r.2] →
      p48_16 (callN E n) n (.ptr T.p 0 0 0) (.ptr h1.sz 0 0 0) (.ptr y.id 0 0 0) h6 K = true := by
    intro h6 O6 f6 D1 D2 U1 V2
    unfold p48_16
    have R := O6.r r _ (lkG_mem ky)
    have ly : lenA h6 2 (.map y.m) = some (.int .i64 ((dlG y.ofs k).length : Int)) := by have := R.map.len; rw [one_len] at this; exact this
    have R4 : loadA h6 false 1 (.ptr y.id 0 0 4) = some (.map y.m) := R.l4
    have A2 : loadA h6 true 2 (.ptr h1.sz 0 0 0) = some (bk2 r) := V2.all rfl
    repeat first | with_reducible refine z_nil ?_ | with_reducible refine z_fadr ?_ | with_reducible refine z_some ?_ | with_reducible refine z_ext0 ?_ | with_reducible refine z_ext1 ?_ | with_reducible refine z_notT ?_ | with_reducible refine z_notF ?_ | with_reducible refine z_cT ?_ | with_reducible refine z_cF ?_ | with_reducible refine z_gtt ?_ | with_reducible refine z_gff ?_ | with_reducible refine z_gtf ?_ | with_reducible refine z_gft ?_ | with_reducible refine z_ptt ?_ | with_reducible refine z_pff ?_ | with_reducible refine z_ptf ?_ | with_reducible refine z_pft ?_ | with_reducible refine z_rtt ?_ | with_reducible refine z_rff ?_ | with_reducible refine z_rtf ?_ | with_reducible refine z_rft ?_ | with_reducible refine z_kt ?_ | with_reducible refine z_kf ?_ | with_reducible refine z_lss ?_ | with_reducible refine z_gtr ?_ | with_reducible refine z_leq ?_ | with_reducible refine z_geq ?_ | with_reducible refine z_eql ?_ | with_reducible refine z_neq ?_ | with_reducible refine z_seq ?_ | with_reducible refine z_sne ?_ | with_reducible refine z_slen ?_ | with_reducible refine z_eqp ?_ | with_reducible refine z_eqn ?_ | with_reducible refine z_cv ?_ | refine z_of R4 ?_ | refine z_of ly ?_
    have goal : ∀ h7, TO τ h7 { T with cs := dropC T.cs k r, rs := dropR T.rs r k, n := T.n - 1 } → Fr (W8 τ) h h7 → Dels bk2 h h7 x.m r → Dels sk h h7 y.m k → K (.tup []) h7 = true := kk
    by_cases e : (dlG y.ofs k).length = 0
    · refine z_ct (decide_eq_true (by omega)) ?_
      repeat first | with_reducible refine z_nil ?_ | with_reducible refine z_fadr ?_ | with_reducible refine z_some ?_ | with_reducible refine z_ext0 ?_ | with_reducible refine z_ext1 ?_ | with_reducible refine z_notT ?_ | with_reducible refine z_notF ?_ | with_reducible refine z_cT ?_ | with_reducible refine z_cF ?_ | with_reducible refine z_gtt ?_ | with_reducible refine z_gff ?_ | with_reducible refine z_gtf ?_ | with_reducible refine z_gft ?_ | with_reducible refine z_ptt ?_ | with_reducible refine z_pff ?_ | with_reducible refine z_ptf ?_ | with_reducible refine z_pft ?_ | with_reducible refine z_rtt ?_ | with_reducible refine z_rff ?_ | with_reducible refine z_rtf ?_ | with_reducible refine z_rft ?_ | with_reducible refine z_kt ?_ | with_reducible refine z_kf ?_ | with_reducible refine z_lss ?_ | with_reducible refine z_gtr ?_ | with_reducible refine z_leq ?_ | with_reducible refine z_geq ?_ | with_reducible refine z_eql ?_ | with_reducible refine z_neq ?_ | with_reducible refine z_seq ?_ | with_reducible refine z_sne ?_ | with_reducible refine z_slen ?_ | with_reducible refine z_eqp ?_ | with_reducible refine z_eqn ?_ | with_reducible refine z_cv ?_ | refine z_of O6.l1 ?_ | refine z_of A2 ?_
      obtain ⟨h7, j1, j2, j3, j4, j5⟩ := O6.rs.del bks r
      refine z_u j1 ?_
      have O7 := O6.delr (Fr.of_but rfl j2) (j4 O6.ok) j5
      refine goal h7 ?_ (f6.trans (Fr.of_but (by show (τ T.rm).own; rw [O.tr]; trivial) j2)) (dels_mid D1 (fun o e => e) fun o e => j2.keep _ _ nxr e) (dels_mid D2 (fun o e => e) fun o e => j2.keep _ _ nyr e)
      have : dropR T.rs r k = dlG (upG T.rs r { y with ofs := dlG y.ofs k }) r := by
        rw [dlG_up O.rk]; unfold dropR dropG; rw [hy]; simp only; rw [if_pos e]
      rw [this]; exact O7
    · refine z_cf (decide_eq_false (by omega)) ?_
      refine goal h6 ?_ f6 D1 D2
      have : dropR T.rs r k = upG T.rs r { y with ofs := dlG y.ofs k } := by
        unfold dropR dropG; rw [hy]; simp only; rw [if_neg e]; rfl
      rw [this]; exact O6
  repeat first | with_reducible refine z_nil ?_ | with_reducible refine z_fadr ?_ | with_reducible refine z_some ?_ | with_reducible refine z_ext0 ?_ | with_reducible refine z_ext1 ?_ | with_reducible refine z_notT ?_ | with_reducible refine z_notF ?_ | with_reducible refine z_cT ?_ | with_reducible refine z_cF ?_ | with_reducible refine z_gtt ?_ | with_reducible refine z_gff ?_ | with_reducible refine z_gtf ?_ | with_reducible refine z_gft ?_ | with_reducible refine z_ptt ?_ | with_reducible refine z_pff ?_ | with_reducible refine z_ptf ?_ | with_reducible refine z_pft ?_ | with_reducible refine z_rtt ?_ | with_reducible refine z_rff ?_ | with_reducible refine z_rtf ?_ | with_reducible refine z_rft ?_ | with_reducible refine z_kt ?_ | with_reducible refine z_kf ?_ | with_reducible refine z_lss ?_ | with_reducible refine z_gtr ?_ | with_reducible refine z_leq ?_ | with_reducible refine z_geq ?_ | with_reducible refine z_eql ?_ | with_reducible refine z_neq ?_ | with_reducible refine z_seq ?_ | with_reducible refine z_sne ?_ | with_reducible refine z_slen ?_ | with_reducible refine z_eqp ?_ | with_reducible refine z_eqn ?_ | with_reducible refine z_cv ?_ | refine z_of C3 ?_ | refine z_of lx ?_
  by_cases e : (dlG x.bys r).length = 0
  · refine z_ct (decide_eq_true (by omega)) ?_
    repeat first | with_reducible refine z_nil ?_ | with_reducible refine z_fadr ?_ | with_reducible refine z_some ?_ | with_reducible refine z_ext0 ?_ | with_reducible refine z_ext1 ?_ | with_reducible refine z_notT ?_ | with_reducible refine z_notF ?_ | with_reducible refine z_cT ?_ | with_reducible refine z_cF ?_ | with_reducible refine z_gtt ?_ | with_reducible refine z_gff ?_ | with_reducible refine z_gtf ?_ | with_reducible refine z_gft ?_ | with_reducible refine z_ptt ?_ | with_reducible refine z_pff ?_ | with_reducible refine z_ptf ?_ | with_reducible refine z_pft ?_ | with_reducible refine z_rtt ?_ | with_reducible refine z_rff ?_ | with_reducible refine z_rtf ?_ | with_reducible refine z_rft ?_ | with_reducible refine z_kt ?_ | with_reducible refine z_kf ?_ | with_reducible refine z_lss ?_ | with_reducible refine z_gtr ?_ | with_reducible refine z_leq ?_ | with_reducible refine z_geq ?_ | with_reducible refine z_eql ?_ | with_reducible refine z_neq ?_ | with_reducible refine z_seq ?_ | with_reducible refine z_sne ?_ | with_reducible refine z_slen ?_ | with_reducible refine z_eqp ?_ | with_reducible refine z_eqn ?_ | with_reducible refine z_cv ?_ | refine z_of O5.l0 ?_ | refine z_of A1 ?_
    obtain ⟨h6, j1, j2, j3, j4, j5⟩ := O5.cs.del sks k
    refine z_u j1 ?_
    have O6 := O5.delc (Fr.of_but rfl j2) (j4 o5) j5
    refine end2 h6 ?_ (f5.trans (Fr.of_but (by show (τ T.cm).own; rw [O.tc]; trivial) j2)) (dels_mid D1 (fun o e => e) fun o e => j2.keep _ _ nxc e) (dels_mid D2 (fun o e => e) fun o e => j2.keep _ _ nyc e) (j2.var U1 (show h.sz ≠ T.cm by omega)) (j2.var V2 (show h1.sz ≠ T.cm by omega))
    have : dropC T.cs k r = dlG (upG T.cs k { x with bys := dlG x.bys r }) k := by
      rw [dlG_up O.ck]; unfold dropC dropG; rw [hx]; simp only; rw [if_pos e]
    rw [this]; exact O6
  · refine z_cf (decide_eq_false (by omega)) ?_
    refine end2 h5 ?_ f5 D1 D2 U1 V2
    have : dropC T.cs k r = upG T.cs k { x with bys := dlG x.bys r } := by
      unfold dropC dropG; rw [hx]; simp only; rw [if_neg e]; rfl
    rw [this]; exact O5
end
end Go.Proofs.Ytbamgdknkhhikaa
