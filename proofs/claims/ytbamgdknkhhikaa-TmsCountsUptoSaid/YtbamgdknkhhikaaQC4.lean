/-
  Texts that the claim hangs on, part 5.
-/
import Derived.Test.YtbamgdknkhhikaaQC3
namespace Go.Proofs.Ytbamgdknkhhikaa
open Go.Ab
set_option linter.unusedSimpArgs false
set_option linter.unusedVariables false
def rng (x : Int) : Prop := -9223372036854775808 ≤ x ∧ x ≤ 9223372036854775807
def byt (s : Str) : Prop := ∀ b ∈ s, b < 256
structure Elm where
  hd : Int
  st : Int
  vs : List Val
structure Mch where
  core : Int
  els : List Elm
  env : List (Str × Val)
structure Stp where
  op : Int
  cls : Str
  vs : List Val
  m : Mch
  live : List Int
def REl : Rd Elm := fun h a e => ∃ vv, a = [.int .i64 e.hd, .int .i64 e.st, vv] ∧ VV h vv e.vs ∧ rng e.hd ∧ rng e.st
def RPr : Rd (Str × Val) := fun h a p => ∃ c, a = .str p.1 :: c ∧ RV h c p.2 ∧ byt p.1
def EV (h : AHeap) (v : AV) (l : List Elm) : Prop := ∃ es, View h 3 v es ∧ All2 (REl h) es l
def PV (h : AHeap) (v : AV) (l : List (Str × Val)) : Prop := ∃ es, View h 6 v es ∧ All2 (RPr h) es l
def ints (l : List Int) : List (List AV) := l.map fun x => [AV.int .i64 x]
def RSt : Rd Stp := fun h a s => ∃ vv ev nv lv, a = [.int .i64 s.op, .str s.cls, vv, .int .i64 s.m.core, ev, nv, lv] ∧ VV h vv s.vs ∧ EV h ev s.m.els ∧ PV h nv s.m.env ∧ View h 1 lv (ints s.live) ∧ rng s.m.core ∧ byt s.cls ∧ ∀ x ∈ s.live, rng x
def SV (h : AHeap) (v : AV) (l : List Stp) : Prop := ∃ es, View h 7 v es ∧ All2 (RSt h) es l
def szEl (e : Elm) : Nat := szVs e.vs + 1
def szPr (p : Str × Val) : Nat := p.1.length + szV p.2 + 1
def szSt (s : Stp) : Nat := s.cls.length + szVs s.vs + szL szEl s.m.els + szL szPr s.m.env + s.live.length + 1
theorem REl.ext {h h' : AHeap} {a : List AV} {e : Elm} (H : REl h a e) (x : Ext h h') : REl h' a e := let ⟨vv, h1, h2, h3⟩ := H; ⟨vv, h1, h2.ext x, h3⟩
theorem RPr.ext {h h' : AHeap} {a : List AV} {p : Str × Val} (H : RPr h a p) (x : Ext h h') : RPr h' a p := let ⟨c, h1, h2, h3⟩ := H; ⟨c, h1, RV.ext x h2, h3⟩
theorem EV.ext {h h' : AHeap} {v : AV} {l : List Elm} (H : EV h v l) (x : Ext h h') : EV h' v l := let ⟨es, h1, h2⟩ := H; ⟨es, h1.ext x, h2.mono fun _ _ r => r.ext x⟩
theorem PV.ext {h h' : AHeap} {v : AV} {l : List (Str × Val)} (H : PV h v l) (x : Ext h h') : PV h' v l := let ⟨es, h1, h2⟩ := H; ⟨es, h1.ext x, h2.mono fun _ _ r => r.ext x⟩
theorem RSt.ext {h h' : AHeap} {a : List AV} {s : Stp} (H : RSt h a s) (x : Ext h h') : RSt h' a s := let ⟨vv, ev, nv, lv, h1, h2, h3, h4, h5, h6⟩ := H; ⟨vv, ev, nv, lv, h1, h2.ext x, h3.ext x, h4.ext x, h5.ext x, h6⟩
theorem SV.ext {h h' : AHeap} {v : AV} {l : List Stp} (H : SV h v l) (x : Ext h h') : SV h' v l := let ⟨es, h1, h2⟩ := H; ⟨es, h1.ext x, h2.mono fun _ _ r => r.ext x⟩
theorem SV.len {h : AHeap} {v : AV} {l : List Stp} (H : SV h v l) : lenA h 1 v = some (.int .i64 (l.length : Int)) := by
  obtain ⟨es, h1, h2⟩ := H; rw [h1.len, h2.length]
theorem EV.len {h : AHeap} {v : AV} {l : List Elm} (H : EV h v l) : lenA h 1 v = some (.int .i64 (l.length : Int)) := by
  obtain ⟨es, h1, h2⟩ := H; rw [h1.len, h2.length]
theorem EV.leaf {h : AHeap} {v : AV} {l : List Elm} (V : EV h v l) : v.leaf = true := by obtain ⟨es, h1, _⟩ := V; exact h1.leaf
theorem PV.leaf {h : AHeap} {v : AV} {l : List (Str × Val)} (V : PV h v l) : v.leaf = true := by obtain ⟨es, h1, _⟩ := V; exact h1.leaf
theorem _root_.Go.Ab.VV.sm {h : AHeap} {v : AV} {l : List Val} (V : VV h v l) : AV.same v v = true := by obtain ⟨es, h1, _⟩ := V; exact h1.same
theorem EV.same {h : AHeap} {v : AV} {l : List Elm} (V : EV h v l) : AV.same v v = true := by obtain ⟨es, h1, _⟩ := V; exact h1.same
theorem PV.same {h : AHeap} {v : AV} {l : List (Str × Val)} (V : PV h v l) : AV.same v v = true := by obtain ⟨es, h1, _⟩ := V; exact h1.same
theorem SV.at {h : AHeap} {v : AV} {l : List Stp} (V : SV h v l) {i : Nat} {x : Stp} (hi : l[i]? = some x) :
    ∃ id g j e, (∀ k, iadrA h 7 v (.int k (i : Int)) = some (.ptr id g j 0)) ∧ (∀ ag off m, loadA h ag m (.ptr id g j off) = partA ag off m e) ∧ RSt h e x := by
  obtain ⟨es, h1, h2⟩ := V
  obtain ⟨e, he, hr⟩ := h2.get hi
  obtain ⟨id, g, j, p1, p2⟩ := h1.at1 he
  exact ⟨id, g, j, e, p1, p2, hr⟩
theorem EV.at {h : AHeap} {v : AV} {l : List Elm} (V : EV h v l) {i : Nat} {x : Elm} (hi : l[i]? = some x) :
    ∃ id g j e, (∀ k, iadrA h 3 v (.int k (i : Int)) = some (.ptr id g j 0)) ∧ (∀ ag off m, loadA h ag m (.ptr id g j off) = partA ag off m e) ∧ REl h e x := by
  obtain ⟨es, h1, h2⟩ := V
  obtain ⟨e, he, hr⟩ := h2.get hi
  obtain ⟨id, g, j, p1, p2⟩ := h1.at1 he
  exact ⟨id, g, j, e, p1, p2, hr⟩
theorem szVs_mem {l : List Val} {v : Val} (h : v ∈ l) : szV v ≤ szVs l := by rw [szVs_eq]; exact szL_mem h
theorem szVs_len (l : List Val) : l.length ≤ szVs l := by rw [szVs_eq]; exact szL_length (fun v => by cases v; simp only [szV]; omega) l
theorem szSt_pos (s : Stp) : 1 ≤ szSt s := by unfold szSt; omega
theorem szEl_pos (s : Elm) : 1 ≤ szEl s := by unfold szEl; omega
theorem addB (a b : Int) : ∃ z, binA .add (.int .i64 a) (.int .i64 b) = some (.int .i64 z) := by rw [binA_ints _ _ _ _ rfl]; exact ⟨_, rfl⟩
theorem quoB (a : Int) : ∃ z, binA .quo (.int .i64 a) (.int .i64 64) = some (.int .i64 z) := by rw [binA_ints _ _ _ _ rfl]; exact ⟨_, rfl⟩
theorem c54 : ∀ (k n : Nat) {h : AHeap} {v : AV} {l : List Val} {deep : Int} {K : Kont}, VV h v l → deep + (k : Int) = 101 → k ≤ 101 → szVs l + k ≤ n → n < lim → (∀ x, K (.int .i64 x) h = true) → callN E (n + 1) (.func 54) [v, .int .i64 deep] h K = true := by
  intro k
  induction k with
  | zero =>
    intro n h v l deep K V hd hk hn hL kk
    apply d54
    unfold s54
    refine z_gtr (z_ct (decide_eq_true (by omega)) ?_)
    exact kk _
  | succ k ih =>
    intro n h v l deep K V hd hk hn hL kk
    apply d54
    unfold s54
    refine z_gtr (z_cf (decide_eq_false (by omega)) ?_)
    unfold p54_10
    obtain ⟨n, rfl⟩ : ∃ j, n = j + 1 := ⟨n - 1, by omega⟩
    have hlen := szVs_len l
    have loop : ∀ (m i : Nat) (x : Int), i ≤ l.length → l.length - i < m → l54_16 (callN E (n + 1)) (n + 1) m v (.int .i64 deep) (.int .i64 x) (.int .i64 (i : Int)) h K = true := by
      intro m
      induction m with
      | zero => intro i x _ hm; omega
      | succ m ihm =>
        intro i x hi hm
        unfold l54_16 b54_16
        repeat first | (with_reducible first | refine z_nil ?_ | refine z_fadr ?_ | refine z_some ?_ | refine z_ext0 ?_ | refine z_ext1 ?_ | refine z_notT ?_ | refine z_notF ?_ | refine z_cT ?_ | refine z_cF ?_ | refine z_gtt ?_ | refine z_gff ?_ | refine z_gtf ?_ | refine z_gft ?_ | refine z_ptt ?_ | refine z_pff ?_ | refine z_ptf ?_ | refine z_pft ?_ | refine z_rtt ?_ | refine z_rff ?_ | refine z_rtf ?_ | refine z_rft ?_ | refine z_kt ?_ | refine z_kf ?_ | refine z_lss ?_ | refine z_gtr ?_ | refine z_leq ?_ | refine z_geq ?_ | refine z_eql ?_ | refine z_neq ?_ | refine z_seq ?_ | refine z_sne ?_ | refine z_slen ?_ | refine z_eqp ?_ | refine z_eqn ?_ | refine z_cv ?_) | refine z_of V.len ?_
        by_cases hlt : i < l.length
        · refine z_ct (decide_eq_true (by omega)) ?_
          have hci := List.getElem?_eq_getElem hlt
          obtain ⟨id, g, j, e, p1, p2, R⟩ := V.at hci
          have hmem := List.getElem_mem hlt
          obtain ⟨kk', b, nn, t, ll, hv⟩ : ∃ kk' b nn t ll, l[i] = Val.mk kk' b nn t ll := by cases h : l[i]; exact ⟨_, _, _, _, _, rfl⟩
          rw [hv] at R hmem
          obtain ⟨lv, rfl, VL, _⟩ := R.cells
          have hsz : szV (Val.mk kk' b nn t ll) ≤ szVs l := szVs_mem hmem
          simp only [szV] at hsz
          have q3 : loadA h false 1 (.ptr id g j 3) = some (.str t) := by rw [p2]; rfl
          have q4 : loadA h false 1 (.ptr id g j 4) = some lv := by rw [p2]; rfl
          obtain ⟨y0, a0⟩ := addB x 1
          obtain ⟨y1, a1⟩ := quoB (t.length : Int)
          obtain ⟨y2, a2⟩ := addB y0 y1
          have q5 := add64 (a := deep) (b := 1) (by omega) (by omega)
          repeat first | (with_reducible first | refine z_nil ?_ | refine z_fadr ?_ | refine z_some ?_ | refine z_ext0 ?_ | refine z_ext1 ?_ | refine z_notT ?_ | refine z_notF ?_ | refine z_cT ?_ | refine z_cF ?_ | refine z_gtt ?_ | refine z_gff ?_ | refine z_gtf ?_ | refine z_gft ?_ | refine z_ptt ?_ | refine z_pff ?_ | refine z_ptf ?_ | refine z_pft ?_ | refine z_rtt ?_ | refine z_rff ?_ | refine z_rtf ?_ | refine z_rft ?_ | refine z_kt ?_ | refine z_kf ?_ | refine z_lss ?_ | refine z_gtr ?_ | refine z_leq ?_ | refine z_geq ?_ | refine z_eql ?_ | refine z_neq ?_ | refine z_seq ?_ | refine z_sne ?_ | refine z_slen ?_ | refine z_eqp ?_ | refine z_eqn ?_ | refine z_cv ?_) | refine z_of a0 ?_ | refine z_of (p1 .i64) ?_ | refine z_of q3 ?_ | refine z_of a1 ?_ | refine z_of a2 ?_ | refine z_of q4 ?_ | refine z_of q5 ?_
          refine ih n VL (by omega) (by omega) (by omega) (by omega) fun z => ?_
          refine z_same (p1 .i64) (same_ptr _ _ _ _) ?_
          refine z_same q3 (same_str _) ?_
          have q6 : lenA h 0 (.str t) = some (.int .i64 (t.length : Int)) := rfl
          refine z_same q6 (same_int _ _) ?_
          obtain ⟨y3, a3⟩ := addB y2 z
          repeat first | (with_reducible first | refine z_nil ?_ | refine z_fadr ?_ | refine z_some ?_ | refine z_ext0 ?_ | refine z_ext1 ?_ | refine z_notT ?_ | refine z_notF ?_ | refine z_cT ?_ | refine z_cF ?_ | refine z_gtt ?_ | refine z_gff ?_ | refine z_gtf ?_ | refine z_gft ?_ | refine z_ptt ?_ | refine z_pff ?_ | refine z_ptf ?_ | refine z_pft ?_ | refine z_rtt ?_ | refine z_rff ?_ | refine z_rtf ?_ | refine z_rft ?_ | refine z_kt ?_ | refine z_kf ?_ | refine z_lss ?_ | refine z_gtr ?_ | refine z_leq ?_ | refine z_geq ?_ | refine z_eql ?_ | refine z_neq ?_ | refine z_seq ?_ | refine z_sne ?_ | refine z_slen ?_ | refine z_eqp ?_ | refine z_eqn ?_ | refine z_cv ?_) | refine z_of a3 ?_ | refine z_of (inc64 (i := i) (by omega)) ?_
          exact ihm (i + 1) y3 (by omega) (by omega)
        · refine z_cf (decide_eq_false (by omega)) ?_
          exact kk x
    exact loop (n + 1) 0 0 (Nat.zero_le _) (by omega)
theorem c32 {n : Nat} {h : AHeap} {v : AV} {l : List Val} {K : Kont} (V : VV h v l) (hn : szVs l + 101 ≤ n) (hL : n < lim) (k : ∀ x, K (.int .i64 x) h = true) : callN E (n + 2) (.func 32) [v] h K = true := by
  apply d32
  unfold s32
  exact c54 101 n V (by omega) (Nat.le_refl _) hn hL k
theorem c6 {n : Nat} {h : AHeap} {v : AV} {l : List Stp} {K : Kont} (ho : h.Ok) (V : SV h v l) (hn : szL szSt l + 101 ≤ n) (hL : n < lim - 5) (hlf : v.leaf = true) (k : ∀ b h', Ext h h' → h'.Ok → K (.bool b) h' = true) : callN E (n + 3) (.func 6) [.agg [v]] h K = true := by
  apply d6
  unfold s6
  obtain ⟨h1, q1, V1, e1, o1, z1⟩ := box_v (n := 1) (v := .agg [v]) ho rfl (by decide) (by simp [AV.cells, allLeaf, hlf])
  have V1 : Var h1 h.sz [v] := V1
  refine z_p q1 ?_
  have SV1 := V.ext e1
  have L0 : loadA h1 false 1 (.ptr h.sz 0 0 0) = some v := V1.get rfl
  have hll : l.length ≤ szL szSt l := szL_length szSt_pos l
  have hlm : lim = 4611686018427387904 := rfl
  have loop : ∀ (m i : Nat) (x : Int), l.length - i < m → l6_8 (callN E (n + 2)) (n + 2) m (.ptr h.sz 0 0 0) (.int .i64 x) (.int .i64 (i : Int)) h1 K = true := by
    intro m
    induction m with
    | zero => intro i x hm; omega
    | succ m ihm =>
      intro i x hm
      unfold l6_8 b6_8
      repeat first | (with_reducible first | refine z_nil ?_ | refine z_fadr ?_ | refine z_some ?_ | refine z_ext0 ?_ | refine z_ext1 ?_ | refine z_notT ?_ | refine z_notF ?_ | refine z_cT ?_ | refine z_cF ?_ | refine z_gtt ?_ | refine z_gff ?_ | refine z_gtf ?_ | refine z_gft ?_ | refine z_ptt ?_ | refine z_pff ?_ | refine z_ptf ?_ | refine z_pft ?_ | refine z_rtt ?_ | refine z_rff ?_ | refine z_rtf ?_ | refine z_rft ?_ | refine z_kt ?_ | refine z_kf ?_ | refine z_lss ?_ | refine z_gtr ?_ | refine z_leq ?_ | refine z_geq ?_ | refine z_eql ?_ | refine z_neq ?_ | refine z_seq ?_ | refine z_sne ?_ | refine z_slen ?_ | refine z_eqp ?_ | refine z_eqn ?_ | refine z_cv ?_) | refine z_of L0 ?_ | refine z_of SV1.len ?_
      have fin : condB (.bool false) (p6_15 (callN E (n + 2)) (n + 2) (fun x1 x3 x4 h => l6_8 (callN E (n + 2)) (n + 2) m x1 x3 x4 h K) (.ptr h.sz 0 0 0) (.int .i64 x) (.int .i64 (i : Int)) h1 K) (p6_34 (callN E (n + 2)) (n + 2) (.int .i64 x) h1 K) = true := by
        refine z_cF ?_
        unfold p6_34
        repeat first | (with_reducible first | refine z_nil ?_ | refine z_fadr ?_ | refine z_some ?_ | refine z_ext0 ?_ | refine z_ext1 ?_ | refine z_notT ?_ | refine z_notF ?_ | refine z_cT ?_ | refine z_cF ?_ | refine z_gtt ?_ | refine z_gff ?_ | refine z_gtf ?_ | refine z_gft ?_ | refine z_ptt ?_ | refine z_pff ?_ | refine z_ptf ?_ | refine z_pft ?_ | refine z_rtt ?_ | refine z_rff ?_ | refine z_rtf ?_ | refine z_rft ?_ | refine z_kt ?_ | refine z_kf ?_ | refine z_lss ?_ | refine z_gtr ?_ | refine z_leq ?_ | refine z_geq ?_ | refine z_eql ?_ | refine z_neq ?_ | refine z_seq ?_ | refine z_sne ?_ | refine z_slen ?_ | refine z_eqp ?_ | refine z_eqn ?_ | refine z_cv ?_)
        exact k _ h1 e1 o1
      by_cases hlt : i < l.length
      · have e1' : decide ((i : Int) < (l.length : Int)) = true := decide_eq_true (by omega)
        rw [e1']
        repeat first | (with_reducible first | refine z_nil ?_ | refine z_fadr ?_ | refine z_some ?_ | refine z_ext0 ?_ | refine z_ext1 ?_ | refine z_notT ?_ | refine z_notF ?_ | refine z_cT ?_ | refine z_cF ?_ | refine z_gtt ?_ | refine z_gff ?_ | refine z_gtf ?_ | refine z_gft ?_ | refine z_ptt ?_ | refine z_pff ?_ | refine z_ptf ?_ | refine z_pft ?_ | refine z_rtt ?_ | refine z_rff ?_ | refine z_rtf ?_ | refine z_rft ?_ | refine z_kt ?_ | refine z_kf ?_ | refine z_lss ?_ | refine z_gtr ?_ | refine z_leq ?_ | refine z_geq ?_ | refine z_eql ?_ | refine z_neq ?_ | refine z_seq ?_ | refine z_sne ?_ | refine z_slen ?_ | refine z_eqp ?_ | refine z_eqn ?_ | refine z_cv ?_) | refine z_of rfl ?_
        by_cases h60 : i < 60
        · have e2' : decide ((i : Int) < 60) = true := decide_eq_true (by omega)
          rw [e2']
          repeat first | (with_reducible first | refine z_nil ?_ | refine z_fadr ?_ | refine z_some ?_ | refine z_ext0 ?_ | refine z_ext1 ?_ | refine z_notT ?_ | refine z_notF ?_ | refine z_cT ?_ | refine z_cF ?_ | refine z_gtt ?_ | refine z_gff ?_ | refine z_gtf ?_ | refine z_gft ?_ | refine z_ptt ?_ | refine z_pff ?_ | refine z_ptf ?_ | refine z_pft ?_ | refine z_rtt ?_ | refine z_rff ?_ | refine z_rtf ?_ | refine z_rft ?_ | refine z_kt ?_ | refine z_kf ?_ | refine z_lss ?_ | refine z_gtr ?_ | refine z_leq ?_ | refine z_geq ?_ | refine z_eql ?_ | refine z_neq ?_ | refine z_seq ?_ | refine z_sne ?_ | refine z_slen ?_ | refine z_eqp ?_ | refine z_eqn ?_ | refine z_cv ?_)
          unfold p6_15
          have hci := List.getElem?_eq_getElem hlt
          obtain ⟨id, g, j, e, p1, p2, R⟩ := SV1.at hci
          obtain ⟨vv, ev, nv, lv, rfl, r1, r2, r3, r4, _⟩ := R
          have hmem := szL_mem (sz := szSt) (List.getElem_mem hlt)
          have hse : szSt l[i] = (l[i]).cls.length + szVs (l[i]).vs + szL szEl (l[i]).m.els + szL szPr (l[i]).m.env + (l[i]).live.length + 1 := rfl
          obtain ⟨y0, a0⟩ := addB x 1
          have q2 : loadA h1 false 1 (.ptr id g j 2) = some vv := by rw [p2]; rfl
          repeat first | (with_reducible first | refine z_nil ?_ | refine z_fadr ?_ | refine z_some ?_ | refine z_ext0 ?_ | refine z_ext1 ?_ | refine z_notT ?_ | refine z_notF ?_ | refine z_cT ?_ | refine z_cF ?_ | refine z_gtt ?_ | refine z_gff ?_ | refine z_gtf ?_ | refine z_gft ?_ | refine z_ptt ?_ | refine z_pff ?_ | refine z_ptf ?_ | refine z_pft ?_ | refine z_rtt ?_ | refine z_rff ?_ | refine z_rtf ?_ | refine z_rft ?_ | refine z_kt ?_ | refine z_kf ?_ | refine z_lss ?_ | refine z_gtr ?_ | refine z_leq ?_ | refine z_geq ?_ | refine z_eql ?_ | refine z_neq ?_ | refine z_seq ?_ | refine z_sne ?_ | refine z_slen ?_ | refine z_eqp ?_ | refine z_eqn ?_ | refine z_cv ?_) | refine z_of a0 ?_ | refine z_of L0 ?_ | refine z_of (p1 .i64) ?_ | refine z_of q2 ?_
          refine c32 r1 (by omega) (by omega) fun z => ?_
          obtain ⟨y1, a1⟩ := addB y0 z
          repeat first | (with_reducible first | refine z_nil ?_ | refine z_fadr ?_ | refine z_some ?_ | refine z_ext0 ?_ | refine z_ext1 ?_ | refine z_notT ?_ | refine z_notF ?_ | refine z_cT ?_ | refine z_cF ?_ | refine z_gtt ?_ | refine z_gff ?_ | refine z_gtf ?_ | refine z_gft ?_ | refine z_ptt ?_ | refine z_pff ?_ | refine z_ptf ?_ | refine z_pft ?_ | refine z_rtt ?_ | refine z_rff ?_ | refine z_rtf ?_ | refine z_rft ?_ | refine z_kt ?_ | refine z_kf ?_ | refine z_lss ?_ | refine z_gtr ?_ | refine z_leq ?_ | refine z_geq ?_ | refine z_eql ?_ | refine z_neq ?_ | refine z_seq ?_ | refine z_sne ?_ | refine z_slen ?_ | refine z_eqp ?_ | refine z_eqn ?_ | refine z_cv ?_) | refine z_of a1 ?_
          have q4 : loadA h1 false 1 (.ptr id g j 4) = some ev := by rw [p2]; rfl
          have hel : (l[i]).m.els.length ≤ szL szEl (l[i]).m.els := szL_length szEl_pos _
          have inner : ∀ (m2 i2 : Nat) (x2 : Int), (l[i]).m.els.length - i2 < m2 → l6_22 (callN E (n + 2)) (n + 2) (fun x1 x3 x4 h => l6_8 (callN E (n + 2)) (n + 2) m x1 x3 x4 h K) m2 (.ptr h.sz 0 0 0) (.int .i64 x2) (.int .i64 (i : Int)) (.int .i64 (i2 : Int)) h1 K = true := by
            intro m2
            induction m2 with
            | zero => intro i2 x2 hm2; omega
            | succ m2 ih2 =>
              intro i2 x2 hm2
              unfold l6_22 b6_22
              repeat first | (with_reducible first | refine z_nil ?_ | refine z_fadr ?_ | refine z_some ?_ | refine z_ext0 ?_ | refine z_ext1 ?_ | refine z_notT ?_ | refine z_notF ?_ | refine z_cT ?_ | refine z_cF ?_ | refine z_gtt ?_ | refine z_gff ?_ | refine z_gtf ?_ | refine z_gft ?_ | refine z_ptt ?_ | refine z_pff ?_ | refine z_ptf ?_ | refine z_pft ?_ | refine z_rtt ?_ | refine z_rff ?_ | refine z_rtf ?_ | refine z_rft ?_ | refine z_kt ?_ | refine z_kf ?_ | refine z_lss ?_ | refine z_gtr ?_ | refine z_leq ?_ | refine z_geq ?_ | refine z_eql ?_ | refine z_neq ?_ | refine z_seq ?_ | refine z_sne ?_ | refine z_slen ?_ | refine z_eqp ?_ | refine z_eqn ?_ | refine z_cv ?_) | refine z_of L0 ?_ | refine z_of (p1 .i64) ?_ | refine z_fadrN (d := 3) (f := 1) (g := 4) rfl ?_ | refine z_of q4 ?_ | refine z_of r2.len ?_
              by_cases hl2 : i2 < (l[i]).m.els.length
              · refine z_ct (decide_eq_true (by omega)) ?_
                obtain ⟨id', g', j', e', p1', p2', R'⟩ := r2.at (List.getElem?_eq_getElem hl2)
                obtain ⟨vv', rfl, w1, _⟩ := R'
                have hme := szL_mem (sz := szEl) (List.getElem_mem hl2)
                have hee : szEl (l[i]).m.els[i2] = szVs ((l[i]).m.els[i2]).vs + 1 := rfl
                have q2' : loadA h1 false 1 (.ptr id' g' j' 2) = some vv' := by rw [p2']; rfl
                obtain ⟨y2, a2⟩ := addB x2 1
                repeat first | (with_reducible first | refine z_nil ?_ | refine z_fadr ?_ | refine z_some ?_ | refine z_ext0 ?_ | refine z_ext1 ?_ | refine z_notT ?_ | refine z_notF ?_ | refine z_cT ?_ | refine z_cF ?_ | refine z_gtt ?_ | refine z_gff ?_ | refine z_gtf ?_ | refine z_gft ?_ | refine z_ptt ?_ | refine z_pff ?_ | refine z_ptf ?_ | refine z_pft ?_ | refine z_rtt ?_ | refine z_rff ?_ | refine z_rtf ?_ | refine z_rft ?_ | refine z_kt ?_ | refine z_kf ?_ | refine z_lss ?_ | refine z_gtr ?_ | refine z_leq ?_ | refine z_geq ?_ | refine z_eql ?_ | refine z_neq ?_ | refine z_seq ?_ | refine z_sne ?_ | refine z_slen ?_ | refine z_eqp ?_ | refine z_eqn ?_ | refine z_cv ?_) | refine z_of a2 ?_ | refine z_of L0 ?_ | refine z_of (p1 .i64) ?_ | refine z_fadrN (d := 3) (f := 1) (g := 4) rfl ?_ | refine z_of q4 ?_ | refine z_of (p1' .i64) ?_ | refine z_of q2' ?_
                refine c32 w1 (by omega) (by omega) fun z => ?_
                obtain ⟨y3, a3⟩ := addB y2 z
                repeat first | (with_reducible first | refine z_nil ?_ | refine z_fadr ?_ | refine z_some ?_ | refine z_ext0 ?_ | refine z_ext1 ?_ | refine z_notT ?_ | refine z_notF ?_ | refine z_cT ?_ | refine z_cF ?_ | refine z_gtt ?_ | refine z_gff ?_ | refine z_gtf ?_ | refine z_gft ?_ | refine z_ptt ?_ | refine z_pff ?_ | refine z_ptf ?_ | refine z_pft ?_ | refine z_rtt ?_ | refine z_rff ?_ | refine z_rtf ?_ | refine z_rft ?_ | refine z_kt ?_ | refine z_kf ?_ | refine z_lss ?_ | refine z_gtr ?_ | refine z_leq ?_ | refine z_geq ?_ | refine z_eql ?_ | refine z_neq ?_ | refine z_seq ?_ | refine z_sne ?_ | refine z_slen ?_ | refine z_eqp ?_ | refine z_eqn ?_ | refine z_cv ?_) | refine z_of a3 ?_ | refine z_of (inc64 (i := i2) (by omega)) ?_
                exact ih2 (i2 + 1) y3 (by omega)
              · refine z_cf (decide_eq_false (by omega)) ?_
                unfold p6_33
                repeat first | (with_reducible first | refine z_nil ?_ | refine z_fadr ?_ | refine z_some ?_ | refine z_ext0 ?_ | refine z_ext1 ?_ | refine z_notT ?_ | refine z_notF ?_ | refine z_cT ?_ | refine z_cF ?_ | refine z_gtt ?_ | refine z_gff ?_ | refine z_gtf ?_ | refine z_gft ?_ | refine z_ptt ?_ | refine z_pff ?_ | refine z_ptf ?_ | refine z_pft ?_ | refine z_rtt ?_ | refine z_rff ?_ | refine z_rtf ?_ | refine z_rft ?_ | refine z_kt ?_ | refine z_kf ?_ | refine z_lss ?_ | refine z_gtr ?_ | refine z_leq ?_ | refine z_geq ?_ | refine z_eql ?_ | refine z_neq ?_ | refine z_seq ?_ | refine z_sne ?_ | refine z_slen ?_ | refine z_eqp ?_ | refine z_eqn ?_ | refine z_cv ?_) | refine z_of (inc64 (i := i) (by omega)) ?_
                exact ihm (i + 1) x2 (by omega)
          exact inner (n + 2) 0 y1 (by omega)
        · have e2' : decide ((i : Int) < 60) = false := decide_eq_false (by omega)
          rw [e2']
          repeat first | (with_reducible first | refine z_nil ?_ | refine z_fadr ?_ | refine z_some ?_ | refine z_ext0 ?_ | refine z_ext1 ?_ | refine z_notT ?_ | refine z_notF ?_ | refine z_cT ?_ | refine z_cF ?_ | refine z_gtt ?_ | refine z_gff ?_ | refine z_gtf ?_ | refine z_gft ?_ | refine z_ptt ?_ | refine z_pff ?_ | refine z_ptf ?_ | refine z_pft ?_ | refine z_rtt ?_ | refine z_rff ?_ | refine z_rtf ?_ | refine z_rft ?_ | refine z_kt ?_ | refine z_kf ?_ | refine z_lss ?_ | refine z_gtr ?_ | refine z_leq ?_ | refine z_geq ?_ | refine z_eql ?_ | refine z_neq ?_ | refine z_seq ?_ | refine z_sne ?_ | refine z_slen ?_ | refine z_eqp ?_ | refine z_eqn ?_ | refine z_cv ?_)
          exact fin
      · have e1' : decide ((i : Int) < (l.length : Int)) = false := decide_eq_false (by omega)
        rw [e1']
        repeat first | (with_reducible first | refine z_nil ?_ | refine z_fadr ?_ | refine z_some ?_ | refine z_ext0 ?_ | refine z_ext1 ?_ | refine z_notT ?_ | refine z_notF ?_ | refine z_cT ?_ | refine z_cF ?_ | refine z_gtt ?_ | refine z_gff ?_ | refine z_gtf ?_ | refine z_gft ?_ | refine z_ptt ?_ | refine z_pff ?_ | refine z_ptf ?_ | refine z_pft ?_ | refine z_rtt ?_ | refine z_rff ?_ | refine z_rtf ?_ | refine z_rft ?_ | refine z_kt ?_ | refine z_kf ?_ | refine z_lss ?_ | refine z_gtr ?_ | refine z_leq ?_ | refine z_geq ?_ | refine z_eql ?_ | refine z_neq ?_ | refine z_seq ?_ | refine z_sne ?_ | refine z_slen ?_ | refine z_eqp ?_ | refine z_eqn ?_ | refine z_cv ?_)
        exact fin
  exact loop (n + 2) 0 0 (by omega)
end Go.Proofs.Ytbamgdknkhhikaa
namespace Go.Proofs.Ytbamgdknkhhikaa
open Go.Ab
set_option linter.unusedSimpArgs false
set_option linter.unusedVariables false
section
variable {κ β γ : Type} [DecidableEq κ]
def lkG : List (κ × β) → κ → Option β
  | [], _ => none
  | p :: t, k => if k = p.1 then some p.2 else lkG t k
def upG : List (κ × β) → κ → β → List (κ × β)
  | [], k, v => [(k, v)]
  | p :: t, k, v => if k = p.1 then (k, v) :: t else p :: upG t k v
def dlG : List (κ × β) → κ → List (κ × β)
  | [], _ => []
  | p :: t, k => if k = p.1 then t else p :: dlG t k
def mp (f : β → γ) (l : List (κ × β)) : List (κ × γ) := l.map fun p => (p.1, f p.2)
theorem lkG_mp (f : β → γ) (k : κ) : ∀ (l : List (κ × β)), lkG (mp f l) k = (lkG l k).map f
  | [] => rfl
  | p :: t => by
    show (if k = p.1 then some (f p.2) else lkG (mp f t) k) = _
    simp only [lkG]
    by_cases e : k = p.1
    · rw [if_pos e, if_pos e]; rfl
    · rw [if_neg e, if_neg e, lkG_mp f k t]
theorem upG_mp (f : β → γ) (k : κ) (v : β) : ∀ (l : List (κ × β)), mp f (upG l k v) = upG (mp f l) k (f v)
  | [] => rfl
  | p :: t => by
    show _ = (if k = p.1 then (k, f v) :: mp f t else (p.1, f p.2) :: upG (mp f t) k (f v))
    simp only [upG]
    by_cases e : k = p.1
    · rw [if_pos e, if_pos e]; rfl
    · rw [if_neg e, if_neg e, ← upG_mp f k v t]; rfl
theorem dlG_mp (f : β → γ) (k : κ) : ∀ (l : List (κ × β)), mp f (dlG l k) = dlG (mp f l) k
  | [] => rfl
  | p :: t => by
    show _ = (if k = p.1 then mp f t else (p.1, f p.2) :: dlG (mp f t) k)
    simp only [dlG]
    by_cases e : k = p.1
    · rw [if_pos e, if_pos e]
    · rw [if_neg e, if_neg e, ← dlG_mp f k t]; rfl
theorem lk_G (k : κ) : ∀ (l : List (κ × AV)), lk l k = lkG l k
  | [] => rfl
  | p :: t => by simp only [lk, lkG, lk_G k t]
theorem up_G (k : κ) (v : AV) : ∀ (l : List (κ × AV)), up l k v = upG l k v
  | [] => rfl
  | p :: t => by simp only [up, upG, up_G k v t]
theorem dl_G (k : κ) : ∀ (l : List (κ × AV)), dl l k = dlG l k
  | [] => rfl
  | p :: t => by simp only [dl, dlG, dl_G k t]
theorem upG_none {k : κ} {v : β} : ∀ {l : List (κ × β)}, lkG l k = none → upG l k v = l ++ [(k, v)]
  | [], _ => rfl
  | p :: t, h => by
    simp only [lkG] at h
    simp only [upG]
    by_cases e : k = p.1
    · rw [if_pos e] at h; cases h
    · rw [if_neg e] at h ⊢
      rw [upG_none h]; rfl
theorem upG_keys {k : κ} {v u : β} : ∀ {l : List (κ × β)}, lkG l k = some u → (upG l k v).map (fun p => p.1) = l.map fun p => p.1
  | [], h => by cases h
  | p :: t, h => by
    simp only [lkG] at h
    simp only [upG]
    by_cases e : k = p.1
    · rw [if_pos e]; simp [e]
    · rw [if_neg e] at h ⊢
      simp only [List.map_cons, upG_keys h]
theorem upG_mem {k : κ} {v : β} : ∀ {l : List (κ × β)} {x : κ × β}, x ∈ upG l k v → x = (k, v) ∨ x ∈ l
  | [], x, h => .inl (List.mem_singleton.1 h)
  | p :: t, x, h => by
    simp only [upG] at h
    by_cases e : k = p.1
    · rw [if_pos e] at h
      rcases List.mem_cons.1 h with h | h
      · exact .inl h
      · exact .inr (List.mem_cons_of_mem _ h)
    · rw [if_neg e] at h
      rcases List.mem_cons.1 h with h | h
      · exact .inr (by rw [h]; exact List.mem_cons_self)
      · rcases upG_mem h with h | h
        · exact .inl h
        · exact .inr (List.mem_cons_of_mem _ h)
theorem dlG_sub {k : κ} : ∀ {l : List (κ × β)}, (dlG l k).Sublist l
  | [] => .slnil
  | p :: t => by
    simp only [dlG]
    by_cases e : k = p.1
    · rw [if_pos e]; exact List.sublist_cons_self _ _
    · rw [if_neg e]; exact dlG_sub.cons_cons _
theorem lkG_mem {k : κ} {u : β} : ∀ {l : List (κ × β)}, lkG l k = some u → (k, u) ∈ l
  | [], h => by cases h
  | p :: t, h => by
    simp only [lkG] at h
    by_cases e : k = p.1
    · rw [if_pos e] at h
      cases h; rw [e]; exact List.mem_cons_self
    · rw [if_neg e] at h
      exact List.mem_cons_of_mem _ (lkG_mem h)
theorem lkG_of_mem {k : κ} {u : β} : ∀ {l : List (κ × β)}, (l.map fun p => p.1).Nodup → (k, u) ∈ l → lkG l k = some u
  | [], _, h => by cases h
  | p :: t, hn, h => by
    simp only [List.map_cons, List.nodup_cons] at hn
    simp only [lkG]
    rcases List.mem_cons.1 h with h | h
    · rw [← h]; simp
    · by_cases e : k = p.1
      · exact absurd (List.mem_map.2 ⟨_, h, e⟩) hn.1
      · rw [if_neg e]; exact lkG_of_mem hn.2 h
theorem lkG_none {k : κ} : ∀ {l : List (κ × β)}, lkG l k = none ↔ k ∉ l.map fun p => p.1
  | [] => by simp [lkG]
  | p :: t => by
    simp only [lkG, List.map_cons, List.mem_cons, not_or]
    by_cases e : k = p.1
    · simp [e]
    · rw [if_neg e, lkG_none (l := t)]; simp [e]
theorem lkG_up {k j : κ} {v : β} : ∀ {l : List (κ × β)}, lkG (upG l k v) j = if j = k then some v else lkG l j
  | [] => rfl
  | p :: t => by
    simp only [upG]
    by_cases e : k = p.1
    · rw [if_pos e]
      simp only [lkG, ← e]
      by_cases e2 : j = k
      · rw [if_pos e2, if_pos e2]
      · rw [if_neg e2, if_neg e2, if_neg e2]
    · rw [if_neg e]
      simp only [lkG]
      by_cases e2 : j = p.1
      · rw [if_pos e2, if_neg (fun q => e (q.symm.trans e2)), if_pos e2]
      · rw [if_neg e2, lkG_up (l := t), if_neg e2]
theorem lkG_dl {k j : κ} : ∀ {l : List (κ × β)}, (l.map fun p => p.1).Nodup → lkG (dlG l k) j = if j = k then none else lkG l j
  | [], _ => by simp [dlG, lkG]
  | p :: t, hn => by
    simp only [List.map_cons, List.nodup_cons] at hn
    simp only [dlG]
    by_cases e : k = p.1
    · rw [if_pos e]
      simp only [lkG, ← e]
      by_cases e2 : j = k
      · rw [if_pos e2, lkG_none, e2, e]; exact hn.1
      · rw [if_neg e2, if_neg e2]
    · rw [if_neg e]
      simp only [lkG]
      by_cases e2 : j = p.1
      · rw [if_pos e2, if_neg (fun q => e (q.symm.trans e2)), if_pos e2]
      · rw [if_neg e2, lkG_dl hn.2, if_neg e2]
theorem upG_nodup {k : κ} {v : β} : ∀ {l : List (κ × β)}, (l.map fun p => p.1).Nodup → ((upG l k v).map fun p => p.1).Nodup
  | l, hn => by
    cases h : lkG l k with
    | some u => rw [upG_keys h]; exact hn
    | none =>
      rw [upG_none h, List.map_append, List.nodup_append]
      refine ⟨hn, by simp, fun a ha b hb => ?_⟩
      rw [lkG_none] at h
      simp only [List.map_cons, List.map_nil, List.mem_singleton] at hb
      subst hb
      exact fun q => h (by rw [← q]; exact ha)
theorem dlG_nodup {k : κ} {l : List (κ × β)} (hn : (l.map fun p => p.1).Nodup) : ((dlG l k).map fun p => p.1).Nodup := hn.sublist (dlG_sub.map _)
end
section
variable {κ β : Type} [DecidableEq κ]
theorem upG_same {k : κ} {u : β} : ∀ {l : List (κ × β)}, lkG l k = some u → upG l k u = l
  | [], h => by cases h
  | p :: t, h => by
    simp only [lkG] at h
    simp only [upG]
    by_cases e : k = p.1
    · rw [if_pos e] at h ⊢
      cases h; subst e; rfl
    · rw [if_neg e] at h ⊢
      rw [upG_same h]
theorem dlG_up {k : κ} {v : β} : ∀ {l : List (κ × β)}, (l.map fun p => p.1).Nodup → dlG (upG l k v) k = dlG l k
  | [], _ => by simp [upG, dlG]
  | p :: t, hn => by
    simp only [List.map_cons, List.nodup_cons] at hn
    simp only [upG]
    by_cases e : k = p.1
    · rw [if_pos e]; simp only [dlG, if_true, if_pos e]
    · rw [if_neg e]; simp only [dlG, if_neg e]; rw [dlG_up hn.2]
theorem dlG_len {k : κ} {u : β} : ∀ {l : List (κ × β)}, lkG l k = some u → (dlG l k).length + 1 = l.length
  | [], h => by cases h
  | p :: t, h => by
    simp only [lkG] at h
    simp only [dlG]
    by_cases e : k = p.1
    · rw [if_pos e]; rfl
    · rw [if_neg e] at h ⊢
      simp only [List.length_cons]
      rw [dlG_len h]
theorem upG_length {k : κ} {u v : β} {l : List (κ × β)} (h : lkG l k = some u) : (upG l k v).length = l.length := by
  have := congrArg List.length (upG_keys (v := v) h)
  simpa using this
theorem upG_up {k : κ} {u v : β} : ∀ {l : List (κ × β)}, upG (upG l k u) k v = upG l k v
  | [] => by simp [upG]
  | p :: t => by
    simp only [upG]
    by_cases e : k = p.1
    · rw [if_pos e, if_pos e]; simp [upG]
    · rw [if_neg e, if_neg e]
      simp only [upG, if_neg e]
      rw [upG_up]
omit [DecidableEq κ] in
theorem mp_keys {γ : Type} (f : β → γ) (l : List (κ × β)) : (mp f l).map (fun p => p.1) = l.map fun p => p.1 := by simp [mp, List.map_map, Function.comp_def]
end
end Go.Proofs.Ytbamgdknkhhikaa
namespace Go.Proofs.Ytbamgdknkhhikaa
open Go.Ab
set_option linter.unusedSimpArgs false
set_option linter.unusedVariables false
structure CD where
  id : Nat
  m : Nat
  cls : Str
  vals : AV
  came : Nat
  bys : List (BK × Unit)
structure RD where
  id : Nat
  m : Nat
  core : Int
  els : AV
  env : AV
  came : Nat
  ofs : List (SK × Unit)
structure TD where
  p : Nat
  cm : Nat
  rm : Nat
  cs : List (SK × CD)
  rs : List (BK × RD)
  came : Nat
  n : Nat
inductive Tag where
  | out | dat | p | cm | rm
  | c (k : SK)
  | b (k : SK)
  | r (k : BK)
  | o (k : BK)
def Tag.own : Tag → Prop
  | .out => False
  | .dat => False
  | _ => True
abbrev W8 (τ : Nat → Tag) : Nat → Prop := fun j => (τ j).own
def one {κ : Type} (l : List (κ × Unit)) : List (κ × AV) := mp (fun _ => .agg []) l
structure CO (τ : Nat → Tag) (h : AHeap) (k : SK) (x : CD) : Prop where
  tid : τ x.id = .c k
  tm : τ x.m = .b k
  row : Var h x.id [.str x.cls, x.vals, .int .i64 (x.came : Int), .map x.m]
  map : KMap bk2 h x.m (one x.bys)
  sm : AV.same x.vals x.vals = true
structure RO (τ : Nat → Tag) (h : AHeap) (k : BK) (x : RD) : Prop where
  tid : τ x.id = .r k
  tm : τ x.m = .o k
  row : Var h x.id [.int .i64 x.core, x.els, x.env, .int .i64 (x.came : Int), .map x.m]
  map : KMap sk h x.m (one x.ofs)
structure TO (τ : Nat → Tag) (h : AHeap) (T : TD) : Prop where
  ok : h.Ok
  hi : ∀ j, h.sz ≤ j → τ j = .out
  tp : τ T.p = .p
  tc : τ T.cm = .cm
  tr : τ T.rm = .rm
  var : Var h T.p [.map T.cm, .map T.rm, .int .i64 (T.came : Int), .int .i64 (T.n : Int)]
  cs : KMap sk h T.cm (mp (fun x => .ptr x.id 0 0 0) T.cs)
  rs : KMap bk2 h T.rm (mp (fun x => .ptr x.id 0 0 0) T.rs)
  c : ∀ k x, (k, x) ∈ T.cs → CO τ h k x
  r : ∀ k x, (k, x) ∈ T.rs → RO τ h k x
section
variable {τ τ' : Nat → Tag} {h h' : AHeap} {T : TD} {X : Nat → Prop}
theorem TO.ck (O : TO τ h T) : (T.cs.map fun p => p.1).Nodup := by have := O.cs.keys; rwa [mp_keys] at this
theorem TO.rk (O : TO τ h T) : (T.rs.map fun p => p.1).Nodup := by have := O.rs.keys; rwa [mp_keys] at this
theorem CO.fr {k : SK} {x : CD} (C : CO τ h k x) (f : Fr X h h') (h1 : ∀ j, X j → τ j ≠ .c k) (h2 : ∀ j, X j → τ j ≠ .b k) (ht : ∀ j, τ j ≠ .out → τ' j = τ j) : CO τ' h' k x :=
  ⟨by rw [ht _ (by rw [C.tid]; exact fun e => by cases e)]; exact C.tid, by rw [ht _ (by rw [C.tm]; exact fun e => by cases e)]; exact C.tm, f.var C.row fun e => h1 _ e C.tid, f.kmap C.map fun e => h2 _ e C.tm, C.sm⟩
theorem RO.fr {k : BK} {x : RD} (C : RO τ h k x) (f : Fr X h h') (h1 : ∀ j, X j → τ j ≠ .r k) (h2 : ∀ j, X j → τ j ≠ .o k) (ht : ∀ j, τ j ≠ .out → τ' j = τ j) : RO τ' h' k x :=
  ⟨by rw [ht _ (by rw [C.tid]; exact fun e => by cases e)]; exact C.tid, by rw [ht _ (by rw [C.tm]; exact fun e => by cases e)]; exact C.tm, f.var C.row fun e => h1 _ e C.tid, f.kmap C.map fun e => h2 _ e C.tm⟩
theorem TO.fr (O : TO τ h T) (f : Fr X h h') (o : h'.Ok) (hx : ∀ j, X j → ¬ (τ j).own) : TO τ h' T := by
  have no : ∀ {j t}, τ j = t → t.own → ¬ X j := fun e w x => hx _ x (by rw [e]; exact w)
  have no' : ∀ {t : Tag}, t.own → ∀ j, X j → τ j ≠ t := fun w j x e => hx j x (by rw [e]; exact w)
  exact ⟨o, fun j hj => O.hi j (Nat.le_trans f.sz hj), O.tp, O.tc, O.tr, f.var O.var (no O.tp trivial), f.kmap O.cs (no O.tc trivial), f.kmap O.rs (no O.tr trivial),
    fun k x hx => (O.c k x hx).fr f (no' trivial) (no' trivial) fun _ _ => rfl, fun k x hx => (O.r k x hx).fr f (no' trivial) (no' trivial) fun _ _ => rfl⟩
theorem TO.ext (O : TO τ h T) (e : Ext h h') (o : h'.Ok) : TO τ h' T := O.fr (Fr.of_ext (X := fun _ => False) e) o fun _ x => x.elim
theorem TO.plt (O : TO τ h T) : T.p < h.sz := O.var.lt O.ok
theorem TO.put (O : TO τ h T) {ca n : Nat} (f : Fr (fun j => j = T.p) h h') (o : h'.Ok) (V : Var h' T.p [.map T.cm, .map T.rm, .int .i64 (ca : Int), .int .i64 (n : Int)]) : TO τ h' { T with came := ca, n := n } := by
  have no : ∀ {j t}, τ j = t → t ≠ .p → ¬ j = T.p := fun e w x => w (by rw [← e, x]; exact O.tp)
  have no' : ∀ {t : Tag}, t ≠ .p → ∀ j, j = T.p → τ j ≠ t := fun w j x e => w (by rw [← e, x]; exact O.tp)
  exact ⟨o, fun j hj => O.hi j (Nat.le_trans f.sz hj), O.tp, O.tc, O.tr, V, f.kmap O.cs (no O.tc fun e => by cases e), f.kmap O.rs (no O.tr fun e => by cases e),
    fun k x hx => (O.c k x hx).fr f (no' fun e => by cases e) (no' fun e => by cases e) fun _ _ => rfl, fun k x hx => (O.r k x hx).fr f (no' fun e => by cases e) (no' fun e => by cases e) fun _ _ => rfl⟩
theorem TO.bys (O : TO τ h T) {k : SK} {x : CD} {l : List (BK × Unit)} (hx : lkG T.cs k = some x) (f : Fr (fun j => j = x.m) h h') (o : h'.Ok) (M : KMap bk2 h' x.m (one l)) : TO τ h' { T with cs := upG T.cs k { x with bys := l } } := by
  have C := O.c k x (lkG_mem hx)
  have no : ∀ {j t}, τ j = t → t ≠ .b k → ¬ j = x.m := fun e w y => w (by rw [← e, y]; exact C.tm)
  have no' : ∀ {t : Tag}, t ≠ .b k → ∀ j, j = x.m → τ j ≠ t := fun w j y e => w (by rw [← e, y]; exact C.tm)
  refine ⟨o, fun j hj => O.hi j (Nat.le_trans f.sz hj), O.tp, O.tc, O.tr, f.var O.var (no O.tp fun e => by cases e), ?_, f.kmap O.rs (no O.tr fun e => by cases e), fun k' y hy => ?_, fun k y hx => (O.r k y hx).fr f (no' fun e => by cases e) (no' fun e => by cases e) fun _ _ => rfl⟩
  · have := f.kmap O.cs (no O.tc fun e => by cases e)
    have e : mp (fun x : CD => AV.ptr x.id 0 0 0) (upG T.cs k { x with bys := l }) = mp (fun x : CD => AV.ptr x.id 0 0 0) T.cs := by
      rw [upG_mp, upG_same]
      rw [lkG_mp, hx]; rfl
    show KMap sk h' T.cm (mp (fun x : CD => AV.ptr x.id 0 0 0) (upG T.cs k { x with bys := l }))
    rw [e]; exact this
  · by_cases ek : k' = k
    · subst ek
      have := lkG_of_mem (upG_nodup O.ck) hy
      rw [lkG_up, if_pos rfl] at this
      cases this
      exact ⟨C.tid, C.tm, f.var C.row (no C.tid fun e => by cases e), M, C.sm⟩
    · rcases upG_mem hy with e | hy
      · cases e; exact absurd rfl ek
      · exact (O.c k' y hy).fr f (no' fun e => by cases e) (no' fun e => by cases e; exact ek rfl) fun _ _ => rfl
theorem TO.ofs (O : TO τ h T) {k : BK} {x : RD} {l : List (SK × Unit)} (hx : lkG T.rs k = some x) (f : Fr (fun j => j = x.m) h h') (o : h'.Ok) (M : KMap sk h' x.m (one l)) : TO τ h' { T with rs := upG T.rs k { x with ofs := l } } := by
  have C := O.r k x (lkG_mem hx)
  have no : ∀ {j t}, τ j = t → t ≠ .o k → ¬ j = x.m := fun e w y => w (by rw [← e, y]; exact C.tm)
  have no' : ∀ {t : Tag}, t ≠ .o k → ∀ j, j = x.m → τ j ≠ t := fun w j y e => w (by rw [← e, y]; exact C.tm)
  refine ⟨o, fun j hj => O.hi j (Nat.le_trans f.sz hj), O.tp, O.tc, O.tr, f.var O.var (no O.tp fun e => by cases e), f.kmap O.cs (no O.tc fun e => by cases e), ?_, fun k y hx => (O.c k y hx).fr f (no' fun e => by cases e) (no' fun e => by cases e) fun _ _ => rfl, fun k' y hy => ?_⟩
  · have := f.kmap O.rs (no O.tr fun e => by cases e)
    have e : mp (fun x : RD => AV.ptr x.id 0 0 0) (upG T.rs k { x with ofs := l }) = mp (fun x : RD => AV.ptr x.id 0 0 0) T.rs := by
      rw [upG_mp, upG_same]
      rw [lkG_mp, hx]; rfl
    show KMap bk2 h' T.rm (mp (fun x : RD => AV.ptr x.id 0 0 0) (upG T.rs k { x with ofs := l }))
    rw [e]; exact this
  · by_cases ek : k' = k
    · subst ek
      have := lkG_of_mem (upG_nodup O.rk) hy
      rw [lkG_up, if_pos rfl] at this
      cases this
      exact ⟨C.tid, C.tm, f.var C.row (no C.tid fun e => by cases e), M⟩
    · rcases upG_mem hy with e | hy
      · cases e; exact absurd rfl ek
      · exact (O.r k' y hy).fr f (no' fun e => by cases e) (no' fun e => by cases e; exact ek rfl) fun _ _ => rfl
theorem TO.delc (O : TO τ h T) {k : SK} (f : Fr (fun j => j = T.cm) h h') (o : h'.Ok) (M : KMap sk h' T.cm (dl (mp (fun x => .ptr x.id 0 0 0) T.cs) k)) : TO τ h' { T with cs := dlG T.cs k } := by
  have no : ∀ {j t}, τ j = t → t ≠ .cm → ¬ j = T.cm := fun e w x => w (by rw [← e, x]; exact O.tc)
  have no' : ∀ {t : Tag}, t ≠ .cm → ∀ j, j = T.cm → τ j ≠ t := fun w j x e => w (by rw [← e, x]; exact O.tc)
  refine ⟨o, fun j hj => O.hi j (Nat.le_trans f.sz hj), O.tp, O.tc, O.tr, f.var O.var (no O.tp fun e => by cases e), ?_, f.kmap O.rs (no O.tr fun e => by cases e),
    fun k' x hx => (O.c k' x (dlG_sub.subset hx)).fr f (no' fun e => by cases e) (no' fun e => by cases e) fun _ _ => rfl, fun k x hx => (O.r k x hx).fr f (no' fun e => by cases e) (no' fun e => by cases e) fun _ _ => rfl⟩
  rw [dl_G, ← dlG_mp] at M; exact M
theorem TO.delr (O : TO τ h T) {k : BK} (f : Fr (fun j => j = T.rm) h h') (o : h'.Ok) (M : KMap bk2 h' T.rm (dl (mp (fun x => .ptr x.id 0 0 0) T.rs) k)) : TO τ h' { T with rs := dlG T.rs k } := by
  have no : ∀ {j t}, τ j = t → t ≠ .rm → ¬ j = T.rm := fun e w x => w (by rw [← e, x]; exact O.tr)
  have no' : ∀ {t : Tag}, t ≠ .rm → ∀ j, j = T.rm → τ j ≠ t := fun w j x e => w (by rw [← e, x]; exact O.tr)
  refine ⟨o, fun j hj => O.hi j (Nat.le_trans f.sz hj), O.tp, O.tc, O.tr, f.var O.var (no O.tp fun e => by cases e), f.kmap O.cs (no O.tc fun e => by cases e), ?_,
    fun k x hx => (O.c k x hx).fr f (no' fun e => by cases e) (no' fun e => by cases e) fun _ _ => rfl, fun k' x hx => (O.r k' x (dlG_sub.subset hx)).fr f (no' fun e => by cases e) (no' fun e => by cases e) fun _ _ => rfl⟩
  rw [dl_G, ← dlG_mp] at M; exact M
theorem TO.l0 (O : TO τ h T) : loadA h false 1 (.ptr T.p 0 0 0) = some (.map T.cm) := O.var.get rfl
theorem TO.l1 (O : TO τ h T) : loadA h false 1 (.ptr T.p 0 0 1) = some (.map T.rm) := O.var.get rfl
theorem TO.l2 (O : TO τ h T) : loadA h false 1 (.ptr T.p 0 0 2) = some (.int .i64 (T.came : Int)) := O.var.get rfl
theorem TO.l3 (O : TO τ h T) : loadA h false 1 (.ptr T.p 0 0 3) = some (.int .i64 (T.n : Int)) := O.var.get rfl
theorem TO.lkc (O : TO τ h T) {k : SK} {x : CD} (e : lkG T.cs k = some x) : lookA h (.st [.str, .str]) false .nilPtr (.map T.cm) (sk k) = some (.ptr x.id 0 0 0) := by
  rw [O.cs.look sks, lk_G, lkG_mp, e]; rfl
theorem TO.lkc0 (O : TO τ h T) {k : SK} (e : lkG T.cs k = none) : lookA h (.st [.str, .str]) false .nilPtr (.map T.cm) (sk k) = some .nilPtr := by
  rw [O.cs.look sks, lk_G, lkG_mp, e]; rfl
theorem TO.lkr (O : TO τ h T) {k : BK} {x : RD} (e : lkG T.rs k = some x) : lookA h (.st [.int, .str]) false .nilPtr (.map T.rm) (bk2 k) = some (.ptr x.id 0 0 0) := by
  rw [O.rs.look bks, lk_G, lkG_mp, e]; rfl
theorem TO.lkr0 (O : TO τ h T) {k : BK} (e : lkG T.rs k = none) : lookA h (.st [.int, .str]) false .nilPtr (.map T.rm) (bk2 k) = some .nilPtr := by
  rw [O.rs.look bks, lk_G, lkG_mp, e]; rfl
theorem CO.l3 {k : SK} {x : CD} (C : CO τ h k x) : loadA h false 1 (.ptr x.id 0 0 3) = some (.map x.m) := C.row.get rfl
theorem CO.l2 {k : SK} {x : CD} (C : CO τ h k x) : loadA h false 1 (.ptr x.id 0 0 2) = some (.int .i64 (x.came : Int)) := C.row.get rfl
theorem CO.l1 {k : SK} {x : CD} (C : CO τ h k x) : loadA h false 1 (.ptr x.id 0 0 1) = some x.vals := C.row.get rfl
theorem CO.l0 {k : SK} {x : CD} (C : CO τ h k x) : loadA h false 1 (.ptr x.id 0 0 0) = some (.str x.cls) := C.row.get rfl
theorem RO.l4 {k : BK} {x : RD} (C : RO τ h k x) : loadA h false 1 (.ptr x.id 0 0 4) = some (.map x.m) := C.row.get rfl
theorem RO.l3 {k : BK} {x : RD} (C : RO τ h k x) : loadA h false 1 (.ptr x.id 0 0 3) = some (.int .i64 (x.came : Int)) := C.row.get rfl
end
end Go.Proofs.Ytbamgdknkhhikaa
namespace Go.Proofs.Ytbamgdknkhhikaa
open Go.Ab
set_option linter.unusedSimpArgs false
set_option linter.unusedVariables false
section
variable {κ β γ : Type} [DecidableEq κ] [DecidableEq γ]
def dropG (get : β → List (γ × Unit)) (set : β → List (γ × Unit) → β) (l : List (κ × β)) (k : κ) (r : γ) : List (κ × β) :=
  match lkG l k with
  | none => l
  | some x => if (dlG (get x) r).length = 0 then dlG l k else upG l k (set x (dlG (get x) r))
end
def setC (x : CD) (l : List (BK × Unit)) : CD := { x with bys := l }
def setR (x : RD) (l : List (SK × Unit)) : RD := { x with ofs := l }
def dropC (cs : List (SK × CD)) (k : SK) (r : BK) : List (SK × CD) := dropG CD.bys setC cs k r
def dropR (rs : List (BK × RD)) (r : BK) (k : SK) : List (BK × RD) := dropG RD.ofs setR rs r k
def dropT (T : TD) (k : SK) (r : BK) : TD := { T with cs := dropC T.cs k r, rs := dropR T.rs r k, n := T.n - 1 }
theorem dels_mid {κ : Type} {ek : κ → AV} {h h1 h2 h3 : AHeap} {id : Nat} {k : κ} (D : Dels ek h1 h2 id k) (p : ∀ o, h.get id = some o → h1.get id = some o) (q : ∀ o, h2.get id = some o → h3.get id = some o) : Dels ek h h3 id k :=
  fun es c e => q _ (D es c (p _ e))
theorem one_dl {κ : Type} [DecidableEq κ] {ek : κ → AV} {h : AHeap} {id : Nat} {l : List (κ × Unit)} {k : κ} (M : KMap ek h id (dl (one l) k)) : KMap ek h id (one (dlG l k)) := by
  rw [one, dlG_mp, ← dl_G]; exact M
theorem one_lk {κ : Type} [DecidableEq κ] {l : List (κ × Unit)} {k : κ} (e : lkG l k = some ()) : lk (one l) k ≠ none := by
  rw [lk_G, one, lkG_mp, e]; exact fun q => by cases q
theorem one_len {κ : Type} (l : List (κ × Unit)) : (one l).length = l.length := by simp [one, mp]
section
variable {τ : Nat → Tag} {h : AHeap} {T : TD} {K : Kont} {n : Nat} {k : SK} {r : BK} {x : CD} {y : RD}
theorem c48 (O : TO τ h T) (hx : lkG T.cs k = some x) (hb : lkG x.bys r = some ()) (hy : lkG T.rs r = some y) (hk : lkG y.ofs k = some ()) (h1n : 1 ≤ T.n) (hn : T.n < 1000000)
    (kk : ∀ h', TO τ h' (dropT T k r) → Fr (W8 τ) h h' → Dels bk2 h h' x.m r → Dels sk h h' y.m k → K (.tup []) h' = true) :
    callN E (n + 1) (.func 48) [.ptr T.p 0 0 0, sk k, bk2 r] h K = true := by
  apply d48
  unfold s48
  have C0 := O.c k x (lkG_mem hx)
  have R0 := O.r r y (lkG_mem hy)
  have xl := C0.map.lt O.ok
  have yl := R0.map.lt O.ok
  have pl := O.plt
  have cl := O.cs.lt O.ok
  have nxy : x.m ≠ y.m := fun e => by have := C0.tm; rw [e, R0.tm] at this; cases this
  have nxp : x.m ≠ T.p := fun e => by have := C0.tm; rw [e, O.tp] at this; cases this
  have nyp : y.m ≠ T.p := fun e => by have := R0.tm; rw [e, O.tp] at this; cases this
  have nxc : x.m ≠ T.cm := fun e => by have := C0.tm; rw [e, O.tc] at this; cases this
  have nyc : y.m ≠ T.cm := fun e => by have := R0.tm; rw [e, O.tc] at this; cases this
  have nxr : x.m ≠ T.rm := fun e => by have := C0.tm; rw [e, O.tr] at this; cases this
  have nyr : y.m ≠ T.rm := fun e => by have := R0.tm; rw [e, O.tr] at this; cases this
  obtain ⟨h1, b1, V1, e1, o1, z1⟩ := box_v (n := 2) (v := sk k) O.ok rfl (by decide) rfl
  have V1 : Var h1 h.sz [.str k.1, .str k.2] := V1
  refine z_p b1 ?_
  obtain ⟨h2, b2, V2, e2, o2, z2⟩ := box_v (n := 2) (v := bk2 r) o1 rfl (by decide) rfl
  have V2 : Var h2 h1.sz [.int .i64 r.1, .str r.2] := V2
  refine z_p b2 ?_
  have O2 := (O.ext e1 o1).ext e2 o2
  have U1 := V1.ext e2
  have A1 : loadA h2 true 2 (.ptr h.sz 0 0 0) = some (sk k) := U1.all rfl
  have A2 : loadA h2 true 2 (.ptr h1.sz 0 0 0) = some (bk2 r) := V2.all rfl
  have C := O2.c k x (lkG_mem hx)
  have R := O2.r r y (lkG_mem hy)
  repeat first | (with_reducible first | refine z_nil ?_ | refine z_fadr ?_ | refine z_some ?_ | refine z_ext0 ?_ | refine z_ext1 ?_ | refine z_notT ?_ | refine z_notF ?_ | refine z_cT ?_ | refine z_cF ?_ | refine z_gtt ?_ | refine z_gff ?_ | refine z_gtf ?_ | refine z_gft ?_ | refine z_ptt ?_ | refine z_pff ?_ | refine z_ptf ?_ | refine z_pft ?_ | refine z_rtt ?_ | refine z_rff ?_ | refine z_rtf ?_ | refine z_rft ?_ | refine z_kt ?_ | refine z_kf ?_ | refine z_lss ?_ | refine z_gtr ?_ | refine z_leq ?_ | refine z_geq ?_ | refine z_eql ?_ | refine z_neq ?_ | refine z_seq ?_ | refine z_sne ?_ | refine z_slen ?_ | refine z_eqp ?_ | refine z_eqn ?_ | refine z_cv ?_) | refine z_of O2.l0 ?_ | refine z_of A1 ?_ | refine z_of (O2.lkc hx) ?_ | refine z_of O2.l1 ?_ | refine z_of A2 ?_ | refine z_of (O2.lkr hy) ?_ | refine z_of C.l3 ?_
  obtain ⟨h3, q1, q2, q3, q4, q5, q6⟩ := C.map.delD bks (one_lk hb)
  refine z_u q1 ?_
  have o3 := q4 o2
  have O3 := O2.bys hx (Fr.of_but rfl q2) o3 (one_dl q5)
  have U1 := q2.var U1 (by omega)
  have V2 := q2.var V2 (by omega)
  have A1 : loadA h3 true 2 (.ptr h.sz 0 0 0) = some (sk k) := U1.all rfl
  have A2 : loadA h3 true 2 (.ptr h1.sz 0 0 0) = some (bk2 r) := V2.all rfl
  have R := O3.r r y (lkG_mem hy)
  repeat first | (with_reducible first | refine z_nil ?_ | refine z_fadr ?_ | refine z_some ?_ | refine z_ext0 ?_ | refine z_ext1 ?_ | refine z_notT ?_ | refine z_notF ?_ | refine z_cT ?_ | refine z_cF ?_ | refine z_gtt ?_ | refine z_gff ?_ | refine z_gtf ?_ | refine z_gft ?_ | refine z_ptt ?_ | refine z_pff ?_ | refine z_ptf ?_ | refine z_pft ?_ | refine z_rtt ?_ | refine z_rff ?_ | refine z_rtf ?_ | refine z_rft ?_ | refine z_kt ?_ | refine z_kf ?_ | refine z_lss ?_ | refine z_gtr ?_ | refine z_leq ?_ | refine z_geq ?_ | refine z_eql ?_ | refine z_neq ?_ | refine z_seq ?_ | refine z_sne ?_ | refine z_slen ?_ | refine z_eqp ?_ | refine z_eqn ?_ | refine z_cv ?_) | refine z_of R.l4 ?_ | refine z_of A1 ?_
  obtain ⟨h4, p1, p2, p3, p4, p5, p6⟩ := R.map.delD sks (one_lk hk)
  refine z_u p1 ?_
  have o4 := p4 o3
  have O4 : TO τ h4 { T with cs := upG T.cs k { x with bys := dlG x.bys r }, rs := upG T.rs r { y with ofs := dlG y.ofs k } } := O3.ofs hy (Fr.of_but rfl p2) o4 (one_dl p5)
  have U1 := p2.var U1 (by omega)
  have V2 := p2.var V2 (by omega)
  have V4 : Var h4 T.p [.map T.cm, .map T.rm, .int .i64 (T.came : Int), .int .i64 (T.n : Int)] := O4.var
  have l43 : loadA h4 false 1 (.ptr T.p 0 0 3) = some (.int .i64 (T.n : Int)) := O4.l3
  repeat first | (with_reducible first | refine z_nil ?_ | refine z_fadr ?_ | refine z_some ?_ | refine z_ext0 ?_ | refine z_ext1 ?_ | refine z_notT ?_ | refine z_notF ?_ | refine z_cT ?_ | refine z_cF ?_ | refine z_gtt ?_ | refine z_gff ?_ | refine z_gtf ?_ | refine z_gft ?_ | refine z_ptt ?_ | refine z_pff ?_ | refine z_ptf ?_ | refine z_pft ?_ | refine z_rtt ?_ | refine z_rff ?_ | refine z_rtf ?_ | refine z_rft ?_ | refine z_kt ?_ | refine z_kf ?_ | refine z_lss ?_ | refine z_gtr ?_ | refine z_leq ?_ | refine z_geq ?_ | refine z_eql ?_ | refine z_neq ?_ | refine z_seq ?_ | refine z_sne ?_ | refine z_slen ?_ | refine z_eqp ?_ | refine z_eqn ?_ | refine z_cv ?_) | refine z_of l43 ?_ | refine z_of (sub64 (a := (T.n : Int)) (b := 1) (by omega) (by omega)) ?_
  obtain ⟨h5, w1, w2, w3, o5, w5⟩ := V4.wr o4 (off := 3) (v := .int .i64 ((T.n : Int) - 1)) (show 3 < 4 by decide) rfl
  refine z_u w1 ?_
  have hn1 : (T.n : Int) - 1 = ((T.n - 1 : Nat) : Int) := by omega
  rw [hn1] at w2
  have O5 : TO τ h5 { T with cs := upG T.cs k { x with bys := dlG x.bys r }, rs := upG T.rs r { y with ofs := dlG y.ofs k }, n := T.n - 1 } := O4.put (ca := T.came) (n := T.n - 1) (Fr.of_but rfl w3) o5 w2
  have U1 := w3.var U1 (show h.sz ≠ T.p by omega)
  have V2 := w3.var V2 (show h1.sz ≠ T.p by omega)
  have A1 : loadA h5 true 2 (.ptr h.sz 0 0 0) = some (sk k) := U1.all rfl
  have A2 : loadA h5 true 2 (.ptr h1.sz 0 0 0) = some (bk2 r) := V2.all rfl
  have kx : lkG (upG T.cs k { x with bys := dlG x.bys r }) k = some { x with bys := dlG x.bys r } := by rw [lkG_up, if_pos rfl]
  have ky : lkG (upG T.rs r { y with ofs := dlG y.ofs k }) r = some { y with ofs := dlG y.ofs k } := by rw [lkG_up, if_pos rfl]
  have C := O5.c k _ (lkG_mem kx)
  have lx : lenA h5 2 (.map x.m) = some (.int .i64 ((dlG x.bys r).length : Int)) := by have := C.map.len; rw [one_len] at this; exact this
  have C3 : loadA h5 false 1 (.ptr x.id 0 0 3) = some (.map x.m) := C.l3
  have fh2 : Fr (W8 τ) h h2 := Fr.of_ext ⟨Nat.le_trans e1.1 e2.1, fun j o e => e2.2 j o (e1.2 j o e)⟩
  have f5 : Fr (W8 τ) h h5 := ((fh2.trans (Fr.of_but (by show (τ x.m).own; rw [C0.tm]; trivial) q2)).trans (Fr.of_but (by show (τ y.m).own; rw [R0.tm]; trivial) p2)).trans (Fr.of_but (by show (τ T.p).own; rw [O.tp]; trivial) w3)
  have pre : ∀ j o, h.get j = some o → h2.get j = some o := fun j o e => e2.2 j o (e1.2 j o e)
  have D1 : Dels bk2 h h5 x.m r := dels_mid q6 (fun o => pre _ o) fun o e => w3.keep _ _ nxp (p2.keep _ _ nxy e)
  have D2 : Dels sk h h5 y.m k := dels_mid p6 (fun o e => q2.keep _ _ (fun e => nxy e.symm) (pre _ o e)) fun o e => w3.keep _ _ nyp e
  have end2 : ∀ h6, TO τ h6 { T with cs := dropC T.cs k r, rs := upG T.rs r { y with ofs := dlG y.ofs k }, n := T.n - 1 } → Fr (W8 τ) h h6 → Dels bk2 h h6 x.m r → Dels sk h h6 y.m k → Var h6 h.sz [.str k.1, .str k.2] → Var h6 h1.sz [.int .i64 r.1, .str r.2] →
      p48_16 (callN E n) n (.ptr T.p 0 0 0) (.ptr h1.sz 0 0 0) (.ptr y.id 0 0 0) h6 K = true := by
    intro h6 O6 f6 D1 D2 U1 V2
    unfold p48_16
    have R := O6.r r _ (lkG_mem ky)
    have ly : lenA h6 2 (.map y.m) = some (.int .i64 ((dlG y.ofs k).length : Int)) := by have := R.map.len; rw [one_len] at this; exact this
    have R4 : loadA h6 false 1 (.ptr y.id 0 0 4) = some (.map y.m) := R.l4
    have A2 : loadA h6 true 2 (.ptr h1.sz 0 0 0) = some (bk2 r) := V2.all rfl
    repeat first | (with_reducible first | refine z_nil ?_ | refine z_fadr ?_ | refine z_some ?_ | refine z_ext0 ?_ | refine z_ext1 ?_ | refine z_notT ?_ | refine z_notF ?_ | refine z_cT ?_ | refine z_cF ?_ | refine z_gtt ?_ | refine z_gff ?_ | refine z_gtf ?_ | refine z_gft ?_ | refine z_ptt ?_ | refine z_pff ?_ | refine z_ptf ?_ | refine z_pft ?_ | refine z_rtt ?_ | refine z_rff ?_ | refine z_rtf ?_ | refine z_rft ?_ | refine z_kt ?_ | refine z_kf ?_ | refine z_lss ?_ | refine z_gtr ?_ | refine z_leq ?_ | refine z_geq ?_ | refine z_eql ?_ | refine z_neq ?_ | refine z_seq ?_ | refine z_sne ?_ | refine z_slen ?_ | refine z_eqp ?_ | refine z_eqn ?_ | refine z_cv ?_) | refine z_of R4 ?_ | refine z_of ly ?_
    have goal : ∀ h7, TO τ h7 { T with cs := dropC T.cs k r, rs := dropR T.rs r k, n := T.n - 1 } → Fr (W8 τ) h h7 → Dels bk2 h h7 x.m r → Dels sk h h7 y.m k → K (.tup []) h7 = true := kk
    by_cases e : (dlG y.ofs k).length = 0
    · refine z_ct (decide_eq_true (by omega)) ?_
      repeat first | (with_reducible first | refine z_nil ?_ | refine z_fadr ?_ | refine z_some ?_ | refine z_ext0 ?_ | refine z_ext1 ?_ | refine z_notT ?_ | refine z_notF ?_ | refine z_cT ?_ | refine z_cF ?_ | refine z_gtt ?_ | refine z_gff ?_ | refine z_gtf ?_ | refine z_gft ?_ | refine z_ptt ?_ | refine z_pff ?_ | refine z_ptf ?_ | refine z_pft ?_ | refine z_rtt ?_ | refine z_rff ?_ | refine z_rtf ?_ | refine z_rft ?_ | refine z_kt ?_ | refine z_kf ?_ | refine z_lss ?_ | refine z_gtr ?_ | refine z_leq ?_ | refine z_geq ?_ | refine z_eql ?_ | refine z_neq ?_ | refine z_seq ?_ | refine z_sne ?_ | refine z_slen ?_ | refine z_eqp ?_ | refine z_eqn ?_ | refine z_cv ?_) | refine z_of O6.l1 ?_ | refine z_of A2 ?_
      obtain ⟨h7, j1, j2, j3, j4, j5⟩ := O6.rs.del bks r
      refine z_u j1 ?_
      have O7 := O6.delr (Fr.of_but rfl j2) (j4 O6.ok) j5
      refine goal h7 ?_ (f6.trans (Fr.of_but (by show (τ T.rm).own; rw [O.tr]; trivial) j2)) (dels_mid D1 (fun o e => e) fun o e => j2.keep _ _ nxr e) (dels_mid D2 (fun o e => e) fun o e => j2.keep _ _ nyr e)
      have : dropR T.rs r k = dlG (upG T.rs r { y with ofs := dlG y.ofs k }) r := by
        rw [dlG_up O.rk]; unfold dropR dropG; rw [hy]; simp only; rw [if_pos e]
      rw [this]; exact O7
    · refine z_cf (decide_eq_false (by omega)) ?_
      refine goal h6 ?_ f6 D1 D2
      have : dropR T.rs r k = upG T.rs r { y with ofs := dlG y.ofs k } := by
        unfold dropR dropG; rw [hy]; simp only; rw [if_neg e]; rfl
      rw [this]; exact O6
  repeat first | (with_reducible first | refine z_nil ?_ | refine z_fadr ?_ | refine z_some ?_ | refine z_ext0 ?_ | refine z_ext1 ?_ | refine z_notT ?_ | refine z_notF ?_ | refine z_cT ?_ | refine z_cF ?_ | refine z_gtt ?_ | refine z_gff ?_ | refine z_gtf ?_ | refine z_gft ?_ | refine z_ptt ?_ | refine z_pff ?_ | refine z_ptf ?_ | refine z_pft ?_ | refine z_rtt ?_ | refine z_rff ?_ | refine z_rtf ?_ | refine z_rft ?_ | refine z_kt ?_ | refine z_kf ?_ | refine z_lss ?_ | refine z_gtr ?_ | refine z_leq ?_ | refine z_geq ?_ | refine z_eql ?_ | refine z_neq ?_ | refine z_seq ?_ | refine z_sne ?_ | refine z_slen ?_ | refine z_eqp ?_ | refine z_eqn ?_ | refine z_cv ?_) | refine z_of C3 ?_ | refine z_of lx ?_
  by_cases e : (dlG x.bys r).length = 0
  · refine z_ct (decide_eq_true (by omega)) ?_
    repeat first | (with_reducible first | refine z_nil ?_ | refine z_fadr ?_ | refine z_some ?_ | refine z_ext0 ?_ | refine z_ext1 ?_ | refine z_notT ?_ | refine z_notF ?_ | refine z_cT ?_ | refine z_cF ?_ | refine z_gtt ?_ | refine z_gff ?_ | refine z_gtf ?_ | refine z_gft ?_ | refine z_ptt ?_ | refine z_pff ?_ | refine z_ptf ?_ | refine z_pft ?_ | refine z_rtt ?_ | refine z_rff ?_ | refine z_rtf ?_ | refine z_rft ?_ | refine z_kt ?_ | refine z_kf ?_ | refine z_lss ?_ | refine z_gtr ?_ | refine z_leq ?_ | refine z_geq ?_ | refine z_eql ?_ | refine z_neq ?_ | refine z_seq ?_ | refine z_sne ?_ | refine z_slen ?_ | refine z_eqp ?_ | refine z_eqn ?_ | refine z_cv ?_) | refine z_of O5.l0 ?_ | refine z_of A1 ?_
    obtain ⟨h6, j1, j2, j3, j4, j5⟩ := O5.cs.del sks k
    refine z_u j1 ?_
    have O6 := O5.delc (Fr.of_but rfl j2) (j4 o5) j5
    refine end2 h6 ?_ (f5.trans (Fr.of_but (by show (τ T.cm).own; rw [O.tc]; trivial) j2)) (dels_mid D1 (fun o e => e) fun o e => j2.keep _ _ nxc e) (dels_mid D2 (fun o e => e) fun o e => j2.keep _ _ nyc e) (j2.var U1 (show h.sz ≠ T.cm by omega)) (j2.var V2 (show h1.sz ≠ T.cm by omega))
    have : dropC T.cs k r = dlG (upG T.cs k { x with bys := dlG x.bys r }) k := by
      rw [dlG_up O.ck]; unfold dropC dropG; rw [hx]; simp only; rw [if_pos e]
    rw [this]; exact O6
  · refine z_cf (decide_eq_false (by omega)) ?_
    refine end2 h5 ?_ f5 D1 D2 U1 V2
    have : dropC T.cs k r = upG T.cs k { x with bys := dlG x.bys r } := by
      unfold dropC dropG; rw [hx]; simp only; rw [if_neg e]; rfl
    rw [this]; exact O5
end
end Go.Proofs.Ytbamgdknkhhikaa
namespace Go.Proofs.Ytbamgdknkhhikaa
open Go.Ab
set_option linter.unusedSimpArgs false
set_option linter.unusedVariables false
section
variable {κ β γ δ : Type} [DecidableEq κ] [DecidableEq γ] {get : β → List (γ × Unit)} {set : β → List (γ × Unit) → β} {l : List (κ × β)} {k : κ} {r : γ} {x : β}
theorem dropG_lk (hn : (l.map fun p => p.1).Nodup) (hx : lkG l k = some x) (j : κ) : lkG (dropG get set l k r) j = if j = k then (if (dlG (get x) r).length = 0 then none else some (set x (dlG (get x) r))) else lkG l j := by
  unfold dropG
  rw [hx]
  simp only
  by_cases e : (dlG (get x) r).length = 0
  · rw [if_pos e, if_pos e, lkG_dl hn]
  · rw [if_neg e, if_neg e, lkG_up]
theorem dropG_nodup (hn : (l.map fun p => p.1).Nodup) : ((dropG get set l k r).map fun p => p.1).Nodup := by
  unfold dropG
  split
  · exact hn
  · split
    · exact dlG_nodup hn
    · exact upG_nodup hn
theorem upG_sub (f : β → δ) {v : β} (hx : lkG l k = some x) (hf : f v = f x) : mp f (upG l k v) = mp f l := by
  rw [upG_mp, upG_same]
  rw [lkG_mp, hx, hf]; rfl
theorem dropG_sub (f : β → δ) (hf : ∀ x d, f (set x d) = f x) : (mp f (dropG get set l k r)).Sublist (mp f l) := by
  unfold dropG
  split
  · exact List.Sublist.refl _
  · rename_i x hx
    split
    · rw [dlG_mp]; exact dlG_sub
    · rw [upG_sub f hx (hf _ _)]; exact List.Sublist.refl _
def hasG (get : β → List (γ × Unit)) (l : List (κ × β)) (k : κ) (r : γ) : Prop := ∃ x, lkG l k = some x ∧ lkG (get x) r = some ()
theorem dropG_has (hn : (l.map fun p => p.1).Nodup) (hx : lkG l k = some x) (hs : ∀ x d, get (set x d) = d) (hb : ((get x).map fun p => p.1).Nodup) (j : κ) (s : γ) :
    hasG get (dropG get set l k r) j s ↔ hasG get l j s ∧ ¬ (j = k ∧ s = r) := by
  unfold hasG
  rw [dropG_lk hn hx]
  by_cases e : j = k
  · subst e
    rw [if_pos rfl]
    by_cases e0 : (dlG (get x) r).length = 0
    · rw [if_pos e0]
      refine ⟨fun ⟨_, h, _⟩ => (by cases h), fun ⟨⟨x', h1, h2⟩, h3⟩ => ?_⟩
      rw [hx] at h1; cases h1
      have h4 : lkG (dlG (get x) r) s = some () := by rw [lkG_dl hb, if_neg (fun e => h3 ⟨rfl, e⟩)]; exact h2
      rw [List.length_eq_zero_iff.1 e0] at h4; cases h4
    · rw [if_neg e0]
      refine ⟨fun ⟨x', h, h2⟩ => ?_, fun ⟨⟨x', h1, h2⟩, h3⟩ => ?_⟩
      · cases h
        rw [hs, lkG_dl hb] at h2
        by_cases e1 : s = r
        · rw [if_pos e1] at h2; cases h2
        · rw [if_neg e1] at h2
          exact ⟨⟨x, hx, h2⟩, fun e => e1 e.2⟩
      · rw [hx] at h1; cases h1
        exact ⟨_, rfl, by rw [hs, lkG_dl hb, if_neg (fun e => h3 ⟨rfl, e⟩)]; exact h2⟩
  · rw [if_neg e]
    exact ⟨fun h => ⟨h, fun e' => e e'.1⟩, fun h => h.1⟩
theorem dropG_all (P : β → Prop) (hn : (l.map fun p => p.1).Nodup) (hx : lkG l k = some x) (h0 : ∀ j y, lkG l j = some y → P y) (h1 : (dlG (get x) r).length ≠ 0 → P (set x (dlG (get x) r))) : ∀ j y, lkG (dropG get set l k r) j = some y → P y := by
  intro j y hy
  rw [dropG_lk hn hx] at hy
  by_cases e : j = k
  · rw [if_pos e] at hy
    by_cases e0 : (dlG (get x) r).length = 0
    · rw [if_pos e0] at hy; cases hy
    · rw [if_neg e0] at hy; cases hy; exact h1 e0
  · rw [if_neg e] at hy; exact h0 j y hy
def sumG (get : β → List (γ × Unit)) (l : List (κ × β)) : Nat := (l.map fun p => (get p.2).length).sum
omit [DecidableEq γ] in
theorem sumG_dl {get : β → List (γ × Unit)} : ∀ {l : List (κ × β)}, lkG l k = some x → sumG get (dlG l k) + (get x).length = sumG get l
  | [], h => by cases h
  | p :: t, h => by
    simp only [lkG] at h
    simp only [dlG]
    by_cases e : k = p.1
    · rw [if_pos e] at h ⊢
      cases h
      simp only [sumG, List.map_cons, List.sum_cons]; omega
    · rw [if_neg e] at h ⊢
      have := sumG_dl (get := get) h
      simp only [sumG, List.map_cons, List.sum_cons] at this ⊢; omega
omit [DecidableEq γ] in
theorem sumG_up {get : β → List (γ × Unit)} {v : β} : ∀ {l : List (κ × β)}, lkG l k = some x → sumG get (upG l k v) + (get x).length = sumG get l + (get v).length
  | [], h => by cases h
  | p :: t, h => by
    simp only [lkG] at h
    simp only [upG]
    by_cases e : k = p.1
    · rw [if_pos e] at h ⊢
      cases h
      simp only [sumG, List.map_cons, List.sum_cons]; omega
    · rw [if_neg e] at h ⊢
      have := sumG_up (get := get) (v := v) h
      simp only [sumG, List.map_cons, List.sum_cons] at this ⊢; omega
theorem dropG_sum (hx : lkG l k = some x) (hs : ∀ x d, get (set x d) = d) (hb : lkG (get x) r = some ()) : sumG get (dropG get set l k r) + 1 = sumG get l := by
  have h1 := dlG_len hb
  unfold dropG
  rw [hx]
  simp only
  by_cases e : (dlG (get x) r).length = 0
  · rw [if_pos e]
    have := sumG_dl (get := get) hx
    omega
  · rw [if_neg e]
    have := sumG_up (get := get) (v := set x (dlG (get x) r)) hx
    rw [hs] at this
    omega
omit [DecidableEq κ] [DecidableEq γ] in
theorem sumG_app (l m : List (κ × β)) : sumG get (l ++ m) = sumG get l + sumG get m := by simp [sumG]
omit [DecidableEq γ] in
theorem lk_le_sum (hx : lkG l k = some x) : (get x).length ≤ sumG get l := by
  have := sumG_dl (get := get) hx; omega
end
abbrev hasB (T : TD) (k : SK) (r : BK) : Prop := hasG CD.bys T.cs k r
abbrev hasR (T : TD) (k : SK) (r : BK) : Prop := hasG RD.ofs T.rs r k
structure TW (T : TD) : Prop where
  ck : (T.cs.map fun p => p.1).Nodup
  rk : (T.rs.map fun p => p.1).Nodup
  bn : ∀ k x, lkG T.cs k = some x → (x.bys.map fun p => p.1).Nodup
  on : ∀ r y, lkG T.rs r = some y → (y.ofs.map fun p => p.1).Nodup
  bij : ∀ k r, hasB T k r ↔ hasR T k r
  cne : ∀ k x, lkG T.cs k = some x → x.bys.length ≠ 0
  rne : ∀ r y, lkG T.rs r = some y → y.ofs.length ≠ 0
  sc : ((mp CD.came T.cs).map fun p => p.2).Pairwise fun a b => a < b
  tc : ∀ x ∈ (mp CD.came T.cs).map fun p => p.2, x ≤ T.came
  sr : ((mp RD.came T.rs).map fun p => p.2).Pairwise fun a b => a < b
  tr : ∀ x ∈ (mp RD.came T.rs).map fun p => p.2, x ≤ T.came
  sum : T.n = sumG CD.bys T.cs
def barC (x : CD) : Nat × Nat × Str × AV × Nat := (x.id, x.m, x.cls, x.vals, x.came)
def barR (x : RD) : Nat × Nat × Int × AV × AV × Nat := (x.id, x.m, x.core, x.els, x.env, x.came)
structure Less (T T' : TD) (D : SK → BK → Prop) : Prop where
  w : TW T'
  p : T'.p = T.p
  cm : T'.cm = T.cm
  rm : T'.rm = T.rm
  came : T'.came = T.came
  has : ∀ k r, hasB T' k r ↔ hasB T k r ∧ ¬ D k r
  sc : (mp barC T'.cs).Sublist (mp barC T.cs)
  sr : (mp barR T'.rs).Sublist (mp barR T.rs)
theorem Less.refl {T : TD} (W : TW T) : Less T T fun _ _ => False := ⟨W, rfl, rfl, rfl, rfl, fun k r => ⟨fun h => ⟨h, id⟩, fun h => h.1⟩, List.Sublist.refl _, List.Sublist.refl _⟩
theorem Less.trans {T T' T'' : TD} {D D' : SK → BK → Prop} (a : Less T T' D) (b : Less T' T'' D') : Less T T'' fun k r => D k r ∨ D' k r :=
  ⟨b.w, b.p.trans a.p, b.cm.trans a.cm, b.rm.trans a.rm, b.came.trans a.came, fun k r => by rw [b.has, a.has, not_or, and_assoc], b.sc.trans a.sc, b.sr.trans a.sr⟩
theorem Less.iff {T T' : TD} {D D' : SK → BK → Prop} (a : Less T T' D) (h : ∀ k r, hasB T k r → (D k r ↔ D' k r)) : Less T T' D' :=
  ⟨a.w, a.p, a.cm, a.rm, a.came, fun k r => by rw [a.has]; exact ⟨fun ⟨x, y⟩ => ⟨x, fun z => y ((h k r x).2 z)⟩, fun ⟨x, y⟩ => ⟨x, fun z => y ((h k r x).1 z)⟩⟩, a.sc, a.sr⟩
theorem drop_less {T : TD} {k : SK} {r : BK} {x : CD} {y : RD} (W : TW T) (hx : lkG T.cs k = some x) (hb : lkG x.bys r = some ()) (hy : lkG T.rs r = some y) (hk : lkG y.ofs k = some ()) : Less T (dropT T k r) fun k' r' => k' = k ∧ r' = r := by
  have hC : ∀ k' r', hasB (dropT T k r) k' r' ↔ hasB T k' r' ∧ ¬ (k' = k ∧ r' = r) := fun k' r' => dropG_has (set := setC) W.ck hx (fun _ _ => rfl) (W.bn k x hx) k' r'
  have hR : ∀ k' r', hasR (dropT T k r) k' r' ↔ hasR T k' r' ∧ ¬ (r' = r ∧ k' = k) := fun k' r' => dropG_has (set := setR) W.rk hy (fun _ _ => rfl) (W.on r y hy) r' k'
  have s1 : (mp barC (dropT T k r).cs).Sublist (mp barC T.cs) := dropG_sub barC fun _ _ => rfl
  have s2 : (mp barR (dropT T k r).rs).Sublist (mp barR T.rs) := dropG_sub barR fun _ _ => rfl
  have c1 : ((mp CD.came (dropT T k r).cs).map fun p => p.2).Sublist ((mp CD.came T.cs).map fun p => p.2) := (dropG_sub (set := setC) CD.came fun _ _ => rfl).map _
  have c2 : ((mp RD.came (dropT T k r).rs).map fun p => p.2).Sublist ((mp RD.came T.rs).map fun p => p.2) := (dropG_sub (set := setR) RD.came fun _ _ => rfl).map _
  refine ⟨⟨dropG_nodup W.ck, dropG_nodup W.rk, ?_, ?_, fun k' r' => ?_, ?_, ?_, W.sc.sublist c1, fun z hz => W.tc z (c1.subset hz), W.sr.sublist c2, fun z hz => W.tr z (c2.subset hz), ?_⟩, rfl, rfl, rfl, rfl, hC, s1, s2⟩
  · exact dropG_all (set := setC) (fun x => (x.bys.map fun p => p.1).Nodup) W.ck hx W.bn fun _ => dlG_nodup (W.bn k x hx)
  · exact dropG_all (set := setR) (fun x => (x.ofs.map fun p => p.1).Nodup) W.rk hy W.on fun _ => dlG_nodup (W.on r y hy)
  · rw [hC, hR, W.bij]
    exact ⟨fun ⟨a, b⟩ => ⟨a, fun e => b ⟨e.2, e.1⟩⟩, fun ⟨a, b⟩ => ⟨a, fun e => b ⟨e.2, e.1⟩⟩⟩
  · exact dropG_all (set := setC) (fun x => x.bys.length ≠ 0) W.ck hx W.cne id
  · exact dropG_all (set := setR) (fun x => x.ofs.length ≠ 0) W.rk hy W.rne id
  · have := dropG_sum (set := setC) hx (fun _ _ => rfl) hb
    show T.n - 1 = sumG CD.bys (dropC T.cs k r)
    have h2 := W.sum
    have : sumG CD.bys (dropC T.cs k r) + 1 = sumG CD.bys T.cs := this
    omega
end Go.Proofs.Ytbamgdknkhhikaa
namespace Go.Proofs.Ytbamgdknkhhikaa
open Go.Ab
set_option linter.unusedSimpArgs false
set_option linter.unusedVariables false
theorem one_mem {κ : Type} [DecidableEq κ] {l : List (κ × Unit)} {k : κ} {v : AV} (hn : (l.map fun p => p.1).Nodup) (h : (k, v) ∈ one l) : lkG l k = some () := by
  obtain ⟨x, hx, e⟩ := List.mem_map.1 h
  simp only [Prod.mk.injEq] at e
  obtain ⟨rfl, _⟩ := e
  exact lkG_of_mem hn hx
section
variable {τ : Nat → Tag} {h : AHeap} {T : TD} {K : Kont} {n : Nat} {k : SK} {x : CD} {cls : Str} {vals : AV} {bad : Bool}
theorem l19 {it a3 : Nat} {r0 : AV} (O0 : TO τ h T) (W0 : TW T) (hx : lkG T.cs k = some x) (hn : T.n < 1000000)
    (hs : ∀ h1, h1.Ok → Fr (W8 τ) h h1 → ∀ K' : Kont, (∀ h2, Ext h1 h2 → h2.Ok → K' (sk k) h2 = true) → callN E (n + 1) (.func 38) [.agg [.str cls, vals]] h1 K' = true)
    (hit : h.sz ≤ it) (ha3 : h.sz ≤ a3)
    (k1 : ∀ h' T', TO τ h' T' → Fr (W8 τ) h h' → Less T T' (fun k' _ => k' = k) → T'.n + x.bys.length = T.n → K r0 h' = true) :
    ∀ m h1 l T1, l.length < m → TO τ h1 T1 → Fr (W8 τ) h h1 → Less T T1 (fun k' r' => k' = k ∧ lkG l r' = none) → (l ≠ [] → lkG T1.cs k = some (setC x l)) → (l.map fun p => p.1).Nodup → KIterD bk2 h1 it x.m (one l) → Var h1 a3 [.str cls, vals] →
      T1.n + x.bys.length = T.n + l.length → l.length ≤ x.bys.length → l19_18 (callN E (n + 1)) (n + 1) m (.ptr T.p 0 0 0) (.ptr a3 0 0 0) r0 (.itr it) h1 K = true := by
  intro m
  induction m with
  | zero => intro h1 l T1 hm; omega
  | succ m ih =>
    intro h1 l T1 hm O F L hl hnd IT V3 hsum hle
    have C0 := O0.c k x (lkG_mem hx)
    have xl := C0.map.lt O0.ok
    have tit := O0.hi it hit
    have ta3 := O0.hi a3 ha3
    unfold l19_18 b19_18
    refine IT.next bks O.ok (by omega) (fun e0 => ?_) (fun r v h2 hr b2 o2 z2 IC ent => ?_)
    · repeat first | (with_reducible first | refine z_nil ?_ | refine z_fadr ?_ | refine z_some ?_ | refine z_ext0 ?_ | refine z_ext1 ?_ | refine z_notT ?_ | refine z_notF ?_ | refine z_cT ?_ | refine z_cF ?_ | refine z_gtt ?_ | refine z_gff ?_ | refine z_gtf ?_ | refine z_gft ?_ | refine z_ptt ?_ | refine z_pff ?_ | refine z_ptf ?_ | refine z_pft ?_ | refine z_rtt ?_ | refine z_rff ?_ | refine z_rtf ?_ | refine z_rft ?_ | refine z_kt ?_ | refine z_kf ?_ | refine z_lss ?_ | refine z_gtr ?_ | refine z_leq ?_ | refine z_geq ?_ | refine z_eql ?_ | refine z_neq ?_ | refine z_seq ?_ | refine z_sne ?_ | refine z_slen ?_ | refine z_eqp ?_ | refine z_eqn ?_ | refine z_cv ?_) | refine z_some ?_
      have : l = [] := by simpa [one, mp] using e0
      subst this
      refine k1 h1 T1 O F (L.iff fun k' r' _ => ⟨fun e => e.1, fun e => ⟨e, rfl⟩⟩) (by simpa using hsum)
    · have hb := one_mem hnd hr
      have hne : l ≠ [] := fun e => by rw [e] at hb; cases hb
      have hx1 := hl hne
      have hlen := dlG_len hb
      repeat first | (with_reducible first | refine z_nil ?_ | refine z_fadr ?_ | refine z_some ?_ | refine z_ext0 ?_ | refine z_ext1 ?_ | refine z_notT ?_ | refine z_notF ?_ | refine z_cT ?_ | refine z_cF ?_ | refine z_gtt ?_ | refine z_gff ?_ | refine z_gtf ?_ | refine z_gft ?_ | refine z_ptt ?_ | refine z_pff ?_ | refine z_ptf ?_ | refine z_pft ?_ | refine z_rtt ?_ | refine z_rff ?_ | refine z_rtf ?_ | refine z_rft ?_ | refine z_kt ?_ | refine z_kf ?_ | refine z_lss ?_ | refine z_gtr ?_ | refine z_leq ?_ | refine z_geq ?_ | refine z_eql ?_ | refine z_neq ?_ | refine z_seq ?_ | refine z_sne ?_ | refine z_slen ?_ | refine z_eqp ?_ | refine z_eqn ?_ | refine z_cv ?_) | refine z_of ent ?_
      have F2 := fr_acc O0.ok F (Fr.of_but (X := fun j => j = it) rfl b2) fun j e => .inr (by rw [e]; exact hit)
      have O2 := O.fr (Fr.of_but (X := fun j => j = it) rfl b2) o2 fun j e => by rw [e, tit]; exact id
      have V3 := b2.var V3 (fun e => by
        obtain ⟨es, c, s, _, _, q⟩ := IT
        have V3' : h1.row a3 = _ := V3
        rw [AHeap.row_some] at V3'
        rw [e] at V3'
        rw [q] at V3'; cases V3')
      obtain ⟨h3, c1, c2, e3, o3, z3⟩ := alloc_v (z := [AV.int .i64 0, .str []]) o2 (by decide) rfl
      refine z_p c1 ?_
      obtain ⟨h4, w1, w2, w3, o4, w5⟩ := c2.wrs o3 (n := 2) (v := bk2 r) rfl rfl rfl
      refine z_u w1 ?_
      have w2 : Var h4 h2.sz [.int .i64 r.1, .str r.2] := w2
      have it2 : it < h2.sz := by obtain ⟨es, c, s, _, _, q⟩ := IC; exact o2.lt q
      have x2 : x.m < h2.sz := IC.map.lt o2
      have a2 : a3 < h2.sz := V3.lt o2
      have F4 : Fr (fun j => j = h2.sz) h2 h4 := (Fr.of_ext e3).trans (Fr.of_but rfl w3)
      have O4 := O2.fr F4 o4 fun j e => by rw [e, O2.hi _ (Nat.le_refl _)]; exact id
      have IC := F4.kiterC IC (by omega) (by omega)
      have V3 := F4.var V3 (by omega)
      have F4 := fr_acc O0.ok F2 F4 fun j e => .inr (by rw [e]; exact F2.sz)
      have A3 : loadA h4 true 2 (.ptr a3 0 0 0) = some (.agg [.str cls, vals]) := V3.all rfl
      have A5 : ∀ {h'}, Ext h4 h' → loadA h' true 2 (.ptr h2.sz 0 0 0) = some (bk2 r) := fun e => (w2.ext e).all rfl
      repeat first | (with_reducible first | refine z_nil ?_ | refine z_fadr ?_ | refine z_some ?_ | refine z_ext0 ?_ | refine z_ext1 ?_ | refine z_notT ?_ | refine z_notF ?_ | refine z_cT ?_ | refine z_cF ?_ | refine z_gtt ?_ | refine z_gff ?_ | refine z_gtf ?_ | refine z_gft ?_ | refine z_ptt ?_ | refine z_pff ?_ | refine z_ptf ?_ | refine z_pft ?_ | refine z_rtt ?_ | refine z_rff ?_ | refine z_rtf ?_ | refine z_rft ?_ | refine z_kt ?_ | refine z_kf ?_ | refine z_lss ?_ | refine z_gtr ?_ | refine z_leq ?_ | refine z_geq ?_ | refine z_eql ?_ | refine z_neq ?_ | refine z_seq ?_ | refine z_sne ?_ | refine z_slen ?_ | refine z_eqp ?_ | refine z_eqn ?_ | refine z_cv ?_) | refine z_of A3 ?_ | refine z_of (A5 (Ext.refl _)) ?_
      refine hs h4 o4 F4 _ fun h5 e5 o5 => ?_
      refine z_same (A5 e5) (same_agg (sames_cons (same_int _ _) (sames_cons (same_str _) sames_nil))) ?_
      have O5 := O4.ext e5 o5
      have IC := (Fr.of_ext (X := fun _ => False) e5).kiterC IC id id
      have V3 := V3.ext e5
      have F5 := fr_ext F4 e5
      have hB : hasB T1 k r := ⟨_, hx1, hb⟩
      obtain ⟨y, hy, hk⟩ := (L.w.bij k r).1 hB
      have hn1 : 1 ≤ T1.n := by rw [L.w.sum]; have := lk_le_sum (get := CD.bys) hx1; have : l.length ≤ sumG CD.bys T1.cs := this; omega
      have hn2 : T1.n < 1000000 := by omega
      have hp := L.p
      rw [← hp]
      refine c48 O5 hx1 hb hy hk hn1 hn2 fun h6 O6 F6 D1 D2 => ?_
      have L6 := L.trans (drop_less L.w hx1 hb hy hk)
      have hit6 : h6.get it = h5.get it := by
        obtain ⟨es, c, s, _, _, q⟩ := IC
        rw [q]
        exact F6.keep it _ (by show ¬ (τ it).own; rw [tit]; exact id) q
      rw [hp]
      refine ih h6 (dlG l r) (dropT T1 k r) (by omega) O6 (fr_acc O0.ok F5 F6 fun j e => .inl e) (L6.iff fun k' r' hh => ?_) (fun e => ?_) (dlG_nodup hnd) ?_ (F6.var V3 (by show ¬ (τ a3).own; rw [ta3]; exact id)) (by show T1.n - 1 + _ = _; omega) (by omega)
      · rw [lkG_dl hnd]
        constructor
        · rintro (⟨e1, e2⟩ | ⟨e1, e2⟩)
          · exact ⟨e1, (by by_cases q : r' = r; (rw [if_pos q]); (rw [if_neg q]; exact e2))⟩
          · exact ⟨e1, by rw [if_pos e2]⟩
        · rintro ⟨e1, e2⟩
          by_cases e : r' = r
          · exact .inr ⟨e1, e⟩
          · rw [if_neg e] at e2; exact .inl ⟨e1, e2⟩
      · have := dropG_lk (get := CD.bys) (set := setC) L.w.ck hx1 (r := r) k
        rw [if_pos rfl, if_neg (by show ¬ (dlG l r).length = 0; exact fun q => e (List.length_eq_zero_iff.1 q))] at this
        exact this
      · have := IC.del bks D1 hit6
        rw [one, dlG_mp, ← dl_G]
        exact this
theorem c19 (O : TO τ h T) (W : TW T) (hn : T.n < 1000000) (hf : T.n < n) (hv : vals.leaf = true)
    (hs : ∀ h1, h1.Ok → Fr (W8 τ) h h1 → ∀ K' : Kont, (∀ h2, Ext h1 h2 → h2.Ok → K' (sk k) h2 = true) → callN E (n + 1) (.func 38) [.agg [.str cls, vals]] h1 K' = true)
    (hb : ∀ h1, h1.Ok → Ext h h1 → ∀ K' : Kont, (∀ h2, Ext h1 h2 → h2.Ok → K' (.bool bad) h2 = true) → callN E (n + 1) (.func 35) [vals] h1 K' = true)
    (k0 : ∀ h', Ext h h' → h'.Ok → lkG T.cs k = none ∨ bad = true → K (.int .i64 0) h' = true)
    (k1 : ∀ x h' T', lkG T.cs k = some x → bad = false → TO τ h' T' → Fr (W8 τ) h h' → Less T T' (fun k' _ => k' = k) → T'.n + x.bys.length = T.n → K (.int .i64 (x.bys.length : Int)) h' = true) :
    callN E (n + 2) (.func 19) [.ptr T.p 0 0 0, .agg [.str cls, vals]] h K = true := by
  apply d19
  unfold s19
  obtain ⟨h1, b1, V1, e1, o1, z1⟩ := box_v (n := 2) (v := .agg [.str cls, vals]) O.ok rfl (by decide) (by simp [AV.cells, allLeaf, hv]; rfl)
  have V1 : Var h1 h.sz [.str cls, vals] := V1
  refine z_p b1 ?_
  have O1 := O.ext e1 o1
  have A1 : loadA h1 true 2 (.ptr h.sz 0 0 0) = some (.agg [.str cls, vals]) := V1.all rfl
  repeat first | (with_reducible first | refine z_nil ?_ | refine z_fadr ?_ | refine z_some ?_ | refine z_ext0 ?_ | refine z_ext1 ?_ | refine z_notT ?_ | refine z_notF ?_ | refine z_cT ?_ | refine z_cF ?_ | refine z_gtt ?_ | refine z_gff ?_ | refine z_gtf ?_ | refine z_gft ?_ | refine z_ptt ?_ | refine z_pff ?_ | refine z_ptf ?_ | refine z_pft ?_ | refine z_rtt ?_ | refine z_rff ?_ | refine z_rtf ?_ | refine z_rft ?_ | refine z_kt ?_ | refine z_kf ?_ | refine z_lss ?_ | refine z_gtr ?_ | refine z_leq ?_ | refine z_geq ?_ | refine z_eql ?_ | refine z_neq ?_ | refine z_seq ?_ | refine z_sne ?_ | refine z_slen ?_ | refine z_eqp ?_ | refine z_eqn ?_ | refine z_cv ?_) | refine z_of O1.l0 ?_ | refine z_of A1 ?_
  refine hs h1 o1 (Fr.of_ext e1) _ fun h2 e2 o2 => ?_
  have O2 := O1.ext e2 o2
  have V2 := V1.ext e2
  refine z_same O2.l0 (same_map _) ?_
  cases hx : lkG T.cs k with
  | none =>
    repeat first | (with_reducible first | refine z_nil ?_ | refine z_fadr ?_ | refine z_some ?_ | refine z_ext0 ?_ | refine z_ext1 ?_ | refine z_notT ?_ | refine z_notF ?_ | refine z_cT ?_ | refine z_cF ?_ | refine z_gtt ?_ | refine z_gff ?_ | refine z_gtf ?_ | refine z_gft ?_ | refine z_ptt ?_ | refine z_pff ?_ | refine z_ptf ?_ | refine z_pft ?_ | refine z_rtt ?_ | refine z_rff ?_ | refine z_rtf ?_ | refine z_rft ?_ | refine z_kt ?_ | refine z_kf ?_ | refine z_lss ?_ | refine z_gtr ?_ | refine z_leq ?_ | refine z_geq ?_ | refine z_eql ?_ | refine z_neq ?_ | refine z_seq ?_ | refine z_sne ?_ | refine z_slen ?_ | refine z_eqp ?_ | refine z_eqn ?_ | refine z_cv ?_) | refine z_of (O2.lkc0 hx) ?_
    exact k0 h2 (ext_two e1 e2) o2 (.inl hx)
  | some x =>
    have V21 : loadA h2 false 1 (.ptr h.sz 0 0 1) = some vals := V2.get rfl
    repeat first | (with_reducible first | refine z_nil ?_ | refine z_fadr ?_ | refine z_some ?_ | refine z_ext0 ?_ | refine z_ext1 ?_ | refine z_notT ?_ | refine z_notF ?_ | refine z_cT ?_ | refine z_cF ?_ | refine z_gtt ?_ | refine z_gff ?_ | refine z_gtf ?_ | refine z_gft ?_ | refine z_ptt ?_ | refine z_pff ?_ | refine z_ptf ?_ | refine z_pft ?_ | refine z_rtt ?_ | refine z_rff ?_ | refine z_rtf ?_ | refine z_rft ?_ | refine z_kt ?_ | refine z_kf ?_ | refine z_lss ?_ | refine z_gtr ?_ | refine z_leq ?_ | refine z_geq ?_ | refine z_eql ?_ | refine z_neq ?_ | refine z_seq ?_ | refine z_sne ?_ | refine z_slen ?_ | refine z_eqp ?_ | refine z_eqn ?_ | refine z_cv ?_) | refine z_of (O2.lkc hx) ?_ | refine z_of V21 ?_
    refine hb h2 o2 (ext_two e1 e2) _ fun h3 e3 o3 => ?_
    have O3 := O2.ext e3 o3
    have E3 := ext_two (ext_two e1 e2) e3
    cases bad with
    | true =>
      repeat first | (with_reducible first | refine z_nil ?_ | refine z_fadr ?_ | refine z_some ?_ | refine z_ext0 ?_ | refine z_ext1 ?_ | refine z_notT ?_ | refine z_notF ?_ | refine z_cT ?_ | refine z_cF ?_ | refine z_gtt ?_ | refine z_gff ?_ | refine z_gtf ?_ | refine z_gft ?_ | refine z_ptt ?_ | refine z_pff ?_ | refine z_ptf ?_ | refine z_pft ?_ | refine z_rtt ?_ | refine z_rff ?_ | refine z_rtf ?_ | refine z_rft ?_ | refine z_kt ?_ | refine z_kf ?_ | refine z_lss ?_ | refine z_gtr ?_ | refine z_leq ?_ | refine z_geq ?_ | refine z_eql ?_ | refine z_neq ?_ | refine z_seq ?_ | refine z_sne ?_ | refine z_slen ?_ | refine z_eqp ?_ | refine z_eqn ?_ | refine z_cv ?_) | refine z_some ?_
      exact k0 h3 E3 o3 (.inr rfl)
    | false =>
      repeat first | (with_reducible first | refine z_nil ?_ | refine z_fadr ?_ | refine z_some ?_ | refine z_ext0 ?_ | refine z_ext1 ?_ | refine z_notT ?_ | refine z_notF ?_ | refine z_cT ?_ | refine z_cF ?_ | refine z_gtt ?_ | refine z_gff ?_ | refine z_gtf ?_ | refine z_gft ?_ | refine z_ptt ?_ | refine z_pff ?_ | refine z_ptf ?_ | refine z_pft ?_ | refine z_rtt ?_ | refine z_rff ?_ | refine z_rtf ?_ | refine z_rft ?_ | refine z_kt ?_ | refine z_kf ?_ | refine z_lss ?_ | refine z_gtr ?_ | refine z_leq ?_ | refine z_geq ?_ | refine z_eql ?_ | refine z_neq ?_ | refine z_seq ?_ | refine z_sne ?_ | refine z_slen ?_ | refine z_eqp ?_ | refine z_eqn ?_ | refine z_cv ?_) | refine z_some ?_
      have C := O3.c k x (lkG_mem hx)
      repeat first | (with_reducible first | refine z_nil ?_ | refine z_fadr ?_ | refine z_some ?_ | refine z_ext0 ?_ | refine z_ext1 ?_ | refine z_notT ?_ | refine z_notF ?_ | refine z_cT ?_ | refine z_cF ?_ | refine z_gtt ?_ | refine z_gff ?_ | refine z_gtf ?_ | refine z_gft ?_ | refine z_ptt ?_ | refine z_pff ?_ | refine z_ptf ?_ | refine z_pft ?_ | refine z_rtt ?_ | refine z_rff ?_ | refine z_rtf ?_ | refine z_rft ?_ | refine z_kt ?_ | refine z_kf ?_ | refine z_lss ?_ | refine z_gtr ?_ | refine z_leq ?_ | refine z_geq ?_ | refine z_eql ?_ | refine z_neq ?_ | refine z_seq ?_ | refine z_sne ?_ | refine z_slen ?_ | refine z_eqp ?_ | refine z_eqn ?_ | refine z_cv ?_) | refine z_of C.l3 ?_ | refine z_of C.map.len ?_
      obtain ⟨h4, r1, e4, o4, z4, IT⟩ := C.map.rangeD o3
      refine z_p r1 ?_
      rw [one_len]
      have hxs := lk_le_sum (get := CD.bys) hx
      have hw := W.sum
      exact l19 O W hx hn hs (Nat.le_trans e1.1 (Nat.le_trans e2.1 e3.1)) (Nat.le_refl _) (fun h' T' a b c d => k1 x h' T' hx rfl a b c d) (n + 1) h4 x.bys T (by omega) (O3.ext e4 o4) (Fr.of_ext (ext_two E3 e4))
        ((Less.refl W).iff fun k' r' hh => ⟨fun e => e.elim, fun ⟨e1, e2⟩ => by
          obtain ⟨x', q1, q2⟩ := hh
          rw [e1, hx] at q1; cases q1
          rw [e2] at q2; cases q2⟩) (fun _ => hx) (W.bn k x hx) IT ((V2.ext e3).ext e4) rfl (Nat.le_refl _)
end
end Go.Proofs.Ytbamgdknkhhikaa
namespace Go.Proofs.Ytbamgdknkhhikaa
open Go.Ab
set_option linter.unusedSimpArgs false
set_option linter.unusedVariables false
theorem build2 {z1 z2 a b : AV} (h1 : a.leaf = true) (h2 : b.leaf = true) : buildV [z1, z2] [(0, 1, a), (1, 1, b)] = some (.agg [a, b]) := by
  have c1 := cells_leaf h1
  have c2 := cells_leaf h2
  simp only [buildV, fillV, c1, c2, List.length_cons, List.length_nil, allLeaf, h1, h2, lay]
  rfl
theorem c52 {n a b : Nat} {h : AHeap} {x y : Int} {K : Kont} (e1 : loadA h false 1 (.ptr a 0 0 2) = some (.int .i64 x)) (e2 : loadA h false 1 (.ptr b 0 0 2) = some (.int .i64 y)) (hx : 0 ≤ x ∧ x < 1000000) (hy : 0 ≤ y ∧ y < 1000000) (k : K (.int .i64 (x - y)) h = true) :
    callN E (n + 1) (.func 52) [.ptr a 0 0 0, .ptr b 0 0 0] h K = true := by
  apply d52
  unfold s52
  repeat first | (with_reducible first | refine z_nil ?_ | refine z_fadr ?_ | refine z_some ?_ | refine z_ext0 ?_ | refine z_ext1 ?_ | refine z_notT ?_ | refine z_notF ?_ | refine z_cT ?_ | refine z_cF ?_ | refine z_gtt ?_ | refine z_gff ?_ | refine z_gtf ?_ | refine z_gft ?_ | refine z_ptt ?_ | refine z_pff ?_ | refine z_ptf ?_ | refine z_pft ?_ | refine z_rtt ?_ | refine z_rff ?_ | refine z_rtf ?_ | refine z_rft ?_ | refine z_kt ?_ | refine z_kf ?_ | refine z_lss ?_ | refine z_gtr ?_ | refine z_leq ?_ | refine z_geq ?_ | refine z_eql ?_ | refine z_neq ?_ | refine z_seq ?_ | refine z_sne ?_ | refine z_slen ?_ | refine z_eqp ?_ | refine z_eqn ?_ | refine z_cv ?_) | refine z_of e1 ?_ | refine z_of e2 ?_ | refine z_of (sub64 (a := x) (b := y) (by omega) (by omega)) ?_
  exact k
theorem nodup_len {α : Type} [DecidableEq α] : ∀ {a b : List α}, a.Nodup → (∀ x ∈ a, x ∈ b) → a.length ≤ b.length
  | [], _, _, _ => Nat.zero_le _
  | x :: t, b, hn, hs => by
    rw [List.nodup_cons] at hn
    have hx := hs x List.mem_cons_self
    have h1 := nodup_len (b := b.erase x) hn.2 fun y hy => (List.mem_erase_of_ne (fun e => hn.1 (by rw [← e]; exact hy))).2 (hs y (List.mem_cons_of_mem _ hy))
    have h2 := List.length_erase_of_mem hx
    have h3 : 0 < b.length := List.length_pos_of_mem hx
    simp only [List.length_cons]; omega
theorem kiter_nodup {κ : Type} [DecidableEq κ] {kk : KK} {ek : κ → AV} {h : AHeap} {it id : Nat} {l done : List (κ × AV)} (K : Keys kk ek) (IT : KIter ek h it id l done) : (done.map fun p => p.1).Nodup := by
  obtain ⟨es, c, de, m1, q1, q2, q3, q4⟩ := IT
  rw [List.nodup_iff_pairwise_ne, List.pairwise_map]
  have : ∀ {de : List (AV × AV × Nat)} {dn : List (κ × AV)}, Ents ek de dn → (∀ e ∈ de, e ∈ es) → (de.map fun e => e.2.2).Nodup → dn.Pairwise fun a b => a.1 ≠ b.1 := by
    intro de dn E
    induction E with
    | nil => intro _ _; exact .nil
    | cons t ih =>
      rename_i k v b es' l'
      intro hsub hnd
      simp only [List.map_cons, List.nodup_cons] at hnd
      refine .cons (fun p hp q => ?_) (ih (fun e he => hsub e (List.mem_cons_of_mem _ he)) hnd.2)
      obtain ⟨b', hb'⟩ := t.mem' hp
      have := m1.ents.uniq K m1.keys (hsub _ List.mem_cons_self) (hsub _ (List.mem_cons_of_mem _ hb')) (by show ek k = ek p.1; rw [show k = p.1 from q])
      exact hnd.1 (List.mem_map.2 ⟨_, hb', by rw [← this]⟩)
  exact this q1 q2 q3
def cmv (h : AHeap) (v : AV) : Int :=
  match v with
  | .ptr id _ _ _ => match loadA h false 1 (.ptr id 0 0 2) with
    | some (.int _ x) => x
    | _ => 0
  | _ => 0
def pt (x : SK × CD) : AV := .ptr x.2.id 0 0 0
theorem flat_pt (l : List (SK × CD)) : (l.map fun x => [pt x]) = (l.map pt).map fun v => [v] := by simp [List.map_map, Function.comp_def]
theorem c51 {n b : Nat} {h : AHeap} {v : AV} {ps qs : List (SK × CD)} {K : Kont} (o : h.Ok) (O : Own b h 1 v (ps.map fun x => [pt x])) (hp : ps.Perm qs)
    (hr : ∀ x ∈ qs, Var h x.2.id [.str x.2.cls, x.2.vals, .int .i64 (x.2.came : Int), .map x.2.m] ∧ x.2.id < b ∧ x.2.came < 1000000)
    (hs : (qs.map fun x => x.2.came).Pairwise fun a b => a < b) (hl : ps.length < 1000000)
    (k : ∀ h', Fr (inRow v) h h' → h'.Ok → Own b h' 1 v (qs.map fun x => [pt x]) → K (.tup []) h' = true) :
    callN E (n + 2) (.func 51) [v, .fn (.func 52) [] []] h K = true := by
  show sortP [52] (callN E (n + 1)) (n + 1) [v, .fn (.func 52) [] []] h K = true
  have l2 : ∀ x ∈ qs, loadA h false 1 (.ptr x.2.id 0 0 2) = some (.int .i64 (x.2.came : Int)) := fun x hx => (hr x hx).1.get rfl
  have cv : ∀ x ∈ qs, cmv h (pt x) = (x.2.came : Int) := fun x hx => by simp only [cmv, pt, l2 x hx]
  rcases O with ⟨rfl, he⟩ | ⟨id, r, w1, rfl, w3, w4, w5, w6, w7⟩
  · have hks : ps = [] := by simpa using he
    subst hks
    have : qs = [] := hp.symm.eq_nil
    subst this
    exact k h (Fr.refl _ _) o (.inl ⟨rfl, rfl⟩)
  · rw [List.length_map] at *
    have hne : ∀ x ∈ qs, x.2.id ≠ id := fun x hx => by have := (hr x hx).2.1; omega
    show (bif Nat.beq ps.length 0 then K (.tup []) h else cdec _) = true
    cases hz : Nat.beq ps.length 0 with
    | true =>
      have h0 := nbeq_true.1 hz
      have hks : ps = [] := List.length_eq_zero_iff.1 h0
      subst hks
      have : qs = [] := hp.symm.eq_nil
      subst this
      exact k h (Fr.refl _ _) o (.inr ⟨id, r, w1, rfl, w3, w4, w5, w6, w7⟩)
    | false =>
      rw [cond_false]
      refine cdec_true.2 ⟨List.mem_singleton.2 rfl, r, ps.map pt, fun x y => cmv h x - cmv h y, rfl, List.length_map _, ?_⟩
      have lay_us : ∀ us : List AV, us.length = ps.length → lay r.es 0 (us.map fun v => [v]) = us.map fun v => [v] := fun us hu => by
        have : r.es.length = us.length := by rw [w7, List.length_map, hu]
        simp only [lay, List.take_zero, List.nil_append, List.length_map, Nat.zero_add]
        rw [List.drop_of_length_le (by omega), List.append_nil]
      have pts : ∀ x ∈ ps.map pt, ∃ s ∈ qs, x = pt s := fun x hx => by
        obtain ⟨s, hs, rfl⟩ := List.mem_map.1 hx; exact ⟨s, hp.mem_iff.1 hs, rfl⟩
      refine ⟨AHeap.row_some.1 w3, w4, w6, ?_, by rw [List.length_map]; omega, fun x _ => by omega, fun x _ y _ z _ => by omega, fun x _ y _ z _ => by omega, ?_, ?_⟩
      · rw [w7, List.drop_zero, List.length_map, List.take_of_length_le (by rw [List.length_map]; exact Nat.le_refl _)]; exact flat_pt ps
      · intro us hu _ x hx y hy
        obtain ⟨a, ha, rfl⟩ := pts x hx
        obtain ⟨b, hb, rfl⟩ := pts y hy
        have f : Fr (fun j => j = id) h (putSeg h id r 0 us) := Fr.put (X := fun j => j = id) rfl h _
        have Va := f.var (hr a ha).1 (hne a ha)
        have Vb := f.var (hr b hb).1 (hne b hb)
        refine c52 (x := (a.2.came : Int)) (y := (b.2.came : Int)) (by rw [load_frz Va]; rfl) (by rw [load_frz Vb]; rfl) ⟨by omega, by have := (hr a ha).2.2; omega⟩ ⟨by omega, by have := (hr b hb).2.2; omega⟩ ?_
        rw [cv a ha, cv b hb]
        show ieqb _ _ = true
        rw [ieqb_dec]; exact decide_eq_true rfl
      · intro us hp1 hp2
        have inj : ∀ a ∈ qs, ∀ b ∈ qs, a.2.came = b.2.came → a = b := fun a ha b hb hab => by
          rw [List.pairwise_map] at hs
          rcases List.mem_iff_getElem.1 ha with ⟨i1, h1, rfl⟩
          rcases List.mem_iff_getElem.1 hb with ⟨i2, h2, rfl⟩
          rcases Nat.lt_trichotomy i1 i2 with q | q | q
          · have := List.pairwise_iff_getElem.1 hs i1 i2 h1 h2 q; omega
          · subst q; rfl
          · have := List.pairwise_iff_getElem.1 hs i2 i1 h2 h1 q; omega
        have heq : us = qs.map pt := by
          refine List.Perm.eq_of_pairwise (le := fun a b => ¬ cmv h b - cmv h a < 0) (fun a b ha hb h1 h2 => ?_) hp2 ?_ (hp1.trans (hp.map pt))
          · obtain ⟨s, hs1, rfl⟩ := pts a (hp1.mem_iff.1 ha)
            obtain ⟨t, ht, rfl⟩ := List.mem_map.1 hb
            rw [cv s hs1, cv t ht] at h1 h2
            rw [inj s hs1 t ht (by omega)]
          · rw [List.pairwise_map] at hs ⊢
            refine hs.imp_of_mem fun {a b} ha hb e => ?_
            rw [cv a ha, cv b hb]; omega
        subst heq
        have hlen : qs.length = ps.length := hp.length_eq.symm
        refine k _ ((Fr.put (X := fun j => j = id) rfl h _).mono fun j e => by rw [e]; exact ⟨_, _, _, _, _, rfl⟩) (o.put (o.lt (AHeap.row_some.1 w3)) _) ?_
        refine .inr ⟨id, { r with es := lay r.es 0 ((qs.map pt).map fun v => [v]), m := r.g }, w1, by rw [List.length_map, hlen], AHeap.row_some.2 (get_put_same _ _ _), w4, Nat.le_refl _, w6, ?_⟩
        show lay r.es 0 _ = _
        rw [lay_us _ (by rw [List.length_map, hlen]), flat_pt]
def outE (cs : List (SK × CD)) (vs : List (AV × Nat × Nat)) : List (List AV) := List.zipWith (fun p u => [.str p.2.cls, u.1]) cs vs
structure Outs (G : AHeap → Nat → Nat → SK × CD → AV → Prop) (b : Nat) (h : AHeap) (out : AV) (cs : List (SK × CD)) (vs : List (AV × Nat × Nat)) : Prop where
  own : Own b h 2 out (outE cs vs)
  len : vs.length = cs.length
  g : ∀ (i : Nat) (p : SK × CD) (u : AV × Nat × Nat), cs[i]? = some p → vs[i]? = some u → G h u.2.1 u.2.2 p u.1 ∧ b ≤ u.2.1 ∧ u.2.2 ≤ h.sz ∧ ∀ j, inRow out j → ¬ (u.2.1 ≤ j ∧ j < u.2.2)
  pw : vs.Pairwise fun u w => u.2.2 ≤ w.2.1
theorem outE_len {cs : List (SK × CD)} {vs : List (AV × Nat × Nat)} (e : vs.length = cs.length) : (outE cs vs).length = cs.length := by simp [outE, e]
section
variable {τ : Nat → Tag} {h : AHeap} {T : TD} {K : Kont} {n : Nat} {G : AHeap → Nat → Nat → SK × CD → AV → Prop}
theorem l21 {hs : AHeap} {lv : AV} (O : TO τ h T) (hl : T.cs.length < 1000000) (os : hs.Ok) (es : Ext h hs) (VL : View hs 1 lv (T.cs.map fun x => [pt x]))
    (hg : ∀ k x, (k, x) ∈ T.cs → ∀ h1, h1.Ok → Ext h h1 → ∀ K' : Kont, (∀ h2 v, Ext h1 h2 → h2.Ok → v.leaf = true → G h2 h1.sz h2.sz (k, x) v → K' v h2 = true) → callN E (n + 1) (.func 40) [x.vals] h1 K' = true)
    (gfr : ∀ h1 h2 lo hi a v, G h1 lo hi a v → (∀ j o, lo ≤ j → j < hi → h1.get j = some o → h2.get j = some o) → G h2 lo hi a v)
    (kk : ∀ h' out vs, Ext hs h' → h'.Ok → Outs G hs.sz h' out T.cs vs → K out h' = true) :
    ∀ m i h1 out vs, T.cs.length - i < m → i ≤ T.cs.length → Ext hs h1 → h1.Ok → Outs G hs.sz h1 out (T.cs.take i) vs → l21_27 (callN E (n + 1)) (n + 1) m out lv (.int .i64 (T.cs.length : Int)) (.int .i64 (i : Int)) h1 K = true := by
  have hlim : lim = 4611686018427387904 := rfl
  have hmo : most = 1099511627776 := rfl
  intro m
  induction m with
  | zero => intro i h1 out vs hm; omega
  | succ m ih =>
    intro i h1 out vs hm hi e1 o1 U
    unfold l21_27 b21_27
    repeat first | (with_reducible first | refine z_nil ?_ | refine z_fadr ?_ | refine z_some ?_ | refine z_ext0 ?_ | refine z_ext1 ?_ | refine z_notT ?_ | refine z_notF ?_ | refine z_cT ?_ | refine z_cF ?_ | refine z_gtt ?_ | refine z_gff ?_ | refine z_gtf ?_ | refine z_gft ?_ | refine z_ptt ?_ | refine z_pff ?_ | refine z_ptf ?_ | refine z_pft ?_ | refine z_rtt ?_ | refine z_rff ?_ | refine z_rtf ?_ | refine z_rft ?_ | refine z_kt ?_ | refine z_kf ?_ | refine z_lss ?_ | refine z_gtr ?_ | refine z_leq ?_ | refine z_geq ?_ | refine z_eql ?_ | refine z_neq ?_ | refine z_seq ?_ | refine z_sne ?_ | refine z_slen ?_ | refine z_eqp ?_ | refine z_eqn ?_ | refine z_cv ?_) | refine z_of rfl ?_
    by_cases hlt : i < T.cs.length
    · refine z_ct (decide_eq_true (by omega)) ?_
      have hp := List.getElem?_eq_getElem hlt
      generalize hpp : T.cs[i] = p at hp
      obtain ⟨k, x⟩ := p
      have hmem : (k, x) ∈ T.cs := List.mem_of_getElem? hp
      obtain ⟨id, g, j, q1, q2⟩ := (VL.ext e1).at1 (i := i) (e := [pt (k, x)]) (by rw [List.getElem?_map, hp]; rfl)
      have C := (O.ext (ext_two es e1) o1).c k x hmem
      have q3 : loadA h1 false 1 (.ptr id g j 0) = some (.ptr x.id 0 0 0) := q2 _ _ _
      repeat first | (with_reducible first | refine z_nil ?_ | refine z_fadr ?_ | refine z_some ?_ | refine z_ext0 ?_ | refine z_ext1 ?_ | refine z_notT ?_ | refine z_notF ?_ | refine z_cT ?_ | refine z_cF ?_ | refine z_gtt ?_ | refine z_gff ?_ | refine z_gtf ?_ | refine z_gft ?_ | refine z_ptt ?_ | refine z_pff ?_ | refine z_ptf ?_ | refine z_pft ?_ | refine z_rtt ?_ | refine z_rff ?_ | refine z_rtf ?_ | refine z_rft ?_ | refine z_kt ?_ | refine z_kf ?_ | refine z_lss ?_ | refine z_gtr ?_ | refine z_leq ?_ | refine z_geq ?_ | refine z_eql ?_ | refine z_neq ?_ | refine z_seq ?_ | refine z_sne ?_ | refine z_slen ?_ | refine z_eqp ?_ | refine z_eqn ?_ | refine z_cv ?_) | refine z_of (q1 _) ?_ | refine z_of q3 ?_ | refine z_of C.l0 ?_ | refine z_of C.l1 ?_
      refine hg k x hmem h1 o1 (ext_two es e1) _ fun h2 v e2 o2 hv hG => ?_
      have C2 := (O.ext (ext_two (ext_two es e1) e2) o2).c k x hmem
      refine z_same C2.l0 (same_str _) ?_
      refine z_of (build2 rfl hv) ?_
      obtain ⟨w, h3, b1, b2, e3, o3, z3, _⟩ := bslice1_v (sz := 2) (z := [AV.str [], .nilSlc]) (v := .agg [.str x.cls, v]) o2 rfl (by decide) (by decide) rfl rfl (by simp [AV.cells, allLeaf, hv]; rfl)
      refine z_p b1 ?_
      have hUl : (T.cs.take i).length = i := by rw [List.length_take]; omega
      have OW := (U.own.ext e2).ext e3
      have hEl := outE_len U.len
      rw [hUl] at hEl
      have e03 := ext_two (ext_two e1 e2) e3
      obtain ⟨out', h4, a1, a2, a3, a4, a5, a6, a7⟩ := OW.app (bytes := 40) (by decide) e03.1 o3 os e03 (Nat.le_refl _) b2.src (by rw [hEl]; simp; omega) (by rw [hEl]; simp; omega)
      refine z_p a1 ?_
      refine z_of (inc64 (show i < lim by omega)) ?_
      have hvl : vs.length = i := by rw [U.len, hUl]
      refine ih (i + 1) h4 out' (vs ++ [(v, h1.sz, h2.sz)]) (by omega) (by omega) a4 a3 ⟨?_, ?_, ?_, ?_⟩
      · have : outE (T.cs.take (i + 1)) (vs ++ [(v, h1.sz, h2.sz)]) = outE (T.cs.take i) vs ++ [AV.cells (.agg [.str x.cls, v])] := by
          unfold outE
          rw [List.take_succ_eq_append_getElem hlt, List.zipWith_append (by rw [hUl, hvl]), hpp]
          rfl
        rw [this]; exact a2
      · rw [List.length_append, hvl, List.length_take]; simp; omega
      · intro i' p u hp' hu'
        have keep3 : ∀ {lo hi : Nat}, (∀ j, inRow out j → ¬ (lo ≤ j ∧ j < hi)) → hi ≤ h3.sz → (∀ j o, lo ≤ j → j < hi → h3.get j = some o → h4.get j = some o) ∧ ∀ j, inRow out' j → ¬ (lo ≤ j ∧ j < hi) := by
          intro lo hi hd hh
          refine ⟨fun j o h1 h2 h3 => a6 j o h3 fun id g s l c ex e q => hd j ⟨g, s, l, c, ex, by rw [e, q]⟩ ⟨h1, h2⟩, fun j hj hc => ?_⟩
          rcases app_row a1 hj with e | e
          · exact hd j e hc
          · omega
        have z1 : h1.sz ≤ h2.sz := e2.1
        by_cases hlt' : i' < i
        · rw [List.getElem?_append_left (by omega)] at hu'
          rw [List.getElem?_take_of_lt (by omega)] at hp'
          obtain ⟨g1, g2, g3, g4⟩ := U.g i' p u (by rw [List.getElem?_take_of_lt hlt']; exact hp') hu'
          obtain ⟨k1, k2⟩ := keep3 g4 (by omega)
          refine ⟨gfr h1 h4 _ _ _ _ g1 fun j o c1 c2 c3 => k1 j o c1 c2 (e3.2 _ _ (e2.2 _ _ c3)), g2, by omega, k2⟩
        · have : i' = i := by
            have := (List.getElem?_eq_some_iff.1 hu').1
            rw [List.length_append, hvl] at this
            simp at this; omega
          subst this
          rw [List.getElem?_append_right (by omega), hvl, Nat.sub_self] at hu'
          simp at hu'
          subst hu'
          rw [List.getElem?_take_of_lt (by omega), hp] at hp'
          cases hp'
          obtain ⟨k1, k2⟩ := keep3 (lo := h1.sz) (hi := h2.sz) (fun j hj hc => by have := own_lt (own_low U.own) o1 hj; omega) (by omega)
          exact ⟨gfr h2 h4 _ _ _ _ hG fun j o c1 c2 c3 => k1 j o c1 c2 (e3.2 _ _ c3), e1.1, by show h2.sz ≤ h4.sz; omega, k2⟩
      · rw [List.pairwise_append]
        refine ⟨U.pw, by simp, fun u hu w hw => ?_⟩
        simp at hw; subst hw
        obtain ⟨i', hi', rfl⟩ := List.mem_iff_getElem.1 hu
        have := U.g i' T.cs[i'] vs[i'] (by rw [List.getElem?_take_of_lt (by omega)]; exact List.getElem?_eq_getElem _) (List.getElem?_eq_getElem _)
        exact this.2.2.1
    · refine z_cf (decide_eq_false (by omega)) ?_
      rw [List.take_of_length_le (by omega)] at U
      exact kk h1 out vs e1 o1 U
theorem c21 (O : TO τ h T) (W : TW T) (hc : T.came < 1000000) (hl : T.cs.length < 1000000) (hf : T.cs.length < n)
    (hg : ∀ k x, (k, x) ∈ T.cs → ∀ h1, h1.Ok → Ext h h1 → ∀ K' : Kont, (∀ h2 v, Ext h1 h2 → h2.Ok → v.leaf = true → G h2 h1.sz h2.sz (k, x) v → K' v h2 = true) → callN E (n + 2) (.func 40) [x.vals] h1 K' = true)
    (gfr : ∀ h1 h2 lo hi a v, G h1 lo hi a v → (∀ j o, lo ≤ j → j < hi → h1.get j = some o → h2.get j = some o) → G h2 lo hi a v)
    (kk : ∀ h' out vs b, h.sz ≤ b → Ext h h' → h'.Ok → Outs G b h' out T.cs vs → K out h' = true) :
    callN E (n + 3) (.func 21) [.ptr T.p 0 0 0] h K = true := by
  have hmo : most = 1099511627776 := rfl
  apply d21
  unfold s21
  repeat first | (with_reducible first | refine z_nil ?_ | refine z_fadr ?_ | refine z_some ?_ | refine z_ext0 ?_ | refine z_ext1 ?_ | refine z_notT ?_ | refine z_notF ?_ | refine z_cT ?_ | refine z_cF ?_ | refine z_gtt ?_ | refine z_gff ?_ | refine z_gtf ?_ | refine z_gft ?_ | refine z_ptt ?_ | refine z_pff ?_ | refine z_ptf ?_ | refine z_pft ?_ | refine z_rtt ?_ | refine z_rff ?_ | refine z_rtf ?_ | refine z_rft ?_ | refine z_kt ?_ | refine z_kf ?_ | refine z_lss ?_ | refine z_gtr ?_ | refine z_leq ?_ | refine z_geq ?_ | refine z_eql ?_ | refine z_neq ?_ | refine z_seq ?_ | refine z_sne ?_ | refine z_slen ?_ | refine z_eqp ?_ | refine z_eqn ?_ | refine z_cv ?_) | refine z_of O.l0 ?_
  obtain ⟨h1, r1, e1, o1, z1, IT⟩ := O.cs.range' O.ok
  refine z_p r1 ?_
  suffices H : ∀ m h2 lv (done : List (SK × CD)), T.cs.length - done.length < m → done.length ≤ T.cs.length → Ext h h2 → h2.Ok → h.sz < h2.sz → KIter sk h2 h.sz T.cm (mp (fun x => .ptr x.id 0 0 0) T.cs) (mp (fun x => .ptr x.id 0 0 0) done) → (∀ x ∈ done, x ∈ T.cs) → Own (h.sz + 1) h2 1 lv (done.map fun x => [pt x]) →
      l21_8 (callN E (n + 2)) (n + 2) m lv (.itr h.sz) h2 K = true from H (n + 2) h1 .nilSlc [] (by simp; omega) (Nat.zero_le _) e1 o1 (by omega) IT (by simp) (Own.nil _ _ _)
  intro m
  induction m with
  | zero => intro h2 lv done hm; omega
  | succ m ih =>
    intro h2 lv done hm hd e2 o2 z2 IT hin OL
    unfold l21_8 b21_8
    have cml := O.cs.lt O.ok
    refine IT.next sks o2 (by omega) (fun hP => ?_) (fun k v h3 hv hnd b3 o3 z3 IT3 ent => ?_)
    · repeat first | (with_reducible first | refine z_nil ?_ | refine z_fadr ?_ | refine z_some ?_ | refine z_ext0 ?_ | refine z_ext1 ?_ | refine z_notT ?_ | refine z_notF ?_ | refine z_cT ?_ | refine z_cF ?_ | refine z_gtt ?_ | refine z_gff ?_ | refine z_gtf ?_ | refine z_gft ?_ | refine z_ptt ?_ | refine z_pff ?_ | refine z_ptf ?_ | refine z_pft ?_ | refine z_rtt ?_ | refine z_rff ?_ | refine z_rtf ?_ | refine z_rft ?_ | refine z_kt ?_ | refine z_kf ?_ | refine z_lss ?_ | refine z_gtr ?_ | refine z_leq ?_ | refine z_geq ?_ | refine z_eql ?_ | refine z_neq ?_ | refine z_seq ?_ | refine z_sne ?_ | refine z_slen ?_ | refine z_eqp ?_ | refine z_eqn ?_ | refine z_cv ?_) | refine z_some ?_
      have hinj : ∀ {a b : SK × CD}, a ∈ T.cs → b ∈ T.cs → a.1 = b.1 → a = b := fun {a b} ha hb e => by
        have h1 := lkG_of_mem (k := a.1) (u := a.2) W.ck ha
        have h2 := lkG_of_mem (k := b.1) (u := b.2) W.ck hb
        rw [e, h2] at h1
        injection h1 with h1
        exact Prod.ext e h1.symm
      have hPk : (done.map fun x => x.1).Perm (T.cs.map fun x => x.1) := by
        have := hP.map fun p => p.1
        rwa [mp_keys, mp_keys] at this
      have hP : done.Perm T.cs := by
        have nd1 : done.Nodup := by
          have := hPk.nodup_iff.2 W.ck
          rw [List.nodup_iff_pairwise_ne, List.pairwise_map] at this
          rw [List.nodup_iff_pairwise_ne]
          exact this.imp fun q e => q (by rw [e])
        have nd2 : T.cs.Nodup := by
          have := W.ck
          rw [List.nodup_iff_pairwise_ne, List.pairwise_map] at this
          rw [List.nodup_iff_pairwise_ne]
          exact this.imp fun q e => q (by rw [e])
        refine (List.perm_ext_iff_of_nodup nd1 nd2).2 fun p => ⟨hin p, fun hp => ?_⟩
        have : p.1 ∈ done.map fun x => x.1 := hPk.mem_iff.2 (List.mem_map.2 ⟨p, hp, rfl⟩)
        obtain ⟨q, hq, e⟩ := List.mem_map.1 this
        rw [← hinj (hin q hq) hp e]; exact hq
      unfold p21_19
      have O2 := O.ext e2 o2
      refine c51 o2 OL hP (fun x hx => ⟨(O2.c x.1 x.2 hx).row, by have := ((O.c x.1 x.2 hx).row.lt O.ok); omega, by
        have := W.tc x.2.came (by simp only [mp, List.map_map, List.mem_map]; exact ⟨x, hx, rfl⟩)
        omega⟩) (by have := W.sc; simpa [mp, List.map_map, Function.comp_def] using this) (by omega) fun h3 f3 o3 OL3 => ?_
      have e3 : Ext h h3 := f3.ext e2 O.ok fun j hj => by have := own_row OL hj; omega
      have VL := OL3.view
      have hlen : lenA h3 1 lv = some (.int .i64 (T.cs.length : Int)) := by have := VL.len; rwa [List.length_map] at this
      refine z_of hlen ?_
      refine l21 (n := n + 1) O hl o3 e3 VL hg gfr (fun h' out vs q1 q2 q3 => kk h' out vs h3.sz e3.1 (ext_two e3 q1) q2 q3) (n + 2) 0 h3 .nilSlc [] (by omega) (Nat.zero_le _) (Ext.refl _) o3 ⟨Own.nil _ _ _, rfl, by simp, by simp⟩
    · obtain ⟨y, hy, hye⟩ := List.mem_map.1 hv
      obtain ⟨k', x⟩ := y
      simp only [Prod.mk.injEq] at hye
      obtain ⟨rfl, rfl⟩ := hye
      repeat first | (with_reducible first | refine z_nil ?_ | refine z_fadr ?_ | refine z_some ?_ | refine z_ext0 ?_ | refine z_ext1 ?_ | refine z_notT ?_ | refine z_notF ?_ | refine z_cT ?_ | refine z_cF ?_ | refine z_gtt ?_ | refine z_gff ?_ | refine z_gtf ?_ | refine z_gft ?_ | refine z_ptt ?_ | refine z_pff ?_ | refine z_ptf ?_ | refine z_pft ?_ | refine z_rtt ?_ | refine z_rff ?_ | refine z_rtf ?_ | refine z_rft ?_ | refine z_kt ?_ | refine z_kf ?_ | refine z_lss ?_ | refine z_gtr ?_ | refine z_leq ?_ | refine z_geq ?_ | refine z_eql ?_ | refine z_neq ?_ | refine z_seq ?_ | refine z_sne ?_ | refine z_slen ?_ | refine z_eqp ?_ | refine z_eqn ?_ | refine z_cv ?_) | refine z_of ent ?_
      have e3 : Ext h h3 := b3.ext e2 O.ok (Nat.le_refl _)
      obtain ⟨w, h4, c1, c2, e4, o4, z4, _⟩ := bslice1_v (sz := 1) (z := [AV.nilPtr]) (v := .ptr x.id 0 0 0) o3 rfl (by decide) (by decide) rfl rfl rfl
      refine z_p c1 ?_
      have OL3 : Own (h.sz + 1) h3 1 lv (done.map fun x => [pt x]) := by
        have := own_fr (own_low OL) (Fr.of_but (X := fun j => j = h.sz) rfl b3) (fun j hj e => by have := own_row OL hj; omega)
        rcases this with q | ⟨id, r, w1, w2, w3⟩
        · exact .inl q
        · exact .inr ⟨id, r, own_row OL (by rw [w2]; exact ⟨_, _, _, _, _, rfl⟩), w2, w3⟩
      obtain ⟨lv', h5, a1, a2, a3, a4, a5, a6, a7⟩ := (OL3.ext e4).app (bytes := 8) (h0 := h) (by decide) (by omega) o4 O.ok (ext_two e3 e4) (by omega) c2.src (by rw [List.length_map]; simp; omega) (by rw [List.length_map]; simp; omega)
      refine z_p a1 ?_
      have nin : (k', x) ∉ done := fun q => hnd (List.mem_map.2 ⟨_, q, rfl⟩)
      have hdl : done.length < T.cs.length := by
        have : ((mp (fun x : CD => AV.ptr x.id 0 0 0) (done ++ [(k', x)])).map fun p => p.1).Nodup := by
          have e : mp (fun x : CD => AV.ptr x.id 0 0 0) (done ++ [(k', x)]) = mp (fun x : CD => AV.ptr x.id 0 0 0) done ++ [(k', .ptr x.id 0 0 0)] := by simp [mp]
          rw [e]; exact kiter_nodup sks IT3
        rw [mp_keys] at this
        have := nodup_len this (b := T.cs.map fun p => p.1) fun a ha => by
          obtain ⟨q, hq, rfl⟩ := List.mem_map.1 ha
          refine List.mem_map.2 ⟨q, ?_, rfl⟩
          rcases List.mem_append.1 hq with hq | hq
          · exact hin q hq
          · simp at hq; subst hq; exact hy
        rw [List.length_map, List.length_map, List.length_append] at this
        simp at this; omega
      have g5 : ∀ j o, h3.get j = some o → ¬ inRow lv j → h5.get j = some o := fun j o q nq => a6 j o (e4.2 _ _ q) fun id g s l c ex e q => nq ⟨g, s, l, c, ex, by rw [e, q]⟩
      have f35 : Fr (inRow lv) h3 h5 := ⟨by omega, fun j o nq q => g5 j o q nq⟩
      refine ih h5 lv' (done ++ [(k', x)]) (by rw [List.length_append]; simp; omega) (by rw [List.length_append]; simp; omega) a4 a3 (by omega) ?_ ?_ ?_
      · have : mp (fun x : CD => AV.ptr x.id 0 0 0) (done ++ [(k', x)]) = mp (fun x : CD => AV.ptr x.id 0 0 0) done ++ [(k', .ptr x.id 0 0 0)] := by simp [mp]
        rw [this]
        exact f35.kiter IT3 (fun q => by have := own_row OL q; omega) (fun q => by have := own_row OL q; omega)
      · intro a ha
        rcases List.mem_append.1 ha with ha | ha
        · exact hin a ha
        · simp at ha; subst ha; exact hy
      · rw [List.map_append]; exact a2
theorem c8 {h : AHeap} (o : h.Ok) (kk : ∀ h' T τ, TO τ h' T → TW T → Ext h h' → T.cs = [] → T.rs = [] → T.came = 0 → T.n = 0 → (∀ j, j < h.sz → τ j = .out) → h.sz ≤ T.p → K (.ptr T.p 0 0 0) h' = true) : callN E (n + 1) (.func 8) [] h K = true := by
  apply d8
  unfold s8
  obtain ⟨h1, a1, M1, e1, o1, z1⟩ := mkmap_v sk o
  refine z_p a1 ?_
  obtain ⟨h2, a2, M2, e2, o2, z2⟩ := mkmap_v bk2 o1
  refine z_p a2 ?_
  refine z_of (v := .agg [.map h.sz, .map h1.sz, .int .i64 0, .int .i64 0]) rfl ?_
  obtain ⟨h3, a3, V3, e3, o3, z3⟩ := box_v (n := 4) (v := .agg [.map h.sz, .map h1.sz, .int .i64 0, .int .i64 0]) o2 rfl (by decide) rfl
  refine z_p a3 ?_
  have V3 : Var h3 h2.sz [.map h.sz, .map h1.sz, .int .i64 0, .int .i64 0] := V3
  refine kk h3 ⟨h2.sz, h.sz, h1.sz, [], [], 0, 0⟩ (fun j => if j = h2.sz then .p else if j = h.sz then .cm else if j = h1.sz then .rm else .out) ⟨o3, fun j hj => ?_, by simp, ?_, ?_, V3, ?_, ?_, by simp, by simp⟩ ?_ (ext_two (ext_two e1 e2) e3) rfl rfl rfl rfl (fun j hj => ?_) (by show h.sz ≤ h2.sz; omega)
  · rw [if_neg (by omega), if_neg (by omega), if_neg (by omega)]
  · have n1 : ¬ h.sz = h2.sz := by omega
    simp only [n1, if_false, if_true]
  · have n1 : ¬ h1.sz = h2.sz := by omega
    have n2 : ¬ h1.sz = h.sz := by omega
    simp only [n1, n2, if_false, if_true]
  · exact (Fr.of_ext (X := fun _ => False) (ext_two e2 e3)).kmap M1 id
  · exact (Fr.of_ext (X := fun _ => False) e3).kmap M2 id
  · exact ⟨by simp, by simp, fun _ _ h => (by cases h), fun _ _ h => (by cases h), fun _ _ => ⟨fun ⟨_, h, _⟩ => (by cases h), fun ⟨_, h, _⟩ => (by cases h)⟩, fun _ _ h => (by cases h), fun _ _ h => (by cases h), by simp [mp], by simp [mp], by simp [mp], by simp [mp], rfl⟩
  · rw [if_neg (by omega), if_neg (by omega), if_neg (by omega)]
end
end Go.Proofs.Ytbamgdknkhhikaa
namespace Go.Proofs.Ytbamgdknkhhikaa
open Go.Ab
set_option linter.unusedSimpArgs false
set_option linter.unusedVariables false
section
variable {κ β γ δ : Type} [DecidableEq κ] [DecidableEq γ] {get : β → List (γ × Unit)} {set : β → List (γ × Unit) → β} {l : List (κ × β)} {k : κ} {r : γ} {x new : β}
def putG (get : β → List (γ × Unit)) (set : β → List (γ × Unit) → β) (l : List (κ × β)) (k : κ) (r : γ) (new : β) : List (κ × β) :=
  upG l k (set ((lkG l k).getD new) (upG (get ((lkG l k).getD new)) r ()))
theorem upG_len (l : List (γ × Unit)) (r : γ) : (upG l r ()).length = l.length + (if lkG l r = none then 1 else 0) := by
  cases h : lkG l r with
  | none => rw [upG_none h, if_pos rfl]; simp
  | some u => rw [upG_length h, if_neg (by simp)]; rfl
theorem putG_lk (j : κ) : lkG (putG get set l k r new) j = if j = k then some (set ((lkG l k).getD new) (upG (get ((lkG l k).getD new)) r ())) else lkG l j := lkG_up
theorem putG_nodup (hn : (l.map fun p => p.1).Nodup) : ((putG get set l k r new).map fun p => p.1).Nodup := upG_nodup hn
theorem hasG_some (hx : lkG l k = some x) : hasG get l k r ↔ lkG (get x) r = some () := ⟨fun ⟨y, h1, h2⟩ => by rw [hx] at h1; cases h1; exact h2, fun h => ⟨x, hx, h⟩⟩
theorem hasG_none (hx : lkG l k = none) : ¬ hasG get l k r := fun ⟨y, h1, _⟩ => by rw [hx] at h1; cases h1
theorem putG_has (hs : ∀ x d, get (set x d) = d) (h0 : get new = []) (j : κ) (s : γ) : hasG get (putG get set l k r new) j s ↔ hasG get l j s ∨ (j = k ∧ s = r) := by
  by_cases e : j = k
  · subst e
    have h1 : lkG (putG get set l j r new) j = some _ := (putG_lk j).trans (if_pos rfl)
    rw [hasG_some h1, hs, lkG_up]
    by_cases e2 : s = r
    · rw [if_pos e2]; exact ⟨fun _ => .inr ⟨rfl, e2⟩, fun _ => rfl⟩
    · rw [if_neg e2]
      cases hx : lkG l j with
      | none =>
        simp only [Option.getD, h0]
        exact ⟨fun h => (by cases h), fun h => h.elim (fun h => (hasG_none hx h).elim) fun h => (e2 h.2).elim⟩
      | some x =>
        simp only [Option.getD]
        rw [hasG_some hx]
        exact ⟨.inl, fun h => h.elim id fun h => (e2 h.2).elim⟩
  · have h1 : lkG (putG get set l k r new) j = lkG l j := (putG_lk j).trans (if_neg e)
    unfold hasG
    rw [h1]
    exact ⟨.inl, fun h => h.elim id fun h => (e h.1).elim⟩
theorem putG_all (P : β → Prop) (h0 : ∀ j y, lkG l j = some y → P y) (h1 : P (set ((lkG l k).getD new) (upG (get ((lkG l k).getD new)) r ()))) : ∀ j y, lkG (putG get set l k r new) j = some y → P y := by
  intro j y hy
  rw [putG_lk] at hy
  by_cases e : j = k
  · rw [if_pos e] at hy; cases hy; exact h1
  · rw [if_neg e] at hy; exact h0 j y hy
theorem putG_ne (hs : ∀ x d, get (set x d) = d) : (get (set ((lkG l k).getD new) (upG (get ((lkG l k).getD new)) r ()))).length ≠ 0 := by
  rw [hs, upG_len]
  cases h : lkG (get ((lkG l k).getD new)) r with
  | none => simp
  | some u =>
    have := lkG_mem h
    have := List.length_pos_of_mem this
    omega
open Classical in
theorem putG_sum (hs : ∀ x d, get (set x d) = d) (h0 : get new = []) : sumG get (putG get set l k r new) = sumG get l + (if hasG get l k r then 0 else 1) := by
  cases hx : lkG l k with
  | none =>
    rw [if_neg (hasG_none hx)]
    unfold putG
    rw [hx, upG_none hx, sumG_app]
    simp [sumG, hs, h0, upG]
  | some x =>
    have h1 := sumG_up (get := get) (v := set x (upG (get x) r ())) hx
    rw [hs, upG_len] at h1
    unfold putG
    rw [hx]
    show sumG get (upG l k (set x (upG (get x) r ()))) = _
    by_cases h : hasG get l k r
    · have h2 := (hasG_some hx).1 h
      rw [if_pos h]
      rw [h2, if_neg (by simp)] at h1; omega
    · have h2 : lkG (get x) r = none := by
        cases q : lkG (get x) r with
        | none => rfl
        | some u => exact (h ((hasG_some hx).2 q)).elim
      rw [if_neg h]
      rw [h2, if_pos rfl] at h1; omega
theorem putG_some (f : β → δ) (hf : ∀ x d, f (set x d) = f x) (hx : lkG l k = some x) : mp f (putG get set l k r new) = mp f l := by
  unfold putG; rw [hx]; exact upG_sub f hx (hf _ _)
theorem putG_none (f : β → δ) (hf : ∀ x d, f (set x d) = f x) (hx : lkG l k = none) : mp f (putG get set l k r new) = mp f l ++ [(k, f new)] := by
  unfold putG; rw [hx, upG_none hx]
  simp [mp, hf]
theorem putG_rise (f : β → Nat) (hf : ∀ x d, f (set x d) = f x) {n : Nat} (h1 : ((mp f l).map fun p => p.2).Pairwise fun a b => a < b) (h2 : ∀ x ∈ (mp f l).map fun p => p.2, x ≤ n) (h3 : n < f new) {m : Nat} (h4 : n ≤ m) (h5 : lkG l k = none → f new ≤ m) :
    (((mp f (putG get set l k r new)).map fun p => p.2).Pairwise fun a b => a < b) ∧ ∀ x ∈ (mp f (putG get set l k r new)).map fun p => p.2, x ≤ m := by
  cases hx : lkG l k with
  | some x =>
    rw [putG_some f hf hx]
    exact ⟨h1, fun x hx => Nat.le_trans (h2 x hx) h4⟩
  | none =>
    rw [putG_none f hf hx, List.map_append]
    refine ⟨List.pairwise_append.2 ⟨h1, by simp, fun a ha b hb => ?_⟩, fun x q => ?_⟩
    · simp only [List.map_cons, List.map_nil, List.mem_singleton] at hb
      subst hb
      exact Nat.lt_of_le_of_lt (h2 a ha) h3
    · rcases List.mem_append.1 q with q | q
      · exact Nat.le_trans (h2 x q) h4
      · simp only [List.map_cons, List.map_nil, List.mem_singleton] at q
        subst q
        exact h5 hx
end
def upC {κ β : Type} [DecidableEq κ] (n : Nat) (l : List (κ × β)) (k : κ) : Nat := n + if (lkG l k).isNone then 1 else 0
theorem upC_le {κ β : Type} [DecidableEq κ] {n : Nat} {l : List (κ × β)} {k : κ} : n ≤ upC n l k ∧ upC n l k ≤ n + 1 := by unfold upC; split <;> omega
def justT (T : TD) (k : SK) (r : BK) (x0 : CD) (y0 : RD) : TD :=
  { T with cs := putG CD.bys setC T.cs k r x0, rs := putG RD.ofs setR T.rs r k y0, came := upC (upC T.came T.cs k) T.rs r, n := T.n + if (lkG ((lkG T.cs k).getD x0).bys r).isNone then 1 else 0 }
structure Fresh (T : TD) (k : SK) (r : BK) (x0 : CD) (y0 : RD) : Prop where
  b : x0.bys = []
  o : y0.ofs = []
  c : x0.came = T.came + 1
  d : y0.came = upC T.came T.cs k + 1
section
variable {T : TD} {k : SK} {r : BK} {x0 : CD} {y0 : RD}
theorem just_n (F : Fresh T k r x0 y0) : (if (lkG ((lkG T.cs k).getD x0).bys r).isNone then 1 else 0) = (open Classical in if hasB T k r then 0 else 1) := by
  cases hx : lkG T.cs k with
  | none => rw [if_neg (hasG_none hx)]; simp only [Option.getD, F.b]; rfl
  | some x =>
    simp only [Option.getD]
    have iN : ∀ {o : Option Unit} {v}, o = v → (if o.isNone then 1 else 0 : Nat) = if v.isNone then 1 else 0 := fun e => by subst e; rfl
    by_cases h : hasB T k r
    · rw [if_pos h, iN ((hasG_some hx).1 h)]; rfl
    · rw [if_neg h]
      have : lkG x.bys r = none := by
        cases q : lkG x.bys r with
        | none => rfl
        | some u => exact (h ((hasG_some hx).2 q)).elim
      rw [iN this]; rfl
theorem just_hasB (F : Fresh T k r x0 y0) (k' : SK) (r' : BK) : hasB (justT T k r x0 y0) k' r' ↔ hasB T k' r' ∨ (k' = k ∧ r' = r) := putG_has (set := setC) (fun _ _ => rfl) F.b k' r'
theorem just_hasR (F : Fresh T k r x0 y0) (k' : SK) (r' : BK) : hasR (justT T k r x0 y0) k' r' ↔ hasR T k' r' ∨ (r' = r ∧ k' = k) := putG_has (set := setR) (fun _ _ => rfl) F.o r' k'
theorem just_w (W : TW T) (F : Fresh T k r x0 y0) : TW (justT T k r x0 y0) := by
  have bd : ∀ z : CD, (z.bys.map fun p => p.1).Nodup → ((setC z (upG z.bys r ())).bys.map fun p => p.1).Nodup := fun z hz => upG_nodup hz
  have od : ∀ z : RD, (z.ofs.map fun p => p.1).Nodup → ((setR z (upG z.ofs k ())).ofs.map fun p => p.1).Nodup := fun z hz => upG_nodup hz
  have c1 := putG_rise (get := CD.bys) (set := setC) (k := k) (r := r) (new := x0) CD.came (fun _ _ => rfl) (m := (justT T k r x0 y0).came) W.sc W.tc (by rw [F.c]; omega)
    (by have := (upC_le (n := T.came) (l := T.cs) (k := k)).1; have := (upC_le (n := upC T.came T.cs k) (l := T.rs) (k := r)).1; show _ ≤ upC (upC T.came T.cs k) T.rs r; omega)
    (fun h => by have := (upC_le (n := upC T.came T.cs k) (l := T.rs) (k := r)).1; rw [F.c]; show _ ≤ upC (upC T.came T.cs k) T.rs r; have : upC T.came T.cs k = T.came + 1 := by simp [upC, h]
                 omega)
  have c2 := putG_rise (get := RD.ofs) (set := setR) (k := r) (r := k) (new := y0) RD.came (fun _ _ => rfl) (n := upC T.came T.cs k) (m := (justT T k r x0 y0).came) W.sr (fun x hx => by have := W.tr x hx; have := (upC_le (n := T.came) (l := T.cs) (k := k)).1; omega) (by rw [F.d]; omega)
    (by have := (upC_le (n := upC T.came T.cs k) (l := T.rs) (k := r)).1; exact this)
    (fun h => by rw [F.d]; show _ ≤ upC (upC T.came T.cs k) T.rs r; have : upC (upC T.came T.cs k) T.rs r = upC T.came T.cs k + 1 := by simp [upC, h]
                 omega)
  refine ⟨putG_nodup W.ck, putG_nodup W.rk, ?_, ?_, fun k' r' => ?_, ?_, ?_, c1.1, c1.2, c2.1, c2.2, ?_⟩
  · refine putG_all (fun z : CD => (z.bys.map fun p => p.1).Nodup) W.bn (bd _ ?_)
    cases h : lkG T.cs k with
    | none => simp only [Option.getD, F.b]; exact List.nodup_nil
    | some x => exact W.bn k x h
  · refine putG_all (fun z : RD => (z.ofs.map fun p => p.1).Nodup) W.on (od _ ?_)
    cases h : lkG T.rs r with
    | none => simp only [Option.getD, F.o]; exact List.nodup_nil
    | some x => exact W.on r x h
  · rw [just_hasB F, just_hasR F, W.bij]
    exact ⟨fun h => h.imp id fun h => ⟨h.2, h.1⟩, fun h => h.imp id fun h => ⟨h.2, h.1⟩⟩
  · exact putG_all (fun z : CD => z.bys.length ≠ 0) W.cne (putG_ne fun _ _ => rfl)
  · exact putG_all (fun z : RD => z.ofs.length ≠ 0) W.rne (putG_ne fun _ _ => rfl)
  · show T.n + _ = sumG CD.bys (putG CD.bys setC T.cs k r x0)
    rw [putG_sum (fun _ _ => rfl) F.b, W.sum, just_n F]
theorem just_n_le : (justT T k r x0 y0).n ≤ T.n + 1 := by show T.n + _ ≤ _; split <;> omega
theorem just_came_le : (justT T k r x0 y0).came ≤ T.came + 2 := by
  have := (upC_le (n := T.came) (l := T.cs) (k := k)).2; have := (upC_le (n := upC T.came T.cs k) (l := T.rs) (k := r)).2; show upC (upC T.came T.cs k) T.rs r ≤ _; omega
end
end Go.Proofs.Ytbamgdknkhhikaa
namespace Go.Proofs.Ytbamgdknkhhikaa
open Go.Ab
set_option linter.unusedSimpArgs false
set_option linter.unusedVariables false
theorem alloc0_v {h : AHeap} (o : h.Ok) : ∃ h', allocV h [] = some (.ptr h.sz 0 0 0, h') ∧ h'.row h.sz = none ∧ Ext h h' ∧ h'.Ok ∧ h'.sz = h.sz + 1 := by
  refine ⟨h.push .gone, rfl, ?_, ext_push o _, o.push _, by simp⟩
  cases e : (h.push .gone).row h.sz with
  | none => rfl
  | some r => rw [AHeap.row_some, get_push_same] at e; cases e
theorem store0_v {h : AHeap} {id : Nat} (e : h.row id = none) : storeA h 0 (.ptr id 0 0 0) (.agg []) = some h := by
  simp only [storeA, e]; rfl
theorem build0 : buildV [] [] = some (.agg []) := rfl
theorem upd_one {κ : Type} [DecidableEq κ] {kk : KK} {ek : κ → AV} {h : AHeap} {id : Nat} {l : List (κ × Unit)} (M : KMap ek h id (one l)) (K : Keys kk ek) (k : κ) :
    ∃ h', mupdA h kk (.map id) (ek k) (.agg []) = some h' ∧ But id h h' ∧ h'.sz = h.sz ∧ (h.Ok → h'.Ok) ∧ KMap ek h' id (one (upG l k ())) := by
  obtain ⟨h', h1, h2, h3, h4, h5⟩ := M.upd K k (.agg [])
  refine ⟨h', h1, h2, h3, h4, ?_⟩
  rw [one, upG_mp, ← up_G]; exact h5
theorem look_one {κ : Type} [DecidableEq κ] {kk : KK} {ek : κ → AV} {h : AHeap} {id : Nat} {l : List (κ × Unit)} (M : KMap ek h id (one l)) (K : Keys kk ek) (k : κ) :
    lookA h kk true (.agg []) (.map id) (ek k) = some (.tup [.agg [], .bool (lkG l k).isSome]) := by
  rw [M.look2 K, lk_G, one, lkG_mp]
  cases lkG l k <;> rfl
def tagC (τ : Nat → Tag) (a b : Nat) (k : SK) (j : Nat) : Tag := if j = a then .c k else if j = b then .b k else τ j
def tagR (τ : Nat → Tag) (a b : Nat) (k : BK) (j : Nat) : Tag := if j = a then .r k else if j = b then .o k else τ j
theorem tagC_ne {τ : Nat → Tag} {a b j : Nat} {k : SK} (h1 : j ≠ a) (h2 : j ≠ b) : tagC τ a b k j = τ j := by unfold tagC; rw [if_neg h1, if_neg h2]
theorem tagR_ne {τ : Nat → Tag} {a b j : Nat} {k : BK} (h1 : j ≠ a) (h2 : j ≠ b) : tagR τ a b k j = τ j := by unfold tagR; rw [if_neg h1, if_neg h2]
section
variable {τ : Nat → Tag} {h h' : AHeap} {T : TD}
theorem TO.addc (O : TO τ h T) {k : SK} {x : CD} (hk : lkG T.cs k = none) (t1 : τ x.id = .out) (t2 : τ x.m = .out) (ne : x.id ≠ x.m)
    (R : Var h x.id [.str x.cls, x.vals, .int .i64 (x.came : Int), .map x.m]) (M : KMap bk2 h x.m (one [])) (hb : x.bys = []) (sm : AV.same x.vals x.vals = true)
    (f : Fr (fun j => j = T.cm) h h') (o : h'.Ok) (M' : KMap sk h' T.cm (up (mp (fun x => .ptr x.id 0 0 0) T.cs) k (.ptr x.id 0 0 0))) :
    TO (tagC τ x.id x.m k) h' { T with cs := upG T.cs k x } := by
  have no : ∀ {j t}, τ j = t → t ≠ .cm → ¬ j = T.cm := fun e w x => w (by rw [← e, x]; exact O.tc)
  have no' : ∀ {t : Tag}, t ≠ .cm → ∀ j, j = T.cm → τ j ≠ t := fun w j x e => w (by rw [← e, x]; exact O.tc)
  have i1 := R.lt O.ok
  have i2 := M.lt O.ok
  have keep : ∀ j, τ j ≠ .out → tagC τ x.id x.m k j = τ j := fun j hj => tagC_ne (fun e => hj (by rw [e]; exact t1)) (fun e => hj (by rw [e]; exact t2))
  refine ⟨o, fun j hj => ?_, ?_, ?_, ?_, f.var O.var (no O.tp fun e => by cases e), ?_, f.kmap O.rs (no O.tr fun e => by cases e), fun k' y hy => ?_, fun k' y hy => (O.r k' y hy).fr f (no' fun e => by cases e) (no' fun e => by cases e) keep⟩
  · have := f.sz
    rw [tagC_ne (by omega) (by omega)]; exact O.hi j (by omega)
  · have := keep T.p (by rw [O.tp]; exact fun e => by cases e); rw [this]; exact O.tp
  · have := keep T.cm (by rw [O.tc]; exact fun e => by cases e); rw [this]; exact O.tc
  · have := keep T.rm (by rw [O.tr]; exact fun e => by cases e); rw [this]; exact O.tr
  · rw [up_G, ← upG_mp (fun x : CD => AV.ptr x.id 0 0 0)] at M'; exact M'
  · rcases upG_mem hy with e | hy
    · cases e
      exact ⟨by unfold tagC; rw [if_pos rfl], by unfold tagC; rw [if_neg (fun e => ne e.symm), if_pos rfl], f.var R (no t1 fun e => by cases e), by rw [hb]; exact f.kmap M (no t2 fun e => by cases e), sm⟩
    · exact (O.c k' y hy).fr f (no' fun e => by cases e) (no' fun e => by cases e) keep
theorem TO.addr (O : TO τ h T) {k : BK} {x : RD} (hk : lkG T.rs k = none) (t1 : τ x.id = .out) (t2 : τ x.m = .out) (ne : x.id ≠ x.m)
    (R : Var h x.id [.int .i64 x.core, x.els, x.env, .int .i64 (x.came : Int), .map x.m]) (M : KMap sk h x.m (one [])) (hb : x.ofs = [])
    (f : Fr (fun j => j = T.rm) h h') (o : h'.Ok) (M' : KMap bk2 h' T.rm (up (mp (fun x => .ptr x.id 0 0 0) T.rs) k (.ptr x.id 0 0 0))) :
    TO (tagR τ x.id x.m k) h' { T with rs := upG T.rs k x } := by
  have no : ∀ {j t}, τ j = t → t ≠ .rm → ¬ j = T.rm := fun e w x => w (by rw [← e, x]; exact O.tr)
  have no' : ∀ {t : Tag}, t ≠ .rm → ∀ j, j = T.rm → τ j ≠ t := fun w j x e => w (by rw [← e, x]; exact O.tr)
  have i1 := R.lt O.ok
  have i2 := M.lt O.ok
  have keep : ∀ j, τ j ≠ .out → tagR τ x.id x.m k j = τ j := fun j hj => tagR_ne (fun e => hj (by rw [e]; exact t1)) (fun e => hj (by rw [e]; exact t2))
  refine ⟨o, fun j hj => ?_, ?_, ?_, ?_, f.var O.var (no O.tp fun e => by cases e), f.kmap O.cs (no O.tc fun e => by cases e), ?_, fun k' y hy => (O.c k' y hy).fr f (no' fun e => by cases e) (no' fun e => by cases e) keep, fun k' y hy => ?_⟩
  · have := f.sz
    rw [tagR_ne (by omega) (by omega)]; exact O.hi j (by omega)
  · have := keep T.p (by rw [O.tp]; exact fun e => by cases e); rw [this]; exact O.tp
  · have := keep T.cm (by rw [O.tc]; exact fun e => by cases e); rw [this]; exact O.tc
  · have := keep T.rm (by rw [O.tr]; exact fun e => by cases e); rw [this]; exact O.tr
  · rw [up_G, ← upG_mp (fun x : RD => AV.ptr x.id 0 0 0)] at M'; exact M'
  · rcases upG_mem hy with e | hy
    · cases e
      exact ⟨by unfold tagR; rw [if_pos rfl], by unfold tagR; rw [if_neg (fun e => ne e.symm), if_pos rfl], f.var R (no t1 fun e => by cases e), by rw [hb]; exact f.kmap M (no t2 fun e => by cases e)⟩
    · exact (O.r k' y hy).fr f (no' fun e => by cases e) (no' fun e => by cases e) keep
end
section
variable {τ : Nat → Tag} {h : AHeap} {T : TD} {K : Kont} {n : Nat} {k : SK} {r : BK} {x : CD} {y : RD} {a7 a8 : Nat}
theorem p36 (O : TO τ h T) (hx : lkG T.cs k = some x) (hy : lkG T.rs r = some y) (V7 : Var h a7 [.str k.1, .str k.2]) (V8 : Var h a8 [.int .i64 r.1, .str r.2]) (t7 : τ a7 = .out) (t8 : τ a8 = .out)
    (kk : ∀ h', TO τ h' { T with cs := upG T.cs k (setC x (upG x.bys r ())), rs := upG T.rs r (setR y (upG y.ofs k ())) } → Fr (W8 τ) h h' → K (.int .i64 0) h' = true) :
    p10_36 (callN E (n + 1)) (n + 1) (.ptr T.p 0 0 0) (.ptr a7 0 0 0) (.ptr a8 0 0 0) h K = true := by
  unfold p10_36
  have C := O.c k x (lkG_mem hx)
  have A7 : loadA h true 2 (.ptr a7 0 0 0) = some (sk k) := V7.all rfl
  have A8 : loadA h true 2 (.ptr a8 0 0 0) = some (bk2 r) := V8.all rfl
  repeat first | (with_reducible first | refine z_nil ?_ | refine z_fadr ?_ | refine z_some ?_ | refine z_ext0 ?_ | refine z_ext1 ?_ | refine z_notT ?_ | refine z_notF ?_ | refine z_cT ?_ | refine z_cF ?_ | refine z_gtt ?_ | refine z_gff ?_ | refine z_gtf ?_ | refine z_gft ?_ | refine z_ptt ?_ | refine z_pff ?_ | refine z_ptf ?_ | refine z_pft ?_ | refine z_rtt ?_ | refine z_rff ?_ | refine z_rtf ?_ | refine z_rft ?_ | refine z_kt ?_ | refine z_kf ?_ | refine z_lss ?_ | refine z_gtr ?_ | refine z_leq ?_ | refine z_geq ?_ | refine z_eql ?_ | refine z_neq ?_ | refine z_seq ?_ | refine z_sne ?_ | refine z_slen ?_ | refine z_eqp ?_ | refine z_eqn ?_ | refine z_cv ?_) | refine z_of O.l0 ?_ | refine z_of A7 ?_ | refine z_of (O.lkc hx) ?_ | refine z_of C.l3 ?_ | refine z_of A8 ?_ | refine z_of build0 ?_
  obtain ⟨h1, q1, q2, q3, q4, q5⟩ := upd_one C.map bks r
  refine z_u q1 ?_
  have o1 := q4 O.ok
  have O1 := O.bys hx (Fr.of_but rfl q2) o1 q5
  have n7 : a7 ≠ x.m := fun e => by have := C.tm; rw [← e, t7] at this; cases this
  have n8 : a8 ≠ x.m := fun e => by have := C.tm; rw [← e, t8] at this; cases this
  have V7 := q2.var V7 n7
  have V8 := q2.var V8 n8
  have A7 : loadA h1 true 2 (.ptr a7 0 0 0) = some (sk k) := V7.all rfl
  have A8 : loadA h1 true 2 (.ptr a8 0 0 0) = some (bk2 r) := V8.all rfl
  have R := O1.r r y (lkG_mem hy)
  have lr : lookA h1 (KK.st [K0.int, K0.str]) false (AV.nilPtr) (.map T.rm) (bk2 r) = some (.ptr y.id 0 0 0) := O1.lkr hy
  have l1 : loadA h1 false 1 (.ptr T.p 0 0 1) = some (.map T.rm) := O1.l1
  repeat first | (with_reducible first | refine z_nil ?_ | refine z_fadr ?_ | refine z_some ?_ | refine z_ext0 ?_ | refine z_ext1 ?_ | refine z_notT ?_ | refine z_notF ?_ | refine z_cT ?_ | refine z_cF ?_ | refine z_gtt ?_ | refine z_gff ?_ | refine z_gtf ?_ | refine z_gft ?_ | refine z_ptt ?_ | refine z_pff ?_ | refine z_ptf ?_ | refine z_pft ?_ | refine z_rtt ?_ | refine z_rff ?_ | refine z_rtf ?_ | refine z_rft ?_ | refine z_kt ?_ | refine z_kf ?_ | refine z_lss ?_ | refine z_gtr ?_ | refine z_leq ?_ | refine z_geq ?_ | refine z_eql ?_ | refine z_neq ?_ | refine z_seq ?_ | refine z_sne ?_ | refine z_slen ?_ | refine z_eqp ?_ | refine z_eqn ?_ | refine z_cv ?_) | refine z_of l1 ?_ | refine z_of A8 ?_ | refine z_of lr ?_ | refine z_of R.l4 ?_ | refine z_of A7 ?_ | refine z_of build0 ?_
  obtain ⟨h2, w1, w2, w3, w4, w5⟩ := upd_one R.map sks k
  refine z_u w1 ?_
  exact kk h2 (O1.ofs hy (Fr.of_but rfl w2) (w4 o1) w5) ((Fr.of_but (by show (τ x.m).own; rw [C.tm]; trivial) q2).trans (Fr.of_but (by show (τ y.m).own; rw [R.tm]; trivial) w2))
theorem p28 (O : TO τ h T) (hx : lkG T.cs k = some x) (hy : lkG T.rs r = some y) (V7 : Var h a7 [.str k.1, .str k.2]) (V8 : Var h a8 [.int .i64 r.1, .str r.2]) (t7 : τ a7 = .out) (t8 : τ a8 = .out) (hn : T.n < 1000000)
    (kk : ∀ h', TO τ h' { T with n := T.n + (if (lkG x.bys r).isNone then 1 else 0), cs := upG T.cs k (setC x (upG x.bys r ())), rs := upG T.rs r (setR y (upG y.ofs k ())) } → Fr (W8 τ) h h' → K (.int .i64 0) h' = true) :
    p10_28 (callN E (n + 1)) (n + 1) (.ptr T.p 0 0 0) (.ptr a7 0 0 0) (.ptr a8 0 0 0) h K = true := by
  unfold p10_28
  have C := O.c k x (lkG_mem hx)
  have A7 : loadA h true 2 (.ptr a7 0 0 0) = some (sk k) := V7.all rfl
  have A8 : loadA h true 2 (.ptr a8 0 0 0) = some (bk2 r) := V8.all rfl
  repeat first | (with_reducible first | refine z_nil ?_ | refine z_fadr ?_ | refine z_some ?_ | refine z_ext0 ?_ | refine z_ext1 ?_ | refine z_notT ?_ | refine z_notF ?_ | refine z_cT ?_ | refine z_cF ?_ | refine z_gtt ?_ | refine z_gff ?_ | refine z_gtf ?_ | refine z_gft ?_ | refine z_ptt ?_ | refine z_pff ?_ | refine z_ptf ?_ | refine z_pft ?_ | refine z_rtt ?_ | refine z_rff ?_ | refine z_rtf ?_ | refine z_rft ?_ | refine z_kt ?_ | refine z_kf ?_ | refine z_lss ?_ | refine z_gtr ?_ | refine z_leq ?_ | refine z_geq ?_ | refine z_eql ?_ | refine z_neq ?_ | refine z_seq ?_ | refine z_sne ?_ | refine z_slen ?_ | refine z_eqp ?_ | refine z_eqn ?_ | refine z_cv ?_) | refine z_of O.l0 ?_ | refine z_of A7 ?_ | refine z_of (O.lkc hx) ?_ | refine z_of C.l3 ?_ | refine z_of A8 ?_ | refine z_of (look_one C.map bks r) ?_
  obtain ⟨h1, b1, b2, e1, o1, z1⟩ := alloc0_v O.ok
  refine z_p b1 ?_
  have O1 := O.ext e1 o1
  have V7 := V7.ext e1
  have V8 := V8.ext e1
  have C1 := O1.c k x (lkG_mem hx)
  have A7 : loadA h1 true 2 (.ptr a7 0 0 0) = some (sk k) := V7.all rfl
  have A8 : loadA h1 true 2 (.ptr a8 0 0 0) = some (bk2 r) := V8.all rfl
  refine z_same O1.l0 (same_map _) ?_
  refine z_same A7 (same_agg (sames_cons (same_str _) (sames_cons (same_str _) sames_nil))) ?_
  refine z_same (O1.lkc hx) (same_ptr _ _ _ _) ?_
  refine z_same C1.l3 (same_map _) ?_
  refine z_same A8 (same_agg (sames_cons (same_int _ _) (sames_cons (same_str _) sames_nil))) ?_
  refine z_same (look_one C1.map bks r) (same_tup (sames_cons (same_agg sames_nil) (sames_cons (same_bool _) sames_nil))) ?_
  refine z_u (store0_v b2) ?_
  cases hr : lkG x.bys r with
  | some u =>
    rw [hr] at kk
    repeat first | (with_reducible first | refine z_nil ?_ | refine z_fadr ?_ | refine z_some ?_ | refine z_ext0 ?_ | refine z_ext1 ?_ | refine z_notT ?_ | refine z_notF ?_ | refine z_cT ?_ | refine z_cF ?_ | refine z_gtt ?_ | refine z_gff ?_ | refine z_gtf ?_ | refine z_gft ?_ | refine z_ptt ?_ | refine z_pff ?_ | refine z_ptf ?_ | refine z_pft ?_ | refine z_rtt ?_ | refine z_rff ?_ | refine z_rtf ?_ | refine z_rft ?_ | refine z_kt ?_ | refine z_kf ?_ | refine z_lss ?_ | refine z_gtr ?_ | refine z_leq ?_ | refine z_geq ?_ | refine z_eql ?_ | refine z_neq ?_ | refine z_seq ?_ | refine z_sne ?_ | refine z_slen ?_ | refine z_eqp ?_ | refine z_eqn ?_ | refine z_cv ?_) | refine z_some ?_
    exact p36 (n := n) O1 hx hy V7 V8 t7 t8 fun h' O' F => kk h' O' ((Fr.of_ext e1).trans F)
  | none =>
    rw [hr] at kk
    repeat first | (with_reducible first | refine z_nil ?_ | refine z_fadr ?_ | refine z_some ?_ | refine z_ext0 ?_ | refine z_ext1 ?_ | refine z_notT ?_ | refine z_notF ?_ | refine z_cT ?_ | refine z_cF ?_ | refine z_gtt ?_ | refine z_gff ?_ | refine z_gtf ?_ | refine z_gft ?_ | refine z_ptt ?_ | refine z_pff ?_ | refine z_ptf ?_ | refine z_pft ?_ | refine z_rtt ?_ | refine z_rff ?_ | refine z_rtf ?_ | refine z_rft ?_ | refine z_kt ?_ | refine z_kf ?_ | refine z_lss ?_ | refine z_gtr ?_ | refine z_leq ?_ | refine z_geq ?_ | refine z_eql ?_ | refine z_neq ?_ | refine z_seq ?_ | refine z_sne ?_ | refine z_slen ?_ | refine z_eqp ?_ | refine z_eqn ?_ | refine z_cv ?_) | refine z_some ?_
    repeat first | (with_reducible first | refine z_nil ?_ | refine z_fadr ?_ | refine z_some ?_ | refine z_ext0 ?_ | refine z_ext1 ?_ | refine z_notT ?_ | refine z_notF ?_ | refine z_cT ?_ | refine z_cF ?_ | refine z_gtt ?_ | refine z_gff ?_ | refine z_gtf ?_ | refine z_gft ?_ | refine z_ptt ?_ | refine z_pff ?_ | refine z_ptf ?_ | refine z_pft ?_ | refine z_rtt ?_ | refine z_rff ?_ | refine z_rtf ?_ | refine z_rft ?_ | refine z_kt ?_ | refine z_kf ?_ | refine z_lss ?_ | refine z_gtr ?_ | refine z_leq ?_ | refine z_geq ?_ | refine z_eql ?_ | refine z_neq ?_ | refine z_seq ?_ | refine z_sne ?_ | refine z_slen ?_ | refine z_eqp ?_ | refine z_eqn ?_ | refine z_cv ?_) | refine z_of O1.l3 ?_ | refine z_of (add64 (a := (T.n : Int)) (b := 1) (by omega) (by omega)) ?_
    have V := O1.var
    obtain ⟨h2, w1, w2, w3, o2, w5⟩ := V.wr o1 (off := 3) (v := .int .i64 ((T.n : Int) + 1)) (show 3 < 4 by decide) rfl
    refine z_u w1 ?_
    have hn1 : (T.n : Int) + 1 = ((T.n + 1 : Nat) : Int) := by omega
    rw [hn1] at w2
    have O2 : TO τ h2 { T with n := T.n + 1 } := O1.put (ca := T.came) (n := T.n + 1) (Fr.of_but rfl w3) o2 w2
    have n7 : a7 ≠ T.p := fun e => by have := O.tp; rw [← e, t7] at this; cases this
    have n8 : a8 ≠ T.p := fun e => by have := O.tp; rw [← e, t8] at this; cases this
    refine p36 (n := n) (T := { T with n := T.n + 1 }) O2 hx hy (w3.var V7 n7) (w3.var V8 n8) t7 t8 fun h' O' F => kk h' O' (((Fr.of_ext e1).trans (Fr.of_but (by show (τ T.p).own; rw [O.tp]; trivial) w3)).trans F)
end
def Kept (τ : Nat → Tag) (h h' : AHeap) (G : AHeap → Nat → Nat → Prop) : Prop := ∃ lo hi, G h' lo hi ∧ h.sz ≤ lo ∧ hi ≤ h'.sz ∧ ∀ j, lo ≤ j → j < hi → τ j = .out
theorem build5 {a b c d e : AV} (h1 : a.leaf = true) (h2 : b.leaf = true) (h3 : c.leaf = true) (h4 : d.leaf = true) (h5 : e.leaf = true) :
    buildV [AV.int IntKind.i64 0, AV.nilSlc, AV.nilSlc, AV.int IntKind.i64 0, AV.nilMap] [(0, 3, .agg [a, b, c]), (3, 1, d), (4, 1, e)] = some (.agg [a, b, c, d, e]) := by
  have c4 := cells_leaf h4
  have c5 := cells_leaf h5
  have c0 : AV.cells (.agg [a, b, c]) = [a, b, c] := rfl
  simp only [buildV, fillV, c0, c4, c5, List.length_cons, List.length_nil, allLeaf, h1, h2, h3, h4, h5, lay]
  rfl
theorem build4 {a b d e : AV} (h1 : a.leaf = true) (h2 : b.leaf = true) (h4 : d.leaf = true) (h5 : e.leaf = true) :
    buildV [AV.str [], AV.nilSlc, AV.int IntKind.i64 0, AV.nilMap] [(0, 2, .agg [a, b]), (2, 1, d), (3, 1, e)] = some (.agg [a, b, d, e]) := by
  have c4 := cells_leaf h4
  have c5 := cells_leaf h5
  have c0 : AV.cells (.agg [a, b]) = [a, b] := rfl
  simp only [buildV, fillV, c0, c4, c5, List.length_cons, List.length_nil, allLeaf, h1, h2, h4, h5, lay]
  rfl
theorem build_by {a b : AV} (h1 : a.leaf = true) (h2 : b.leaf = true) : buildV [AV.int IntKind.i64 0, AV.str []] [(0, 1, a), (1, 1, b)] = some (.agg [a, b]) := build2 h1 h2
section
variable {τ : Nat → Tag} {h : AHeap} {T : TD} {K : Kont} {n : Nat} {k : SK} {r : BK} {x : CD} {y : RD} {a5 a7 a8 : Nat} {core : Int} {els env : AV} {GM : AHeap → Nat → Nat → AV → AV → Prop}
theorem p20 (O : TO τ h T) (hx : lkG T.cs k = some x) (V5 : Var h a5 [.int .i64 core, els, env]) (V7 : Var h a7 [.str k.1, .str k.2]) (V8 : Var h a8 [.int .i64 r.1, .str r.2]) (t5 : τ a5 = .out) (t7 : τ a7 = .out) (t8 : τ a8 = .out) (hn : T.n < 1000000) (hc : T.came < 1000000)
    (se : AV.same els els = true) (sv : AV.same env env = true)
    (ht : ∀ h1, h1.Ok → Fr (W8 τ) h h1 → ∀ K' : Kont, (∀ h2 els' env', Ext h1 h2 → h2.Ok → els'.leaf = true → env'.leaf = true → GM h2 h1.sz h2.sz els' env' → K' (.agg [.int .i64 core, els', env']) h2 = true) → callN E (n + 1) (.func 41) [.agg [.int .i64 core, els, env]] h1 K' = true)
    (gfr : ∀ h1 h2 lo hi a b, GM h1 lo hi a b → (∀ j o, lo ≤ j → j < hi → h1.get j = some o → h2.get j = some o) → GM h2 lo hi a b)
    (kk : ∀ h' τ' y, TO τ' h' { T with came := upC T.came T.rs r, n := T.n + (if (lkG x.bys r).isNone then 1 else 0), cs := upG T.cs k (setC x (upG x.bys r ())), rs := putG RD.ofs setR T.rs r k y } → y.ofs = [] → y.came = T.came + 1 →
      (lkG T.rs r = none → y.core = core ∧ Kept τ' h h' fun h lo hi => GM h lo hi y.els y.env) → (∀ j, j < h.sz → τ' j = τ j) → (∀ j, W8 τ' j → j < h'.sz) → Fr (W8 τ) h h' → K (.int .i64 0) h' = true) :
    p10_20 (callN E (n + 1)) (n + 1) (.ptr T.p 0 0 0) (.ptr a5 0 0 0) (.ptr a7 0 0 0) (.ptr a8 0 0 0) h K = true := by
  have lt' : ∀ {τ' : Nat → Tag} {h' : AHeap} {T' : TD}, TO τ' h' T' → ∀ j, W8 τ' j → j < h'.sz := fun {τ' h' T'} O' j w => by
    by_cases q : j < h'.sz
    · exact q
    · have w : (τ' j).own := w
      rw [O'.hi j (by omega)] at w; exact w.elim
  unfold p10_20
  have A8 : loadA h true 2 (.ptr a8 0 0 0) = some (bk2 r) := V8.all rfl
  cases hy : lkG T.rs r with
  | some y =>
    repeat first | (with_reducible first | refine z_nil ?_ | refine z_fadr ?_ | refine z_some ?_ | refine z_ext0 ?_ | refine z_ext1 ?_ | refine z_notT ?_ | refine z_notF ?_ | refine z_cT ?_ | refine z_cF ?_ | refine z_gtt ?_ | refine z_gff ?_ | refine z_gtf ?_ | refine z_gft ?_ | refine z_ptt ?_ | refine z_pff ?_ | refine z_ptf ?_ | refine z_pft ?_ | refine z_rtt ?_ | refine z_rff ?_ | refine z_rtf ?_ | refine z_rft ?_ | refine z_kt ?_ | refine z_kf ?_ | refine z_lss ?_ | refine z_gtr ?_ | refine z_leq ?_ | refine z_geq ?_ | refine z_eql ?_ | refine z_neq ?_ | refine z_seq ?_ | refine z_sne ?_ | refine z_slen ?_ | refine z_eqp ?_ | refine z_eqn ?_ | refine z_cv ?_) | refine z_of O.l1 ?_ | refine z_of A8 ?_ | refine z_of (O.lkr hy) ?_
    refine p28 O hx hy V7 V8 t7 t8 hn fun h' O' F => ?_
    have e1 : upC T.came T.rs r = T.came := by unfold upC; rw [hy]; rfl
    have e2 : putG RD.ofs setR T.rs r k ⟨0, 0, 0, .nilSlc, .nilSlc, T.came + 1, []⟩ = upG T.rs r (setR y (upG y.ofs k ())) := by unfold putG; rw [hy]; rfl
    refine kk h' τ ⟨0, 0, 0, .nilSlc, .nilSlc, T.came + 1, []⟩ (by rw [e1, e2]; exact O') rfl rfl (fun q => by rw [hy] at q; cases q) (fun _ _ => rfl) (lt' O') F
  | none =>
    repeat first | (with_reducible first | refine z_nil ?_ | refine z_fadr ?_ | refine z_some ?_ | refine z_ext0 ?_ | refine z_ext1 ?_ | refine z_notT ?_ | refine z_notF ?_ | refine z_cT ?_ | refine z_cF ?_ | refine z_gtt ?_ | refine z_gff ?_ | refine z_gtf ?_ | refine z_gft ?_ | refine z_ptt ?_ | refine z_pff ?_ | refine z_ptf ?_ | refine z_pft ?_ | refine z_rtt ?_ | refine z_rff ?_ | refine z_rtf ?_ | refine z_rft ?_ | refine z_kt ?_ | refine z_kf ?_ | refine z_lss ?_ | refine z_gtr ?_ | refine z_leq ?_ | refine z_geq ?_ | refine z_eql ?_ | refine z_neq ?_ | refine z_seq ?_ | refine z_sne ?_ | refine z_slen ?_ | refine z_eqp ?_ | refine z_eqn ?_ | refine z_cv ?_) | refine z_of O.l1 ?_ | refine z_of A8 ?_ | refine z_of (O.lkr0 hy) ?_
    repeat first | (with_reducible first | refine z_nil ?_ | refine z_fadr ?_ | refine z_some ?_ | refine z_ext0 ?_ | refine z_ext1 ?_ | refine z_notT ?_ | refine z_notF ?_ | refine z_cT ?_ | refine z_cF ?_ | refine z_gtt ?_ | refine z_gff ?_ | refine z_gtf ?_ | refine z_gft ?_ | refine z_ptt ?_ | refine z_pff ?_ | refine z_ptf ?_ | refine z_pft ?_ | refine z_rtt ?_ | refine z_rff ?_ | refine z_rtf ?_ | refine z_rft ?_ | refine z_kt ?_ | refine z_kf ?_ | refine z_lss ?_ | refine z_gtr ?_ | refine z_leq ?_ | refine z_geq ?_ | refine z_eql ?_ | refine z_neq ?_ | refine z_seq ?_ | refine z_sne ?_ | refine z_slen ?_ | refine z_eqp ?_ | refine z_eqn ?_ | refine z_cv ?_) | refine z_of O.l2 ?_ | refine z_of (add64 (a := (T.came : Int)) (b := 1) (by omega) (by omega)) ?_
    have V := O.var
    obtain ⟨h1, w1, w2, w3, o1, w5⟩ := V.wr O.ok (off := 2) (v := .int .i64 ((T.came : Int) + 1)) (show 2 < 4 by decide) rfl
    refine z_u w1 ?_
    have hn1 : (T.came : Int) + 1 = ((T.came + 1 : Nat) : Int) := by omega
    rw [hn1] at w2
    have O1 : TO τ h1 { T with came := T.came + 1 } := O.put (ca := T.came + 1) (n := T.n) (Fr.of_but rfl w3) o1 w2
    have ne : ∀ {a}, τ a = .out → a ≠ T.p := fun t e => by have := O.tp; rw [← e, t] at this; cases this
    have V5 := w3.var V5 (ne t5)
    have V7 := w3.var V7 (ne t7)
    have V8 := w3.var V8 (ne t8)
    have A5 : ∀ {h'}, Ext h1 h' → loadA h' true 3 (.ptr a5 0 0 0) = some (.agg [.int .i64 core, els, env]) := fun e => (V5.ext e).all rfl
    have A8 : ∀ {h'}, Ext h1 h' → loadA h' true 2 (.ptr a8 0 0 0) = some (bk2 r) := fun e => (V8.ext e).all rfl
    have L1 : ∀ {h'}, Ext h1 h' → loadA h' false 1 (.ptr T.p 0 0 1) = some (.map T.rm) := fun e => (w2.ext e).get rfl
    have L2 : ∀ {h'}, Ext h1 h' → loadA h' false 1 (.ptr T.p 0 0 2) = some (.int .i64 ((T.came + 1 : Nat) : Int)) := fun e => (w2.ext e).get rfl
    have sA5 : AV.same (.agg [.int .i64 core, els, env]) (.agg [.int .i64 core, els, env]) = true := same_agg (sames_cons (same_int _ _) (sames_cons se (sames_cons sv sames_nil)))
    have sA8 : AV.same (bk2 r) (bk2 r) = true := same_agg (sames_cons (same_int _ _) (sames_cons (same_str _) sames_nil))
    have e0 := Ext.refl h1
    repeat first | (with_reducible first | refine z_nil ?_ | refine z_fadr ?_ | refine z_some ?_ | refine z_ext0 ?_ | refine z_ext1 ?_ | refine z_notT ?_ | refine z_notF ?_ | refine z_cT ?_ | refine z_cF ?_ | refine z_gtt ?_ | refine z_gff ?_ | refine z_gtf ?_ | refine z_gft ?_ | refine z_ptt ?_ | refine z_pff ?_ | refine z_ptf ?_ | refine z_pft ?_ | refine z_rtt ?_ | refine z_rff ?_ | refine z_rtf ?_ | refine z_rft ?_ | refine z_kt ?_ | refine z_kf ?_ | refine z_lss ?_ | refine z_gtr ?_ | refine z_leq ?_ | refine z_geq ?_ | refine z_eql ?_ | refine z_neq ?_ | refine z_seq ?_ | refine z_sne ?_ | refine z_slen ?_ | refine z_eqp ?_ | refine z_eqn ?_ | refine z_cv ?_) | refine z_of (L1 e0) ?_ | refine z_of (A8 e0) ?_ | refine z_of (A5 e0) ?_ | refine z_of (L2 e0) ?_
    obtain ⟨h2, m1, M, e2, o2, z2⟩ := mkmap_v sk o1
    refine z_p m1 ?_
    refine z_same (L1 e2) (same_map _) ?_
    refine z_same (A8 e2) sA8 ?_
    refine z_same (A5 e2) sA5 ?_
    refine z_same (L2 e2) (same_int _ _) ?_
    have F1 : Fr (W8 τ) h h1 := Fr.of_but (by show (τ T.p).own; rw [O.tp]; trivial) w3
    refine ht h2 o2 (fr_ext F1 e2) _ fun h3 els' env' e3 o3 le lv hG => ?_
    have e3' := ext_two e2 e3
    refine z_same (L1 e3') (same_map _) ?_
    refine z_same (A8 e3') sA8 ?_
    refine z_same (L2 e3') (same_int _ _) ?_
    refine z_of (build5 rfl le lv rfl rfl) ?_
    obtain ⟨h4, b1, V4, e4, o4, z4⟩ := box_v (n := 5) (v := .agg [.int .i64 core, els', env', .int .i64 ((T.came + 1 : Nat) : Int), .map h1.sz]) o3 rfl (by decide) (by simp only [AV.cells, allLeaf, le, lv]; rfl)
    have V4 : Var h4 h3.sz [.int .i64 core, els', env', .int .i64 ((T.came + 1 : Nat) : Int), .map h1.sz] := V4
    refine z_p b1 ?_
    have e4' := ext_two e3' e4
    refine z_same (L1 e4') (same_map _) ?_
    refine z_same (A8 e4') sA8 ?_
    refine z_same (A5 e4') sA5 ?_
    refine z_same (L2 e4') (same_int _ _) ?_
    have O4 := O1.ext e4' o4
    obtain ⟨h5, u1, u2, u3, u4, u5⟩ := O4.rs.upd bks r (.ptr h3.sz 0 0 0)
    refine z_u u1 ?_
    have hs1 : h.sz = h1.sz := w5.symm
    have hs2 : h1.sz < h3.sz := by have := e3.1; omega
    have O5 : TO (tagR τ h3.sz h1.sz r) h5 { T with came := T.came + 1, rs := upG T.rs r ⟨h3.sz, h1.sz, core, els', env', T.came + 1, []⟩ } := O4.addr (k := r) (x := ⟨h3.sz, h1.sz, core, els', env', T.came + 1, []⟩) hy (O.hi h3.sz (by omega)) (O.hi h1.sz (by omega)) (by show h3.sz ≠ h1.sz; omega) V4 ((Fr.of_ext (X := fun _ => False) (ext_two e3 e4)).kmap M id) rfl (Fr.of_but rfl u2) (u4 o4) u5
    have F5 : Fr (W8 τ) h h5 := (fr_ext F1 e4').trans (Fr.of_but (by show (τ T.rm).own; rw [O.tr]; trivial) u2)
    have tout : ∀ {a}, τ a = .out → a < h.sz → tagR τ h3.sz h1.sz r a = .out := fun {a} t l => by rw [tagR_ne (by omega) (by omega)]; exact t
    have vr : ∀ {a c}, Var h1 a c → τ a = .out → Var h5 a c := fun {a c} V t => u2.var (V.ext e4') (fun e => by have := O.tr; rw [← e, t] at this; cases this)
    have l5 : a5 < h.sz := by have := V5.lt o1; omega
    have l7 : a7 < h.sz := by have := V7.lt o1; omega
    have l8 : a8 < h.sz := by have := V8.lt o1; omega
    have ky : lkG (upG T.rs r ⟨h3.sz, h1.sz, core, els', env', T.came + 1, []⟩) r = some ⟨h3.sz, h1.sz, core, els', env', T.came + 1, []⟩ := by rw [lkG_up, if_pos rfl]
    have p28' := p28 (n := n) (K := K) O5 hx ky (vr V7 t7) (vr V8 t8) (tout t7 l7) (tout t8 l8) hn
    refine p28' fun h' O' F => ?_
    have e1 : upC T.came T.rs r = T.came + 1 := by unfold upC; rw [hy]; rfl
    have e2' : putG RD.ofs setR T.rs r k ⟨h3.sz, h1.sz, core, els', env', T.came + 1, []⟩ = upG (upG T.rs r ⟨h3.sz, h1.sz, core, els', env', T.came + 1, []⟩) r (setR ⟨h3.sz, h1.sz, core, els', env', T.came + 1, []⟩ (upG [] k ())) := by unfold putG; rw [hy, upG_up]; rfl
    refine kk h' (tagR τ h3.sz h1.sz r) ⟨h3.sz, h1.sz, core, els', env', T.came + 1, []⟩ (by rw [e1, e2']; exact O') rfl rfl (fun _ => ⟨rfl, h2.sz, h3.sz, ?_, by omega, by have := F.sz; omega, fun j j1 j2 => by rw [tagR_ne (by omega) (by omega)]; exact O.hi j (by omega)⟩) (fun j hj => tagR_ne (by omega) (by omega)) (lt' O') ?_
    · refine gfr h3 h' _ _ _ _ hG fun j o j1 j2 g => ?_
      have ho : ¬ W8 (tagR τ h3.sz h1.sz r) j := by
        show ¬ (tagR τ h3.sz h1.sz r j).own
        rw [tagR_ne (by omega) (by omega), O.hi j (by omega)]; exact id
      refine F.keep j o ho (u2.keep j o (fun e => ?_) (e4.2 j o g))
      have := O.tr
      rw [← show j = T.rm from e, O.hi j (by omega)] at this; cases this
    · refine fr_acc O.ok F5 F fun j w => ?_
      by_cases q : j < h.sz
      · left
        have w : (tagR τ h3.sz h1.sz r j).own := w
        rw [tagR_ne (by omega) (by omega)] at w; exact w
      · right; omega
end
end Go.Proofs.Ytbamgdknkhhikaa
namespace Go.Proofs.Ytbamgdknkhhikaa
open Go.Ab
set_option linter.unusedSimpArgs false
set_option linter.unusedVariables false
section
variable {τ : Nat → Tag} {h : AHeap} {T : TD} {K : Kont} {n : Nat} {k : SK} {r : BK} {cls : Str} {core : Int} {vals els env : AV} {b1 b2 : Bool} {G : AHeap → Nat → Nat → AV → Prop} {GM : AHeap → Nat → Nat → AV → AV → Prop}
def Says (h : AHeap) (n f : Nat) (args : List AV) (v : AV) : Prop := ∀ h1, h1.Ok → Ext h h1 → ∀ K' : Kont, (∀ h2, Ext h1 h2 → h2.Ok → K' v h2 = true) → callN E n (.func f) args h1 K' = true
theorem c10 (O : TO τ h T) (hn : T.n < 1000000) (hc : T.came < 999999) (lv : vals.leaf = true) (le : els.leaf = true) (ln : env.leaf = true) (sv : AV.same vals vals = true) (se : AV.same els els = true) (sn : AV.same env env = true)
    (hb : Says h (n + 1) 35 [vals] (.bool b1)) (hb2 : Says h (n + 1) 36 [els, .fn (.func 37) [] []] (.bool b2))
    (hs : b1 = false → Says h (n + 1) 38 [.agg [.str cls, vals]] (sk k))
    (hk : b1 = false → b2 = false → Says h (n + 1) 39 [.agg [.int .i64 r.1, els, env]] (.str r.2))
    (hv : ∀ h1, h1.Ok → Fr (W8 τ) h h1 → ∀ K' : Kont, (∀ h2 v, Ext h1 h2 → h2.Ok → v.leaf = true → AV.same v v = true → G h2 h1.sz h2.sz v → K' v h2 = true) → callN E (n + 1) (.func 40) [vals] h1 K' = true)
    (ht : ∀ h1, h1.Ok → Fr (W8 τ) h h1 → ∀ K' : Kont, (∀ h2 els' env', Ext h1 h2 → h2.Ok → els'.leaf = true → env'.leaf = true → GM h2 h1.sz h2.sz els' env' → K' (.agg [.int .i64 r.1, els', env']) h2 = true) → callN E (n + 1) (.func 41) [.agg [.int .i64 r.1, els, env]] h1 K' = true)
    (gv : ∀ h1 h2 lo hi a, G h1 lo hi a → (∀ j o, lo ≤ j → j < hi → h1.get j = some o → h2.get j = some o) → G h2 lo hi a)
    (gm : ∀ h1 h2 lo hi a b, GM h1 lo hi a b → (∀ j o, lo ≤ j → j < hi → h1.get j = some o → h2.get j = some o) → GM h2 lo hi a b)
    (k0 : cls = [] ∨ b1 = true ∨ b2 = true → ∀ h', Ext h h' → h'.Ok → K (.int .i64 1) h' = true)
    (k1 : cls ≠ [] → b1 = false → b2 = false → ∀ h' τ' x y, TO τ' h' (justT T k r x y) → Fresh T k r x y →
      (lkG T.cs k = none → x.cls = cls ∧ Kept τ' h h' fun h lo hi => G h lo hi x.vals) → (lkG T.rs r = none → y.core = r.1 ∧ Kept τ' h h' fun h lo hi => GM h lo hi y.els y.env) → (∀ j, j < h.sz → τ' j = τ j) → Fr (W8 τ) h h' → K (.int .i64 0) h' = true) :
    callN E (n + 2) (.func 10) [.ptr T.p 0 0 0, .agg [.str cls, vals], .agg [.int .i64 r.1, els, env]] h K = true := by
  apply d10
  unfold s10
  obtain ⟨h1, q1, V1, e1, o1, z1⟩ := box_v (n := 2) (v := .agg [.str cls, vals]) O.ok rfl (by decide) (by simp only [AV.cells, allLeaf, lv]; rfl)
  have V1 : Var h1 h.sz [.str cls, vals] := V1
  refine z_p q1 ?_
  obtain ⟨h2, q2, V2, e2, o2, z2⟩ := box_v (n := 3) (v := .agg [.int .i64 r.1, els, env]) o1 rfl (by decide) (by simp only [AV.cells, allLeaf, le, ln]; rfl)
  have V2 : Var h2 h1.sz [.int .i64 r.1, els, env] := V2
  refine z_p q2 ?_
  have e02 := ext_two e1 e2
  have V1 := V1.ext e2
  have A1 : ∀ {h'}, Ext h2 h' → loadA h' true 2 (.ptr h.sz 0 0 0) = some (.agg [.str cls, vals]) := fun e => (V1.ext e).all rfl
  have A2 : ∀ {h'}, Ext h2 h' → loadA h' true 3 (.ptr h1.sz 0 0 0) = some (.agg [.int .i64 r.1, els, env]) := fun e => (V2.ext e).all rfl
  have A10 : ∀ {h'}, Ext h2 h' → loadA h' false 1 (.ptr h.sz 0 0 0) = some (.str cls) := fun e => (V1.ext e).get rfl
  have A11 : ∀ {h'}, Ext h2 h' → loadA h' false 1 (.ptr h.sz 0 0 1) = some vals := fun e => (V1.ext e).get rfl
  have A20 : ∀ {h'}, Ext h2 h' → loadA h' false 1 (.ptr h1.sz 0 0 0) = some (.int .i64 r.1) := fun e => (V2.ext e).get rfl
  have A21 : ∀ {h'}, Ext h2 h' → loadA h' false 1 (.ptr h1.sz 0 0 1) = some els := fun e => (V2.ext e).get rfl
  have s1 : AV.same (.agg [.str cls, vals]) (.agg [.str cls, vals]) = true := same_agg (sames_cons (same_str _) (sames_cons sv sames_nil))
  have s2 : AV.same (.agg [.int .i64 r.1, els, env]) (.agg [.int .i64 r.1, els, env]) = true := same_agg (sames_cons (same_int _ _) (sames_cons se (sames_cons sn sames_nil)))
  repeat first | (with_reducible first | refine z_nil ?_ | refine z_fadr ?_ | refine z_some ?_ | refine z_ext0 ?_ | refine z_ext1 ?_ | refine z_notT ?_ | refine z_notF ?_ | refine z_cT ?_ | refine z_cF ?_ | refine z_gtt ?_ | refine z_gff ?_ | refine z_gtf ?_ | refine z_gft ?_ | refine z_ptt ?_ | refine z_pff ?_ | refine z_ptf ?_ | refine z_pft ?_ | refine z_rtt ?_ | refine z_rff ?_ | refine z_rtf ?_ | refine z_rft ?_ | refine z_kt ?_ | refine z_kf ?_ | refine z_lss ?_ | refine z_gtr ?_ | refine z_leq ?_ | refine z_geq ?_ | refine z_eql ?_ | refine z_neq ?_ | refine z_seq ?_ | refine z_sne ?_ | refine z_slen ?_ | refine z_eqp ?_ | refine z_eqn ?_ | refine z_cv ?_) | refine z_of (A10 (Ext.refl _)) ?_
  by_cases hcls : cls = []
  · rw [decide_eq_true hcls]
    repeat first | (with_reducible first | refine z_nil ?_ | refine z_fadr ?_ | refine z_some ?_ | refine z_ext0 ?_ | refine z_ext1 ?_ | refine z_notT ?_ | refine z_notF ?_ | refine z_cT ?_ | refine z_cF ?_ | refine z_gtt ?_ | refine z_gff ?_ | refine z_gtf ?_ | refine z_gft ?_ | refine z_ptt ?_ | refine z_pff ?_ | refine z_ptf ?_ | refine z_pft ?_ | refine z_rtt ?_ | refine z_rff ?_ | refine z_rtf ?_ | refine z_rft ?_ | refine z_kt ?_ | refine z_kf ?_ | refine z_lss ?_ | refine z_gtr ?_ | refine z_leq ?_ | refine z_geq ?_ | refine z_eql ?_ | refine z_neq ?_ | refine z_seq ?_ | refine z_sne ?_ | refine z_slen ?_ | refine z_eqp ?_ | refine z_eqn ?_ | refine z_cv ?_) | refine z_some ?_
    exact k0 (.inl hcls) h2 e02 o2
  rw [decide_eq_false hcls]
  repeat first | (with_reducible first | refine z_nil ?_ | refine z_fadr ?_ | refine z_some ?_ | refine z_ext0 ?_ | refine z_ext1 ?_ | refine z_notT ?_ | refine z_notF ?_ | refine z_cT ?_ | refine z_cF ?_ | refine z_gtt ?_ | refine z_gff ?_ | refine z_gtf ?_ | refine z_gft ?_ | refine z_ptt ?_ | refine z_pff ?_ | refine z_ptf ?_ | refine z_pft ?_ | refine z_rtt ?_ | refine z_rff ?_ | refine z_rtf ?_ | refine z_rft ?_ | refine z_kt ?_ | refine z_kf ?_ | refine z_lss ?_ | refine z_gtr ?_ | refine z_leq ?_ | refine z_geq ?_ | refine z_eql ?_ | refine z_neq ?_ | refine z_seq ?_ | refine z_sne ?_ | refine z_slen ?_ | refine z_eqp ?_ | refine z_eqn ?_ | refine z_cv ?_) | refine z_of (A11 (Ext.refl _)) ?_
  refine hb h2 o2 e02 _ fun h3 e3 o3 => ?_
  cases hb1 : b1 with
  | true =>
    repeat first | (with_reducible first | refine z_nil ?_ | refine z_fadr ?_ | refine z_some ?_ | refine z_ext0 ?_ | refine z_ext1 ?_ | refine z_notT ?_ | refine z_notF ?_ | refine z_cT ?_ | refine z_cF ?_ | refine z_gtt ?_ | refine z_gff ?_ | refine z_gtf ?_ | refine z_gft ?_ | refine z_ptt ?_ | refine z_pff ?_ | refine z_ptf ?_ | refine z_pft ?_ | refine z_rtt ?_ | refine z_rff ?_ | refine z_rtf ?_ | refine z_rft ?_ | refine z_kt ?_ | refine z_kf ?_ | refine z_lss ?_ | refine z_gtr ?_ | refine z_leq ?_ | refine z_geq ?_ | refine z_eql ?_ | refine z_neq ?_ | refine z_seq ?_ | refine z_sne ?_ | refine z_slen ?_ | refine z_eqp ?_ | refine z_eqn ?_ | refine z_cv ?_) | refine z_some ?_
    exact k0 (.inr (.inl hb1)) h3 (ext_two e02 e3) o3
  | false =>
  repeat first | (with_reducible first | refine z_nil ?_ | refine z_fadr ?_ | refine z_some ?_ | refine z_ext0 ?_ | refine z_ext1 ?_ | refine z_notT ?_ | refine z_notF ?_ | refine z_cT ?_ | refine z_cF ?_ | refine z_gtt ?_ | refine z_gff ?_ | refine z_gtf ?_ | refine z_gft ?_ | refine z_ptt ?_ | refine z_pff ?_ | refine z_ptf ?_ | refine z_pft ?_ | refine z_rtt ?_ | refine z_rff ?_ | refine z_rtf ?_ | refine z_rft ?_ | refine z_kt ?_ | refine z_kf ?_ | refine z_lss ?_ | refine z_gtr ?_ | refine z_leq ?_ | refine z_geq ?_ | refine z_eql ?_ | refine z_neq ?_ | refine z_seq ?_ | refine z_sne ?_ | refine z_slen ?_ | refine z_eqp ?_ | refine z_eqn ?_ | refine z_cv ?_) | refine z_of (A21 e3) ?_
  refine hb2 h3 o3 (ext_two e02 e3) _ fun h4 e4 o4 => ?_
  have e24 := ext_two e3 e4
  cases hb2' : b2 with
  | true =>
    repeat first | (with_reducible first | refine z_nil ?_ | refine z_fadr ?_ | refine z_some ?_ | refine z_ext0 ?_ | refine z_ext1 ?_ | refine z_notT ?_ | refine z_notF ?_ | refine z_cT ?_ | refine z_cF ?_ | refine z_gtt ?_ | refine z_gff ?_ | refine z_gtf ?_ | refine z_gft ?_ | refine z_ptt ?_ | refine z_pff ?_ | refine z_ptf ?_ | refine z_pft ?_ | refine z_rtt ?_ | refine z_rff ?_ | refine z_rtf ?_ | refine z_rft ?_ | refine z_kt ?_ | refine z_kf ?_ | refine z_lss ?_ | refine z_gtr ?_ | refine z_leq ?_ | refine z_geq ?_ | refine z_eql ?_ | refine z_neq ?_ | refine z_seq ?_ | refine z_sne ?_ | refine z_slen ?_ | refine z_eqp ?_ | refine z_eqn ?_ | refine z_cv ?_) | refine z_some ?_
    exact k0 (.inr (.inr hb2')) h4 (ext_two e02 e24) o4
  | false =>
  repeat first | (with_reducible first | refine z_nil ?_ | refine z_fadr ?_ | refine z_some ?_ | refine z_ext0 ?_ | refine z_ext1 ?_ | refine z_notT ?_ | refine z_notF ?_ | refine z_cT ?_ | refine z_cF ?_ | refine z_gtt ?_ | refine z_gff ?_ | refine z_gtf ?_ | refine z_gft ?_ | refine z_ptt ?_ | refine z_pff ?_ | refine z_ptf ?_ | refine z_pft ?_ | refine z_rtt ?_ | refine z_rff ?_ | refine z_rtf ?_ | refine z_rft ?_ | refine z_kt ?_ | refine z_kf ?_ | refine z_lss ?_ | refine z_gtr ?_ | refine z_leq ?_ | refine z_geq ?_ | refine z_eql ?_ | refine z_neq ?_ | refine z_seq ?_ | refine z_sne ?_ | refine z_slen ?_ | refine z_eqp ?_ | refine z_eqn ?_ | refine z_cv ?_) | refine z_of (A1 e24) ?_ | refine z_of (A20 e24) ?_ | refine z_of (A2 e24) ?_
  obtain ⟨h5, c1, V7, e5, o5, z5⟩ := alloc_v (z := [AV.str [], AV.str []]) o4 (by decide) rfl
  refine z_p c1 ?_
  have e25 := ext_two e24 e5
  refine z_same (A1 e25) s1 ?_
  refine z_same (A20 e25) (same_int _ _) ?_
  refine z_same (A2 e25) s2 ?_
  obtain ⟨h6, c2, V8, e6, o6, z6⟩ := alloc_v (z := [AV.int .i64 0, AV.str []]) o5 (by decide) rfl
  refine z_p c2 ?_
  have e26 := ext_two e25 e6
  refine z_same (A1 e26) s1 ?_
  refine z_same (A20 e26) (same_int _ _) ?_
  refine z_same (A2 e26) s2 ?_
  refine hs hb1 h6 o6 (ext_two e02 e26) _ fun h7 e7 o7 => ?_
  have e27 := ext_two e26 e7
  refine z_same (A20 e27) (same_int _ _) ?_
  refine z_same (A2 e27) s2 ?_
  refine hk hb1 hb2' h7 o7 (ext_two e02 e27) _ fun h8 e8 o8 => ?_
  have e28 := ext_two e27 e8
  refine z_same (A20 e28) (same_int _ _) ?_
  refine z_of (build_by rfl rfl) ?_
  have V7 := ((V7.ext e6).ext e7).ext e8
  have V8 := (V8.ext e7).ext e8
  obtain ⟨h9, w1, W7, w3, o9, w5⟩ := V7.wrs o8 (n := 2) (v := sk k) rfl rfl rfl
  refine z_u w1 ?_
  have W7 : Var h9 h4.sz [.str k.1, .str k.2] := W7
  have ls2 : h1.sz < h2.sz := by omega
  have ls4 : h2.sz ≤ h4.sz := e24.1
  have ls6 : h4.sz < h6.sz := by omega
  have B20 : loadA h9 false 1 (.ptr h1.sz 0 0 0) = some (.int .i64 r.1) := (w3.var (V2.ext e28) (by omega)).get rfl
  refine z_same B20 (same_int _ _) ?_
  have V8 := w3.var V8 (show h5.sz ≠ h4.sz by omega)
  obtain ⟨h10, x1, W8', x3, o10, x5⟩ := V8.wrs o9 (n := 2) (v := bk2 r) rfl rfl rfl
  have hbk : AV.agg [.int .i64 r.1, .str r.2] = bk2 r := rfl
  rw [hbk]
  refine z_u x1 ?_
  have W8' : Var h10 h5.sz [.int .i64 r.1, .str r.2] := W8'
  have W7 := x3.var W7 (show h4.sz ≠ h5.sz by omega)
  have e08 := ext_two e02 e28
  have e10 : Ext h h10 := x3.ext (w3.ext e08 O.ok (by have := e02.1; omega)) O.ok (by have := e02.1; omega)
  have b10 : ∀ {j c}, Var h2 j c → j < h2.sz → Var h10 j c := fun V l => x3.var (w3.var (V.ext e28) (by omega)) (by omega)
  have V1 := b10 V1 (by omega)
  have V2 := b10 V2 (by omega)
  have O10 := O.ext e10 o10
  have A7 : loadA h10 true 2 (.ptr h4.sz 0 0 0) = some (sk k) := W7.all rfl
  have t1 : ∀ {j}, h.sz ≤ j → τ j = .out := fun l => O.hi _ l
  have F10 : Fr (W8 τ) h h10 := Fr.of_ext e10
  have hz1 : h.sz < h2.sz := by omega
  have l10 : h2.sz ≤ h10.sz := by have := e28.1; have := w5; have := x5; omega
  have big : h5.sz < h10.sz := by have := e7.1; have := e8.1; omega
  cases hx : lkG T.cs k with
  | some x =>
    repeat first | (with_reducible first | refine z_nil ?_ | refine z_fadr ?_ | refine z_some ?_ | refine z_ext0 ?_ | refine z_ext1 ?_ | refine z_notT ?_ | refine z_notF ?_ | refine z_cT ?_ | refine z_cF ?_ | refine z_gtt ?_ | refine z_gff ?_ | refine z_gtf ?_ | refine z_gft ?_ | refine z_ptt ?_ | refine z_pff ?_ | refine z_ptf ?_ | refine z_pft ?_ | refine z_rtt ?_ | refine z_rff ?_ | refine z_rtf ?_ | refine z_rft ?_ | refine z_kt ?_ | refine z_kf ?_ | refine z_lss ?_ | refine z_gtr ?_ | refine z_leq ?_ | refine z_geq ?_ | refine z_eql ?_ | refine z_neq ?_ | refine z_seq ?_ | refine z_sne ?_ | refine z_slen ?_ | refine z_eqp ?_ | refine z_eqn ?_ | refine z_cv ?_) | refine z_of O10.l0 ?_ | refine z_of A7 ?_ | refine z_of (O10.lkc hx) ?_
    refine p20 (GM := GM) O10 hx V2 W7 W8' (t1 (by omega)) (t1 (by omega)) (t1 (by omega)) hn (by omega) se sn (fun hh oo FF => ht hh oo (F10.trans FF)) gm fun h' τ' y O' p1 p2 p3 p4 p5 p6 => ?_
    have E1 : justT T k r ⟨0, 0, [], .nilSlc, T.came + 1, []⟩ y = { T with came := upC T.came T.rs r, n := T.n + (if (lkG x.bys r).isNone then 1 else 0), cs := upG T.cs k (setC x (upG x.bys r ())), rs := putG RD.ofs setR T.rs r k y } := by
      have e1 : upC T.came T.cs k = T.came := by unfold upC; rw [hx]; rfl
      unfold justT putG
      rw [hx, e1]; rfl
    refine k1 hcls hb1 hb2' h' τ' ⟨0, 0, [], .nilSlc, T.came + 1, []⟩ y (by rw [E1]; exact O') ⟨rfl, p1, rfl, ?_⟩ (fun q => by rw [hx] at q; cases q) (fun q => ?_) (fun j hj => p4 j (by have := e10.1; omega)) (F10.trans p6)
    · have e1 : upC T.came T.cs k = T.came := by unfold upC; rw [hx]; rfl
      rw [e1]; exact p2
    · obtain ⟨c1, lo, hi, c2, c3, c4, c5⟩ := p3 q
      exact ⟨c1, lo, hi, c2, by have := e10.1; omega, c4, c5⟩
  | none =>
    repeat first | (with_reducible first | refine z_nil ?_ | refine z_fadr ?_ | refine z_some ?_ | refine z_ext0 ?_ | refine z_ext1 ?_ | refine z_notT ?_ | refine z_notF ?_ | refine z_cT ?_ | refine z_cF ?_ | refine z_gtt ?_ | refine z_gff ?_ | refine z_gtf ?_ | refine z_gft ?_ | refine z_ptt ?_ | refine z_pff ?_ | refine z_ptf ?_ | refine z_pft ?_ | refine z_rtt ?_ | refine z_rff ?_ | refine z_rtf ?_ | refine z_rft ?_ | refine z_kt ?_ | refine z_kf ?_ | refine z_lss ?_ | refine z_gtr ?_ | refine z_leq ?_ | refine z_geq ?_ | refine z_eql ?_ | refine z_neq ?_ | refine z_seq ?_ | refine z_sne ?_ | refine z_slen ?_ | refine z_eqp ?_ | refine z_eqn ?_ | refine z_cv ?_) | refine z_of O10.l0 ?_ | refine z_of A7 ?_ | refine z_of (O10.lkc0 hx) ?_
    repeat first | (with_reducible first | refine z_nil ?_ | refine z_fadr ?_ | refine z_some ?_ | refine z_ext0 ?_ | refine z_ext1 ?_ | refine z_notT ?_ | refine z_notF ?_ | refine z_cT ?_ | refine z_cF ?_ | refine z_gtt ?_ | refine z_gff ?_ | refine z_gtf ?_ | refine z_gft ?_ | refine z_ptt ?_ | refine z_pff ?_ | refine z_ptf ?_ | refine z_pft ?_ | refine z_rtt ?_ | refine z_rff ?_ | refine z_rtf ?_ | refine z_rft ?_ | refine z_kt ?_ | refine z_kf ?_ | refine z_lss ?_ | refine z_gtr ?_ | refine z_leq ?_ | refine z_geq ?_ | refine z_eql ?_ | refine z_neq ?_ | refine z_seq ?_ | refine z_sne ?_ | refine z_slen ?_ | refine z_eqp ?_ | refine z_eqn ?_ | refine z_cv ?_) | refine z_of O10.l2 ?_ | refine z_of (add64 (a := (T.came : Int)) (b := 1) (by omega) (by omega)) ?_
    have V := O10.var
    obtain ⟨h11, y1, y2, y3, o11, y5⟩ := V.wr o10 (off := 2) (v := .int .i64 ((T.came : Int) + 1)) (show 2 < 4 by decide) rfl
    refine z_u y1 ?_
    have hn1 : (T.came : Int) + 1 = ((T.came + 1 : Nat) : Int) := by omega
    rw [hn1] at y2
    have O11 : TO τ h11 { T with came := T.came + 1 } := O10.put (ca := T.came + 1) (n := T.n) (Fr.of_but rfl y3) o11 y2
    have pl := O.plt
    have V1 := y3.var V1 (show h.sz ≠ T.p by omega)
    have V2 := y3.var V2 (show h1.sz ≠ T.p by omega)
    have W7 := y3.var W7 (show h4.sz ≠ T.p by omega)
    have W8' := y3.var W8' (show h5.sz ≠ T.p by omega)
    have B10 : ∀ {h'}, Ext h11 h' → loadA h' false 1 (.ptr h.sz 0 0 0) = some (.str cls) := fun e => (V1.ext e).get rfl
    have B11 : ∀ {h'}, Ext h11 h' → loadA h' false 1 (.ptr h.sz 0 0 1) = some vals := fun e => (V1.ext e).get rfl
    have A7 : ∀ {h'}, Ext h11 h' → loadA h' true 2 (.ptr h4.sz 0 0 0) = some (sk k) := fun e => (W7.ext e).all rfl
    have L0 : ∀ {h'}, Ext h11 h' → loadA h' false 1 (.ptr T.p 0 0 0) = some (.map T.cm) := fun e => (y2.ext e).get rfl
    have L2 : ∀ {h'}, Ext h11 h' → loadA h' false 1 (.ptr T.p 0 0 2) = some (.int .i64 ((T.came + 1 : Nat) : Int)) := fun e => (y2.ext e).get rfl
    have sA7 : AV.same (sk k) (sk k) = true := same_agg (sames_cons (same_str _) (sames_cons (same_str _) sames_nil))
    have f0 := Ext.refl h11
    repeat first | (with_reducible first | refine z_nil ?_ | refine z_fadr ?_ | refine z_some ?_ | refine z_ext0 ?_ | refine z_ext1 ?_ | refine z_notT ?_ | refine z_notF ?_ | refine z_cT ?_ | refine z_cF ?_ | refine z_gtt ?_ | refine z_gff ?_ | refine z_gtf ?_ | refine z_gft ?_ | refine z_ptt ?_ | refine z_pff ?_ | refine z_ptf ?_ | refine z_pft ?_ | refine z_rtt ?_ | refine z_rff ?_ | refine z_rtf ?_ | refine z_rft ?_ | refine z_kt ?_ | refine z_kf ?_ | refine z_lss ?_ | refine z_gtr ?_ | refine z_leq ?_ | refine z_geq ?_ | refine z_eql ?_ | refine z_neq ?_ | refine z_seq ?_ | refine z_sne ?_ | refine z_slen ?_ | refine z_eqp ?_ | refine z_eqn ?_ | refine z_cv ?_) | refine z_of (L0 f0) ?_ | refine z_of (A7 f0) ?_ | refine z_of (B10 f0) ?_ | refine z_of (B11 f0) ?_ | refine z_of (L2 f0) ?_
    obtain ⟨h12, m1, M, f2, o12, z12⟩ := mkmap_v bk2 o11
    refine z_p m1 ?_
    refine z_same (L0 f2) (same_map _) ?_
    refine z_same (A7 f2) sA7 ?_
    refine z_same (B10 f2) (same_str _) ?_
    refine z_same (B11 f2) sv ?_
    refine z_same (L2 f2) (same_int _ _) ?_
    have F11 : Fr (W8 τ) h h11 := F10.trans (Fr.of_but (by show (τ T.p).own; rw [O.tp]; trivial) y3)
    refine hv h12 o12 (fr_ext F11 f2) _ fun h13 v f3 o13 lv' sv' hG => ?_
    have f3' := ext_two f2 f3
    refine z_same (L0 f3') (same_map _) ?_
    refine z_same (A7 f3') sA7 ?_
    refine z_same (B10 f3') (same_str _) ?_
    refine z_same (L2 f3') (same_int _ _) ?_
    refine z_of (build2 rfl lv') ?_
    refine z_of (build4 rfl lv' rfl rfl) ?_
    obtain ⟨h14, g1, V14, f4, o14, z14⟩ := box_v (n := 4) (v := .agg [.str cls, v, .int .i64 ((T.came + 1 : Nat) : Int), .map h11.sz]) o13 rfl (by decide) (by simp only [AV.cells, allLeaf, lv']; rfl)
    have V14 : Var h14 h13.sz [.str cls, v, .int .i64 ((T.came + 1 : Nat) : Int), .map h11.sz] := V14
    refine z_p g1 ?_
    have f4' := ext_two f3' f4
    refine z_same (L0 f4') (same_map _) ?_
    refine z_same (A7 f4') sA7 ?_
    refine z_same (B10 f4') (same_str _) ?_
    refine z_same (B11 f4') sv ?_
    refine z_same (L2 f4') (same_int _ _) ?_
    have O14 := O11.ext f4' o14
    obtain ⟨h15, u1, u2, u3, u4, u5⟩ := O14.cs.upd sks k (.ptr h13.sz 0 0 0)
    refine z_u u1 ?_
    have hs1 : h10.sz = h11.sz := y5.symm
    have hs2 : h11.sz < h13.sz := by have := f3.1; omega
    have O15 : TO (tagC τ h13.sz h11.sz k) h15 { T with came := T.came + 1, cs := upG T.cs k ⟨h13.sz, h11.sz, cls, v, T.came + 1, []⟩ } := O14.addc (k := k) (x := ⟨h13.sz, h11.sz, cls, v, T.came + 1, []⟩) hx (O.hi h13.sz (by omega)) (O.hi h11.sz (by omega)) (by show h13.sz ≠ h11.sz; omega) V14 ((Fr.of_ext (X := fun _ => False) (ext_two f3 f4)).kmap M id) rfl sv' (Fr.of_but rfl u2) (u4 o14) u5
    have F15 : Fr (W8 τ) h h15 := (fr_ext F11 f4').trans (Fr.of_but (by show (τ T.cm).own; rw [O.tc]; trivial) u2)
    have tout : ∀ {a}, h.sz ≤ a → a < h10.sz → tagC τ h13.sz h11.sz k a = .out := fun {a} t l => by rw [tagC_ne (by omega) (by omega)]; exact O.hi a t
    have cml : T.cm < h.sz := O.cs.lt O.ok
    have vr : ∀ {a c}, Var h11 a c → h.sz ≤ a → Var h15 a c := fun {a c} V t => u2.var (V.ext f4') (show a ≠ T.cm by omega)
    have kx : lkG (upG T.cs k ⟨h13.sz, h11.sz, cls, v, T.came + 1, []⟩) k = some ⟨h13.sz, h11.sz, cls, v, T.came + 1, []⟩ := by rw [lkG_up, if_pos rfl]
    have Fh : ∀ {h''}, Fr (W8 (tagC τ h13.sz h11.sz k)) h15 h'' → Fr (W8 τ) h h'' := fun {h''} F => by
      refine fr_acc O.ok F15 F fun j w => ?_
      by_cases q : j < h.sz
      · left
        have w : (tagC τ h13.sz h11.sz k j).own := w
        rw [tagC_ne (by omega) (by omega)] at w; exact w
      · right; omega
    have h15s : h15.sz = h14.sz := u3
    refine p20 (GM := GM) (n := n) (K := K) (T := { T with came := T.came + 1, cs := upG T.cs k ⟨h13.sz, h11.sz, cls, v, T.came + 1, []⟩ }) O15 kx (vr V2 (by omega)) (vr W7 (by omega)) (vr W8' (by omega)) (tout (by omega) (by omega)) (tout (by omega) (by omega)) (tout (by omega) (by omega)) hn (show T.came + 1 < 1000000 by omega) se sn (fun hh oo FF => ht hh oo (Fh FF)) gm fun h' τ' y O' p1 p2 p3 p4 p5 p6 => ?_
    have ec : upC T.came T.cs k = T.came + 1 := by unfold upC; rw [hx]; rfl
    have E1 : justT T k r ⟨h13.sz, h11.sz, cls, v, T.came + 1, []⟩ y = { T with came := upC (T.came + 1) T.rs r, n := T.n + (if (lkG ([] : List (BK × Unit)) r).isNone then 1 else 0), cs := upG (upG T.cs k ⟨h13.sz, h11.sz, cls, v, T.came + 1, []⟩) k (setC ⟨h13.sz, h11.sz, cls, v, T.came + 1, []⟩ (upG [] r ())), rs := putG RD.ofs setR T.rs r k y } := by
      unfold justT
      have : putG CD.bys setC T.cs k r ⟨h13.sz, h11.sz, cls, v, T.came + 1, []⟩ = upG (upG T.cs k ⟨h13.sz, h11.sz, cls, v, T.came + 1, []⟩) k (setC ⟨h13.sz, h11.sz, cls, v, T.came + 1, []⟩ (upG [] r ())) := by unfold putG; rw [hx, upG_up]; rfl
      rw [hx, ec, this]; rfl
    have tag' : ∀ j, j < h13.sz → h.sz ≤ j → j ≠ h11.sz → τ' j = .out := fun j j1 j2 j3 => by
      rw [p4 j (by omega), tagC_ne (by omega) j3]; exact O.hi j j2
    refine k1 hcls hb1 hb2' h' τ' ⟨h13.sz, h11.sz, cls, v, T.came + 1, []⟩ y (by rw [E1]; exact O') ⟨rfl, p1, rfl, by rw [ec]; exact p2⟩ (fun _ => ⟨rfl, h12.sz, h13.sz, ?_, by omega, by have := p6.sz; omega, fun j j1 j2 => tag' j j2 (by omega) (by omega)⟩) (fun q => ?_) (fun j hj => ?_) (Fh p6)
    · refine gv h13 h' _ _ _ hG fun j o j1 j2 g => ?_
      have ho : ¬ W8 (tagC τ h13.sz h11.sz k) j := by
        show ¬ (tagC τ h13.sz h11.sz k j).own
        rw [tagC_ne (by omega) (by omega), O.hi j (by omega)]; exact id
      exact p6.keep j o ho (u2.keep j o (show j ≠ T.cm by omega) (f4.2 j o g))
    · obtain ⟨c1, lo, hi, c2, c3, c4, c5⟩ := p3 q
      exact ⟨c1, lo, hi, c2, by omega, c4, c5⟩
    · rw [p4 j (by omega), tagC_ne (by omega) (by omega)]
end
end Go.Proofs.Ytbamgdknkhhikaa
namespace Go.Proofs.Ytbamgdknkhhikaa
open Go.Ab
set_option linter.unusedSimpArgs false
set_option linter.unusedVariables false
section
variable {h : AHeap} {K : Kont} {n : Nat} {cls : Str} {core : Int}
theorem res1 {a v : AV} {m : Nat} {K : Kont} {h : AHeap} (e : loadA h true m a = some v) (s : K v h = true) : optR (resV h [(a, some (true, m))]) h K = true := by
  have : resV h [(a, some (true, m))] = some [v] := by simp only [resV, e]
  rw [this]; exact s
end
end Go.Proofs.Ytbamgdknkhhikaa
namespace Go.Proofs.Ytbamgdknkhhikaa
open Go.Ab
set_option linter.unusedSimpArgs false
set_option linter.unusedVariables false
theorem sub_filter {α : Type} {p : α → Bool} : ∀ {s l : List α}, s.Sublist l → l.Nodup → (∀ x ∈ l, x ∈ s ↔ p x = true) → s = l.filter p := by
  intro s l hs
  induction hs with
  | slnil => intro _ _; rfl
  | cons a t ih =>
    rename_i s l
    intro hn hp
    rw [List.nodup_cons] at hn
    have ha : p a = false := by
      cases e : p a with
      | false => rfl
      | true => exact absurd (t.subset ((hp a List.mem_cons_self).2 e)) hn.1
    rw [List.filter_cons_of_neg (by rw [ha]; exact fun q => by cases q)]
    exact ih hn.2 fun x hx => hp x (List.mem_cons_of_mem _ hx)
  | cons_cons a t ih =>
    rename_i s l
    intro hn hp
    rw [List.nodup_cons] at hn
    rw [List.filter_cons_of_pos ((hp a List.mem_cons_self).1 List.mem_cons_self)]
    rw [← ih hn.2 fun x hx => ?_]
    rw [← hp x (List.mem_cons_of_mem _ hx), List.mem_cons]
    exact ⟨.inr, fun q => q.elim (fun e => absurd (e ▸ hx) hn.1) id⟩
theorem bys_some {x : CD} (h : x.bys.length ≠ 0) : ∃ r, lkG x.bys r = some () := by
  cases e : x.bys with
  | nil => rw [e] at h; exact absurd rfl h
  | cons p t => exact ⟨p.1, by simp [lkG]⟩
theorem nodup_of_keys {κ β : Type} {l : List (κ × β)} (h : (l.map fun p => p.1).Nodup) : l.Nodup := by
  rw [List.nodup_iff_pairwise_ne, List.pairwise_map] at h
  rw [List.nodup_iff_pairwise_ne]
  exact h.imp fun q e => q (by rw [e])
open Classical in
theorem Less.lines {T T' : TD} {D : SK → BK → Prop} (W : TW T) (L : Less T T' D) : mp barC T'.cs = (mp barC T.cs).filter fun p => decide (∃ r, hasB T p.1 r ∧ ¬ D p.1 r) := by
  have hk : ((mp barC T.cs).map fun p => p.1).Nodup := by rw [mp_keys]; exact W.ck
  refine sub_filter L.sc (nodup_of_keys hk) fun p hp => ?_
  rw [decide_eq_true_iff]
  constructor
  · intro q
    obtain ⟨⟨k, x⟩, hx, rfl⟩ := List.mem_map.1 q
    have h1 := lkG_of_mem L.w.ck hx
    obtain ⟨r, hr⟩ := bys_some (L.w.cne k x h1)
    exact ⟨r, (L.has k r).1 ⟨x, h1, hr⟩⟩
  · rintro ⟨r, h1, h2⟩
    obtain ⟨x, q1, q2⟩ := (L.has p.1 r).2 ⟨h1, h2⟩
    have q3 : (p.1, barC x) ∈ mp barC T'.cs := List.mem_map.2 ⟨_, lkG_mem q1, rfl⟩
    have q4 := lkG_of_mem hk (L.sc.subset q3)
    have q5 := lkG_of_mem (k := p.1) (u := p.2) hk hp
    rw [q4] at q5
    injection q5 with q5
    have : p = (p.1, barC x) := Prod.ext rfl q5.symm
    rw [this]; exact q3
open Classical in
theorem Less.one {T T' : TD} {k : SK} (W : TW T) (L : Less T T' fun k' _ => k' = k) : mp barC T'.cs = (mp barC T.cs).filter fun p => !decide (p.1 = k) := by
  rw [L.lines W]
  refine List.filter_congr fun p hp => ?_
  obtain ⟨⟨k', x⟩, hx, rfl⟩ := List.mem_map.1 hp
  have h1 := lkG_of_mem W.ck hx
  obtain ⟨r, hr⟩ := bys_some (W.cne k' x h1)
  by_cases e : k' = k
  · exact (decide_eq_false fun ⟨r, _, q⟩ => q e).trans (by simp [e])
  · exact (decide_eq_true ⟨r, ⟨x, h1, hr⟩, e⟩).trans (by simp [e])
theorem cs_le {T : TD} (W : TW T) : T.cs.length ≤ T.n := by
  rw [W.sum]
  have : ∀ (l : List (SK × CD)), (∀ p ∈ l, p.2.bys.length ≠ 0) → l.length ≤ sumG CD.bys l := by
    intro l
    induction l with
    | nil => intro _; exact Nat.zero_le _
    | cons p t ih =>
      intro h
      have h1 := ih fun q hq => h q (List.mem_cons_of_mem _ hq)
      have h2 := h p List.mem_cons_self
      simp only [sumG, List.map_cons, List.sum_cons, List.length_cons] at h1 ⊢
      omega
  exact this _ fun p hp => W.cne p.1 p.2 (lkG_of_mem W.ck hp)
theorem own_app2 {b : Nat} {h h0 : AHeap} {n bytes : Nat} {v x : AV} {es new : List (List AV)} (O : Own b h n v es) (hn : 0 < n) (hb : b ≤ h.sz) (o : h.Ok) (k0 : h0.Ok) (e0 : Ext h0 h) (hb0 : h0.sz ≤ b) (hs : source h n x = some new) (h1 : (es.length + new.length) * bytes ≤ most) (h2 : es.length + new.length ≤ most) :
    ∃ v' h', appendA h n bytes v x = some (v', h') ∧ Own b h' n v' (es ++ new) ∧ h'.Ok ∧ Ext h0 h' ∧ Fr (inRow v) h h' ∧ (∀ j, inRow v' j → inRow v j ∨ j = h.sz) := by
  obtain ⟨v', h', a1, a2, a3, a4, a5, a6, a7⟩ := O.app hn hb o k0 e0 hb0 hs h1 h2
  exact ⟨v', h', a1, a2, a3, a4, ⟨a5, fun j o' nj g => a6 j o' g fun id g' s l c ex e q => nj ⟨g', s, l, c, ex, by rw [e, q]⟩⟩, fun j i => app_row a1 i⟩
abbrev Line := SK × (Nat × Nat × Str × AV × Nat)
def nmL (l : List Line) : List Str := l.map fun p => p.2.2.2.1
def encS (l : List Str) : List (List AV) := l.map fun s => [.str s]
structure OI (h0 h : AHeap) (τ : Nat → Tag) (T : TD) (nv : AV) (names : List Str) (i : Nat) : Prop where
  o : TO τ h T
  w : TW T
  e : Ext h0 h
  t0 : ∀ j, j < h0.sz → τ j = .out
  own : Own h0.sz h 1 nv (encS names)
  tn : ∀ j, inRow nv j → τ j = .out
  nm : names = nmL (mp barC T.cs)
  ks : ∀ p ∈ mp barC T.cs, p.1 = (p.2.2.2.1, []) ∧ p.2.2.2.2.1 = .nilSlc
  cn : T.n ≤ i
  ca : T.came ≤ 2 * i
section
variable {h0 h h' : AHeap} {τ : Nat → Tag} {T : TD} {nv : AV} {names : List Str} {i : Nat}
theorem OI.ext (I : OI h0 h τ T nv names i) (e : Ext h h') (o : h'.Ok) : OI h0 h' τ T nv names i :=
  ⟨I.o.ext e o, I.w, ext_two I.e e, I.t0, I.own.ext e, I.tn, I.nm, I.ks, I.cn, I.ca⟩
theorem OI.len (I : OI h0 h τ T nv names i) : names.length = T.cs.length := by rw [I.nm]; simp [nmL, mp]
theorem OI.le (I : OI h0 h τ T nv names i) : T.cs.length ≤ i := Nat.le_trans (cs_le I.w) I.cn
theorem OI.x (I : OI h0 h τ T nv names i) {k : SK} {x : CD} (hx : (k, x) ∈ T.cs) : k = (x.cls, []) ∧ x.vals = .nilSlc := I.ks (k, barC x) (List.mem_map.2 ⟨_, hx, rfl⟩)
theorem OI.at (I : OI h0 h τ T nv names i) {j : Nat} {p : SK × CD} (hp : T.cs[j]? = some p) : names[j]? = some p.2.cls := by
  rw [I.nm]; simp [nmL, mp, hp, barC]
theorem OI.own_fr (I : OI h0 h τ T nv names i) (F : Fr (W8 τ) h h') : Own h0.sz h' 1 nv (encS names) := by
  have f : ∀ j, inRow nv j → ¬ W8 τ j := fun j hj w => by have w : (τ j).own := w; rw [I.tn j hj] at w; exact w
  rcases I.own with q | ⟨id, r, w1, w2, w3, w4, w5, w6, w7⟩
  · exact .inl q
  · exact .inr ⟨id, r, w1, w2, F.row (f id (by rw [w2]; exact ⟨_, _, _, _, _, rfl⟩)) w3, w4, w5, w6, w7⟩
theorem OI.ext_fr (I : OI h0 h τ T nv names i) (k0 : h0.Ok) (F : Fr (W8 τ) h h') : Ext h0 h' := F.ext I.e k0 fun j w => by
  by_cases q : j < h0.sz
  · have w : (τ j).own := w; rw [I.t0 j q] at w; exact w.elim
  · omega
end
end Go.Proofs.Ytbamgdknkhhikaa
namespace Go.Proofs.Ytbamgdknkhhikaa
open Go.Ab
set_option linter.unusedSimpArgs false
set_option linter.unusedVariables false
theorem load_ext {h h' : AHeap} (e : Ext h h') {ag : Bool} {n id g i o : Nat} {v : AV} (q : loadA h ag n (.ptr id g i o) = some v) : loadA h' ag n (.ptr id g i o) = some v := by
  unfold loadA at q ⊢
  cases hr : h.row id with
  | none => simp only [hr] at q; cases q
  | some r =>
    simp only [hr] at q
    simp only [e.row hr]; exact q
theorem mapOf_ext {h h' : AHeap} (e : Ext h h') {id : Nat} {x : List (AV × AV × Nat) × Nat} (q : mapOf h (.map id) = some x) : mapOf h' (.map id) = some x := by
  simp only [mapOf] at q ⊢
  cases hg : h.get id with
  | none => rw [hg] at q; cases q
  | some o => rw [e.2 _ _ hg]; rw [hg] at q; exact q
theorem look_ext {h h' : AHeap} (e : Ext h h') {kk : KK} {ok : Bool} {z k v : AV} {id : Nat} (q : lookA h kk ok z (.map id) k = some v) : lookA h' kk ok z (.map id) k = some v := by
  unfold lookA at q ⊢
  cases hf : fitsKK kk k with
  | false => rw [hf] at q; cases q
  | true =>
    rw [hf] at q
    simp only [cond_true] at q ⊢
    cases hm : mapOf h (.map id) with
    | none => rw [hm] at q; cases q
    | some x => rw [mapOf_ext e hm]; rw [hm] at q; exact q
def ck (r : BK) : List AV := [.int .i64 r.1, .str r.2]
def rkeys (T : TD) : List BK := T.rs.map fun p => p.1
section
variable {τ : Nat → Tag} {h h0 : AHeap} {T : TD} {K : Kont} {n : Nat} {r1 r2 : BK} {y1 y2 : RD} {bx : Nat}
structure Cmp (g : AHeap) (bx : Nat) (T : TD) (r1 r2 : BK) (y1 y2 : RD) : Prop where
  b : loadA g false 1 (.ptr bx 0 0 0) = some (.ptr T.p 0 0 0)
  m : loadA g false 1 (.ptr T.p 0 0 1) = some (.map T.rm)
  l1 : lookA g (.st [.int, .str]) false .nilPtr (.map T.rm) (bk2 r1) = some (.ptr y1.id 0 0 0)
  l2 : lookA g (.st [.int, .str]) false .nilPtr (.map T.rm) (bk2 r2) = some (.ptr y2.id 0 0 0)
  c1 : loadA g false 1 (.ptr y1.id 0 0 3) = some (.int .i64 (y1.came : Int))
  c2 : loadA g false 1 (.ptr y2.id 0 0 3) = some (.int .i64 (y2.came : Int))
theorem Cmp.ext {g g' : AHeap} (C : Cmp g bx T r1 r2 y1 y2) (e : Ext g g') : Cmp g' bx T r1 r2 y1 y2 := ⟨load_ext e C.b, load_ext e C.m, look_ext e C.l1, look_ext e C.l2, load_ext e C.c1, load_ext e C.c2⟩
theorem c47 {g : AHeap} (o : g.Ok) (C : Cmp g bx T r1 r2 y1 y2) (h1 : y1.came < 1000000) (h2 : y2.came < 1000000) (k : ∀ g', K (.int .i64 ((y1.came : Int) - y2.came)) g' = true) :
    callN E (n + 1) (.func 47) [bk2 r1, bk2 r2, .ptr bx 0 0 0] g K = true := by
  apply d47
  unfold s47
  obtain ⟨g1, q1, V1, e1, o1, z1⟩ := box_v (n := 2) (v := bk2 r1) o rfl (by decide) rfl
  have V1 : Var g1 g.sz [.int .i64 r1.1, .str r1.2] := V1
  refine z_p q1 ?_
  obtain ⟨g2, q2, V2, e2, o2, z2⟩ := box_v (n := 2) (v := bk2 r2) o1 rfl (by decide) rfl
  have V2 : Var g2 g1.sz [.int .i64 r2.1, .str r2.2] := V2
  refine z_p q2 ?_
  have C := (C.ext e1).ext e2
  have A1 : loadA g2 true 2 (.ptr g.sz 0 0 0) = some (bk2 r1) := (V1.ext e2).all rfl
  have A2 : loadA g2 true 2 (.ptr g1.sz 0 0 0) = some (bk2 r2) := V2.all rfl
  repeat first | (with_reducible first | refine z_nil ?_ | refine z_fadr ?_ | refine z_some ?_ | refine z_ext0 ?_ | refine z_ext1 ?_ | refine z_notT ?_ | refine z_notF ?_ | refine z_cT ?_ | refine z_cF ?_ | refine z_gtt ?_ | refine z_gff ?_ | refine z_gtf ?_ | refine z_gft ?_ | refine z_ptt ?_ | refine z_pff ?_ | refine z_ptf ?_ | refine z_pft ?_ | refine z_rtt ?_ | refine z_rff ?_ | refine z_rtf ?_ | refine z_rft ?_ | refine z_kt ?_ | refine z_kf ?_ | refine z_lss ?_ | refine z_gtr ?_ | refine z_leq ?_ | refine z_geq ?_ | refine z_eql ?_ | refine z_neq ?_ | refine z_seq ?_ | refine z_sne ?_ | refine z_slen ?_ | refine z_eqp ?_ | refine z_eqn ?_ | refine z_cv ?_) | refine z_of C.b ?_ | refine z_of C.m ?_ | refine z_of A1 ?_ | refine z_of C.l1 ?_ | refine z_of C.c1 ?_ | refine z_of A2 ?_ | refine z_of C.l2 ?_ | refine z_of C.c2 ?_ | refine z_of (sub64 (a := (y1.came : Int)) (b := (y2.came : Int)) (by omega) (by omega)) ?_
  exact k _
def cameOf (T : TD) : List AV → Int
  | [.int _ a, .str s] => match lkG T.rs (a, s) with
    | some y => (y.came : Int)
    | none => 0
  | _ => 0
theorem cameOf_ck {T : TD} {r : BK} {y : RD} (e : lkG T.rs r = some y) : cameOf T (ck r) = (y.came : Int) := by
  have : lkG T.rs (r.1, r.2) = some y := e
  simp only [cameOf, ck, this]
theorem c46 {b : Nat} {v : AV} {ps : List BK} (O : TO τ h T) (W : TW T) (hc : T.came < 1000000) (VB : Var h bx [.ptr T.p 0 0 0]) (OV : Own b h 2 v (ps.map ck)) (hp : ps.Perm (rkeys T)) (hl : ps.length < 1000000)
    (l1 : bx < b) (l2 : T.p < b) (l3 : T.rm < b) (l4 : ∀ r y, lkG T.rs r = some y → y.id < b)
    (k : ∀ h', Fr (inRow v) h h' → h'.Ok → Own b h' 2 v ((rkeys T).map ck) → K (.tup []) h' = true) :
    callN E (n + 2) (.func 46) [v, .fn (.func 47) [] [.ptr bx 0 0 0]] h K = true := by
  show sortPK 2 [47] (callN E (n + 1)) (n + 1) [v, .fn (.func 47) [] [.ptr bx 0 0 0]] h K = true
  have hk : ∀ r ∈ ps, ∃ y, lkG T.rs r = some y := fun r hr => by
    obtain ⟨p, hp', rfl⟩ := List.mem_map.1 (hp.mem_iff.1 hr)
    exact ⟨p.2, lkG_of_mem O.rk hp'⟩
  have hcm : ∀ r y, lkG T.rs r = some y → y.came < 1000000 := fun r y e => by
    have := W.tr y.came (by simp only [mp, List.map_map, List.mem_map]; exact ⟨(r, y), lkG_mem e, rfl⟩)
    omega
  rcases OV with ⟨rfl, he⟩ | ⟨id, r, w1, rfl, w3, w4, w5, w6, w7⟩
  · have hks : ps = [] := by simpa using he
    subst hks
    have : rkeys T = [] := hp.symm.eq_nil
    refine k h (Fr.refl _ _) O.ok (.inl ⟨rfl, by rw [this]; rfl⟩)
  · rw [List.length_map] at *
    show (bif Nat.beq ps.length 0 then K (.tup []) h else cdec _) = true
    cases hz : Nat.beq ps.length 0 with
    | true =>
      have h0 := nbeq_true.1 hz
      have hks : ps = [] := List.length_eq_zero_iff.1 h0
      subst hks
      have : rkeys T = [] := hp.symm.eq_nil
      refine k h (Fr.refl _ _) O.ok ?_
      rw [this]
      exact .inr ⟨id, r, w1, rfl, w3, w4, w5, w6, w7⟩
    | false =>
      rw [cond_false]
      refine cdec_true.2 ⟨List.mem_singleton.2 rfl, r, ps.map ck, fun x y => cameOf T x - cameOf T y, rfl, List.length_map _, ?_⟩
      have lay_us : ∀ us : List (List AV), us.length = ps.length → lay r.es 0 us = us := fun us hu => by
        have : r.es.length = us.length := by rw [w7, List.length_map, hu]
        simp only [lay, List.take_zero, List.nil_append, Nat.zero_add]
        rw [List.drop_of_length_le (by omega), List.append_nil]
      have pts : ∀ x ∈ ps.map ck, ∃ s y, x = ck s ∧ lkG T.rs s = some y := fun x hx => by
        obtain ⟨s, hs, rfl⟩ := List.mem_map.1 hx
        obtain ⟨y, hy⟩ := hk s hs
        exact ⟨s, y, rfl, hy⟩
      refine ⟨AHeap.row_some.1 w3, w4, w6, ?_, by rw [List.length_map]; omega, fun x _ => by omega, fun x _ y _ z _ => by omega, fun x _ y _ z _ => by omega, ?_, ?_⟩
      · rw [w7, List.drop_zero, List.take_of_length_le (Nat.le_refl _)]
      · intro us hu _ x hx y hy
        obtain ⟨a, ya, rfl, ha⟩ := pts x hx
        obtain ⟨c, yc, rfl, hc'⟩ := pts y hy
        have f : Fr (fun j => j = id) h (putSegK h id r 0 us) := Fr.put (X := fun j => j = id) rfl h _
        have okp : (putSegK h id r 0 us).Ok := O.ok.put (O.ok.lt (AHeap.row_some.1 w3)) _
        have Ra := O.r a ya (lkG_mem ha)
        have Rc := O.r c yc (lkG_mem hc')
        have ia := l4 a ya ha
        have ic := l4 c yc hc'
        have M := f.kmap O.rs (by show ¬ T.rm = id; omega)
        have C : Cmp (putSegK h id r 0 us).frz bx T a c ya yc := by
          refine ⟨?_, ?_, ?_, ?_, ?_, ?_⟩
          · rw [load_frz (f.var VB (by show ¬ bx = id; omega))]; rfl
          · rw [load_frz (f.var O.var (by show ¬ T.p = id; omega))]; rfl
          · rw [look_frz M, M.look bks, lk_G, lkG_mp, ha]; rfl
          · rw [look_frz M, M.look bks, lk_G, lkG_mp, hc']; rfl
          · rw [load_frz (f.var Ra.row (by show ¬ ya.id = id; omega))]; rfl
          · rw [load_frz (f.var Rc.row (by show ¬ yc.id = id; omega))]; rfl
        refine c47 okp.frz C (hcm a ya ha) (hcm c yc hc') fun g' => ?_
        rw [cameOf_ck ha, cameOf_ck hc']
        show ieqb _ _ = true
        rw [ieqb_dec]; exact decide_eq_true rfl
      · intro us hp1 hp2
        have hsr : (rkeys T).Pairwise fun a b => cameOf T (ck a) < cameOf T (ck b) := by
          have := W.sr
          simp only [mp, List.map_map, List.pairwise_map] at this
          unfold rkeys
          rw [List.pairwise_map]
          refine this.imp_of_mem fun {a b} ha hb e => ?_
          rw [cameOf_ck (lkG_of_mem O.rk (show (a.1, a.2) ∈ T.rs from ha)), cameOf_ck (lkG_of_mem O.rk (show (b.1, b.2) ∈ T.rs from hb))]
          have e : a.2.came < b.2.came := e
          omega
        have inj : ∀ a ∈ rkeys T, ∀ b ∈ rkeys T, cameOf T (ck a) = cameOf T (ck b) → a = b := fun a ha b hb hab => by
          rcases List.mem_iff_getElem.1 ha with ⟨i1, h1, rfl⟩
          rcases List.mem_iff_getElem.1 hb with ⟨i2, h2, rfl⟩
          rcases Nat.lt_trichotomy i1 i2 with q | q | q
          · have := List.pairwise_iff_getElem.1 hsr i1 i2 h1 h2 q; omega
          · subst q; rfl
          · have := List.pairwise_iff_getElem.1 hsr i2 i1 h2 h1 q; omega
        have heq : us = (rkeys T).map ck := by
          refine List.Perm.eq_of_pairwise (le := fun a b => ¬ cameOf T b - cameOf T a < 0) (fun a b ha hb h1 h2 => ?_) hp2 ?_ (hp1.trans (hp.map ck))
          · obtain ⟨s, hs, rfl⟩ := List.mem_map.1 (hp1.mem_iff.1 ha)
            obtain ⟨t, ht, rfl⟩ := List.mem_map.1 hb
            rw [inj s (hp.mem_iff.1 hs) t ht (by omega)]
          · rw [List.pairwise_map]
            exact hsr.imp fun {a b} e => by omega
        subst heq
        have hlen : (rkeys T).length = ps.length := hp.length_eq.symm
        refine k _ ((Fr.put (X := fun j => j = id) rfl h _).mono fun j e => by rw [e]; exact ⟨_, _, _, _, _, rfl⟩) (O.ok.put (O.ok.lt (AHeap.row_some.1 w3)) _) ?_
        refine .inr ⟨id, { r with es := lay r.es 0 ((rkeys T).map ck), m := r.g }, w1, by rw [List.length_map, hlen], AHeap.row_some.2 (get_put_same _ _ _), w4, Nat.le_refl _, w6, ?_⟩
        exact lay_us _ (by rw [List.length_map, hlen])
end
end Go.Proofs.Ytbamgdknkhhikaa
namespace Go.Proofs.Ytbamgdknkhhikaa
open Go.Ab
set_option linter.unusedSimpArgs false
set_option linter.unusedVariables false
theorem Less.rget {T T' : TD} {D : SK → BK → Prop} (W : TW T) (L : Less T T' D) {r : BK} {y : RD} (hy : lkG T.rs r = some y) (hD : ∀ k, hasB T k r → ¬ D k r) : ∃ y', lkG T'.rs r = some y' ∧ barR y' = barR y := by
  have hne := W.rne r y hy
  obtain ⟨k, hk⟩ : ∃ k, lkG y.ofs k = some () := by
    cases e : y.ofs with
    | nil => rw [e] at hne; exact absurd rfl hne
    | cons p t => exact ⟨p.1, by simp [lkG]⟩
  have hB : hasB T k r := (W.bij k r).2 ⟨y, hy, hk⟩
  have hB' := (L.has k r).2 ⟨hB, hD k hB⟩
  obtain ⟨y', q1, q2⟩ := (L.w.bij k r).1 hB'
  refine ⟨y', q1, ?_⟩
  have q3 : (r, barR y') ∈ mp barR T'.rs := List.mem_map.2 ⟨_, lkG_mem q1, rfl⟩
  have hk' : ((mp barR T.rs).map fun p => p.1).Nodup := by rw [mp_keys]; exact W.rk
  have q4 := lkG_of_mem hk' (L.sr.subset q3)
  rw [lkG_mp, hy] at q4
  injection q4 with q4
  exact q4.symm
section
variable {τ : Nat → Tag} {h : AHeap} {T : TD} {K : Kont} {n : Nat} {r : BK} {y : RD} {bx rc it : Nat}
theorem l54 {x1 x7 lv len iv : AV} {B : F6} {hL : AHeap} (O0 : TO τ hL T) (W0 : TW T) (hy : lkG T.rs r = some y) (hn : T.n < 1000000) (hit : hL.sz ≤ it) (hrc : τ rc = .out) (hbx : τ bx = .out)
    (k1 : ∀ h' T', TO τ h' T' → Fr (W8 τ) hL h' → Less T T' (fun _ r' => r' = r) → Var h' bx [.ptr T.p 0 0 0] → T'.n ≤ T.n → p13_66 (callN E (n + 1)) (n + 1) B x1 (.ptr bx 0 0 0) x7 lv len iv h' K = true) :
    ∀ m h1 l T1, l.length < m → TO τ h1 T1 → Fr (W8 τ) hL h1 → Less T T1 (fun k' r' => r' = r ∧ lkG l k' = none) → (l ≠ [] → lkG T1.rs r = some (setR y l)) → (l.map fun p => p.1).Nodup → KIterD sk h1 it y.m (one l) → Var h1 rc [.int .i64 r.1, .str r.2] → Var h1 bx [.ptr T.p 0 0 0] → T1.n ≤ T.n →
      l13_54 (callN E (n + 1)) (n + 1) B m x1 (.ptr bx 0 0 0) x7 (.ptr rc 0 0 0) lv len iv (.itr it) h1 K = true := by
  intro m
  induction m with
  | zero => intro h1 l T1 hm; omega
  | succ m ih =>
    intro h1 l T1 hm O F L hl hnd IT V3 VB hT1
    have R0 := O0.r r y (lkG_mem hy)
    have xl := R0.map.lt O0.ok
    have tit := O0.hi it hit
    unfold l13_54 b13_54
    refine IT.next sks O.ok (by omega) (fun e0 => ?_) (fun k v h2 hk b2 o2 z2 IC ent => ?_)
    · repeat first | (with_reducible first | refine z_nil ?_ | refine z_fadr ?_ | refine z_some ?_ | refine z_ext0 ?_ | refine z_ext1 ?_ | refine z_notT ?_ | refine z_notF ?_ | refine z_cT ?_ | refine z_cF ?_ | refine z_gtt ?_ | refine z_gff ?_ | refine z_gtf ?_ | refine z_gft ?_ | refine z_ptt ?_ | refine z_pff ?_ | refine z_ptf ?_ | refine z_pft ?_ | refine z_rtt ?_ | refine z_rff ?_ | refine z_rtf ?_ | refine z_rft ?_ | refine z_kt ?_ | refine z_kf ?_ | refine z_lss ?_ | refine z_gtr ?_ | refine z_leq ?_ | refine z_geq ?_ | refine z_eql ?_ | refine z_neq ?_ | refine z_seq ?_ | refine z_sne ?_ | refine z_slen ?_ | refine z_eqp ?_ | refine z_eqn ?_ | refine z_cv ?_) | refine z_some ?_
      have : l = [] := by simpa [one, mp] using e0
      subst this
      exact k1 h1 T1 O F (L.iff fun k' r' _ => ⟨fun e => e.1, fun e => ⟨e, rfl⟩⟩) VB hT1
    · have hb := one_mem hnd hk
      have hne : l ≠ [] := fun e => by rw [e] at hb; cases hb
      have hy1 := hl hne
      have hlen := dlG_len hb
      repeat first | (with_reducible first | refine z_nil ?_ | refine z_fadr ?_ | refine z_some ?_ | refine z_ext0 ?_ | refine z_ext1 ?_ | refine z_notT ?_ | refine z_notF ?_ | refine z_cT ?_ | refine z_cF ?_ | refine z_gtt ?_ | refine z_gff ?_ | refine z_gtf ?_ | refine z_gft ?_ | refine z_ptt ?_ | refine z_pff ?_ | refine z_ptf ?_ | refine z_pft ?_ | refine z_rtt ?_ | refine z_rff ?_ | refine z_rtf ?_ | refine z_rft ?_ | refine z_kt ?_ | refine z_kf ?_ | refine z_lss ?_ | refine z_gtr ?_ | refine z_leq ?_ | refine z_geq ?_ | refine z_eql ?_ | refine z_neq ?_ | refine z_seq ?_ | refine z_sne ?_ | refine z_slen ?_ | refine z_eqp ?_ | refine z_eqn ?_ | refine z_cv ?_) | refine z_of ent ?_
      have F2 := fr_acc O0.ok F (Fr.of_but (X := fun j => j = it) rfl b2) fun j e => .inr (by rw [e]; exact hit)
      have O2 := O.fr (Fr.of_but (X := fun j => j = it) rfl b2) o2 fun j e => by rw [e, tit]; exact id
      have nrow : ∀ {id c}, Var h1 id c → id ≠ it := fun {id c} V e => by
        obtain ⟨es, c', s, _, _, q⟩ := IT
        have V' : h1.row id = _ := V
        rw [AHeap.row_some, e, q] at V'; cases V'
      have V3 := b2.var V3 (nrow V3)
      have VB := b2.var VB (nrow VB)
      obtain ⟨h3, c1, c2, e3, o3, z3⟩ := alloc_v (z := [AV.str [], .str []]) o2 (by decide) rfl
      refine z_p c1 ?_
      obtain ⟨h4, w1, w2, w3, o4, w5⟩ := c2.wrs o3 (n := 2) (v := sk k) rfl rfl rfl
      refine z_u w1 ?_
      have w2 : Var h4 h2.sz [.str k.1, .str k.2] := w2
      have it2 : it < h2.sz := by obtain ⟨es, c, s, _, _, q⟩ := IC; exact o2.lt q
      have x2 : y.m < h2.sz := IC.map.lt o2
      have rc2 : rc < h2.sz := V3.lt o2
      have bx2 : bx < h2.sz := VB.lt o2
      have F4 : Fr (fun j => j = h2.sz) h2 h4 := (Fr.of_ext e3).trans (Fr.of_but rfl w3)
      have O4 := O2.fr F4 o4 fun j e => by rw [e, O2.hi _ (Nat.le_refl _)]; exact id
      have IC := F4.kiterC IC (by omega) (by omega)
      have V3 := F4.var V3 (by omega)
      have VB := F4.var VB (by omega)
      have F4 := fr_acc O0.ok F2 F4 fun j e => .inr (by rw [e]; exact F2.sz)
      have A1 : loadA h4 false 1 (.ptr bx 0 0 0) = some (.ptr T.p 0 0 0) := VB.get rfl
      have A2 : loadA h4 true 2 (.ptr h2.sz 0 0 0) = some (sk k) := w2.all rfl
      have A3 : loadA h4 true 2 (.ptr rc 0 0 0) = some (bk2 r) := V3.all rfl
      repeat first | (with_reducible first | refine z_nil ?_ | refine z_fadr ?_ | refine z_some ?_ | refine z_ext0 ?_ | refine z_ext1 ?_ | refine z_notT ?_ | refine z_notF ?_ | refine z_cT ?_ | refine z_cF ?_ | refine z_gtt ?_ | refine z_gff ?_ | refine z_gtf ?_ | refine z_gft ?_ | refine z_ptt ?_ | refine z_pff ?_ | refine z_ptf ?_ | refine z_pft ?_ | refine z_rtt ?_ | refine z_rff ?_ | refine z_rtf ?_ | refine z_rft ?_ | refine z_kt ?_ | refine z_kf ?_ | refine z_lss ?_ | refine z_gtr ?_ | refine z_leq ?_ | refine z_geq ?_ | refine z_eql ?_ | refine z_neq ?_ | refine z_seq ?_ | refine z_sne ?_ | refine z_slen ?_ | refine z_eqp ?_ | refine z_eqn ?_ | refine z_cv ?_) | refine z_of A1 ?_ | refine z_of A2 ?_ | refine z_of A3 ?_
      have hR : hasR T1 k r := ⟨_, hy1, hb⟩
      obtain ⟨x, hx, hk'⟩ := (L.w.bij k r).2 hR
      have hn1 : 1 ≤ T1.n := by
        rw [L.w.sum]
        have := lk_le_sum (get := CD.bys) hx
        have h2 := List.length_pos_of_mem (lkG_mem hk')
        omega
      have hp := L.p
      rw [← hp]
      refine c48 O4 hx hk' hy1 hb hn1 (by omega) fun h6 O6 F6 D1 D2 => ?_
      have L6 := L.trans (drop_less L.w hx hk' hy1 hb)
      have hit6 : h6.get it = h4.get it := by
        obtain ⟨es, c, s, _, _, q⟩ := IC
        rw [q]
        exact F6.keep it _ (by show ¬ (τ it).own; rw [tit]; exact id) q
      refine ih h6 (dlG l k) (dropT T1 k r) (by omega) O6 (fr_acc O0.ok F4 F6 fun j e => .inl e) (L6.iff fun k' r' hh => ?_) (fun e => ?_) (dlG_nodup hnd) ?_ (F6.var V3 (by show ¬ (τ rc).own; rw [hrc]; exact id)) (F6.var VB (by show ¬ (τ bx).own; rw [hbx]; exact id)) (by show T1.n - 1 ≤ _; omega)
      · rw [lkG_dl hnd]
        constructor
        · rintro (⟨e1, e2⟩ | ⟨e1, e2⟩)
          · exact ⟨e1, (by by_cases q : k' = k; (rw [if_pos q]); (rw [if_neg q]; exact e2))⟩
          · exact ⟨e2, by rw [if_pos e1]⟩
        · rintro ⟨e1, e2⟩
          by_cases e : k' = k
          · exact .inr ⟨e, e1⟩
          · rw [if_neg e] at e2; exact .inl ⟨e1, e2⟩
      · have := dropG_lk (get := RD.ofs) (set := setR) L.w.rk hy1 (r := k) r
        rw [if_pos rfl, if_neg (by show ¬ (dlG l k).length = 0; exact fun q => e (List.length_eq_zero_iff.1 q))] at this
        exact this
      · have := IC.del sks D2 hit6
        rw [one, dlG_mp, ← dl_G]
        exact this
def deadB (T : TD) (live : Nat → Bool) (i : Nat) (_ : SK) (r : BK) : Prop := ∃ j, j < i ∧ (rkeys T)[j]? = some r ∧ live j = false
theorem c13 {x1 : AV} {live : Nat → Bool} {J : Nat → AHeap → (Nat → Prop) → Prop} {X0 : Nat → Prop} {GM : BK → AHeap → Nat → Nat → AV → AV → Prop} (O : TO τ h T) (W : TW T) (hn : T.n < 1000000) (hc : T.came < 1000000) (hl : T.rs.length < 1000000) (hf : T.rs.length < n) (hf2 : T.n < n)
    (hfn : ∀ g, eqV g false .fn x1 .nilFn = some (.bool false)) (hX0 : ∀ j, X0 j → τ j = .out ∧ j < h.sz) (hJ : J 0 h X0) (jfr : ∀ i h1 h2 X, J i h1 X → Fr (W8 τ) h1 h2 → J i h2 X)
    (ht : ∀ r y, lkG T.rs r = some y → ∀ h1, h1.Ok → Fr (fun j => (τ j).own ∨ X0 j) h h1 → ∀ K' : Kont, (∀ h2 a b, Ext h1 h2 → h2.Ok → GM r h2 h1.sz h2.sz a b → K' (.agg [.int .i64 y.core, a, b]) h2 = true) → callN E (n + 2) (.func 41) [.agg [.int .i64 y.core, y.els, y.env]] h1 K' = true)
    (hlive : ∀ i r y, (rkeys T)[i]? = some r → lkG T.rs r = some y → ∀ h1 X a b lo hi, h1.Ok → Fr (fun j => (τ j).own ∨ X0 j) h h1 → J i h1 X → GM r h1 lo hi a b → hi ≤ h1.sz → (∀ j, X j → ¬ (lo ≤ j ∧ j < hi)) → ∀ K' : Kont,
      (∀ h2 X', h2.Ok → Fr X h1 h2 → J (i + 1) h2 X' → (∀ j, X' j → (X j ∨ h1.sz ≤ j) ∧ j < h2.sz) → K' (.bool (live i)) h2 = true) → callV (callN E (n + 2)) x1 [.agg [.int .i64 y.core, a, b]] h1 K' = true)
    (kk : ∀ h' T' X, TO τ h' T' → Less T T' (deadB T live T.rs.length) → J T.rs.length h' X → Fr (fun j => (τ j).own ∨ X0 j) h h' → K (.int .i64 ((T.n : Int) - (T'.n : Int))) h' = true) :
    callN E (n + 3) (.func 13) [.ptr T.p 0 0 0, x1] h K = true := by
  have hlm : lim = 4611686018427387904 := rfl
  have hmo : most = 1099511627776 := rfl
  have rkl : (rkeys T).length = T.rs.length := by simp [rkeys]
  apply d13
  unfold s13
  obtain ⟨h1, q1, VB, e1, o1, z1⟩ := box_v (n := 1) (v := .ptr T.p 0 0 0) O.ok rfl (by decide) rfl
  have VB : Var h1 h.sz [.ptr T.p 0 0 0] := VB
  refine z_p q1 ?_
  refine z_of (hfn h1) ?_
  repeat first | (with_reducible first | refine z_nil ?_ | refine z_fadr ?_ | refine z_some ?_ | refine z_ext0 ?_ | refine z_ext1 ?_ | refine z_notT ?_ | refine z_notF ?_ | refine z_cT ?_ | refine z_cF ?_ | refine z_gtt ?_ | refine z_gff ?_ | refine z_gtf ?_ | refine z_gft ?_ | refine z_ptt ?_ | refine z_pff ?_ | refine z_ptf ?_ | refine z_pft ?_ | refine z_rtt ?_ | refine z_rff ?_ | refine z_rtf ?_ | refine z_rft ?_ | refine z_kt ?_ | refine z_kf ?_ | refine z_lss ?_ | refine z_gtr ?_ | refine z_leq ?_ | refine z_geq ?_ | refine z_eql ?_ | refine z_neq ?_ | refine z_seq ?_ | refine z_sne ?_ | refine z_slen ?_ | refine z_eqp ?_ | refine z_eqn ?_ | refine z_cv ?_)
  unfold p13_10
  have O1 := O.ext e1 o1
  have B1 : loadA h1 false 1 (.ptr h.sz 0 0 0) = some (.ptr T.p 0 0 0) := VB.get rfl
  repeat first | (with_reducible first | refine z_nil ?_ | refine z_fadr ?_ | refine z_some ?_ | refine z_ext0 ?_ | refine z_ext1 ?_ | refine z_notT ?_ | refine z_notF ?_ | refine z_cT ?_ | refine z_cF ?_ | refine z_gtt ?_ | refine z_gff ?_ | refine z_gtf ?_ | refine z_gft ?_ | refine z_ptt ?_ | refine z_pff ?_ | refine z_ptf ?_ | refine z_pft ?_ | refine z_rtt ?_ | refine z_rff ?_ | refine z_rtf ?_ | refine z_rft ?_ | refine z_kt ?_ | refine z_kf ?_ | refine z_lss ?_ | refine z_gtr ?_ | refine z_leq ?_ | refine z_geq ?_ | refine z_eql ?_ | refine z_neq ?_ | refine z_seq ?_ | refine z_sne ?_ | refine z_slen ?_ | refine z_eqp ?_ | refine z_eqn ?_ | refine z_cv ?_) | refine z_of B1 ?_ | refine z_of O1.l1 ?_
  obtain ⟨h2, r1, e2, o2, z2, IT⟩ := O1.rs.range' o1
  refine z_p r1 ?_
  have e02 := ext_two e1 e2
  have loop : ∀ hL lv, Ext h hL → hL.Ok → Var hL h.sz [.ptr T.p 0 0 0] → Own (h.sz + 1) hL 2 lv ((rkeys T).map ck) → ∀ m i g T1 X, T.rs.length - i < m → i ≤ T.rs.length → TO τ g T1 → Less T T1 (deadB T live i) → J i g X → Fr (fun j => (τ j).own ∨ X0 j) h g → hL.sz ≤ g.sz → Own (h.sz + 1) g 2 lv ((rkeys T).map ck) → (∀ j, inRow lv j → j < hL.sz) → Var g h.sz [.ptr T.p 0 0 0] → (∀ j, X j → j < g.sz ∧ τ j = .out ∧ (j < h.sz ∨ hL.sz ≤ j) ∧ (X0 j ∨ h.sz ≤ j)) → T1.n ≤ T.n →
      l13_35 (callN E (n + 2)) (n + 2) m x1 (.ptr h.sz 0 0 0) (.int .i64 (T.n : Int)) lv (.int .i64 (T.rs.length : Int)) (.int .i64 (i : Int)) g K = true := by
    intro hL lv eL oL VL OL m
    have szL : h.sz < hL.sz := VL.lt oL
    induction m with
    | zero => intro i g T1 X hm; omega
    | succ m ih =>
      intro i g T1 X hm hi O' L HJ F hg OV rlv VB hX hT1
      unfold l13_35 b13_35
      repeat first | (with_reducible first | refine z_nil ?_ | refine z_fadr ?_ | refine z_some ?_ | refine z_ext0 ?_ | refine z_ext1 ?_ | refine z_notT ?_ | refine z_notF ?_ | refine z_cT ?_ | refine z_cF ?_ | refine z_gtt ?_ | refine z_gff ?_ | refine z_gtf ?_ | refine z_gft ?_ | refine z_ptt ?_ | refine z_pff ?_ | refine z_ptf ?_ | refine z_pft ?_ | refine z_rtt ?_ | refine z_rff ?_ | refine z_rtf ?_ | refine z_rft ?_ | refine z_kt ?_ | refine z_kf ?_ | refine z_lss ?_ | refine z_gtr ?_ | refine z_leq ?_ | refine z_geq ?_ | refine z_eql ?_ | refine z_neq ?_ | refine z_seq ?_ | refine z_sne ?_ | refine z_slen ?_ | refine z_eqp ?_ | refine z_eqn ?_ | refine z_cv ?_)
      by_cases hlt : i < T.rs.length
      · refine z_ct (decide_eq_true (by omega)) ?_
        unfold p13_42
        have hr : (rkeys T)[i]? = some (rkeys T)[i] := List.getElem?_eq_getElem (by omega)
        generalize hrr : (rkeys T)[i] = r at hr
        obtain ⟨y, hy⟩ : ∃ y, lkG T.rs r = some y := by
          obtain ⟨p, hp, hp2⟩ := List.mem_map.1 (List.mem_of_getElem? hr)
          exact ⟨p.2, by rw [← hp2]; exact lkG_of_mem W.rk hp⟩
        obtain ⟨id, gg, j, p1, p2⟩ := OV.view.at1 (i := i) (e := ck r) (by rw [List.getElem?_map, hr]; rfl)
        have A : loadA g true 2 (.ptr id gg j 0) = some (bk2 r) := by rw [p2]; rfl
        repeat first | (with_reducible first | refine z_nil ?_ | refine z_fadr ?_ | refine z_some ?_ | refine z_ext0 ?_ | refine z_ext1 ?_ | refine z_notT ?_ | refine z_notF ?_ | refine z_cT ?_ | refine z_cF ?_ | refine z_gtt ?_ | refine z_gff ?_ | refine z_gtf ?_ | refine z_gft ?_ | refine z_ptt ?_ | refine z_pff ?_ | refine z_ptf ?_ | refine z_pft ?_ | refine z_rtt ?_ | refine z_rff ?_ | refine z_rtf ?_ | refine z_rft ?_ | refine z_kt ?_ | refine z_kf ?_ | refine z_lss ?_ | refine z_gtr ?_ | refine z_leq ?_ | refine z_geq ?_ | refine z_eql ?_ | refine z_neq ?_ | refine z_seq ?_ | refine z_sne ?_ | refine z_slen ?_ | refine z_eqp ?_ | refine z_eqn ?_ | refine z_cv ?_) | refine z_of (p1 .i64) ?_ | refine z_of A ?_
        obtain ⟨g2, c1, c2, e3, o3, z3⟩ := alloc_v (z := [AV.int .i64 0, .str []]) O'.ok (by decide) rfl
        refine z_p c1 ?_
        obtain ⟨g3, w1, w2, w3, o4, w5⟩ := c2.wrs o3 (n := 2) (v := bk2 r) rfl rfl rfl
        refine z_u w1 ?_
        have RC : Var g3 g.sz [.int .i64 r.1, .str r.2] := w2
        have eg3 : Ext g g3 := w3.ext e3 O'.ok (Nat.le_refl _)
        have O3 := O'.ext eg3 o4
        have VB3 := VB.ext eg3
        have notD : ∀ k, hasB T k r → ¬ deadB T live i k r := by
          rintro k _ ⟨j, hj, hj2, _⟩
          have hnd : (rkeys T).Nodup := W.rk
          have h1 := (List.getElem?_eq_some_iff.1 hj2)
          have h2 := (List.getElem?_eq_some_iff.1 hr)
          exact List.pairwise_iff_getElem.1 (List.nodup_iff_pairwise_ne.1 hnd) j i h1.1 h2.1 hj (h1.2.trans h2.2.symm)
        obtain ⟨y', hy', hbar⟩ := L.rget W hy notD
        simp only [barR, Prod.mk.injEq] at hbar
        obtain ⟨hid, hm', hcore, hels, henv, hcame⟩ := hbar
        have B3 : loadA g3 false 1 (.ptr h.sz 0 0 0) = some (.ptr T.p 0 0 0) := VB3.get rfl
        have M3 : loadA g3 false 1 (.ptr T.p 0 0 1) = some (.map T1.rm) := by have := O3.l1; rw [L.p] at this; exact this
        have A3 : loadA g3 true 2 (.ptr g.sz 0 0 0) = some (bk2 r) := RC.all rfl
        have R3 := O3.r r y' (lkG_mem hy')
        have LD : loadA g3 true 3 (.ptr y'.id 0 0 0) = some (.agg [.int .i64 y.core, y.els, y.env]) := by
          rw [← hcore, ← hels, ← henv, R3.row.load]; rfl
        repeat first | (with_reducible first | refine z_nil ?_ | refine z_fadr ?_ | refine z_some ?_ | refine z_ext0 ?_ | refine z_ext1 ?_ | refine z_notT ?_ | refine z_notF ?_ | refine z_cT ?_ | refine z_cF ?_ | refine z_gtt ?_ | refine z_gff ?_ | refine z_gtf ?_ | refine z_gft ?_ | refine z_ptt ?_ | refine z_pff ?_ | refine z_ptf ?_ | refine z_pft ?_ | refine z_rtt ?_ | refine z_rff ?_ | refine z_rtf ?_ | refine z_rft ?_ | refine z_kt ?_ | refine z_kf ?_ | refine z_lss ?_ | refine z_gtr ?_ | refine z_leq ?_ | refine z_geq ?_ | refine z_eql ?_ | refine z_neq ?_ | refine z_seq ?_ | refine z_sne ?_ | refine z_slen ?_ | refine z_eqp ?_ | refine z_eqn ?_ | refine z_cv ?_) | refine z_of B3 ?_ | refine z_of M3 ?_ | refine z_of A3 ?_ | refine z_of (O3.lkr hy') ?_ | refine z_of LD ?_
        have F3 : Fr (fun j => (τ j).own ∨ X0 j) h g3 := fr_ext F eg3
        refine ht r y hy g3 o4 F3 _ fun g4 a b e4 o5 G => ?_
        have eg4 := ext_two eg3 e4
        have J4 := jfr i g g4 X HJ (Fr.of_ext eg4)
        have s4 := e4.1; have s3 := eg3.1
        refine hlive i r y hr hy g4 X a b g3.sz g4.sz o5 (fr_ext F3 e4) J4 G (Nat.le_refl _) (fun j hj q => by have := (hX j hj).1; omega) _ fun g5 X' o6 F5 J5 hX' => ?_
        have Xout : ∀ j, X j → ¬ (τ j).own := fun j hj w => by rw [(hX j hj).2.1] at w; exact w
        have O5 := (O3.ext e4 o5).fr F5 o6 Xout
        have s5 := F5.sz
        have RC5 := F5.var (RC.ext e4) (fun q => by have := (hX _ q).1; omega)
        have VB5 := F5.var (VB3.ext e4) (fun q => by have := (hX _ q).2.2.1; omega)
        have OV5 : Own (h.sz + 1) g5 2 lv ((rkeys T).map ck) := by
          have := OV.ext eg4
          rcases this with q | ⟨id', r', u1, u2, u3, u⟩
          · exact .inl q
          · refine .inr ⟨id', r', u1, u2, F5.row (fun q => ?_) u3, u⟩
            have := rlv id' (by rw [u2]; exact ⟨_, _, _, _, _, rfl⟩)
            have := (hX _ q).2.2.1
            omega
        have F05 : Fr (fun j => (τ j).own ∨ X0 j) h g5 := fr_acc O.ok (fr_ext F3 e4) F5 fun j q => by
          rcases (hX j q).2.2.2 with q' | q'
          · exact .inl (.inr q')
          · exact .inr q'
        have hX5 : ∀ g6 : AHeap, g5.sz ≤ g6.sz → ∀ j, X' j → j < g6.sz ∧ τ j = .out ∧ (j < h.sz ∨ hL.sz ≤ j) ∧ (X0 j ∨ h.sz ≤ j) := fun g6 l j hj => by
          obtain ⟨q, ql⟩ := hX' j hj
          rcases q with q | q
          · obtain ⟨u1, u2, u3, u4⟩ := hX j q
            exact ⟨by omega, u2, u3, u4⟩
          · exact ⟨by omega, O.hi j (by have := O'.plt; omega), .inr (by omega), .inr (by omega)⟩
        repeat first | (with_reducible first | refine z_nil ?_ | refine z_fadr ?_ | refine z_some ?_ | refine z_ext0 ?_ | refine z_ext1 ?_ | refine z_notT ?_ | refine z_notF ?_ | refine z_cT ?_ | refine z_cF ?_ | refine z_gtt ?_ | refine z_gff ?_ | refine z_gtf ?_ | refine z_gft ?_ | refine z_ptt ?_ | refine z_pff ?_ | refine z_ptf ?_ | refine z_pft ?_ | refine z_rtt ?_ | refine z_rff ?_ | refine z_rtf ?_ | refine z_rft ?_ | refine z_kt ?_ | refine z_kf ?_ | refine z_lss ?_ | refine z_gtr ?_ | refine z_leq ?_ | refine z_geq ?_ | refine z_eql ?_ | refine z_neq ?_ | refine z_seq ?_ | refine z_sne ?_ | refine z_slen ?_ | refine z_eqp ?_ | refine z_eqn ?_ | refine z_cv ?_) | refine z_some ?_
        cases hlv : live i with
        | true =>
          refine z_cF ?_
          unfold p13_66
          repeat first | (with_reducible first | refine z_nil ?_ | refine z_fadr ?_ | refine z_some ?_ | refine z_ext0 ?_ | refine z_ext1 ?_ | refine z_notT ?_ | refine z_notF ?_ | refine z_cT ?_ | refine z_cF ?_ | refine z_gtt ?_ | refine z_gff ?_ | refine z_gtf ?_ | refine z_gft ?_ | refine z_ptt ?_ | refine z_pff ?_ | refine z_ptf ?_ | refine z_pft ?_ | refine z_rtt ?_ | refine z_rff ?_ | refine z_rtf ?_ | refine z_rft ?_ | refine z_kt ?_ | refine z_kf ?_ | refine z_lss ?_ | refine z_gtr ?_ | refine z_leq ?_ | refine z_geq ?_ | refine z_eql ?_ | refine z_neq ?_ | refine z_seq ?_ | refine z_sne ?_ | refine z_slen ?_ | refine z_eqp ?_ | refine z_eqn ?_ | refine z_cv ?_) | refine z_of (inc64 (i := i) (by omega)) ?_
          refine ih (i + 1) g5 T1 X' (by omega) (by omega) O5 (L.iff fun k r' _ => ?_) J5 F05 (by omega) OV5 rlv VB5 (hX5 g5 (Nat.le_refl _)) hT1
          constructor
          · rintro ⟨j, h1, h2, h3⟩; exact ⟨j, by omega, h2, h3⟩
          · rintro ⟨j, h1, h2, h3⟩
            have : j ≠ i := fun e => by rw [e, hlv] at h3; cases h3
            exact ⟨j, by omega, h2, h3⟩
        | false =>
          refine z_cT ?_
          have R5 := O5.r r y' (lkG_mem hy')
          repeat first | (with_reducible first | refine z_nil ?_ | refine z_fadr ?_ | refine z_some ?_ | refine z_ext0 ?_ | refine z_ext1 ?_ | refine z_notT ?_ | refine z_notF ?_ | refine z_cT ?_ | refine z_cF ?_ | refine z_gtt ?_ | refine z_gff ?_ | refine z_gtf ?_ | refine z_gft ?_ | refine z_ptt ?_ | refine z_pff ?_ | refine z_ptf ?_ | refine z_pft ?_ | refine z_rtt ?_ | refine z_rff ?_ | refine z_rtf ?_ | refine z_rft ?_ | refine z_kt ?_ | refine z_kf ?_ | refine z_lss ?_ | refine z_gtr ?_ | refine z_leq ?_ | refine z_geq ?_ | refine z_eql ?_ | refine z_neq ?_ | refine z_seq ?_ | refine z_sne ?_ | refine z_slen ?_ | refine z_eqp ?_ | refine z_eqn ?_ | refine z_cv ?_) | refine z_of R5.l4 ?_
          obtain ⟨g6, v1, e6, o7, z6, ITD⟩ := R5.map.rangeD o6
          refine z_p v1 ?_
          have O6 := O5.ext e6 o7
          have gsz : h.sz ≤ g.sz := by omega
          obtain ⟨n, rfl⟩ : ∃ j, n = j + 1 := ⟨n - 1, by omega⟩
          have hT1p : T1.p = T.p := L.p
          have hofs : y'.ofs.length ≤ T1.n := by
            have hnd := L.w.on r y' hy'
            rw [L.w.sum]
            have : ∀ (ks : List (SK × Unit)), (ks.map fun p => p.1).Nodup → (∀ p ∈ ks, hasB T1 p.1 r) → ks.length ≤ (T1.cs.filter fun p => (lkG p.2.bys r).isSome).length := by
              intro ks hks hh
              have h1 : (ks.map fun p => p.1).length ≤ ((T1.cs.filter fun p => (lkG p.2.bys r).isSome).map fun p => p.1).length := nodup_len hks fun k hk => by
                obtain ⟨p, hp, rfl⟩ := List.mem_map.1 hk
                obtain ⟨x, hx1, hx2⟩ := hh p hp
                exact List.mem_map.2 ⟨(p.1, x), List.mem_filter.2 ⟨lkG_mem hx1, by simp [hx2]⟩, rfl⟩
              simpa using h1
            refine Nat.le_trans (this y'.ofs hnd fun p hp => (L.w.bij p.1 r).2 ⟨y', hy', lkG_of_mem hnd hp⟩) ?_
            have : ∀ (cs : List (SK × CD)), (cs.filter fun p => (lkG p.2.bys r).isSome).length ≤ sumG CD.bys cs := by
              intro cs
              induction cs with
              | nil => simp
              | cons p t ih =>
                simp only [List.filter_cons, sumG, List.map_cons, List.sum_cons] at ih ⊢
                split
                · rename_i hp
                  cases hq : lkG p.2.bys r with
                  | none => rw [hq] at hp; cases hp
                  | some u =>
                    have := List.length_pos_of_mem (lkG_mem hq)
                    simp only [List.length_cons]; omega
                · omega
            exact this _
          refine l54 (n := n + 2) (r := r) (y := y') (it := g5.sz) O5 L.w hy' (by omega) (Nat.le_refl _) (O'.hi g.sz (Nat.le_refl _)) (O.hi h.sz (Nat.le_refl _)) (fun g7 T2 O7 F7 L7 VB7 hT2 => ?_) (n + 3) g6 y'.ofs T1 (by omega) O6 (Fr.of_ext e6) ((Less.refl L.w).iff fun k' r' hh => ⟨fun q => q.elim, fun ⟨q1, q2⟩ => by
              obtain ⟨z, u1, u2⟩ := (L.w.bij k' r').1 hh
              rw [q1, hy'] at u1; cases u1
              rw [q2] at u2; cases u2⟩) (fun _ => by rw [hy']; rfl) (L.w.on r y' hy') ITD (RC5.ext e6) (by rw [hT1p]; exact VB5.ext e6) (Nat.le_refl _)
          unfold p13_66
          repeat first | (with_reducible first | refine z_nil ?_ | refine z_fadr ?_ | refine z_some ?_ | refine z_ext0 ?_ | refine z_ext1 ?_ | refine z_notT ?_ | refine z_notF ?_ | refine z_cT ?_ | refine z_cF ?_ | refine z_gtt ?_ | refine z_gff ?_ | refine z_gtf ?_ | refine z_gft ?_ | refine z_ptt ?_ | refine z_pff ?_ | refine z_ptf ?_ | refine z_pft ?_ | refine z_rtt ?_ | refine z_rff ?_ | refine z_rtf ?_ | refine z_rft ?_ | refine z_kt ?_ | refine z_kf ?_ | refine z_lss ?_ | refine z_gtr ?_ | refine z_leq ?_ | refine z_geq ?_ | refine z_eql ?_ | refine z_neq ?_ | refine z_seq ?_ | refine z_sne ?_ | refine z_slen ?_ | refine z_eqp ?_ | refine z_eqn ?_ | refine z_cv ?_) | refine z_of (inc64 (i := i) (by omega)) ?_
          have F57 : Fr (W8 τ) g5 g7 := F7
          have s7 := F57.sz
          refine ih (i + 1) g7 T2 X' (by omega) (by omega) O7 ((L.trans L7).iff fun k r' _ => ?_) (jfr (i + 1) g5 g7 X' J5 F57) (fr_acc O.ok F05 F57 fun j w => .inl (.inl w)) (by omega) ?_ rlv (by rw [← hT1p]; exact VB7) (hX5 g7 s7) ?_
          · constructor
            · rintro (⟨j, h1, h2, h3⟩ | h1)
              · exact ⟨j, by omega, h2, h3⟩
              · exact ⟨i, by omega, by rw [h1]; exact hr, hlv⟩
            · rintro ⟨j, h1, h2, h3⟩
              by_cases e : j = i
              · rw [e, hr] at h2; injection h2 with h2; exact .inr h2.symm
              · exact .inl ⟨j, by omega, h2, h3⟩
          · rcases OV5 with q | ⟨id', r', u1, u2, u3, u⟩
            · exact .inl q
            · refine .inr ⟨id', r', u1, u2, F57.row (fun q => ?_) u3, u⟩
              have q : (τ id').own := q
              rw [O.hi id' (by omega)] at q; exact q
          · omega
      · refine z_cf (decide_eq_false (by omega)) ?_
        have : i = T.rs.length := by omega
        subst this
        unfold p13_67
        have B3 : loadA g false 1 (.ptr h.sz 0 0 0) = some (.ptr T.p 0 0 0) := VB.get rfl
        have M3 : loadA g false 1 (.ptr T.p 0 0 3) = some (.int .i64 (T1.n : Int)) := by have := O'.l3; rw [L.p] at this; exact this
        repeat first | (with_reducible first | refine z_nil ?_ | refine z_fadr ?_ | refine z_some ?_ | refine z_ext0 ?_ | refine z_ext1 ?_ | refine z_notT ?_ | refine z_notF ?_ | refine z_cT ?_ | refine z_cF ?_ | refine z_gtt ?_ | refine z_gff ?_ | refine z_gtf ?_ | refine z_gft ?_ | refine z_ptt ?_ | refine z_pff ?_ | refine z_ptf ?_ | refine z_pft ?_ | refine z_rtt ?_ | refine z_rff ?_ | refine z_rtf ?_ | refine z_rft ?_ | refine z_kt ?_ | refine z_kf ?_ | refine z_lss ?_ | refine z_gtr ?_ | refine z_leq ?_ | refine z_geq ?_ | refine z_eql ?_ | refine z_neq ?_ | refine z_seq ?_ | refine z_sne ?_ | refine z_slen ?_ | refine z_eqp ?_ | refine z_eqn ?_ | refine z_cv ?_) | refine z_of B3 ?_ | refine z_of M3 ?_ | refine z_of (sub64 (a := (T.n : Int)) (b := (T1.n : Int)) (by omega) (by omega)) ?_
        exact kk g T1 X O' L HJ F
  suffices H : ∀ m h3 lv (done : List (BK × RD)), T.rs.length - done.length < m → done.length ≤ T.rs.length → Ext h h3 → h3.Ok → h1.sz < h3.sz → Var h3 h.sz [.ptr T.p 0 0 0] → KIter bk2 h3 h1.sz T.rm (mp (fun x => .ptr x.id 0 0 0) T.rs) (mp (fun x => .ptr x.id 0 0 0) done) → (∀ x ∈ done, x ∈ T.rs) → Own (h1.sz + 1) h3 2 lv ((done.map fun x => x.1).map ck) →
      l13_16 (callN E (n + 2)) (n + 2) m x1 (.ptr h.sz 0 0 0) lv (.itr h1.sz) h3 K = true from H (n + 2) h2 .nilSlc [] (by simp; omega) (Nat.zero_le _) e02 o2 (by omega) (VB.ext e2) IT (by simp) (Own.nil _ _ _)
  intro m
  induction m with
  | zero => intro h3 lv done hm; omega
  | succ m ih =>
    intro h3 lv done hm hd e3 o3 hz3 VB3 IT hin OL
    unfold l13_16 b13_16
    have rml := O.rs.lt O.ok
    refine IT.next bks o3 (by omega) (fun hP => ?_) (fun r v h4 hv hnd b4 o4 z4 IT4 ent => ?_)
    · repeat first | (with_reducible first | refine z_nil ?_ | refine z_fadr ?_ | refine z_some ?_ | refine z_ext0 ?_ | refine z_ext1 ?_ | refine z_notT ?_ | refine z_notF ?_ | refine z_cT ?_ | refine z_cF ?_ | refine z_gtt ?_ | refine z_gff ?_ | refine z_gtf ?_ | refine z_gft ?_ | refine z_ptt ?_ | refine z_pff ?_ | refine z_ptf ?_ | refine z_pft ?_ | refine z_rtt ?_ | refine z_rff ?_ | refine z_rtf ?_ | refine z_rft ?_ | refine z_kt ?_ | refine z_kf ?_ | refine z_lss ?_ | refine z_gtr ?_ | refine z_leq ?_ | refine z_geq ?_ | refine z_eql ?_ | refine z_neq ?_ | refine z_seq ?_ | refine z_sne ?_ | refine z_slen ?_ | refine z_eqp ?_ | refine z_eqn ?_ | refine z_cv ?_) | refine z_some ?_
      have hPk : (done.map fun x => x.1).Perm (rkeys T) := by
        have := hP.map fun p => p.1
        rwa [mp_keys, mp_keys] at this
      have O3 := O.ext e3 o3
      refine c46 (n := n) (b := h1.sz + 1) O3 W hc VB3 OL hPk (by rw [List.length_map]; omega) (by omega) (by have := O.plt; omega) (by omega) (fun r y hy => by have := (O.r r y (lkG_mem hy)).row.lt O.ok; omega) fun h5 F5 o5 OL5 => ?_
      have low : ∀ j, inRow lv j → h1.sz + 1 ≤ j := fun j hj => own_row OL hj
      have e5 : Ext h h5 := F5.ext e3 O.ok fun j hj => by have := low j hj; omega
      have VB5 := F5.var VB3 fun q => by have := low _ q; omega
      have O5 := O.ext e5 o5
      have B5 : loadA h5 false 1 (.ptr h.sz 0 0 0) = some (.ptr T.p 0 0 0) := VB5.get rfl
      have LL : lenA h5 1 lv = some (.int .i64 (T.rs.length : Int)) := by have := OL5.view.len; rwa [List.length_map, rkl] at this
      repeat first | (with_reducible first | refine z_nil ?_ | refine z_fadr ?_ | refine z_some ?_ | refine z_ext0 ?_ | refine z_ext1 ?_ | refine z_notT ?_ | refine z_notF ?_ | refine z_cT ?_ | refine z_cF ?_ | refine z_gtt ?_ | refine z_gff ?_ | refine z_gtf ?_ | refine z_gft ?_ | refine z_ptt ?_ | refine z_pff ?_ | refine z_ptf ?_ | refine z_pft ?_ | refine z_rtt ?_ | refine z_rff ?_ | refine z_rtf ?_ | refine z_rft ?_ | refine z_kt ?_ | refine z_kf ?_ | refine z_lss ?_ | refine z_gtr ?_ | refine z_leq ?_ | refine z_geq ?_ | refine z_eql ?_ | refine z_neq ?_ | refine z_seq ?_ | refine z_sne ?_ | refine z_slen ?_ | refine z_eqp ?_ | refine z_eqn ?_ | refine z_cv ?_) | refine z_of B5 ?_ | refine z_of O5.l3 ?_ | refine z_of LL ?_
      have OL6 : Own (h.sz + 1) h5 2 lv ((rkeys T).map ck) := by
        rcases OL5 with q | ⟨id', r', u1, u⟩
        · exact .inl q
        · exact .inr ⟨id', r', by omega, u⟩
      refine loop h5 lv e5 o5 VB5 OL6 (n + 2) 0 h5 T X0 (by omega) (Nat.zero_le _) O5 ((Less.refl W).iff fun k' r' _ => ⟨fun q => q.elim, fun ⟨j, q, _⟩ => by omega⟩) (jfr 0 h h5 X0 hJ (Fr.of_ext e5)) (Fr.of_ext e5) (Nat.le_refl _) OL6 (fun j hj => own_lt (own_low OL6) o5 hj) VB5 (fun j hj => ?_) (Nat.le_refl _)
      obtain ⟨q1, q2⟩ := hX0 j hj
      have := e5.1
      exact ⟨by omega, q1, .inl q2, .inl hj⟩
    · obtain ⟨p, hp, hpe⟩ := List.mem_map.1 hv
      obtain ⟨r', y⟩ := p
      simp only [Prod.mk.injEq] at hpe
      obtain ⟨rfl, rfl⟩ := hpe
      repeat first | (with_reducible first | refine z_nil ?_ | refine z_fadr ?_ | refine z_some ?_ | refine z_ext0 ?_ | refine z_ext1 ?_ | refine z_notT ?_ | refine z_notF ?_ | refine z_cT ?_ | refine z_cF ?_ | refine z_gtt ?_ | refine z_gff ?_ | refine z_gtf ?_ | refine z_gft ?_ | refine z_ptt ?_ | refine z_pff ?_ | refine z_ptf ?_ | refine z_pft ?_ | refine z_rtt ?_ | refine z_rff ?_ | refine z_rtf ?_ | refine z_rft ?_ | refine z_kt ?_ | refine z_kf ?_ | refine z_lss ?_ | refine z_gtr ?_ | refine z_leq ?_ | refine z_geq ?_ | refine z_eql ?_ | refine z_neq ?_ | refine z_seq ?_ | refine z_sne ?_ | refine z_slen ?_ | refine z_eqp ?_ | refine z_eqn ?_ | refine z_cv ?_) | refine z_of ent ?_
      have e4 : Ext h h4 := b4.ext e3 O.ok (by omega)
      have VB4 := b4.var VB3 (by omega)
      obtain ⟨h5, c1, c2, e5, o5, z5⟩ := alloc_v (z := [AV.int .i64 0, .str []]) o4 (by decide) rfl
      refine z_p c1 ?_
      obtain ⟨h6, w1, w2, w3, o6, w5⟩ := c2.wrs o5 (n := 2) (v := bk2 r') rfl rfl rfl
      refine z_u w1 ?_
      have RC : Var h6 h4.sz [.int .i64 r'.1, .str r'.2] := w2
      have e46 : Ext h4 h6 := w3.ext e5 o4 (Nat.le_refl _)
      have A6 : loadA h6 true 2 (.ptr h4.sz 0 0 0) = some (bk2 r') := RC.all rfl
      repeat first | (with_reducible first | refine z_nil ?_ | refine z_fadr ?_ | refine z_some ?_ | refine z_ext0 ?_ | refine z_ext1 ?_ | refine z_notT ?_ | refine z_notF ?_ | refine z_cT ?_ | refine z_cF ?_ | refine z_gtt ?_ | refine z_gff ?_ | refine z_gtf ?_ | refine z_gft ?_ | refine z_ptt ?_ | refine z_pff ?_ | refine z_ptf ?_ | refine z_pft ?_ | refine z_rtt ?_ | refine z_rff ?_ | refine z_rtf ?_ | refine z_rft ?_ | refine z_kt ?_ | refine z_kf ?_ | refine z_lss ?_ | refine z_gtr ?_ | refine z_leq ?_ | refine z_geq ?_ | refine z_eql ?_ | refine z_neq ?_ | refine z_seq ?_ | refine z_sne ?_ | refine z_slen ?_ | refine z_eqp ?_ | refine z_eqn ?_ | refine z_cv ?_) | refine z_of A6 ?_
      obtain ⟨u, h7, q1, V7, e7, o7, z7, _⟩ := bslice1_v (sz := 2) (z := [AV.int .i64 0, .str []]) (v := bk2 r') o6 rfl (by decide) (by decide) rfl rfl rfl
      have V7 : View h7 2 u [ck r'] := V7
      refine z_p q1 ?_
      have e47 := ext_two e46 e7
      have OL4 : Own (h1.sz + 1) h4 2 lv ((done.map fun x => x.1).map ck) := by
        rcases OL with q | ⟨id', r1, u1, u2, u3, u⟩
        · exact .inl q
        · exact .inr ⟨id', r1, u1, u2, (Fr.of_but (X := fun j => j = h1.sz) rfl b4).row (by omega) u3, u⟩
      have s47 := e47.1
      obtain ⟨lv', h8, a1, a2, a3, a4, a5, a6⟩ := own_app2 (bytes := 24) (OL4.ext e47) (by decide) (by omega) o7 O.ok (ext_two e4 e47) (by omega) V7.src (by simp; omega) (by simp; omega)
      refine z_p a1 ?_
      have nin : (r', y) ∉ done := fun q => hnd (List.mem_map.2 ⟨_, q, rfl⟩)
      have mpe : mp (fun x : RD => AV.ptr x.id 0 0 0) (done ++ [(r', y)]) = mp (fun x : RD => AV.ptr x.id 0 0 0) done ++ [(r', .ptr y.id 0 0 0)] := by simp [mp]
      have hdl : done.length < T.rs.length := by
        have h1 : ((mp (fun x : RD => AV.ptr x.id 0 0 0) (done ++ [(r', y)])).map fun p => p.1).Nodup := by rw [mpe]; exact kiter_nodup bks IT4
        rw [mp_keys] at h1
        have := nodup_len h1 (b := T.rs.map fun p => p.1) fun a ha => by
          obtain ⟨q, hq, rfl⟩ := List.mem_map.1 ha
          refine List.mem_map.2 ⟨q, ?_, rfl⟩
          rcases List.mem_append.1 hq with hq | hq
          · exact hin q hq
          · simp at hq; subst hq; exact hp
        rw [List.length_map, List.length_map, List.length_append] at this
        simp at this; omega
      have f48 : Fr (inRow lv) h4 h8 := (Fr.of_ext e47).trans a5
      have low : ∀ j, inRow lv j → h1.sz + 1 ≤ j := fun j hj => own_row OL hj
      have s8 := f48.sz
      refine ih h8 lv' (done ++ [(r', y)]) (by rw [List.length_append]; simp; omega) (by rw [List.length_append]; simp; omega) a4 a3 (by omega) (f48.var VB4 fun q => by have := low _ q; omega) ?_ ?_ ?_
      · rw [mpe]
        exact f48.kiter IT4 (fun q => by have := low _ q; omega) (fun q => by have := low _ q; omega)
      · intro a ha
        rcases List.mem_append.1 ha with ha | ha
        · exact hin a ha
        · simp at ha; subst ha; exact hp
      · rw [List.map_append, List.map_append]; exact a2
end
end Go.Proofs.Ytbamgdknkhhikaa
namespace Go.Proofs.Ytbamgdknkhhikaa
open Go.Ab
set_option linter.unusedSimpArgs false
set_option linter.unusedVariables false
def leafOk (kind : Int) (b : Bool) (n : Int) (t : Str) (len : Nat) : Bool :=
  if kind = 0 then !b && decide (n = 0) && decide (t = []) && decide (len = 0)
  else if kind = 1 then decide (n = 0) && decide (t = []) && decide (len = 0)
  else if kind = 2 then !b && decide (t = []) && decide (len = 0)
  else if kind = 3 then !b && decide (n = 0) && decide (len = 0) && decide (t.length ≤ 65536)
  else if kind = 5 then !b && decide (t = []) && decide (len = 0) && decide (1 ≤ n)
  else false
def ckV : Nat → Val → Bool
  | 0 => fun v => match v with | .mk kind b n t l => leafOk kind b n t l.length
  | k + 1 => fun v => match v with
    | .mk kind b n t l => if kind = 4 then !b && decide (n = 0) && decide (t = []) && decide (l.length ≤ 4096) && l.all (ckV k) else leafOk kind b n t l.length
theorem eqV_b (h : AHeap) (a b : Bool) : eqV h false .bool (.bool a) (.bool b) = some (.bool (a == b)) := rfl
theorem and_ll {h : AHeap} {c r : Bool} {p q a b : AV} {op : BinOp} {k : AV → Bool} (ha : loadA h false 1 p = some a) (hb : loadA h false 1 q = some b) (hr : binA op a b = some (.bool r)) :
    (optB (grdO (wantV (.bool c) true) (some p)) fun v15 => optB (grdO (wantV (.bool c) true) (loadA h false 1 v15)) fun v16 => optB (grdO (wantV (.bool c) true) (some q)) fun v17 => optB (grdO (wantV (.bool c) true) (loadA h false 1 v17)) fun v18 => optB (grdO (wantV (.bool c) true) (binA op v16 v18)) fun v19 => optB (pickV (.bool c) v19 (.bool false)) fun v20 => k v20) = k (.bool (c && r)) := by
  cases c with
  | false => rfl
  | true => simp only [wantV_true, grdO_true, optB_some, ha, hb, hr, pickV_true, Bool.true_and]
theorem and_len {h : AHeap} {c : Bool} {p : AV} {t : Str} {k : AV → Bool} (ha : loadA h false 1 p = some (.str t)) :
    (optB (grdO (wantV (.bool c) true) (some p)) fun v27 => optB (grdO (wantV (.bool c) true) (loadA h false 1 v27)) fun v28 => optB (grdO (wantV (.bool c) true) (lenA h 0 v28)) fun v29 => optB (grdO (wantV (.bool c) true) (binA .leq v29 (.int .i64 65536))) fun v30 => optB (pickV (.bool c) v30 (.bool false)) fun v31 => k v31) = k (.bool (c && decide (t.length ≤ 65536))) := by
  have e1 : decide ((t.length : Int) ≤ 65536) = decide (t.length ≤ 65536) := by congr 1; apply propext; omega
  cases c with
  | false => rfl
  | true => simp only [wantV_true, grdO_true, optB_some, ha, lenA_str, binA_leq, e1, pickV_true, Bool.true_and]
theorem and_end {h : AHeap} {c : Bool} {p q lv : AV} {len : Nat} {kind : Int} {k : AV → Bool} (ha : loadA h false 1 p = some lv) (L : lenA h 1 lv = some (.int .i64 (len : Int))) (hb : loadA h false 1 q = some (.int .i64 kind)) :
    (optB (grdO (wantV (.bool c) true) (some p)) fun v32 => optB (grdO (wantV (.bool c) true) (loadA h false 1 v32)) fun v33 => optB (grdO (wantV (.bool c) true) (lenA h 1 v33)) fun v34 => optB (grdO (wantV (.bool c) true) (binA .eql v34 (.int .i64 0))) fun v35 => optB (grdO (wantV (.bool c) true) (some v35)) fun v36 => optB (grdO (wantV v36 false) (some q)) fun v37 => optB (grdO (wantV v36 false) (loadA h false 1 v37)) fun v38 => optB (grdO (wantV v36 false) (binA .eql v38 (.int .i64 4))) fun v39 => optB (grdO (wantV (.bool c) true) (pickV v36 (.bool true) v39)) fun v40 => optB (pickV (.bool c) v40 (.bool false)) fun v41 => k v41) = k (.bool (c && (decide (len = 0) || decide (kind = 4)))) := by
  have e2 : decide ((len : Int) = 0) = decide (len = 0) := by congr 1; apply propext; omega
  cases c with
  | false => rfl
  | true =>
    rw [wantV_true, grdO_true, optB_some, grdO_true, ha, optB_some, grdO_true, L, optB_some, grdO_true, binA_eql, e2, optB_some, grdO_true, optB_some]
    cases hd : decide (len = 0) with
    | true => rfl
    | false => simp only [wantV_false, Bool.not_false, grdO_true, optB_some, hb, binA_eql, pickV_false, pickV_true, Bool.true_and, Bool.false_or]
theorem last64 {n p q len : Nat} {h : AHeap} {kind x x' : Int} {b b' : Bool} {t t' : Str} {lv k0 l0 : AV} {K : Kont} {call : CallFn} (V : Var h p [.int .i64 kind, .bool b, .int .i64 x, .str t, lv]) (Q : Var h q [k0, .bool b', .int .i64 x', .str t', l0]) (L : lenA h 1 lv = some (.int .i64 (len : Int))) :
    p67_64 call n (.ptr p 0 0 0) (.ptr q 0 0 0) h K = K (.bool ((b == b') && decide (x = x') && decide (t = t') && decide (t.length ≤ 65536) && (decide (len = 0) || decide (kind = 4)))) h := by
  unfold p67_64
  have e : ∀ o, fadrA o (.ptr p 0 0 0) = some (.ptr p 0 0 o) := fun o => by rw [fadrA_ptr, Nat.zero_add]
  have e' : ∀ o, fadrA o (.ptr q 0 0 0) = some (.ptr q 0 0 o) := fun o => by rw [fadrA_ptr, Nat.zero_add]
  rw [e, optB_some, V.load, partA_false, nth_succ, nth_zero, optB_some, e', optB_some, Q.load, partA_false, nth_succ, nth_zero, optB_some, eqV_b, optB_some, e, e',
    and_ll (a := .int .i64 x) (b := .int .i64 x') (r := decide (x = x')) (by rw [V.load]; rfl) (by rw [Q.load]; rfl) (binA_eql _ _ _), e, e',
    and_ll (a := .str t) (b := .str t') (r := decide (t = t')) (by rw [V.load]; rfl) (by rw [Q.load]; rfl) (binA_seql _ _),
    and_len (t := t) (by rw [V.load]; rfl), e, e, and_end (lv := lv) (len := len) (kind := kind) (by rw [V.load]; rfl) L (by rw [V.load]; rfl)]
theorem ckV_leaf {k : Nat} {kind : Int} {b : Bool} {n : Int} {t : Str} {l : List Val} (h : kind ≠ 4) : ckV k (.mk kind b n t l) = leafOk kind b n t l.length := by
  cases k with
  | zero => rfl
  | succ k => simp only [ckV, if_neg h]
theorem ckV_list {k : Nat} {b : Bool} {n : Int} {t : Str} {l : List Val} : ckV (k + 1) (.mk 4 b n t l) = (!b && decide (n = 0) && decide (t = []) && decide (l.length ≤ 4096) && l.all (ckV k)) := by
  simp only [ckV, if_pos]
theorem or_deep {h : AHeap} {p lv : AV} {len : Nat} {deep : Int} {k : AV → Bool} (ha : loadA h false 1 p = some lv) (L : lenA h 1 lv = some (.int .i64 (len : Int))) :
    (optB (binA .geq (.int .i64 deep) (.int .i64 30)) fun v64 => optB (grdO (wantV v64 false) (some p)) fun v65 => optB (grdO (wantV v64 false) (loadA h false 1 v65)) fun v66 => optB (grdO (wantV v64 false) (lenA h 1 v66)) fun v67 => optB (grdO (wantV v64 false) (binA .gtr v67 (.int .i64 4096))) fun v68 => optB (pickV v64 (.bool true) v68) fun v69 => k v69) = k (.bool (decide (30 ≤ deep) || decide (4096 < len))) := by
  have e : decide ((4096 : Int) < (len : Int)) = decide (4096 < len) := by congr 1; apply propext; omega
  rw [binA_geq, optB_some]
  cases hd : decide (30 ≤ deep) with
  | true => rfl
  | false => simp only [wantV_false, Bool.not_false, grdO_true, optB_some, ha, L, binA_gtr, e, pickV_false, Bool.false_or]
theorem leaf5 {a b c d e : AV} (ha : a.leaf = true) (hb : b.leaf = true) (hc : c.leaf = true) (hd : d.leaf = true) (he : e.leaf = true) : (AV.agg [a, b, c, d, e]).cells = [a, b, c, d, e] ∧ allLeaf [a, b, c, d, e] = true := by
  refine ⟨rfl, ?_⟩
  show (bif a.leaf then (bif b.leaf then (bif c.leaf then (bif d.leaf then (bif e.leaf then true else false) else false) else false) else false) else false) = true
  rw [ha, hb, hc, hd, he]; rfl
theorem leafOk0 {b : Bool} {x : Int} {t : Str} {len : Nat} : (((b == false) && decide (x = 0) && decide (t = []) && decide (t.length ≤ 65536) && (decide (len = 0) || decide ((0 : Int) = 4)))) = leafOk 0 b x t len := by
  by_cases ht : t = []
  · subst ht; cases b <;> simp [leafOk]
  · cases b <;> simp [leafOk, ht]
theorem leafOk1 {b : Bool} {x : Int} {t : Str} {len : Nat} : (((b == b) && decide (x = 0) && decide (t = []) && decide (t.length ≤ 65536) && (decide (len = 0) || decide ((1 : Int) = 4)))) = leafOk 1 b x t len := by
  by_cases ht : t = []
  · subst ht; cases b <;> simp [leafOk]
  · cases b <;> simp [leafOk, ht]
theorem leafOk2 {b : Bool} {x : Int} {t : Str} {len : Nat} : (((b == false) && decide (x = x) && decide (t = []) && decide (t.length ≤ 65536) && (decide (len = 0) || decide ((2 : Int) = 4)))) = leafOk 2 b x t len := by
  by_cases ht : t = []
  · subst ht; cases b <;> simp [leafOk]
  · cases b <;> simp [leafOk, ht]
theorem leafOk3 {b : Bool} {x : Int} {t : Str} {len : Nat} : (((b == false) && decide (x = 0) && decide (t = t) && decide (t.length ≤ 65536) && (decide (len = 0) || decide ((3 : Int) = 4)))) = leafOk 3 b x t len := by
  cases b <;> simp [leafOk, Bool.and_comm, Bool.and_assoc, Bool.and_left_comm]
theorem leafOk5 {b : Bool} {x : Int} {t : Str} {len : Nat} : (((b == false) && decide (x = if x < 1 then 1 else x) && decide (t = []) && decide (t.length ≤ 65536) && (decide (len = 0) || decide ((5 : Int) = 4)))) = leafOk 5 b x t len := by
  have e : decide (x = if x < 1 then 1 else x) = decide (1 ≤ x) := by
    congr 1; apply propext
    by_cases h : x < 1
    · rw [if_pos h]; omega
    · rw [if_neg h]; omega
  rw [e]
  by_cases ht : t = []
  · subst ht; cases b <;> simp [leafOk, Bool.and_comm]
  · cases b <;> simp [leafOk, ht]
theorem leafOk_else {kind : Int} {b : Bool} {x : Int} {t : Str} {len : Nat} (h0 : kind ≠ 0) (h1 : kind ≠ 1) (h2 : kind ≠ 2) (h3 : kind ≠ 3) (h5 : kind ≠ 5) : leafOk kind b x t len = false := by
  simp only [leafOk, if_neg h0, if_neg h1, if_neg h2, if_neg h3, if_neg h5]
theorem mm_eq (x : Int) : mmV true [.int .i64 x, .int .i64 1] = some (.int .i64 (if x < 1 then 1 else x)) := by
  simp only [mmV, mmA, Nat.beq_refl, cond_true, iltb_dec]
  by_cases h : x < 1
  · simp [h]
  · simp [h]
theorem st_some {o : Option AHeap} {h : AHeap} {k : Kont} (e : o = some h) (hk : k (.tup []) h = true) : optP (unit o) k = true := by subst e; exact hk
theorem pre67 {n : Nat} {h : AHeap} {kind x deep : Int} {b : Bool} {t : Str} {lv : AV} {len : Nat} {K : Kont} (ho : h.Ok) (hlf : lv.leaf = true) (L : ∀ h', Ext h h' → lenA h' 1 lv = some (.int .i64 (len : Int)))
    (kl : kind ≠ 4 → ∀ h', Ext h h' → h'.Ok → K (.bool (leafOk kind b x t len)) h' = true)
    (k4 : kind = 4 → ∀ h' p q, Ext h h' → h'.Ok → Var h' p [.int .i64 kind, .bool b, .int .i64 x, .str t, lv] → Var h' q [.int .i64 kind, .bool false, .int .i64 0, .str [], .nilSlc] → (condB (.bool (decide (30 ≤ deep) || decide (4096 < len))) (K (.bool false) h') (p67_39 (callN E n) n (.int .i64 deep) (.ptr p 0 0 0) (.ptr q 0 0 0) h' K)) = true) :
    callN E (n + 1) (.func 67) [.agg [.int .i64 kind, .bool b, .int .i64 x, .str t, lv], .int .i64 deep] h K = true := by
  obtain ⟨lf1, lf2⟩ := leaf5 (a := .int .i64 kind) (b := .bool b) (c := .int .i64 x) (d := .str t) (e := lv) rfl rfl rfl rfl hlf
  apply d67
  unfold s67
  rw [box_eq (n := 5) (v := .agg [.int .i64 kind, .bool b, .int .i64 x, .str t, lv]) (by rw [lf1]; rfl) (by decide) (by rw [lf1]; exact lf2), optP_some, lf1]
  have e1 := ext_newRow ho [[AV.int .i64 kind, .bool b, .int .i64 x, .str t, lv]] 5
  have o1 := ok_newRow ho [[AV.int .i64 kind, .bool b, .int .i64 x, .str t, lv]] 5
  have V1 := var_new h [AV.int .i64 kind, .bool b, .int .i64 x, .str t, lv]
  simp only [List.length_cons, List.length_nil, Nat.zero_add] at V1
  have s1 : (Ab.newRow h [[AV.int .i64 kind, .bool b, .int .i64 x, .str t, lv]] 5).sz = h.sz + 1 := rfl
  generalize Ab.newRow h [[AV.int .i64 kind, .bool b, .int .i64 x, .str t, lv]] 5 = h1 at *
  have hb : buildV [AV.int .i64 0, .bool false, .int .i64 0, .str [], .nilSlc] [(0, 1, AV.int .i64 kind)] = some (.agg [.int .i64 kind, .bool false, .int .i64 0, .str [], .nilSlc]) := rfl
  rw [fadrA_ptr, optB_some, Nat.zero_add, V1.load, partA_false, nth_zero, optB_some, hb, optB_some, alloc_set (n := 5) rfl (by decide) rfl rfl rfl]
  have hcc : (AV.agg [AV.int .i64 kind, .bool false, .int .i64 0, .str [], .nilSlc]).cells = [AV.int .i64 kind, .bool false, .int .i64 0, .str [], .nilSlc] := rfl
  rw [hcc]
  have e2 := ext_newRow o1 [[AV.int .i64 kind, .bool false, .int .i64 0, .str [], .nilSlc]] 5
  have o2 := ok_newRow o1 [[AV.int .i64 kind, .bool false, .int .i64 0, .str [], .nilSlc]] 5
  have Q2 := var_new h1 [AV.int .i64 kind, .bool false, .int .i64 0, .str [], .nilSlc]
  simp only [List.length_cons, List.length_nil, Nat.zero_add] at Q2
  have V2 := V1.ext e2
  generalize Ab.newRow h1 [[AV.int .i64 kind, .bool false, .int .i64 0, .str [], .nilSlc]] 5 = h2 at *
  have hpq : h.sz ≠ h1.sz := by omega
  have hq : h.sz ≤ h1.sz := by omega
  have put2 : ∀ o, Ext h (h2.put h1.sz o) := fun o => ext_put (e1.trans e2) ho (by omega) o
  have hql : h1.sz < h2.sz := Q2.lt o2
  generalize h.sz = p at *
  generalize h1.sz = q at *
  have E2 := e1.trans e2
  have ef : ∀ o, fadrA o (.ptr p 0 0 0) = some (.ptr p 0 0 o) := fun o => by rw [fadrA_ptr, Nat.zero_add]
  have eg : ∀ o, fadrA o (.ptr q 0 0 0) = some (.ptr q 0 0 o) := fun o => by rw [fadrA_ptr, Nat.zero_add]
  have stay := L h2 E2
  have set : ∀ (o : Nat) (w : AV), o < 5 → w.leaf = true → ∃ h3, storeA h2 1 (.ptr q 0 0 o) w = some h3 ∧ Ext h h3 ∧ h3.Ok ∧ Var h3 p [.int .i64 kind, .bool b, .int .i64 x, .str t, lv] ∧ Var h3 q ([AV.int .i64 kind, .bool false, .int .i64 0, .str [], .nilSlc].set o w) := by
    intro o w h5 hw
    exact ⟨_, Q2.set1 (by simpa using h5) hw, put2 _, o2.put hql _, V2.other hpq _, var_put q _⟩
  have cp : ∀ (o : Nat) (w : AV) (k : AV → AV → Bool), loadA h2 false 1 (.ptr p 0 0 o) = some w → (optB (fadrA o (.ptr p 0 0 0)) fun v43 => optB (loadA h2 false 1 v43) fun v44 => optB (fadrA o (.ptr q 0 0 0)) fun v45 => k v44 v45) = k w (.ptr q 0 0 o) := by
    intro o w k hw
    rw [ef, eg, optB_some, hw, optB_some, optB_some]
  have k11 := fun k => cp 1 (.bool b) k (by rw [V2.load]; rfl)
  have k22 := fun k => cp 2 (.int .i64 x) k (by rw [V2.load]; rfl)
  have k33 := fun k => cp 3 (.str t) k (by rw [V2.load]; rfl)
  have k25 : ∀ (k : AV → AV → Bool), (optB (fadrA 2 (.ptr p 0 0 0)) fun v43 => optB (loadA h2 false 1 v43) fun v44 => optB (mmV true [v44, .int .i64 1]) fun v55 => optB (fadrA 2 (.ptr q 0 0 0)) fun v45 => k v55 v45) = k (.int .i64 (if x < 1 then 1 else x)) (.ptr q 0 0 2) := by
    intro k
    rw [ef, eg, optB_some, V2.load, partA_false, nth_succ, nth_succ, nth_zero, optB_some, mm_eq, optB_some, optB_some]
  rw [optB_some, V2.load, partA_false, nth_zero, optB_some, binA_eql, optB_some]
  by_cases c0 : kind = 0
  · subst c0
    rw [condB_t (by decide), last64 V2 Q2 stay, leafOk0]
    exact kl (by decide) h2 E2 o2
  rw [condB_f (by simp [c0]), binA_eql, optB_some]
  by_cases c1 : kind = 1
  · subst c1
    obtain ⟨h3, w1, w2, w3, w4, w5⟩ := set 1 (.bool b) (by decide) rfl
    rw [condB_t (by decide), k11]
    refine st_some w1 ?_
    rw [last64 w4 w5 (L h3 w2), leafOk1]
    exact kl (by decide) h3 w2 w3
  rw [condB_f (by simp [c1]), binA_eql, optB_some]
  by_cases c2 : kind = 2
  · subst c2
    obtain ⟨h3, w1, w2, w3, w4, w5⟩ := set 2 (.int .i64 x) (by decide) rfl
    rw [condB_t (by decide), k22]
    refine st_some w1 ?_
    rw [last64 w4 w5 (L h3 w2), leafOk2]
    exact kl (by decide) h3 w2 w3
  rw [condB_f (by simp [c2]), binA_eql, optB_some]
  by_cases c5 : kind = 5
  · subst c5
    obtain ⟨h3, w1, w2, w3, w4, w5⟩ := set 2 (.int .i64 (if x < 1 then 1 else x)) (by decide) rfl
    rw [condB_t (by decide), k25]
    refine st_some w1 ?_
    rw [last64 w4 w5 (L h3 w2), leafOk5]
    exact kl (by decide) h3 w2 w3
  rw [condB_f (by simp [c5]), binA_eql, optB_some]
  by_cases c3 : kind = 3
  · subst c3
    obtain ⟨h3, w1, w2, w3, w4, w5⟩ := set 3 (.str t) (by decide) rfl
    rw [condB_t (by decide), k33]
    refine st_some w1 ?_
    rw [last64 w4 w5 (L h3 w2), leafOk3]
    exact kl (by decide) h3 w2 w3
  rw [condB_f (by simp [c3]), binA_eql, optB_some]
  by_cases c4 : kind = 4
  · rw [condB_t (by simp [c4]), ef 4, or_deep (lv := lv) (len := len) (by rw [V2.load]; rfl) stay]
    exact k4 c4 h2 p q E2 o2 V2 Q2
  · rw [condB_f (by simp [c4])]
    have := kl c4 h2 E2 o2
    rw [leafOk_else c0 c1 c2 c3 c5] at this
    exact this
theorem _root_.Go.Ab.RV.agg {h : AHeap} {a : List AV} {v : Val} (R : RV h a v) : partA true 0 5 a = some (.agg a) ∧ (AV.agg a).cells.length = 5 ∧ allLeaf (AV.agg a).cells = true ∧ (AV.agg a).cells = a := by
  cases v with
  | mk kind b x t l =>
    obtain ⟨lv, rfl, V, _⟩ := R.cells
    obtain ⟨lf1, lf2⟩ := leaf5 (a := .int .i64 kind) (b := .bool b) (c := .int .i64 x) (d := .str t) (e := lv) rfl rfl rfl rfl V.leaf
    exact ⟨rfl, rfl, by rw [lf1]; exact lf2, lf1⟩
theorem c67 : ∀ (k n : Nat) {h : AHeap} {a : List AV} {v : Val} {deep : Int} {K : Kont}, RV h a v → h.Ok → deep + (k : Int) = 30 → k ≤ 30 → szV v + k ≤ n → n < lim → (∀ h', Ext h h' → h'.Ok → K (.bool (ckV k v)) h' = true) → callN E (n + 1) (.func 67) [.agg a, .int .i64 deep] h K = true := by
  intro k
  induction k with
  | zero =>
    intro n h a v deep K R ho hd _ hsz hL kk
    cases v with
    | mk kind b x t l =>
      obtain ⟨lv, rfl, V, _⟩ := R.cells
      refine pre67 (len := l.length) ho V.leaf (fun h' e => (V.ext e).len) (fun h4 h' e o => ?_) (fun h4 h' p q e o _ _ => ?_)
      · have := kk h' e o
        rw [ckV_leaf h4] at this; exact this
      · subst h4
        rw [condB_t (by rw [decide_eq_true (show (30 : Int) ≤ deep by omega)]; rfl)]
        exact kk h' e o
  | succ k ih =>
    intro n h a v deep K R ho hd hk hsz hL kk
    cases v with
    | mk kind b x t l =>
      obtain ⟨lv, rfl, V, _⟩ := R.cells
      simp only [szV] at hsz
      have hlen := szVs_len l
      refine pre67 (len := l.length) ho V.leaf (fun h' e => (V.ext e).len) (fun h4 h' e o => ?_) (fun h4 h1 p q e o P Q => ?_)
      · have := kk h' e o
        rw [ckV_leaf h4] at this; exact this
      · subst h4
        have hd' : decide ((30 : Int) ≤ deep) = false := decide_eq_false (by omega)
        rw [hd', Bool.false_or]
        by_cases hl : l.length ≤ 4096
        · rw [condB_f (decide_eq_false (by omega))]
          unfold p67_39
          rw [fadrA_ptr, optB_some, Nat.zero_add, P.load, partA_false, nth_succ, nth_succ, nth_succ, nth_succ, nth_zero, optB_some, (V.ext e).len, optB_some]
          obtain ⟨n, rfl⟩ : ∃ j, n = j + 1 := ⟨n - 1, by omega⟩
          have loop : ∀ (m i : Nat) (h2 : AHeap), Ext h1 h2 → h2.Ok → i ≤ l.length → l.length - i < m → (l.take i).all (ckV k) = true → l67_42 (callN E (n + 1)) (n + 1) m (.int .i64 deep) (.ptr p 0 0 0) (.ptr q 0 0 0) lv (.int .i64 (l.length : Int)) (.int .i64 (i : Int)) h2 K = true := by
            intro m
            induction m with
            | zero => intro i h2 _ _ _ hm; omega
            | succ m ihm =>
              intro i h2 e2 o2 hi hm hall
              unfold l67_42
              unfold b67_42
              rw [binA_lss, optB_some]
              by_cases hlt : i < l.length
              · have hci := List.getElem?_eq_getElem hlt
                have ht : l.take (i + 1) = l.take i ++ [l[i]] := by rw [List.take_succ_eq_append_getElem hlt]
                have hmem := szVs_mem (List.getElem_mem hlt)
                obtain ⟨id, g, j, ee, p1, p2, R2⟩ := (V.ext (e.trans e2)).at hci
                obtain ⟨g1, g2, g3, g4⟩ := R2.agg
                have hfalse : ckV k l[i] = false → ckV (k + 1) (.mk 4 b x t l) = false := by
                  intro hf
                  rw [ckV_list]
                  have : l.all (ckV k) = false := by
                    rw [List.all_eq_false]
                    exact ⟨l[i], List.getElem_mem hlt, by rw [hf]; decide⟩
                  rw [this, Bool.and_false]
                generalize l[i] = w at *
                have hll : ∀ a : Nat → Prop, True := fun _ => trivial
                rw [condB_t (by simpa using hlt), p1, optB_some, p2, g1, optB_some, alloc_set (n := 5) rfl (by decide) rfl g2 g3]
                have e3 := ext_newRow o2 [ee] 5
                have o3 := ok_newRow o2 [ee] 5
                have V3 := var_new h2 ee
                have hel : ee.length = 5 := by rw [← g4]; exact g2
                rw [hel] at V3
                rw [g4]
                generalize Ab.newRow h2 [ee] 5 = h3 at *
                rw [V3.load, g1, optB_some, add64 (by omega) (by omega), optB_some]
                refine ih n (R2.ext e3) o3 (by omega) (by omega) (by omega) (by omega) ?_
                intro h4 e4 o4
                rw [notA_bool, optB_some]
                cases hc : ckV k w with
                | false =>
                  rw [Bool.not_false, condB_true]
                  have := kk h4 (e.trans (e2.trans (e3.trans e4))) o4
                  rw [hfalse hc] at this
                  exact this
                | true =>
                  rw [Bool.not_true, condB_false, inc64 (by omega), optB_some]
                  refine ihm (i + 1) h4 (e2.trans (e3.trans e4)) o4 (by omega) (by omega) ?_
                  rw [ht, List.all_append, hall]
                  simp [hc]
              · have hil : l.take i = l := List.take_of_length_le (by omega)
                rw [hil] at hall
                rw [condB_f (by simpa using hlt), last64 (P.ext e2) (Q.ext e2) (V.ext (e.trans e2)).len]
                have := kk h2 (e.trans e2) o2
                rw [ckV_list, hall, decide_eq_true hl] at this
                have e5 : (((b == false) && decide (x = 0) && decide (t = []) && decide (t.length ≤ 65536) && (decide (l.length = 0) || decide ((4 : Int) = 4)))) = (!b && decide (x = 0) && decide (t = []) && true && true) := by
                  by_cases ht : t = []
                  · subst ht; cases b <;> simp
                  · cases b <;> simp [ht]
                rw [e5]; exact this
          exact loop (n + 1) 0 h1 (Ext.refl _) o (Nat.zero_le _) (by omega) rfl
        · rw [condB_t (decide_eq_true (by omega))]
          have := kk h1 e o
          rw [ckV_list, decide_eq_false hl, Bool.and_false, Bool.false_and] at this
          exact this
theorem c57 {n : Nat} {h : AHeap} {a : List AV} {v : Val} {K : Kont} (R : RV h a v) (ho : h.Ok) (hn : szV v + 30 ≤ n) (hL : n < lim) (k : ∀ h', Ext h h' → h'.Ok → K (.bool (ckV 30 v)) h' = true) : callN E (n + 2) (.func 57) [.agg a] h K = true := by
  obtain ⟨g1, g2, g3, g4⟩ := R.agg
  have hel : a.length = 5 := by rw [← g4]; exact g2
  apply d57
  unfold s57
  rw [box_eq (n := 5) g2 (by decide) g3, optP_some, g4]
  have e1 := ext_newRow ho [a] 5
  have o1 := ok_newRow ho [a] 5
  have V1 := var_new h a
  rw [hel] at V1
  generalize Ab.newRow h [a] 5 = h1 at *
  rw [V1.load, g1, optB_some]
  exact c67 30 n (R.ext e1) o1 (by omega) (Nat.le_refl _) hn hL (fun h' e o => k h' (e1.trans e) o)
end Go.Proofs.Ytbamgdknkhhikaa
namespace Go.Proofs.Ytbamgdknkhhikaa
open Go.Ab
set_option linter.unusedSimpArgs false
set_option linter.unusedVariables false
def badV (l : List Val) : Bool := l.any fun v => !ckV 30 v
def badE (l : List Elm) : Bool := l.any fun e => badV e.vs
theorem any_take {α : Type} {p : α → Bool} {l : List α} {i : Nat} (h : i < l.length) : (l.take (i + 1)).any p = ((l.take i).any p || p l[i]) := by
  rw [List.take_succ_eq_append_getElem h, List.any_append]; simp
section
variable {h : AHeap} {K : Kont} {n : Nat} {v : AV}
theorem c56 {a : List AV} {x : Val} (R : RV h a x) (ho : h.Ok) (hn : szV x + 30 ≤ n) (hL : n < lim) (k : ∀ h', Ext h h' → h'.Ok → K (.bool (!ckV 30 x)) h' = true) : callN E (n + 3) (.func 56) [.agg a] h K = true := by
  obtain ⟨g1, g2, g3, g4⟩ := R.agg
  apply d56
  unfold s56
  obtain ⟨h1, q1, V1, e1, o1, z1⟩ := box_v (n := 5) (v := .agg a) ho g2 (by decide) g3
  rw [g4] at V1
  refine z_p q1 ?_
  have hel : a.length = 5 := by rw [← g4]; exact g2
  have A : loadA h1 true 5 (.ptr h.sz 0 0 0) = some (.agg a) := V1.all hel
  repeat first | (with_reducible first | refine z_nil ?_ | refine z_fadr ?_ | refine z_some ?_ | refine z_ext0 ?_ | refine z_ext1 ?_ | refine z_notT ?_ | refine z_notF ?_ | refine z_cT ?_ | refine z_cF ?_ | refine z_gtt ?_ | refine z_gff ?_ | refine z_gtf ?_ | refine z_gft ?_ | refine z_ptt ?_ | refine z_pff ?_ | refine z_ptf ?_ | refine z_pft ?_ | refine z_rtt ?_ | refine z_rff ?_ | refine z_rtf ?_ | refine z_rft ?_ | refine z_kt ?_ | refine z_kf ?_ | refine z_lss ?_ | refine z_gtr ?_ | refine z_leq ?_ | refine z_geq ?_ | refine z_eql ?_ | refine z_neq ?_ | refine z_seq ?_ | refine z_sne ?_ | refine z_slen ?_ | refine z_eqp ?_ | refine z_eqn ?_ | refine z_cv ?_) | refine z_of A ?_
  refine c57 (R.ext e1) o1 hn hL fun h' e o => ?_
  refine z_not ?_
  exact k h' (ext_two e1 e) o
theorem c66 {l : List Val} (V : VV h v l) (ho : h.Ok) (hn : szVs l + 31 ≤ n) (hL : n < lim - 5)
    (k0 : badV l = false → ∀ h', Ext h h' → h'.Ok → K (.int .i64 (-1)) h' = true) (k1 : badV l = true → ∀ h' (i : Nat), Ext h h' → h'.Ok → K (.int .i64 (i : Int)) h' = true) :
    callN E (n + 4) (.func 66) [v, .fn (.func 56) [] []] h K = true := by
  have hlm : lim = 4611686018427387904 := rfl
  apply d66
  unfold s66
  repeat first | (with_reducible first | refine z_nil ?_ | refine z_fadr ?_ | refine z_some ?_ | refine z_ext0 ?_ | refine z_ext1 ?_ | refine z_notT ?_ | refine z_notF ?_ | refine z_cT ?_ | refine z_cF ?_ | refine z_gtt ?_ | refine z_gff ?_ | refine z_gtf ?_ | refine z_gft ?_ | refine z_ptt ?_ | refine z_pff ?_ | refine z_ptf ?_ | refine z_pft ?_ | refine z_rtt ?_ | refine z_rff ?_ | refine z_rtf ?_ | refine z_rft ?_ | refine z_kt ?_ | refine z_kf ?_ | refine z_lss ?_ | refine z_gtr ?_ | refine z_leq ?_ | refine z_geq ?_ | refine z_eql ?_ | refine z_neq ?_ | refine z_seq ?_ | refine z_sne ?_ | refine z_slen ?_ | refine z_eqp ?_ | refine z_eqn ?_ | refine z_cv ?_) | refine z_of V.len ?_
  have hlen := szVs_len l
  suffices H : ∀ m i h', l.length - i < m → i ≤ l.length → Ext h h' → h'.Ok → badV (l.take i) = false → l66_6 (callN E (n + 3)) (n + 3) m v (.fn (.func 56) [] []) (.int .i64 (l.length : Int)) (.int .i64 (i : Int)) h' K = true from H (n + 3) 0 h (by omega) (Nat.zero_le _) (Ext.refl _) ho rfl
  intro m
  induction m with
  | zero => intro i h' hm; omega
  | succ m ih =>
    intro i h1 hm hi e o hb
    unfold l66_6 b66_6
    repeat first | (with_reducible first | refine z_nil ?_ | refine z_fadr ?_ | refine z_some ?_ | refine z_ext0 ?_ | refine z_ext1 ?_ | refine z_notT ?_ | refine z_notF ?_ | refine z_cT ?_ | refine z_cF ?_ | refine z_gtt ?_ | refine z_gff ?_ | refine z_gtf ?_ | refine z_gft ?_ | refine z_ptt ?_ | refine z_pff ?_ | refine z_ptf ?_ | refine z_pft ?_ | refine z_rtt ?_ | refine z_rff ?_ | refine z_rtf ?_ | refine z_rft ?_ | refine z_kt ?_ | refine z_kf ?_ | refine z_lss ?_ | refine z_gtr ?_ | refine z_leq ?_ | refine z_geq ?_ | refine z_eql ?_ | refine z_neq ?_ | refine z_seq ?_ | refine z_sne ?_ | refine z_slen ?_ | refine z_eqp ?_ | refine z_eqn ?_ | refine z_cv ?_)
    by_cases hlt : i < l.length
    · refine z_ct (decide_eq_true (by omega)) ?_
      obtain ⟨id, g, j, ee, p1, p2, R⟩ := (V.ext e).at (List.getElem?_eq_getElem hlt)
      obtain ⟨g1, g2, g3, g4⟩ := R.agg
      have A : loadA h1 true 5 (.ptr id g j 0) = some (.agg ee) := by rw [p2]; exact g1
      have hm2 := szVs_mem (List.getElem_mem hlt)
      repeat first | (with_reducible first | refine z_nil ?_ | refine z_fadr ?_ | refine z_some ?_ | refine z_ext0 ?_ | refine z_ext1 ?_ | refine z_notT ?_ | refine z_notF ?_ | refine z_cT ?_ | refine z_cF ?_ | refine z_gtt ?_ | refine z_gff ?_ | refine z_gtf ?_ | refine z_gft ?_ | refine z_ptt ?_ | refine z_pff ?_ | refine z_ptf ?_ | refine z_pft ?_ | refine z_rtt ?_ | refine z_rff ?_ | refine z_rtf ?_ | refine z_rft ?_ | refine z_kt ?_ | refine z_kf ?_ | refine z_lss ?_ | refine z_gtr ?_ | refine z_leq ?_ | refine z_geq ?_ | refine z_eql ?_ | refine z_neq ?_ | refine z_seq ?_ | refine z_sne ?_ | refine z_slen ?_ | refine z_eqp ?_ | refine z_eqn ?_ | refine z_cv ?_) | refine z_of (p1 .i64) ?_ | refine z_of A ?_
      refine c56 (n := n) R o (by omega) (by omega) fun h2 e2 o2 => ?_
      have hst : badV (l.take (i + 1)) = !ckV 30 l[i] := by
        have := any_take (p := fun v => !ckV 30 v) hlt
        unfold badV at hb ⊢
        rw [this, hb, Bool.false_or]
      cases hc : ckV 30 l[i] with
      | false =>
        refine z_cT ?_
        refine k1 ?_ h2 i (ext_two e e2) o2
        unfold badV
        rw [List.any_eq_true]
        exact ⟨l[i], List.getElem_mem hlt, by rw [hc]; rfl⟩
      | true =>
        refine z_cF ?_
        repeat first | (with_reducible first | refine z_nil ?_ | refine z_fadr ?_ | refine z_some ?_ | refine z_ext0 ?_ | refine z_ext1 ?_ | refine z_notT ?_ | refine z_notF ?_ | refine z_cT ?_ | refine z_cF ?_ | refine z_gtt ?_ | refine z_gff ?_ | refine z_gtf ?_ | refine z_gft ?_ | refine z_ptt ?_ | refine z_pff ?_ | refine z_ptf ?_ | refine z_pft ?_ | refine z_rtt ?_ | refine z_rff ?_ | refine z_rtf ?_ | refine z_rft ?_ | refine z_kt ?_ | refine z_kf ?_ | refine z_lss ?_ | refine z_gtr ?_ | refine z_leq ?_ | refine z_geq ?_ | refine z_eql ?_ | refine z_neq ?_ | refine z_seq ?_ | refine z_sne ?_ | refine z_slen ?_ | refine z_eqp ?_ | refine z_eqn ?_ | refine z_cv ?_) | refine z_of (inc64 (i := i) (by omega)) ?_
        exact ih (i + 1) h2 (by omega) (by omega) (ext_two e e2) o2 (by rw [hst, hc]; rfl)
    · refine z_cf (decide_eq_false (by omega)) ?_
      rw [List.take_of_length_le (by omega)] at hb
      exact k0 hb h1 e o
theorem c35 {l : List Val} (V : VV h v l) (ho : h.Ok) (hn : szVs l + 31 ≤ n) (hL : n < lim - 5) (k : ∀ h', Ext h h' → h'.Ok → K (.bool (badV l)) h' = true) : callN E (n + 6) (.func 35) [v] h K = true := by
  apply d35
  unfold s35
  apply d55
  unfold s55
  refine c66 V ho hn hL (fun hb h' e o => ?_) (fun hb h' i e o => ?_)
  · have := k h' e o
    rw [hb] at this
    repeat first | (with_reducible first | refine z_nil ?_ | refine z_fadr ?_ | refine z_some ?_ | refine z_ext0 ?_ | refine z_ext1 ?_ | refine z_notT ?_ | refine z_notF ?_ | refine z_cT ?_ | refine z_cF ?_ | refine z_gtt ?_ | refine z_gff ?_ | refine z_gtf ?_ | refine z_gft ?_ | refine z_ptt ?_ | refine z_pff ?_ | refine z_ptf ?_ | refine z_pft ?_ | refine z_rtt ?_ | refine z_rff ?_ | refine z_rtf ?_ | refine z_rft ?_ | refine z_kt ?_ | refine z_kf ?_ | refine z_lss ?_ | refine z_gtr ?_ | refine z_leq ?_ | refine z_geq ?_ | refine z_eql ?_ | refine z_neq ?_ | refine z_seq ?_ | refine z_sne ?_ | refine z_slen ?_ | refine z_eqp ?_ | refine z_eqn ?_ | refine z_cv ?_)
    exact this
  · have := k h' e o
    rw [hb] at this
    repeat first | (with_reducible first | refine z_nil ?_ | refine z_fadr ?_ | refine z_some ?_ | refine z_ext0 ?_ | refine z_ext1 ?_ | refine z_notT ?_ | refine z_notF ?_ | refine z_cT ?_ | refine z_cF ?_ | refine z_gtt ?_ | refine z_gff ?_ | refine z_gtf ?_ | refine z_gft ?_ | refine z_ptt ?_ | refine z_pff ?_ | refine z_ptf ?_ | refine z_pft ?_ | refine z_rtt ?_ | refine z_rff ?_ | refine z_rtf ?_ | refine z_rft ?_ | refine z_kt ?_ | refine z_kf ?_ | refine z_lss ?_ | refine z_gtr ?_ | refine z_leq ?_ | refine z_geq ?_ | refine z_eql ?_ | refine z_neq ?_ | refine z_seq ?_ | refine z_sne ?_ | refine z_slen ?_ | refine z_eqp ?_ | refine z_eqn ?_ | refine z_cv ?_)
    have e : decide ((0 : Int) ≤ (i : Int)) = true := decide_eq_true (by omega)
    rw [e]; exact this
theorem REl.agg {e : Elm} {a : List AV} (R : REl h a e) : partA true 0 3 a = some (.agg a) ∧ (AV.agg a).cells.length = 3 ∧ allLeaf (AV.agg a).cells = true ∧ (AV.agg a).cells = a := by
  obtain ⟨vv, rfl, V, _⟩ := R
  refine ⟨rfl, rfl, ?_, rfl⟩
  have := V.leaf
  simp only [AV.cells, allLeaf, this]; rfl
theorem c37 {e : Elm} {a : List AV} (R : REl h a e) (ho : h.Ok) (hn : szVs e.vs + 31 ≤ n) (hL : n < lim - 5) (k : ∀ h', Ext h h' → h'.Ok → K (.bool (badV e.vs)) h' = true) : callN E (n + 7) (.func 37) [.agg a] h K = true := by
  obtain ⟨g1, g2, g3, g4⟩ := R.agg
  apply d37
  unfold s37
  obtain ⟨h1, q1, V1, e1, o1, z1⟩ := box_v (n := 3) (v := .agg a) ho g2 (by decide) g3
  rw [g4] at V1
  refine z_p q1 ?_
  obtain ⟨vv, rfl, V, _⟩ := R
  have A : loadA h1 false 1 (.ptr h.sz 0 0 2) = some vv := V1.get rfl
  repeat first | (with_reducible first | refine z_nil ?_ | refine z_fadr ?_ | refine z_some ?_ | refine z_ext0 ?_ | refine z_ext1 ?_ | refine z_notT ?_ | refine z_notF ?_ | refine z_cT ?_ | refine z_cF ?_ | refine z_gtt ?_ | refine z_gff ?_ | refine z_gtf ?_ | refine z_gft ?_ | refine z_ptt ?_ | refine z_pff ?_ | refine z_ptf ?_ | refine z_pft ?_ | refine z_rtt ?_ | refine z_rff ?_ | refine z_rtf ?_ | refine z_rft ?_ | refine z_kt ?_ | refine z_kf ?_ | refine z_lss ?_ | refine z_gtr ?_ | refine z_leq ?_ | refine z_geq ?_ | refine z_eql ?_ | refine z_neq ?_ | refine z_seq ?_ | refine z_sne ?_ | refine z_slen ?_ | refine z_eqp ?_ | refine z_eqn ?_ | refine z_cv ?_) | refine z_of A ?_
  exact c35 (V.ext e1) o1 hn hL fun h' e o => k h' (ext_two e1 e) o
theorem c36 {l : List Elm} (V : EV h v l) (ho : h.Ok) (hn : szL szEl l + 31 ≤ n) (hL : n < lim - 9) (k : ∀ h', Ext h h' → h'.Ok → K (.bool (badE l)) h' = true) : callN E (n + 9) (.func 36) [v, .fn (.func 37) [] []] h K = true := by
  have hlm : lim = 4611686018427387904 := rfl
  apply d36
  unfold s36
  apply d58
  unfold s58
  repeat first | (with_reducible first | refine z_nil ?_ | refine z_fadr ?_ | refine z_some ?_ | refine z_ext0 ?_ | refine z_ext1 ?_ | refine z_notT ?_ | refine z_notF ?_ | refine z_cT ?_ | refine z_cF ?_ | refine z_gtt ?_ | refine z_gff ?_ | refine z_gtf ?_ | refine z_gft ?_ | refine z_ptt ?_ | refine z_pff ?_ | refine z_ptf ?_ | refine z_pft ?_ | refine z_rtt ?_ | refine z_rff ?_ | refine z_rtf ?_ | refine z_rft ?_ | refine z_kt ?_ | refine z_kf ?_ | refine z_lss ?_ | refine z_gtr ?_ | refine z_leq ?_ | refine z_geq ?_ | refine z_eql ?_ | refine z_neq ?_ | refine z_seq ?_ | refine z_sne ?_ | refine z_slen ?_ | refine z_eqp ?_ | refine z_eqn ?_ | refine z_cv ?_) | refine z_of V.len ?_
  have hlen : l.length ≤ szL szEl l := szL_length szEl_pos l
  suffices H : ∀ m i h', l.length - i < m → i ≤ l.length → Ext h h' → h'.Ok → badE (l.take i) = false → l58_6 (callN E (n + 7)) (n + 7) m v (.fn (.func 37) [] []) (.int .i64 (l.length : Int)) (.int .i64 (i : Int)) h' (fun v1 h => optB (binA .geq v1 (.int .i64 0)) fun v2 => K v2 h) = true from H (n + 7) 0 h (by omega) (Nat.zero_le _) (Ext.refl _) ho rfl
  intro m
  induction m with
  | zero => intro i h' hm; omega
  | succ m ih =>
    intro i h1 hm hi e o hb
    unfold l58_6 b58_6
    repeat first | (with_reducible first | refine z_nil ?_ | refine z_fadr ?_ | refine z_some ?_ | refine z_ext0 ?_ | refine z_ext1 ?_ | refine z_notT ?_ | refine z_notF ?_ | refine z_cT ?_ | refine z_cF ?_ | refine z_gtt ?_ | refine z_gff ?_ | refine z_gtf ?_ | refine z_gft ?_ | refine z_ptt ?_ | refine z_pff ?_ | refine z_ptf ?_ | refine z_pft ?_ | refine z_rtt ?_ | refine z_rff ?_ | refine z_rtf ?_ | refine z_rft ?_ | refine z_kt ?_ | refine z_kf ?_ | refine z_lss ?_ | refine z_gtr ?_ | refine z_leq ?_ | refine z_geq ?_ | refine z_eql ?_ | refine z_neq ?_ | refine z_seq ?_ | refine z_sne ?_ | refine z_slen ?_ | refine z_eqp ?_ | refine z_eqn ?_ | refine z_cv ?_)
    by_cases hlt : i < l.length
    · refine z_ct (decide_eq_true (by omega)) ?_
      obtain ⟨id, g, j, ee, p1, p2, R⟩ := (V.ext e).at (List.getElem?_eq_getElem hlt)
      obtain ⟨g1, g2, g3, g4⟩ := REl.agg R
      have A : loadA h1 true 3 (.ptr id g j 0) = some (.agg ee) := by rw [p2]; exact g1
      have hm2 := szL_mem (sz := szEl) (List.getElem_mem hlt)
      have hm3 : szEl l[i] = szVs (l[i]).vs + 1 := rfl
      repeat first | (with_reducible first | refine z_nil ?_ | refine z_fadr ?_ | refine z_some ?_ | refine z_ext0 ?_ | refine z_ext1 ?_ | refine z_notT ?_ | refine z_notF ?_ | refine z_cT ?_ | refine z_cF ?_ | refine z_gtt ?_ | refine z_gff ?_ | refine z_gtf ?_ | refine z_gft ?_ | refine z_ptt ?_ | refine z_pff ?_ | refine z_ptf ?_ | refine z_pft ?_ | refine z_rtt ?_ | refine z_rff ?_ | refine z_rtf ?_ | refine z_rft ?_ | refine z_kt ?_ | refine z_kf ?_ | refine z_lss ?_ | refine z_gtr ?_ | refine z_leq ?_ | refine z_geq ?_ | refine z_eql ?_ | refine z_neq ?_ | refine z_seq ?_ | refine z_sne ?_ | refine z_slen ?_ | refine z_eqp ?_ | refine z_eqn ?_ | refine z_cv ?_) | refine z_of (p1 .i64) ?_ | refine z_of A ?_
      refine c37 (n := n) R o (by omega) (by omega) fun h2 e2 o2 => ?_
      have hst : badE (l.take (i + 1)) = badV (l[i]).vs := by
        have := any_take (p := fun e : Elm => badV e.vs) hlt
        unfold badE at hb ⊢
        rw [this, hb, Bool.false_or]
      cases hc : badV (l[i]).vs with
      | true =>
        refine z_cT ?_
        repeat first | (with_reducible first | refine z_nil ?_ | refine z_fadr ?_ | refine z_some ?_ | refine z_ext0 ?_ | refine z_ext1 ?_ | refine z_notT ?_ | refine z_notF ?_ | refine z_cT ?_ | refine z_cF ?_ | refine z_gtt ?_ | refine z_gff ?_ | refine z_gtf ?_ | refine z_gft ?_ | refine z_ptt ?_ | refine z_pff ?_ | refine z_ptf ?_ | refine z_pft ?_ | refine z_rtt ?_ | refine z_rff ?_ | refine z_rtf ?_ | refine z_rft ?_ | refine z_kt ?_ | refine z_kf ?_ | refine z_lss ?_ | refine z_gtr ?_ | refine z_leq ?_ | refine z_geq ?_ | refine z_eql ?_ | refine z_neq ?_ | refine z_seq ?_ | refine z_sne ?_ | refine z_slen ?_ | refine z_eqp ?_ | refine z_eqn ?_ | refine z_cv ?_)
        have e' : decide ((0 : Int) ≤ (i : Int)) = true := decide_eq_true (by omega)
        rw [e']
        have := k h2 (ext_two e e2) o2
        have hB : badE l = true := by
          unfold badE
          rw [List.any_eq_true]
          exact ⟨l[i], List.getElem_mem hlt, hc⟩
        rw [hB] at this; exact this
      | false =>
        refine z_cF ?_
        repeat first | (with_reducible first | refine z_nil ?_ | refine z_fadr ?_ | refine z_some ?_ | refine z_ext0 ?_ | refine z_ext1 ?_ | refine z_notT ?_ | refine z_notF ?_ | refine z_cT ?_ | refine z_cF ?_ | refine z_gtt ?_ | refine z_gff ?_ | refine z_gtf ?_ | refine z_gft ?_ | refine z_ptt ?_ | refine z_pff ?_ | refine z_ptf ?_ | refine z_pft ?_ | refine z_rtt ?_ | refine z_rff ?_ | refine z_rtf ?_ | refine z_rft ?_ | refine z_kt ?_ | refine z_kf ?_ | refine z_lss ?_ | refine z_gtr ?_ | refine z_leq ?_ | refine z_geq ?_ | refine z_eql ?_ | refine z_neq ?_ | refine z_seq ?_ | refine z_sne ?_ | refine z_slen ?_ | refine z_eqp ?_ | refine z_eqn ?_ | refine z_cv ?_) | refine z_of (inc64 (i := i) (by omega)) ?_
        exact ih (i + 1) h2 (by omega) (by omega) (ext_two e e2) o2 (by rw [hst, hc])
    · refine z_cf (decide_eq_false (by omega)) ?_
      rw [List.take_of_length_le (by omega)] at hb
      repeat first | (with_reducible first | refine z_nil ?_ | refine z_fadr ?_ | refine z_some ?_ | refine z_ext0 ?_ | refine z_ext1 ?_ | refine z_notT ?_ | refine z_notF ?_ | refine z_cT ?_ | refine z_cF ?_ | refine z_gtt ?_ | refine z_gff ?_ | refine z_gtf ?_ | refine z_gft ?_ | refine z_ptt ?_ | refine z_pff ?_ | refine z_ptf ?_ | refine z_pft ?_ | refine z_rtt ?_ | refine z_rff ?_ | refine z_rtf ?_ | refine z_rft ?_ | refine z_kt ?_ | refine z_kf ?_ | refine z_lss ?_ | refine z_gtr ?_ | refine z_leq ?_ | refine z_geq ?_ | refine z_eql ?_ | refine z_neq ?_ | refine z_seq ?_ | refine z_sne ?_ | refine z_slen ?_ | refine z_eqp ?_ | refine z_eqn ?_ | refine z_cv ?_)
      have := k h1 e o
      rw [hb] at this; exact this
end
end Go.Proofs.Ytbamgdknkhhikaa
