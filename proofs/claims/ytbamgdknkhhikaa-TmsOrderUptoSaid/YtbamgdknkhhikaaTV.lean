/-
  What is handed in: scripts of steps, each with values, a match; how much there is, walked.
-/
import Derived.Test.YtbamgdknkhhikaaVA
import Derived.Test.YtbamgdknkhhikaaXD
import Derived.Test.YtbamgdknkhhikaaAbOwn
namespace Go.Proofs.Ytbamgdknkhhikaa
open Go.Ab
set_option linter.unusedSimpArgs false
set_option linter.unusedVariables false

def rng (x : Int) : Prop := -9223372036854775808 ≤ x ∧ x ≤ 9223372036854775807
def byt (s : Str) : Prop := ∀ b ∈ s, b < 256

structure Elm where
  hd : Int
  st : Int
  vs : List Val
structure Mch where
  core : Int
  els : List Elm
  env : List (Str × Val)
structure Stp where
  op : Int
  cls : Str
  vs : List Val
  m : Mch
  live : List Int

def REl : Rd Elm := fun h a e => ∃ vv, a = [.int .i64 e.hd, .int .i64 e.st, vv] ∧ VV h vv e.vs ∧ rng e.hd ∧ rng e.st
def RPr : Rd (Str × Val) := fun h a p => ∃ c, a = .str p.1 :: c ∧ RV h c p.2 ∧ byt p.1
def EV (h : AHeap) (v : AV) (l : List Elm) : Prop := ∃ es, View h 3 v es ∧ All2 (REl h) es l
def PV (h : AHeap) (v : AV) (l : List (Str × Val)) : Prop := ∃ es, View h 6 v es ∧ All2 (RPr h) es l
def ints (l : List Int) : List (List AV) := l.map fun x => [AV.int .i64 x]
def RSt : Rd Stp := fun h a s => ∃ vv ev nv lv, a = [.int .i64 s.op, .str s.cls, vv, .int .i64 s.m.core, ev, nv, lv] ∧ VV h vv s.vs ∧ EV h ev s.m.els ∧ PV h nv s.m.env ∧ View h 1 lv (ints s.live) ∧ rng s.m.core ∧ byt s.cls ∧ ∀ x ∈ s.live, rng x
def SV (h : AHeap) (v : AV) (l : List Stp) : Prop := ∃ es, View h 7 v es ∧ All2 (RSt h) es l

def szEl (e : Elm) : Nat := szVs e.vs + 1
def szPr (p : Str × Val) : Nat := p.1.length + szV p.2 + 1
def szSt (s : Stp) : Nat := s.cls.length + szVs s.vs + szL szEl s.m.els + szL szPr s.m.env + s.live.length + 1

theorem REl.ext {h h' : AHeap} {a : List AV} {e : Elm} (H : REl h a e) (x : Ext h h') : REl h' a e := let ⟨vv, h1, h2, h3⟩ := H; ⟨vv, h1, h2.ext x, h3⟩
theorem RPr.ext {h h' : AHeap} {a : List AV} {p : Str × Val} (H : RPr h a p) (x : Ext h h') : RPr h' a p := let ⟨c, h1, h2, h3⟩ := H; ⟨c, h1, RV.ext x h2, h3⟩
theorem EV.ext {h h' : AHeap} {v : AV} {l : List Elm} (H : EV h v l) (x : Ext h h') : EV h' v l := let ⟨es, h1, h2⟩ := H; ⟨es, h1.ext x, h2.mono fun _ _ r => r.ext x⟩
theorem PV.ext {h h' : AHeap} {v : AV} {l : List (Str × Val)} (H : PV h v l) (x : Ext h h') : PV h' v l := let ⟨es, h1, h2⟩ := H; ⟨es, h1.ext x, h2.mono fun _ _ r => r.ext x⟩
theorem RSt.ext {h h' : AHeap} {a : List AV} {s : Stp} (H : RSt h a s) (x : Ext h h') : RSt h' a s := let ⟨vv, ev, nv, lv, h1, h2, h3, h4, h5, h6⟩ := H; ⟨vv, ev, nv, lv, h1, h2.ext x, h3.ext x, h4.ext x, h5.ext x, h6⟩
theorem SV.ext {h h' : AHeap} {v : AV} {l : List Stp} (H : SV h v l) (x : Ext h h') : SV h' v l := let ⟨es, h1, h2⟩ := H; ⟨es, h1.ext x, h2.mono fun _ _ r => r.ext x⟩
theorem SV.len {h : AHeap} {v : AV} {l : List Stp} (H : SV h v l) : lenA h 1 v = some (.int .i64 (l.length : Int)) := by
  obtain ⟨es, h1, h2⟩ := H; rw [h1.len, h2.length]
theorem EV.len {h : AHeap} {v : AV} {l : List Elm} (H : EV h v l) : lenA h 1 v = some (.int .i64 (l.length : Int)) := by
  obtain ⟨es, h1, h2⟩ := H; rw [h1.len, h2.length]
theorem EV.leaf {h : AHeap} {v : AV} {l : List Elm} (V : EV h v l) : v.leaf = true := by obtain ⟨es, h1, _⟩ := V; exact h1.leaf
theorem PV.leaf {h : AHeap} {v : AV} {l : List (Str × Val)} (V : PV h v l) : v.leaf = true := by obtain ⟨es, h1, _⟩ := V; exact h1.leaf
theorem VV.same {h : AHeap} {v : AV} {l : List Val} (V : VV h v l) : AV.same v v = true := by obtain ⟨es, h1, _⟩ := V; exact h1.same
theorem EV.same {h : AHeap} {v : AV} {l : List Elm} (V : EV h v l) : AV.same v v = true := by obtain ⟨es, h1, _⟩ := V; exact h1.same
theorem PV.same {h : AHeap} {v : AV} {l : List (Str × Val)} (V : PV h v l) : AV.same v v = true := by obtain ⟨es, h1, _⟩ := V; exact h1.same

/-- What is read of a list of steps, values, elements, at a place. -/
theorem SV.at {h : AHeap} {v : AV} {l : List Stp} (V : SV h v l) {i : Nat} {x : Stp} (hi : l[i]? = some x) :
    ∃ id g j e, (∀ k, iadrA h 7 v (.int k (i : Int)) = some (.ptr id g j 0)) ∧ (∀ ag off m, loadA h ag m (.ptr id g j off) = partA ag off m e) ∧ RSt h e x := by
  obtain ⟨es, h1, h2⟩ := V
  obtain ⟨e, he, hr⟩ := h2.get hi
  obtain ⟨id, g, j, p1, p2⟩ := h1.at1 he
  exact ⟨id, g, j, e, p1, p2, hr⟩
theorem EV.at {h : AHeap} {v : AV} {l : List Elm} (V : EV h v l) {i : Nat} {x : Elm} (hi : l[i]? = some x) :
    ∃ id g j e, (∀ k, iadrA h 3 v (.int k (i : Int)) = some (.ptr id g j 0)) ∧ (∀ ag off m, loadA h ag m (.ptr id g j off) = partA ag off m e) ∧ REl h e x := by
  obtain ⟨es, h1, h2⟩ := V
  obtain ⟨e, he, hr⟩ := h2.get hi
  obtain ⟨id, g, j, p1, p2⟩ := h1.at1 he
  exact ⟨id, g, j, e, p1, p2, hr⟩

theorem szVs_mem {l : List Val} {v : Val} (h : v ∈ l) : szV v ≤ szVs l := by rw [szVs_eq]; exact szL_mem h
theorem szVs_len (l : List Val) : l.length ≤ szVs l := by rw [szVs_eq]; exact szL_length (fun v => by cases v; simp only [szV]; omega) l
theorem szSt_pos (s : Stp) : 1 ≤ szSt s := by unfold szSt; omega
theorem szEl_pos (s : Elm) : 1 ≤ szEl s := by unfold szEl; omega

theorem addB (a b : Int) : ∃ z, binA .add (.int .i64 a) (.int .i64 b) = some (.int .i64 z) := by rw [binA_ints _ _ _ _ rfl]; exact ⟨_, rfl⟩
theorem quoB (a : Int) : ∃ z, binA .quo (.int .i64 a) (.int .i64 64) = some (.int .i64 z) := by rw [binA_ints _ _ _ _ rfl]; exact ⟨_, rfl⟩

/-! ### How much there is: some number -/
theorem c54 : ∀ (k n : Nat) {h : AHeap} {v : AV} {l : List Val} {deep : Int} {K : Kont}, VV h v l → deep + (k : Int) = 101 → k ≤ 101 → szVs l + k ≤ n → n < lim → (∀ x, K (.int .i64 x) h = true) → callN E (n + 1) (.func 54) [v, .int .i64 deep] h K = true := by
  intro k
  induction k with
  | zero =>
    intro n h v l deep K V hd hk hn hL kk
    apply d54
    unfold s54
    refine z_gtr (z_ct (decide_eq_true (by omega)) ?_)
    exact kk _
  | succ k ih =>
    intro n h v l deep K V hd hk hn hL kk
    apply d54
    unfold s54
    refine z_gtr (z_cf (decide_eq_false (by omega)) ?_)
    unfold p54_10
    obtain ⟨n, rfl⟩ : ∃ j, n = j + 1 := ⟨n - 1, by omega⟩
    have hlen := szVs_len l
    have loop : ∀ (m i : Nat) (x : Int), i ≤ l.length → l.length - i < m → l54_16 (callN E (n + 1)) (n + 1) m v (.int .i64 deep) (.int .i64 x) (.int .i64 (i : Int)) h K = true := by
      intro m
      induction m with
      | zero => intro i x _ hm; omega
      | succ m ihm =>
        intro i x hi hm
        unfold l54_16 b54_16
        repeat first | with_reducible refine z_nil ?_ | with_reducible refine z_fadr ?_ | with_reducible refine z_some ?_ | with_reducible refine z_ext0 ?_ | with_reducible refine z_ext1 ?_ | with_reducible refine z_notT ?_ | with_reducible refine z_notF ?_ | with_reducible refine z_cT ?_ | with_reducible refine z_cF ?_ | with_reducible refine z_gtt ?_ | with_reducible refine z_gff ?_ | with_reducible refine z_gtf ?_ | with_reducible refine z_gft ?_ | with_reducible refine z_ptt ?_ | with_reducible refine z_pff ?_ | with_reducible refine z_ptf ?_ | with_reducible refine z_pft ?_ | with_reducible refine z_rtt ?_ | with_reducible refine z_rff ?_ | with_reducible refine z_rtf ?_ | with_reducible refine z_rft ?_ | with_reducible refine z_kt ?_ | with_reducible refine z_kf ?_ | with_reducible refine z_lss ?_ | with_reducible refine z_gtr ?_ | with_reducible refine z_leq ?_ | with_reducible refine z_geq ?_ | with_reducible refine z_eql ?_ | with_reducible refine z_neq ?_ | with_reducible refine z_seq ?_ | with_reducible refine z_sne ?_ | with_reducible refine z_slen ?_ | with_reducible refine z_eqp ?_ | with_reducible refine z_eqn ?_ | with_reducible refine z_cv ?_ | refine z_of V.len ?_
        by_cases hlt : i < l.length
        · refine z_ct (decide_eq_true (by omega)) ?_
          have hci := List.getElem?_eq_getElem hlt
          obtain ⟨id, g, j, e, p1, p2, R⟩ := V.at hci
          have hmem := List.getElem_mem hlt
          obtain ⟨kk', b, nn, t, ll, hv⟩ : ∃ kk' b nn t ll, l[i] = Val.mk kk' b nn t ll := by cases h : l[i]; exact ⟨_, _, _, _, _, rfl⟩
          rw [hv] at R hmem
          obtain ⟨lv, rfl, VL, _⟩ := R.cells
          have hsz : szV (Val.mk kk' b nn t ll) ≤ szVs l := szVs_mem hmem
          simp only [szV] at hsz
          have q3 : loadA h false 1 (.ptr id g j 3) = some (.str t) := by rw [p2]; rfl
          have q4 : loadA h false 1 (.ptr id g j 4) = some lv := by rw [p2]; rfl
          obtain ⟨y0, a0⟩ := addB x 1
          obtain ⟨y1, a1⟩ := quoB (t.length : Int)
          obtain ⟨y2, a2⟩ := addB y0 y1
          have q5 := add64 (a := deep) (b := 1) (by omega) (by omega)
          repeat first | with_reducible refine z_nil ?_ | with_reducible refine z_fadr ?_ | with_reducible refine z_some ?_ | with_reducible refine z_ext0 ?_ | with_reducible refine z_ext1 ?_ | with_reducible refine z_notT ?_ | with_reducible refine z_notF ?_ | with_reducible refine z_cT ?_ | with_reducible refine z_cF ?_ | with_reducible refine z_gtt ?_ | with_reducible refine z_gff ?_ | with_reducible refine z_gtf ?_ | with_reducible refine z_gft ?_ | with_reducible refine z_ptt ?_ | with_reducible refine z_pff ?_ | with_reducible refine z_ptf ?_ | with_reducible refine z_pft ?_ | with_reducible refine z_rtt ?_ | with_reducible refine z_rff ?_ | with_reducible refine z_rtf ?_ | with_reducible refine z_rft ?_ | with_reducible refine z_kt ?_ | with_reducible refine z_kf ?_ | with_reducible refine z_lss ?_ | with_reducible refine z_gtr ?_ | with_reducible refine z_leq ?_ | with_reducible refine z_geq ?_ | with_reducible refine z_eql ?_ | with_reducible refine z_neq ?_ | with_reducible refine z_seq ?_ | with_reducible refine z_sne ?_ | with_reducible refine z_slen ?_ | with_reducible refine z_eqp ?_ | with_reducible refine z_eqn ?_ | with_reducible refine z_cv ?_ | refine z_of a0 ?_ | refine z_of (p1 .i64) ?_ | refine z_of q3 ?_ | refine z_of a1 ?_ | refine z_of a2 ?_ | refine z_of q4 ?_ | refine z_of q5 ?_
          refine ih n VL (by omega) (by omega) (by omega) (by omega) fun z => ?_
          refine z_same (p1 .i64) (same_ptr _ _ _ _) ?_
          refine z_same q3 (same_str _) ?_
          have q6 : lenA h 0 (.str t) = some (.int .i64 (t.length : Int)) := rfl
          refine z_same q6 (same_int _ _) ?_
          obtain ⟨y3, a3⟩ := addB y2 z
          repeat first | with_reducible refine z_nil ?_ | with_reducible refine z_fadr ?_ | with_reducible refine z_some ?_ | with_reducible refine z_ext0 ?_ | with_reducible refine z_ext1 ?_ | with_reducible refine z_notT ?_ | with_reducible refine z_notF ?_ | with_reducible refine z_cT ?_ | with_reducible refine z_cF ?_ | with_reducible refine z_gtt ?_ | with_reducible refine z_gff ?_ | with_reducible refine z_gtf ?_ | with_reducible refine z_gft ?_ | with_reducible refine z_ptt ?_ | with_reducible refine z_pff ?_ | with_reducible refine z_ptf ?_ | with_reducible refine z_pft ?_ | with_reducible refine z_rtt ?_ | with_reducible refine z_rff ?_ | with_reducible refine z_rtf ?_ | with_reducible refine z_rft ?_ | with_reducible refine z_kt ?_ | with_reducible refine z_kf ?_ | with_reducible refine z_lss ?_ | with_reducible refine z_gtr ?_ | with_reducible refine z_leq ?_ | with_reducible refine z_geq ?_ | with_reducible refine z_eql ?_ | with_reducible refine z_neq ?_ | with_reducible refine z_seq ?_ | with_reducible refine z_sne ?_ | with_reducible refine z_slen ?_ | with_reducible refine z_eqp ?_ | with_reducible refine z_eqn ?_ | with_reducible refine z_cv ?_ | refine z_of a3 ?_ | refine z_of (inc64 (i := i) (by omega)) ?_
          exact ihm (i + 1) y3 (by omega) (by omega)
        · refine z_cf (decide_eq_false (by omega)) ?_
          exact kk x
    exact loop (n + 1) 0 0 (Nat.zero_le _) (by omega)

theorem c32 {n : Nat} {h : AHeap} {v : AV} {l : List Val} {K : Kont} (V : VV h v l) (hn : szVs l + 101 ≤ n) (hL : n < lim) (k : ∀ x, K (.int .i64 x) h = true) : callN E (n + 2) (.func 32) [v] h K = true := by
  apply d32
  unfold s32
  exact c54 101 n V (by omega) (Nat.le_refl _) hn hL k

/-- Whether it is light: it is said. -/
theorem c6 {n : Nat} {h : AHeap} {v : AV} {l : List Stp} {K : Kont} (ho : h.Ok) (V : SV h v l) (hn : szL szSt l + 101 ≤ n) (hL : n < lim - 5) (hlf : v.leaf = true) (k : ∀ b h', Ext h h' → h'.Ok → K (.bool b) h' = true) : callN E (n + 3) (.func 6) [.agg [v]] h K = true := by
  apply d6
  unfold s6
  obtain ⟨h1, q1, V1, e1, o1, z1⟩ := box_v (n := 1) (v := .agg [v]) ho rfl (by decide) (by simp [AV.cells, allLeaf, hlf])
  have V1 : Var h1 h.sz [v] := V1
  refine z_p q1 ?_
  have SV1 := V.ext e1
  have L0 : loadA h1 false 1 (.ptr h.sz 0 0 0) = some v := V1.get rfl
  have hll : l.length ≤ szL szSt l := szL_length szSt_pos l
  have hlm : lim = 4611686018427387904 := rfl
  have loop : ∀ (m i : Nat) (x : Int), l.length - i < m → l6_8 (callN E (n + 2)) (n + 2) m (.ptr h.sz 0 0 0) (.int .i64 x) (.int .i64 (i : Int)) h1 K = true := by
    intro m
    induction m with
    | zero => intro i x hm; omega
    | succ m ihm =>
      intro i x hm
      unfold l6_8 b6_8
      repeat first | with_reducible refine z_nil ?_ | with_reducible refine z_fadr ?_ | with_reducible refine z_some ?_ | with_reducible refine z_ext0 ?_ | with_reducible refine z_ext1 ?_ | with_reducible refine z_notT ?_ | with_reducible refine z_notF ?_ | with_reducible refine z_cT ?_ | with_reducible refine z_cF ?_ | with_reducible refine z_gtt ?_ | with_reducible refine z_gff ?_ | with_reducible refine z_gtf ?_ | with_reducible refine z_gft ?_ | with_reducible refine z_ptt ?_ | with_reducible refine z_pff ?_ | with_reducible refine z_ptf ?_ | with_reducible refine z_pft ?_ | with_reducible refine z_rtt ?_ | with_reducible refine z_rff ?_ | with_reducible refine z_rtf ?_ | with_reducible refine z_rft ?_ | with_reducible refine z_kt ?_ | with_reducible refine z_kf ?_ | with_reducible refine z_lss ?_ | with_reducible refine z_gtr ?_ | with_reducible refine z_leq ?_ | with_reducible refine z_geq ?_ | with_reducible refine z_eql ?_ | with_reducible refine z_neq ?_ | with_reducible refine z_seq ?_ | with_reducible refine z_sne ?_ | with_reducible refine z_slen ?_ | with_reducible refine z_eqp ?_ | with_reducible refine z_eqn ?_ | with_reducible refine z_cv ?_ | refine z_of L0 ?_ | refine z_of SV1.len ?_
      have fin : condB (.bool false) (p6_15 (callN E (n + 2)) (n + 2) (fun x1 x3 x4 h => l6_8 (callN E (n + 2)) (n + 2) m x1 x3 x4 h K) (.ptr h.sz 0 0 0) (.int .i64 x) (.int .i64 (i : Int)) h1 K) (p6_34 (callN E (n + 2)) (n + 2) (.int .i64 x) h1 K) = true := by
        refine z_cF ?_
        unfold p6_34
        repeat first | with_reducible refine z_nil ?_ | with_reducible refine z_fadr ?_ | with_reducible refine z_some ?_ | with_reducible refine z_ext0 ?_ | with_reducible refine z_ext1 ?_ | with_reducible refine z_notT ?_ | with_reducible refine z_notF ?_ | with_reducible refine z_cT ?_ | with_reducible refine z_cF ?_ | with_reducible refine z_gtt ?_ | with_reducible refine z_gff ?_ | with_reducible refine z_gtf ?_ | with_reducible refine z_gft ?_ | with_reducible refine z_ptt ?_ | with_reducible refine z_pff ?_ | with_reducible refine z_ptf ?_ | with_reducible refine z_pft ?_ | with_reducible refine z_rtt ?_ | with_reducible refine z_rff ?_ | with_reducible refine z_rtf ?_ | with_reducible refine z_rft ?_ | with_reducible refine z_kt ?_ | with_reducible refine z_kf ?_ | with_reducible refine z_lss ?_ | with_reducible refine z_gtr ?_ | with_reducible refine z_leq ?_ | with_reducible refine z_geq ?_ | with_reducible refine z_eql ?_ | with_reducible refine z_neq ?_ | with_reducible refine z_seq ?_ | with_reducible refine z_sne ?_ | with_reducible refine z_slen ?_ | with_reducible refine z_eqp ?_ | with_reducible refine z_eqn ?_ | with_reducible refine z_cv ?_
        exact k _ h1 e1 o1
      by_cases hlt : i < l.length
      · have e1' : decide ((i : Int) < (l.length : Int)) = true := decide_eq_true (by omega)
        rw [e1']
        repeat first | with_reducible refine z_nil ?_ | with_reducible refine z_fadr ?_ | with_reducible refine z_some ?_ | with_reducible refine z_ext0 ?_ | with_reducible refine z_ext1 ?_ | with_reducible refine z_notT ?_ | with_reducible refine z_notF ?_ | with_reducible refine z_cT ?_ | with_reducible refine z_cF ?_ | with_reducible refine z_gtt ?_ | with_reducible refine z_gff ?_ | with_reducible refine z_gtf ?_ | with_reducible refine z_gft ?_ | with_reducible refine z_ptt ?_ | with_reducible refine z_pff ?_ | with_reducible refine z_ptf ?_ | with_reducible refine z_pft ?_ | with_reducible refine z_rtt ?_ | with_reducible refine z_rff ?_ | with_reducible refine z_rtf ?_ | with_reducible refine z_rft ?_ | with_reducible refine z_kt ?_ | with_reducible refine z_kf ?_ | with_reducible refine z_lss ?_ | with_reducible refine z_gtr ?_ | with_reducible refine z_leq ?_ | with_reducible refine z_geq ?_ | with_reducible refine z_eql ?_ | with_reducible refine z_neq ?_ | with_reducible refine z_seq ?_ | with_reducible refine z_sne ?_ | with_reducible refine z_slen ?_ | with_reducible refine z_eqp ?_ | with_reducible refine z_eqn ?_ | with_reducible refine z_cv ?_ | refine z_of rfl ?_
        by_cases h60 : i < 60
        · have e2' : decide ((i : Int) < 60) = true := decide_eq_true (by omega)
          rw [e2']
          repeat first | with_reducible refine z_nil ?_ | with_reducible refine z_fadr ?_ | with_reducible refine z_some ?_ | with_reducible refine z_ext0 ?_ | with_reducible refine z_ext1 ?_ | with_reducible refine z_notT ?_ | with_reducible refine z_notF ?_ | with_reducible refine z_cT ?_ | with_reducible refine z_cF ?_ | with_reducible refine z_gtt ?_ | with_reducible refine z_gff ?_ | with_reducible refine z_gtf ?_ | with_reducible refine z_gft ?_ | with_reducible refine z_ptt ?_ | with_reducible refine z_pff ?_ | with_reducible refine z_ptf ?_ | with_reducible refine z_pft ?_ | with_reducible refine z_rtt ?_ | with_reducible refine z_rff ?_ | with_reducible refine z_rtf ?_ | with_reducible refine z_rft ?_ | with_reducible refine z_kt ?_ | with_reducible refine z_kf ?_ | with_reducible refine z_lss ?_ | with_reducible refine z_gtr ?_ | with_reducible refine z_leq ?_ | with_reducible refine z_geq ?_ | with_reducible refine z_eql ?_ | with_reducible refine z_neq ?_ | with_reducible refine z_seq ?_ | with_reducible refine z_sne ?_ | with_reducible refine z_slen ?_ | with_reducible refine z_eqp ?_ | with_reducible refine z_eqn ?_ | with_reducible refine z_cv ?_
          unfold p6_15
          have hci := List.getElem?_eq_getElem hlt
          obtain ⟨id, g, j, e, p1, p2, R⟩ := SV1.at hci
          obtain ⟨vv, ev, nv, lv, rfl, r1, r2, r3, r4, _⟩ := R
          have hmem := szL_mem (sz := szSt) (List.getElem_mem hlt)
          have hse : szSt l[i] = (l[i]).cls.length + szVs (l[i]).vs + szL szEl (l[i]).m.els + szL szPr (l[i]).m.env + (l[i]).live.length + 1 := rfl
          obtain ⟨y0, a0⟩ := addB x 1
          have q2 : loadA h1 false 1 (.ptr id g j 2) = some vv := by rw [p2]; rfl
          repeat first | with_reducible refine z_nil ?_ | with_reducible refine z_fadr ?_ | with_reducible refine z_some ?_ | with_reducible refine z_ext0 ?_ | with_reducible refine z_ext1 ?_ | with_reducible refine z_notT ?_ | with_reducible refine z_notF ?_ | with_reducible refine z_cT ?_ | with_reducible refine z_cF ?_ | with_reducible refine z_gtt ?_ | with_reducible refine z_gff ?_ | with_reducible refine z_gtf ?_ | with_reducible refine z_gft ?_ | with_reducible refine z_ptt ?_ | with_reducible refine z_pff ?_ | with_reducible refine z_ptf ?_ | with_reducible refine z_pft ?_ | with_reducible refine z_rtt ?_ | with_reducible refine z_rff ?_ | with_reducible refine z_rtf ?_ | with_reducible refine z_rft ?_ | with_reducible refine z_kt ?_ | with_reducible refine z_kf ?_ | with_reducible refine z_lss ?_ | with_reducible refine z_gtr ?_ | with_reducible refine z_leq ?_ | with_reducible refine z_geq ?_ | with_reducible refine z_eql ?_ | with_reducible refine z_neq ?_ | with_reducible refine z_seq ?_ | with_reducible refine z_sne ?_ | with_reducible refine z_slen ?_ | with_reducible refine z_eqp ?_ | with_reducible refine z_eqn ?_ | with_reducible refine z_cv ?_ | refine z_of a0 ?_ | refine z_of L0 ?_ | refine z_of (p1 .i64) ?_ | refine z_of q2 ?_
          refine c32 r1 (by omega) (by omega) fun z => ?_
          obtain ⟨y1, a1⟩ := addB y0 z
          repeat first | with_reducible refine z_nil ?_ | with_reducible refine z_fadr ?_ | with_reducible refine z_some ?_ | with_reducible refine z_ext0 ?_ | with_reducible refine z_ext1 ?_ | with_reducible refine z_notT ?_ | with_reducible refine z_notF ?_ | with_reducible refine z_cT ?_ | with_reducible refine z_cF ?_ | with_reducible refine z_gtt ?_ | with_reducible refine z_gff ?_ | with_reducible refine z_gtf ?_ | with_reducible refine z_gft ?_ | with_reducible refine z_ptt ?_ | with_reducible refine z_pff ?_ | with_reducible refine z_ptf ?_ | with_reducible refine z_pft ?_ | with_reducible refine z_rtt ?_ | with_reducible refine z_rff ?_ | with_reducible refine z_rtf ?_ | with_reducible refine z_rft ?_ | with_reducible refine z_kt ?_ | with_reducible refine z_kf ?_ | with_reducible refine z_lss ?_ | with_reducible refine z_gtr ?_ | with_reducible refine z_leq ?_ | with_reducible refine z_geq ?_ | with_reducible refine z_eql ?_ | with_reducible refine z_neq ?_ | with_reducible refine z_seq ?_ | with_reducible refine z_sne ?_ | with_reducible refine z_slen ?_ | with_reducible refine z_eqp ?_ | with_reducible refine z_eqn ?_ | with_reducible refine z_cv ?_ | refine z_of a1 ?_
          have q4 : loadA h1 false 1 (.ptr id g j 4) = some ev := by rw [p2]; rfl
          have hel : (l[i]).m.els.length ≤ szL szEl (l[i]).m.els := szL_length szEl_pos _
          have inner : ∀ (m2 i2 : Nat) (x2 : Int), (l[i]).m.els.length - i2 < m2 → l6_22 (callN E (n + 2)) (n + 2) (fun x1 x3 x4 h => l6_8 (callN E (n + 2)) (n + 2) m x1 x3 x4 h K) m2 (.ptr h.sz 0 0 0) (.int .i64 x2) (.int .i64 (i : Int)) (.int .i64 (i2 : Int)) h1 K = true := by
            intro m2
            induction m2 with
            | zero => intro i2 x2 hm2; omega
            | succ m2 ih2 =>
              intro i2 x2 hm2
              unfold l6_22 b6_22
              repeat first | with_reducible refine z_nil ?_ | with_reducible refine z_fadr ?_ | with_reducible refine z_some ?_ | with_reducible refine z_ext0 ?_ | with_reducible refine z_ext1 ?_ | with_reducible refine z_notT ?_ | with_reducible refine z_notF ?_ | with_reducible refine z_cT ?_ | with_reducible refine z_cF ?_ | with_reducible refine z_gtt ?_ | with_reducible refine z_gff ?_ | with_reducible refine z_gtf ?_ | with_reducible refine z_gft ?_ | with_reducible refine z_ptt ?_ | with_reducible refine z_pff ?_ | with_reducible refine z_ptf ?_ | with_reducible refine z_pft ?_ | with_reducible refine z_rtt ?_ | with_reducible refine z_rff ?_ | with_reducible refine z_rtf ?_ | with_reducible refine z_rft ?_ | with_reducible refine z_kt ?_ | with_reducible refine z_kf ?_ | with_reducible refine z_lss ?_ | with_reducible refine z_gtr ?_ | with_reducible refine z_leq ?_ | with_reducible refine z_geq ?_ | with_reducible refine z_eql ?_ | with_reducible refine z_neq ?_ | with_reducible refine z_seq ?_ | with_reducible refine z_sne ?_ | with_reducible refine z_slen ?_ | with_reducible refine z_eqp ?_ | with_reducible refine z_eqn ?_ | with_reducible refine z_cv ?_ | refine z_of L0 ?_ | refine z_of (p1 .i64) ?_ | refine z_fadrN (d := 3) (f := 1) (g := 4) rfl ?_ | refine z_of q4 ?_ | refine z_of r2.len ?_
              by_cases hl2 : i2 < (l[i]).m.els.length
              · refine z_ct (decide_eq_true (by omega)) ?_
                obtain ⟨id', g', j', e', p1', p2', R'⟩ := r2.at (List.getElem?_eq_getElem hl2)
                obtain ⟨vv', rfl, w1, _⟩ := R'
                have hme := szL_mem (sz := szEl) (List.getElem_mem hl2)
                have hee : szEl (l[i]).m.els[i2] = szVs ((l[i]).m.els[i2]).vs + 1 := rfl
                have q2' : loadA h1 false 1 (.ptr id' g' j' 2) = some vv' := by rw [p2']; rfl
                obtain ⟨y2, a2⟩ := addB x2 1
                repeat first | with_reducible refine z_nil ?_ | with_reducible refine z_fadr ?_ | with_reducible refine z_some ?_ | with_reducible refine z_ext0 ?_ | with_reducible refine z_ext1 ?_ | with_reducible refine z_notT ?_ | with_reducible refine z_notF ?_ | with_reducible refine z_cT ?_ | with_reducible refine z_cF ?_ | with_reducible refine z_gtt ?_ | with_reducible refine z_gff ?_ | with_reducible refine z_gtf ?_ | with_reducible refine z_gft ?_ | with_reducible refine z_ptt ?_ | with_reducible refine z_pff ?_ | with_reducible refine z_ptf ?_ | with_reducible refine z_pft ?_ | with_reducible refine z_rtt ?_ | with_reducible refine z_rff ?_ | with_reducible refine z_rtf ?_ | with_reducible refine z_rft ?_ | with_reducible refine z_kt ?_ | with_reducible refine z_kf ?_ | with_reducible refine z_lss ?_ | with_reducible refine z_gtr ?_ | with_reducible refine z_leq ?_ | with_reducible refine z_geq ?_ | with_reducible refine z_eql ?_ | with_reducible refine z_neq ?_ | with_reducible refine z_seq ?_ | with_reducible refine z_sne ?_ | with_reducible refine z_slen ?_ | with_reducible refine z_eqp ?_ | with_reducible refine z_eqn ?_ | with_reducible refine z_cv ?_ | refine z_of a2 ?_ | refine z_of L0 ?_ | refine z_of (p1 .i64) ?_ | refine z_fadrN (d := 3) (f := 1) (g := 4) rfl ?_ | refine z_of q4 ?_ | refine z_of (p1' .i64) ?_ | refine z_of q2' ?_
                refine c32 w1 (by omega) (by omega) fun z => ?_
                obtain ⟨y3, a3⟩ := addB y2 z
                repeat first | with_reducible refine z_nil ?_ | with_reducible refine z_fadr ?_ | with_reducible refine z_some ?_ | with_reducible refine z_ext0 ?_ | with_reducible refine z_ext1 ?_ | with_reducible refine z_notT ?_ | with_reducible refine z_notF ?_ | with_reducible refine z_cT ?_ | with_reducible refine z_cF ?_ | with_reducible refine z_gtt ?_ | with_reducible refine z_gff ?_ | with_reducible refine z_gtf ?_ | with_reducible refine z_gft ?_ | with_reducible refine z_ptt ?_ | with_reducible refine z_pff ?_ | with_reducible refine z_ptf ?_ | with_reducible refine z_pft ?_ | with_reducible refine z_rtt ?_ | with_reducible refine z_rff ?_ | with_reducible refine z_rtf ?_ | with_reducible refine z_rft ?_ | with_reducible refine z_kt ?_ | with_reducible refine z_kf ?_ | with_reducible refine z_lss ?_ | with_reducible refine z_gtr ?_ | with_reducible refine z_leq ?_ | with_reducible refine z_geq ?_ | with_reducible refine z_eql ?_ | with_reducible refine z_neq ?_ | with_reducible refine z_seq ?_ | with_reducible refine z_sne ?_ | with_reducible refine z_slen ?_ | with_reducible refine z_eqp ?_ | with_reducible refine z_eqn ?_ | with_reducible refine z_cv ?_ | refine z_of a3 ?_ | refine z_of (inc64 (i := i2) (by omega)) ?_
                exact ih2 (i2 + 1) y3 (by omega)
              · refine z_cf (decide_eq_false (by omega)) ?_
                unfold p6_33
                repeat first | with_reducible refine z_nil ?_ | with_reducible refine z_fadr ?_ | with_reducible refine z_some ?_ | with_reducible refine z_ext0 ?_ | with_reducible refine z_ext1 ?_ | with_reducible refine z_notT ?_ | with_reducible refine z_notF ?_ | with_reducible refine z_cT ?_ | with_reducible refine z_cF ?_ | with_reducible refine z_gtt ?_ | with_reducible refine z_gff ?_ | with_reducible refine z_gtf ?_ | with_reducible refine z_gft ?_ | with_reducible refine z_ptt ?_ | with_reducible refine z_pff ?_ | with_reducible refine z_ptf ?_ | with_reducible refine z_pft ?_ | with_reducible refine z_rtt ?_ | with_reducible refine z_rff ?_ | with_reducible refine z_rtf ?_ | with_reducible refine z_rft ?_ | with_reducible refine z_kt ?_ | with_reducible refine z_kf ?_ | with_reducible refine z_lss ?_ | with_reducible refine z_gtr ?_ | with_reducible refine z_leq ?_ | with_reducible refine z_geq ?_ | with_reducible refine z_eql ?_ | with_reducible refine z_neq ?_ | with_reducible refine z_seq ?_ | with_reducible refine z_sne ?_ | with_reducible refine z_slen ?_ | with_reducible refine z_eqp ?_ | with_reducible refine z_eqn ?_ | with_reducible refine z_cv ?_ | refine z_of (inc64 (i := i) (by omega)) ?_
                exact ihm (i + 1) x2 (by omega)
          exact inner (n + 2) 0 y1 (by omega)
        · have e2' : decide ((i : Int) < 60) = false := decide_eq_false (by omega)
          rw [e2']
          repeat first | with_reducible refine z_nil ?_ | with_reducible refine z_fadr ?_ | with_reducible refine z_some ?_ | with_reducible refine z_ext0 ?_ | with_reducible refine z_ext1 ?_ | with_reducible refine z_notT ?_ | with_reducible refine z_notF ?_ | with_reducible refine z_cT ?_ | with_reducible refine z_cF ?_ | with_reducible refine z_gtt ?_ | with_reducible refine z_gff ?_ | with_reducible refine z_gtf ?_ | with_reducible refine z_gft ?_ | with_reducible refine z_ptt ?_ | with_reducible refine z_pff ?_ | with_reducible refine z_ptf ?_ | with_reducible refine z_pft ?_ | with_reducible refine z_rtt ?_ | with_reducible refine z_rff ?_ | with_reducible refine z_rtf ?_ | with_reducible refine z_rft ?_ | with_reducible refine z_kt ?_ | with_reducible refine z_kf ?_ | with_reducible refine z_lss ?_ | with_reducible refine z_gtr ?_ | with_reducible refine z_leq ?_ | with_reducible refine z_geq ?_ | with_reducible refine z_eql ?_ | with_reducible refine z_neq ?_ | with_reducible refine z_seq ?_ | with_reducible refine z_sne ?_ | with_reducible refine z_slen ?_ | with_reducible refine z_eqp ?_ | with_reducible refine z_eqn ?_ | with_reducible refine z_cv ?_
          exact fin
      · have e1' : decide ((i : Int) < (l.length : Int)) = false := decide_eq_false (by omega)
        rw [e1']
        repeat first | with_reducible refine z_nil ?_ | with_reducible refine z_fadr ?_ | with_reducible refine z_some ?_ | with_reducible refine z_ext0 ?_ | with_reducible refine z_ext1 ?_ | with_reducible refine z_notT ?_ | with_reducible refine z_notF ?_ | with_reducible refine z_cT ?_ | with_reducible refine z_cF ?_ | with_reducible refine z_gtt ?_ | with_reducible refine z_gff ?_ | with_reducible refine z_gtf ?_ | with_reducible refine z_gft ?_ | with_reducible refine z_ptt ?_ | with_reducible refine z_pff ?_ | with_reducible refine z_ptf ?_ | with_reducible refine z_pft ?_ | with_reducible refine z_rtt ?_ | with_reducible refine z_rff ?_ | with_reducible refine z_rtf ?_ | with_reducible refine z_rft ?_ | with_reducible refine z_kt ?_ | with_reducible refine z_kf ?_ | with_reducible refine z_lss ?_ | with_reducible refine z_gtr ?_ | with_reducible refine z_leq ?_ | with_reducible refine z_geq ?_ | with_reducible refine z_eql ?_ | with_reducible refine z_neq ?_ | with_reducible refine z_seq ?_ | with_reducible refine z_sne ?_ | with_reducible refine z_slen ?_ | with_reducible refine z_eqp ?_ | with_reducible refine z_eqn ?_ | with_reducible refine z_cv ?_
        exact fin
  exact loop (n + 2) 0 0 (by omega)
end Go.Proofs.Ytbamgdknkhhikaa
