/-
  Texts that the claim hangs on, part 6.
-/
import Derived.Test.YthifmankpcadjaaW4
import Derived.Shelf.Lays2
import Derived.Ground.Names2Prog
import Derived.Test.YthifmankpcadjaaProg
import Derived.Shelf.Slices.In.SortNone
import Derived.Ground.NamesProg
import Derived.KernelRfl
import Derived.Test.YthifmankpcadjaaChecked
import Derived.Conc.MuLone
namespace Go.Proofs.Ythifmankpcadjaa
open Go.Ab
set_option linter.unusedSimpArgs false
set_option linter.unusedVariables false
theorem z_gn {w : Bool} {o : Option AV} {k : AV → Bool} (s : k (.tup []) = true) : optB (grdO (wantV (.tup []) w) o) k = true := s
theorem z_rn {w : Bool} {r : Kont → Bool} {h : AHeap} {K : Kont} (s : K (.tup []) h = true) : grdC (wantV (.tup []) w) r h K = true := s
section
variable {cs : List Cls} {B b n : Nat} {h0 h : AHeap} {τ : Nat → Tag} {T : SD} {tb lv dv nv hv : AV} {mo : Int} {K : Kont} {q pa : Nat} {l : List OpP}
theorem l563 (X : Fix cs B b h0 tb) (hv' : valid cs = true) (O : SO B τ 0 h0 h T) (I : SI cs b T) (hp : T.p = pa) (ht : T.tb = tb) (V1 : Var h0 q [lv, .int .i64 mo, dv, nv, hv]) (C : CV h0 lv cs) {av : AV} (F : FV h av (T.fs.map pf)) (hN : T.next < 500000) (hn : 1000000 ≤ n) (hL : n + 200 < lim) (kk : ∀ h, K (.bool true) h = true) :
    ∀ (m i : Nat) (g : AHeap), 20 - i < m → i ≤ 20 → Ext h g → g.Ok → l5_63 (callN E (n + 8)) (n + 8) m (.ptr q 0 0 0) tb (.ptr pa 0 0 0) av (.int .i64 (i : Int)) g K = true := by
  have hlm : lim = 4611686018427387904 := rfl
  have hfl := I.fslen O
  intro m
  induction m with
  | zero => intro i g hm; omega
  | succ m ih =>
    intro i g hm hi e ok
    have Og := O.ext e ok
    have Q0 : loadA g false 1 (.ptr q 0 0 0) = some lv := (V1.ext Og.e).get rfl
    have hl : lenA g 1 lv = some (.int .i64 (cs.length : Int)) := by obtain ⟨es, W, A⟩ := C.ext Og.e; rw [W.len, A.length]
    have fin : p5_121 (callN E (n + 8)) (n + 8) g K = true := by
      unfold p5_121
      refine c7' ?_
      exact kk g
    unfold l5_63 b5_63
    refine z_fadr ?_; refine z_of Q0 ?_; refine z_of hl ?_; refine z_lss ?_
    by_cases hlt : i < cs.length
    rotate_left
    · rw [decide_eq_false (show ¬ (i : Int) < (cs.length : Int) by omega)]
      refine z_gft ?_; refine z_gft ?_; refine z_kf ?_; refine z_cF ?_
      exact fin
    rw [decide_eq_true (show (i : Int) < (cs.length : Int) by omega)]
    refine z_gtt ?_; refine z_some ?_; refine z_gtt ?_; refine z_lss ?_; refine z_kt ?_
    by_cases h20 : i < 20
    rotate_left
    · rw [decide_eq_false (show ¬ (i : Int) < 20 by omega)]
      refine z_cF ?_
      exact fin
    rw [decide_eq_true (show (i : Int) < 20 by omega)]
    refine z_cT ?_
    unfold p5_70
    have hci := List.getElem?_eq_getElem hlt
    obtain ⟨id2, g2, j2, f2, y1, y2, y3, _⟩ := C.at2 Og.e hci
    refine z_fadr ?_; refine z_of Q0 ?_; refine z_of y1 ?_; refine z_fadr ?_; refine z_of y3 ?_
    rw [← hp]
    refine c22 (n := n + 4) Og I (by rw [ht]; exact X.tr) X.asc hv' X.len hN (by omega) (by omega) fun g3 ev e3 o3 Ve => ?_
    have e03 := ext_two e e3
    refine l580 (T := T) (h := g3) (c := cs[i]) X I (O.ext e03 o3).e o3 V1 C hci (F.ext e03) Ve (by omega) hn hL (fun h' e' o' => ?_) (n + 8) 0 g3 (by omega) (Nat.zero_le _) (Ext.refl _) o3
    have le : lenA h' 1 ev = some (.int .i64 ((extl cs T (cs[i]).name).length : Int)) := by have := (Ve.ext e').len; rwa [ints_len] at this
    unfold p5_113
    refine z_of le ?_; refine z_neq ?_
    rw [show (!decide (((extl cs T (cs[i]).name).length : Int) = ((extl cs T (cs[i]).name).length : Int))) = false by simp]
    refine z_cF ?_
    unfold p5_120
    refine z_of (inc64 (i := i) (by omega)) ?_
    rw [hp]
    exact ih (i + 1) h' (by omega) (by omega) (ext_two e03 e') o'
theorem l534 (X : Fix cs B b h0 tb) (V1 : Var h0 q [lv, .int .i64 mo, dv, nv, hv]) (D : OV h0 dv l) (hb : ∀ p ∈ l, ∀ q ∈ p.set, szV q.2 ≤ b) (hn : 3 * B + 3000000 ≤ n) (hL : n + 200 < lim)
    (fin : ∀ g τ T, SO B τ 0 h0 g T → SI cs b T → T.p = pa → T.tb = tb → T.next ≤ 30 → p5_57 (callN E (n + 8)) (n + 8) (.ptr q 0 0 0) tb (.ptr pa 0 0 0) g K = true) :
    ∀ (m i : Nat) (g : AHeap) (τ : Nat → Tag) (T : SD), 30 - i < m → i ≤ 30 → SO B τ 0 h0 g T → SI cs b T → T.p = pa → T.tb = tb → T.next ≤ i → T.clock ≤ i → l5_34 (callN E (n + 8)) (n + 8) m (.ptr q 0 0 0) tb (.ptr pa 0 0 0) (.int .i64 (i : Int)) g K = true := by
  have hlm : lim = 4611686018427387904 := rfl
  have hB := X.B
  obtain ⟨es, W, A⟩ := D
  intro m
  induction m with
  | zero => intro i g τ T hm; omega
  | succ m ih =>
    intro i g τ T hm hi O I hp ht hN hC
    have Q2 : ∀ {g}, Ext h0 g → loadA g false 1 (.ptr q 0 0 2) = some dv := fun e => (V1.ext e).get rfl
    have hl : lenA g 1 dv = some (.int .i64 (l.length : Int)) := by rw [(W.ext O.e).len, A.length]
    unfold l5_34 b5_34
    refine z_fadr ?_; refine z_of (Q2 O.e) ?_; refine z_of hl ?_; refine z_lss ?_
    by_cases hlt : i < l.length
    rotate_left
    · rw [decide_eq_false (show ¬ (i : Int) < (l.length : Int) by omega)]
      refine z_gft ?_; refine z_gft ?_; refine z_kf ?_; refine z_cF ?_
      exact fin g τ T O I hp ht (by omega)
    rw [decide_eq_true (show (i : Int) < (l.length : Int) by omega)]
    refine z_gtt ?_; refine z_some ?_; refine z_gtt ?_; refine z_lss ?_; refine z_kt ?_
    by_cases h30 : i < 30
    rotate_left
    · rw [decide_eq_false (show ¬ (i : Int) < 30 by omega)]
      refine z_cF ?_
      exact fin g τ T O I hp ht (by omega)
    rw [decide_eq_true (show (i : Int) < 30 by omega)]
    refine z_cT ?_
    rw [← hp]
    refine c15 (n := n + 7) O ?_
    skip
    refine c16 (n := n + 7) O ?_
    obtain ⟨ee, he, R⟩ := A.get (List.getElem?_eq_getElem hlt)
    have hbp := hb _ (List.getElem_mem hlt)
    generalize l[i] = p at *
    obtain ⟨sv, rfl, G⟩ := R
    obtain ⟨id, gg, j, u⟩ := W.atE he
    obtain ⟨p1, p2⟩ := u g O.e
    have L1 : loadA g false 1 (.ptr id gg j 1) = some (.str p.cls) := by rw [p2]; rfl
    have L2 : loadA g false 1 (.ptr id gg j 2) = some sv := by rw [p2]; rfl
    have L4 : loadA g false 1 (.ptr id gg j 4) = some (.bool p.st) := by rw [p2]; rfl
    refine z_fadr ?_; refine z_of (Q2 O.e) ?_; refine z_of (p1 .i64) ?_; refine z_fadr ?_; refine z_of L1 ?_; refine z_fadr ?_; refine z_of (Q2 O.e) ?_; refine z_of (p1 .i64) ?_; refine z_fadr ?_; refine z_of L2 ?_; refine z_fadr ?_; refine z_of (Q2 O.e) ?_; refine z_of (p1 .i64) ?_; refine z_fadr ?_; refine z_of L4 ?_
    refine c10 (Q := fun j => j < h0.sz) O I (by rw [ht]; exact X.tr) X.asc X.len X.f62 (G.sq O.k0 O.e) (fun j q => by have := O.e.1; omega) hbp X.b1 X.bB (by omega) (by omega) (by omega) (by omega) hL (fun w h' e o => ?_) (fun _ w h' e o => ?_) (fun vs _ _ w h' e o => ?_) fun vs _ _ _ g2 τ2 T2 O2 s2 I2 N2 => ?_
    · refine z_ext0 ?_; refine z_ext1 ?_; refine z_neq ?_
      rw [show (!decide ((10 : Int) = 0)) = true from rfl]
      refine z_gtt ?_; refine z_some ?_; refine z_rtt ?_
      refine c15 (n := n + 7) (O.ext e o) ?_
      refine z_gtt ?_; refine z_some ?_; refine z_gtt ?_; refine z_neq ?_; refine z_gtt ?_; refine z_some ?_
      rw [show (!decide ((T.clock : Int) = (T.clock : Int))) = false by simp]
      refine z_gff ?_; refine z_some ?_; refine z_rff ?_
      refine c16 (n := n + 7) (O.ext e o) ?_
      refine z_gff ?_; refine z_some ?_; refine z_gff ?_; refine z_neq ?_; refine z_gtt ?_; refine z_kf ?_; refine z_kt ?_
      rw [show (!decide ((T.fs.length : Int) = (T.fs.length : Int))) = false by simp]
      refine z_gff ?_; refine z_some ?_; refine z_gff ?_; refine z_eql ?_; refine z_gff ?_; refine z_some ?_
      rw [show decide ((10 : Int) = 0) = false from rfl]
      refine z_gft ?_; refine z_rft ?_; refine z_gft ?_; refine z_gft ?_; refine z_gft ?_; refine z_gft ?_; refine z_gn ?_; refine z_rn ?_; refine z_gn ?_; refine z_gn ?_; refine z_gn ?_; refine z_gft ?_; refine z_gft ?_; refine z_gn ?_; refine z_gn ?_; refine z_gft ?_; refine z_gff ?_; refine z_kf ?_; refine z_kf ?_; refine z_cF ?_; refine z_of (inc64 (i := i) (by omega)) ?_
      rw [hp]
      exact ih (i + 1) h' τ T (by omega) (by omega) (O.ext e o) I hp ht (by omega) (by omega)
    · refine z_ext0 ?_; refine z_ext1 ?_; refine z_neq ?_
      rw [show (!decide ((11 : Int) = 0)) = true from rfl]
      refine z_gtt ?_; refine z_some ?_; refine z_rtt ?_
      refine c15 (n := n + 7) (O.ext e o) ?_
      refine z_gtt ?_; refine z_some ?_; refine z_gtt ?_; refine z_neq ?_; refine z_gtt ?_; refine z_some ?_
      rw [show (!decide ((T.clock : Int) = (T.clock : Int))) = false by simp]
      refine z_gff ?_; refine z_some ?_; refine z_rff ?_
      refine c16 (n := n + 7) (O.ext e o) ?_
      refine z_gff ?_; refine z_some ?_; refine z_gff ?_; refine z_neq ?_; refine z_gtt ?_; refine z_kf ?_; refine z_kt ?_
      rw [show (!decide ((T.fs.length : Int) = (T.fs.length : Int))) = false by simp]
      refine z_gff ?_; refine z_some ?_; refine z_gff ?_; refine z_eql ?_; refine z_gff ?_; refine z_some ?_
      rw [show decide ((11 : Int) = 0) = false from rfl]
      refine z_gft ?_; refine z_rft ?_; refine z_gft ?_; refine z_gft ?_; refine z_gft ?_; refine z_gft ?_; refine z_gn ?_; refine z_rn ?_; refine z_gn ?_; refine z_gn ?_; refine z_gn ?_; refine z_gft ?_; refine z_gft ?_; refine z_gn ?_; refine z_gn ?_; refine z_gft ?_; refine z_gff ?_; refine z_kf ?_; refine z_kf ?_; refine z_cF ?_; refine z_of (inc64 (i := i) (by omega)) ?_
      rw [hp]
      exact ih (i + 1) h' τ T (by omega) (by omega) (O.ext e o) I hp ht (by omega) (by omega)
    · refine z_ext0 ?_; refine z_ext1 ?_; refine z_neq ?_
      rw [show (!decide ((12 : Int) = 0)) = true from rfl]
      refine z_gtt ?_; refine z_some ?_; refine z_rtt ?_
      refine c15 (n := n + 7) (O.ext e o) ?_
      refine z_gtt ?_; refine z_some ?_; refine z_gtt ?_; refine z_neq ?_; refine z_gtt ?_; refine z_some ?_
      rw [show (!decide ((T.clock : Int) = (T.clock : Int))) = false by simp]
      refine z_gff ?_; refine z_some ?_; refine z_rff ?_
      refine c16 (n := n + 7) (O.ext e o) ?_
      refine z_gff ?_; refine z_some ?_; refine z_gff ?_; refine z_neq ?_; refine z_gtt ?_; refine z_kf ?_; refine z_kt ?_
      rw [show (!decide ((T.fs.length : Int) = (T.fs.length : Int))) = false by simp]
      refine z_gff ?_; refine z_some ?_; refine z_gff ?_; refine z_eql ?_; refine z_gff ?_; refine z_some ?_
      rw [show decide ((12 : Int) = 0) = false from rfl]
      refine z_gft ?_; refine z_rft ?_; refine z_gft ?_; refine z_gft ?_; refine z_gft ?_; refine z_gft ?_; refine z_gn ?_; refine z_rn ?_; refine z_gn ?_; refine z_gn ?_; refine z_gn ?_; refine z_gft ?_; refine z_gft ?_; refine z_gn ?_; refine z_gn ?_; refine z_gft ?_; refine z_gff ?_; refine z_kf ?_; refine z_kf ?_; refine z_cF ?_; refine z_of (inc64 (i := i) (by omega)) ?_
      rw [hp]
      exact ih (i + 1) h' τ T (by omega) (by omega) (O.ext e o) I hp ht (by omega) (by omega)
    obtain ⟨xb, f2, _⟩ := N2.fs
    obtain ⟨d1, d2, d3, d4, d5⟩ := N2.sc
    have hfl : T2.fs.length = T.fs.length + 1 := by rw [f2]; simp
    have hfn := I.fslen O
    refine z_ext0 ?_; refine z_ext1 ?_; refine z_neq ?_
    rw [show (!decide ((0 : Int) = 0)) = false from rfl]
    refine z_gft ?_; refine z_rft ?_; refine z_gft ?_; refine z_gft ?_; refine z_gft ?_; refine z_gn ?_; refine z_rn ?_; refine z_gn ?_; refine z_gn ?_; refine z_gft ?_; refine z_kf ?_; refine z_gff ?_; refine z_some ?_; refine z_gff ?_; refine z_eql ?_; refine z_gff ?_; refine z_some ?_
    rw [show decide ((0 : Int) = 0) = true from rfl]
    refine z_gtt ?_; refine z_some ?_; refine z_rtt ?_
    rw [← d1]
    refine c15 (n := n + 7) O2 ?_
    have ic : binA .add (.int .i64 (T.clock : Int)) (.int .i64 1) = some (.int .i64 (T2.clock : Int)) := by rw [d5]; exact inc64 (by omega)
    have il : binA .add (.int .i64 (T.fs.length : Int)) (.int .i64 1) = some (.int .i64 (T2.fs.length : Int)) := by rw [hfl]; exact inc64 (by omega)
    refine z_gtt ?_; refine z_some ?_; refine z_gtt ?_; refine z_of ic ?_; refine z_gtt ?_; refine z_neq ?_; refine z_gtt ?_; refine z_some ?_
    rw [show (!decide ((T2.clock : Int) = (T2.clock : Int))) = false by simp]
    refine z_gff ?_; refine z_some ?_; refine z_rff ?_
    refine c16 (n := n + 7) O2 ?_
    refine z_gff ?_; refine z_some ?_; refine z_gff ?_; refine z_of il ?_; refine z_gff ?_; refine z_neq ?_; refine z_gtt ?_; refine z_kf ?_; refine z_gtt ?_; refine z_some ?_
    rw [show (!decide ((T2.fs.length : Int) = (T2.fs.length : Int))) = false by simp]
    refine z_gff ?_; refine z_some ?_; refine z_gff ?_; refine z_lss ?_; refine z_gtt ?_; refine z_kf ?_; refine z_gff ?_; refine z_kt ?_; refine z_kf ?_
    rw [decide_eq_false (show ¬ ((T.next + 1 : Nat) : Int) < 1 by omega)]
    refine z_cF ?_; refine z_of (inc64 (i := i) (by omega)) ?_
    rw [d1, hp]
    exact ih (i + 1) g2 τ2 T2 (by omega) (by omega) O2 I2 (by rw [d1]; exact hp) (by rw [d2]; exact ht) (by omega) (by omega)
theorem c5 (hs : h.Ok) (C : CV h lv cs) (D : OV h dv l) (hlf : allLeaf [lv, .int .i64 mo, dv, nv, hv] = true) (hb : ∀ p ∈ l, (∀ q ∈ p.set, szV q.2 ≤ b) ∧ p.set.length ≤ n) (hcl : cs.length ≤ n) (b1 : 1 ≤ b) (bB : 62 * b ≤ B) (hB : B < 100000000) (hn : 3 * B + 3000000 ≤ n) (hL : n + 300 < lim)
    (hnm : ∀ c ∈ cs, c.name.length ≤ n ∧ ∀ f ∈ c.fields, f.name.length ≤ n)
    (kk : ∀ h, K (.bool true) h = true) : callN E (n + 9) (.func 5) [.agg [lv, .int .i64 mo, dv, nv, hv]] h K = true := by
  have hlm : lim = 4611686018427387904 := rfl
  apply d5
  unfold s5
  obtain ⟨h1, q1, V1, e1, o1, z1⟩ := box_v (n := 5) (v := .agg [lv, .int .i64 mo, dv, nv, hv]) hs rfl (by decide) hlf
  have V1 : Var h1 h.sz [lv, .int .i64 mo, dv, nv, hv] := V1
  refine z_p q1 ?_
  have A : loadA h1 true 5 (.ptr h.sz 0 0 0) = some (.agg [lv, .int .i64 mo, dv, nv, hv]) := V1.all rfl
  have kw : ∀ h, callN E (n + 8) (.func 7) [] h (fun v h => K v h) = true := fun h => c7' (kk h)
  refine z_of A ?_
  refine c6 (n := n + 5) o1 (C.ext e1) (D.ext e1) hlf (fun p hp => ⟨(hb p hp).1, by have := (hb p hp).2; omega⟩) (by omega) (by omega) (by omega) fun c h2 e2 o2 => ?_
  cases c with
  | false =>
    refine z_notF ?_; refine z_cT ?_
    exact kw h2
  | true =>
    have A0 : loadA h2 false 1 (.ptr h.sz 0 0 0) = some lv := (V1.ext e2).get rfl
    refine z_notT ?_; refine z_cF ?_
    unfold p5_10
    refine z_fadr ?_; refine z_of A0 ?_
    have C2 := (C.ext e1).ext e2
    refine u11 (n := n + 2) o2 C2 ⟨by omega, by omega, fun c hc => ⟨by have := (hnm c hc).1; omega, fun f hf => by have := (hnm c hc).2 f hf; omega⟩⟩ (fun _ h3 e3 o3 => ?_) fun hv' G h3 t e3 o3 TR => ?_
    · refine z_ext0 ?_; refine z_ext1 ?_; refine z_neq ?_
      rw [show (!decide ((10 : Int) = 0)) = true from rfl]
      refine z_gtf ?_; refine z_gtf ?_; refine z_kt ?_; refine z_cT ?_
      exact kw h3
    obtain ⟨tid, tl, tm, rfl, _, _, _⟩ := id TR
    refine z_ext0 ?_; refine z_ext1 ?_; refine z_neq ?_
    rw [show (!decide ((0 : Int) = 0)) = false from rfl]
    refine z_gff ?_; refine z_some ?_; refine z_gff ?_; refine z_eqp ?_; refine z_kf ?_; refine z_cF ?_
    unfold p5_20
    have X : Fix cs B b h3 (.ptr tid 0 0 0) := ⟨TR, G.asc, by
      have := hv'
      unfold valid at this
      simp only [Bool.and_eq_true, decide_eq_true_eq] at this
      exact this.1, fields62 hv' G, b1, bB, hB⟩
    have e03 := ext_two (ext_two e1 e2) e3
    have V3 : Var h3 h.sz [lv, .int .i64 mo, dv, nv, hv] := (V1.ext e2).ext e3
    have A1 : loadA h3 false 1 (.ptr h.sz 0 0 1) = some (.int .i64 mo) := V3.get rfl
    refine z_fadr ?_; refine z_of A1 ?_
    refine c9 (B := B) (τ := fun _ => .out) (o := 0) (n := n + 6) o3 o3 (Ext.refl _) (fun _ _ => rfl) (fun _ _ => rfl) (fun w => ?_) fun _ _ h4 τ4 T P4 s4 a1 a2 a3 a4 a5 a6 a7 a8 => ?_
    · refine z_ext0 ?_; refine z_ext1 ?_; refine z_neq ?_
      rw [show (!decide ((1 : Int) = 0)) = true from rfl]
      refine z_gtf ?_; refine z_gtf ?_; refine z_kt ?_; refine z_cT ?_
      exact kw h3
    refine z_ext0 ?_; refine z_ext1 ?_; refine z_neq ?_
    rw [show (!decide ((0 : Int) = 0)) = false from rfl]
    refine z_gff ?_; refine z_some ?_; refine z_gff ?_; refine z_eqp ?_; refine z_kf ?_; refine z_cF ?_
    unfold p5_30
    refine l534 (pa := T.p) X V3 (D.ext e03) (fun p hp => (hb p hp).1) hn (by omega) (fun g τ T1 O1 I1 t1 t2 t3 => ?_) (n + 8) 0 h4 τ4 T (by omega) (Nat.zero_le _) P4 (SI.nil a5 a6 a7 a8) rfl a1 (by omega) (by omega)
    unfold p5_57
    rw [← t1]
    refine c14 (n := n + 5) O1 I1 X.f62 (by omega) hB (by omega) (by omega) fun g2 v2 e2' o2' F2 => ?_
    exact l563 X hv' (O1.ext e2' o2') I1 rfl t2 V3 (C.ext e03) F2 (by omega) (by omega) (by omega) kk (n + 8) 0 g2 (by omega) (by omega) (Ext.refl _) o2'
end
end Go.Proofs.Ythifmankpcadjaa
namespace Go.Proofs
open Go.Shelf
def Ythifmankpcadjaa.insL_ren : Go.Shelf.Ren := ⟨fun | 21 => 59 | 27 => 72 | 28 => 73 | 35 => 86 | 39 => 95 | n => n, fun | 22 => 25 | 3 => 3 | 4 => 4 | 0 => 0 | n => n, fun | n => n⟩
theorem Ythifmankpcadjaa.insL : Go.Proofs.Lays2.n21 Try.prog Ythifmankpcadjaa.insL_ren := {
  mixed := by kernel_rfl
  f21 := Try.func59.trans (congrArg some (by kernel_rfl))
  f27 := Try.func72.trans (congrArg some (by kernel_rfl))
  f28 := Try.func73.trans (congrArg some (by kernel_rfl))
  f35 := Try.func86.trans (congrArg some (by kernel_rfl))
  f39 := Try.func95.trans (congrArg some (by kernel_rfl))
  t0 := Try.underlying0
  a0 := Try.isAgg0
  z0 := Try.sizeOf0
  v0 := Try.zeroValue0
  t3 := Try.underlying3
  a3 := Try.isAgg3
  z3 := Try.sizeOf3
  v3 := Try.zeroValue3
  t4 := Try.underlying4
  a4 := Try.isAgg4
  z4 := Try.sizeOf4
  v4 := Try.zeroValue4
  t22 := Try.underlying25
  a22 := Try.isAgg25
  z22 := Try.sizeOf25
  v22 := Try.zeroValue25
  i3 := by kernel_rfl }
end Go.Proofs
namespace Go.Proofs
open Go.Shelf
def Ythifmankpcadjaa.sortL_ren : Go.Shelf.Ren := ⟨fun | 189 => 47 | 125 => 69 | 257 => 68 | 128 => 84 | 129 => 85 | 294 => 75 | 295 => 76 | 296 => 77 | 297 => 78 | 298 => 79 | 299 => 80 | 216 => 81 | 300 => 82 | 301 => 83 | 328 => 89 | 329 => 90 | 330 => 91 | 331 => 92 | 332 => 93 | 215 => 94 | 343 => 96 | n => n, fun | 28 => 25 | 3 => 3 | 46 => 68 | 0 => 0 | 51 => 146 | 53 => 42 | 4 => 4 | 183 => 139 | 182 => 138 | 131 => 119 | 5 => 5 | 9 => 9 | 218 => 150 | 222 => 154 | 228 => 157 | 229 => 158 | n => n, fun | n => n⟩
theorem Ythifmankpcadjaa.sortL : Go.Proofs.Lays.n189 Try.prog Ythifmankpcadjaa.sortL_ren := {
  mixed := by kernel_rfl
  f125 := Try.func69.trans (congrArg some (by kernel_rfl))
  f128 := Try.func84.trans (congrArg some (by kernel_rfl))
  f129 := Try.func85.trans (congrArg some (by kernel_rfl))
  f189 := Try.func47.trans (congrArg some (by kernel_rfl))
  f215 := Try.func94.trans (congrArg some (by kernel_rfl))
  f216 := Try.func81.trans (congrArg some (by kernel_rfl))
  f257 := Try.func68.trans (congrArg some (by kernel_rfl))
  f294 := Try.func75.trans (congrArg some (by kernel_rfl))
  f295 := Try.func76.trans (congrArg some (by kernel_rfl))
  f296 := Try.func77.trans (congrArg some (by kernel_rfl))
  f297 := Try.func78.trans (congrArg some (by kernel_rfl))
  f298 := Try.func79.trans (congrArg some (by kernel_rfl))
  f299 := Try.func80.trans (congrArg some (by kernel_rfl))
  f300 := Try.func82.trans (congrArg some (by kernel_rfl))
  f301 := Try.func83.trans (congrArg some (by kernel_rfl))
  f328 := Try.func89.trans (congrArg some (by kernel_rfl))
  f329 := Try.func90.trans (congrArg some (by kernel_rfl))
  f330 := Try.func91.trans (congrArg some (by kernel_rfl))
  f331 := Try.func92.trans (congrArg some (by kernel_rfl))
  f332 := Try.func93.trans (congrArg some (by kernel_rfl))
  f343 := Try.func96.trans (congrArg some (by kernel_rfl))
  t0 := Try.underlying0
  a0 := Try.isAgg0
  z0 := Try.sizeOf0
  v0 := Try.zeroValue0
  t3 := Try.underlying3
  a3 := Try.isAgg3
  z3 := Try.sizeOf3
  v3 := Try.zeroValue3
  t4 := Try.underlying4
  a4 := Try.isAgg4
  z4 := Try.sizeOf4
  v4 := Try.zeroValue4
  t5 := Try.underlying5
  a5 := Try.isAgg5
  z5 := Try.sizeOf5
  v5 := Try.zeroValue5
  t9 := Try.underlying9
  a9 := Try.isAgg9
  z9 := Try.sizeOf9
  v9 := Try.zeroValue9
  t28 := Try.underlying25
  a28 := Try.isAgg25
  z28 := Try.sizeOf25
  v28 := Try.zeroValue25
  t46 := Try.underlying68
  a46 := Try.isAgg68
  z46 := Try.sizeOf68
  v46 := Try.zeroValue68
  t51 := Try.underlying146
  a51 := Try.isAgg146
  z51 := Try.sizeOf146
  v51 := Try.zeroValue146
  t53 := Try.underlying42
  a53 := Try.isAgg42
  z53 := Try.sizeOf42
  v53 := Try.zeroValue42
  t131 := Try.underlying119
  a131 := Try.isAgg119
  z131 := Try.sizeOf119
  v131 := Try.zeroValue119
  t182 := Try.underlying138
  a182 := Try.isAgg138
  z182 := Try.sizeOf138
  v182 := Try.zeroValue138
  t183 := Try.underlying139
  a183 := Try.isAgg139
  z183 := Try.sizeOf139
  v183 := Try.zeroValue139
  t218 := Try.underlying150
  a218 := Try.isAgg150
  z218 := Try.sizeOf150
  v218 := Try.zeroValue150
  t222 := Try.underlying154
  a222 := Try.isAgg154
  z222 := Try.sizeOf154
  v222 := Try.zeroValue154
  t228 := Try.underlying157
  a228 := Try.isAgg157
  z228 := Try.sizeOf157
  v228 := Try.zeroValue157
  t229 := Try.underlying158
  a229 := Try.isAgg158
  z229 := Try.sizeOf158
  v229 := Try.zeroValue158 }
end Go.Proofs
namespace Go.Proofs.Ythifmankpcadjaa
open Go.Ab
@[irreducible] noncomputable def A7 : AFun := (compFn Try.prog Try.f7).getD ⟨0, [], .skip⟩
noncomputable def tblW : List (Nat × AFun) := [(7, A7), (8, A8), (9, A9), (10, A10), (11, A11), (15, A15), (16, A16), (17, A17), (20, A20), (23, A23), (25, A25), (26, A26), (27, A27), (28, A28), (29, A29), (30, A30), (31, A31), (32, A32), (33, A33), (34, A34), (36, A36), (39, A39), (40, A40), (41, A41), (42, A42), (43, A43), (44, A44), (49, A49), (50, A50), (51, A51), (52, A52), (53, A53), (54, A54), (55, A55), (56, A56), (57, A57), (58, A58), (60, A60), (61, A61), (62, A62), (64, A64), (65, A65), (66, A66), (67, A67), (70, A70), (71, A71), (74, A74), (87, A87), (88, A88)]
set_option maxRecDepth 1000000 in
theorem runW : callN (envP tblW [(59, insP)]) 300 (.func 7) [] AHeap.empty (fun v _ => isTrue v) = true := by kernel_rfl
end Go.Proofs.Ythifmankpcadjaa
namespace Go.Proofs.Ythifmankpcadjaa
open Go.Ab
theorem tt3 : compFn Try.prog Try.f3 = some (stripF A3) := by kernel_rfl
theorem tt4 : compFn Try.prog Try.f4 = some (stripF A4) := by kernel_rfl
theorem tt5 : compFn Try.prog Try.f5 = some (stripF A5) := by kernel_rfl
theorem tt6 : compFn Try.prog Try.f6 = some (stripF A6) := by kernel_rfl
theorem tt7 : compFn Try.prog Try.f7 = some (stripF A7) := by kernel_rfl
theorem tt8 : compFn Try.prog Try.f8 = some (stripF A8) := by kernel_rfl
theorem tt9 : compFn Try.prog Try.f9 = some (stripF A9) := by kernel_rfl
theorem tt10 : compFn Try.prog Try.f10 = some (stripF A10) := by kernel_rfl
theorem tt11 : compFn Try.prog Try.f11 = some (stripF A11) := by kernel_rfl
theorem tt12 : compFn Try.prog Try.f12 = some (stripF A12) := by kernel_rfl
theorem tt13 : compFn Try.prog Try.f13 = some (stripF A13) := by kernel_rfl
theorem tt14 : compFn Try.prog Try.f14 = some (stripF A14) := by kernel_rfl
theorem tt15 : compFn Try.prog Try.f15 = some (stripF A15) := by kernel_rfl
theorem tt16 : compFn Try.prog Try.f16 = some (stripF A16) := by kernel_rfl
theorem tt17 : compFn Try.prog Try.f17 = some (stripF A17) := by kernel_rfl
theorem tt18 : compFn Try.prog Try.f18 = some (stripF A18) := by kernel_rfl
theorem tt19 : compFn Try.prog Try.f19 = some (stripF A19) := by kernel_rfl
theorem tt20 : compFn Try.prog Try.f20 = some (stripF A20) := by kernel_rfl
theorem tt21 : compFn Try.prog Try.f21 = some (stripF A21) := by kernel_rfl
theorem tt22 : compFn Try.prog Try.f22 = some (stripF A22) := by kernel_rfl
theorem tt23 : compFn Try.prog Try.f23 = some (stripF A23) := by kernel_rfl
theorem tt24 : compFn Try.prog Try.f24 = some (stripF A24) := by kernel_rfl
theorem tt25 : compFn Try.prog Try.f25 = some (stripF A25) := by kernel_rfl
theorem tt26 : compFn Try.prog Try.f26 = some (stripF A26) := by kernel_rfl
theorem tt27 : compFn Try.prog Try.f27 = some (stripF A27) := by kernel_rfl
theorem tt28 : compFn Try.prog Try.f28 = some (stripF A28) := by kernel_rfl
theorem tt29 : compFn Try.prog Try.f29 = some (stripF A29) := by kernel_rfl
theorem tt30 : compFn Try.prog Try.f30 = some (stripF A30) := by kernel_rfl
theorem tt31 : compFn Try.prog Try.f31 = some (stripF A31) := by kernel_rfl
theorem tt32 : compFn Try.prog Try.f32 = some (stripF A32) := by kernel_rfl
theorem tt33 : compFn Try.prog Try.f33 = some (stripF A33) := by kernel_rfl
theorem tt34 : compFn Try.prog Try.f34 = some (stripF A34) := by kernel_rfl
theorem tt35 : compFn Try.prog Try.f35 = some (stripF A35) := by kernel_rfl
theorem tt36 : compFn Try.prog Try.f36 = some (stripF A36) := by kernel_rfl
theorem tt37 : compFn Try.prog Try.f37 = some (stripF A37) := by kernel_rfl
theorem tt38 : compFn Try.prog Try.f38 = some (stripF A38) := by kernel_rfl
theorem tt39 : compFn Try.prog Try.f39 = some (stripF A39) := by kernel_rfl
theorem tt40 : compFn Try.prog Try.f40 = some (stripF A40) := by kernel_rfl
theorem tt41 : compFn Try.prog Try.f41 = some (stripF A41) := by kernel_rfl
theorem tt42 : compFn Try.prog Try.f42 = some (stripF A42) := by kernel_rfl
theorem tt43 : compFn Try.prog Try.f43 = some (stripF A43) := by kernel_rfl
theorem tt44 : compFn Try.prog Try.f44 = some (stripF A44) := by kernel_rfl
theorem tt45 : compFn Try.prog Try.f45 = some (stripF A45) := by kernel_rfl
theorem tt46 : compFn Try.prog Try.f46 = some (stripF A46) := by kernel_rfl
theorem tt48 : compFn Try.prog Try.f48 = some (stripF A48) := by kernel_rfl
theorem tt49 : compFn Try.prog Try.f49 = some (stripF A49) := by kernel_rfl
theorem tt50 : compFn Try.prog Try.f50 = some (stripF A50) := by kernel_rfl
theorem tt51 : compFn Try.prog Try.f51 = some (stripF A51) := by kernel_rfl
theorem tt52 : compFn Try.prog Try.f52 = some (stripF A52) := by kernel_rfl
theorem tt53 : compFn Try.prog Try.f53 = some (stripF A53) := by kernel_rfl
theorem tt54 : compFn Try.prog Try.f54 = some (stripF A54) := by kernel_rfl
theorem tt55 : compFn Try.prog Try.f55 = some (stripF A55) := by kernel_rfl
theorem tt56 : compFn Try.prog Try.f56 = some (stripF A56) := by kernel_rfl
theorem tt57 : compFn Try.prog Try.f57 = some (stripF A57) := by kernel_rfl
theorem tt58 : compFn Try.prog Try.f58 = some (stripF A58) := by kernel_rfl
theorem tt60 : compFn Try.prog Try.f60 = some (stripF A60) := by kernel_rfl
theorem tt61 : compFn Try.prog Try.f61 = some (stripF A61) := by kernel_rfl
theorem tt62 : compFn Try.prog Try.f62 = some (stripF A62) := by kernel_rfl
theorem tt63 : compFn Try.prog Try.f63 = some (stripF A63) := by kernel_rfl
theorem tt64 : compFn Try.prog Try.f64 = some (stripF A64) := by kernel_rfl
theorem tt65 : compFn Try.prog Try.f65 = some (stripF A65) := by kernel_rfl
theorem tt66 : compFn Try.prog Try.f66 = some (stripF A66) := by kernel_rfl
theorem tt67 : compFn Try.prog Try.f67 = some (stripF A67) := by kernel_rfl
theorem tt70 : compFn Try.prog Try.f70 = some (stripF A70) := by kernel_rfl
theorem tt71 : compFn Try.prog Try.f71 = some (stripF A71) := by kernel_rfl
theorem tt74 : compFn Try.prog Try.f74 = some (stripF A74) := by kernel_rfl
theorem tt87 : compFn Try.prog Try.f87 = some (stripF A87) := by kernel_rfl
theorem tt88 : compFn Try.prog Try.f88 = some (stripF A88) := by kernel_rfl
theorem tbl_ok : AllOK Try.prog tbl := ⟨⟨_, Try.func3, tt3⟩, ⟨_, Try.func4, tt4⟩, ⟨_, Try.func5, tt5⟩, ⟨_, Try.func6, tt6⟩, ⟨_, Try.func8, tt8⟩, ⟨_, Try.func9, tt9⟩, ⟨_, Try.func10, tt10⟩, ⟨_, Try.func11, tt11⟩, ⟨_, Try.func12, tt12⟩, ⟨_, Try.func13, tt13⟩, ⟨_, Try.func14, tt14⟩, ⟨_, Try.func15, tt15⟩, ⟨_, Try.func16, tt16⟩, ⟨_, Try.func17, tt17⟩, ⟨_, Try.func18, tt18⟩, ⟨_, Try.func19, tt19⟩, ⟨_, Try.func21, tt21⟩, ⟨_, Try.func22, tt22⟩, ⟨_, Try.func24, tt24⟩, ⟨_, Try.func26, tt26⟩, ⟨_, Try.func27, tt27⟩, ⟨_, Try.func28, tt28⟩, ⟨_, Try.func29, tt29⟩, ⟨_, Try.func30, tt30⟩, ⟨_, Try.func31, tt31⟩, ⟨_, Try.func32, tt32⟩, ⟨_, Try.func33, tt33⟩, ⟨_, Try.func34, tt34⟩, ⟨_, Try.func35, tt35⟩, ⟨_, Try.func36, tt36⟩, ⟨_, Try.func37, tt37⟩, ⟨_, Try.func38, tt38⟩, ⟨_, Try.func39, tt39⟩, ⟨_, Try.func40, tt40⟩, ⟨_, Try.func41, tt41⟩, ⟨_, Try.func42, tt42⟩, ⟨_, Try.func44, tt44⟩, ⟨_, Try.func45, tt45⟩, ⟨_, Try.func46, tt46⟩, ⟨_, Try.func48, tt48⟩, ⟨_, Try.func49, tt49⟩, ⟨_, Try.func50, tt50⟩, ⟨_, Try.func51, tt51⟩, ⟨_, Try.func52, tt52⟩, ⟨_, Try.func53, tt53⟩, ⟨_, Try.func54, tt54⟩, ⟨_, Try.func55, tt55⟩, ⟨_, Try.func56, tt56⟩, ⟨_, Try.func57, tt57⟩, ⟨_, Try.func58, tt58⟩, ⟨_, Try.func60, tt60⟩, ⟨_, Try.func61, tt61⟩, ⟨_, Try.func62, tt62⟩, ⟨_, Try.func63, tt63⟩, ⟨_, Try.func64, tt64⟩, ⟨_, Try.func65, tt65⟩, ⟨_, Try.func67, tt67⟩, ⟨_, Try.func70, tt70⟩, ⟨_, Try.func71, tt71⟩, ⟨_, Try.func74, tt74⟩, ⟨_, Try.func87, tt87⟩, ⟨_, Try.func88, tt88⟩, ⟨_, Try.func20, tt20⟩, ⟨_, Try.func23, tt23⟩, ⟨_, Try.func25, tt25⟩, ⟨_, Try.func43, tt43⟩, ⟨_, Try.func66, tt66⟩, trivial⟩
theorem tblW_ok : AllOK Try.prog tblW := ⟨⟨_, Try.func7, tt7⟩, ⟨_, Try.func8, tt8⟩, ⟨_, Try.func9, tt9⟩, ⟨_, Try.func10, tt10⟩, ⟨_, Try.func11, tt11⟩, ⟨_, Try.func15, tt15⟩, ⟨_, Try.func16, tt16⟩, ⟨_, Try.func17, tt17⟩, ⟨_, Try.func20, tt20⟩, ⟨_, Try.func23, tt23⟩, ⟨_, Try.func25, tt25⟩, ⟨_, Try.func26, tt26⟩, ⟨_, Try.func27, tt27⟩, ⟨_, Try.func28, tt28⟩, ⟨_, Try.func29, tt29⟩, ⟨_, Try.func30, tt30⟩, ⟨_, Try.func31, tt31⟩, ⟨_, Try.func32, tt32⟩, ⟨_, Try.func33, tt33⟩, ⟨_, Try.func34, tt34⟩, ⟨_, Try.func36, tt36⟩, ⟨_, Try.func39, tt39⟩, ⟨_, Try.func40, tt40⟩, ⟨_, Try.func41, tt41⟩, ⟨_, Try.func42, tt42⟩, ⟨_, Try.func43, tt43⟩, ⟨_, Try.func44, tt44⟩, ⟨_, Try.func49, tt49⟩, ⟨_, Try.func50, tt50⟩, ⟨_, Try.func51, tt51⟩, ⟨_, Try.func52, tt52⟩, ⟨_, Try.func53, tt53⟩, ⟨_, Try.func54, tt54⟩, ⟨_, Try.func55, tt55⟩, ⟨_, Try.func56, tt56⟩, ⟨_, Try.func57, tt57⟩, ⟨_, Try.func58, tt58⟩, ⟨_, Try.func60, tt60⟩, ⟨_, Try.func61, tt61⟩, ⟨_, Try.func62, tt62⟩, ⟨_, Try.func64, tt64⟩, ⟨_, Try.func65, tt65⟩, ⟨_, Try.func66, tt66⟩, ⟨_, Try.func67, tt67⟩, ⟨_, Try.func70, tt70⟩, ⟨_, Try.func71, tt71⟩, ⟨_, Try.func74, tt74⟩, ⟨_, Try.func87, tt87⟩, ⟨_, Try.func88, tt88⟩, trivial⟩
theorem body59 : ∃ c, Try.f59.body = some c := by
  have h : Try.f59.body.isSome = true := by kernel_rfl
  cases e : Try.f59.body with
  | none => rw [e] at h; cases h
  | some c => exact ⟨c, rfl⟩
theorem enter59 (args : Array Value) (w : World) : (callFunc 59 args).run Try.prog w = .ok (.enter 59 args) w := by
  obtain ⟨c, h⟩ := body59
  exact _root_.Go.MuLone.run_callFunc_enter Try.func59 (by kernel_rfl) h args w
theorem body47 : ∃ c, Try.f47.body = some c := by
  have h : Try.f47.body.isSome = true := by kernel_rfl
  cases e : Try.f47.body with
  | none => rw [e] at h; cases h
  | some c => exact ⟨c, rfl⟩
theorem enter47 (args : Array Value) (w : World) : (callFunc 47 args).run Try.prog w = .ok (.enter 47 args) w := by
  obtain ⟨c, h⟩ := body47
  exact _root_.Go.MuLone.run_callFunc_enter Try.func47 (by kernel_rfl) h args w
theorem ins_ok : PrimOK Try.prog 59 insP := insP_ok insL rfl enter59
theorem srt_ok : PrimOK Try.prog 47 sortI := sortI_ok sortL rfl enter47
theorem prims_ok : AllPrim Try.prog prims := ⟨ins_ok, srt_ok, saysT_ok Try.checked.mixed (envP_ok tblW_ok (ps := [(59, insP)]) (show AllPrim Try.prog [(59, insP)] from ⟨ins_ok, trivial⟩)) (fn := A7) rfl runW, trivial⟩
theorem env_ok : EnvOK Try.prog E := envP_ok tbl_ok prims_ok
end Go.Proofs.Ythifmankpcadjaa
