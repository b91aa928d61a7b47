/-
  Texts that the claim hangs on, part 6.
-/
import Derived.Test.YtbamgdknkhhikaaX4
import Derived.Test.YtbamgdknkhhikaaRows
import Derived.KernelRfl
import Derived.Shelf.SlSortCmp.NoneTotal
import Derived.Ground.SlsfProg
import Derived.Test.YtbamgdknkhhikaaProg
import Derived.Test.YtbamgdknkhhikaaChecked
import Derived.Conc.MuLone
namespace Go.Proofs.Ytbamgdknkhhikaa
open Go.Ab
set_option linter.unusedSimpArgs false
set_option linter.unusedVariables false
noncomputable def keepH (L : List JE) (H : List JE) : List JE := flt (fun x => ∃ y ∈ L, y.cls = x.cls ∧ y.vs = x.vs) H
noncomputable def keepM (L : List JE) (M : List Mch) : List Mch := flt (fun m => ∃ y ∈ L, y.m.core = m.core ∧ y.m.els = m.els) M
theorem ofC_pos {L : List JE} {cls : Str} {l : List Val} : 0 < (ofC L cls l).length ↔ ∃ y ∈ L, y.cls = cls ∧ y.vs = l := by
  rw [List.length_pos_iff_exists_mem]
  unfold ofC
  simp only [mem_flt]
section
variable {B : Nat} {σ : Nat → Tag} {h0 hs : AHeap} {J : JD} {n : Nat} {K : Kont}
structure Small (B n : Nat) (J : JD) : Prop where
  l : J.L.length < 1000
  h : J.H.length < 1000
  m : J.M.length < 1000
  fu : 2 * B + 2000 ≤ n
  bd : B < 1000000000
  li : n < Ab.lim
theorem p50_61_ok {out : AV} {M : List Mch} (O : JO B σ h0 hs J) {h : AHeap} (e : Ext hs h) (o : h.Ok) (W : Rw hs.sz 3 (RM B h0) h out M)
    (kk : ∀ (h' : AHeap) (σ' : Nat → Tag) (b c : AV), JO B σ' h0 h' ⟨J.p, J.a, J.b, c, J.L, J.H, M⟩ → JStep σ σ' hs h' → K (.tup []) h' = true) : p50_61 (callN E n) n (.ptr J.p 0 0 0) out h K = true := by
  unfold p50_61
  have O' := O.ext e o
  obtain ⟨h1, w1, V1, w3, o1, w5⟩ := O'.var.wr o (off := 2) (v := out) (show 2 < 3 by decide) W.leaf
  refine z_nil ?_; refine z_fadr ?_
  refine z_u w1 ?_
  have V1 : Var h1 J.p [J.a, J.b, out] := V1
  have lp := O.var.lt O.ok
  have f : Fr (fun j => σ j = .jus) hs h1 := (Fr.of_ext e).trans (Fr.of_but O.tp w3)
  have rj : ∀ e x, RJ B σ h0 hs e x → RJ B (tagJ σ J.a J.b out) h0 h1 e x := fun e x R => R.fr f (fun j q => by rw [q]; exact fun q => by cases q) fun j hj => by
    by_cases q : inRow J.a j ∨ inRow J.b j ∨ inRow out j
    · rw [tagJ_in q]
      rcases q with q | q | q
      · exact (O.ta j q).1.symm
      · exact (O.tb j q).1.symm
      · have := W.row q; omega
    · exact tagJ_out q
  have pa : ∀ j, inRow J.a j → j < hs.sz := fun j q => O.L.lt O.ok q
  have pb : ∀ j, inRow J.b j → j < hs.sz := fun j q => O.H.lt O.ok q
  obtain ⟨q1, q2⟩ := O.put (h1 := h1) (a := J.a) (b := J.b) (c := out) (L := J.L) (H := J.H) (M := M) f o1 V1
    (((O.L.ext e).fr (Fr.of_but (X := fun j => j = J.p) rfl w3) fun j q => (O.ta j q).2.2.2).mono rj)
    (((O.H.ext e).fr (Fr.of_but (X := fun j => j = J.p) rfl w3) fun j q => (O.tb j q).2.2).mono rj)
    ((W.fr (Fr.of_but (X := fun j => j = J.p) rfl w3) fun j q => by have := W.row q; omega).low)
    (fun j q => .inl (O.ta j q).1) (fun j q => .inl (O.tb j q).1) (fun j q => .inr (W.row q))
    (fun j q => ⟨(O.ta j q).2.1, fun q' => by have := W.row q'; have := pa j q; omega, (O.ta j q).2.2.2⟩)
    (fun j q => ⟨fun q' => by have := W.row q'; have := pb j q; omega, (O.tb j q).2.2⟩) (fun j q => by have := W.row q; omega)
  exact kk h1 _ J.b out q1 q2
theorem l50_29_ok (O : JO B σ h0 hs J) (S : Small B n J)
    (kk : ∀ (h' : AHeap) (σ' : Nat → Tag) (c : AV), JO B σ' h0 h' ⟨J.p, J.a, J.b, c, J.L, J.H, keepM J.L J.M⟩ → JStep σ σ' hs h' → K (.tup []) h' = true) : l50_29 (callN E n) n n (.ptr J.p 0 0 0) .nilSlc (.int .i64 0) hs K = true := by
  have hlm : lim = 4611686018427387904 := rfl
  obtain ⟨s1, s2, s3, s4, s5, s6⟩ := S
  suffices H : ∀ m i h out, J.M.length - i < m → i ≤ J.M.length → Ext hs h → h.Ok → Rw hs.sz 3 (RM B h0) h out (keepM J.L (J.M.take i)) → l50_29 (callN E n) n m (.ptr J.p 0 0 0) out (.int .i64 (i : Int)) h K = true from
    H n 0 hs .nilSlc (by omega) (Nat.zero_le _) (Ext.refl _) O.ok Rw.nil
  intro m
  induction m with
  | zero => intro i h out hm; omega
  | succ m ihm =>
    intro i h out hm hi e o W
    have O' := O.ext e o
    have hle := flt_take_le (fun m : Mch => ∃ y ∈ J.L, y.m.core = m.core ∧ y.m.els = m.els) J.M i
    unfold l50_29 b50_29
    refine z_nil ?_; refine z_fadr ?_; refine z_of O'.l2 ?_; refine z_of (O'.M.len h) ?_; refine z_lss ?_
    by_cases hlt : i < J.M.length
    · refine z_ct (decide_eq_true (by omega)) ?_
      unfold p50_36
      obtain ⟨id, g, j, ee, u, R⟩ := O.M.at (List.getElem?_eq_getElem hlt)
      have RR := R
      obtain ⟨r1, r2⟩ := R.cells
      obtain ⟨ev', nv', rfl, D, lf, hb⟩ := R
      have t1 := flt_take (p := fun m : Mch => ∃ y ∈ J.L, y.m.core = m.core ∧ y.m.els = m.els) hlt
      have next : ∀ h' out', Ext hs h' → h'.Ok → Rw hs.sz 3 (RM B h0) h' out' (keepM J.L (J.M.take (i + 1))) → p50_60 (callN E n) n (fun x0 x4 x5 h => l50_29 (callN E n) n m x0 x4 x5 h K) (.ptr J.p 0 0 0) out' (.int .i64 (i : Int)) h' K = true := fun h' out' e' o' W' => by
        unfold p50_60
        refine z_of (inc64 (i := i) (by omega)) ?_
        exact ihm (i + 1) h' out' (by omega) (by omega) e' o' W'
      suffices H2 : ∀ m2 k h2 (b : Bool), J.L.length - k < m2 → k ≤ J.L.length → Ext h h2 → h2.Ok → (b = true ↔ ∃ y ∈ J.L.take k, y.m.core = J.M[i].core ∧ y.m.els = J.M[i].els) → l50_44 (callN E n) n (fun x0 x4 x5 h => l50_29 (callN E n) n m x0 x4 x5 h K) m2 (.ptr J.p 0 0 0) out (.int .i64 (i : Int)) (.bool b) (.int .i64 (k : Int)) h2 K = true from
        H2 n 0 h false (by omega) (Nat.zero_le _) (Ext.refl _) o (by simp)
      intro m2
      induction m2 with
      | zero => intro k h2 b hm2; omega
      | succ m2 ih2 =>
        intro k h2 b hm2 hk e2 o2 hb2
        have e02 := ext_two e e2
        have O2 := O.ext e02 o2
        obtain ⟨p1, p2⟩ := u h2 e02
        unfold l50_44 b50_44
        refine z_nil ?_; refine z_fadr ?_; refine z_of O2.l0 ?_; refine z_of (O2.L.len h2) ?_; refine z_lss ?_
        by_cases hkl : k < J.L.length
        · refine z_ct (decide_eq_true (by omega)) ?_
          have tk : J.L.take (k + 1) = J.L.take k ++ [J.L[k]] := by rw [List.take_succ_eq_append_getElem hkl]
          cases b with
          | true =>
            refine z_gtf ?_; refine z_gtf ?_; refine z_gtf ?_; refine z_gtf ?_; refine z_gtf ?_; refine z_gtf ?_; refine z_gtf ?_; refine z_gtf ?_; refine z_gtf ?_; refine z_gtf ?_; refine z_gtf ?_; refine z_gtf ?_; refine z_gtf ?_; refine z_gtf ?_; refine z_gtf ?_; refine z_rtf ?_; refine z_kt ?_; refine z_of (inc64 (i := k) (by omega)) ?_
            refine ih2 (k + 1) h2 true (by omega) (by omega) e2 o2 ⟨fun _ => ?_, fun _ => rfl⟩
            obtain ⟨y, hy, q⟩ := hb2.1 rfl
            exact ⟨y, by rw [tk]; exact List.mem_append_left _ hy, q⟩
          | false =>
            obtain ⟨id', g', j', ee', u', R'⟩ := O.L.at (List.getElem?_eq_getElem hkl)
            obtain ⟨p1', p2'⟩ := u' h2 e02
            obtain ⟨vv, ev, nv, rfl, D', DE, lf', hb1', hb2'⟩ := R'
            have A0 : loadA h2 true 3 (.ptr id' g' j' 2) = some (.agg [.int .i64 J.L[k].m.core, ev, nv]) := by rw [p2']; rfl
            have A1 : loadA h2 true 3 (.ptr id g j 0) = some (.agg [.int .i64 J.M[i].core, ev', nv']) := by rw [p2]; rfl
            refine z_gff ?_; refine z_some ?_; refine z_gff ?_; refine z_nil ?_; refine z_gff ?_; refine z_fadr ?_; refine z_gff ?_; refine z_of O2.l0 ?_; refine z_gff ?_; refine z_some ?_; refine z_gff ?_; refine z_of (p1' .i64) ?_; refine z_gff ?_; refine z_fadr ?_; refine z_gff ?_; refine z_of A0 ?_; refine z_gff ?_; refine z_some ?_; refine z_gff ?_; refine z_nil ?_; refine z_gff ?_; refine z_fadr ?_; refine z_gff ?_; refine z_of O2.l2 ?_; refine z_gff ?_; refine z_some ?_; refine z_gff ?_; refine z_of (p1 .i64) ?_; refine z_gff ?_; refine z_of A1 ?_; refine z_rff ?_
            obtain ⟨n, rfl⟩ : ∃ j, n = j + 3 := ⟨n - 3, by omega⟩
            have f1 : J.L.length - (k + 1) < m2 := by omega
            have f2 : k + 1 ≤ J.L.length := by omega
            have hlE : J.L[k].m.els.length ≤ szL szEl J.L[k].m.els := szL_length szEl_pos _
            refine c17 (n := n) (S := B) (DE.ext O2.e) (D.ext O2.e) lf' lf o2 (fun e he => by have := szL_mem (sz := szEl) he; have : szEl e = szVs e.vs + 1 := rfl; omega) (by omega) (by omega) (by omega) (by omega) fun h4 r e4 o4 hr => ?_
            refine z_kf ?_; refine z_of (inc64 (i := k) (by omega)) ?_
            refine ih2 (k + 1) h4 r f1 f2 (ext_two e2 e4) o4 ?_
            rw [hr, tk]
            constructor
            · intro q; exact ⟨_, List.mem_append_right _ (List.mem_singleton.2 rfl), q⟩
            · rintro ⟨y, hy, q⟩
              rcases List.mem_append.1 hy with hy | hy
              · cases hb2.2 ⟨y, hy, q⟩
              · rw [List.mem_singleton.1 hy] at q; exact q
        · refine z_cf (decide_eq_false (by omega)) ?_
          unfold p50_55
          rw [List.take_of_length_le (by omega)] at hb2
          cases b with
          | false =>
            refine z_cF ?_
            have W2 := W.ext e2
            refine next h2 out e02 o2 ?_
            unfold keepM
            rw [t1.2 fun q => by cases hb2.2 q]; exact W2
          | true =>
            have A1 : loadA h2 true 3 (.ptr id g j 0) = some (.agg [.int .i64 J.M[i].core, ev', nv']) := by rw [p2]; rfl
            refine z_cT ?_; refine z_nil ?_; refine z_fadr ?_; refine z_of O2.l2 ?_; refine z_of (p1 .i64) ?_; refine z_of A1 ?_
            refine Rw.push (bytes := 56) (x := J.M[i]) (W.ext e2) O.ok o2 e02 (by decide) rfl rfl r1 r2 RR (by unfold keepM; omega) (by decide) (by decide) fun h' out' W' e' o' => ?_
            refine next h' out' e' o' ?_
            unfold keepM
            rw [t1.1 (hb2.1 rfl)]; exact W'
    · refine z_cf (decide_eq_false (by omega)) ?_
      rw [List.take_of_length_le (by omega)] at W
      exact p50_61_ok O e o W fun h' σ' b c q1 q2 => kk h' σ' c q1 q2
theorem c50 (O : JO B σ h0 hs J) (S : Small B n J)
    (kk : ∀ (h' : AHeap) (σ' : Nat → Tag) (b c : AV), JO B σ' h0 h' ⟨J.p, J.a, b, c, J.L, keepH J.L J.H, keepM J.L J.M⟩ → JStep σ σ' hs h' → K (.tup []) h' = true) : callN E (n + 1) (.func 50) [.ptr J.p 0 0 0] hs K = true := by
  have hlm : lim = 4611686018427387904 := rfl
  have S0 := S
  obtain ⟨s1, s2, s3, s4, s5, s6⟩ := S
  apply d50
  unfold s50
  suffices H : ∀ m i h out, J.H.length - i < m → i ≤ J.H.length → Ext hs h → h.Ok → Rw hs.sz 5 (RJ B σ h0 hs) h out (keepH J.L (J.H.take i)) → l50_6 (callN E n) n m (.ptr J.p 0 0 0) out (.int .i64 (i : Int)) h K = true from
    H n 0 hs .nilSlc (by omega) (Nat.zero_le _) (Ext.refl _) O.ok Rw.nil
  intro m
  induction m with
  | zero => intro i h out hm; omega
  | succ m ihm =>
    intro i h out hm hi e o W
    have O' := O.ext e o
    have hle := flt_take_le (fun x : JE => ∃ y ∈ J.L, y.cls = x.cls ∧ y.vs = x.vs) J.H i
    unfold l50_6 b50_6
    refine z_nil ?_; refine z_fadr ?_; refine z_of O'.l1 ?_; refine z_of (O'.H.len h) ?_; refine z_lss ?_
    by_cases hlt : i < J.H.length
    · refine z_ct (decide_eq_true (by omega)) ?_
      obtain ⟨id, g, j, ee, u, R⟩ := O.H.at (List.getElem?_eq_getElem hlt)
      obtain ⟨p1, p2⟩ := u h e
      have RR := R
      obtain ⟨r1, r2⟩ := R.cells
      obtain ⟨vv, ev, nv, rfl, D, D2, lf, hb, hb2⟩ := R
      have t1 := flt_take (p := fun x : JE => ∃ y ∈ J.L, y.cls = x.cls ∧ y.vs = x.vs) hlt
      have A0 : loadA h false 1 (.ptr id g j 0) = some (.str J.H[i].cls) := by rw [p2]; rfl
      have A1 : loadA h false 1 (.ptr id g j 1) = some vv := by rw [p2]; rfl
      have next : ∀ h' out', Ext hs h' → h'.Ok → Rw hs.sz 5 (RJ B σ h0 hs) h' out' (keepH J.L (J.H.take (i + 1))) → p50_20 (callN E n) n (fun x0 x2 x3 h => l50_6 (callN E n) n m x0 x2 x3 h K) (.ptr J.p 0 0 0) out' (.int .i64 (i : Int)) h' K = true := fun h' out' e' o' W' => by
        unfold p50_20
        refine z_of (inc64 (i := i) (by omega)) ?_
        exact ihm (i + 1) h' out' (by omega) (by omega) e' o' W'
      refine z_nil ?_; refine z_fadr ?_; refine z_of O'.l1 ?_; refine z_of (p1 .i64) ?_; refine z_fadr ?_; refine z_of A0 ?_; refine z_nil ?_; refine z_fadr ?_; refine z_of O'.l1 ?_; refine z_of (p1 .i64) ?_; refine z_fadr ?_; refine z_of A1 ?_
      obtain ⟨n, rfl⟩ : ∃ j, n = j + 1 := ⟨n - 1, by omega⟩
      refine c25 (n := n) O' (D.now.ext e) (by omega) s5 (by omega) (by omega) fun h4 e4 o4 => ?_
      have e04 := ext_two e e4
      have O4 := O.ext e04 o4
      obtain ⟨p1', p2'⟩ := u h4 e04
      refine z_gtr ?_
      by_cases c0 : 0 < (ofC J.L J.H[i].cls J.H[i].vs).length
      · refine z_ct (decide_eq_true (by omega)) ?_
        have A2 : loadA h4 true 5 (.ptr id g j 0) = some (.agg [.str J.H[i].cls, vv, .int .i64 J.H[i].m.core, ev, nv]) := by rw [p2']; rfl
        refine z_nil ?_; refine z_fadr ?_; refine z_of O4.l1 ?_; refine z_of (p1' .i64) ?_; refine z_of A2 ?_
        refine Rw.push (bytes := 96) (x := J.H[i]) (W.ext e4) O.ok o4 e04 (by decide) rfl rfl r1 r2 RR (by unfold keepH; omega) (by decide) (by decide) fun h' out' W' e' o' => ?_
        refine next h' out' e' o' ?_
        unfold keepH
        rw [t1.1 (ofC_pos.1 c0)]; exact W'
      · refine z_cf (decide_eq_false (by omega)) ?_
        refine next h4 out e04 o4 ?_
        unfold keepH
        rw [t1.2 fun q => c0 (ofC_pos.2 q)]; exact W.ext e4
    · refine z_cf (decide_eq_false (by omega)) ?_
      rw [List.take_of_length_le (by omega)] at W
      unfold p50_21
      obtain ⟨h1, w1, V1, w3, o1, w5⟩ := O'.var.wr o (off := 1) (v := out) (show 1 < 3 by decide) W.leaf
      refine z_nil ?_; refine z_fadr ?_
      refine z_u w1 ?_
      have V1 : Var h1 J.p [J.a, out, J.c] := V1
      have lp := O.var.lt O.ok
      have f : Fr (fun j => σ j = .jus) hs h1 := (Fr.of_ext e).trans (Fr.of_but O.tp w3)
      have rj : ∀ e x, RJ B σ h0 hs e x → RJ B (tagJ σ J.a out J.c) h0 h1 e x := fun e x R => R.fr f (fun j q => by rw [q]; exact fun q => by cases q) fun j hj => by
        by_cases q : inRow J.a j ∨ inRow out j ∨ inRow J.c j
        · rw [tagJ_in q]
          rcases q with q | q | q
          · exact (O.ta j q).1.symm
          · have := W.row q; omega
          · exact (O.tc j q).1.symm
        · exact tagJ_out q
      have pa : ∀ j, inRow J.a j → j < hs.sz := fun j q => O.L.lt O.ok q
      have pc : ∀ j, inRow J.c j → j < hs.sz := fun j q => O.M.lt O.ok q
      obtain ⟨q1, q2⟩ := O.put (h1 := h1) (a := J.a) (b := out) (c := J.c) (L := J.L) (H := keepH J.L J.H) (M := J.M) f o1 V1
        (((O.L.ext e).fr (Fr.of_but (X := fun j => j = J.p) rfl w3) fun j q => (O.ta j q).2.2.2).mono rj)
        (((W.fr (Fr.of_but (X := fun j => j = J.p) rfl w3) fun j q => by have := W.row q; omega).low).mono rj)
        ((O.M.ext e).fr (Fr.of_but (X := fun j => j = J.p) rfl w3) fun j q => (O.tc j q).2)
        (fun j q => .inl (O.ta j q).1) (fun j q => .inr (W.row q)) (fun j q => .inl (O.tc j q).1)
        (fun j q => ⟨fun q' => by have := W.row q'; have := pa j q; omega, (O.ta j q).2.2.1, (O.ta j q).2.2.2⟩)
        (fun j q => ⟨fun q' => by have := W.row q; have := pc j q'; omega, by have := W.row q; omega⟩) (fun j q => (O.tc j q).2)
      refine l50_29_ok (J := ⟨J.p, J.a, out, J.c, J.L, keepH J.L J.H, J.M⟩) q1 ⟨s1, show (keepH J.L J.H).length < 1000 from Nat.lt_of_le_of_lt (flt_len (fun x : JE => ∃ y ∈ J.L, y.cls = x.cls ∧ y.vs = x.vs) J.H) s2, s3, s4, s5, s6⟩ fun h' σ' c r1 r2 => ?_
      exact kk h' σ' _ c r1 (q2.trans O.ok r2)
end
end Go.Proofs.Ytbamgdknkhhikaa
namespace Go.Proofs.Ytbamgdknkhhikaa
open Go.Ab
set_option linter.unusedSimpArgs false
set_option linter.unusedVariables false
noncomputable def lessM (L : List JE) (core : Int) (els : List Elm) : List JE := flt (fun y => ¬ (y.m.core = core ∧ y.m.els = els)) L
noncomputable def lessC (L : List JE) (cls : Str) (l : List Val) : List JE := flt (fun y => ¬ (y.cls = cls ∧ y.vs = l)) L
section
variable {B : Nat} {σ : Nat → Tag} {h0 hs : AHeap} {J : JD} {n : Nat} {K : Kont}
theorem p18_23_ok {out : AV} {L : List JE} (O : JO B σ h0 hs J) (S : Small B n J) {h : AHeap} (e : Ext hs h) (o : h.Ok) (W : Rw hs.sz 5 (RJ B σ h0 hs) h out L) (hL : L.length ≤ J.L.length)
    (kk : ∀ (h' : AHeap) (σ' : Nat → Tag) (a b c : AV), JO B σ' h0 h' ⟨J.p, a, b, c, L, keepH L J.H, keepM L J.M⟩ → JStep σ σ' hs h' → K (.int .i64 ((J.L.length : Int) - (L.length : Int))) h' = true) :
    p18_23 (callN E (n + 1)) (n + 1) (.ptr J.p 0 0 0) out h K = true := by
  have O' := O.ext e o
  obtain ⟨s1, s2, s3, s4, s5, s6⟩ := S
  unfold p18_23
  refine z_nil ?_; refine z_fadr ?_; refine z_of O'.l0 ?_; refine z_of (O'.L.len h) ?_; refine z_of (W.len h) ?_; refine z_of (sub64 (a := (J.L.length : Int)) (b := (L.length : Int)) (by omega) (by omega)) ?_; refine z_nil ?_; refine z_fadr ?_
  obtain ⟨h1, w1, V1, w3, o1, w5⟩ := O'.var.wr o (off := 0) (v := out) (show 0 < 3 by decide) W.leaf
  refine z_u w1 ?_
  have V1 : Var h1 J.p [out, J.b, J.c] := V1
  have lp := O.var.lt O.ok
  have f : Fr (fun j => σ j = .jus) hs h1 := (Fr.of_ext e).trans (Fr.of_but O.tp w3)
  have rj : ∀ e x, RJ B σ h0 hs e x → RJ B (tagJ σ out J.b J.c) h0 h1 e x := fun e x R => R.fr f (fun j q => by rw [q]; exact fun q => by cases q) fun j hj => by
    by_cases q : inRow out j ∨ inRow J.b j ∨ inRow J.c j
    · rw [tagJ_in q]
      rcases q with q | q | q
      · have := W.row q; omega
      · exact (O.tb j q).1.symm
      · exact (O.tc j q).1.symm
    · exact tagJ_out q
  have pb : ∀ j, inRow J.b j → j < hs.sz := fun j q => O.H.lt O.ok q
  have pc : ∀ j, inRow J.c j → j < hs.sz := fun j q => O.M.lt O.ok q
  obtain ⟨q1, q2⟩ := O.put (h1 := h1) (a := out) (b := J.b) (c := J.c) (L := L) (H := J.H) (M := J.M) f o1 V1
    (((W.fr (Fr.of_but (X := fun j => j = J.p) rfl w3) fun j q => by have := W.row q; omega).low).mono rj)
    (((O.H.ext e).fr (Fr.of_but (X := fun j => j = J.p) rfl w3) fun j q => (O.tb j q).2.2).mono rj)
    ((O.M.ext e).fr (Fr.of_but (X := fun j => j = J.p) rfl w3) fun j q => (O.tc j q).2)
    (fun j q => .inr (W.row q)) (fun j q => .inl (O.tb j q).1) (fun j q => .inl (O.tc j q).1)
    (fun j q => ⟨fun q' => by have := W.row q; have := pb j q'; omega, fun q' => by have := W.row q; have := pc j q'; omega, by have := W.row q; omega⟩)
    (fun j q => ⟨(O.tb j q).2.1, (O.tb j q).2.2⟩) (fun j q => (O.tc j q).2)
  refine c50 (J := ⟨J.p, out, J.b, J.c, L, J.H, J.M⟩) q1 ⟨by show L.length < 1000; omega, s2, s3, s4, s5, s6⟩ fun h' σ' b c r1 r2 => ?_
  exact kk h' σ' _ b c r1 (q2.trans O.ok r2)
theorem p20_23_eq {call : CallFn} {x0 x7 : AV} {h : AHeap} : p20_23 call n x0 x7 h K = p18_23 call n x0 x7 h K := rfl
theorem c18 {core : Int} {ev nv : AV} {els : List Elm} (O : JO B σ h0 hs J) (S : Small B n J) (V : EV hs ev els) (hnv : nv.leaf = true)
    (kk : ∀ (h' : AHeap) (σ' : Nat → Tag) (a b c : AV), JO B σ' h0 h' ⟨J.p, a, b, c, lessM J.L core els, keepH (lessM J.L core els) J.H, keepM (lessM J.L core els) J.M⟩ → JStep σ σ' hs h' → K (.int .i64 ((J.L.length : Int) - ((lessM J.L core els).length : Int))) h' = true) :
    callN E (n + 2) (.func 18) [.ptr J.p 0 0 0, .agg [.int .i64 core, ev, nv]] hs K = true := by
  have hlm : lim = 4611686018427387904 := rfl
  have S0 := S
  obtain ⟨s1, s2, s3, s4, s5, s6⟩ := S
  apply d18
  unfold s18
  obtain ⟨h1, q1, V1, e1, o1, z1⟩ := box_v (n := 3) (v := .agg [.int .i64 core, ev, nv]) O.ok rfl (by decide) (by simp only [AV.cells, allLeaf, V.leaf, hnv]; rfl)
  have V1 : Var h1 hs.sz [.int .i64 core, ev, nv] := V1
  refine z_p q1 ?_
  suffices H : ∀ m i h out, J.L.length - i < m → i ≤ J.L.length → Ext h1 h → h.Ok → Rw h1.sz 5 (RJ B σ h0 hs) h out (lessM (J.L.take i) core els) → l18_8 (callN E (n + 1)) (n + 1) m (.ptr J.p 0 0 0) (.ptr hs.sz 0 0 0) out (.int .i64 (i : Int)) h K = true from
    H (n + 1) 0 h1 .nilSlc (by omega) (Nat.zero_le _) (Ext.refl _) o1 Rw.nil
  intro m
  induction m with
  | zero => intro i h out hm; omega
  | succ m ihm =>
    intro i h out hm hi e o W
    have e0 := ext_two e1 e
    have O' := O.ext e0 o
    have hle := flt_take_le (fun y : JE => ¬ (y.m.core = core ∧ y.m.els = els)) J.L i
    unfold l18_8 b18_8
    refine z_nil ?_; refine z_fadr ?_; refine z_of O'.l0 ?_; refine z_of (O'.L.len h) ?_; refine z_lss ?_
    by_cases hlt : i < J.L.length
    · refine z_ct (decide_eq_true (by omega)) ?_
      obtain ⟨id, g, j, ee, u, R⟩ := O.L.at (List.getElem?_eq_getElem hlt)
      obtain ⟨p1, p2⟩ := u h e0
      have RR := R
      obtain ⟨r1, r2⟩ := R.cells
      obtain ⟨vv, ev', nv', rfl, D, DE, lf, hb, hb2⟩ := R
      have t1 := flt_take (p := fun y : JE => ¬ (y.m.core = core ∧ y.m.els = els)) hlt
      have A0 : loadA h true 3 (.ptr id g j 2) = some (.agg [.int .i64 J.L[i].m.core, ev', nv']) := by rw [p2]; rfl
      have A1 : loadA h true 3 (.ptr hs.sz 0 0 0) = some (.agg [.int .i64 core, ev, nv]) := (V1.ext e).all rfl
      have next : ∀ h' out', Ext h1 h' → h'.Ok → Rw h1.sz 5 (RJ B σ h0 hs) h' out' (lessM (J.L.take (i + 1)) core els) → p18_22 (callN E (n + 1)) (n + 1) (fun x0 x3 x5 x6 h => l18_8 (callN E (n + 1)) (n + 1) m x0 x3 x5 x6 h K) (.ptr J.p 0 0 0) (.ptr hs.sz 0 0 0) out' (.int .i64 (i : Int)) h' K = true := fun h' out' e' o' W' => by
        unfold p18_22
        refine z_of (inc64 (i := i) (by omega)) ?_
        exact ihm (i + 1) h' out' (by omega) (by omega) e' o' W'
      refine z_nil ?_; refine z_fadr ?_; refine z_of O'.l0 ?_; refine z_of (p1 .i64) ?_; refine z_fadr ?_; refine z_of A0 ?_; refine z_of A1 ?_
      obtain ⟨n, rfl⟩ : ∃ j, n = j + 2 := ⟨n - 2, by omega⟩
      have hlE : J.L[i].m.els.length ≤ szL szEl J.L[i].m.els := szL_length szEl_pos _
      refine c17 (n := n) (S := B) (DE.ext O'.e) (V.ext e0) lf hnv o (fun e he => by have := szL_mem (sz := szEl) he; have : szEl e = szVs e.vs + 1 := rfl; omega) (by omega) (by omega) (by omega) (by omega) fun h4 r e4 o4 hr => ?_
      have e04 := ext_two e0 e4
      have O4 := O.ext e04 o4
      cases r with
      | true =>
        refine z_notT ?_; refine z_cF ?_
        refine next h4 out (ext_two e e4) o4 ?_
        unfold lessM
        rw [t1.2 fun q => q (hr.1 rfl)]; exact W.ext e4
      | false =>
        refine z_notF ?_; refine z_cT ?_; refine z_nil ?_; refine z_fadr ?_
        obtain ⟨p1', p2'⟩ := u h4 e04
        have A2 : loadA h4 true 5 (.ptr id g j 0) = some (.agg [.str J.L[i].cls, vv, .int .i64 J.L[i].m.core, ev', nv']) := by rw [p2']; rfl
        refine z_of O4.l0 ?_; refine z_of (p1' .i64) ?_; refine z_of A2 ?_
        refine Rw.push (bytes := 96) (x := J.L[i]) (W.ext e4) o1 o4 (ext_two e e4) (by decide) rfl rfl r1 r2 RR (by unfold lessM; omega) (by decide) (by decide) fun h' out' W' e' o' => ?_
        refine next h' out' e' o' ?_
        unfold lessM
        rw [t1.1 fun q => by cases hr.2 q]; exact W'
    · refine z_cf (decide_eq_false (by omega)) ?_
      rw [List.take_of_length_le (by omega)] at W
      exact p18_23_ok O ⟨s1, s2, s3, by omega, s5, by omega⟩ e0 o (W.down e1.1) (flt_len _ _) kk
theorem c20 {cls : Str} {v : AV} {l : List Val} (O : JO B σ h0 hs J) (S : Small B n J) (V : VV hs v l)
    (kk : ∀ (h' : AHeap) (σ' : Nat → Tag) (a b c : AV), JO B σ' h0 h' ⟨J.p, a, b, c, lessC J.L cls l, keepH (lessC J.L cls l) J.H, keepM (lessC J.L cls l) J.M⟩ → JStep σ σ' hs h' → K (.int .i64 ((J.L.length : Int) - ((lessC J.L cls l).length : Int))) h' = true) :
    callN E (n + 2) (.func 20) [.ptr J.p 0 0 0, .str cls, v] hs K = true := by
  have hlm : lim = 4611686018427387904 := rfl
  obtain ⟨s1, s2, s3, s4, s5, s6⟩ := S
  apply d20
  unfold s20
  suffices H : ∀ m i h out, J.L.length - i < m → i ≤ J.L.length → Ext hs h → h.Ok → Rw hs.sz 5 (RJ B σ h0 hs) h out (lessC (J.L.take i) cls l) → l20_8 (callN E (n + 1)) (n + 1) m (.ptr J.p 0 0 0) (.str cls) v out (.int .i64 (i : Int)) h K = true from
    H (n + 1) 0 hs .nilSlc (by omega) (Nat.zero_le _) (Ext.refl _) O.ok Rw.nil
  intro m
  induction m with
  | zero => intro i h out hm; omega
  | succ m ihm =>
    intro i h out hm hi e o W
    have O' := O.ext e o
    have hle := flt_take_le (fun y : JE => ¬ (y.cls = cls ∧ y.vs = l)) J.L i
    unfold l20_8 b20_8
    refine z_nil ?_; refine z_fadr ?_; refine z_of O'.l0 ?_; refine z_of (O'.L.len h) ?_; refine z_lss ?_
    by_cases hlt : i < J.L.length
    · refine z_ct (decide_eq_true (by omega)) ?_
      obtain ⟨id, g, j, ee, u, R⟩ := O.L.at (List.getElem?_eq_getElem hlt)
      obtain ⟨p1, p2⟩ := u h e
      have RR := R
      obtain ⟨r1, r2⟩ := R.cells
      obtain ⟨vv, ev', nv', rfl, D, DE, lf, hb, hb2⟩ := R
      have t1 := flt_take (p := fun y : JE => ¬ (y.cls = cls ∧ y.vs = l)) hlt
      have A0 : loadA h false 1 (.ptr id g j 0) = some (.str J.L[i].cls) := by rw [p2]; rfl
      have A1 : loadA h false 1 (.ptr id g j 1) = some vv := by rw [p2]; rfl
      have next : ∀ h' out', Ext hs h' → h'.Ok → Rw hs.sz 5 (RJ B σ h0 hs) h' out' (lessC (J.L.take (i + 1)) cls l) → p20_22 (callN E (n + 1)) (n + 1) (fun x0 x1 x2 x7 x8 h => l20_8 (callN E (n + 1)) (n + 1) m x0 x1 x2 x7 x8 h K) (.ptr J.p 0 0 0) (.str cls) v out' (.int .i64 (i : Int)) h' K = true := fun h' out' e' o' W' => by
        unfold p20_22
        refine z_of (inc64 (i := i) (by omega)) ?_
        exact ihm (i + 1) h' out' (by omega) (by omega) e' o' W'
      have add : ∀ h4, Ext h h4 → h4.Ok → ¬ (J.L[i].cls = cls ∧ J.L[i].vs = l) → optB (nilckA (.ptr J.p 0 0 0)) (fun v25 => optB (fadrA 0 v25) fun v26 => optB (loadA h4 false 1 v26) fun v27 => optB (iadrA h4 5 v27 (.int .i64 (i : Int))) fun v28 => optB (loadA h4 true 5 v28) fun v29 => optP (bsliceV h4 1 5 [.str [], .nilSlc, .int .i64 0, .nilSlc, .nilSlc] [(0, v29)]) fun v30 h => optP (appendA h 5 96 out v30) fun v31 h => p20_22 (callN E (n + 1)) (n + 1) (fun x0 x1 x2 x7 x8 h => l20_8 (callN E (n + 1)) (n + 1) m x0 x1 x2 x7 x8 h K) (.ptr J.p 0 0 0) (.str cls) v v31 (.int .i64 (i : Int)) h K) = true := fun h4 e4 o4 hne => by
        have e04 := ext_two e e4
        have O4 := O.ext e04 o4
        obtain ⟨p1', p2'⟩ := u h4 e04
        have A2 : loadA h4 true 5 (.ptr id g j 0) = some (.agg [.str J.L[i].cls, vv, .int .i64 J.L[i].m.core, ev', nv']) := by rw [p2']; rfl
        refine z_nil ?_; refine z_fadr ?_; refine z_of O4.l0 ?_; refine z_of (p1' .i64) ?_; refine z_of A2 ?_
        refine Rw.push (bytes := 96) (x := J.L[i]) (W.ext e4) O.ok o4 e04 (by decide) rfl rfl r1 r2 RR (by unfold lessC; omega) (by decide) (by decide) fun h' out' W' e' o' => ?_
        refine next h' out' e' o' ?_
        unfold lessC
        rw [t1.1 hne]; exact W'
      refine z_nil ?_; refine z_fadr ?_; refine z_of O'.l0 ?_; refine z_of (p1 .i64) ?_; refine z_fadr ?_; refine z_of A0 ?_; refine z_sne ?_
      by_cases c0 : J.L[i].cls = cls
      · rw [decide_eq_true c0, Bool.not_true]
        refine z_gff ?_; refine z_some ?_; refine z_gff ?_; refine z_nil ?_; refine z_gff ?_; refine z_fadr ?_; refine z_gff ?_; refine z_of O'.l0 ?_; refine z_gff ?_; refine z_some ?_; refine z_gff ?_; refine z_of (p1 .i64) ?_; refine z_gff ?_; refine z_fadr ?_; refine z_gff ?_; refine z_of A1 ?_; refine z_gff ?_; refine z_some ?_; refine z_rff ?_
        refine c27 B n (D.now.ext e) (V.ext e) o hb (by omega) (by omega) (by omega) fun h4 r e4 o4 hr => ?_
        cases r with
        | true =>
          refine z_gff ?_; refine z_notT ?_; refine z_kf ?_; refine z_cF ?_
          refine next h4 out (ext_two e e4) o4 ?_
          unfold lessC
          rw [t1.2 fun q => q ⟨c0, hr.1 rfl⟩]; exact W.ext e4
        | false =>
          refine z_gff ?_; refine z_notF ?_; refine z_kf ?_; refine z_cT ?_; refine z_nil ?_; refine z_fadr ?_
          exact add h4 e4 o4 fun q => by cases hr.2 q.2
      · rw [decide_eq_false c0, Bool.not_false]
        refine z_gtf ?_; refine z_gtf ?_; refine z_gtf ?_; refine z_gtf ?_; refine z_gtf ?_; refine z_gtf ?_; refine z_gtf ?_; refine z_gtf ?_; refine z_gtf ?_; refine z_rtf ?_; refine z_gtf ?_; refine z_kt ?_; refine z_cT ?_; refine z_nil ?_; refine z_fadr ?_
        exact add h (Ext.refl _) o fun q => c0 q.1
    · refine z_cf (decide_eq_false (by omega)) ?_
      rw [List.take_of_length_le (by omega)] at W
      rw [p20_23_eq]
      exact p18_23_ok O ⟨s1, s2, s3, by omega, s5, by omega⟩ e o W (flt_len _ _) kk
end
end Go.Proofs.Ytbamgdknkhhikaa
namespace Go.Proofs.Ytbamgdknkhhikaa
open Go.Ab
set_option linter.unusedSimpArgs false
set_option linter.unusedVariables false
section
variable {B : Nat} {σ : Nat → Tag} {h0 hs h : AHeap} {J : JD} {n : Nat}
theorem JO.pushL (O : JO B σ h0 hs J) (e : Ext hs h) (o : h.Ok) {x : JE} {ee : List AV} (hx : RJ B σ h0 h ee x) (hl : J.L.length < 1000) {K' : AHeap → Bool}
    (kk : ∀ (h3 : AHeap) (σ' : Nat → Tag) (a' : AV), JO B σ' h0 h3 ⟨J.p, a', J.b, J.c, J.L ++ [x], J.H, J.M⟩ → JStep σ σ' hs h3 → Fr (fun j => σ j = .jus) h h3 → K' h3 = true) :
    (optP (bsliceV h 1 5 [.str [], .nilSlc, .int .i64 0, .nilSlc, .nilSlc] [(0, .agg ee)]) fun w h => sameB (loadA h false 1 (.ptr J.p 0 0 0)) J.a <| optP (appendA h 5 96 J.a w) fun v h => optB (nilckA (.ptr J.p 0 0 0)) fun v75 => optB (fadrA 0 v75) fun v76 => optP (unit (storeA h 1 v76 v)) fun _ h => K' h) = true := by
  have hmo : most = 1099511627776 := rfl
  obtain ⟨r1, r2⟩ := hx.cells
  obtain ⟨w, h1, b1, b2, e1, o1, z1, _⟩ := bslice1_v (sz := 5) (z := [.str [], .nilSlc, .int .i64 0, .nilSlc, .nilSlc]) (v := .agg ee) o rfl (by decide) (by decide) rfl r1 r2
  have b2 : View h1 5 w [ee] := b2
  refine z_p b1 ?_
  have e01 := ext_two e e1
  have O1 := O.ext e01 o1
  refine z_same O1.l0 (let ⟨es, w, a⟩ := O.L; w.view.same) ?_
  obtain ⟨es, wO, al⟩ := O.L
  have hal := al.length
  obtain ⟨a', h2, a1, a2, a3, a4, a5⟩ := own_app (bytes := 96) (wO.ext e01) (by decide) o1 b2.src (by rw [hal]; simp; omega) (by rw [hal]; simp; omega)
  refine z_p a1 ?_
  refine z_nil ?_; refine z_fadr ?_
  have lp := O.var.lt O.ok
  obtain ⟨h3, w1, V3, w3, o3, w5⟩ := (a4.var (O.var.ext e01) fun q => (O.ta _ q).2.2.2 rfl).wr a3 (off := 0) (v := a') (show 0 < 3 by decide) a2.view.leaf
  refine z_u w1 ?_
  have V3 : Var h3 J.p [a', J.b, J.c] := V3
  have f2 : Fr (fun j => σ j = .jus) h h3 := ((Fr.of_ext e1).trans (a4.mono fun j q => (O.ta j q).1)).trans (Fr.of_but O.tp w3)
  have f : Fr (fun j => σ j = .jus) hs h3 := (Fr.of_ext e).trans f2
  have rows : ∀ j, inRow a' j → inRow J.a j ∨ h.sz ≤ j := fun j q => by
    rcases a5 j q with q | q
    · exact .inl q
    · have := e1.1; exact .inr (by omega)
  have s0 := e.1
  have old : ∀ j, j < h.sz → tagJ σ a' J.b J.c j = σ j := fun j hj => by
    by_cases q : inRow a' j ∨ inRow J.b j ∨ inRow J.c j
    · rw [tagJ_in q]
      rcases q with q | q | q
      · rcases rows j q with q | q
        · exact (O.ta j q).1.symm
        · omega
      · exact (O.tb j q).1.symm
      · exact (O.tc j q).1.symm
    · exact tagJ_out q
  have ne : ∀ j, (fun j => σ j = Tag.jus) j → σ j ≠ .out := fun j q => by rw [show σ j = .jus from q]; exact fun q => by cases q
  have rj : ∀ e x, RJ B σ h0 hs e x → RJ B (tagJ σ a' J.b J.c) h0 h3 e x := fun e x R => R.fr f ne fun j hj => old j (by omega)
  have pb : ∀ j, inRow J.b j → j < hs.sz := fun j q => O.H.lt O.ok q
  have pc : ∀ j, inRow J.c j → j < hs.sz := fun j q => O.M.lt O.ok q
  have np : ∀ j, inRow a' j → j ≠ J.p := fun j q => by
    rcases rows j q with q | q
    · exact (O.ta j q).2.2.2
    · omega
  have fb : Fr (inRow J.a) hs h2 := (Fr.of_ext e01).trans a4
  obtain ⟨q1, q2⟩ := O.put (h1 := h3) (a := a') (b := J.b) (c := J.c) (L := J.L ++ [x]) (H := J.H) (M := J.M) f o3 V3
    ⟨es ++ [ee], Own.fr a2 (Fr.of_but (X := fun j => j = J.p) rfl w3) np, (al.mono rj).append (.cons (hx.fr f2 ne old) .nil)⟩
    (((O.H.fr fb fun j q q' => (O.ta j q').2.1 q).fr (Fr.of_but (X := fun j => j = J.p) rfl w3) fun j q => (O.tb j q).2.2).mono rj)
    ((O.M.fr fb fun j q q' => (O.ta j q').2.2.1 q).fr (Fr.of_but (X := fun j => j = J.p) rfl w3) fun j q => (O.tc j q).2)
    (fun j q => by
      rcases rows j q with q | q
      · exact .inl (O.ta j q).1
      · exact .inr (by omega)) (fun j q => .inl (O.tb j q).1) (fun j q => .inl (O.tc j q).1)
    (fun j q => ⟨fun q' => by
        rcases rows j q with q | q
        · exact (O.ta j q).2.1 q'
        · have := pb j q'; omega, fun q' => by
        rcases rows j q with q | q
        · exact (O.ta j q).2.2.1 q'
        · have := pc j q'; omega, np j q⟩)
    (fun j q => ⟨(O.tb j q).2.1, (O.tb j q).2.2⟩) (fun j q => (O.tc j q).2)
  exact kk h3 _ a' q1 q2 f2
theorem JO.pushH (O : JO B σ h0 hs J) (e : Ext hs h) (o : h.Ok) {x : JE} {ee : List AV} (hx : RJ B σ h0 h ee x) (hl : J.H.length < 1000) {K' : AHeap → Bool}
    (kk : ∀ (h3 : AHeap) (σ' : Nat → Tag) (b' : AV), JO B σ' h0 h3 ⟨J.p, J.a, b', J.c, J.L, J.H ++ [x], J.M⟩ → JStep σ σ' hs h3 → Fr (fun j => σ j = .jus) h h3 → K' h3 = true) :
    (optP (bsliceV h 1 5 [.str [], .nilSlc, .int .i64 0, .nilSlc, .nilSlc] [(0, .agg ee)]) fun w h => sameB (loadA h false 1 (.ptr J.p 0 0 1)) J.b <| optP (appendA h 5 96 J.b w) fun v h => optB (nilckA (.ptr J.p 0 0 0)) fun v75 => optB (fadrA 1 v75) fun v76 => optP (unit (storeA h 1 v76 v)) fun _ h => K' h) = true := by
  have hmo : most = 1099511627776 := rfl
  obtain ⟨r1, r2⟩ := hx.cells
  obtain ⟨w, h1, b1, b2, e1, o1, z1, _⟩ := bslice1_v (sz := 5) (z := [.str [], .nilSlc, .int .i64 0, .nilSlc, .nilSlc]) (v := .agg ee) o rfl (by decide) (by decide) rfl r1 r2
  have b2 : View h1 5 w [ee] := b2
  refine z_p b1 ?_
  have e01 := ext_two e e1
  have O1 := O.ext e01 o1
  refine z_same O1.l1 (let ⟨es, w, a⟩ := O.H; w.view.same) ?_
  obtain ⟨es, wO, al⟩ := O.H
  have hal := al.length
  obtain ⟨a', h2, a1, a2, a3, a4, a5⟩ := own_app (bytes := 96) (wO.ext e01) (by decide) o1 b2.src (by rw [hal]; simp; omega) (by rw [hal]; simp; omega)
  refine z_p a1 ?_
  refine z_nil ?_; refine z_fadr ?_
  have lp := O.var.lt O.ok
  obtain ⟨h3, w1, V3, w3, o3, w5⟩ := (a4.var (O.var.ext e01) fun q => (O.tb _ q).2.2 rfl).wr a3 (off := 1) (v := a') (show 1 < 3 by decide) a2.view.leaf
  refine z_u w1 ?_
  have V3 : Var h3 J.p [J.a, a', J.c] := V3
  have f2 : Fr (fun j => σ j = .jus) h h3 := ((Fr.of_ext e1).trans (a4.mono fun j q => (O.tb j q).1)).trans (Fr.of_but O.tp w3)
  have f : Fr (fun j => σ j = .jus) hs h3 := (Fr.of_ext e).trans f2
  have rows : ∀ j, inRow a' j → inRow J.b j ∨ h.sz ≤ j := fun j q => by
    rcases a5 j q with q | q
    · exact .inl q
    · have := e1.1; exact .inr (by omega)
  have s0 := e.1
  have old : ∀ j, j < h.sz → tagJ σ J.a a' J.c j = σ j := fun j hj => by
    by_cases q : inRow J.a j ∨ inRow a' j ∨ inRow J.c j
    · rw [tagJ_in q]
      rcases q with q | q | q
      · exact (O.ta j q).1.symm
      · rcases rows j q with q | q
        · exact (O.tb j q).1.symm
        · omega
      · exact (O.tc j q).1.symm
    · exact tagJ_out q
  have ne : ∀ j, (fun j => σ j = Tag.jus) j → σ j ≠ .out := fun j q => by rw [show σ j = .jus from q]; exact fun q => by cases q
  have rj : ∀ e x, RJ B σ h0 hs e x → RJ B (tagJ σ J.a a' J.c) h0 h3 e x := fun e x R => R.fr f ne fun j hj => old j (by omega)
  have pa : ∀ j, inRow J.a j → j < hs.sz := fun j q => O.L.lt O.ok q
  have pc : ∀ j, inRow J.c j → j < hs.sz := fun j q => O.M.lt O.ok q
  have np : ∀ j, inRow a' j → j ≠ J.p := fun j q => by
    rcases rows j q with q | q
    · exact (O.tb j q).2.2
    · omega
  have fb : Fr (inRow J.b) hs h2 := (Fr.of_ext e01).trans a4
  obtain ⟨q1, q2⟩ := O.put (h1 := h3) (a := J.a) (b := a') (c := J.c) (L := J.L) (H := J.H ++ [x]) (M := J.M) f o3 V3
    (((O.L.fr fb fun j q q' => (O.ta j q).2.1 q').fr (Fr.of_but (X := fun j => j = J.p) rfl w3) fun j q => (O.ta j q).2.2.2).mono rj)
    ⟨es ++ [ee], Own.fr a2 (Fr.of_but (X := fun j => j = J.p) rfl w3) np, (al.mono rj).append (.cons (hx.fr f2 ne old) .nil)⟩
    ((O.M.fr fb fun j q q' => (O.tb j q').2.1 q).fr (Fr.of_but (X := fun j => j = J.p) rfl w3) fun j q => (O.tc j q).2)
    (fun j q => .inl (O.ta j q).1)
    (fun j q => by
      rcases rows j q with q | q
      · exact .inl (O.tb j q).1
      · exact .inr (by omega)) (fun j q => .inl (O.tc j q).1)
    (fun j q => ⟨fun q' => by
        rcases rows j q' with q' | q'
        · exact (O.ta j q).2.1 q'
        · have := pa j q; omega, (O.ta j q).2.2.1, (O.ta j q).2.2.2⟩)
    (fun j q => ⟨fun q' => by
        rcases rows j q with q | q
        · exact (O.tb j q).2.1 q'
        · have := pc j q'; omega, np j q⟩) (fun j q => (O.tc j q).2)
  exact kk h3 _ a' q1 q2 f2
theorem JO.pushM (O : JO B σ h0 hs J) (e : Ext hs h) (o : h.Ok) {x : Mch} {ee : List AV} (hx : RM B h0 ee x) (hl : J.M.length < 1000) {K' : AHeap → Bool}
    (kk : ∀ (h3 : AHeap) (σ' : Nat → Tag) (c' : AV), JO B σ' h0 h3 ⟨J.p, J.a, J.b, c', J.L, J.H, J.M ++ [x]⟩ → JStep σ σ' hs h3 → Fr (fun j => σ j = .jus) h h3 → K' h3 = true) :
    (optP (bsliceV h 1 3 [.int .i64 0, .nilSlc, .nilSlc] [(0, .agg ee)]) fun w h => sameB (loadA h false 1 (.ptr J.p 0 0 2)) J.c <| optP (appendA h 3 56 J.c w) fun v h => optB (nilckA (.ptr J.p 0 0 0)) fun v75 => optB (fadrA 2 v75) fun v76 => optP (unit (storeA h 1 v76 v)) fun _ h => K' h) = true := by
  have hmo : most = 1099511627776 := rfl
  obtain ⟨r1, r2⟩ := hx.cells
  obtain ⟨w, h1, b1, b2, e1, o1, z1, _⟩ := bslice1_v (sz := 3) (z := [.int .i64 0, .nilSlc, .nilSlc]) (v := .agg ee) o rfl (by decide) (by decide) rfl r1 r2
  have b2 : View h1 3 w [ee] := b2
  refine z_p b1 ?_
  have e01 := ext_two e e1
  have O1 := O.ext e01 o1
  refine z_same O1.l2 (let ⟨es, w, a⟩ := O.M; w.view.same) ?_
  obtain ⟨es, wO, al⟩ := O.M
  have hal := al.length
  obtain ⟨a', h2, a1, a2, a3, a4, a5⟩ := own_app (bytes := 56) (wO.ext e01) (by decide) o1 b2.src (by rw [hal]; simp; omega) (by rw [hal]; simp; omega)
  refine z_p a1 ?_
  refine z_nil ?_; refine z_fadr ?_
  have lp := O.var.lt O.ok
  obtain ⟨h3, w1, V3, w3, o3, w5⟩ := (a4.var (O.var.ext e01) fun q => (O.tc _ q).2 rfl).wr a3 (off := 2) (v := a') (show 2 < 3 by decide) a2.view.leaf
  refine z_u w1 ?_
  have V3 : Var h3 J.p [J.a, J.b, a'] := V3
  have f2 : Fr (fun j => σ j = .jus) h h3 := ((Fr.of_ext e1).trans (a4.mono fun j q => (O.tc j q).1)).trans (Fr.of_but O.tp w3)
  have f : Fr (fun j => σ j = .jus) hs h3 := (Fr.of_ext e).trans f2
  have rows : ∀ j, inRow a' j → inRow J.c j ∨ h.sz ≤ j := fun j q => by
    rcases a5 j q with q | q
    · exact .inl q
    · have := e1.1; exact .inr (by omega)
  have s0 := e.1
  have old : ∀ j, j < h.sz → tagJ σ J.a J.b a' j = σ j := fun j hj => by
    by_cases q : inRow J.a j ∨ inRow J.b j ∨ inRow a' j
    · rw [tagJ_in q]
      rcases q with q | q | q
      · exact (O.ta j q).1.symm
      · exact (O.tb j q).1.symm
      · rcases rows j q with q | q
        · exact (O.tc j q).1.symm
        · omega
    · exact tagJ_out q
  have ne : ∀ j, (fun j => σ j = Tag.jus) j → σ j ≠ .out := fun j q => by rw [show σ j = .jus from q]; exact fun q => by cases q
  have rj : ∀ e x, RJ B σ h0 hs e x → RJ B (tagJ σ J.a J.b a') h0 h3 e x := fun e x R => R.fr f ne fun j hj => old j (by omega)
  have pa : ∀ j, inRow J.a j → j < hs.sz := fun j q => O.L.lt O.ok q
  have pb : ∀ j, inRow J.b j → j < hs.sz := fun j q => O.H.lt O.ok q
  have np : ∀ j, inRow a' j → j ≠ J.p := fun j q => by
    rcases rows j q with q | q
    · exact (O.tc j q).2
    · omega
  have fb : Fr (inRow J.c) hs h2 := (Fr.of_ext e01).trans a4
  obtain ⟨q1, q2⟩ := O.put (h1 := h3) (a := J.a) (b := J.b) (c := a') (L := J.L) (H := J.H) (M := J.M ++ [x]) f o3 V3
    (((O.L.fr fb fun j q q' => (O.ta j q).2.2.1 q').fr (Fr.of_but (X := fun j => j = J.p) rfl w3) fun j q => (O.ta j q).2.2.2).mono rj)
    (((O.H.fr fb fun j q q' => (O.tb j q).2.1 q').fr (Fr.of_but (X := fun j => j = J.p) rfl w3) fun j q => (O.tb j q).2.2).mono rj)
    ⟨es ++ [ee], Own.fr a2 (Fr.of_but (X := fun j => j = J.p) rfl w3) np, al.append (.cons hx .nil)⟩
    (fun j q => .inl (O.ta j q).1) (fun j q => .inl (O.tb j q).1)
    (fun j q => by
      rcases rows j q with q | q
      · exact .inl (O.tc j q).1
      · exact .inr (by omega))
    (fun j q => ⟨(O.ta j q).2.1, fun q' => by
        rcases rows j q' with q' | q'
        · exact (O.ta j q).2.2.1 q'
        · have := pa j q; omega, (O.ta j q).2.2.2⟩)
    (fun j q => ⟨fun q' => by
        rcases rows j q' with q' | q'
        · exact (O.tb j q).2.1 q'
        · have := pb j q; omega, (O.tb j q).2.2⟩) np
  exact kk h3 _ a' q1 q2 f2
end
end Go.Proofs.Ytbamgdknkhhikaa
namespace Go.Proofs.Ytbamgdknkhhikaa
open Go.Ab
set_option linter.unusedSimpArgs false
set_option linter.unusedVariables false
open Classical in
noncomputable def addH (H : List JE) (cls : Str) (l : List Val) : List JE := if ∃ y ∈ H, y.cls = cls ∧ y.vs = l then H else H ++ [⟨cls, l, ⟨0, [], []⟩⟩]
open Classical in
noncomputable def addM (M : List Mch) (m : Mch) : List Mch := if ∃ y ∈ M, y.core = m.core ∧ y.els = m.els then M else M ++ [m]
theorem build2' {a b : AV} (h1 : a.leaf = true) (h2 : b.leaf = true) :
    buildV [AV.str [], AV.nilSlc, AV.int IntKind.i64 0, AV.nilSlc, AV.nilSlc] [(0, 1, a), (1, 1, b)] = some (.agg [a, b, .int .i64 0, .nilSlc, .nilSlc]) := by
  have c1 := cells_leaf h1
  have c2 := cells_leaf h2
  simp only [buildV, fillV, c1, c2, List.length_cons, List.length_nil, allLeaf, h1, h2, lay]
  rfl
theorem build3' {a b c d e : AV} (h1 : a.leaf = true) (h2 : b.leaf = true) (h3 : c.leaf = true) (h4 : d.leaf = true) (h5 : e.leaf = true) :
    buildV [AV.str [], AV.nilSlc, AV.int IntKind.i64 0, AV.nilSlc, AV.nilSlc] [(0, 1, a), (1, 1, b), (2, 3, .agg [c, d, e])] = some (.agg [a, b, c, d, e]) := by
  have c1 := cells_leaf h1
  have c2 := cells_leaf h2
  have c0 : AV.cells (.agg [c, d, e]) = [c, d, e] := rfl
  simp only [buildV, fillV, c0, c1, c2, List.length_cons, List.length_nil, allLeaf, h1, h2, h3, h4, h5, lay]
  rfl
section
variable {B : Nat} {σ : Nat → Tag} {h0 hs h : AHeap} {J : JD} {n : Nat} {K : Kont}
theorem EV.nil (h : AHeap) : EV h .nilSlc [] := ⟨[], View.nil _ _, .nil⟩
theorem p11_94_ok {m : Mch} {ev nv : AV} {bx : Nat} (O : JO B σ h0 hs J) (S : Small B n J) (VE : EV h0 ev m.els) (hnv : nv.leaf = true) (hbe : szL szEl m.els ≤ B) (sn : AV.same nv nv = true) (VX : Var hs bx [.int .i64 m.core, ev, nv])
    (kk : ∀ (h' : AHeap) (σ' : Nat → Tag) (c : AV), JO B σ' h0 h' ⟨J.p, J.a, J.b, c, J.L, J.H, addM J.M m⟩ → JStep σ σ' hs h' → K (.int .i64 0) h' = true) :
    p11_94 (callN E (n + 1)) (n + 1) (.ptr J.p 0 0 0) (.ptr bx 0 0 0) hs K = true := by
  obtain ⟨s1, s2, s3, s4, s5, s6⟩ := S
  unfold p11_94
  have A : ∀ {g}, Ext hs g → loadA g true 3 (.ptr bx 0 0 0) = some (.agg [.int .i64 m.core, ev, nv]) := fun e => (VX.ext e).all rfl
  refine z_of (A (Ext.refl _)) ?_
  refine c44 O (VE.ext O.e) hnv (by omega) s5 (by omega) s6 fun h1 z e1 o1 hz => ?_
  have O1 := O.ext e1 o1
  refine z_lss ?_
  by_cases hlt : z < 0
  · refine z_ct (decide_eq_true hlt) ?_
    have hno : ¬ ∃ y ∈ J.M, y.core = m.core ∧ y.els = m.els := fun ⟨y, hy, q⟩ => hz.1 hlt y hy q
    refine z_nil ?_; refine z_fadr ?_; refine z_of O1.l2 ?_; refine z_of (A e1) ?_
    refine O.pushM e1 o1 (x := m) (ee := [.int .i64 m.core, ev, nv]) ⟨ev, nv, rfl, VE, hnv, hbe⟩ s3 fun h3 σ' c' q1 q2 q3 => ?_
    have : addM J.M m = J.M ++ [m] := by unfold addM; rw [if_neg hno]
    exact kk h3 σ' c' (by rw [this]; exact q1) q2
  · refine z_cf (decide_eq_false hlt) ?_
    have hyes : ∃ y ∈ J.M, y.core = m.core ∧ y.els = m.els := by
      apply Classical.byContradiction
      intro hn
      exact hlt (hz.2 fun y hy q => hn ⟨y, hy, q⟩)
    have : addM J.M m = J.M := by unfold addM; rw [if_pos hyes]
    exact kk h1 σ J.c (by rw [this]; exact O1) (O.step e1 o1)
theorem Gv.dv {l : List Val} {hs' : AHeap} {lo : Nat} {v : AV} (O : JO B σ h0 hs J) (G : Gv l h lo h.sz v) (hl : hs.sz ≤ lo) (hv : v.leaf = true) : DV σ h v l := ⟨lo, h.sz, G, hv, Nat.le_refl _, fun j h1 _ => O.hi j (by omega)⟩
theorem p11_86_ok {cls : Str} {v : AV} {l : List Val} {m : Mch} {ev nv : AV} {bx : Nat} (O : JO B σ h0 hs J) (S : Small B n J) (V : VV h0 v l) (hbv : szVs l ≤ B) (VE : EV h0 ev m.els) (hnv : nv.leaf = true) (hbe : szL szEl m.els ≤ B) (sn : AV.same nv nv = true) (VX : Var hs bx [.int .i64 m.core, ev, nv]) (tx : σ bx = .out)
    (hl : J.L.length < 999)
    (kk : ∀ (h' : AHeap) (σ' : Nat → Tag) (a b c : AV), JO B σ' h0 h' ⟨J.p, a, b, c, J.L ++ [⟨cls, l, m⟩], addH J.H cls l, addM J.M m⟩ → JStep σ σ' hs h' → K (.int .i64 0) h' = true)
    (hh : J.H.length < 999) (hm : J.M.length < 999) :
    p11_86 (callN E (n + 1)) (n + 1) (.ptr J.p 0 0 0) (.str cls) v (.ptr bx 0 0 0) hs K = true := by
  obtain ⟨s1, s2, s3, s4, s5, s6⟩ := S
  unfold p11_86
  have sX : AV.same (.agg [.int .i64 m.core, ev, nv]) (.agg [.int .i64 m.core, ev, nv]) = true := same_agg (sames_cons (same_int _ _) (sames_cons VE.same (sames_cons sn sames_nil)))
  have A : ∀ {g}, Ext hs g → loadA g true 3 (.ptr bx 0 0 0) = some (.agg [.int .i64 m.core, ev, nv]) := fun e => (VX.ext e).all rfl
  refine z_nil ?_; refine z_fadr ?_; refine z_of O.l0 ?_; refine z_of (A (Ext.refl _)) ?_
  refine c9 B n (V.ext O.e) O.ok hbv (by omega) s5 s6 fun h1 w e1 o1 lw sw G => ?_
  have O1 := O.ext e1 o1
  refine z_same O1.l0 (let ⟨es, w, a⟩ := O.L; w.view.same) ?_
  refine z_same (A e1) sX ?_
  refine z_of (build3' (a := .str cls) (c := .int .i64 m.core) rfl lw rfl VE.leaf hnv) ?_
  refine O.pushL e1 o1 (x := ⟨cls, l, m⟩) (ee := [.str cls, w, .int .i64 m.core, ev, nv]) ⟨w, ev, nv, rfl, Gv.dv (hs' := hs) O G (Nat.le_refl _) lw, VE, hnv, hbv, hbe⟩ s1 fun h2 σ2 a' O2 S2 f2 => ?_
  have lx := VX.lt O.ok
  have VX2 : Var h2 bx [.int .i64 m.core, ev, nv] := f2.var (VX.ext e1) fun q => by have q : σ bx = .jus := q; rw [tx] at q; cases q
  have tx2 : σ2 bx = .out := by rw [S2.old bx lx]; exact tx
  refine c43 (J := ⟨J.p, a', J.b, J.c, J.L ++ [⟨cls, l, m⟩], J.H, J.M⟩) O2 (V.ext O2.e) (by show J.H.length < _; omega) s5 (by omega) s6 fun h3 z e3 o3 hz => ?_
  have hz : z < 0 ↔ ∀ x ∈ J.H, ¬ (x.cls = cls ∧ x.vs = l) := hz
  have O3 := O2.ext e3 o3
  refine z_lss ?_
  by_cases hlt : z < 0
  · refine z_ct (decide_eq_true hlt) ?_
    have hno : ¬ ∃ y ∈ J.H, y.cls = cls ∧ y.vs = l := fun ⟨y, hy, q⟩ => hz.1 hlt y hy q
    have l1 : loadA h3 false 1 (.ptr J.p 0 0 1) = some J.b := O3.l1
    refine z_nil ?_; refine z_fadr ?_; refine z_of l1 ?_
    refine c9 B n (V.ext O3.e) o3 hbv (by omega) s5 s6 fun h4 w' e4 o4 lw' sw' G' => ?_
    have e34 := ext_two e3 e4
    have O4 := O3.ext e4 o4
    have l1' : loadA h4 false 1 (.ptr J.p 0 0 1) = some J.b := O4.l1
    refine z_same l1' (let ⟨es, w, a⟩ := O.H; w.view.same) ?_
    refine z_of (build2' (a := .str cls) rfl lw') ?_
    refine JO.pushH (J := ⟨J.p, a', J.b, J.c, J.L ++ [⟨cls, l, m⟩], J.H, J.M⟩) O2 e34 o4 (x := ⟨cls, l, ⟨0, [], []⟩⟩) (ee := [.str cls, w', .int .i64 0, .nilSlc, .nilSlc]) ⟨w', .nilSlc, .nilSlc, rfl, Gv.dv (hs' := h2) O2 G' e3.1 lw', EV.nil _, rfl, hbv, by simp [szL]⟩ (by show J.H.length < _; omega) fun h5 σ5 b' O5 S5 f5 => ?_
    have VX5 : Var h5 bx [.int .i64 m.core, ev, nv] := f5.var (VX2.ext e34) fun q => by have q : σ2 bx = .jus := q; rw [tx2] at q; cases q
    have ha : addH J.H cls l = J.H ++ [⟨cls, l, ⟨0, [], []⟩⟩] := by unfold addH; rw [if_neg hno]
    refine p11_94_ok (J := ⟨J.p, a', b', J.c, J.L ++ [⟨cls, l, m⟩], J.H ++ [⟨cls, l, ⟨0, [], []⟩⟩], J.M⟩) (n := n) O5 ⟨by simp; omega, by simp; omega, s3, s4, s5, s6⟩ VE hnv hbe sn VX5 fun h' σ' c' q1 q2 => ?_
    exact kk h' σ' a' b' c' (by rw [ha]; exact q1) (S2.trans O.ok (S5.trans O2.ok q2))
  · refine z_cf (decide_eq_false hlt) ?_
    have hyes : ∃ y ∈ J.H, y.cls = cls ∧ y.vs = l := by
      apply Classical.byContradiction
      intro hn
      exact hlt (hz.2 fun y hy q => hn ⟨y, hy, q⟩)
    have ha : addH J.H cls l = J.H := by unfold addH; rw [if_pos hyes]
    refine p11_94_ok (J := ⟨J.p, a', J.b, J.c, J.L ++ [⟨cls, l, m⟩], J.H, J.M⟩) (n := n) O3 ⟨by simp; omega, by show J.H.length < _; omega, s3, s4, s5, s6⟩ VE hnv hbe sn (VX2.ext e3) fun h' σ' c' q1 q2 => ?_
    exact kk h' σ' a' _ c' (by rw [ha]; exact q1) (S2.trans O.ok ((O2.step e3 o3).trans O2.ok q2))
end
end Go.Proofs.Ytbamgdknkhhikaa
namespace Go.Proofs.Ytbamgdknkhhikaa
open Go.Ab
set_option linter.unusedSimpArgs false
set_option linter.unusedVariables false
section
variable {B : Nat} {σ : Nat → Tag} {h0 hs h : AHeap} {J : JD} {n : Nat} {K : Kont}
def dupJ (L : List JE) (cls : Str) (l : List Val) (m : Mch) : Prop := ∃ y ∈ L, y.cls = cls ∧ y.vs = l ∧ y.m.core = m.core ∧ y.m.els = m.els
theorem l11_69_ok {cls : Str} {v : AV} {l : List Val} {m : Mch} {ev nv : AV} {bx : Nat} (O : JO B σ h0 hs J) (S : Small B n J) (V : VV h0 v l) (hbv : szVs l ≤ B) (VE : EV h0 ev m.els) (hnv : nv.leaf = true) (hbe : szL szEl m.els ≤ B) (sn : AV.same nv nv = true) (VX : Var hs bx [.int .i64 m.core, ev, nv]) (tx : σ bx = .out)
    (hl : J.L.length < 999) (hh : J.H.length < 999) (hm : J.M.length < 999)
    (k1 : dupJ J.L cls l m → ∀ h', Ext hs h' → h'.Ok → K (.int .i64 0) h' = true)
    (k2 : ¬ dupJ J.L cls l m → ∀ (h' : AHeap) (σ' : Nat → Tag) (a b c : AV), JO B σ' h0 h' ⟨J.p, a, b, c, J.L ++ [⟨cls, l, m⟩], addH J.H cls l, addM J.M m⟩ → JStep σ σ' hs h' → K (.int .i64 0) h' = true) :
    l11_69 (callN E (n + 1)) (n + 1) (n + 1) (.ptr J.p 0 0 0) (.str cls) v (.ptr bx 0 0 0) (.int .i64 0) hs K = true := by
  have S0 := S
  obtain ⟨s1, s2, s3, s4, s5, s6⟩ := S
  have hlm : lim = 4611686018427387904 := rfl
  suffices H : ∀ q i h, J.L.length - i < q → i ≤ J.L.length → Ext hs h → h.Ok → ¬ dupJ (J.L.take i) cls l m → l11_69 (callN E (n + 1)) (n + 1) q (.ptr J.p 0 0 0) (.str cls) v (.ptr bx 0 0 0) (.int .i64 (i : Int)) h K = true from
    H (n + 1) 0 hs (by omega) (Nat.zero_le _) (Ext.refl _) O.ok (by rintro ⟨y, hy, _⟩; simp at hy)
  intro q
  induction q with
  | zero => intro i h hm; omega
  | succ q ihm =>
    intro i h hq hi e o C
    have O' := O.ext e o
    unfold l11_69 b11_69
    refine z_nil ?_; refine z_fadr ?_; refine z_of O'.l0 ?_; refine z_of (O'.L.len h) ?_; refine z_lss ?_
    by_cases hlt : i < J.L.length
    · refine z_ct (decide_eq_true (by omega)) ?_
      obtain ⟨id, g, j, ee, u, R⟩ := O.L.at (List.getElem?_eq_getElem hlt)
      obtain ⟨p1, p2⟩ := u h e
      obtain ⟨vv, ev', nv', rfl, D, DE, lf, hb, hb2⟩ := R
      have A0 : loadA h false 1 (.ptr id g j 0) = some (.str J.L[i].cls) := by rw [p2]; rfl
      have A1 : loadA h false 1 (.ptr id g j 1) = some vv := by rw [p2]; rfl
      have t1 : J.L.take (i + 1) = J.L.take i ++ [J.L[i]] := by rw [List.take_succ_eq_append_getElem hlt]
      have next : ∀ h', Ext hs h' → h'.Ok → ¬ (J.L[i].cls = cls ∧ J.L[i].vs = l ∧ J.L[i].m.core = m.core ∧ J.L[i].m.els = m.els) → optB (binA .add (.int .i64 (i : Int)) (.int .i64 1)) (fun v66 => l11_69 (callN E (n + 1)) (n + 1) q (.ptr J.p 0 0 0) (.str cls) v (.ptr bx 0 0 0) v66 h' K) = true := fun h' e' o' hne => by
        refine z_of (inc64 (i := i) (by omega)) ?_
        refine ihm (i + 1) h' (by omega) (by omega) e' o' ?_
        rintro ⟨y, hy, hy2⟩
        rw [t1, List.mem_append, List.mem_singleton] at hy
        rcases hy with hy | rfl
        · exact C ⟨y, hy, hy2⟩
        · exact hne hy2
      refine z_nil ?_; refine z_fadr ?_; refine z_of O'.l0 ?_; refine z_of (p1 .i64) ?_; refine z_fadr ?_; refine z_of A0 ?_; refine z_seq ?_
      by_cases c0 : J.L[i].cls = cls
      · rw [decide_eq_true c0]
        refine z_gtt ?_; refine z_some ?_; refine z_gtt ?_; refine z_nil ?_; refine z_gtt ?_; refine z_fadr ?_; refine z_gtt ?_; refine z_of O'.l0 ?_; refine z_gtt ?_; refine z_some ?_; refine z_gtt ?_; refine z_of (p1 .i64) ?_; refine z_gtt ?_; refine z_fadr ?_; refine z_gtt ?_; refine z_of A1 ?_; refine z_gtt ?_; refine z_some ?_; refine z_rtt ?_
        refine c27 B n (D.now.ext e) (V.ext O'.e) o hb (by omega) (by omega) (by omega) fun h4 r e4 o4 hr => ?_
        have e04 := ext_two e e4
        have O4 := O.ext e04 o4
        cases r with
        | true =>
          obtain ⟨p1', p2'⟩ := u h4 e04
          have A2 : loadA h4 true 3 (.ptr id g j 2) = some (.agg [.int .i64 J.L[i].m.core, ev', nv']) := by rw [p2']; rfl
          have A3 : loadA h4 true 3 (.ptr bx 0 0 0) = some (.agg [.int .i64 m.core, ev, nv]) := (VX.ext e04).all rfl
          refine z_kt ?_; refine z_gtt ?_; refine z_some ?_; refine z_gtt ?_; refine z_nil ?_; refine z_gtt ?_; refine z_fadr ?_; refine z_gtt ?_; refine z_of O4.l0 ?_; refine z_gtt ?_; refine z_some ?_; refine z_gtt ?_; refine z_of (p1' .i64) ?_; refine z_gtt ?_; refine z_fadr ?_; refine z_gtt ?_; refine z_of A2 ?_; refine z_gtt ?_; refine z_of A3 ?_; refine z_rtt ?_
          obtain ⟨n, rfl⟩ : ∃ j, n = j + 2 := ⟨n - 2, by omega⟩
          have hlE : J.L[i].m.els.length ≤ szL szEl J.L[i].m.els := szL_length szEl_pos _
          refine c17 (n := n) (S := B) (DE.ext O4.e) (VE.ext O4.e) lf hnv o4 (fun e he => by have := szL_mem (sz := szEl) he; have : szEl e = szVs e.vs + 1 := rfl; omega) (by omega) (by omega) (by omega) (by omega) fun h5 r e5 o5 hr5 => ?_
          cases r with
          | true =>
            refine z_kt ?_; refine z_cT ?_
            exact k1 ⟨_, List.getElem_mem hlt, c0, hr.1 rfl, (hr5.1 rfl).1, (hr5.1 rfl).2⟩ h5 (ext_two e04 e5) o5
          | false =>
            refine z_kt ?_; refine z_cF ?_
            exact next h5 (ext_two e04 e5) o5 fun q => by cases hr5.2 ⟨q.2.2.1, q.2.2.2⟩
        | false =>
          refine z_kt ?_; refine z_gft ?_; refine z_gft ?_; refine z_gft ?_; refine z_gft ?_; refine z_gft ?_; refine z_gft ?_; refine z_gft ?_; refine z_gft ?_; refine z_gft ?_; refine z_rft ?_; refine z_kf ?_; refine z_cF ?_
          exact next h4 e04 o4 fun q => by cases hr.2 q.2.1
      · rw [decide_eq_false c0]
        refine z_gft ?_; refine z_gft ?_; refine z_gft ?_; refine z_gft ?_; refine z_gft ?_; refine z_gft ?_; refine z_gft ?_; refine z_gft ?_; refine z_gft ?_; refine z_rft ?_; refine z_kf ?_; refine z_gft ?_; refine z_gft ?_; refine z_gft ?_; refine z_gft ?_; refine z_gft ?_; refine z_gft ?_; refine z_gft ?_; refine z_gft ?_; refine z_gft ?_; refine z_rft ?_; refine z_kf ?_; refine z_cF ?_
        exact next h e o fun q => c0 q.1
    · refine z_cf (decide_eq_false (by omega)) ?_
      rw [List.take_of_length_le (by omega)] at C
      refine p11_86_ok (n := n) O' S0 V hbv VE hnv hbe sn (VX.ext e) tx hl (fun h' σ' a b c q1 q2 => ?_) hh hm
      exact k2 C h' σ' a b c q1 ((O.step e o).trans O.ok q2)
theorem badV_take {l : List Val} {i : Nat} (h : i < l.length) : badV (l.take (i + 1)) = (badV (l.take i) || !ckV 30 l[i]) := any_take h
theorem badE_take {l : List Elm} {i : Nat} (h : i < l.length) : badE (l.take (i + 1)) = (badE (l.take i) || badV l[i].vs) := any_take h
theorem badV_of {l : List Val} {i : Nat} (h : i < l.length) (q : ckV 30 l[i] = false) : badV l = true := List.any_eq_true.2 ⟨l[i], List.getElem_mem h, by rw [q]; rfl⟩
theorem badE_of {l : List Elm} {i : Nat} (h : i < l.length) (q : badV l[i].vs = true) : badE l = true := List.any_eq_true.2 ⟨l[i], List.getElem_mem h, q⟩
theorem l11_35_ok {v : AV} {x1 : AV} {els : List Elm} {core : Int} {ev nv : AV} {bx : Nat} (VE : EV hs ev els) (o0 : hs.Ok) (VX : Var hs bx [.int .i64 core, ev, nv]) (hbe : szL szEl els ≤ B) (hn : B + 100 ≤ n) (hL : n + 9 < lim)
    (k0 : badE els = true → ∀ h', Ext hs h' → h'.Ok → K (.int .i64 1) h' = true)
    (k1 : badE els = false → ∀ h', Ext hs h' → h'.Ok → p11_65 (callN E (n + 2)) (n + 2) (.ptr J.p 0 0 0) x1 v (.ptr bx 0 0 0) h' K = true) :
    l11_35 (callN E (n + 2)) (n + 2) (n + 2) (.ptr J.p 0 0 0) x1 v (.ptr bx 0 0 0) (.int .i64 0) hs K = true := by
  have hlm : lim = 4611686018427387904 := rfl
  have hlE : els.length ≤ szL szEl els := szL_length szEl_pos _
  suffices H : ∀ q i h, els.length - i < q → i ≤ els.length → Ext hs h → h.Ok → badE (els.take i) = false → l11_35 (callN E (n + 2)) (n + 2) q (.ptr J.p 0 0 0) x1 v (.ptr bx 0 0 0) (.int .i64 (i : Int)) h K = true from
    H (n + 2) 0 hs (by omega) (Nat.zero_le _) (Ext.refl _) o0 rfl
  intro q
  induction q with
  | zero => intro i h hm; omega
  | succ q ihm =>
    intro i h hq hi e o C
    have A1 : ∀ {g}, Ext h g → loadA g false 1 (.ptr bx 0 0 1) = some ev := fun e' => (VX.ext (ext_two e e')).get rfl
    unfold l11_35 b11_35
    refine z_fadr ?_; refine z_of (A1 (Ext.refl _)) ?_; refine z_of (VE.ext e).len ?_; refine z_lss ?_
    by_cases hlt : i < els.length
    · refine z_ct (decide_eq_true (by omega)) ?_
      unfold p11_42
      have hci := List.getElem?_eq_getElem hlt
      have hme := szL_mem (sz := szEl) (List.getElem_mem hlt)
      have hee : szEl els[i] = szVs els[i].vs + 1 := rfl
      have hvl := szVs_len els[i].vs
      suffices H2 : ∀ q2 k g, els[i].vs.length - k < q2 → k ≤ els[i].vs.length → Ext h g → g.Ok → badV (els[i].vs.take k) = false → l11_47 (callN E (n + 2)) (n + 2) (fun x0 x1 x2 x7 x10 h => l11_35 (callN E (n + 2)) (n + 2) q x0 x1 x2 x7 x10 h K) q2 (.ptr J.p 0 0 0) x1 v (.ptr bx 0 0 0) (.int .i64 (i : Int)) (.int .i64 (k : Int)) g K = true from
        H2 (n + 2) 0 h (by omega) (Nat.zero_le _) (Ext.refl _) o rfl
      intro q2
      induction q2 with
      | zero => intro k g hm2; omega
      | succ q2 ih2 =>
        intro k g hq2 hk eg og C2
        obtain ⟨id, gg, j, ee, p1, p2, vv, rfl, VV1, _, _⟩ := (VE.ext (ext_two e eg)).at hci
        have A2 : loadA g false 1 (.ptr id gg j 2) = some vv := by rw [p2]; rfl
        unfold l11_47 b11_47
        refine z_fadr ?_; refine z_of (A1 eg) ?_; refine z_of (p1 .i64) ?_; refine z_fadr ?_; refine z_of A2 ?_; refine z_of VV1.len ?_; refine z_lss ?_
        by_cases hkl : k < els[i].vs.length
        · refine z_ct (decide_eq_true (by omega)) ?_
          obtain ⟨id', g', j', e', p1', p2', R⟩ := VV1.at (List.getElem?_eq_getElem hkl)
          have A3 : loadA g true 5 (.ptr id' g' j' 0) = some (.agg e') := by rw [p2']; exact R.agg.1
          have hmv := szVs_mem (List.getElem_mem hkl)
          refine z_fadr ?_; refine z_of (A1 eg) ?_; refine z_of (p1 .i64) ?_; refine z_fadr ?_; refine z_of A2 ?_; refine z_of (p1' .i64) ?_; refine z_of A3 ?_
          refine c42 (n := n) R og (by omega) (by omega) fun g1 e1 o1 => ?_
          cases hck : ckV 30 els[i].vs[k] with
          | false =>
            refine z_notF ?_; refine z_cT ?_
            exact k0 (badE_of hlt (badV_of hkl hck)) g1 (ext_two (ext_two e eg) e1) o1
          | true =>
            refine z_notT ?_; refine z_cF ?_; refine z_of (inc64 (i := k) (by omega)) ?_
            exact ih2 (k + 1) g1 (by omega) (by omega) (ext_two eg e1) o1 (by rw [badV_take hkl, C2, hck]; rfl)
        · refine z_cf (decide_eq_false (by omega)) ?_
          rw [List.take_of_length_le (by omega)] at C2
          unfold p11_64
          refine z_of (inc64 (i := i) (by omega)) ?_
          exact ihm (i + 1) g (by omega) (by omega) (ext_two e eg) og (by rw [badE_take hlt, C, C2]; rfl)
    · refine z_cf (decide_eq_false (by omega)) ?_
      rw [List.take_of_length_le (by omega)] at C
      exact k1 C h e o
theorem c11 {cls : Str} {v : AV} {l : List Val} {m : Mch} {ev nv : AV} (O : JO B σ h0 hs J) (S : Small B n J) (hL : n + 9 < lim) (V : VV h0 v l) (hbv : szVs l ≤ B) (VE : EV h0 ev m.els) (hnv : nv.leaf = true) (hbe : szL szEl m.els ≤ B) (sn : AV.same nv nv = true)
    (hl : J.L.length < 999) (hh : J.H.length < 999) (hm : J.M.length < 999)
    (k0 : cls = [] ∨ badV l = true ∨ badE m.els = true → ∀ h', Ext hs h' → h'.Ok → K (.int .i64 1) h' = true)
    (k1 : cls ≠ [] → badV l = false → badE m.els = false → dupJ J.L cls l m → ∀ h', Ext hs h' → h'.Ok → K (.int .i64 0) h' = true)
    (k2 : cls ≠ [] → badV l = false → badE m.els = false → ¬ dupJ J.L cls l m → ∀ (h' : AHeap) (σ' : Nat → Tag) (a b c : AV), JO B σ' h0 h' ⟨J.p, a, b, c, J.L ++ [⟨cls, l, m⟩], addH J.H cls l, addM J.M m⟩ → JStep σ σ' hs h' → K (.int .i64 0) h' = true) :
    callN E (n + 3) (.func 11) [.ptr J.p 0 0 0, .str cls, v, .agg [.int .i64 m.core, ev, nv]] hs K = true := by
  have S0 := S
  obtain ⟨s1, s2, s3, s4, s5, s6⟩ := S
  have hlm : lim = 4611686018427387904 := rfl
  have hvl := szVs_len l
  apply d11
  unfold s11
  obtain ⟨h1, q1, V1, e1, o1, z1⟩ := box_v (n := 3) (v := .agg [.int .i64 m.core, ev, nv]) O.ok rfl (by decide) (by simp only [AV.cells, allLeaf, VE.leaf, hnv]; rfl)
  have V1 : Var h1 hs.sz [.int .i64 m.core, ev, nv] := V1
  refine z_p q1 ?_
  refine z_seq ?_
  by_cases hc : cls = []
  · refine z_ct (decide_eq_true hc) ?_
    exact k0 (.inl hc) h1 e1 o1
  refine z_cf (decide_eq_false hc) ?_
  unfold p11_10
  suffices H : ∀ q i h, l.length - i < q → i ≤ l.length → Ext h1 h → h.Ok → badV (l.take i) = false → l11_14 (callN E (n + 2)) (n + 2) q (.ptr J.p 0 0 0) (.str cls) v (.ptr hs.sz 0 0 0) (.int .i64 (i : Int)) h K = true from
    H (n + 2) 0 h1 (by omega) (Nat.zero_le _) (Ext.refl _) o1 rfl
  intro q
  induction q with
  | zero => intro i h hm; omega
  | succ q ihm =>
    intro i h hq hi e o C
    have e0 := ext_two e1 e
    have Vh := V.ext (ext_two O.e e0)
    unfold l11_14 b11_14
    refine z_of Vh.len ?_; refine z_lss ?_
    by_cases hlt : i < l.length
    · refine z_ct (decide_eq_true (by omega)) ?_
      obtain ⟨id', g', j', e', p1', p2', R⟩ := Vh.at (List.getElem?_eq_getElem hlt)
      have A3 : loadA h true 5 (.ptr id' g' j' 0) = some (.agg e') := by rw [p2']; exact R.agg.1
      have hmv := szVs_mem (List.getElem_mem hlt)
      refine z_of (p1' .i64) ?_; refine z_of A3 ?_
      refine c42 (n := n) R o (by omega) (by omega) fun g1 eg og => ?_
      cases hck : ckV 30 l[i] with
      | false =>
        refine z_notF ?_; refine z_cT ?_
        exact k0 (.inr (.inl (badV_of hlt hck))) g1 (ext_two e0 eg) og
      | true =>
        refine z_notT ?_; refine z_cF ?_; refine z_of (inc64 (i := i) (by omega)) ?_
        exact ihm (i + 1) g1 (by omega) (by omega) (ext_two e eg) og (by rw [badV_take hlt, C, hck]; rfl)
    · refine z_cf (decide_eq_false (by omega)) ?_
      rw [List.take_of_length_le (by omega)] at C
      unfold p11_31
      refine l11_35_ok (B := B) (VE.ext (ext_two O.e e0)) o (V1.ext e) hbe (by omega) hL (fun hb g eg og => k0 (.inr (.inr hb)) g (ext_two e0 eg) og) fun hb g eg og => ?_
      unfold p11_65
      have e0g := ext_two e0 eg
      have lx : σ hs.sz = .out := O.hi _ (Nat.le_refl _)
      refine l11_69_ok (n := n + 1) (O.ext e0g og) ⟨s1, s2, s3, by omega, s5, by omega⟩ V hbv VE hnv hbe sn ((V1.ext e).ext eg) lx hl hh hm (fun hd h' e' o' => k1 hc C hb hd h' (ext_two e0g e') o') fun hd h' σ' a b c q1 q2 => ?_
      exact k2 hc C hb hd h' σ' a b c q1 ((O.step e0g og).trans O.ok q2)
end
end Go.Proofs.Ytbamgdknkhhikaa
namespace Go.Proofs.Ytbamgdknkhhikaa
open Go.Ab
set_option linter.unusedSimpArgs false
set_option linter.unusedVariables false
section
variable {B : Nat} {h0 h h' : AHeap} {τ τ' : Nat → Tag} {T T' : TD} {i N : Nat} {K : Kont} {X : Nat → Prop}
theorem TO.go (O : TO τ h T) (f : Fr X h h') (o : h'.Ok) (hX : ∀ j, X j → ¬ (τ j).own) (ht : ∀ j, j < h.sz → τ' j = τ j) (hh : ∀ j, h'.sz ≤ j → τ' j = .out) : TO τ' h' T := by
  have no : ∀ {j t}, τ j = t → t.own → ¬ X j := fun e w x => hX _ x (by rw [e]; exact w)
  have no' : ∀ {t : Tag}, t.own → ∀ j, X j → τ j ≠ t := fun w j x e => hX j x (by rw [e]; exact w)
  have ht' : ∀ j, τ j ≠ .out → τ' j = τ j := fun j hj => ht j (by
    by_cases q : j < h.sz
    · exact q
    · exact absurd (O.hi j (by omega)) hj)
  exact ⟨o, hh, by rw [ht' _ (by rw [O.tp]; exact fun q => by cases q)]; exact O.tp, by rw [ht' _ (by rw [O.tc]; exact fun q => by cases q)]; exact O.tc, by rw [ht' _ (by rw [O.tr]; exact fun q => by cases q)]; exact O.tr, f.var O.var (no O.tp trivial), f.kmap O.cs (no O.tc trivial), f.kmap O.rs (no O.tr trivial),
    fun k x hx => (O.c k x hx).fr f (no' trivial) (no' trivial) ht', fun k x hx => (O.r k x hx).fr f (no' trivial) (no' trivial) ht'⟩
theorem DT.go (D : DT B τ h T) (f : Fr X h h') (hX : ∀ j, X j → τ j ≠ .out) (ht : ∀ j, j < h.sz → τ' j = τ j) : DT B τ' h' T :=
  ⟨fun k x hx => (D.c k x hx).fr f hX ht, fun r y hy => ⟨(D.r r y hy).1, (D.r r y hy).2.fr f hX ht⟩⟩
theorem CI.go (I : CI B h0 h τ T i) (k0 : h0.Ok) (f : Fr X h h') (o : h'.Ok) (hX : ∀ j, X j → τ j ≠ .out ∧ ¬ (τ j).own) (ht : ∀ j, j < h.sz → τ' j = τ j) (hh : ∀ j, h'.sz ≤ j → τ' j = .out) : CI B h0 h' τ' T i := by
  have low : ∀ j, X j → h0.sz ≤ j := fun j x => by
    by_cases q : j < h0.sz
    · exact absurd (I.t0 j q) (hX j x).1
    · omega
  exact ⟨I.o.go f o (fun j x => (hX j x).2) ht hh, I.w, f.ext I.e k0 low, fun j hj => by rw [ht j (by have := I.e.1; omega)]; exact I.t0 j hj, I.d.go f (fun j x => (hX j x).1) ht, I.cn, I.ca⟩
theorem CI.jstep (I : CI B h0 h τ T i) (k0 : h0.Ok) (S : JStep τ τ' h h') : CI B h0 h' τ' T i :=
  I.go k0 S.fr S.ok (fun j q => by have q : τ j = .jus := q; rw [q]; exact ⟨(fun e => by cases e), id⟩) S.old fun j hj => by
    rcases S.new j (Nat.le_trans S.fr.sz hj) with e | e
    · exact e
    · omega
theorem CI.more {j : Nat} (I : CI B h0 h τ T i) (q : i ≤ j) : CI B h0 h τ T j := ⟨I.o, I.w, I.e, I.t0, I.d, Nat.le_trans I.cn q, by have := I.ca; omega⟩
theorem forget_ok2 {s : Stp} {vv ev nv : AV} (k0 : h0.Ok) (I : CI B h0 h τ T i) (A : Arg B h0 s vv ev nv) {wv : AV} (VW : ∀ g, Fr (W8 τ) h g → VV g wv s.vs) (hi : i < 1000) (hB : B < 100000000) (hN : 2 * B + 2000 ≤ N) (hL : N < 1000000000)
    (kk0 : lkG T.cs (s.cls, spV s.vs) = none ∨ badV s.vs = true → ∀ h', Ext h h' → h'.Ok → K (.int .i64 0) h' = true)
    (kk : badV s.vs = false → ∀ h' T', CI B h0 h' τ T' i → T'.p = T.p → Fr (W8 τ) h h' → Less T T' (fun k' _ => k' = (s.cls, spV s.vs)) → T'.n ≤ T.n → K (.int .i64 ((T.n : Int) - (T'.n : Int))) h' = true) : callN E (N + 20) (.func 19) [.ptr T.p 0 0 0, .agg [.str s.cls, wv]] h K = true := by
  have hlm : lim = 4611686018427387904 := rfl
  have hb := A.b
  refine c19 (n := N + 18) (k := (s.cls, spV s.vs)) (bad := badV s.vs) I.o I.w (by have := I.cn; omega) (by have := I.cn; omega) (VW h (Fr.refl _ _)).leaf (fun h1 o1 F1 K' kk' => ?_) (fun h1 o1 e1 K' kk' => ?_) (fun h' e' o' q => kk0 q h' e' o') fun x h' T' hx hbd O' F' L' hn => ?_
  · exact c38 (n := N + 15) (VW h1 F1) o1 (by omega) (by omega) (by omega) kk'
  · exact c35 (n := N + 13) (VW h1 (Fr.of_ext e1)) o1 (by omega) (by omega) kk'
  · have e : (x.bys.length : Int) = (T.n : Int) - (T'.n : Int) := by omega
    rw [e]
    exact kk hbd h' T' ⟨O', L'.w, I.ext_fr k0 F', I.t0, (I.d.fr F' fun j w => own_ne w).less I.w L', by have := I.cn; omega, by have := I.ca; have := L'.came; omega⟩ L'.p F' L' (by omega)
theorem justify_ok2 {s : Stp} {vv ev nv : AV} (k0 : h0.Ok) (I : CI B h0 h τ T i) (A : Arg B h0 s vv ev nv) {wv : AV} (VW : ∀ g, Fr (W8 τ) h g → VV g wv s.vs) (hi : i < 1000) (hB : B < 100000000) (hN : 2 * B + 2000 ≤ N) (hL : N < 1000000000)
    (kk0 : s.cls = [] ∨ badV s.vs = true ∨ badE s.m.els = true → ∀ h', Ext h h' → h'.Ok → K (.int .i64 1) h' = true)
    (kk : s.cls ≠ [] → badV s.vs = false → badE s.m.els = false → ∀ (h' : AHeap) (τ' : Nat → Tag) x y, CI B h0 h' τ' (justT T (s.cls, spV s.vs) (s.m.core, kyM s.m.els) x y) (i + 1) → Fresh T (s.cls, spV s.vs) (s.m.core, kyM s.m.els) x y → (∀ j, j < h.sz → τ' j = τ j) → Fr (W8 τ) h h' → K (.int .i64 0) h' = true) : callN E (N + 20) (.func 10) [.ptr T.p 0 0 0, .agg [.str s.cls, wv], .agg [.int .i64 s.m.core, ev, nv]] h K = true := by
  have hlm : lim = 4611686018427387904 := rfl
  have hb := A.b
  have V0 := VW h (Fr.refl _ _)
  have VWe : ∀ {g}, Ext h g → VV g wv s.vs := fun e => VW _ (Fr.of_ext e)
  refine c10 (n := N + 18) (k := (s.cls, spV s.vs)) (r := (s.m.core, kyM s.m.els)) (cls := s.cls) (b1 := badV s.vs) (b2 := badE s.m.els)
    (G := fun h lo hi v => v.leaf = true ∧ Gv s.vs h lo hi v) (GM := fun h lo hi a b => a.leaf = true ∧ b.leaf = true ∧ Gm s.m h lo hi a b)
    I.o (by have := I.cn; omega) (by have := I.ca; omega) V0.leaf A.e.leaf A.n.leaf V0.sm A.e.same A.n.same
    (fun h1 o1 e1 K' kk' => c35 (n := N + 13) (VWe e1) o1 (by omega) (by omega) kk')
    (fun h1 o1 e1 K' kk' => c36 (n := N + 10) (A.e.ext (ext_two I.e e1)) o1 (by omega) (by omega) kk')
    (fun _ h1 o1 e1 K' kk' => c38 (n := N + 15) (VWe e1) o1 (by omega) (by omega) (by omega) kk')
    (fun _ _ h1 o1 e1 K' kk' => c39 (n := N + 14) (A.e.ext (ext_two I.e e1)) A.n.leaf o1 (by omega) (by omega) (by omega) kk')
    (fun h1 o1 F1 K' kk' => c40 (szVs s.vs) (N + 18) (VW h1 F1) o1 (Nat.le_refl _) (by omega) (by omega) (by omega) fun h2 v' e2 o2 lf sm G => kk' h2 v' e2 o2 lf sm ⟨lf, G⟩)
    (fun h1 o1 F1 K' kk' => c41 (n := N + 18) o1 (A.e.ext (I.ext_fr k0 F1)) (A.n.ext (I.ext_fr k0 F1)) (by omega) (by omega) (by omega) fun h2 a b e2 o2 la lb _ _ G => kk' h2 a b e2 o2 la lb ⟨la, lb, G⟩)
    (fun _ _ _ _ _ q k => ⟨q.1, q.2.fr k⟩) (fun _ _ _ _ _ _ q k => ⟨q.1, q.2.1, q.2.2.fr k⟩) (fun q h' e' o' => kk0 q h' e' o') fun hcls hb1 hb2 h' τ' x y O' Fs cx cy ht F' => ?_
  refine kk hcls hb1 hb2 h' τ' x y ⟨O', just_w I.w Fs, I.ext_fr k0 F', fun j hj => by rw [ht j (by have := I.e.1; omega)]; exact I.t0 j hj, ?_, ?_, ?_⟩ Fs ht F'
  · refine I.d.just F' ht (fun hk => ?_) fun hk => ?_
    · obtain ⟨e1, lo, hi, ⟨lf, G⟩, l1, l2, l3⟩ := cx hk
      exact ⟨s.vs, lo, hi, by rw [e1], hb1, by omega, lf, G, l2, l3⟩
    · obtain ⟨e1, lo, hi, ⟨la, lb, G⟩, l1, l2, l3⟩ := cy hk
      exact ⟨e1, s.m, lo, hi, rfl, hb2, by omega, la, lb, G, l2, l3⟩
  · have := just_n_le (T := T) (k := (s.cls, spV s.vs)) (r := (s.m.core, kyM s.m.els)) (x0 := x) (y0 := y); have := I.cn; omega
  · have := just_came_le (T := T) (k := (s.cls, spV s.vs)) (r := (s.m.core, kyM s.m.els)) (x0 := x) (y0 := y); have := I.ca; omega
end
end Go.Proofs.Ytbamgdknkhhikaa
namespace Go.Proofs.Ytbamgdknkhhikaa
open Go.Ab
set_option linter.unusedSimpArgs false
set_option linter.unusedVariables false
def kC (x : JE) : SK := (x.cls, spV x.vs)
def kM (m : Mch) : BK := (m.core, kyM m.els)
def gdV (l : List Val) : Prop := badV l = false ∧ ∃ h v, VV h v l
def gdE (l : List Elm) : Prop := badE l = false ∧ szL szEl l < 1000000000 ∧ ∃ h v, EV h v l
theorem gdV.inj {l l' : List Val} (a : gdV l) (b : gdV l') (e : spV l = spV l') : l = l' := by
  obtain ⟨a1, h, v, V⟩ := a
  obtain ⟨b1, h', v', V'⟩ := b
  exact spV_inj V V' a1 b1 e
theorem gdE.inj {l l' : List Elm} (a : gdE l) (b : gdE l') (e : kyM l = kyM l') : l = l' := by
  obtain ⟨a1, a2, h, v, V⟩ := a
  obtain ⟨b1, b2, h', v', V'⟩ := b
  exact kyM_inj V V' a1 b1 a2 b2 e
theorem flt_congr {α : Type} {p q : α → Prop} : ∀ {l : List α}, (∀ x ∈ l, p x ↔ q x) → flt p l = flt q l := fun {l} h => by
  unfold flt
  refine List.filter_congr fun x hx => ?_
  have := h x hx
  by_cases e : p x
  · rw [@decide_eq_true _ (Classical.propDecidable _) e, @decide_eq_true _ (Classical.propDecidable _) (this.1 e)]
  · rw [@decide_eq_false _ (Classical.propDecidable _) e, @decide_eq_false _ (Classical.propDecidable _) fun e' => e (this.2 e')]
theorem flt_map {α β : Type} {q : β → Prop} {f : α → β} {l : List α} : flt q (l.map f) = (flt (fun x => q (f x)) l).map f := by
  unfold flt; rw [List.filter_map]; rfl
theorem flt_sub {α : Type} {p : α → Prop} {l : List α} : (flt p l).Sublist l := List.filter_sublist
theorem flt_all {α : Type} {p : α → Prop} {l : List α} (h : ∀ x ∈ l, p x) : flt p l = l := by
  unfold flt; rw [List.filter_eq_self]; intro x hx; simpa using h x hx
theorem flt_flt {α : Type} {p q : α → Prop} {l : List α} : flt p (flt q l) = flt (fun x => q x ∧ p x) l := by
  unfold flt; rw [List.filter_filter]
  refine List.filter_congr fun x hx => ?_
  by_cases e : p x <;> by_cases e' : q x <;> simp [e, e']
theorem sub_flt {α : Type} {p : α → Prop} {s l : List α} (hs : s.Sublist l) (hn : l.Nodup) (h : ∀ x ∈ l, x ∈ s ↔ p x) : s = flt p l :=
  sub_filter hs hn fun x hx => by rw [h x hx]; simp
section
variable {T T' : TD} {D : SK → BK → Prop}
theorem has_key {k : SK} {r : BK} (h : hasB T k r) : k ∈ T.cs.map fun p => p.1 := by
  obtain ⟨x, h1, _⟩ := h
  exact List.mem_map.2 ⟨_, lkG_mem h1, rfl⟩
theorem key_has (W : TW T) {k : SK} (h : k ∈ T.cs.map fun p => p.1) : ∃ r, hasB T k r := by
  obtain ⟨p, hp, rfl⟩ := List.mem_map.1 h
  have h1 := lkG_of_mem (k := p.1) (u := p.2) W.ck hp
  obtain ⟨r, hr⟩ := bys_some (W.cne _ _ h1)
  exact ⟨r, p.2, h1, hr⟩
theorem has_mark (W : TW T) {k : SK} {r : BK} (h : hasB T k r) : r ∈ T.rs.map fun p => p.1 := by
  obtain ⟨x, h1, _⟩ := (W.bij k r).1 h
  exact List.mem_map.2 ⟨_, lkG_mem h1, rfl⟩
theorem mark_has (W : TW T) {r : BK} (h : r ∈ T.rs.map fun p => p.1) : ∃ k, hasB T k r := by
  obtain ⟨p, hp, rfl⟩ := List.mem_map.1 h
  have h1 := lkG_of_mem (k := p.1) (u := p.2) W.rk hp
  have hne := W.rne _ _ h1
  obtain ⟨k, hk⟩ : ∃ k, lkG p.2.ofs k = some () := by
    cases e : p.2.ofs with
    | nil => rw [e] at hne; exact absurd rfl hne
    | cons q t => exact ⟨q.1, by simp [lkG]⟩
  exact ⟨k, (W.bij k p.1).2 ⟨p.2, h1, hk⟩⟩
theorem Less.keysC (W : TW T) (L : Less T T' D) : T'.cs.map (fun p => p.1) = flt (fun k => ∃ r, hasB T' k r) (T.cs.map fun p => p.1) := by
  refine sub_flt ?_ W.ck fun k hk => ⟨key_has L.w, fun ⟨r, h⟩ => has_key h⟩
  have := L.sc.map fun p => p.1
  rwa [mp_keys, mp_keys] at this
theorem Less.keysR (W : TW T) (L : Less T T' D) : T'.rs.map (fun p => p.1) = flt (fun r => ∃ k, hasB T' k r) (T.rs.map fun p => p.1) := by
  refine sub_flt ?_ W.rk fun k hk => ⟨mark_has L.w, fun ⟨r, h⟩ => has_mark L.w h⟩
  have := L.sr.map fun p => p.1
  rwa [mp_keys, mp_keys] at this
end
structure Rel (T : TD) (J : JD) : Prop where
  heads : T.cs.map (fun p => p.1) = J.H.map kC
  marks : T.rs.map (fun p => p.1) = J.M.map kM
  has : ∀ k r, hasB T k r ↔ ∃ x ∈ J.L, kC x = k ∧ kM x.m = r
  nod : (J.L.map fun x => (kC x, kM x.m)).Nodup
  gl : ∀ x ∈ J.L, gdV x.vs ∧ gdE x.m.els
  gh : ∀ x ∈ J.H, gdV x.vs
  gm : ∀ m ∈ J.M, gdE m.els
section
variable {T T' : TD} {J J' : JD} {D : SK → BK → Prop}
theorem Rel.n (W : TW T) (R : Rel T J) : T.n = J.L.length := by
  have e : J.L.length = (J.L.map fun x : JE => (kC x, kM x.m)).length := by simp
  rw [W.sum, ← pairs_len, e]
  refine List.Perm.length_eq ((List.perm_ext_iff_of_nodup (pairs_nodup W) R.nod).2 fun p => ?_)
  obtain ⟨k, r⟩ := p
  rw [pairs_mem W, R.has, List.mem_map]
  exact ⟨fun ⟨x, h1, h2, h3⟩ => ⟨x, h1, by rw [h2, h3]⟩, fun ⟨x, h1, h2⟩ => by simp only [Prod.mk.injEq] at h2; exact ⟨x, h1, h2⟩⟩
theorem Rel.hlen (R : Rel T J) : J.H.length = T.cs.length := by have := congrArg List.length R.heads; simpa using this.symm
theorem Rel.mlen (R : Rel T J) : J.M.length = T.rs.length := by have := congrArg List.length R.marks; simpa using this.symm
theorem Rel.less (W : TW T) (R : Rel T J) (L : Less T T' D) (hL : J'.L = flt (fun x => ¬ D (kC x) (kM x.m)) J.L) (hH : J'.H = keepH J'.L J.H) (hM : J'.M = keepM J'.L J.M) : Rel T' J' := by
  have has : ∀ k r, hasB T' k r ↔ ∃ x ∈ J'.L, kC x = k ∧ kM x.m = r := fun k r => by
    rw [L.has, R.has, hL]
    constructor
    · rintro ⟨⟨x, h1, rfl, rfl⟩, h2⟩
      exact ⟨x, mem_flt.2 ⟨h1, h2⟩, rfl, rfl⟩
    · rintro ⟨x, h1, rfl, rfl⟩
      exact ⟨⟨x, (mem_flt.1 h1).1, rfl, rfl⟩, (mem_flt.1 h1).2⟩
  have gl : ∀ x ∈ J'.L, gdV x.vs ∧ gdE x.m.els := fun x hx => R.gl x (by rw [hL] at hx; exact (mem_flt.1 hx).1)
  refine ⟨?_, ?_, has, ?_, gl, fun x hx => R.gh x (by rw [hH] at hx; exact (mem_flt.1 hx).1), fun x hx => R.gm x (by rw [hM] at hx; exact (mem_flt.1 hx).1)⟩
  · rw [L.keysC W, R.heads, flt_map, hH]
    refine congrArg _ (flt_congr fun x hx => ?_)
    constructor
    · rintro ⟨r, h⟩
      obtain ⟨y, h1, h2, _⟩ := (has _ r).1 h
      simp only [kC, Prod.mk.injEq] at h2
      exact ⟨y, h1, h2.1, (gl y h1).1.inj (R.gh x hx) h2.2⟩
    · rintro ⟨y, h1, h2, h3⟩
      exact ⟨kM y.m, (has _ _).2 ⟨y, h1, by simp only [kC, h2, h3], rfl⟩⟩
  · rw [L.keysR W, R.marks, flt_map, hM]
    refine congrArg _ (flt_congr fun x hx => ?_)
    constructor
    · rintro ⟨k, h⟩
      obtain ⟨y, h1, _, h2⟩ := (has k _).1 h
      simp only [kM, Prod.mk.injEq] at h2
      exact ⟨y, h1, h2.1, (gl y h1).2.inj (R.gm x hx) h2.2⟩
    · rintro ⟨y, h1, h2, h3⟩
      exact ⟨kC y, (has _ _).2 ⟨y, h1, rfl, by simp only [kM, h2, h3]⟩⟩
  · rw [hL]; exact R.nod.sublist (flt_sub.map _)
theorem putG_keys {κ β γ : Type} [DecidableEq κ] [DecidableEq γ] {get : β → List (γ × Unit)} {set : β → List (γ × Unit) → β} {l : List (κ × β)} {k : κ} {r : γ} {new : β} :
    (k ∈ l.map (fun p => p.1) → (putG get set l k r new).map (fun p => p.1) = l.map fun p => p.1) ∧ (k ∉ l.map (fun p => p.1) → (putG get set l k r new).map (fun p => p.1) = l.map (fun p => p.1) ++ [k]) := by
  unfold putG
  refine ⟨fun h => ?_, fun h => ?_⟩
  · cases hx : lkG l k with
    | none => exact absurd h (lkG_none.1 hx)
    | some x => exact upG_keys hx
  · rw [upG_none (lkG_none.2 h)]; simp
theorem Rel.just (W : TW T) (R : Rel T J) {cls : Str} {l : List Val} {m : Mch} {x : CD} {y : RD} (gv : gdV l) (ge : gdE m.els) (F : Fresh T (cls, spV l) (m.core, kyM m.els) x y)
    (h : (dupJ J.L cls l m ∧ J' = J) ∨ (¬ dupJ J.L cls l m ∧ J'.L = J.L ++ [⟨cls, l, m⟩] ∧ J'.H = addH J.H cls l ∧ J'.M = addM J.M m)) : Rel (justT T (cls, spV l) (m.core, kyM m.els) x y) J' := by
  have dup : dupJ J.L cls l m ↔ hasB T (cls, spV l) (m.core, kyM m.els) := by
    rw [R.has]
    constructor
    · rintro ⟨y, h1, h2, h3, h4, h5⟩
      exact ⟨y, h1, by simp only [kC, h2, h3], by simp only [kM, h4, h5]⟩
    · rintro ⟨y, h1, h2, h3⟩
      simp only [kC, kM, Prod.mk.injEq] at h2 h3
      exact ⟨y, h1, h2.1, (R.gl y h1).1.inj gv h2.2, h3.1, (R.gl y h1).2.inj ge h3.2⟩
  have hh : ∀ k r, hasB (justT T (cls, spV l) (m.core, kyM m.els) x y) k r ↔ hasB T k r ∨ (k = (cls, spV l) ∧ r = (m.core, kyM m.els)) := just_hasB F
  have pc := putG_keys (get := CD.bys) (set := setC) (l := T.cs) (k := (cls, spV l)) (r := (m.core, kyM m.els)) (new := x)
  have pr := putG_keys (get := RD.ofs) (set := setR) (l := T.rs) (k := (m.core, kyM m.els)) (r := (cls, spV l)) (new := y)
  rcases h with ⟨hd, rfl⟩ | ⟨hd, hL, hH, hM⟩
  · have hB := dup.1 hd
    refine ⟨(pc.1 (has_key hB)).trans R.heads, (pr.1 (has_mark W hB)).trans R.marks, fun k r => ?_, R.nod, R.gl, R.gh, R.gm⟩
    rw [hh, ← R.has]
    exact ⟨fun q => q.elim id fun ⟨q1, q2⟩ => by rw [q1, q2]; exact hB, .inl⟩
  · refine ⟨?_, ?_, fun k r => ?_, ?_, ?_, ?_, ?_⟩
    · have ih : (∃ y ∈ J.H, y.cls = cls ∧ y.vs = l) ↔ (cls, spV l) ∈ T.cs.map fun p => p.1 := by
        rw [R.heads, List.mem_map]
        constructor
        · rintro ⟨y, h1, h2, h3⟩; exact ⟨y, h1, by simp only [kC, h2, h3]⟩
        · rintro ⟨y, h1, h2⟩
          simp only [kC, Prod.mk.injEq] at h2
          exact ⟨y, h1, h2.1, (R.gh y h1).inj gv h2.2⟩
      show (putG CD.bys setC T.cs (cls, spV l) (m.core, kyM m.els) x).map (fun p => p.1) = _
      rw [hH]
      unfold addH
      by_cases q : ∃ y ∈ J.H, y.cls = cls ∧ y.vs = l
      · rw [if_pos q, pc.1 (ih.1 q), R.heads]
      · rw [if_neg q, pc.2 fun q' => q (ih.2 q'), R.heads, List.map_append]; rfl
    · have ih : (∃ y ∈ J.M, y.core = m.core ∧ y.els = m.els) ↔ (m.core, kyM m.els) ∈ T.rs.map fun p => p.1 := by
        rw [R.marks, List.mem_map]
        constructor
        · rintro ⟨y, h1, h2, h3⟩; exact ⟨y, h1, by simp only [kM, h2, h3]⟩
        · rintro ⟨y, h1, h2⟩
          simp only [kM, Prod.mk.injEq] at h2
          exact ⟨y, h1, h2.1, (R.gm y h1).inj ge h2.2⟩
      show (putG RD.ofs setR T.rs (m.core, kyM m.els) (cls, spV l) y).map (fun p => p.1) = _
      rw [hM]
      unfold addM
      by_cases q : ∃ y ∈ J.M, y.core = m.core ∧ y.els = m.els
      · rw [if_pos q, pr.1 (ih.1 q), R.marks]
      · rw [if_neg q, pr.2 fun q' => q (ih.2 q'), R.marks, List.map_append]; rfl
    · rw [hh, R.has, hL]
      constructor
      · rintro (⟨y, h1, h2⟩ | ⟨h1, h2⟩)
        · exact ⟨y, List.mem_append_left _ h1, h2⟩
        · exact ⟨_, List.mem_append_right _ (List.mem_singleton.2 rfl), h1.symm, h2.symm⟩
      · rintro ⟨y, h1, h2, h3⟩
        rcases List.mem_append.1 h1 with h1 | h1
        · exact .inl ⟨y, h1, h2, h3⟩
        · rw [List.mem_singleton.1 h1] at h2 h3
          exact .inr ⟨h2.symm, h3.symm⟩
    · rw [hL, List.map_append, List.nodup_append]
      refine ⟨R.nod, by simp, fun a ha b hb e => ?_⟩
      simp only [List.map_cons, List.map_nil, List.mem_singleton] at hb
      obtain ⟨y, hy, rfl⟩ := List.mem_map.1 ha
      rw [hb] at e
      simp only [Prod.mk.injEq] at e
      exact hd (dup.2 ((R.has _ _).2 ⟨y, hy, e.1, e.2⟩))
    · intro y hy
      rw [hL] at hy
      rcases List.mem_append.1 hy with hy | hy
      · exact R.gl y hy
      · rw [List.mem_singleton.1 hy]; exact ⟨gv, ge⟩
    · intro y hy
      rw [hH] at hy
      unfold addH at hy
      split at hy
      · exact R.gh y hy
      · rcases List.mem_append.1 hy with hy | hy
        · exact R.gh y hy
        · rw [List.mem_singleton.1 hy]; exact gv
    · intro y hy
      rw [hM] at hy
      unfold addM at hy
      split at hy
      · exact R.gm y hy
      · rcases List.mem_append.1 hy with hy | hy
        · exact R.gm y hy
        · rw [List.mem_singleton.1 hy]; exact ge
theorem Rel.count (W : TW T) (R : Rel T J) {cls : Str} {l : List Val} :
    (badV l = true → (ofC J.L cls l).length = 0) ∧ (gdV l → lkG T.cs (cls, spV l) = none → (ofC J.L cls l).length = 0) ∧ ∀ x, gdV l → lkG T.cs (cls, spV l) = some x → x.bys.length = (ofC J.L cls l).length := by
  refine ⟨fun h => ?_, fun g h => ?_, fun x g h => ?_⟩
  · by_cases q : 0 < (ofC J.L cls l).length
    · obtain ⟨y, h1, h2, h3⟩ := ofC_pos.1 q
      have := (R.gl y h1).1.1
      rw [h3, h] at this; cases this
    · omega
  · by_cases q : 0 < (ofC J.L cls l).length
    · obtain ⟨y, h1, h2, h3⟩ := ofC_pos.1 q
      have hB := (R.has (cls, spV l) (kM y.m)).2 ⟨y, h1, by simp only [kC, h2, h3], rfl⟩
      exact absurd (has_key hB) (lkG_none.1 h)
    · omega
  · have e1 : x.bys.length = (x.bys.map fun p => p.1).length := by simp
    have e2 : (ofC J.L cls l).length = ((ofC J.L cls l).map fun y => kM y.m).length := by simp
    rw [e1, e2]
    have keyc : ∀ y ∈ ofC J.L cls l, kC y = (cls, spV l) := fun y hy => by
      have := (mem_flt.1 hy).2
      simp only [kC, this.1, this.2]
    have nd : ((ofC J.L cls l).map fun y => kM y.m).Nodup := by
      have h1 : ((ofC J.L cls l).map fun y => (kC y, kM y.m)).Nodup := R.nod.sublist (flt_sub.map _)
      have h2 : (ofC J.L cls l).map (fun y => (kC y, kM y.m)) = ((ofC J.L cls l).map fun y => kM y.m).map fun r => ((cls, spV l), r) := by
        rw [List.map_map]
        refine List.map_congr_left fun y hy => ?_
        simp only [Function.comp, keyc y hy]
      rw [h2] at h1
      rw [List.nodup_iff_pairwise_ne, List.pairwise_map] at h1
      rw [List.nodup_iff_pairwise_ne]
      exact h1.imp fun q e => q (by rw [e])
    refine List.Perm.length_eq ((List.perm_ext_iff_of_nodup (W.bn _ _ h) nd).2 fun r => ?_)
    have hx : lkG x.bys r = some () ↔ hasB T (cls, spV l) r := ⟨fun q => ⟨x, h, q⟩, fun ⟨x', q1, q2⟩ => by rw [h] at q1; cases q1; exact q2⟩
    have hm : r ∈ x.bys.map (fun p => p.1) ↔ lkG x.bys r = some () := by
      constructor
      · intro q
        obtain ⟨p, hp, rfl⟩ := List.mem_map.1 q
        exact lkG_of_mem (W.bn _ _ h) (show (p.1, ()) ∈ x.bys from hp)
      · intro q; exact List.mem_map.2 ⟨_, lkG_mem q, rfl⟩
    rw [hm, hx, R.has, List.mem_map]
    constructor
    · rintro ⟨y, h1, h2, h3⟩
      simp only [kC, Prod.mk.injEq] at h2
      exact ⟨y, mem_flt.2 ⟨h1, h2.1, (R.gl y h1).1.inj g h2.2⟩, h3⟩
    · rintro ⟨y, h1, h2⟩
      exact ⟨y, (mem_flt.1 h1).1, keyc y h1, h2⟩
end
end Go.Proofs.Ytbamgdknkhhikaa
namespace Go.Proofs.Ytbamgdknkhhikaa
open Go.Ab
set_option linter.unusedSimpArgs false
set_option linter.unusedVariables false
def GMk (B b : Nat) (r : BK) (h : AHeap) (lo hi : Nat) (a c : AV) : Prop := ∃ m, r = kM m ∧ badE m.els = false ∧ szL szEl m.els ≤ B ∧ a.leaf = true ∧ c.leaf = true ∧ b ≤ lo ∧ Gm m h lo hi a c
structure Ask (B b ask xb : Nat) (cx : List AV) (rs : List BK) (i : Nat) (g : AHeap) (X : Nat → Prop) : Prop where
  x : Var g xb cx
  q : ∃ (av : AV) (es : List (List AV)), Var g ask [av] ∧ Own b g 3 av es ∧ es.length = i ∧ (∀ j, X j ↔ j = ask ∨ inRow av j) ∧
    ∀ (j : Nat) (e : List AV), es[j]? = some e → ∃ (r : BK) (a c : AV) (lo hi : Nat), e = [.int .i64 r.1, a, c] ∧ rs[j]? = some r ∧ GMk B b r g lo hi a c ∧ hi ≤ g.sz ∧ ∀ p, X p → ¬ (lo ≤ p ∧ p < hi)
section
variable {B b ask xb : Nat} {cx : List AV} {rs : List BK} {i : Nat} {g g' : AHeap} {X Y : Nat → Prop}
theorem GMk.fr {r : BK} {lo hi : Nat} {a c : AV} (G : GMk B b r g lo hi a c) (k : Kp lo hi g g') : GMk B b r g' lo hi a c :=
  let ⟨m, q1, q2, q3, q4, q5, q6, q7⟩ := G; ⟨m, q1, q2, q3, q4, q5, q6, q7.fr k⟩
theorem Ask.fr (A : Ask B b ask xb cx rs i g X) (f : Fr Y g g') (hb : ∀ j, Y j → j < b) (ha : ¬ Y ask) (hx : ¬ Y xb) : Ask B b ask xb cx rs i g' X := by
  obtain ⟨av, es, q1, q2, q3, q4, q5⟩ := A.q
  refine ⟨f.var A.x hx, av, es, f.var q1 ha, Own.fr q2 f fun j hj y => by have := hb j y; have := own_row q2 hj; omega, q3, q4, fun j e he => ?_⟩
  obtain ⟨r, a, c, lo, hi, u1, u2, u3, u4, u5⟩ := q5 j e he
  have hlo : b ≤ lo := by obtain ⟨m, _, _, _, _, _, q6, _⟩ := u3; exact q6
  exact ⟨r, a, c, lo, hi, u1, u2, u3.fr (Kp.of_fr f fun p y ⟨w, _⟩ => by have := hb p y; omega), Nat.le_trans u4 f.sz, u5⟩
theorem c14 {n : Nat} {h0 : AHeap} {lv : AV} {live : List Int} {r : BK} {lo hi : Nat} {a c : AV} {K : Kont} (k0 : h0.Ok) (e0 : Ext h0 g) (hb0 : h0.sz ≤ b) (hbg : b ≤ g.sz) (o : g.Ok) (A : Ask B b ask xb cx rs i g X) (hr : rs[i]? = some r) (G : GMk B b r g lo hi a c) (hhi : hi ≤ g.sz) (hX : ∀ p, X p → ¬ (lo ≤ p ∧ p < hi))
    (hne : ask ≠ xb) (hnb : xb < b) (hlo : h0.sz ≤ ask) (hlv : nth cx 6 = some lv) (VL : View h0 1 lv (ints live)) (hll : live.length < n) (hL : n < lim) (hi' : i < 1000)
    (kk : ∀ h2 X', h2.Ok → Fr X g h2 → Ask B b ask xb cx rs (i + 1) h2 X' → (∀ j, X' j → (X j ∨ g.sz ≤ j) ∧ j < h2.sz) → K (.bool (decide (r.1 ∈ live))) h2 = true) :
    callN E (n + 2) (.func 14) [.agg [.int .i64 r.1, a, c], .ptr ask 0 0 0, .ptr xb 0 0 0] g K = true := by
  have hmo : most = 1099511627776 := rfl
  obtain ⟨av, es, q1, q2, q3, q4, q5⟩ := A.q
  obtain ⟨m, m1, m2, m3, la, lc, m6, m7⟩ := G
  apply d14
  unfold s14
  obtain ⟨g1, b1, V1, e1, o1, z1⟩ := box_v (n := 3) (v := .agg [.int .i64 r.1, a, c]) o rfl (by decide) (by simp only [AV.cells, allLeaf, la, lc]; rfl)
  have V1 : Var g1 g.sz [.int .i64 r.1, a, c] := V1
  refine z_p b1 ?_
  have A0 : loadA g1 false 1 (.ptr ask 0 0 0) = some av := (q1.ext e1).get rfl
  have A1 : loadA g1 true 3 (.ptr g.sz 0 0 0) = some (.agg [.int .i64 r.1, a, c]) := V1.all rfl
  refine z_of A0 ?_; refine z_of A1 ?_
  obtain ⟨w, g2, c1, c2, e2, o2, z2, _⟩ := bslice1_v (sz := 3) (z := [.int .i64 0, .nilSlc, .nilSlc]) (v := .agg [.int .i64 r.1, a, c]) o1 rfl (by decide) (by decide) rfl rfl (by simp only [AV.cells, allLeaf, la, lc]; rfl)
  have c2 : View g2 3 w [[.int .i64 r.1, a, c]] := c2
  refine z_p c1 ?_
  have e02 := ext_two e1 e2
  obtain ⟨av', g3, a1, a2, a3, a4, a5, a6⟩ := own_app2 (b := b) (bytes := 56) (q2.ext e02) (by decide) (by have := e02.1; omega) o2 k0 (ext_two e0 e02) hb0 c2.src (by rw [q3]; simp; omega) (by rw [q3]; simp; omega)
  refine z_p a1 ?_
  have lask := q1.lt o
  have lx := A.x.lt o
  have nra : ¬ inRow av ask := fun q => by
    obtain ⟨es', w'⟩ : ∃ es', Own b g 3 av es' := ⟨es, q2⟩
    rcases w' with ⟨rfl, _⟩ | ⟨id, rr, _, rfl, w3, _, _, w6, w7⟩
    · exact absurd q inRow_nil
    · rw [inRow_slc.1 q] at w3
      have q1' : g.row ask = _ := q1
      rw [w3] at q1'
      injection q1' with q1'
      have := congrArg Row.sz q1'
      rw [w6] at this
      simp [VRow] at this
  obtain ⟨g4, w1, V4, w3, o4, w5⟩ := (a5.var (q1.ext e02) nra).wr a3 (off := 0) (v := av') (show 0 < 1 by decide) a2.view.leaf
  refine z_u w1 ?_
  have V4 : Var g4 ask [av'] := V4
  have nxr : ¬ inRow av xb := fun q => by have := own_row q2 q; omega
  have X4 : Var g4 xb cx := w3.var (a5.var (A.x.ext e02) nxr) (fun q => hne q.symm)
  have B1 : Var g4 g.sz [.int .i64 r.1, a, c] := w3.var (a5.var (V1.ext e2) fun q => by have := own_lt (own_low q2) o q; omega) (by omega)
  have L6 : loadA g4 false 1 (.ptr xb 0 0 6) = some lv := X4.get hlv
  have L0 : loadA g4 false 1 (.ptr g.sz 0 0 0) = some (.int .i64 r.1) := B1.get rfl
  refine z_fadr ?_; refine z_of L6 ?_; refine z_fadr ?_; refine z_of L0 ?_
  have F : Fr X g g4 := ((Fr.of_ext e02).trans (a5.mono fun j q => (q4 j).2 (.inr q))).trans (Fr.of_but ((q4 ask).2 (.inl rfl)) w3)
  have eg4 : Ext h0 g4 := w3.ext a4 k0 hlo
  refine c15 (VL.ext eg4) hll hL fun b' hb' => ?_
  have : b' = decide (r.1 ∈ live) := by
    cases b' with
    | true => exact (decide_eq_true (hb'.1 rfl)).symm
    | false => exact (decide_eq_false fun q => by cases hb'.2 q).symm
  rw [this]
  have s4 : g.sz ≤ g4.sz := F.sz
  have s2 := e02.1
  refine kk g4 (fun j => j = ask ∨ inRow av' j) o4 F ⟨X4, av', es ++ [[.int .i64 r.1, a, c]], V4, Own.fr a2 (Fr.of_but (X := fun j => j = ask) rfl w3) (fun j q q' => ?_), by simp [q3], fun j => Iff.rfl, fun j e he => ?_⟩ fun j q => ?_
  · subst q'
    rcases a6 j q with q | q
    · exact nra q
    · omega
  · by_cases hj : j < i
    · rw [List.getElem?_append_left (by omega)] at he
      obtain ⟨r', a', c', lo', hi'', u1, u2, u3, u4, u5⟩ := q5 j e he
      refine ⟨r', a', c', lo', hi'', u1, u2, u3.fr (Kp.of_fr F u5), by omega, fun p hp hp2 => ?_⟩
      rcases hp with hp | hp
      · exact u5 p ((q4 p).2 (.inl hp)) hp2
      · rcases a6 p hp with q | q
        · exact u5 p ((q4 p).2 (.inr q)) hp2
        · omega
    · have : j = i := by
        have := (List.getElem?_eq_some_iff.1 he).1
        simp [q3] at this; omega
      subst this
      rw [List.getElem?_append_right (by omega), q3, Nat.sub_self] at he
      simp at he
      subst he
      refine ⟨r, a, c, lo, hi, rfl, hr, ⟨m, m1, m2, m3, la, lc, m6, m7.fr (Kp.of_fr F hX)⟩, by omega, fun p hp hp2 => ?_⟩
      rcases hp with hp | hp
      · exact hX p ((q4 p).2 (.inl hp)) hp2
      · rcases a6 p hp with q | q
        · exact hX p ((q4 p).2 (.inr q)) hp2
        · omega
  · rcases q with q | q
    · subst q; exact ⟨.inl ((q4 j).2 (.inl rfl)), by omega⟩
    · refine ⟨?_, own_lt (own_low (Own.fr a2 (Fr.of_but (X := fun j => j = ask) rfl w3) fun j q q' => by
        subst q'
        rcases a6 j q with q | q
        · exact nra q
        · omega)) o4 q⟩
      rcases a6 j q with q | q
      · exact .inl ((q4 j).2 (.inr q))
      · exact .inr (by omega)
end
end Go.Proofs.Ytbamgdknkhhikaa
namespace Go.Proofs.Ytbamgdknkhhikaa
open Go.Ab
set_option linter.unusedSimpArgs false
set_option linter.unusedVariables false
def Told (B : Nat) (rs : List BK) (ask : Nat) (g : AHeap) : Prop := ∃ (av : AV) (es : List (List AV)), Var g ask [av] ∧ View g 3 av es ∧ es.length = rs.length ∧
  ∀ (j : Nat) (e : List AV), es[j]? = some e → ∃ (m : Mch) (a c : AV), e = [.int .i64 m.core, a, c] ∧ rs[j]? = some (kM m) ∧ badE m.els = false ∧ szL szEl m.els ≤ B ∧ EV g a m.els ∧ c.leaf = true
def liveK (rs : List BK) (live : List Int) (j : Nat) : Bool := match rs[j]? with | some r => decide (r.1 ∈ live) | none => false
theorem liveK_eq {rs : List BK} {live : List Int} {j : Nat} {r : BK} (h : rs[j]? = some r) : liveK rs live j = decide (r.1 ∈ live) := by unfold liveK; rw [h]
section
variable {B : Nat} {h0 hb h : AHeap} {τ : Nat → Tag} {T : TD} {i N : Nat} {K : Kont}
theorem keep_ok2 {ask xb : Nat} {cx : List AV} {lv : AV} {live : List Int} (k0 : h0.Ok) (I : CI B h0 hb τ T i) (e : Ext hb h) (o : h.Ok) (Va : Var h ask [.nilSlc]) (Vx : Var h xb cx) (hlv : nth cx 6 = some lv) (VL : View h0 1 lv (ints live)) (hla : hb.sz ≤ ask) (hlx : hb.sz ≤ xb) (hne : ask ≠ xb) (hll : live.length ≤ B)
    (hi : i < 1000) (hB : B < 100000000) (hN : 2 * B + 2000 ≤ N) (hL : N < 1000000000)
    (kk : ∀ h' T', CI B h0 h' τ T' i → T'.p = T.p → Fr (W8 τ) hb h' → Less T T' (fun _ r => r.1 ∉ live) → (∀ g, Fr (fun j => τ j = .jus) h' g → Told B (rkeys T) ask g) → (∃ cx', Var h' xb cx' ∧ cx' = cx) → K (.int .i64 ((T.n : Int) - (T'.n : Int))) h' = true) :
    callN E (N + 20) (.func 13) [.ptr T.p 0 0 0, .fn (.func 14) [] [.ptr ask 0 0 0, .ptr xb 0 0 0]] h K = true := by
  have hlm : lim = 4611686018427387904 := rfl
  have hrs := rs_le I.w
  have hcn := I.cn
  have hca := I.ca
  have se := e.1
  have s0 := I.e.1
  have lask := Va.lt o
  have lxb := Vx.lt o
  have hW : ∀ {g}, Fr (fun j => (τ j).own ∨ j = ask) h g → Fr (W8 τ) hb g := fun F => fr_acc I.o.ok (Fr.of_ext e) F fun j w => by
    rcases w with w | w
    · exact .inl w
    · right; omega
  have ownlt : ∀ j, (τ j).own → j < hb.sz := fun j w => by
    by_cases q : j < hb.sz
    · exact q
    · rw [I.o.hi j (by omega)] at w; exact w.elim
  have rkl : (rkeys T).length = T.rs.length := by simp [rkeys]
  have O := I.o.ext e o
  refine c13 (n := N + 17) (live := liveK (rkeys T) live) (J := fun i g X => Ask B h.sz ask xb cx (rkeys T) i g X) (X0 := fun j => j = ask) (GM := fun r g lo hi a c => GMk B h.sz r g lo hi a c) O I.w (by omega) (by omega) (by omega) (by omega) (by omega) (fun _ => rfl)
    (fun j x => by subst x; exact ⟨I.o.hi _ hla, lask⟩) ⟨Vx, .nilSlc, [], Va, Own.nil _ _ _, rfl, fun j => ⟨.inl, fun q => q.elim id fun q => absurd q inRow_nil⟩, by simp⟩
    (fun i h1 h2 X A F => A.fr F (fun j w => by have := ownlt j w; omega) (fun w => by have := ownlt _ w; omega) fun w => by have := ownlt _ w; omega)
    (fun r y hy h1 o1 F1 K' kk' => ?_) (fun j r y hr hy h1 X a b lo hi o1 F1 A G hhi hX K' kk' => ?_) fun h' T' X O' L' A F' => ?_
  · obtain ⟨hco, m, lo, hi', q1, q2, q3, q4, q5, q6, q7, q8⟩ := I.d.r r y hy
    have F := hW F1
    obtain ⟨u1, u2⟩ := q6 h1 (Kp.of_fr F fun j w ⟨a, b⟩ => by have w : (τ j).own := w; rw [q8 j a b] at w; exact w)
    exact c41 (n := N + 18) o1 u1 u2 (by omega) (by omega) (by omega) fun h2 a b e2 o2 la lb _ _ G => kk' h2 a b e2 o2 ⟨m, q1, q2, by omega, la, lb, F1.sz, G⟩
  · refine z_cv ?_
    have hco := (I.d.r r y hy).1
    rw [hco]
    have F := hW F1
    have hjl : j < T.rs.length := by have := (List.getElem?_eq_some_iff.1 hr).1; omega
    refine c14 (n := N + 17) (h0 := h0) (lv := lv) (live := live) k0 (I.ext_fr k0 F) (by omega) F1.sz o1 A hr G hhi hX hne lxb (by omega) hlv VL (by omega) (by omega) (by omega) fun h2 X' o2 F2 A2 hX' => ?_
    have := kk' h2 X' o2 F2 A2 hX'
    rw [liveK_eq hr] at this
    exact this
  · have F := hW F'
    have hle : T'.n ≤ T.n := by
      rw [L'.w.sum, I.w.sum, ← pairs_len, ← pairs_len]
      exact nodup_len (pairs_nodup L'.w) fun p hp => by
        obtain ⟨k, r⟩ := p
        exact (pairs_mem I.w).2 ((L'.has k r).1 ((pairs_mem L'.w).1 hp)).1
    refine kk h' T' ⟨O', L'.w, I.ext_fr k0 F, I.t0, (I.d.fr F fun j w => own_ne w).less I.w L', by omega, by have := L'.came; omega⟩ L'.p F (L'.iff fun k r hB => ?_) (fun g Fg => ?_) ⟨cx, A.x, rfl⟩
    · constructor
      · rintro ⟨j, _, h2, h3⟩
        rw [liveK_eq h2] at h3
        simpa using h3
      · intro hn
        obtain ⟨j, hj, he⟩ := List.mem_iff_getElem.1 (has_mark I.w hB)
        have he : (rkeys T)[j]? = some r := by rw [← he]; exact List.getElem?_eq_getElem hj
        refine ⟨j, by simpa using hj, he, ?_⟩
        rw [liveK_eq he]
        simpa using hn
    · obtain ⟨av, es, q1, q2, q3, q4, q5⟩ := A.q
      have nj : ∀ j, hb.sz ≤ j → ¬ τ j = .jus := fun j l q => by rw [I.o.hi j l] at q; cases q
      refine ⟨av, es, Fg.var q1 (nj _ hla), (Own.fr q2 Fg fun j q => nj j (by have := own_row q2 q; omega)).view, by omega, fun j e he => ?_⟩
      obtain ⟨r, a, c, lo, hi', u1, u2, ⟨m, m1, m2, m3, m4, m5, m6, m7⟩, u4, u5⟩ := q5 j e he
      refine ⟨m, a, c, by rw [u1, m1]; rfl, by rw [u2, m1], m2, m3, ?_, m5⟩
      exact (m7 g (Kp.of_fr Fg fun p w ⟨w1, _⟩ => nj p (by omega) w)).1
end
end Go.Proofs.Ytbamgdknkhhikaa
namespace Go.Proofs.Ytbamgdknkhhikaa
open Go.Ab
set_option linter.unusedSimpArgs false
set_option linter.unusedVariables false
structure Both (B : Nat) (h0 h : AHeap) (σ : Nat → Tag) (T : TD) (J : JD) (i : Nat) : Prop where
  I : CI B h0 h σ T i
  O : JO B σ h0 h J
  R : Rel T J
section
variable {B : Nat} {h0 hs h : AHeap} {σ : Nat → Tag} {T : TD} {J : JD} {i N : Nat} {K : Kont}
theorem Both.ext (b : Both B h0 hs σ T J i) (e : Ext hs h) (o : h.Ok) : Both B h0 h σ T J i := ⟨b.I.ext e o, b.O.ext e o, b.R⟩
theorem l3_128_ok {B26 : F4} {x1 : AV} {x5 : AV} {out : AV} {vs : List (AV × Nat × Nat)} {b : Nat} (Bo : Both B h0 hs σ T J i) (hb : hs.sz ≤ b) {h1 : AHeap} (e1 : Ext hs h1) (o1 : h1.Ok) (Ou : Outs (GC B) b h1 out T.cs vs) (hi : i < 100) (hB : B < 100000000) (hN : 2 * B + 2000 ≤ N) (hL : N < 1000000000)
    (kk : ∀ h', Ext hs h' → h'.Ok → p3_149 (callN E (N + 20)) (N + 20) B26 x1 (.ptr T.p 0 0 0) (.ptr J.p 0 0 0) x5 h' K = true) :
    l3_128 (callN E (N + 20)) (N + 20) B26 (N + 20) x1 (.ptr T.p 0 0 0) (.ptr J.p 0 0 0) x5 out (.int .i64 0) h1 K = true := by
  have hlm : lim = 4611686018427387904 := rfl
  have hle := Bo.I.le
  have hlen := Bo.R.hlen
  suffices H : ∀ q k g, T.cs.length - k < q → k ≤ T.cs.length → Ext hs g → g.Ok → View g 2 out (outE T.cs vs) → (∀ (i' : Nat) u, k ≤ i' → vs[i']? = some u → Kp u.2.1 u.2.2 h1 g) → h1.sz ≤ g.sz →
      l3_128 (callN E (N + 20)) (N + 20) B26 q x1 (.ptr T.p 0 0 0) (.ptr J.p 0 0 0) x5 out (.int .i64 (k : Int)) g K = true from
    H (N + 20) 0 h1 (by omega) (Nat.zero_le _) e1 o1 Ou.own.view (fun _ _ _ _ => Kp.refl _ _ _) (Nat.le_refl _)
  intro q
  induction q with
  | zero => intro k g hm; omega
  | succ q ihm =>
    intro k g hq hk e o V kp hg
    unfold l3_128 b3_128
    have VL : lenA g 1 out = some (.int .i64 (T.cs.length : Int)) := by have := V.len; rwa [outE_len Ou.len] at this
    refine z_of VL ?_; refine z_lss ?_
    by_cases hlt : k < T.cs.length
    · refine z_ct (decide_eq_true (by omega)) ?_
      have hp := List.getElem?_eq_getElem hlt
      have hlt2 : k < J.H.length := by omega
      have hu := List.getElem?_eq_getElem (show k < vs.length by rw [Ou.len]; exact hlt)
      have ho : (outE T.cs vs)[k]? = some [.str (T.cs[k]).2.cls, (vs[k]'(by rw [Ou.len]; exact hlt)).1] := by
        unfold outE; rw [List.getElem?_zipWith, hp, hu]
      obtain ⟨⟨l, q1, q2, q3, q4, q5⟩, q6, q7, q8⟩ := Ou.g k _ _ hp hu
      have hkey : kC J.H[k] = (T.cs[k]).1 := by
        have h1 : (T.cs.map fun p => p.1)[k]? = some (T.cs[k]).1 := by rw [List.getElem?_map, hp]; rfl
        rw [Bo.R.heads, List.getElem?_map, List.getElem?_eq_getElem hlt2] at h1
        simpa using h1
      have kpk := kp k _ (Nat.le_refl _) hu
      have dis : ∀ (i' : Nat) u', k < i' → vs[i']? = some u' → (vs[k]'(by rw [Ou.len]; exact hlt)).2.2 ≤ u'.2.1 := fun i' u' h1 h2 => by
        have h3 := List.getElem?_eq_some_iff.1 h2
        have := List.pairwise_iff_getElem.1 Ou.pw k i' (by rw [Ou.len]; exact hlt) h3.1 h1
        rw [h3.2] at this; exact this
      generalize hvv : vs[k]'(by rw [Ou.len]; exact hlt) = u at *
      generalize hpp : T.cs[k] = p at *
      have Og := Bo.O.ext e o
      refine c26 (n := N + 19) Og hlt2 fun w D => ?_
      have gh := Bo.R.gh _ (List.getElem_mem hlt2)
      obtain ⟨n1, n2⟩ : J.H[k].cls = p.2.cls ∧ spV J.H[k].vs = spV l := by
        rw [q1] at hkey
        simp only [kC, Prod.mk.injEq] at hkey; exact hkey
      obtain ⟨id, gg, j, p1, p2⟩ := V.at1 ho
      have A0 : loadA g false 1 (.ptr id gg j 0) = some (.str p.2.cls) := by rw [p2]; rfl
      have A1 : loadA g false 1 (.ptr id gg j 1) = some u.1 := by rw [p2]; rfl
      have G := q5.fr kpk
      have hvl : l = J.H[k].vs := gdV.inj ⟨q2, g, u.1, G.now⟩ gh n2.symm
      refine z_ext0 ?_; refine z_ext1 ?_; refine z_of (p1 .i64) ?_; refine z_fadr ?_; refine z_of A0 ?_; refine z_sne ?_
      rw [decide_eq_true n1.symm, Bool.not_true]
      refine z_gff ?_; refine z_some ?_; refine z_gff ?_; refine z_some ?_; refine z_gff ?_; refine z_of (p1 .i64) ?_; refine z_gff ?_; refine z_fadr ?_; refine z_gff ?_; refine z_of A1 ?_; refine z_gff ?_; refine z_some ?_; refine z_rff ?_
      refine c27 B (N + 19) G.now D.now o q3 (by omega) (by omega) (by omega) fun g4 r e4 o4 hr => ?_
      have hrt : r = true := hr.2 hvl
      subst hrt
      obtain ⟨p1', p2'⟩ : (∀ k', iadrA g4 2 out (.int k' (k : Int)) = some (.ptr id gg j 0)) ∧ loadA g4 false 1 (.ptr id gg j 1) = some u.1 := by
        obtain ⟨id', gg', j', u'⟩ := V.atE ho
        have h1 := (u' g (Ext.refl _)).1 .i64
        rw [p1 .i64] at h1
        injection h1 with h1
        injection h1 with h1 h2 h3 _
        subst h1; subst h2; subst h3
        exact ⟨(u' g4 e4).1, by rw [(u' g4 e4).2]; rfl⟩
      refine z_gff ?_; refine z_notT ?_; refine z_kf ?_; refine z_cF ?_; refine z_of (p1' .i64) ?_; refine z_fadr ?_; refine z_of p2' ?_
      obtain ⟨d, OW⟩ := (G.fr (Kp.of_ext e4)).ow
      have s4 := e4.1
      refine c12 d (N + 19) OW o4 (by omega) (by omega) (by omega) (by omega) fun g5 f5 o5 => ?_
      refine z_of (inc64 (i := k) (by omega)) ?_
      have F : Fr (Inn u.2.1 u.2.2) g g5 := (Fr.of_ext e4).trans f5
      refine ihm (k + 1) g5 (by omega) (by omega) (f5.ext (ext_two e e4) Bo.O.ok fun j hj => by have := hj.1; omega) o5 ?_ (fun i' u' h1 h2 => ?_) (by have := F.sz; omega)
      · refine F.view V fun id g s l c ex hv hin => ?_
        exact q8 id (by rw [hv]; exact ⟨_, _, _, _, _, rfl⟩) hin
      · refine (kp i' u' (by omega) h2).trans (Kp.of_fr F fun j hj hj2 => ?_)
        have := dis i' u' (by omega) h2
        have := hj.2; have := hj2.1
        omega
    · refine z_cf (decide_eq_false (by omega)) ?_
      exact kk g e o
theorem z_sg {o : Option AV} {u : AV} {r : Bool} (e : o = some u) (j : AV.same u u = true) (s : r = true) : sameG (wantV (.bool false) false) o u r = true := z_same e j s
theorem count_ok {s : Stp} {vv ev nv : AV} (Bo : Both B h0 hs σ T J i) (A : Arg B h0 s vv ev nv) (hi : i < 100) (hB : B < 100000000) (hN : 2 * B + 2000 ≤ N) (hL : N < 1000000000)
    (kk : ∀ h', Ext hs h' → h'.Ok → K (.int .i64 ((ofC J.L s.cls s.vs).length : Int)) h' = true) : callN E (N + 20) (.func 24) [.ptr T.p 0 0 0, .agg [.str s.cls, vv]] hs K = true := by
  have hlm : lim = 4611686018427387904 := rfl
  have hb := A.b
  obtain ⟨r1, r2, r3⟩ := Bo.R.count Bo.I.w (cls := s.cls) (l := s.vs)
  have V1 : ∀ {g'}, Ext hs g' → VV g' vv s.vs := fun e' => A.v.ext (ext_two Bo.I.e e')
  have gd : badV s.vs = false → gdV s.vs := fun q => ⟨q, h0, vv, A.v⟩
  refine c24 (n := N + 19) (k := (s.cls, spV s.vs)) (bad := badV s.vs) Bo.I.o A.v.leaf (fun h1 o1 e1 K' kk' => c38 (n := N + 15) (V1 e1) o1 (by omega) (by omega) (by omega) kk') (fun h1 o1 e1 K' kk' => c35 (n := N + 13) (V1 e1) o1 (by omega) (by omega) kk') (fun h' e' o' hh => ?_) fun x h' e' o' hx hbd => ?_
  · have : (ofC J.L s.cls s.vs).length = 0 := by
      cases hbd : badV s.vs with
      | true => exact r1 hbd
      | false =>
        rcases hh with hh | hh
        · exact r2 (gd hbd) hh
        · rw [hbd] at hh; cases hh
    have k := kk h' e' o'
    rw [this] at k
    exact k
  · rw [r3 x (gd hbd) hx]
    exact kk h' e' o'
theorem p3_115_ok {B26 : F4} {x1 x5 : AV} {s : Stp} {vv ev nv lv : AV} {xb : Nat} (Bo : Both B h0 hs σ T J i) (k0 : h0.Ok) (A : Arg B h0 s vv ev nv) (VX : Var hs xb [.int .i64 s.op, .str s.cls, vv, .int .i64 s.m.core, ev, nv, lv]) (hi : i < 100) (hB : B < 100000000) (hN : 2 * B + 2000 ≤ N) (hL : N < 1000000000)
    (kk : ∀ h', Ext hs h' → h'.Ok → p3_149 (callN E (N + 20)) (N + 20) B26 x1 (.ptr T.p 0 0 0) (.ptr J.p 0 0 0) x5 h' K = true) :
    p3_115 (callN E (N + 20)) (N + 20) B26 x1 (.ptr T.p 0 0 0) (.ptr J.p 0 0 0) x5 (.ptr xb 0 0 0) hs K = true := by
  have hlm : lim = 4611686018427387904 := rfl
  have hle := Bo.I.le
  have hcn := Bo.I.cn
  have hlen := Bo.R.hlen
  have hnn := Bo.R.n Bo.I.w
  have hb := A.b
  unfold p3_115
  refine contents_ok Bo.I (by omega) hB hN hL fun h1 out vs b hb e1 o1 Ou => ?_
  have VL : lenA h1 1 out = some (.int .i64 (T.cs.length : Int)) := by have := Ou.own.view.len; rwa [outE_len Ou.len] at this
  have B1 := Bo.ext e1 o1
  refine z_of VL ?_
  refine c22 (n := N + 19) B1.O ?_
  refine z_same VL (same_int _ _) ?_
  refine z_neq ?_
  rw [decide_eq_true (show (T.cs.length : Int) = (J.H.length : Int) by omega), Bool.not_true]
  have l0 : loadA h1 false 1 (.ptr J.p 0 0 0) = some J.a := B1.O.l0
  have ll : lenA h1 1 J.a = some (.int .i64 (J.L.length : Int)) := B1.O.L.len h1
  refine z_gff ?_; refine z_some ?_; refine z_gff ?_; refine z_some ?_; refine z_gff ?_; refine z_nil ?_; refine z_gff ?_; refine z_fadr ?_; refine z_gff ?_; refine z_of l0 ?_; refine z_gff ?_; refine z_of ll ?_; refine z_rff ?_
  refine c23 (n := N + 19) B1.I.o ?_
  refine z_sg l0 (let ⟨es, w, a⟩ := B1.O.L; w.view.same) ?_
  refine z_sg ll (same_int _ _) ?_
  refine z_gff ?_; refine z_neq ?_; refine z_kf ?_
  rw [decide_eq_true (show (T.n : Int) = (J.L.length : Int) by omega), Bool.not_true]
  have X1 : ∀ {g}, Ext h1 g → loadA g false 1 (.ptr xb 0 0 1) = some (.str s.cls) := fun e => (VX.ext (ext_two e1 e)).get rfl
  have X2 : ∀ {g}, Ext h1 g → loadA g false 1 (.ptr xb 0 0 2) = some vv := fun e => (VX.ext (ext_two e1 e)).get rfl
  have e0 := Ext.refl h1
  refine z_gff ?_; refine z_some ?_; refine z_gff ?_; refine z_fadr ?_; refine z_gff ?_; refine z_of (X1 e0) ?_; refine z_gff ?_; refine z_fadr ?_; refine z_gff ?_; refine z_of (X2 e0) ?_; refine z_gff ?_; refine z_of (build2 (a := .str s.cls) rfl A.v.leaf) ?_; refine z_gff ?_; refine z_some ?_; refine z_gff ?_; refine z_fadr ?_; refine z_gff ?_; refine z_of (X1 e0) ?_; refine z_gff ?_; refine z_fadr ?_; refine z_gff ?_; refine z_of (X2 e0) ?_; refine z_rff ?_
  refine count_ok B1 A hi hB hN hL fun h2 e2 o2 => ?_
  have B2 := B1.ext e2 o2
  refine z_sg (X1 e2) (same_str _) ?_
  refine z_sg (X2 e2) A.v.sm ?_
  refine z_rff ?_
  refine c25 (n := N + 19) B2.O (A.v.ext B2.I.e) (by omega) (by omega) (by omega) (by omega) fun h3 e3 o3 => ?_
  have e13 := ext_two e2 e3
  refine z_gff ?_; refine z_neq ?_; refine z_kf ?_
  refine z_cf (by simp) ?_
  unfold p3_125
  refine l3_128_ok Bo hb (ext_two e1 e13) o3 ⟨Ou.own.ext e13, Ou.len, fun i' p u h1 h2 => ?_, Ou.pw⟩ hi hB hN hL kk
  obtain ⟨⟨l, q1, q2, q3, q4, q5⟩, q6, q7, q8⟩ := Ou.g i' p u h1 h2
  exact ⟨⟨l, q1, q2, q3, q4, q5.fr (Kp.of_ext e13)⟩, q6, Nat.le_trans q7 e13.1, q8⟩
end
end Go.Proofs.Ytbamgdknkhhikaa
namespace Go.Proofs.Ytbamgdknkhhikaa
open Go.Ab
set_option linter.unusedSimpArgs false
set_option linter.unusedVariables false
def deadJ (M : List Mch) (live : List Int) (k : Nat) (x : JE) : Prop := ∃ (j : Nat) (m : Mch), j < k ∧ M[j]? = some m ∧ m.core ∉ live ∧ x.m.core = m.core ∧ x.m.els = m.els
noncomputable def leftJ (M : List Mch) (live : List Int) (k : Nat) (L : List JE) : List JE := flt (fun x => ¬ deadJ M live k x) L
section
variable {M : List Mch} {live : List Int} {k : Nat} {L : List JE}
theorem leftJ_zero : leftJ M live 0 L = L := flt_all fun x _ ⟨j, m, h, _⟩ => by omega
theorem leftJ_stay {m : Mch} (h : M[k]? = some m) (hl : m.core ∈ live) : leftJ M live (k + 1) L = leftJ M live k L := by
  refine flt_congr fun x _ => not_congr ⟨?_, fun ⟨j, m', h1, h2⟩ => ⟨j, m', by omega, h2⟩⟩
  rintro ⟨j, m', h1, h2, h3, h4⟩
  have : j ≠ k := fun e => by subst e; rw [h] at h2; cases h2; exact h3 hl
  exact ⟨j, m', by omega, h2, h3, h4⟩
theorem leftJ_go {m : Mch} (h : M[k]? = some m) (hl : m.core ∉ live) : lessM (leftJ M live k L) m.core m.els = leftJ M live (k + 1) L := by
  unfold lessM leftJ
  rw [flt_flt]
  refine flt_congr fun x _ => ?_
  constructor
  · rintro ⟨h1, h2⟩ ⟨j, m', h3, h4, h5, h6⟩
    by_cases e : j = k
    · subst e; rw [h] at h4; cases h4; exact h2 h6
    · exact h1 ⟨j, m', by omega, h4, h5, h6⟩
  · intro hn
    exact ⟨fun ⟨j, m', h3, h4⟩ => hn ⟨j, m', by omega, h4⟩, fun h6 => hn ⟨k, m, by omega, h, hl, h6⟩⟩
theorem keepH_keep {L' H : List JE} (h : ∀ x ∈ L', x ∈ L) : keepH L' (keepH L H) = keepH L' H := by
  unfold keepH
  rw [flt_flt]
  exact flt_congr fun x _ => ⟨fun q => q.2, fun q => ⟨let ⟨y, h1, h2⟩ := q; ⟨y, h y h1, h2⟩, q⟩⟩
theorem keepM_keep {L' : List JE} {H : List Mch} (h : ∀ x ∈ L', x ∈ L) : keepM L' (keepM L H) = keepM L' H := by
  unfold keepM
  rw [flt_flt]
  exact flt_congr fun x _ => ⟨fun q => q.2, fun q => ⟨let ⟨y, h1, h2⟩ := q; ⟨y, h y h1, h2⟩, q⟩⟩
end
section
variable {B : Nat} {h0 hs h : AHeap} {σ : Nat → Tag} {T T' : TD} {J : JD} {i N : Nat} {K : Kont}
theorem Rel.keepH (W : TW T) (R : Rel T J) : keepH J.L J.H = J.H := by
  refine flt_all fun x hx => ?_
  have : kC x ∈ T.cs.map fun p => p.1 := by rw [R.heads]; exact List.mem_map.2 ⟨x, hx, rfl⟩
  obtain ⟨r, hr⟩ := key_has W this
  obtain ⟨y, h1, h2, _⟩ := (R.has _ _).1 hr
  simp only [kC, Prod.mk.injEq] at h2
  exact ⟨y, h1, h2.1, (R.gl y h1).1.inj (R.gh x hx) h2.2⟩
theorem Rel.keepM (W : TW T) (R : Rel T J) : keepM J.L J.M = J.M := by
  refine flt_all fun x hx => ?_
  have : kM x ∈ T.rs.map fun p => p.1 := by rw [R.marks]; exact List.mem_map.2 ⟨x, hx, rfl⟩
  obtain ⟨r, hr⟩ := mark_has W this
  obtain ⟨y, h1, _, h2⟩ := (R.has _ _).1 hr
  simp only [kM, Prod.mk.injEq] at h2
  exact ⟨y, h1, h2.1, (R.gl y h1).2.inj (R.gm x hx) h2.2⟩
theorem l3_78_ok {B26 : F4} {x1 x5 dv : AV} {s : Stp} {vv ev nv lv : AV} {xb ask b : Nat} (I' : CI B h0 hs σ T' i) (O : JO B σ h0 hs J) (W : TW T) (R : Rel T J) (L : Less T T' (fun _ r => r.1 ∉ s.live)) (hn : T.n ≤ i) (k0 : h0.Ok)
    (told : ∀ g, Fr (fun j => σ j = .jus) hs g → Told B (rkeys T) ask g) (due : Rw b 3 (RM B h0) hs dv J.M) (td : ∀ j, inRow dv j → σ j = .out) (VX : Var hs xb [.int .i64 s.op, .str s.cls, vv, .int .i64 s.m.core, ev, nv, lv]) (tx : σ xb = .out) (VL : View h0 1 lv (ints s.live)) (hll : s.live.length ≤ B)
    (hi : i < 100) (hB : B < 100000000) (hN : 2 * B + 2000 ≤ N) (hL : N < 1000000000)
    (kk : ∀ (g : AHeap) (σ' : Nat → Tag) (J' : JD), Both B h0 g σ' T' J' i → J'.p = J.p → JStep σ σ' hs g → p3_115 (callN E (N + 20)) (N + 20) B26 x1 (.ptr T'.p 0 0 0) (.ptr J.p 0 0 0) x5 (.ptr xb 0 0 0) g K = true) :
    l3_78 (callN E (N + 20)) (N + 20) B26 (N + 20) x1 (.ptr T'.p 0 0 0) (.ptr J.p 0 0 0) x5 (.ptr xb 0 0 0) (.ptr ask 0 0 0) (.int .i64 ((T.n : Int) - (T'.n : Int))) dv (.int .i64 0) (.int .i64 0) hs K = true := by
  have hlm : lim = 4611686018427387904 := rfl
  have hnn := R.n W
  have hml := R.mlen
  have hhl := R.hlen
  have hrs := rs_le W
  have hcs := cs_le W
  suffices H : ∀ q k g σ' J', J.M.length - k < q → k ≤ J.M.length → JO B σ' h0 g J' → JStep σ σ' hs g → J'.p = J.p → J'.L = leftJ J.M s.live k J.L → J'.H = Proofs.Ytbamgdknkhhikaa.keepH J'.L J.H → J'.M = Proofs.Ytbamgdknkhhikaa.keepM J'.L J.M →
      l3_78 (callN E (N + 20)) (N + 20) B26 q x1 (.ptr T'.p 0 0 0) (.ptr J.p 0 0 0) x5 (.ptr xb 0 0 0) (.ptr ask 0 0 0) (.int .i64 ((T.n : Int) - (T'.n : Int))) dv (.int .i64 ((J.L.length : Int) - (J'.L.length : Int))) (.int .i64 (k : Int)) g K = true by
    have := H (N + 20) 0 hs σ J (by omega) (Nat.zero_le _) O (JStep.refl O.ok O.hi) rfl leftJ_zero.symm (R.keepH W).symm (R.keepM W).symm
    rw [Int.sub_self] at this
    exact this
  intro q
  induction q with
  | zero => intro k g σ' J' hm; omega
  | succ q ihm =>
    intro k g σ' J' hq hk O' S hp hJL hJH hJM
    have lJ : J'.L.length ≤ J.L.length := by rw [hJL]; exact flt_len _ _
    have lH : J'.H.length ≤ J.H.length := by rw [hJH]; exact flt_len _ _
    have lM : J'.M.length ≤ J.M.length := by rw [hJM]; exact flt_len _ _
    have nj : ∀ j, σ j = .out → ¬ (σ j = .jus) := fun j e q => by rw [e] at q; cases q
    have due' : Rw b 3 (RM B h0) g dv J.M := due.fr S.fr fun j hj => nj j (td j hj)
    unfold l3_78 b3_78
    refine z_of (due'.len g) ?_; refine z_lss ?_
    by_cases hlt : k < J.M.length
    · refine z_ct (decide_eq_true (by omega)) ?_
      have hMk := List.getElem?_eq_getElem hlt
      obtain ⟨av, es, t1, t2, t3, t4⟩ := told g S.fr
      have hkr : k < (rkeys T).length := by simp [rkeys]; omega
      obtain ⟨m, a, c, u1, u2, u3, u4, u5, u6⟩ := t4 k _ (List.getElem?_eq_getElem (by omega))
      have hee : es[k]? = some [.int .i64 m.core, a, c] := by rw [← u1]; exact List.getElem?_eq_getElem _
      obtain ⟨id, gg, j, p1, p2⟩ := t2.at1 hee
      obtain ⟨id', gg', j', ee', w, RMk⟩ := due'.at hMk
      obtain ⟨ev', nv', rfl, D, lf, hb2⟩ := RMk
      have hkey : kM m = kM J.M[k] := by
        have h1 : (T.rs.map fun p => p.1)[k]? = some (kM m) := u2
        rw [R.marks, List.getElem?_map, hMk] at h1
        simpa using h1.symm
      simp only [kM, Prod.mk.injEq] at hkey
      have gk := R.gm _ (List.getElem_mem hlt)
      have hels : m.els = J.M[k].els := gdE.inj ⟨u3, by omega, g, a, u5⟩ gk hkey.2
      have A0 : loadA g false 1 (.ptr ask 0 0 0) = some av := t1.get rfl
      have A1 : loadA g true 3 (.ptr id gg j 0) = some (.agg [.int .i64 m.core, a, c]) := by rw [p2]; rfl
      obtain ⟨w1, w2⟩ := w g (Ext.refl _)
      have A2 : loadA g true 3 (.ptr id' gg' j' 0) = some (.agg [.int .i64 J.M[k].core, ev', nv']) := by rw [w2]; rfl
      refine z_of A0 ?_; refine z_of (p1 .i64) ?_; refine z_of A1 ?_; refine z_of (w1 .i64) ?_; refine z_of A2 ?_
      have hlE : m.els.length ≤ szL szEl m.els := szL_length szEl_pos _
      refine c17 (n := N + 17) (S := B) u5 (D.ext O'.e) u6 lf O'.ok (fun e he => by have := szL_mem (sz := szEl) he; have : szEl e = szVs e.vs + 1 := rfl; omega) (by omega) (by omega) (by omega) (by omega) fun h4 r e4 o4 hr => ?_
      have hrt : r = true := hr.2 ⟨hkey.1, hels⟩
      subst hrt
      have O4 := O'.ext e4 o4
      have S4 := S.trans O.ok (O'.step e4 o4)
      obtain ⟨w1', w2'⟩ := w h4 e4
      have X6 : loadA h4 false 1 (.ptr xb 0 0 6) = some lv := (S4.fr.var VX (nj _ tx)).get rfl
      have A3 : loadA h4 false 1 (.ptr id' gg' j' 0) = some (.int .i64 J.M[k].core) := by rw [w2']; rfl
      have A4 : loadA h4 true 3 (.ptr id' gg' j' 0) = some (.agg [.int .i64 J.M[k].core, ev', nv']) := by rw [w2']; rfl
      refine z_notT ?_; refine z_cF ?_; refine z_fadr ?_; refine z_of X6 ?_; refine z_of (w1' .i64) ?_; refine z_fadr ?_; refine z_of A3 ?_
      refine c15 (n := N + 19) (VL.ext O4.e) (by omega) (by omega) fun b' hb' => ?_
      cases b' with
      | true =>
        have hin := hb'.1 rfl
        refine z_notT ?_; refine z_cF ?_
        unfold p3_100
        refine z_of (inc64 (i := k) (by omega)) ?_
        have hst := leftJ_stay (L := J.L) hMk hin
        exact ihm (k + 1) h4 σ' J' (by omega) (by omega) O4 S4 hp (by rw [hst]; exact hJL) hJH hJM
      | false =>
        have hin : J.M[k].core ∉ s.live := fun q => by cases hb'.2 q
        refine z_notF ?_; refine z_cT ?_; refine z_of (w1' .i64) ?_; refine z_of A4 ?_
        rw [← hp]
        refine c18 (n := N + 18) O4 ⟨by omega, by omega, by omega, by omega, by omega, by omega⟩ (D.ext O4.e) lf fun h5 σ5 a5 b5 c5 O5 S5 => ?_
        have hgo := leftJ_go (L := J.L) hMk hin
        have hlen5 : (lessM J'.L J.M[k].core J.M[k].els).length ≤ J'.L.length := flt_len _ _
        refine z_of (add64 (a := (J.L.length : Int) - (J'.L.length : Int)) (b := (J'.L.length : Int) - ((lessM J'.L J.M[k].core J.M[k].els).length : Int)) (by omega) (by omega)) ?_
        have hadd : (J.L.length : Int) - (J'.L.length : Int) + ((J'.L.length : Int) - ((lessM J'.L J.M[k].core J.M[k].els).length : Int)) = (J.L.length : Int) - ((lessM J'.L J.M[k].core J.M[k].els).length : Int) := by omega
        rw [hadd]
        unfold p3_100
        refine z_of (inc64 (i := k) (by omega)) ?_
        rw [hp]
        have sub : ∀ x ∈ lessM J'.L J.M[k].core J.M[k].els, x ∈ J'.L := fun x hx => (mem_flt.1 hx).1
        exact ihm (k + 1) h5 σ5 _ (by omega) (by omega) O5 (S4.trans O.ok S5) hp (by show lessM J'.L _ _ = _; rw [hJL]; exact hgo) (by show Proofs.Ytbamgdknkhhikaa.keepH _ J'.H = _; rw [hJH]; exact keepH_keep sub) (by show Proofs.Ytbamgdknkhhikaa.keepM _ J'.M = _; rw [hJM]; exact keepM_keep sub)
    · refine z_cf (decide_eq_false (by omega)) ?_
      have R' : Rel T' J' := by
        refine R.less W L ?_ hJH hJM
        rw [hJL]
        refine flt_congr fun x hx => not_congr ?_
        constructor
        · rintro ⟨j, m, h1, h2, h3, h4, h5⟩
          show x.m.core ∉ s.live
          rw [h4]; exact h3
        · intro hq
          have hB := (R.has _ _).2 ⟨x, hx, rfl, rfl⟩
          have hm := has_mark W hB
          rw [R.marks] at hm
          obtain ⟨m, hm1, hm2⟩ := List.mem_map.1 hm
          obtain ⟨j, hj, he⟩ := List.mem_iff_getElem.1 hm1
          simp only [kM, Prod.mk.injEq] at hm2
          refine ⟨j, m, by omega, by rw [← he]; exact List.getElem?_eq_getElem hj, by rw [hm2.1]; exact hq, hm2.1.symm, ((R.gm m hm1).inj (R.gl x hx).2 hm2.2).symm⟩
      have hn' := R'.n I'.w
      unfold p3_101
      refine z_neq ?_
      refine z_cf (by rw [decide_eq_true (by omega)]; rfl) ?_
      exact kk g σ' J' ⟨I'.jstep k0 S, O', R'⟩ hp S
end
end Go.Proofs.Ytbamgdknkhhikaa
namespace Go.Proofs.Ytbamgdknkhhikaa
open Go.Ab
set_option linter.unusedSimpArgs false
set_option linter.unusedVariables false
section
variable {B : Nat} {h0 h : AHeap} {σ : Nat → Tag} {T : TD} {J : JD} {i N : Nat} {K : Kont}
theorem Both.more (b : Both B h0 h σ T J i) : Both B h0 h σ T J (i + 1) := ⟨b.I.more (by omega), b.O, b.R⟩
theorem fin33 {B26 : F4} {x1 x5 : AV} {s : Stp} {vv ev nv lv wv : AV} {hb h5 h7 : AHeap} {σ7 : Nat → Tag} {T7 : TD} {J7 : JD} {xb cb lo hi : Nat} (Bo : Both B h0 h7 σ7 T7 J7 (i + 1)) (k0 : h0.Ok) (A : Arg B h0 s vv ev nv) (kp : Kp hb.sz h5.sz h5 h7) (dat : ∀ j, lo ≤ j → j < hi → σ7 j = .dat)
    (VX : Var h5 xb [.int .i64 s.op, .str s.cls, vv, .int .i64 s.m.core, ev, nv, lv]) (VC : Var h5 cb [.str s.cls, wv]) (G : Gv s.vs h5 lo hi wv) (o5 : h5.Ok) (l1 : hb.sz ≤ xb) (l2 : hb.sz ≤ cb) (l3 : hb.sz ≤ lo) (l4 : hi ≤ h5.sz) (l5 : h5.sz ≤ h7.sz) (l6 : ¬ (lo ≤ xb ∧ xb < hi)) (hh0 : h0.sz ≤ hb.sz)
    (hi' : i + 1 < 100) (hB : B < 100000000) (hN : 2 * B + 2000 ≤ N) (hL : N < 1000000000)
    (kk : ∀ h', Both B h0 h' σ7 T7 J7 (i + 1) → p3_149 (callN E (N + 20)) (N + 20) B26 x1 (.ptr T7.p 0 0 0) (.ptr J7.p 0 0 0) x5 h' K = true) :
    (optB (fadrA 1 (.ptr cb 0 0 0)) fun v46 => optB (loadA h7 false 1 v46) fun v47 => callN E (N + 20) (.func 12) [v47] h7 fun v48 h => p3_115 (callN E (N + 20)) (N + 20) B26 x1 (.ptr T7.p 0 0 0) (.ptr J7.p 0 0 0) x5 (.ptr xb 0 0 0) h K) = true := by
  have hlm : lim = 4611686018427387904 := rfl
  have vr : ∀ {j c}, Var h5 j c → hb.sz ≤ j → Var h7 j c := fun {j c} V l => by
    have V' : h5.row j = some (VRow c) := V
    have := V.lt o5
    rw [AHeap.row_some] at V'
    exact AHeap.row_some.2 (kp j _ l this V')
  have VC7 := vr VC l2
  have VX7 := vr VX l1
  have A1 : loadA h7 false 1 (.ptr cb 0 0 1) = some wv := VC7.get rfl
  refine z_fadr ?_; refine z_of A1 ?_
  obtain ⟨d, OW⟩ := (G.fr (kp.sub l3 l4)).ow
  have hbb := A.b
  refine c12 d (N + 19) OW Bo.O.ok (by omega) (by omega) (by omega) (by omega) fun h8 f8 o8 => ?_
  have X8 : Var h8 xb _ := f8.var VX7 l6
  have hd : ∀ j, Inn lo hi j → σ7 j = .dat := fun j hj => dat j hj.1 hj.2
  have hh : ∀ j, h8.sz ≤ j → σ7 j = .out := fun j hj => Bo.O.hi j (Nat.le_trans f8.sz hj)
  have B8 : Both B h0 h8 σ7 T7 J7 (i + 1) := ⟨Bo.I.go k0 f8 o8 (fun j x => by rw [hd j x]; exact ⟨(fun q => by cases q), id⟩) (fun _ _ => rfl) hh, Bo.O.fr f8 o8 (fun j x => by rw [hd j x]; exact ⟨(fun q => by cases q), fun q => by cases q⟩) (fun _ _ => rfl) hh, Bo.R⟩
  exact p3_115_ok B8 k0 A X8 hi' hB hN hL fun h' e' o' => kk h' (B8.ext e' o')
theorem lessC_none {L : List JE} {cls : Str} {l : List Val} (h : ∀ x ∈ L, ¬ (x.cls = cls ∧ x.vs = l)) : lessC L cls l = L := flt_all h
theorem p3_33_ok {B26 : F4} {a : Nat} {sv lv vv ev nv : AV} {s : Stp} {id g j : Nat} (Bo : Both B h0 h σ T J i) (k0 : h0.Ok) (A : Arg B h0 s vv ev nv) (VA : Var h a [sv]) (p1 : ∀ k, iadrA h 7 sv (.int k (i : Int)) = some (.ptr id g j 0))
    (p2 : ∀ ag off m, loadA h ag m (.ptr id g j off) = partA ag off m [.int .i64 s.op, .str s.cls, vv, .int .i64 s.m.core, ev, nv, lv]) (VL : View h0 1 lv (ints s.live)) (hll : s.live.length ≤ B) (hi : i < 60) (hB : B < 100000000) (hN : 2 * B + 2000 ≤ N) (hL : N < 1000000000)
    (kk : ∀ (h' : AHeap) (σ' : Nat → Tag) (T' : TD) (J' : JD), Both B h0 h' σ' T' J' (i + 1) → T'.p = T.p → J'.p = J.p → p3_149 (callN E (N + 20)) (N + 20) B26 (.ptr a 0 0 0) (.ptr T.p 0 0 0) (.ptr J.p 0 0 0) (.int .i64 (i : Int)) h' K = true) :
    p3_33 (callN E (N + 20)) (N + 20) B26 (.ptr a 0 0 0) (.ptr T.p 0 0 0) (.ptr J.p 0 0 0) (.int .i64 (i : Int)) h K = true := by
  have hlm : lim = 4611686018427387904 := rfl
  have hbb := A.b
  have ho := Bo.O.ok
  unfold p3_33
  have A0 : loadA h false 1 (.ptr a 0 0 0) = some sv := VA.get rfl
  have A1 : loadA h true 7 (.ptr id g j 0) = some (.agg [.int .i64 s.op, .str s.cls, vv, .int .i64 s.m.core, ev, nv, lv]) := by rw [p2]; rfl
  refine z_fadr ?_; refine z_of A0 ?_; refine z_of (p1 .i64) ?_; refine z_of A1 ?_
  obtain ⟨h1, q1, V1, e1, o1, z1⟩ := alloc_v (z := [.int .i64 0, .str [], .nilSlc, .int .i64 0, .nilSlc, .nilSlc, .nilSlc]) ho (by decide) rfl
  refine z_p q1 ?_
  obtain ⟨h2, w1, X2, w3, o2, w5⟩ := V1.wrs o1 (n := 7) (v := .agg [.int .i64 s.op, .str s.cls, vv, .int .i64 s.m.core, ev, nv, lv]) rfl rfl (by simp only [AV.cells, allLeaf, A.v.leaf, A.e.leaf, A.n.leaf, VL.leaf]; rfl)
  refine z_u w1 ?_
  have X2 : Var h2 h.sz [.int .i64 s.op, .str s.cls, vv, .int .i64 s.m.core, ev, nv, lv] := X2
  have e2 : Ext h h2 := w3.ext e1 ho (Nat.le_refl _)
  have y1 : ∀ {g}, Ext h2 g → loadA g false 1 (.ptr h.sz 0 0 1) = some (.str s.cls) := fun e => (X2.ext e).get rfl
  have y2 : ∀ {g}, Ext h2 g → loadA g false 1 (.ptr h.sz 0 0 2) = some vv := fun e => (X2.ext e).get rfl
  refine z_fadr ?_; refine z_of (y1 (Ext.refl _)) ?_; refine z_fadr ?_; refine z_of (y2 (Ext.refl _)) ?_
  obtain ⟨h3, q3, V3, e3, o3, z3⟩ := alloc_v (z := [AV.str [], .nilSlc]) o2 (by decide) rfl
  refine z_p q3 ?_
  refine z_same (y1 e3) (same_str _) ?_
  refine z_same (y2 e3) A.v.sm ?_
  have e03 := ext_two e2 e3
  refine c9 B (N + 19) (A.v.ext (ext_two Bo.I.e e03)) o3 (by omega) (by omega) (by omega) (by omega) fun h4 wv e4 o4 lw sw G4 => ?_
  have e24 := ext_two e3 e4
  refine z_same (y1 e24) (same_str _) ?_
  refine z_of (build2 (a := .str s.cls) rfl lw) ?_
  obtain ⟨h5, w1', C5, w3', o5, w5'⟩ := (V3.ext e4).wrs o4 (n := 2) (v := .agg [.str s.cls, wv]) rfl rfl (by simp only [AV.cells, allLeaf, lw]; rfl)
  refine z_u w1' ?_
  have C5 : Var h5 h2.sz [.str s.cls, wv] := C5
  have e04 := ext_two e03 e4
  have s1 : h1.sz = h.sz + 1 := z1
  have s2 : h2.sz = h.sz + 1 := by omega
  have s3 : h3.sz = h.sz + 2 := by omega
  have s4 := e4.1
  have s5 : h5.sz = h4.sz := w5'
  have e5 : Ext h h5 := w3'.ext e04 ho (by omega)
  have X5 : Var h5 h.sz [.int .i64 s.op, .str s.cls, vv, .int .i64 s.m.core, ev, nv, lv] := w3'.var (X2.ext e24) (by omega)
  have G5 : Gv s.vs h5 h3.sz h4.sz wv := G4.fr (Kp.of_but w3' (by omega))
  have hh0 := Bo.I.e.1
  have x0 : ∀ {g}, Kp h.sz h5.sz h5 g → ∀ {c}, Var h5 h.sz c → Var g h.sz c := fun {g} kp {c} V => by
    have V' : h5.row h.sz = some (VRow c) := V
    rw [AHeap.row_some] at V'
    exact AHeap.row_some.2 (kp _ _ (Nat.le_refl _) (by omega) V')
  have X0 : loadA h5 false 1 (.ptr h.sz 0 0 0) = some (.int .i64 s.op) := X5.get rfl
  have X1 : ∀ {g}, Kp h.sz h5.sz h5 g → loadA g false 1 (.ptr h.sz 0 0 1) = some (.str s.cls) := fun kp => (x0 kp X5).get rfl
  have X2' : ∀ {g}, Kp h.sz h5.sz h5 g → loadA g false 1 (.ptr h.sz 0 0 2) = some vv := fun kp => (x0 kp X5).get rfl
  have X3 : ∀ {g}, Kp h.sz h5.sz h5 g → loadA g true 3 (.ptr h.sz 0 0 3) = some (.agg [.int .i64 s.m.core, ev, nv]) := fun kp => by rw [(x0 kp X5).load]; rfl
  have kr := Kp.refl h.sz h5.sz h5
  have CC : loadA h5 true 2 (.ptr h2.sz 0 0 0) = some (.agg [.str s.cls, wv]) := C5.all rfl
  have sM : AV.same (.agg [.int .i64 s.m.core, ev, nv]) (.agg [.int .i64 s.m.core, ev, nv]) = true := same_agg (sames_cons (same_int _ _) (sames_cons A.e.same (sames_cons A.n.same sames_nil)))
  have hBo5 := Bo.ext e5 o5
  have gv : badV s.vs = false → gdV s.vs := fun q => ⟨q, h0, vv, A.v⟩
  have ge : badE s.m.els = false → gdE s.m.els := fun q => ⟨q, by omega, h0, ev, A.e⟩
  have lens : J.L.length ≤ i ∧ J.H.length ≤ i ∧ J.M.length ≤ i := by
    have := Bo.R.n Bo.I.w; have := Bo.R.hlen; have := Bo.R.mlen; have := Bo.I.cn; have := Bo.I.le; have := rs_le Bo.I.w
    omega
  obtain ⟨n1, n2, n3⟩ := lens
  have smJ : ∀ {n}, 2 * B + 2000 ≤ n → n < 2000000000 → Small B n J := fun h1 h2 => ⟨by omega, by omega, by omega, h1, by omega, by omega⟩
  refine z_fadr ?_; refine z_of X0 ?_; refine z_eql ?_
  by_cases d0 : s.op = 0
  · -- Justify
    refine z_ct (decide_eq_true d0) ?_
    refine z_of CC ?_; refine z_fadr ?_; refine z_of (X3 kr) ?_; refine z_fadr ?_; refine z_of (X1 kr) ?_; refine z_fadr ?_; refine z_of (X2' kr) ?_; refine z_fadr ?_; refine z_of (X3 kr) ?_
    obtain ⟨σ5, t1, t2⟩ : ∃ σ5 : Nat → Tag, (∀ j, h3.sz ≤ j → j < h4.sz → σ5 j = .dat) ∧ ∀ j, ¬ (h3.sz ≤ j ∧ j < h4.sz) → σ5 j = σ j := ⟨fun j => if h3.sz ≤ j ∧ j < h4.sz then .dat else σ j, fun j a b => if_pos ⟨a, b⟩, fun j q => if_neg q⟩
    have told : ∀ j, j < h.sz → σ5 j = σ j := fun j hj => t2 j (by omega)
    have tnew : ∀ j, h5.sz ≤ j → σ5 j = .out := fun j hj => by rw [t2 j (by omega)]; exact Bo.O.hi j (by have := e5.1; omega)
    have tmid : ∀ j, h.sz ≤ j → j < h5.sz → σ5 j = .dat ∨ σ5 j = .out := fun j a b => by
      by_cases q : h3.sz ≤ j ∧ j < h4.sz
      · exact .inl (t1 j q.1 q.2)
      · exact .inr (by rw [t2 j q]; exact Bo.O.hi j a)
    have I5 : CI B h0 h5 σ5 T i := Bo.I.go k0 (Fr.of_ext (X := fun _ => False) e5) o5 (fun _ x => x.elim) told tnew
    have O5 : JO B σ5 h0 h5 J := Bo.O.fr (Fr.of_ext (X := fun _ => False) e5) o5 (fun _ x => x.elim) told tnew
    have own5 : ∀ j, h.sz ≤ j → j < h5.sz → ¬ (σ5 j).own := fun j a b w => by
      rcases tmid j a b with q | q
      · rw [q] at w; exact w
      · rw [q] at w; exact w
    have jus5 : ∀ j, h.sz ≤ j → j < h5.sz → ¬ (σ5 j = .jus) := fun j a b w => by
      rcases tmid j a b with q | q
      · rw [q] at w; cases w
      · rw [q] at w; cases w
    have fin := @fin33 B h0 i N K B26 (.ptr a 0 0 0) (.int .i64 (i : Int)) s vv ev nv lv wv h h5
    refine justify_ok2 k0 I5 A (wv := wv) (fun g F => (G5.fr (Kp.of_fr F fun j w ⟨a, b⟩ => own5 j (by omega) (by omega) w)).now) (by omega) hB hN hL (fun hbad h6 e6 o6 => ?_) fun hc hb1 hb2 h6 σ6 x y I6 Fs to6 F6 => ?_
    · have k6 : Kp h.sz h5.sz h5 h6 := Kp.of_ext e6
      refine z_same (X1 k6) (same_str _) ?_
      refine z_same (X2' k6) A.v.sm ?_
      refine z_same (X3 k6) sM ?_
      refine c11 (n := N + 17) (m := s.m) (O5.ext e6 o6) (smJ (by omega) (by omega)) (by omega) A.v (by omega) A.e A.n.leaf (by omega) A.n.same (by omega) (by omega) (by omega) (fun _ h7 e7 o7 => ?_) (fun hc hb1 hb2 _ _ _ _ => ?_) fun hc hb1 hb2 => ?_
      · have e57 := ext_two e6 e7
        refine z_neq ?_
        refine fin (σ7 := σ5) (T7 := T) (J7 := J) (lo := h3.sz) (hi := h4.sz) ⟨(I5.ext e57 o7).more (by omega), O5.ext e57 o7, Bo.R⟩ k0 A (Kp.of_ext e57) t1 X5 C5 G5 o5 (Nat.le_refl _) (by omega) (by omega) (by omega) e57.1 (by omega) hh0 (by omega) hB hN hL fun h' b' => kk h' σ5 T J b' rfl rfl
      · rcases hbad with q | q | q
        · exact absurd q hc
        · rw [hb1] at q; cases q
        · rw [hb2] at q; cases q
      · rcases hbad with q | q | q
        · exact absurd q hc
        · rw [hb1] at q; cases q
        · rw [hb2] at q; cases q
    · have k6 : Kp h.sz h5.sz h5 h6 := Kp.of_fr F6 fun j w ⟨a, b⟩ => own5 j a b w
      have O6 : JO B σ6 h0 h6 J := O5.fr F6 I6.o.ok (fun j w => by
        have w : (σ5 j).own := w
        exact ⟨own_ne w, fun q => by rw [q] at w; exact w⟩) to6 I6.o.hi
      have s6 := F6.sz
      refine z_same (X1 k6) (same_str _) ?_
      refine z_same (X2' k6) A.v.sm ?_
      refine z_same (X3 k6) sM ?_
      have jus6 : ∀ j, h.sz ≤ j → j < h5.sz → ¬ (σ6 j = .jus) := fun j a b w => jus5 j a b (by rw [← to6 j b]; exact w)
      refine c11 (n := N + 17) (m := s.m) O6 (smJ (by omega) (by omega)) (by omega) A.v (by omega) A.e A.n.leaf (by omega) A.n.same (by omega) (by omega) (by omega) (fun hbad => ?_) (fun _ _ _ hd h7 e7 o7 => ?_) fun _ _ _ hd h7 σ7 a7 b7 c7 O7 S7 => ?_
      · rcases hbad with q | q | q
        · exact absurd q hc
        · rw [hb1] at q; cases q
        · rw [hb2] at q; cases q
      · have R7 : Rel _ J := Bo.R.just Bo.I.w (gv hb1) (ge hb2) Fs (.inl ⟨hd, rfl⟩)
        refine z_neq ?_
        refine fin (σ7 := σ6) (T7 := justT T (s.cls, spV s.vs) (s.m.core, kyM s.m.els) x y) (J7 := J) (lo := h3.sz) (hi := h4.sz) ⟨I6.ext e7 o7, O6.ext e7 o7, R7⟩ k0 A (k6.trans (Kp.of_ext e7)) (fun j a b => by rw [to6 j (by omega)]; exact t1 j a b) X5 C5 G5 o5 (Nat.le_refl _) (by omega) (by omega) (by omega) (by have := e7.1; omega) (by omega) hh0 (by omega) hB hN hL fun h' b' => kk h' σ6 _ J b' rfl rfl
      · have R7 : Rel (justT T (s.cls, spV s.vs) (s.m.core, kyM s.m.els) x y) ⟨J.p, a7, b7, c7, J.L ++ [⟨s.cls, s.vs, s.m⟩], addH J.H s.cls s.vs, addM J.M s.m⟩ := Bo.R.just Bo.I.w (gv hb1) (ge hb2) Fs (.inr ⟨hd, rfl, rfl, rfl⟩)
        refine z_neq ?_
        refine fin (σ7 := σ7) (T7 := justT T (s.cls, spV s.vs) (s.m.core, kyM s.m.els) x y) (J7 := ⟨J.p, a7, b7, c7, J.L ++ [⟨s.cls, s.vs, s.m⟩], addH J.H s.cls s.vs, addM J.M s.m⟩) (lo := h3.sz) (hi := h4.sz) ⟨I6.jstep k0 S7, O7, R7⟩ k0 A (k6.trans (Kp.of_fr S7.fr fun j w ⟨a, b⟩ => jus6 j a b w)) (fun j a b => by rw [S7.old j (by omega), to6 j (by omega)]; exact t1 j a b) X5 C5 G5 o5 (Nat.le_refl _) (by omega) (by omega) (by omega) (by have := S7.fr.sz; omega) (by omega) hh0 (by omega) hB hN hL fun h' b' => kk h' σ7 _ _ b' rfl rfl
  refine z_cf (decide_eq_false d0) ?_
  refine z_eql ?_
  have tout : ∀ j, h.sz ≤ j → σ j = .out := Bo.O.hi
  by_cases d1 : s.op = 1
  · -- Keep
    refine z_ct (decide_eq_true d1) ?_
    obtain ⟨h6, q6, V6, e6, o6, z6⟩ := alloc_v (z := [AV.nilSlc]) o5 (by decide) rfl
    refine z_p q6 ?_
    refine z_some ?_
    have e06 := ext_two e5 e6
    refine keep_ok2 (live := s.live) k0 Bo.I e06 o6 V6 (X5.ext e6) rfl VL (by omega) (Nat.le_refl _) (by omega) hll (by omega) hB hN hL fun h7 T7 I7 hp7 F7 L7 told X7 => ?_
    obtain ⟨_, X7, rfl⟩ := X7
    have O7 : JO B σ h0 h7 J := Bo.O.fr F7 I7.o.ok (fun j w => by
        have w : (σ j).own := w
        exact ⟨own_ne w, fun q => by rw [q] at w; exact w⟩) (fun _ _ => rfl) I7.o.hi
    refine c16 (n := N + 19) O7 (by omega) fun h8 dv e8 o8 due => ?_
    obtain ⟨av, es, u1, u2, u3, u4⟩ := told h8 (Fr.of_ext e8)
    have A5 : loadA h8 false 1 (.ptr h5.sz 0 0 0) = some av := u1.get rfl
    have hl8 : lenA h8 1 av = some (.int .i64 (J.M.length : Int)) := by rw [u2.len, u3]; simp [rkeys, Bo.R.mlen]
    refine z_of A5 ?_; refine z_of hl8 ?_; refine z_of (due.len h8) ?_; refine z_neq ?_
    refine z_cf (by simp) ?_
    unfold p3_72
    rw [← hp7]
    refine l3_78_ok (T := T) (I7.ext e8 o8) (O7.ext e8 o8) Bo.I.w Bo.R L7 Bo.I.cn k0 (fun g Fg => told g ((Fr.of_ext e8).trans Fg)) due (fun j hj => by have := due.row hj; have := F7.sz; exact tout j (by omega)) (X7.ext e8) (tout _ (Nat.le_refl _)) VL hll (by omega) hB hN hL fun g σ' J' b' hpJ S' => ?_
    have X9 : Var g h.sz _ := S'.fr.var (X7.ext e8) (fun q => by have q : σ h.sz = .jus := q; rw [tout _ (Nat.le_refl _)] at q; cases q)
    rw [← hpJ]
    refine p3_115_ok b' k0 A X9 (by omega) hB hN hL fun h' e' o' => ?_
    rw [hp7, hpJ]
    exact kk h' σ' T7 J' (b'.ext e' o').more hp7 hpJ
  · -- Forget
    refine z_cf (decide_eq_false d1) ?_
    refine z_of CC ?_; refine z_fadr ?_; refine z_of (X1 kr) ?_; refine z_fadr ?_; refine z_of (X2' kr) ?_
    refine forget_ok2 k0 hBo5.I A (wv := wv) (fun g F => (G5.fr (Kp.of_fr F fun j w ⟨a, b⟩ => by have w : (σ j).own := w; rw [tout j (by omega)] at w; exact w)).now) (by omega) hB hN hL (fun hno h6 e6 o6 => ?_) fun hb1 h6 T6 I6 hp6 F6 L6 hn6 => ?_
    · have k6 : Kp h.sz h5.sz h5 h6 := Kp.of_ext e6
      have B6 := hBo5.ext e6 o6
      refine z_same (X1 k6) (same_str _) ?_
      refine z_same (X2' k6) A.v.sm ?_
      have none : ∀ x ∈ J.L, ¬ (x.cls = s.cls ∧ x.vs = s.vs) := fun x hx ⟨c1, c2⟩ => by
        rcases hno with q | q
        · have hB := (Bo.R.has _ _).2 ⟨x, hx, rfl, rfl⟩
          have := has_key hB
          rw [show kC x = (s.cls, spV s.vs) by simp only [kC, c1, c2]] at this
          exact lkG_none.1 q this
        · have := (Bo.R.gl x hx).1.1
          rw [c2, q] at this; cases this
      refine c20 (n := N + 18) B6.O (smJ (by omega) (by omega)) (A.v.ext B6.I.e) fun h7 σ7 a7 b7 c7 O7 S7 => ?_
      have hl : lessC J.L s.cls s.vs = J.L := lessC_none none
      have R7 : Rel T ⟨J.p, a7, b7, c7, lessC J.L s.cls s.vs, keepH (lessC J.L s.cls s.vs) J.H, keepM (lessC J.L s.cls s.vs) J.M⟩ :=
        Bo.R.less Bo.I.w (Less.refl Bo.I.w) (by show lessC J.L s.cls s.vs = _; rw [hl]; exact (flt_all fun x _ q => q).symm) rfl rfl
      rw [hl, Int.sub_self]
      rw [hl] at O7 R7
      refine z_neq ?_
      have X7 : Var h7 h.sz _ := S7.fr.var (X5.ext e6) (fun q => by have q : σ h.sz = .jus := q; rw [tout _ (Nat.le_refl _)] at q; cases q)
      have B7 : Both B h0 h7 σ7 T ⟨J.p, a7, b7, c7, J.L, keepH J.L J.H, keepM J.L J.M⟩ i := ⟨B6.I.jstep k0 S7, O7, R7⟩
      refine p3_115_ok (i := i) (J := ⟨J.p, a7, b7, c7, J.L, keepH J.L J.H, keepM J.L J.M⟩) B7 k0 A X7 (by omega) hB hN hL fun h' e' o' => ?_
      exact kk h' σ7 T _ (B7.ext e' o').more rfl rfl
    · have k6 : Kp h.sz h5.sz h5 h6 := Kp.of_fr F6 fun j w ⟨a, b⟩ => by have w : (σ j).own := w; rw [tout j a] at w; exact w
      have O6 : JO B σ h0 h6 J := hBo5.O.fr F6 I6.o.ok (fun j w => by
        have w : (σ j).own := w
        exact ⟨own_ne w, fun q => by rw [q] at w; exact w⟩) (fun _ _ => rfl) I6.o.hi
      refine z_same (X1 k6) (same_str _) ?_
      refine z_same (X2' k6) A.v.sm ?_
      refine c20 (n := N + 18) O6 (smJ (by omega) (by omega)) (A.v.ext I6.e) fun h7 σ7 a7 b7 c7 O7 S7 => ?_
      have R7 : Rel T6 ⟨J.p, a7, b7, c7, lessC J.L s.cls s.vs, keepH (lessC J.L s.cls s.vs) J.H, keepM (lessC J.L s.cls s.vs) J.M⟩ := by
        refine Bo.R.less Bo.I.w L6 (flt_congr fun x hx => not_congr ?_) rfl rfl
        constructor
        · rintro ⟨c1, c2⟩; simp only [kC, c1, c2]
        · intro q
          simp only [kC, Prod.mk.injEq] at q
          exact ⟨q.1, (Bo.R.gl x hx).1.inj (gv hb1) q.2⟩
      have m1 := Bo.R.n Bo.I.w
      have m2 := R7.n I6.w
      have m2 : T6.n = (lessC J.L s.cls s.vs).length := m2
      refine z_neq ?_
      refine z_cf (by rw [decide_eq_true (by omega)]; rfl) ?_
      have X7 : Var h7 h.sz _ := S7.fr.var (x0 k6 X5) (fun q => by have q : σ h.sz = .jus := q; rw [tout _ (Nat.le_refl _)] at q; cases q)
      have B7 : Both B h0 h7 σ7 T6 ⟨J.p, a7, b7, c7, lessC J.L s.cls s.vs, keepH (lessC J.L s.cls s.vs) J.H, keepM (lessC J.L s.cls s.vs) J.M⟩ i := ⟨I6.jstep k0 S7, O7, R7⟩
      rw [← hp6]
      refine p3_115_ok (i := i) (J := ⟨J.p, a7, b7, c7, lessC J.L s.cls s.vs, keepH (lessC J.L s.cls s.vs) J.H, keepM (lessC J.L s.cls s.vs) J.M⟩) B7 k0 A X7 (by omega) hB hN hL fun h' e' o' => ?_
      rw [hp6]
      exact kk h' σ7 T6 _ (B7.ext e' o').more hp6 rfl
end
end Go.Proofs.Ytbamgdknkhhikaa
namespace Go.Proofs.Ytbamgdknkhhikaa
open Go.Ab
set_option linter.unusedSimpArgs false
set_option linter.unusedVariables false
theorem c7' {n : Nat} {h : AHeap} {K : Kont} (k : K (.bool true) h = true) : callN E (n + 1) (.func 7) [] h K = true := k
theorem z_sgt {o : Option AV} {u : AV} {r : Bool} (e : o = some u) (j : AV.same u u = true) (s : r = true) : sameG (wantV (.bool true) true) o u r = true := z_same e j s
section
variable {B : Nat} {h0 h : AHeap} {σ : Nat → Tag} {T : TD} {J : JD} {i N : Nat} {K : Kont}
theorem c13_nil {n : Nat} {a : Nat} (o : h.Ok) (kk : ∀ h', Ext h h' → h'.Ok → K (.int .i64 0) h' = true) : callN E (n + 1) (.func 13) [.ptr a 0 0 0, .nilFn] h K = true := by
  apply d13
  unfold s13
  obtain ⟨h1, q1, VB, e1, o1, z1⟩ := box_v (n := 1) (v := .ptr a 0 0 0) o rfl (by decide) rfl
  refine z_p q1 ?_
  refine z_of (v := .bool true) rfl ?_
  refine z_cT ?_
  exact kk h1 e1 o1
theorem p150 (Bo : Both B h0 h σ T J i) (kk : ∀ h, K (.bool true) h = true) : p3_150 (callN E (N + 20)) (N + 20) (.ptr T.p 0 0 0) (.ptr J.p 0 0 0) h K = true := by
  unfold p3_150
  refine c13_nil (n := N + 19) Bo.O.ok fun h1 e1 o1 => ?_
  have B1 := Bo.ext e1 o1
  have hn := Bo.R.n Bo.I.w
  have l0 : loadA h1 false 1 (.ptr J.p 0 0 0) = some J.a := B1.O.l0
  have ll : lenA h1 1 J.a = some (.int .i64 (J.L.length : Int)) := B1.O.L.len h1
  have d1 : decide ((0 : Int) = 0) = true := rfl
  refine z_eql ?_
  rw [d1]
  refine z_gtt ?_; refine z_some ?_; refine z_gtt ?_; refine z_some ?_; refine z_gtt ?_; refine z_nil ?_; refine z_gtt ?_; refine z_fadr ?_; refine z_gtt ?_; refine z_of l0 ?_; refine z_gtt ?_; refine z_of ll ?_; refine z_rtt ?_
  refine c23 (n := N + 19) B1.I.o ?_
  refine z_sgt l0 (let ⟨es, w, a⟩ := B1.O.L; w.view.same) ?_
  refine z_sgt ll (same_int _ _) ?_
  refine z_gtt ?_; refine z_eql ?_; refine z_kt ?_
  rw [decide_eq_true (show (T.n : Int) = (J.L.length : Int) by omega)]
  refine z_rtt ?_
  refine c7' ?_
  refine z_kt ?_
  exact kk h1
theorem l26 {a : Nat} {lv : AV} {l : List Stp} (k0 : h0.Ok) (VA : Var h0 a [lv]) (SL : SV h0 lv l) (hsz : szL szSt l ≤ B) (hB : B < 100000000) (hN : 2 * B + 2000 ≤ N) (hL : N < 1000000000) (kk : ∀ h, K (.bool true) h = true) :
    ∀ m i h σ T J, 60 - i < m → i ≤ 60 → Both B h0 h σ T J i → l3_26 (callN E (N + 20)) (N + 20) m (.ptr a 0 0 0) (.ptr T.p 0 0 0) (.ptr J.p 0 0 0) (.int .i64 (i : Int)) h K = true := by
  have hlm : lim = 4611686018427387904 := rfl
  intro m
  induction m with
  | zero => intro i h σ T J hm; omega
  | succ m ih =>
    intro i h σ T J hm hi Bo
    unfold l3_26 b3_26
    have e := Bo.I.e
    have L0 : loadA h false 1 (.ptr a 0 0 0) = some lv := (VA.ext e).get rfl
    refine z_fadr ?_; refine z_of L0 ?_; refine z_of (SL.ext e).len ?_; refine z_lss ?_
    by_cases hlt : i < l.length
    · have e1 : decide ((i : Int) < (l.length : Int)) = true := decide_eq_true (by omega)
      rw [e1]
      refine z_gtt ?_; refine z_some ?_; refine z_gtt ?_; refine z_lss ?_; refine z_kt ?_
      by_cases h60 : i < 60
      · have e2 : decide ((i : Int) < 60) = true := decide_eq_true (by omega)
        rw [e2]
        refine z_cT ?_
        have hci := List.getElem?_eq_getElem hlt
        obtain ⟨id0, g0, j0, e0', hh, HR⟩ : ∃ id g j e, (∀ h', Ext h0 h' → (∀ k, iadrA h' 7 lv (.int k (i : Int)) = some (.ptr id g j 0)) ∧ ∀ ag off m, loadA h' ag m (.ptr id g j off) = partA ag off m e) ∧ RSt h0 e l[i] := by
          obtain ⟨es, v1, v2⟩ := SL
          obtain ⟨e0', he0, hr0⟩ := v2.get hci
          obtain ⟨id', g', j', u⟩ := v1.atE he0
          exact ⟨id', g', j', e0', u, hr0⟩
        obtain ⟨vv, ev, nv, lv', rfl, r1, r2, r3, r4, _⟩ := HR
        have hm2 := szL_mem (sz := szSt) (List.getElem_mem hlt)
        have hse : szSt l[i] = (l[i]).cls.length + szVs (l[i]).vs + szL szEl (l[i]).m.els + szL szPr (l[i]).m.env + (l[i]).live.length + 1 := rfl
        have AA : Arg B h0 l[i] vv ev nv := ⟨r1, r2, r3, by omega⟩
        refine p3_33_ok (s := l[i]) Bo k0 AA (VA.ext e) (hh h e).1 (hh h e).2 r4 (by omega) h60 hB hN hL fun h' σ' T' J' B' hT hJ => ?_
        unfold p3_149
        refine z_of (inc64 (i := i) (by omega)) ?_
        rw [← hT, ← hJ]
        exact ih (i + 1) h' σ' T' J' (by omega) (by omega) B'
      · have e2 : decide ((i : Int) < 60) = false := decide_eq_false (by omega)
        rw [e2]
        refine z_cF ?_
        exact p150 Bo kk
    · have e1 : decide ((i : Int) < (l.length : Int)) = false := decide_eq_false (by omega)
      rw [e1]
      refine z_gft ?_; refine z_gft ?_; refine z_kf ?_; refine z_cF ?_
      exact p150 Bo kk
theorem c3 {lv : AV} {l : List Stp} (o : h.Ok) (SL : SV h lv l) (hlf : lv.leaf = true) (hsz : szL szSt l ≤ B) (hB : B < 100000000) (hN : 2 * B + 2000 ≤ N) (hL : N < 1000000000) (kk : ∀ h, K (.bool true) h = true) :
    callN E (N + 21) (.func 3) [.agg [lv]] h K = true := by
  have hlm : lim = 4611686018427387904 := rfl
  apply d3
  unfold s3
  obtain ⟨h1, q1, V1, e1, o1, z1⟩ := box_v (n := 1) (v := .agg [lv]) o rfl (by decide) (by simp [AV.cells, allLeaf, hlf])
  have V1 : Var h1 h.sz [lv] := V1
  refine z_p q1 ?_
  have A1 : loadA h1 true 1 (.ptr h.sz 0 0 0) = some (.agg [lv]) := V1.all rfl
  refine z_of A1 ?_
  refine c6 (n := N + 17) o1 (SL.ext e1) (by omega) (by omega) hlf fun b h2 e2 o2 => ?_
  cases b with
  | false =>
    refine z_notF ?_; refine z_cT ?_
    exact c7' (kk h2)
  | true =>
    refine z_notT ?_; refine z_cF ?_
    unfold p3_10
    refine c8 (n := N + 19) o2 fun h3 T τ O W e3 hcs hrs hca hn ht hp => ?_
    refine z_eqp ?_; refine z_cF ?_
    unfold p3_20
    refine z_of (v := .agg [.nilSlc, .nilSlc, .nilSlc]) rfl ?_
    obtain ⟨h4, q4, V4, e4, o4, z4⟩ := box_v (n := 3) (v := .agg [.nilSlc, .nilSlc, .nilSlc]) O.ok rfl (by decide) rfl
    have V4 : Var h4 h3.sz [.nilSlc, .nilSlc, .nilSlc] := V4
    refine z_p q4 ?_
    have I3 : CI B h2 h3 τ T 0 := ⟨O, W, e3, ht, ⟨fun k x hx => (by rw [hcs] at hx; cases hx), fun r y hy => (by rw [hrs] at hy; cases hy)⟩, by omega, by omega⟩
    obtain ⟨σ, t1, t2⟩ : ∃ σ : Nat → Tag, σ h3.sz = .jus ∧ ∀ j, j ≠ h3.sz → σ j = τ j := ⟨fun j => if j = h3.sz then .jus else τ j, if_pos rfl, fun j q => if_neg q⟩
    have S4 : JStep τ σ h3 h4 := ⟨o4, Fr.of_ext e4, fun j hj => t2 j (by omega), fun j hj => by
      by_cases q : j = h3.sz
      · subst q; exact .inr ⟨t1, by omega⟩
      · rw [t2 j q]; exact .inl (O.hi j hj)⟩
    have I4 := I3.jstep o2 S4
    have s3 := e3.1
    have O4 : JO B σ h2 h4 ⟨h3.sz, .nilSlc, .nilSlc, .nilSlc, [], [], []⟩ := ⟨o4, o2, I4.e, I4.t0, I4.o.hi, t1, V4, Rw.nil, Rw.nil, Rw.nil, fun j q => absurd q inRow_nil, fun j q => absurd q inRow_nil, fun j q => absurd q inRow_nil⟩
    have R4 : Rel T ⟨h3.sz, .nilSlc, .nilSlc, .nilSlc, [], [], []⟩ := ⟨by rw [hcs]; rfl, by rw [hrs]; rfl, fun k r => ⟨fun ⟨x, q, _⟩ => (by rw [hcs] at q; cases q), fun ⟨x, q, _⟩ => (by cases q)⟩, by simp, fun x q => (by cases q), fun x q => (by cases q), fun x q => (by cases q)⟩
    exact l26 o2 (V1.ext e2) ((SL.ext e1).ext e2) hsz hB hN hL kk (N + 20) 0 h4 σ T ⟨h3.sz, .nilSlc, .nilSlc, .nilSlc, [], [], []⟩ (by omega) (Nat.zero_le _) ⟨I4, O4, R4⟩
end
end Go.Proofs.Ytbamgdknkhhikaa
namespace Go.Proofs.Ytbamgdknkhhikaa
open Go.Ab
set_option linter.unusedSimpArgs false
set_option linter.unusedVariables false
mutual
theorem bulk_eq {H : Type} : ∀ (d : DataW H), Rows.uptoBulk d = bulk d
  | .lit l => by cases l <;> simp [Rows.uptoBulk, bulk]
  | .nil => by simp [Rows.uptoBulk, bulk]
  | .ptr d => by simp [Rows.uptoBulk, bulk, bulk_eq d]
  | .slice a b => by simp [Rows.uptoBulk, bulk, bulkAll_eq a, bulkAll_eq b]
  | .agg a => by simp [Rows.uptoBulk, bulk, bulkAll_eq a]
  | .iface _ d => by simp [Rows.uptoBulk, bulk, bulk_eq d]
  | .map es => by simp [Rows.uptoBulk, bulk, bulkEntries_eq es]
  | .held _ => by simp [Rows.uptoBulk, bulk]
theorem bulkAll_eq {H : Type} : ∀ (l : List (DataW H)), Rows.uptoBulkAll l = bulkAll l
  | [] => rfl
  | d :: l => by simp [Rows.uptoBulkAll, bulkAll, bulk_eq d, bulkAll_eq l]
theorem bulkEntries_eq {H : Type} : ∀ (l : List (Lit × DataW H)), Rows.uptoBulkEntries l = bulkEntries l
  | [] => rfl
  | (k, d) :: l => by
    have h1 := bulk_eq d
    have h2 := bulkEntries_eq l
    cases k <;> simp [Rows.uptoBulkEntries, bulkEntries, Rows.uptoBulkEntry, bulkEntry, h1, h2]
end
section
variable {H : Type} {enc : TypeId × Value → H} {W : World} {held : Bool}
theorem inV : In enc Try.prog W held 70 5 szV RV :=
  inVal (t0 := 3) (t1 := 4) (t2 := 2) (t3 := 9) (tl := 34) Try.underlying70 rfl (by kernel_rfl) Try.underlying3 (by kernel_rfl) Try.underlying4 (by kernel_rfl) Try.underlying2 (by kernel_rfl) Try.underlying9 (by kernel_rfl) Try.underlying34 (by kernel_rfl)
theorem inVs : In enc Try.prog W held 34 1 (fun l => szL szV l + 1) (RSl 5 RV) := inVals inV Try.underlying34 (by kernel_rfl)
theorem REl.mono : Mono REl := fun _ _ _ _ e H => REl.ext H e
theorem RPr.mono : Mono RPr := fun _ _ _ _ e H => RPr.ext H e
theorem RSt.mono : Mono RSt := fun _ _ _ _ e H => RSt.ext H e
theorem inEl : In enc Try.prog W held 68 3 szEl REl := by
  have I := In.struct (enc := enc) (W := W) (held := held) (P := Try.prog) (t := 68) (tot := 3) Try.underlying68 rfl (by kernel_rfl)
    (InF.cons (off := 0) (n := 1) (by kernel_rfl) RInt.mono (In.int Try.underlying3) (InF.cons (off := 1) (n := 1) (by kernel_rfl) RInt.mono (In.int Try.underlying3) (InF.cons (off := 2) (n := 1) (by kernel_rfl) (RSl.mono RV.mono) inVs InF.nil)))
  refine I.conv ?_
  rintro h a ⟨x, y, vs, u⟩ ⟨b1, c1, rfl, _, ⟨rfl, x1, x2⟩, b2, c2, rfl, _, ⟨rfl, y1, y2⟩, b3, c3, rfl, _, hvs, rfl⟩
  obtain ⟨v3, e3, rfl, v1, v2⟩ := hvs.view
  exact ⟨⟨x, y, vs⟩, ⟨v3, rfl, ⟨e3, v1, v2⟩, ⟨x1, x2⟩, ⟨y1, y2⟩⟩, by simp only [szEl, szVs_eq]; omega⟩
theorem inEls : In enc Try.prog W held 35 1 (fun l => szL szEl l + 1) (RSl 3 REl) := In.slice Try.underlying35 (by kernel_rfl) (by decide) REl.mono inEl
theorem inPr : In enc Try.prog W held 117 6 szPr RPr := by
  have I := In.struct (enc := enc) (W := W) (held := held) (P := Try.prog) (t := 117) (tot := 6) Try.underlying117 rfl (by kernel_rfl)
    (InF.cons (off := 0) (n := 1) (by kernel_rfl) RStr.mono (In.str Try.underlying9) (InF.cons (off := 1) (n := 5) (by kernel_rfl) RV.mono inV InF.nil))
  refine I.conv ?_
  rintro h a ⟨s, v, u⟩ ⟨b1, c1, rfl, _, ⟨rfl, hs⟩, b2, c2, rfl, _, hv, rfl⟩
  exact ⟨(s, v), ⟨b2, by simp, hv, hs⟩, by simp only [szPr]; omega⟩
theorem inPrs : In enc Try.prog W held 36 1 (fun l => szL szPr l + 1) (RSl 6 RPr) := In.slice Try.underlying36 (by kernel_rfl) (by decide) RPr.mono inPr
theorem inInts : In enc Try.prog W held 39 1 (fun l => szL (fun _ : Int => 1) l + 1) (RSl 1 (RInt .i64)) := In.slice Try.underlying39 (by kernel_rfl) (by decide) RInt.mono (In.int Try.underlying3)
def RMt : Rd Mch := fun h a m => ∃ ev nv, a = [.int .i64 m.core, ev, nv] ∧ EV h ev m.els ∧ PV h nv m.env ∧ rng m.core
theorem RMt.mono : Mono RMt := fun _ _ _ _ e H => let ⟨ev, nv, h1, h2, h3, h4⟩ := H; ⟨ev, nv, h1, h2.ext e, h3.ext e, h4⟩
def szMt (m : Mch) : Nat := szL szEl m.els + szL szPr m.env
theorem inMt : In enc Try.prog W held 38 3 szMt RMt := by
  have I := In.struct (enc := enc) (W := W) (held := held) (P := Try.prog) (t := 38) (tot := 3) Try.underlying38 rfl (by kernel_rfl)
    (InF.cons (off := 0) (n := 1) (by kernel_rfl) RInt.mono (In.int Try.underlying3) (InF.cons (off := 1) (n := 1) (by kernel_rfl) (RSl.mono REl.mono) inEls (InF.cons (off := 2) (n := 1) (by kernel_rfl) (RSl.mono RPr.mono) inPrs InF.nil)))
  refine I.conv ?_
  rintro h a ⟨x, es, ns, u⟩ ⟨b1, c1, rfl, _, ⟨rfl, x1, x2⟩, b2, c2, rfl, _, he, b3, c3, rfl, _, hn, rfl⟩
  obtain ⟨v2, e2, rfl, v21, v22⟩ := he.view
  obtain ⟨v3, e3, rfl, v31, v32⟩ := hn.view
  exact ⟨⟨x, es, ns⟩, ⟨v2, v3, rfl, ⟨e2, v21, v22⟩, ⟨e3, v31, v32⟩, x1, x2⟩, by simp only [szMt]; omega⟩
theorem all2_int {h : AHeap} : ∀ {es : List (List AV)} {l : List Int}, All2 (RInt .i64 h) es l → es = ints l ∧ ∀ x ∈ l, rng x
  | _, _, .nil => ⟨rfl, by simp⟩
  | _, _, .cons ⟨e, a, b⟩ t => by
    obtain ⟨h1, h2⟩ := all2_int t
    subst e; subst h1
    refine ⟨rfl, fun x hx => ?_⟩
    rcases List.mem_cons.1 hx with rfl | hx
    · exact ⟨a, b⟩
    · exact h2 x hx
theorem szInts : ∀ (l : List Int), szL (fun _ : Int => 1) l = l.length
  | [] => rfl
  | x :: l => by simp only [szL, szInts l, List.length_cons]; omega
theorem inSt : In enc Try.prog W held 41 7 szSt RSt := by
  have I := In.struct (enc := enc) (W := W) (held := held) (P := Try.prog) (t := 41) (tot := 7) Try.underlying41 rfl (by kernel_rfl)
    (InF.cons (off := 0) (n := 1) (by kernel_rfl) RInt.mono (In.int Try.underlying3) (InF.cons (off := 1) (n := 1) (by kernel_rfl) RStr.mono (In.str Try.underlying9) (InF.cons (off := 2) (n := 1) (by kernel_rfl) (RSl.mono RV.mono) inVs
      (InF.cons (off := 3) (n := 3) (by kernel_rfl) RMt.mono inMt (InF.cons (off := 6) (n := 1) (by kernel_rfl) (RSl.mono RInt.mono) inInts InF.nil)))))
  refine I.conv ?_
  rintro h a ⟨x, s, vs, m, li, u⟩ ⟨b1, c1, rfl, _, ⟨rfl, _⟩, b2, c2, rfl, _, ⟨rfl, hs⟩, b3, c3, rfl, _, hvs, b4, c4, rfl, _, ⟨ev, nv, rfl, he, hn, hc⟩, b5, c5, rfl, _, hli, rfl⟩
  obtain ⟨v3, e3, rfl, v31, v32⟩ := hvs.view
  obtain ⟨v5, e5, rfl, v51, v52⟩ := hli.view
  obtain ⟨rfl, hr⟩ := all2_int v52
  exact ⟨⟨x, s, vs, m, li⟩, ⟨v3, ev, nv, v5, rfl, ⟨e3, v31, v32⟩, he, hn, v51, hc, hs, hr⟩, by simp only [szSt, szMt, szVs_eq, szInts]; omega⟩
theorem inSts : In enc Try.prog W held 22 1 (fun l => szL szSt l + 1) (RSl 7 RSt) := In.slice Try.underlying22 (by kernel_rfl) (by decide) RSt.mono inSt
def RSc : Rd (List Stp) := fun h a l => ∃ lv, a = [lv] ∧ SV h lv l ∧ lv.leaf = true
theorem inSc : In enc Try.prog W held 24 1 (szL szSt) RSc := by
  have I := In.struct (enc := enc) (W := W) (held := held) (P := Try.prog) (t := 24) (tot := 1) Try.underlying24 rfl (by kernel_rfl)
    (InF.cons (off := 0) (n := 1) (by kernel_rfl) (RSl.mono RSt.mono) inSts InF.nil)
  refine I.conv ?_
  rintro h a ⟨l, u⟩ ⟨b1, c1, rfl, _, hl, rfl⟩
  obtain ⟨v, e, rfl, v1, v2⟩ := hl.view
  exact ⟨l, ⟨v, rfl, ⟨e, v1, v2⟩, v1.leaf⟩, by dsimp only; omega⟩
end
end Go.Proofs.Ytbamgdknkhhikaa
namespace Go.Proofs
open Go.Shelf
def Ytbamgdknkhhikaa.sortL_ren : Go.Shelf.Ren := ⟨fun | 6 => 51 | 15 => 64 | 14 => 65 | 28 => 78 | 29 => 79 | 20 => 80 | 21 => 81 | 22 => 82 | 23 => 83 | 24 => 84 | 25 => 85 | 26 => 86 | 27 => 87 | 46 => 95 | 47 => 91 | 48 => 92 | 49 => 96 | 50 => 97 | 57 => 99 | n => n, fun | 22 => 105 | 24 => 85 | 25 => 107 | 3 => 3 | 39 => 121 | 0 => 0 | 53 => 135 | 55 => 137 | 4 => 4 | 46 => 128 | 45 => 127 | 50 => 132 | 5 => 5 | 9 => 9 | 66 => 145 | 70 => 149 | 76 => 153 | 77 => 154 | n => n, fun | n => n⟩
theorem Ytbamgdknkhhikaa.sortL : Go.Proofs.SlLaysF.n6 Try.prog Ytbamgdknkhhikaa.sortL_ren := {
  mixed := by kernel_rfl
  f6 := ⟨Try.f51.name, by decide, Try.func51.trans (congrArg some (by kernel_rfl))⟩
  f14 := ⟨Try.f65.name, by decide, Try.func65.trans (congrArg some (by kernel_rfl))⟩
  f15 := Try.func64.trans (congrArg some (by kernel_rfl))
  f20 := ⟨Try.f80.name, by decide, Try.func80.trans (congrArg some (by kernel_rfl))⟩
  f21 := ⟨Try.f81.name, by decide, Try.func81.trans (congrArg some (by kernel_rfl))⟩
  f22 := ⟨Try.f82.name, by decide, Try.func82.trans (congrArg some (by kernel_rfl))⟩
  f23 := ⟨Try.f83.name, by decide, Try.func83.trans (congrArg some (by kernel_rfl))⟩
  f24 := ⟨Try.f84.name, by decide, Try.func84.trans (congrArg some (by kernel_rfl))⟩
  f25 := ⟨Try.f85.name, by decide, Try.func85.trans (congrArg some (by kernel_rfl))⟩
  f26 := ⟨Try.f86.name, by decide, Try.func86.trans (congrArg some (by kernel_rfl))⟩
  f27 := ⟨Try.f87.name, by decide, Try.func87.trans (congrArg some (by kernel_rfl))⟩
  f28 := Try.func78.trans (congrArg some (by kernel_rfl))
  f29 := Try.func79.trans (congrArg some (by kernel_rfl))
  f46 := ⟨Try.f95.name, by decide, Try.func95.trans (congrArg some (by kernel_rfl))⟩
  f47 := Try.func91.trans (congrArg some (by kernel_rfl))
  f48 := Try.func92.trans (congrArg some (by kernel_rfl))
  f49 := ⟨Try.f96.name, by decide, Try.func96.trans (congrArg some (by kernel_rfl))⟩
  f50 := ⟨Try.f97.name, by decide, Try.func97.trans (congrArg some (by kernel_rfl))⟩
  f57 := ⟨Try.f99.name, by decide, Try.func99.trans (congrArg some (by kernel_rfl))⟩
  t0 := Try.underlying0
  a0 := Try.isAgg0
  z0 := Try.sizeOf0
  v0 := Try.zeroValue0
  t3 := Try.underlying3
  a3 := Try.isAgg3
  z3 := Try.sizeOf3
  v3 := Try.zeroValue3
  t4 := Try.underlying4
  a4 := Try.isAgg4
  z4 := Try.sizeOf4
  v4 := Try.zeroValue4
  t5 := Try.underlying5
  a5 := Try.isAgg5
  z5 := Try.sizeOf5
  v5 := Try.zeroValue5
  t9 := Try.underlying9
  a9 := Try.isAgg9
  z9 := Try.sizeOf9
  v9 := Try.zeroValue9
  t22 := Try.underlying105
  a22 := Try.isAgg105
  z22 := Try.sizeOf105
  v22 := Try.zeroValue105
  a24 := Try.isAgg85
  z24 := Try.sizeOf85
  t25 := Try.underlying107
  a25 := Try.isAgg107
  z25 := Try.sizeOf107
  v25 := Try.zeroValue107
  t39 := Try.underlying121
  a39 := Try.isAgg121
  z39 := Try.sizeOf121
  v39 := Try.zeroValue121
  t45 := Try.underlying127
  a45 := Try.isAgg127
  z45 := Try.sizeOf127
  v45 := Try.zeroValue127
  t46 := Try.underlying128
  a46 := Try.isAgg128
  z46 := Try.sizeOf128
  v46 := Try.zeroValue128
  t50 := Try.underlying132
  a50 := Try.isAgg132
  z50 := Try.sizeOf132
  v50 := Try.zeroValue132
  t53 := Try.underlying135
  a53 := Try.isAgg135
  z53 := Try.sizeOf135
  v53 := Try.zeroValue135
  t55 := Try.underlying137
  a55 := Try.isAgg137
  z55 := Try.sizeOf137
  v55 := Try.zeroValue137
  t66 := Try.underlying145
  a66 := Try.isAgg145
  z66 := Try.sizeOf145
  v66 := Try.zeroValue145
  t70 := Try.underlying149
  a70 := Try.isAgg149
  z70 := Try.sizeOf149
  v70 := Try.zeroValue149
  t76 := Try.underlying153
  a76 := Try.isAgg153
  z76 := Try.sizeOf153
  v76 := Try.zeroValue153
  t77 := Try.underlying154
  a77 := Try.isAgg154
  z77 := Try.sizeOf154
  v77 := Try.zeroValue154 }
def Ytbamgdknkhhikaa.sortK_ren : Go.Shelf.Ren := ⟨fun | 6 => 46 | 15 => 64 | 14 => 63 | 28 => 78 | 29 => 79 | 20 => 70 | 21 => 71 | 22 => 72 | 23 => 73 | 24 => 74 | 25 => 75 | 26 => 76 | 27 => 77 | 46 => 90 | 47 => 91 | 48 => 92 | 49 => 93 | 50 => 94 | 57 => 98 | n => n, fun | 22 => 100 | 24 => 84 | 25 => 102 | 3 => 3 | 39 => 121 | 0 => 0 | 53 => 135 | 55 => 137 | 4 => 4 | 46 => 128 | 45 => 127 | 50 => 132 | 5 => 5 | 9 => 9 | 66 => 145 | 70 => 149 | 76 => 153 | 77 => 154 | n => n, fun | n => n⟩
theorem Ytbamgdknkhhikaa.sortK : Go.Proofs.SlLaysF0.n6 Try.prog Ytbamgdknkhhikaa.sortK_ren := {
  mixed := by kernel_rfl
  f6 := ⟨Try.f46.name, by decide, Try.func46.trans (congrArg some (by kernel_rfl))⟩
  f14 := ⟨Try.f63.name, by decide, Try.func63.trans (congrArg some (by kernel_rfl))⟩
  f15 := Try.func64.trans (congrArg some (by kernel_rfl))
  f20 := ⟨Try.f70.name, by decide, Try.func70.trans (congrArg some (by kernel_rfl))⟩
  f21 := ⟨Try.f71.name, by decide, Try.func71.trans (congrArg some (by kernel_rfl))⟩
  f22 := ⟨Try.f72.name, by decide, Try.func72.trans (congrArg some (by kernel_rfl))⟩
  f23 := ⟨Try.f73.name, by decide, Try.func73.trans (congrArg some (by kernel_rfl))⟩
  f24 := ⟨Try.f74.name, by decide, Try.func74.trans (congrArg some (by kernel_rfl))⟩
  f25 := ⟨Try.f75.name, by decide, Try.func75.trans (congrArg some (by kernel_rfl))⟩
  f26 := ⟨Try.f76.name, by decide, Try.func76.trans (congrArg some (by kernel_rfl))⟩
  f27 := ⟨Try.f77.name, by decide, Try.func77.trans (congrArg some (by kernel_rfl))⟩
  f28 := Try.func78.trans (congrArg some (by kernel_rfl))
  f29 := Try.func79.trans (congrArg some (by kernel_rfl))
  f46 := ⟨Try.f90.name, by decide, Try.func90.trans (congrArg some (by kernel_rfl))⟩
  f47 := Try.func91.trans (congrArg some (by kernel_rfl))
  f48 := Try.func92.trans (congrArg some (by kernel_rfl))
  f49 := ⟨Try.f93.name, by decide, Try.func93.trans (congrArg some (by kernel_rfl))⟩
  f50 := ⟨Try.f94.name, by decide, Try.func94.trans (congrArg some (by kernel_rfl))⟩
  f57 := ⟨Try.f98.name, by decide, Try.func98.trans (congrArg some (by kernel_rfl))⟩
  t0 := Try.underlying0
  a0 := Try.isAgg0
  z0 := Try.sizeOf0
  v0 := Try.zeroValue0
  t3 := Try.underlying3
  a3 := Try.isAgg3
  z3 := Try.sizeOf3
  v3 := Try.zeroValue3
  t4 := Try.underlying4
  a4 := Try.isAgg4
  z4 := Try.sizeOf4
  v4 := Try.zeroValue4
  t5 := Try.underlying5
  a5 := Try.isAgg5
  z5 := Try.sizeOf5
  v5 := Try.zeroValue5
  t9 := Try.underlying9
  a9 := Try.isAgg9
  z9 := Try.sizeOf9
  v9 := Try.zeroValue9
  t22 := Try.underlying100
  a22 := Try.isAgg100
  z22 := Try.sizeOf100
  v22 := Try.zeroValue100
  t25 := Try.underlying102
  a25 := Try.isAgg102
  z25 := Try.sizeOf102
  v25 := Try.zeroValue102
  t39 := Try.underlying121
  a39 := Try.isAgg121
  z39 := Try.sizeOf121
  v39 := Try.zeroValue121
  t45 := Try.underlying127
  a45 := Try.isAgg127
  z45 := Try.sizeOf127
  v45 := Try.zeroValue127
  t46 := Try.underlying128
  a46 := Try.isAgg128
  z46 := Try.sizeOf128
  v46 := Try.zeroValue128
  t50 := Try.underlying132
  a50 := Try.isAgg132
  z50 := Try.sizeOf132
  v50 := Try.zeroValue132
  t53 := Try.underlying135
  a53 := Try.isAgg135
  z53 := Try.sizeOf135
  v53 := Try.zeroValue135
  t55 := Try.underlying137
  a55 := Try.isAgg137
  z55 := Try.sizeOf137
  v55 := Try.zeroValue137
  t66 := Try.underlying145
  a66 := Try.isAgg145
  z66 := Try.sizeOf145
  v66 := Try.zeroValue145
  t70 := Try.underlying149
  a70 := Try.isAgg149
  z70 := Try.sizeOf149
  v70 := Try.zeroValue149
  t76 := Try.underlying153
  a76 := Try.isAgg153
  z76 := Try.sizeOf153
  v76 := Try.zeroValue153
  t77 := Try.underlying154
  a77 := Try.isAgg154
  z77 := Try.sizeOf154
  v77 := Try.zeroValue154 }
end Go.Proofs
namespace Go.Proofs.Ytbamgdknkhhikaa
open Go.Ab
@[irreducible] noncomputable def A7 : AFun := (compFn Try.prog Try.f7).getD ⟨0, [], .skip⟩
@[irreducible] noncomputable def A33 : AFun := (compFn Try.prog Try.f33).getD ⟨0, [], .skip⟩
@[irreducible] noncomputable def A46 : AFun := (compFn Try.prog Try.f46).getD ⟨0, [], .skip⟩
@[irreducible] noncomputable def A51 : AFun := (compFn Try.prog Try.f51).getD ⟨0, [], .skip⟩
@[irreducible] noncomputable def A63 : AFun := (compFn Try.prog Try.f63).getD ⟨0, [], .skip⟩
@[irreducible] noncomputable def A64 : AFun := (compFn Try.prog Try.f64).getD ⟨0, [], .skip⟩
@[irreducible] noncomputable def A65 : AFun := (compFn Try.prog Try.f65).getD ⟨0, [], .skip⟩
@[irreducible] noncomputable def A70 : AFun := (compFn Try.prog Try.f70).getD ⟨0, [], .skip⟩
@[irreducible] noncomputable def A78 : AFun := (compFn Try.prog Try.f78).getD ⟨0, [], .skip⟩
@[irreducible] noncomputable def A79 : AFun := (compFn Try.prog Try.f79).getD ⟨0, [], .skip⟩
@[irreducible] noncomputable def A80 : AFun := (compFn Try.prog Try.f80).getD ⟨0, [], .skip⟩
noncomputable def tblW : List (Nat × AFun) := [(7, A7), (8, A8), (10, A10), (13, A13), (19, A19), (21, A21), (23, A23), (24, A24), (33, A33), (35, A35), (36, A36), (37, A37), (38, A38), (39, A39), (40, A40), (41, A41), (46, A46), (47, A47), (48, A48), (51, A51), (52, A52), (55, A55), (56, A56), (57, A57), (58, A58), (59, A59), (60, A60), (61, A61), (63, A63), (64, A64), (65, A65), (66, A66), (67, A67), (68, A68), (69, A69), (70, A70), (78, A78), (79, A79), (80, A80), (88, A88), (89, A89)]
set_option maxRecDepth 1000000 in
theorem runW : callN (envT tblW) 300 (.func 7) [] AHeap.empty (fun v _ => isTrue v) = true := by kernel_rfl
end Go.Proofs.Ytbamgdknkhhikaa
namespace Go.Proofs.Ytbamgdknkhhikaa
open Go.Ab
theorem t3 : compFn Try.prog Try.f3 = some (stripF A3) := by kernel_rfl
theorem t6 : compFn Try.prog Try.f6 = some (stripF A6) := by kernel_rfl
theorem t7 : compFn Try.prog Try.f7 = some (stripF A7) := by kernel_rfl
theorem t8 : compFn Try.prog Try.f8 = some (stripF A8) := by kernel_rfl
theorem t9 : compFn Try.prog Try.f9 = some (stripF A9) := by kernel_rfl
theorem t10 : compFn Try.prog Try.f10 = some (stripF A10) := by kernel_rfl
theorem t11 : compFn Try.prog Try.f11 = some (stripF A11) := by kernel_rfl
theorem t12 : compFn Try.prog Try.f12 = some (stripF A12) := by kernel_rfl
theorem t13 : compFn Try.prog Try.f13 = some (stripF A13) := by kernel_rfl
theorem t14 : compFn Try.prog Try.f14 = some (stripF A14) := by kernel_rfl
theorem t15 : compFn Try.prog Try.f15 = some (stripF A15) := by kernel_rfl
theorem t16 : compFn Try.prog Try.f16 = some (stripF A16) := by kernel_rfl
theorem t17 : compFn Try.prog Try.f17 = some (stripF A17) := by kernel_rfl
theorem t18 : compFn Try.prog Try.f18 = some (stripF A18) := by kernel_rfl
theorem t19 : compFn Try.prog Try.f19 = some (stripF A19) := by kernel_rfl
theorem t20 : compFn Try.prog Try.f20 = some (stripF A20) := by kernel_rfl
theorem t21 : compFn Try.prog Try.f21 = some (stripF A21) := by kernel_rfl
theorem t22 : compFn Try.prog Try.f22 = some (stripF A22) := by kernel_rfl
theorem t23 : compFn Try.prog Try.f23 = some (stripF A23) := by kernel_rfl
theorem t24 : compFn Try.prog Try.f24 = some (stripF A24) := by kernel_rfl
theorem t25 : compFn Try.prog Try.f25 = some (stripF A25) := by kernel_rfl
theorem t26 : compFn Try.prog Try.f26 = some (stripF A26) := by kernel_rfl
theorem t27 : compFn Try.prog Try.f27 = some (stripF A27) := by kernel_rfl
theorem t32 : compFn Try.prog Try.f32 = some (stripF A32) := by kernel_rfl
theorem t33 : compFn Try.prog Try.f33 = some (stripF A33) := by kernel_rfl
theorem t34 : compFn Try.prog Try.f34 = some (stripF A34) := by kernel_rfl
theorem t35 : compFn Try.prog Try.f35 = some (stripF A35) := by kernel_rfl
theorem t36 : compFn Try.prog Try.f36 = some (stripF A36) := by kernel_rfl
theorem t37 : compFn Try.prog Try.f37 = some (stripF A37) := by kernel_rfl
theorem t38 : compFn Try.prog Try.f38 = some (stripF A38) := by kernel_rfl
theorem t39 : compFn Try.prog Try.f39 = some (stripF A39) := by kernel_rfl
theorem t40 : compFn Try.prog Try.f40 = some (stripF A40) := by kernel_rfl
theorem t41 : compFn Try.prog Try.f41 = some (stripF A41) := by kernel_rfl
theorem t42 : compFn Try.prog Try.f42 = some (stripF A42) := by kernel_rfl
theorem t43 : compFn Try.prog Try.f43 = some (stripF A43) := by kernel_rfl
theorem t44 : compFn Try.prog Try.f44 = some (stripF A44) := by kernel_rfl
theorem t45 : compFn Try.prog Try.f45 = some (stripF A45) := by kernel_rfl
theorem t46 : compFn Try.prog Try.f46 = some (stripF A46) := by kernel_rfl
theorem t47 : compFn Try.prog Try.f47 = some (stripF A47) := by kernel_rfl
theorem t48 : compFn Try.prog Try.f48 = some (stripF A48) := by kernel_rfl
theorem t49 : compFn Try.prog Try.f49 = some (stripF A49) := by kernel_rfl
theorem t50 : compFn Try.prog Try.f50 = some (stripF A50) := by kernel_rfl
theorem t51 : compFn Try.prog Try.f51 = some (stripF A51) := by kernel_rfl
theorem t52 : compFn Try.prog Try.f52 = some (stripF A52) := by kernel_rfl
theorem t53 : compFn Try.prog Try.f53 = some (stripF A53) := by kernel_rfl
theorem t54 : compFn Try.prog Try.f54 = some (stripF A54) := by kernel_rfl
theorem t55 : compFn Try.prog Try.f55 = some (stripF A55) := by kernel_rfl
theorem t56 : compFn Try.prog Try.f56 = some (stripF A56) := by kernel_rfl
theorem t57 : compFn Try.prog Try.f57 = some (stripF A57) := by kernel_rfl
theorem t58 : compFn Try.prog Try.f58 = some (stripF A58) := by kernel_rfl
theorem t59 : compFn Try.prog Try.f59 = some (stripF A59) := by kernel_rfl
theorem t60 : compFn Try.prog Try.f60 = some (stripF A60) := by kernel_rfl
theorem t61 : compFn Try.prog Try.f61 = some (stripF A61) := by kernel_rfl
theorem t62 : compFn Try.prog Try.f62 = some (stripF A62) := by kernel_rfl
theorem t63 : compFn Try.prog Try.f63 = some (stripF A63) := by kernel_rfl
theorem t64 : compFn Try.prog Try.f64 = some (stripF A64) := by kernel_rfl
theorem t65 : compFn Try.prog Try.f65 = some (stripF A65) := by kernel_rfl
theorem t66 : compFn Try.prog Try.f66 = some (stripF A66) := by kernel_rfl
theorem t67 : compFn Try.prog Try.f67 = some (stripF A67) := by kernel_rfl
theorem t68 : compFn Try.prog Try.f68 = some (stripF A68) := by kernel_rfl
theorem t69 : compFn Try.prog Try.f69 = some (stripF A69) := by kernel_rfl
theorem t70 : compFn Try.prog Try.f70 = some (stripF A70) := by kernel_rfl
theorem t78 : compFn Try.prog Try.f78 = some (stripF A78) := by kernel_rfl
theorem t79 : compFn Try.prog Try.f79 = some (stripF A79) := by kernel_rfl
theorem t80 : compFn Try.prog Try.f80 = some (stripF A80) := by kernel_rfl
theorem t88 : compFn Try.prog Try.f88 = some (stripF A88) := by kernel_rfl
theorem t89 : compFn Try.prog Try.f89 = some (stripF A89) := by kernel_rfl
theorem tbl_ok : AllOK Try.prog tbl := ⟨⟨_, Try.func3, t3⟩, ⟨_, Try.func6, t6⟩, ⟨_, Try.func8, t8⟩, ⟨_, Try.func9, t9⟩, ⟨_, Try.func10, t10⟩, ⟨_, Try.func11, t11⟩, ⟨_, Try.func12, t12⟩, ⟨_, Try.func13, t13⟩, ⟨_, Try.func14, t14⟩, ⟨_, Try.func15, t15⟩, ⟨_, Try.func16, t16⟩, ⟨_, Try.func17, t17⟩, ⟨_, Try.func18, t18⟩, ⟨_, Try.func19, t19⟩, ⟨_, Try.func20, t20⟩, ⟨_, Try.func21, t21⟩, ⟨_, Try.func22, t22⟩, ⟨_, Try.func23, t23⟩, ⟨_, Try.func24, t24⟩, ⟨_, Try.func25, t25⟩, ⟨_, Try.func26, t26⟩, ⟨_, Try.func27, t27⟩, ⟨_, Try.func32, t32⟩, ⟨_, Try.func34, t34⟩, ⟨_, Try.func35, t35⟩, ⟨_, Try.func36, t36⟩, ⟨_, Try.func37, t37⟩, ⟨_, Try.func38, t38⟩, ⟨_, Try.func39, t39⟩, ⟨_, Try.func40, t40⟩, ⟨_, Try.func41, t41⟩, ⟨_, Try.func42, t42⟩, ⟨_, Try.func43, t43⟩, ⟨_, Try.func44, t44⟩, ⟨_, Try.func45, t45⟩, ⟨_, Try.func47, t47⟩, ⟨_, Try.func48, t48⟩, ⟨_, Try.func49, t49⟩, ⟨_, Try.func50, t50⟩, ⟨_, Try.func52, t52⟩, ⟨_, Try.func53, t53⟩, ⟨_, Try.func54, t54⟩, ⟨_, Try.func55, t55⟩, ⟨_, Try.func56, t56⟩, ⟨_, Try.func57, t57⟩, ⟨_, Try.func58, t58⟩, ⟨_, Try.func59, t59⟩, ⟨_, Try.func60, t60⟩, ⟨_, Try.func61, t61⟩, ⟨_, Try.func62, t62⟩, ⟨_, Try.func66, t66⟩, ⟨_, Try.func67, t67⟩, ⟨_, Try.func68, t68⟩, ⟨_, Try.func69, t69⟩, ⟨_, Try.func88, t88⟩, ⟨_, Try.func89, t89⟩, trivial⟩
theorem tblW_ok : AllOK Try.prog tblW := ⟨⟨_, Try.func7, t7⟩, ⟨_, Try.func8, t8⟩, ⟨_, Try.func10, t10⟩, ⟨_, Try.func13, t13⟩, ⟨_, Try.func19, t19⟩, ⟨_, Try.func21, t21⟩, ⟨_, Try.func23, t23⟩, ⟨_, Try.func24, t24⟩, ⟨_, Try.func33, t33⟩, ⟨_, Try.func35, t35⟩, ⟨_, Try.func36, t36⟩, ⟨_, Try.func37, t37⟩, ⟨_, Try.func38, t38⟩, ⟨_, Try.func39, t39⟩, ⟨_, Try.func40, t40⟩, ⟨_, Try.func41, t41⟩, ⟨_, Try.func46, t46⟩, ⟨_, Try.func47, t47⟩, ⟨_, Try.func48, t48⟩, ⟨_, Try.func51, t51⟩, ⟨_, Try.func52, t52⟩, ⟨_, Try.func55, t55⟩, ⟨_, Try.func56, t56⟩, ⟨_, Try.func57, t57⟩, ⟨_, Try.func58, t58⟩, ⟨_, Try.func59, t59⟩, ⟨_, Try.func60, t60⟩, ⟨_, Try.func61, t61⟩, ⟨_, Try.func63, t63⟩, ⟨_, Try.func64, t64⟩, ⟨_, Try.func65, t65⟩, ⟨_, Try.func66, t66⟩, ⟨_, Try.func67, t67⟩, ⟨_, Try.func68, t68⟩, ⟨_, Try.func69, t69⟩, ⟨_, Try.func70, t70⟩, ⟨_, Try.func78, t78⟩, ⟨_, Try.func79, t79⟩, ⟨_, Try.func80, t80⟩, ⟨_, Try.func88, t88⟩, ⟨_, Try.func89, t89⟩, trivial⟩
theorem body51 : ∃ c, Try.f51.body = some c := by
  have h : Try.f51.body.isSome = true := by kernel_rfl
  cases e : Try.f51.body with
  | none => rw [e] at h; cases h
  | some c => exact ⟨c, rfl⟩
theorem enter51 (args : Array Value) (w : World) : (callFunc 51 args).run Try.prog w = .ok (.enter 51 args) w := by
  obtain ⟨c, h⟩ := body51
  exact _root_.Go.MuLone.run_callFunc_enter Try.func51 (by kernel_rfl) h args w
theorem body52 : ∃ c, Try.f52.body = some c := by
  have h : Try.f52.body.isSome = true := by kernel_rfl
  cases e : Try.f52.body with
  | none => rw [e] at h; cases h
  | some c => exact ⟨c, rfl⟩
theorem enter52 (args : Array Value) (w : World) : (callFunc 52 args).run Try.prog w = .ok (.enter 52 args) w := by
  obtain ⟨c, h⟩ := body52
  exact _root_.Go.MuLone.run_callFunc_enter Try.func52 (by kernel_rfl) h args w
theorem body46 : ∃ c, Try.f46.body = some c := by
  have h : Try.f46.body.isSome = true := by kernel_rfl
  cases e : Try.f46.body with
  | none => rw [e] at h; cases h
  | some c => exact ⟨c, rfl⟩
theorem enter46 (args : Array Value) (w : World) : (callFunc 46 args).run Try.prog w = .ok (.enter 46 args) w := by
  obtain ⟨c, h⟩ := body46
  exact _root_.Go.MuLone.run_callFunc_enter Try.func46 (by kernel_rfl) h args w
theorem body47 : ∃ c, Try.f47.body = some c := by
  have h : Try.f47.body.isSome = true := by kernel_rfl
  cases e : Try.f47.body with
  | none => rw [e] at h; cases h
  | some c => exact ⟨c, rfl⟩
theorem enter47 (args : Array Value) (w : World) : (callFunc 47 args).run Try.prog w = .ok (.enter 47 args) w := by
  obtain ⟨c, h⟩ := body47
  exact _root_.Go.MuLone.run_callFunc_enter Try.func47 (by kernel_rfl) h args w
theorem prims_ok : AllPrim Try.prog prims := ⟨sortP_ok sortL rfl enter51 (fun g hg args w => by
    simp only [List.mem_cons, List.not_mem_nil, or_false] at hg
    subst hg; exact enter52 args w),
  sortPK_ok (by decide) sortK Try.isAgg84 Try.sizeOf84 rfl enter46 (fun g hg args w => by
    simp only [List.mem_cons, List.not_mem_nil, or_false] at hg
    subst hg; exact enter47 args w),
  saysT_ok Try.checked.mixed (envT_ok tblW_ok) (fn := A7) rfl runW, trivial⟩
theorem env_ok : EnvOK Try.prog E := envP_ok tbl_ok prims_ok
end Go.Proofs.Ytbamgdknkhhikaa
