/-
  Texts that the claim hangs on, part 6.
-/
import Derived.Test.YthifmankpcadjaaX4
import Derived.Test.YthifmankpcadjaaRows
import Derived.KernelRfl
import Derived.Shelf.Lays2
import Derived.Ground.Names2Prog
import Derived.Test.YthifmankpcadjaaProg
import Derived.Test.YthifmankpcadjaaChecked
import Derived.Conc.MuLone
namespace Go.Proofs.Ythifmankpcadjaa
open Go.Ab
set_option linter.unusedSimpArgs false
set_option linter.unusedVariables false
def Hit : IK → FD → Prop
  | .all, _ => True
  | .c s, x => x.cls = s
  | .k q, x => keyOf x = q
structure SI (cs : List Cls) (b : Nat) (T : SD) : Prop where
  ks : (T.fs.map fun p => p.1).Pairwise (· < ·)
  kb : ∀ k x, (k, x) ∈ T.fs → 1 ≤ k ∧ k ≤ T.next
  rw : ∀ i y, InR T i y ↔ ∃ x, lkG T.fs y = some x ∧ Hit i x
  fc : ∀ k x, (k, x) ∈ T.fs → (idx x.cls (names cs)).isSome ∧ x.vs.length = (fieldsOf cs x.cls).length ∧ x.stamps.length = x.vs.length ∧ ∀ v ∈ x.vs, szV v ≤ b
theorem sz_all {b : Nat} : ∀ {l : List Val}, (∀ v ∈ l, szV v ≤ b) → szVs l ≤ l.length * b
  | [], _ => by simp [szVs]
  | v :: l, h => by
    have h1 := h v List.mem_cons_self
    have h2 := sz_all (l := l) fun w hw => h w (List.mem_cons_of_mem _ hw)
    simp only [szVs, List.length_cons]
    rw [Nat.succ_mul]; omega
theorem giv_all {P : Val → Prop} {cs : List Cls} {fs : List Fld} {of : Int → Option Str} : ∀ {gs : List (Str × Val)} {m : Nat} {vs vs' : List Val}, (∀ v ∈ vs, P v) → (∀ p ∈ gs, P p.2) → giv cs fs of gs m vs = some vs' → ∀ v ∈ vs', P v
  | [], m, vs, vs', h1, h2, h => by simp only [giv, Option.some.injEq] at h; subst h; exact h1
  | p :: t, m, vs, vs', h1, h2, h => by
    simp only [giv] at h
    split at h
    · cases h
    · split at h
      · cases h
      · split at h
        · cases h
        · refine giv_all (fun v hv => ?_) (fun q hq => h2 q (List.mem_cons_of_mem _ hq)) h
          rcases List.mem_or_eq_of_mem_set hv with e | e
          · exact h1 v e
          · rw [e]; exact h2 p List.mem_cons_self
theorem given_all {P : Val → Prop} {cs : List Cls} {nm : Str} {of : Int → Option Str} {gs : List (Str × Val)} {vs vs' : List Val} (h1 : ∀ v ∈ vs, P v) (h2 : ∀ p ∈ gs, P p.2) (h : given cs nm of gs vs = some vs') : ∀ v ∈ vs', P v := by
  unfold given at h
  split at h
  · cases h
  · exact giv_all h1 h2 h
structure InsT (T T' : SD) (name : Str) (vs : List Val) (st : Bool) : Prop where
  fs : ∃ x, T'.fs = T.fs ++ [(((T.next + 1 : Nat) : Int), x)] ∧ x.cls = name ∧ x.vs = vs ∧ x.stated = st ∧ x.born = T.clock + 1 ∧ x.stamps = List.replicate vs.length ((T.clock + 1 : Nat) : Int)
  sc : T'.p = T.p ∧ T'.tb = T.tb ∧ T'.most = T.most ∧ T'.next = T.next + 1 ∧ T'.clock = T.clock + 1
  rw : ∀ i y, InR T' i y ↔ InR T i y ∨ (y = ((T.next + 1 : Nat) : Int) ∧ (i = .all ∨ i = .c name ∨ i = .k (name, spV vs)))
section
variable {B b : Nat} {τ : Nat → Tag} {o : Nat} {h0 h : AHeap} {T : SD} {K : Kont} {n : Nat} {Q : Nat → Prop} {sv : AV} {cs : List Cls} {name : Str} {gs : List (Str × Val)} {st : Bool}
theorem SI.len (I : SI cs b T) (O : SO B τ o h0 h T) {i : IK} {r : RD} (hr : T.row i = some r) : r.l.length ≤ T.next := by
  have := srt_len (a := 0) (N := T.next) (O.r i r hr).rn.srt (fun y hy => by
    obtain ⟨x, e, _⟩ := (I.rw i y).1 ⟨r, hr, hy⟩
    have := I.kb y x (lkG_mem e); omega) (by omega)
  omega
theorem SI.fresh (I : SI cs b T) : lkG T.fs ((T.next + 1 : Nat) : Int) = none := by
  cases e : lkG T.fs ((T.next + 1 : Nat) : Int) with
  | none => rfl
  | some x => have := I.kb _ x (lkG_mem e); omega
theorem SI.nin (I : SI cs b T) {i : IK} {r : RD} (hr : T.row i = some r) : ((T.next + 1 : Nat) : Int) ∉ r.l := fun q => by
  obtain ⟨x, e, _⟩ := (I.rw i _).1 ⟨r, hr, q⟩
  rw [I.fresh] at e; cases e
theorem ints_rep (i L : Nat) (c : Int) (h : i < L) : (ints (List.replicate i c ++ List.replicate (L - i) 0)).set i [AV.int .i64 c] = ints (List.replicate (i + 1) c ++ List.replicate (L - (i + 1)) 0) := by
  have e1 : L - i = (L - (i + 1)) + 1 := by omega
  rw [e1, List.replicate_succ, List.replicate_succ', ints_app, ints_app, ints_app]
  have hl : (ints (List.replicate i c)).length = i := by rw [ints_len, List.length_replicate]
  rw [List.set_append_right _ _ (by omega), hl, Nat.sub_self, List.append_assoc]
  rfl
theorem ins_rows {τ0 : Nat → Tag} {h00 : AHeap} {T0 : SD} {x : FD} (I : SI cs b T0) (O : SO B τ o h0 h T) (s0 : St o τ0 τ h00 h) (O0 : SO B τ0 o h0 h00 T0)
    (eq : T = { T0 with fs := T0.fs ++ [(((T0.next + 1 : Nat) : Int), x)], next := T0.next + 1, clock := T0.clock + 1 })
    (hN : T0.next < 500000) (hB : B < 1000000000) (hn : B + 3000000 ≤ n) (hL : n + 100 < lim)
    (kk : ∀ h' τ' T', SO B τ' o h0 h' T' → St o τ0 τ' h00 h' → T' = { T with all := T'.all, by' := T'.by', same := T'.same } → (∀ i y, InR T' i y ↔ InR T i y ∨ (y = ((T0.next + 1 : Nat) : Int) ∧ (i = .all ∨ i = .c x.cls ∨ i = .k (keyOf x)))) → K (.tup [.int .i64 ((T0.next + 1 : Nat) : Int), .int .i64 0]) h' = true) :
    (callN E (n + 7) (.func 29) [.ptr T.all.id 0 0 0, .int .i64 ((T0.next + 1 : Nat) : Int)] h fun v80 h => optB (nilckA (.ptr T.p 0 0 0)) fun v81 => optB (fadrA 6 v81) fun v82 => optB (loadA h false 1 v82) fun v83 => optB (lookA h (.leaf .str) false .nilPtr v83 (.str x.cls)) fun v84 => optB (eqV h false .ptr v84 .nilPtr) fun v85 => condB v85 (optB (nilckA (.ptr T.p 0 0 0)) fun v86 => optB (fadrA 6 v86) fun v87 => optB (loadA h false 1 v87) fun v88 => callN E (n + 7) (.func 27) [] h fun v89 h => sameB (loadA h false 1 v87) v88 <| optP (unit (mupdA h (.leaf .str) v88 (.str x.cls) v89)) fun _ h => p10_62 (callN E (n + 7)) (n + 7) (.ptr T.p 0 0 0) (.str x.cls) (.ptr x.id 0 0 0) h K) (p10_62 (callN E (n + 7)) (n + 7) (.ptr T.p 0 0 0) (.str x.cls) (.ptr x.id 0 0 0) h K)) = true := by
  have hsm : small ((T0.next + 1 : Nat) : Int) := ⟨by omega, by omega⟩
  generalize hhd : ((T0.next + 1 : Nat) : Int) = hd at *
  have hr : ∀ i, T.row i = T0.row i := fun i => by rw [eq]; cases i <;> rfl
  have hlen : ∀ i r, T0.row i = some r → r.l.length ≤ 500000 := fun i r e => by have := I.len O0 e; omega
  have hnin : ∀ i r, T0.row i = some r → hd ∉ r.l := fun i r e => by rw [← hhd]; exact I.nin e
  have hx : (hd, x) ∈ T.fs := by rw [eq]; simp
  refine put_row (n := n + 4) (i := .all) O rfl hsm (by have := hnin .all T.all (by rw [← hr]; rfl); exact this) (by have := hlen .all T.all (by rw [← hr]; rfl); omega) (by have := hlen .all T.all (by rw [← hr]; rfl); omega) fun h1 τ1 r1 O1 s1 i1 m1 => ?_
  have S1 := rs_set (T := T) (i := .all) (r' := r1) m1
  generalize hT1 : T.setRow .all r1 = T1 at *
  have t1 : T1.p = T.p ∧ T1.bm = T.bm ∧ T1.fs = T.fs := by rw [S1.eq]; exact ⟨rfl, rfl, rfl⟩
  have R1 : ∀ i, i ≠ .all → T1.row i = T0.row i := fun i e => by rw [S1.ne i e, hr]
  have L6 : ∀ {h' τ' T'}, SO B τ' o h0 h' T' → T'.p = T.p → T'.bm = T.bm → loadA h' false 1 (.ptr T.p 0 0 6) = some (.map T.bm) := fun O e1 e2 => by rw [← e1, ← e2]; exact O.l6
  have fin : ∀ h2 τ2 T2 r2, SO B τ2 o h0 h2 T2 → St o τ0 τ2 h00 h2 → T2 = { T with all := T2.all, by' := T2.by', same := T2.same } → T2.row (.c x.cls) = some r2 → (∀ y, y ∈ r2.l ↔ InR T0 (.c x.cls) y) → (∀ i, i ≠ .all → i ≠ .c x.cls → T2.row i = T0.row i) → (∀ y, InR T2 .all y ↔ y = hd ∨ InR T0 .all y) →
      p10_62 (callN E (n + 7)) (n + 7) (.ptr T.p 0 0 0) (.str x.cls) (.ptr x.id 0 0 0) h2 K = true := by
    intro h2 τ2 T2 r2 O2 s2 e2 hr2 m2 n2 a2
    unfold p10_62
    have p2 : T2.p = T.p := by rw [e2]
    have b2 : T2.bm = T.bm := by rw [e2]
    have hx2 : (hd, x) ∈ T2.fs := by rw [e2]; exact hx
    have F2 := O2.f hd x hx2
    have lk2 : lookA h2 (.leaf .str) false .nilPtr (.map T.bm) (.str x.cls) = some (.ptr r2.id 0 0 0) := by rw [← b2]; exact O2.lkb hr2
    have nin2 : hd ∉ r2.l := fun q => by
      obtain ⟨r, e, q⟩ := (m2 hd).1 q
      exact hnin _ r e q
    have len2 : r2.l.length ≤ 500000 := by
      have := srt_len (a := 0) (N := T0.next) (O2.r _ r2 hr2).rn.srt (fun y hy => by
        obtain ⟨z, e, _⟩ := (I.rw _ y).1 ((m2 y).1 hy)
        have := I.kb y z (lkG_mem e); omega) (by omega)
      omega
    refine z_nil ?_; refine z_fadr ?_; refine z_of (L6 O2 p2 b2) ?_; refine z_of lk2 ?_; refine z_nil ?_; refine z_fadr ?_; refine z_of F2.l0 ?_
    refine put_row (n := n + 4) O2 hr2 hsm nin2 (by omega) (by omega) fun h3 τ3 r3 O3 s3 i3 m3 => ?_
    have S3 := rs_set (T := T2) (i := .c x.cls) (r' := r3) m3
    generalize hT3 : T2.setRow (.c x.cls) r3 = T3 at *
    have p3 : T3.p = T.p := by rw [S3.eq]; exact p2
    have f3 : T3.fs = T.fs := by rw [S3.eq, e2]
    have hx3 : (hd, x) ∈ T3.fs := by rw [f3]; exact hx
    have hk3 : T3.row (.k (keyOf x)) = T0.row (.k (keyOf x)) := by rw [S3.ne (.k (keyOf x)) nofun, n2 (.k (keyOf x)) nofun nofun]
    rw [← p3]
    refine c30 (n := n + 2) O3 hx3 hsm (fun r e => hnin _ r (by rw [← hk3]; exact e)) (fun r e => by have := hlen _ r (by rw [← hk3]; exact e); omega) (by omega) (by omega) (by omega) fun h4 τ4 T4 O4 s4 S4 => ?_
    have F4 := O4.f hd x (by rw [S4.eq]; exact hx3)
    refine z_nil ?_; refine z_fadr ?_; refine z_of F4.l0 ?_
    refine kk h4 τ4 T4 O4 ((s2.trans O0.ok s3).trans O0.ok s4) (by rw [S4.eq, S3.eq, e2]) fun i y => ?_
    rw [rs_in S4]
    by_cases e1 : i = .k (keyOf x)
    · subst e1
      rw [if_pos rfl]
      have : InR T (.k (keyOf x)) y ↔ ∃ r, T3.row (.k (keyOf x)) = some r ∧ y ∈ r.l := by unfold InR; rw [hr, hk3]
      rw [this]
      simp only [reduceCtorEq, false_or, and_true]
      exact Or.comm
    · rw [if_neg e1, rs_in S3]
      by_cases e2 : i = .c x.cls
      · subst e2
        rw [if_pos rfl, m2]
        have : InR T (.c x.cls) y ↔ InR T0 (.c x.cls) y := by unfold InR; rw [hr]
        rw [this]
        simp only [reduceCtorEq, false_or, or_false, and_true]
        exact Or.comm
      · rw [if_neg e2]
        by_cases e3 : i = .all
        · subst e3
          have : InR T .all y ↔ InR T0 .all y := by unfold InR; rw [hr]
          rw [a2, this]
          simp only [true_or, and_true]
          exact Or.comm
        · have h1 : InR T2 i y ↔ InR T0 i y := by unfold InR; rw [n2 i e3 e2]
          have h2 : InR T i y ↔ InR T0 i y := by unfold InR; rw [hr]
          rw [h1, h2]
          simp only [e1, e2, e3, or_self, and_false, or_false]
  have s01 := s0.trans O0.ok s1
  have a1 : ∀ y, InR T1 .all y ↔ y = hd ∨ InR T0 .all y := fun y => by
    rw [rs_in S1, if_pos rfl]
    have : InR T0 .all y ↔ y ∈ T.all.l := by
      unfold InR; rw [← hr]
      constructor
      · rintro ⟨r, e, q⟩; cases e; exact q
      · exact fun q => ⟨_, rfl, q⟩
    rw [this]
  refine z_nil ?_; refine z_fadr ?_; refine z_of (L6 O1 t1.1 t1.2.1) ?_
  have rc := R1 (.c x.cls) nofun
  cases hc : T1.row (.c x.cls) with
  | some r =>
    have lk1 : lookA h1 (.leaf .str) false .nilPtr (.map T.bm) (.str x.cls) = some (.ptr r.id 0 0 0) := by rw [← t1.2.1]; exact O1.lkb hc
    refine z_of lk1 ?_; refine z_eqp ?_; refine z_cF ?_
    refine fin h1 τ1 T1 r O1 s01 S1.eq hc (fun y => ?_) (fun i e1 _ => R1 i e1) a1
    unfold InR
    rw [← rc, hc]
    constructor
    · exact fun q => ⟨r, rfl, q⟩
    · rintro ⟨r', e, q⟩; cases e; exact q
  | none =>
    have lk1 : lookA h1 (.leaf .str) false .nilPtr (.map T.bm) (.str x.cls) = some .nilPtr := by rw [← t1.2.1]; exact O1.lkb0 hc
    refine z_of lk1 ?_; refine z_eqn ?_; refine z_cT ?_; refine z_nil ?_; refine z_fadr ?_; refine z_of (L6 O1 t1.1 t1.2.1) ?_
    refine c27 O1.ok fun h2 e2 o2 z2 V2 => ?_
    have O2 := O1.ext e2 o2
    refine z_same (L6 O2 t1.1 t1.2.1) (same_map _) ?_
    obtain ⟨h3, u1, u2, u3, u4, u5⟩ := O2.by'.upd strKeys x.cls (.ptr h1.sz 0 0 0)
    rw [t1.2.1] at u1
    refine z_u u1 ?_
    have lbm := O1.by'.lt O1.ok
    obtain ⟨τ3, O3, s3⟩ := O1.newBy (s := x.cls) hc ((Fr.of_ext e2).trans (Fr.of_but rfl u2)) (u4 o2) (u2.var V2 (by omega)) u5
    have S3 := rs_set (T := T1) (i := .c x.cls) (r' := ⟨h1.sz, .nilSlc, []⟩) (P := fun _ => False) fun y => by simp
    refine fin h3 τ3 _ ⟨h1.sz, .nilSlc, []⟩ O3 (s01.trans O0.ok s3) (by rw [S3.eq, S1.eq]) (by rw [row_set, if_pos rfl]) (fun y => ?_) (fun i e1 e2 => by rw [S3.ne i e2, R1 i e1]) fun y => by rw [rs_in S3, if_neg nofun]; exact a1 y
    unfold InR
    rw [← rc, hc]
    simp
end
end Go.Proofs.Ythifmankpcadjaa
namespace Go.Proofs.Ythifmankpcadjaa
open Go.Ab
set_option linter.unusedSimpArgs false
set_option linter.unusedVariables false
def zeros (fs : List Fld) : List Val := List.replicate fs.length zV
section
variable {B b : Nat} {τ : Nat → Tag} {o : Nat} {h0 h : AHeap} {T : SD} {K : Kont} {n : Nat} {Q : Nat → Prop} {sv : AV} {cs : List Cls} {name : Str} {gs : List (Str × Val)} {st : Bool}
theorem c10 (O : SO B τ o h0 h T) (I : SI cs b T) (TR : TableRep h0 T.tb cs) (A : Asc cs) (hcs : cs.length ≤ 64) (hfs : ∀ s, (fieldsOf cs s).length ≤ 62)
    (S : Sq Q h sv gs) (hQ : ∀ j, Q j → j < h.sz) (hgB : ∀ p ∈ gs, szV p.2 ≤ b) (hb1 : 1 ≤ b) (hb : 62 * b ≤ B)
    (hN : T.next < 500000) (hC : T.clock < 500000) (hB : B < 1000000000) (hn : B + 3000000 ≤ n) (hL : n + 200 < lim)
    (k1 : idx name (names cs) = none → ∀ h', Ext h h' → h'.Ok → K (.tup [.int .i64 0, .int .i64 10]) h' = true)
    (k2 : (idx name (names cs)).isSome → given cs name (ofT T) gs (zeros (fieldsOf cs name)) = none → ∀ h', Ext h h' → h'.Ok → K (.tup [.int .i64 0, .int .i64 11]) h' = true)
    (k3 : ∀ vs, (idx name (names cs)).isSome → given cs name (ofT T) gs (zeros (fieldsOf cs name)) = some vs → T.most ≤ T.fs.length → ∀ h', Ext h h' → h'.Ok → K (.tup [.int .i64 0, .int .i64 12]) h' = true)
    (k4 : ∀ vs, (idx name (names cs)).isSome → given cs name (ofT T) gs (zeros (fieldsOf cs name)) = some vs → T.fs.length < T.most → ∀ h' τ' T', SO B τ' o h0 h' T' → St o τ τ' h h' → SI cs b T' → InsT T T' name vs st → K (.tup [.int .i64 ((T.next + 1 : Nat) : Int), .int .i64 0]) h' = true) :
    callN E (n + 8) (.func 10) [.ptr T.p 0 0 0, .str name, sv, .bool st] h K = true := by
  have hlm : lim = 4611686018427387904 := rfl
  have hmo : most = 1099511627776 := rfl
  apply d10
  unfold s10
  have hf62 := hfs name
  refine z_nil ?_; refine z_fadr ?_; refine z_of O.l0 ?_
  refine u16 (n := n + 5) (TR.ext O.e) A O.ok (by omega) (by omega) (fun e => ?_) fun ci h1 v hi e1 o1 V1 => ?_
  · refine z_ext0 ?_; refine z_ext1 ?_; refine z_neq ?_
    rw [show (!decide ((10 : Int) = 0)) = true from rfl]
    refine z_cT ?_
    exact k1 e h (Ext.refl _) O.ok
  have his : (idx name (names cs)).isSome := by rw [hi]; rfl
  refine z_ext0 ?_; refine z_ext1 ?_; refine z_neq ?_
  rw [show (!decide ((0 : Int) = 0)) = false from rfl]
  refine z_cF ?_
  unfold p10_12
  have O1 := O.ext e1 o1
  have vlen : ∀ h', lenA h' 1 v = some (.int .i64 ((fieldsOf cs name).length : Int)) := fun h' => by
    rcases V1 with ⟨q, rfl | rfl⟩ | ⟨id, g, s, cap, ex, r, rfl, _⟩
    · have : (fieldsOf cs name).length = 0 := by have := congrArg List.length q; simpa using this
      rw [this]; rfl
    · have : (fieldsOf cs name).length = 0 := by have := congrArg List.length q; simpa using this
      rw [this]; rfl
    · simp [lenA]
  have hof : ofT T = ofT T := rfl
  generalize hF : fieldsOf cs name = F at *
  have si : ∀ x : Int, AV.same (.int .i64 x) (.int .i64 x) = true := fun x => same_int _ _
  refine z_of (vlen h1) ?_; refine z_of (vlen h1) ?_
  obtain ⟨vv, h2, q2, M2, r2, e2, o2, z2⟩ := mk_row (n := 5) (i := F.length) (by' := 64) (z := z5) o1 rfl (by decide) rfl (by omega) (by omega)
  refine z_p q2 ?_
  refine z_same (vlen h2) (si _) ?_
  refine z_same (vlen h2) (si _) ?_
  obtain ⟨sw, h3, q3, M3, r3, e3, o3, z3⟩ := mk_row (n := 1) (i := F.length) (by' := 8) (z := [AV.int .i64 0]) o2 rfl (by decide) rfl (by omega) (by omega)
  refine z_p q3 ?_
  refine z_same (vlen h3) (si _) ?_
  refine z_same (vlen h3) (si _) ?_
  have lvv : vv.leaf = true := M2.view.leaf
  have lsw : sw.leaf = true := M3.view.leaf
  have hbv : buildV [.int .i64 0, .str [], .nilSlc, .bool false, .int .i64 0, .nilSlc] [(1, 1, (AV.str name)), (3, 1, (AV.bool st)), (2, 1, vv), (5, 1, sw)] = some (.agg [.int .i64 0, .str name, vv, .bool st, .int .i64 0, sw]) := by
    have c1 := cells_leaf lvv
    have c2 := cells_leaf lsw
    have c3 : (AV.str name).cells = [AV.str name] := rfl
    have c4 : (AV.bool st).cells = [AV.bool st] := rfl
    simp only [buildV, fillV, c1, c2, c3, c4, List.length_cons, List.length_nil, allLeaf, lvv, lsw, lay]
    rfl
  refine z_of hbv ?_
  obtain ⟨h4, b4, V4, e4, o4, z4⟩ := box_v (n := 6) (v := .agg [.int .i64 0, .str name, vv, .bool st, .int .i64 0, sw]) o3 rfl (by decide) (by show allLeaf [.int .i64 0, .str name, vv, .bool st, .int .i64 0, sw] = true; simp only [allLeaf, lvv, lsw]; rfl)
  refine z_p b4 ?_
  refine z_same (vlen h4) (si _) ?_
  refine z_same (vlen h4) (si _) ?_
  have V4 : Var h4 h3.sz [.int .i64 0, .str name, vv, .bool st, .int .i64 0, sw] := V4
  have A2 : loadA h4 false 1 (.ptr h3.sz 0 0 2) = some vv := V4.get rfl
  refine z_nil ?_; refine z_fadr ?_; refine z_of A2 ?_
  have s1 := e1.1
  have e14 : Ext h1 h4 := ext_two (ext_two e2 e3) e4
  have rvv : ∀ j, inRow vv j → j = h1.sz := r2
  generalize hhd : ((T.next + 1 : Nat) : Int) = hd at *
  have hfr : lkG T.fs hd = none := by rw [← hhd]; exact I.fresh
  let τ2 : Nat → Tag := tagAt (tagAt τ (fun j => j = h3.sz) (.own o (.f hd))) (inRow sw) (.own o (.st hd))
  have t2f : τ2 h3.sz = .own o (.f hd) := by
    show tagAt (tagAt τ (fun j => j = h3.sz) (.own o (.f hd))) (inRow sw) (.own o (.st hd)) h3.sz = _
    rw [tagAt_out fun q => by have := r3 _ q; omega]; exact tagAt_in (P := fun j => j = h3.sz) rfl
  have t2s : ∀ j, inRow sw j → τ2 j = .own o (.st hd) := fun j q => tagAt_in q
  have t2o : ∀ j, j ≠ h3.sz → ¬ inRow sw j → τ2 j = τ j := fun j a q => by
    show tagAt (tagAt τ (fun j => j = h3.sz) (.own o (.f hd))) (inRow sw) (.own o (.st hd)) j = _
    rw [tagAt_out q, tagAt_out (P := fun j => j = h3.sz) a]
  have rsw : ∀ j, inRow sw j → j = h2.sz := r3
  have old2 : ∀ j, j < h1.sz → τ2 j = τ j := fun j hj => t2o j (by omega) fun q => by have := rsw j q; omega
  have new2 : ∀ j, h4.sz ≤ j → τ2 j = .out := fun j hj => by rw [t2o j (by omega) fun q => by have := rsw j q; omega]; exact O1.hi j (by omega)
  have O4 : SO B (tagAt τ2 (inRow vv) .dat) o h0 h4 T := O1.fr (Fr.of_ext (X := fun _ => False) e14) o4 (fun _ x => x.elim) ⟨fun j hj => by rw [tagAt_out fun q => by have := rvv j q; omega]; exact old2 j hj, fun j hj => by
    rw [tagAt_out fun q => by have := rvv j q; omega]; exact new2 j hj⟩
  have hzl : (zeros F).length = F.length := by simp [zeros]
  have S4 : Sq Q h4 sv gs := fun h' L => S h' ((Lt.of_ext (ext_two e1 e14)).trans L)
  have fall : ∀ h5, Fr (fun j => F ≠ [] ∧ inRow vv j) h4 h5 → Ext h1 h5 := fun h5 f5 => f5.ext e14 o1 fun j q => by have := rvv j q.2; omega
  refine c28 (n := n + 2) (vals := zeros F) O4 TR A hcs hi (by rw [hF]; exact hf62) S4 (fun p hp => by have := hgB p hp; omega) (by rw [hF]; exact hzl) (fun _ => ⟨⟨_, (M2.ext e3).ext e4, all2_rep (dx_zero _ _) _⟩, fun j q => tagAt_in q, fun j q w => by have := rvv j q; have := hQ j w; omega⟩) (by omega) (by omega) (by omega) ?_ ?_
  · intro hg h5 O5 f5
    rw [hF] at f5
    refine z_notF ?_; refine z_cT ?_
    exact k2 his hg h5 (ext_two e1 (fall h5 f5)) O5.ok
  intro vs hg hvl h5 O5 f5 W5
  rw [hF] at f5 W5
  have e15 := fall h5 f5
  have O5' := O1.ext e15 O5.ok
  have flen : lenA h5 2 (.map T.fm) = some (.int .i64 (T.fs.length : Int)) := by have := O5.fs.len; simpa [mp] using this
  refine z_notT ?_; refine z_cF ?_; refine z_nil ?_; refine z_fadr ?_; refine z_of O5.l4 ?_; refine z_of flen ?_; refine z_nil ?_; refine z_fadr ?_; refine z_of O5.l1 ?_; refine z_geq ?_
  by_cases hfull : T.most ≤ T.fs.length
  · rw [decide_eq_true hfull]
    refine z_cT ?_
    exact k3 vs his hg hfull h5 (ext_two e1 e15) O5.ok
  rw [decide_eq_false hfull]
  refine z_cF ?_
  unfold p10_29
  have s5 := f5.sz
  have tg2 : Tg τ τ2 h1 h5 := ⟨old2, fun j hj => new2 j (by omega)⟩
  have P5 : SO B τ2 o h0 h5 T := O1.fr (Fr.of_ext (X := fun _ => False) e15) O5.ok (fun _ x => x.elim) tg2
  have st5 : St o τ τ2 h h5 := ⟨O5.ok, Fr.of_ext (ext_two e1 e15), fun j hj => old2 j (by omega), fun j hj => by
    by_cases w1 : j = h3.sz
    · exact .inr ⟨⟨_, by rw [w1]; exact t2f⟩, by omega⟩
    · by_cases w2 : inRow sw j
      · exact .inr ⟨⟨_, t2s j w2⟩, by have := rsw j w2; omega⟩
      · left; rw [t2o j w1 w2]; exact O.hi j hj⟩
  have D5 : DV (Out τ2) h5 vv vs := by
    have t1o : ∀ j, j < h5.sz → Out (tagAt τ2 (inRow vv) .dat) j → Out τ2 j := fun j _ q => by
      have q : tagAt τ2 (inRow vv) .dat j = .out := q
      by_cases w : inRow vv j
      · rw [tagAt_in w] at q; cases q
      · rwa [tagAt_out w] at q
    have tvv : ∀ j, inRow vv j → Out τ2 j := fun j q => by
      have e := rvv j q
      show τ2 j = .out
      rw [t2o j (by omega) fun q => by have := rsw j q; omega]; exact O1.hi j (by omega)
    by_cases hF0 : F = []
    · subst hF0
      have hv0 : vs = [] := by apply List.eq_nil_of_length_eq_zero; rw [hvl, hzl]; rfl
      have M5 := ((M2.ext e3).ext e4).fr f5 fun j _ w => w.1 rfl
      subst hv0
      exact ⟨_, M5.view, tvv, .nil⟩
    · obtain ⟨es, M5, D⟩ := W5 hF0
      exact ⟨es, M5.view, tvv, D.mono fun _ _ r => r.fr (Lt.refl _ _) O5.ok t1o⟩
  have V5 : Var h5 h3.sz [.int .i64 0, .str name, vv, .bool st, .int .i64 0, sw] := f5.var V4 fun q => by have := rvv _ q.2; omega
  have M5 : Mr h5 1 sw (List.replicate F.length [AV.int .i64 0]) := (M3.ext e4).fr f5 fun j q w => by have := rvv _ w.2; have := rsw _ q; omega
  have lp : T.p < h1.sz := O1.var.lt o1
  have lf : T.fm < h1.sz := O1.fs.lt o1
  refine z_nil ?_; refine z_fadr ?_; refine z_of P5.l3 ?_; refine z_of (inc64 (i := T.clock) (by omega)) ?_; refine z_nil ?_; refine z_fadr ?_
  obtain ⟨h6, w6, V6, b6, o6, z6⟩ := P5.var.wr P5.ok (off := 3) (v := .int .i64 ((T.clock + 1 : Nat) : Int)) (show 3 < 8 by decide) rfl
  refine z_u w6 ?_
  obtain ⟨P6, s6⟩ := P5.putS (nx := T.next) (ck := T.clock + 1) b6 o6 V6
  refine z_nil ?_; refine z_fadr ?_; refine z_of P6.l2 ?_; refine z_of (inc64 (i := T.next) (by omega)) ?_; refine z_nil ?_; refine z_fadr ?_
  obtain ⟨h7, w7, V7, b7, o7, z7⟩ := P6.var.wr P6.ok (off := 2) (v := .int .i64 ((T.next + 1 : Nat) : Int)) (show 2 < 8 by decide) rfl
  refine z_u w7 ?_
  obtain ⟨P7, s7⟩ := P6.putS (nx := T.next + 1) (ck := T.clock + 1) b7 o7 V7
  have P7 : SO B τ2 o h0 h7 { T with next := T.next + 1, clock := T.clock + 1 } := P7
  have hT1 : ∃ T1 : SD, T1 = { T with next := T.next + 1, clock := T.clock + 1 } := ⟨_, rfl⟩
  obtain ⟨T1, hT1⟩ := hT1
  rw [← hT1] at P7
  have p1 : T1.p = T.p := by rw [hT1]
  have fs1 : T1.fs = T.fs := by rw [hT1]
  have L2 : ∀ {g}, SO B τ2 o h0 g T1 → loadA g false 1 (.ptr T.p 0 0 2) = some (.int .i64 hd) := fun P => by have := P.l2; rw [hT1] at this; rw [← hhd]; exact this
  have L3 : ∀ {g}, SO B τ2 o h0 g T1 → loadA g false 1 (.ptr T.p 0 0 3) = some (.int .i64 ((T.clock + 1 : Nat) : Int)) := fun P => by have := P.l3; rw [hT1] at this; exact this
  generalize hc : ((T.clock + 1 : Nat) : Int) = c at *
  have s57 := (st5.trans O.ok s6).trans O.ok s7
  have D7 : DV (Out τ2) h7 vv vs := (D5.st P5.ok s6).st P6.ok s7
  have V7' : Var h7 h3.sz [.int .i64 0, .str name, vv, .bool st, .int .i64 0, sw] := b7.var (b6.var V5 (by omega)) (show h3.sz ≠ T.p by omega)
  have M7 : Mr h7 1 sw (List.replicate F.length [AV.int .i64 0]) := (M5.fr (X := fun j => j = T.p) (Fr.of_but rfl b6) fun j q e => by have := rsw j q; omega).fr (X := fun j => j = T.p) (Fr.of_but rfl b7) fun j q e => by have := rsw j q; omega
  have hfr1 : lkG T1.fs hd = none := by rw [fs1]; exact hfr
  refine z_nil ?_; refine z_fadr ?_; refine z_of (L2 P7) ?_; refine z_nil ?_; refine z_fadr ?_; refine z_of (L3 P7) ?_; refine z_nil ?_; refine z_fadr ?_
  obtain ⟨h8, w8, V8, b8, o8, z8⟩ := V7'.wr o7 (off := 0) (v := .int .i64 hd) (show 0 < 6 by decide) rfl
  refine z_u w8 ?_
  obtain ⟨P8, s8⟩ := P7.wf hfr1 (Fr.of_but (.inl t2f) b8) o8
  have D8 := D7.st P7.ok s8
  have M8 := M7.fr (X := fun j => j = h3.sz) (Fr.of_but rfl b8) fun j q e => by have := rsw j q; omega
  refine z_nil ?_; refine z_fadr ?_
  obtain ⟨h9, w9, V9, b9, o9, z9⟩ := V8.wr o8 (off := 4) (v := .int .i64 c) (show 4 < 6 by decide) rfl
  refine z_u w9 ?_
  obtain ⟨P9, s9⟩ := P8.wf hfr1 (Fr.of_but (.inl t2f) b9) o9
  have D9 := D8.st P8.ok s9
  have M9 := M8.fr (X := fun j => j = h3.sz) (Fr.of_but rfl b9) fun j q e => by have := rsw j q; omega
  have V9 : Var h9 h3.sz [.int .i64 hd, .str name, vv, .bool st, .int .i64 c, sw] := V9
  have s59 := (s57.trans O.ok s8).trans O.ok s9
  have A5 : loadA h9 false 1 (.ptr h3.sz 0 0 5) = some sw := V9.get rfl
  have len9 : lenA h9 1 sw = some (.int .i64 (F.length : Int)) := by have := M9.view.len; rwa [List.length_replicate] at this
  refine z_nil ?_; refine z_fadr ?_; refine z_of A5 ?_; refine z_of len9 ?_
  clear s6 s7 s8 s9 D5 D7 D8 M5 M7 M8 V5 V7' V8 P5 P6 P8
  suffices H : ∀ m i g, F.length - i < m → i ≤ F.length → SO B τ2 o h0 g T1 → St o τ τ2 h g → Var g h3.sz [.int .i64 hd, .str name, vv, .bool st, .int .i64 c, sw] → Mr g 1 sw (ints (List.replicate i c ++ List.replicate (F.length - i) 0)) → DV (Out τ2) g vv vs →
      l10_39 (callN E (n + 7)) (n + 7) m (.ptr T.p 0 0 0) (.str name) (.ptr h3.sz 0 0 0) (.int .i64 (F.length : Int)) (.int .i64 (i : Int)) g K = true from
    H (n + 7) 0 h9 (by omega) (Nat.zero_le _) P9 s59 V9 (by rw [List.replicate_zero, List.nil_append, Nat.sub_zero]; simpa [ints] using M9) D9
  intro m
  induction m with
  | zero => intro i g hm; omega
  | succ m ih =>
    intro i g hm hi P s V M D
    unfold l10_39 b10_39
    refine z_lss ?_
    by_cases hlt : i < F.length
    · refine z_ct (decide_eq_true (by omega)) ?_
      have A5 : loadA g false 1 (.ptr h3.sz 0 0 5) = some sw := V.get rfl
      have hil : i < (ints (List.replicate i c ++ List.replicate (F.length - i) 0)).length := by rw [ints_len]; simp; omega
      obtain ⟨id3, g3, i1, i2, g', i3, M', b', z', o'⟩ := M.set (x := .int .i64 c) (List.getElem?_eq_getElem hil) (by simp [ints]) rfl rfl
      refine z_nil ?_; refine z_fadr ?_; refine z_of A5 ?_; refine z_nil ?_; refine z_fadr ?_; refine z_of (L3 P) ?_; refine z_of (i1 .i64) ?_; refine z_u i3 ?_; refine z_of (inc64 (i := i) (by omega)) ?_
      obtain ⟨P', s'⟩ := P.wf hfr1 (Fr.of_but (.inr (t2s _ i2)) b') (o' P.ok)
      have M' : Mr g' 1 sw (ints (List.replicate (i + 1) c ++ List.replicate (F.length - (i + 1)) 0)) := by rw [← ints_rep i F.length c hlt]; exact M'
      exact ih (i + 1) g' (by omega) (by omega) P' (s.trans O.ok s') (b'.var V (by have := rsw _ i2; omega)) M' (D.st P.ok s')
    · refine z_cf (decide_eq_false (by omega)) ?_
      have hiF : i = F.length := by omega
      subst hiF
      rw [Nat.sub_self, List.replicate_zero, List.append_nil] at M
      unfold p10_52
      have L4 : loadA g false 1 (.ptr T.p 0 0 4) = some (.map T.fm) := by have := P.l4; rw [hT1] at this; exact this
      have A0 : loadA g false 1 (.ptr h3.sz 0 0 0) = some (.int .i64 hd) := V.get rfl
      refine z_nil ?_; refine z_fadr ?_; refine z_of L4 ?_; refine z_nil ?_; refine z_fadr ?_; refine z_of A0 ?_
      have hvF : vs.length = F.length := by rw [hvl, hzl]
      have hvb : ∀ v ∈ vs, szV v ≤ b := given_all (P := fun v => szV v ≤ b) (fun v hv => by rw [List.eq_of_mem_replicate hv]; exact hb1) hgB hg
      have hvB : szVs vs ≤ B := by
        have h1 := sz_all hvb
        have h2 : vs.length * b ≤ 62 * b := Nat.mul_le_mul_right b (by omega)
        omega
      let x : FD := ⟨h3.sz, name, vv, vs, st, T.clock + 1, sw, List.replicate F.length c⟩
      have FX : FO B τ2 o g hd x := ⟨t2f, by rw [← hc] at V; exact V, D, hvB, M, t2s⟩
      obtain ⟨g1, u1, u2, u3, u4, u5⟩ := P.fs.upd intKeys hd (.ptr h3.sz 0 0 0)
      have ef : T1.fm = T.fm := by rw [hT1]
      have u1' : mupdA g (.leaf .int) (.map T.fm) (.int .i64 hd) (.ptr h3.sz 0 0 0) = some g1 := by rw [← ef]; exact u1
      refine z_u u1' ?_
      obtain ⟨PP, sP⟩ := P.addF (x := x) u2 (u4 P.ok) u5 FX
      have hup : upG T1.fs hd x = T.fs ++ [(hd, x)] := by rw [upG_none hfr1, fs1]
      have F1 := PP.f hd x (by show (hd, x) ∈ upG T1.fs hd x; rw [hup]; simp)
      have L5 : loadA g1 false 1 (.ptr T.p 0 0 5) = some (.ptr T.all.id 0 0 0) := by have := PP.l5; rw [hT1] at this; exact this
      have A0 : loadA g1 false 1 (.ptr h3.sz 0 0 0) = some (.int .i64 hd) := F1.l0
      refine z_nil ?_; refine z_fadr ?_; refine z_of L5 ?_; refine z_nil ?_; refine z_fadr ?_; refine z_of A0 ?_
      have hT2 : { T1 with fs := upG T1.fs hd x } = { T with fs := T.fs ++ [(((T.next + 1 : Nat) : Int), x)], next := T.next + 1, clock := T.clock + 1 } := by rw [hup, hT1, hhd]
      rw [hT2] at PP
      have ir := ins_rows (n := n) (K := K) I PP (s.trans O.ok sP) O rfl (by omega) (by omega) (by omega) (by omega) fun h' τ' T' O' s' eq' rows => ?_
      · rw [hhd] at ir
        exact ir
      rw [hhd] at eq' rows ⊢
      have hrT : ∀ i y, InR T' i y ↔ InR T i y ∨ (y = hd ∧ (i = .all ∨ i = .c name ∨ i = .k (name, spV vs))) := fun i y => by
        rw [rows i y]
        refine or_congr (Iff.of_eq ?_) Iff.rfl
        unfold InR
        have : ({ T with fs := T.fs ++ [(hd, x)], next := T.next + 1, clock := T.clock + 1 } : SD).row i = T.row i := by cases i <;> rfl
        rw [this]
      have fs' : T'.fs = T.fs ++ [(hd, x)] := by rw [eq']
      have fsu : T'.fs = upG T.fs hd x := by rw [fs', upG_none hfr]
      refine k4 vs his hg (by omega) h' τ' T' O' s' ⟨?_, fun k y hk => ?_, fun i y => ?_, fun k y hk => ?_⟩ ⟨⟨x, by rw [fs', hhd], rfl, rfl, rfl, rfl, by rw [hvF, hc]⟩, ⟨by rw [eq'], by rw [eq'], by rw [eq'], by rw [eq'], by rw [eq']⟩, by rw [hhd]; exact hrT⟩
      · rw [fs', List.map_append, List.pairwise_append]
        refine ⟨I.ks, by simp, fun a ha z hz => ?_⟩
        obtain ⟨⟨k, y⟩, hk, rfl⟩ := List.mem_map.1 ha
        have := I.kb k y hk
        simp only [List.map_cons, List.map_nil, List.mem_singleton] at hz
        rw [hz]; show k < hd; omega
      · have hn : T'.next = T.next + 1 := by rw [eq']
        rw [hn]
        rw [fs'] at hk
        rcases List.mem_append.1 hk with hk | hk
        · have := I.kb k y hk; omega
        · simp only [List.mem_singleton, Prod.mk.injEq] at hk
          rw [hk.1]; omega
      · rw [hrT, fsu, lkG_up, I.rw]
        by_cases e : y = hd
        · rw [if_pos e]
          subst e
          constructor
          · rintro (⟨z, q, _⟩ | ⟨_, q⟩)
            · rw [hfr] at q; cases q
            · refine ⟨x, rfl, ?_⟩
              rcases q with rfl | rfl | rfl
              · trivial
              · rfl
              · rfl
          · rintro ⟨z, q, w⟩
            cases q
            refine .inr ⟨rfl, ?_⟩
            cases i with
            | all => exact .inl rfl
            | c s => have w : name = s := w; rw [w]; exact .inr (.inl rfl)
            | k s => have w : (name, spV vs) = s := w; rw [w]; exact .inr (.inr rfl)
        · rw [if_neg e]
          simp [e]
      · rw [fs'] at hk
        rcases List.mem_append.1 hk with hk | hk
        · exact I.fc k y hk
        · simp only [List.mem_singleton, Prod.mk.injEq] at hk
          rw [hk.2]
          refine ⟨his, ?_, ?_, hvb⟩
          · show vs.length = (fieldsOf cs name).length
            rw [hF]; exact hvF
          · show (List.replicate F.length c).length = vs.length
            rw [List.length_replicate, hvF]
end
end Go.Proofs.Ythifmankpcadjaa
namespace Go.Proofs.Ythifmankpcadjaa
open Go.Ab
set_option linter.unusedSimpArgs false
set_option linter.unusedVariables false
theorem sameW {n : Nat} {h : AHeap} {a a' : List AV} {x x' : Val} {K : Kont} (ho : h.Ok) (R : RV h a x) (R' : RV h a' x')
    (hl : ∀ {h1 lv lv' ll ll'} {K' : Kont}, (∃ k b n t, x = .mk k b n t ll) → VV h1 lv ll → VV h1 lv' ll' → h1.Ok → (∀ h2 r, Ext h1 h2 → h2.Ok → (r = true ↔ ll = ll') → K' (.bool r) h2 = true) → callN E n (.func 21) [lv, lv'] h1 K' = true)
    (kk : ∀ h2 r, Ext h h2 → h2.Ok → (r = true ↔ x = x') → K (.bool r) h2 = true) : callN E (n + 1) (.func 45) [.agg a, .agg a'] h K = true := by
  obtain ⟨g1, g2, g3, g4⟩ := R.agg
  obtain ⟨g1', g2', g3', g4'⟩ := R'.agg
  obtain ⟨k, b, nn, t, ll⟩ := x
  obtain ⟨k', b', nn', t', ll'⟩ := x'
  obtain ⟨lv, rfl, VL, rr⟩ := R.cells
  obtain ⟨lv', rfl, VL', rr'⟩ := R'.cells
  apply d45
  unfold s45
  obtain ⟨h1, q1, V1, e1, o1, z1⟩ := box_v (n := 5) ho g2 (by decide) g3
  rw [g4] at V1
  refine z_p q1 ?_
  obtain ⟨h2, q2, V2, e2, o2, z2⟩ := box_v (n := 5) o1 g2' (by decide) g3'
  rw [g4'] at V2
  refine z_p q2 ?_
  have V1 := V1.ext e2
  have e12 := ext_two e1 e2
  have A0 : loadA h2 false 1 (.ptr h.sz 0 0 0) = some (.int .i64 k) := V1.get rfl
  have A1 : loadA h2 false 1 (.ptr h.sz 0 0 1) = some (.bool b) := V1.get rfl
  have A2 : loadA h2 false 1 (.ptr h.sz 0 0 2) = some (.int .i64 nn) := V1.get rfl
  have A3 : loadA h2 false 1 (.ptr h.sz 0 0 3) = some (.str t) := V1.get rfl
  have A4 : loadA h2 false 1 (.ptr h.sz 0 0 4) = some lv := V1.get rfl
  have B0 : loadA h2 false 1 (.ptr h1.sz 0 0 0) = some (.int .i64 k') := V2.get rfl
  have B1 : loadA h2 false 1 (.ptr h1.sz 0 0 1) = some (.bool b') := V2.get rfl
  have B2 : loadA h2 false 1 (.ptr h1.sz 0 0 2) = some (.int .i64 nn') := V2.get rfl
  have B3 : loadA h2 false 1 (.ptr h1.sz 0 0 3) = some (.str t') := V2.get rfl
  have B4 : loadA h2 false 1 (.ptr h1.sz 0 0 4) = some lv' := V2.get rfl
  have no : ∀ {p : Prop}, ¬ p → ((Val.mk k b nn t ll = Val.mk k' b' nn' t' ll') → p) → K (.bool false) h2 = true := fun hp hq => kk h2 false e12 o2 ⟨fun h => (by cases h), fun h => absurd (hq h) hp⟩
  refine z_fadr ?_; refine z_of A0 ?_; refine z_fadr ?_; refine z_of B0 ?_; refine z_eql ?_
  by_cases c0 : k = k'
  rotate_left
  · rw [decide_eq_false c0]
    refine z_gft ?_; refine z_gft ?_; refine z_gft ?_; refine z_gft ?_; refine z_gft ?_; refine z_kf ?_; refine z_gft ?_; refine z_gft ?_; refine z_gft ?_; refine z_gft ?_; refine z_gft ?_; refine z_kf ?_; refine z_gft ?_; refine z_gft ?_; refine z_gft ?_; refine z_gft ?_; refine z_gft ?_; refine z_kf ?_; refine z_gft ?_; refine z_gft ?_
    exact no c0 fun h => by cases h; rfl
  rw [decide_eq_true c0]
  refine z_gtt ?_; refine z_fadr ?_; refine z_gtt ?_; refine z_of A1 ?_; refine z_gtt ?_; refine z_fadr ?_; refine z_gtt ?_; refine z_of B1 ?_; refine z_gtt ?_; refine z_of (eqV_b h2 b b') ?_; refine z_kt ?_
  by_cases c1 : b = b'
  rotate_left
  · rw [beq_eq_false_iff_ne.2 c1]
    refine z_gft ?_; refine z_gft ?_; refine z_gft ?_; refine z_gft ?_; refine z_gft ?_; refine z_kf ?_; refine z_gft ?_; refine z_gft ?_; refine z_gft ?_; refine z_gft ?_; refine z_gft ?_; refine z_kf ?_; refine z_gft ?_; refine z_gft ?_; refine z_gft ?_; refine z_gft ?_; refine z_rft ?_; refine z_kf ?_
    exact no c1 fun h => by cases h; rfl
  rw [beq_iff_eq.2 c1]
  refine z_gtt ?_; refine z_fadr ?_; refine z_gtt ?_; refine z_of A2 ?_; refine z_gtt ?_; refine z_fadr ?_; refine z_gtt ?_; refine z_of B2 ?_; refine z_gtt ?_; refine z_eql ?_; refine z_kt ?_
  by_cases c2 : nn = nn'
  rotate_left
  · rw [decide_eq_false c2]
    refine z_gft ?_; refine z_gft ?_; refine z_gft ?_; refine z_gft ?_; refine z_gft ?_; refine z_kf ?_; refine z_gft ?_; refine z_gft ?_; refine z_gft ?_; refine z_gft ?_; refine z_rft ?_; refine z_kf ?_
    exact no c2 fun h => by cases h; rfl
  rw [decide_eq_true c2]
  refine z_gtt ?_; refine z_fadr ?_; refine z_gtt ?_; refine z_of A3 ?_; refine z_gtt ?_; refine z_fadr ?_; refine z_gtt ?_; refine z_of B3 ?_; refine z_gtt ?_; refine z_seq ?_; refine z_kt ?_
  by_cases w3 : t = t'
  rotate_left
  · rw [decide_eq_false w3]
    refine z_gft ?_; refine z_gft ?_; refine z_gft ?_; refine z_gft ?_; refine z_rft ?_; refine z_kf ?_
    exact no w3 fun h => by cases h; rfl
  rw [decide_eq_true w3]
  refine z_gtt ?_; refine z_fadr ?_; refine z_gtt ?_; refine z_of A4 ?_; refine z_gtt ?_; refine z_fadr ?_; refine z_gtt ?_; refine z_of B4 ?_; refine z_rtt ?_
  refine hl ⟨k, b, nn, t, rfl⟩ ((VL.ext e1).ext e2) ((VL'.ext e1).ext e2) o2 fun h3 r e3 o3 hr => ?_
  refine z_kt ?_
  refine kk h3 r (ext_two e12 e3) o3 (hr.trans ⟨fun h => ?_, fun h => ?_⟩)
  · rw [c0, c1, c2, w3, h]
  · cases h; rfl
theorem eqVals : ∀ (k n : Nat) {h : AHeap} {v v' : AV} {l l' : List Val} {K : Kont}, VV h v l → VV h v' l' → h.Ok → szVs l ≤ k → 2 * k + 2 ≤ n → k < 1000000000 → n < lim →
    (∀ h2 r, Ext h h2 → h2.Ok → (r = true ↔ l = l') → K (.bool r) h2 = true) → callN E (n + 1) (.func 21) [v, v'] h K = true := by
  intro k
  induction k with
  | zero =>
    intro n h v v' l l' K V V' ho hk hn hB hL kk
    have : l = [] := by
      cases l with
      | nil => rfl
      | cons x t => have := szVs_len (x :: t); simp at this; omega
    subst this
    apply d21
    unfold s21
    refine z_of V.len ?_; refine z_of V'.len ?_; refine z_neq ?_
    cases l' with
    | cons x t =>
      refine z_ct (by simp; omega) ?_
      exact kk h false (Ext.refl _) ho (by simp)
    | nil =>
      refine z_cf (by simp) ?_
      unfold p21_10
      obtain ⟨n, rfl⟩ : ∃ j, n = j + 1 := ⟨n - 1, by omega⟩
      unfold l21_14 b21_14
      refine z_of V.len ?_; refine z_lss ?_
      exact kk h true (Ext.refl _) ho (by simp)
  | succ k ih =>
    intro n hs v v' l l' K V V' ho hk hn hB hL kk
    have hlm : lim = 4611686018427387904 := rfl
    have hlen := szVs_len l
    apply d21
    unfold s21
    refine z_of V.len ?_; refine z_of V'.len ?_; refine z_neq ?_
    by_cases hll : l.length = l'.length
    rotate_left
    · refine z_ct (by rw [decide_eq_false (by omega)]; rfl) ?_
      exact kk hs false (Ext.refl _) ho ⟨fun h => (by cases h), fun h => absurd (by rw [h]) hll⟩
    refine z_cf (by rw [decide_eq_true (by omega)]; rfl) ?_
    unfold p21_10
    suffices H : ∀ m i h, l.length - i < m → i ≤ l.length → Ext hs h → h.Ok → l.take i = l'.take i → l21_14 (callN E n) n m v v' (.int .i64 (i : Int)) h K = true from
      H n 0 hs (by omega) (Nat.zero_le _) (Ext.refl _) ho rfl
    intro m
    induction m with
    | zero => intro i h hm; omega
    | succ m ihm =>
      intro i h hm hi e o C
      unfold l21_14 b21_14
      refine z_of (V.ext e).len ?_; refine z_lss ?_
      by_cases hlt : i < l.length
      · refine z_ct (decide_eq_true (by omega)) ?_
        obtain ⟨id, g, j, ee, p1, p2, R⟩ := (V.ext e).at (List.getElem?_eq_getElem hlt)
        obtain ⟨id', g', j', ee', p1', p2', R'⟩ := (V'.ext e).at (List.getElem?_eq_getElem (show i < l'.length by omega))
        have A : loadA h true 5 (.ptr id g j 0) = some (.agg ee) := by rw [p2]; exact R.agg.1
        have A' : loadA h true 5 (.ptr id' g' j' 0) = some (.agg ee') := by rw [p2']; exact R'.agg.1
        have hm2 := szVs_mem (List.getElem_mem hlt)
        refine z_of (p1 .i64) ?_; refine z_of A ?_; refine z_of (p1' .i64) ?_; refine z_of A' ?_
        obtain ⟨n, rfl⟩ : ∃ j, n = j + 2 := ⟨n - 2, by omega⟩
        refine sameW (n := n + 1) o R R' (fun {h1 lv lv' ll ll' K'} hx V1 V1' o1 kk' => ?_) fun h4 r e4 o4 hr => ?_
        · obtain ⟨k', b, nn, t, hx⟩ := hx
          have : szVs ll + 1 ≤ szVs l := by rw [hx] at hm2; simp only [szV] at hm2; omega
          exact ih n V1 V1' o1 (by omega) (by omega) (by omega) (by omega) kk'
        · have t1 : l.take (i + 1) = l.take i ++ [l[i]] := by rw [List.take_succ_eq_append_getElem hlt]
          have t2 : l'.take (i + 1) = l'.take i ++ [l'[i]'(by omega)] := by rw [List.take_succ_eq_append_getElem (by omega)]
          cases r with
          | false =>
            refine z_notF ?_; refine z_cT ?_
            refine kk h4 false (ext_two e e4) o4 ⟨fun h => (by cases h), fun h => ?_⟩
            subst h
            exact hr.2 rfl
          | true =>
            refine z_notT ?_; refine z_cF ?_; refine z_of (inc64 (i := i) (by omega)) ?_
            exact ihm (i + 1) h4 (by omega) (by omega) (ext_two e e4) o4 (by rw [t1, t2, C, hr.1 rfl])
      · refine z_cf (decide_eq_false (by omega)) ?_
        refine kk h true e o ⟨fun _ => ?_, fun _ => rfl⟩
        rw [List.take_of_length_le (by omega), List.take_of_length_le (by omega)] at C
        exact C
theorem c32 {n : Nat} {h : AHeap} {a a' : List AV} {x x' : Val} {K : Kont} (ho : h.Ok) (R : RV h a x) (R' : RV h a' x')
    (hl : ∀ {h1 lv lv' ll ll'} {K' : Kont}, (∃ k b n t, x = .mk k b n t ll) → VV h1 lv ll → VV h1 lv' ll' → h1.Ok → (∀ h2 r, Ext h1 h2 → h2.Ok → (r = true ↔ ll = ll') → K' (.bool r) h2 = true) → callN E n (.func 60) [lv, lv', .fn (.func 32) [] []] h1 K' = true)
    (kk : ∀ h2 r, Ext h h2 → h2.Ok → (r = true ↔ x = x') → K (.bool r) h2 = true) : callN E (n + 1) (.func 32) [.agg a, .agg a'] h K = true := by
  obtain ⟨g1, g2, g3, g4⟩ := R.agg
  obtain ⟨g1', g2', g3', g4'⟩ := R'.agg
  obtain ⟨k, b, nn, t, ll⟩ := x
  obtain ⟨k', b', nn', t', ll'⟩ := x'
  obtain ⟨lv, rfl, VL, rr⟩ := R.cells
  obtain ⟨lv', rfl, VL', rr'⟩ := R'.cells
  apply d32
  unfold s32
  obtain ⟨h1, q1, V1, e1, o1, z1⟩ := box_v (n := 5) ho g2 (by decide) g3
  rw [g4] at V1
  refine z_p q1 ?_
  obtain ⟨h2, q2, V2, e2, o2, z2⟩ := box_v (n := 5) o1 g2' (by decide) g3'
  rw [g4'] at V2
  refine z_p q2 ?_
  have V1 := V1.ext e2
  have e12 := ext_two e1 e2
  have A0 : loadA h2 false 1 (.ptr h.sz 0 0 0) = some (.int .i64 k) := V1.get rfl
  have A1 : loadA h2 false 1 (.ptr h.sz 0 0 1) = some (.bool b) := V1.get rfl
  have A2 : loadA h2 false 1 (.ptr h.sz 0 0 2) = some (.int .i64 nn) := V1.get rfl
  have A3 : loadA h2 false 1 (.ptr h.sz 0 0 3) = some (.str t) := V1.get rfl
  have A4 : loadA h2 false 1 (.ptr h.sz 0 0 4) = some lv := V1.get rfl
  have B0 : loadA h2 false 1 (.ptr h1.sz 0 0 0) = some (.int .i64 k') := V2.get rfl
  have B1 : loadA h2 false 1 (.ptr h1.sz 0 0 1) = some (.bool b') := V2.get rfl
  have B2 : loadA h2 false 1 (.ptr h1.sz 0 0 2) = some (.int .i64 nn') := V2.get rfl
  have B3 : loadA h2 false 1 (.ptr h1.sz 0 0 3) = some (.str t') := V2.get rfl
  have B4 : loadA h2 false 1 (.ptr h1.sz 0 0 4) = some lv' := V2.get rfl
  have no : ∀ {p : Prop}, ¬ p → ((Val.mk k b nn t ll = Val.mk k' b' nn' t' ll') → p) → K (.bool false) h2 = true := fun hp hq => kk h2 false e12 o2 ⟨fun h => (by cases h), fun h => absurd (hq h) hp⟩
  refine z_fadr ?_; refine z_of A0 ?_; refine z_fadr ?_; refine z_of B0 ?_; refine z_eql ?_
  by_cases c0 : k = k'
  rotate_left
  · rw [decide_eq_false c0]
    refine z_gft ?_; refine z_gft ?_; refine z_gft ?_; refine z_gft ?_; refine z_gft ?_; refine z_kf ?_; refine z_gft ?_; refine z_gft ?_; refine z_gft ?_; refine z_gft ?_; refine z_gft ?_; refine z_kf ?_; refine z_gft ?_; refine z_gft ?_; refine z_gft ?_; refine z_gft ?_; refine z_gft ?_; refine z_kf ?_; refine z_gft ?_; refine z_gft ?_
    exact no c0 fun h => by cases h; rfl
  rw [decide_eq_true c0]
  refine z_gtt ?_; refine z_fadr ?_; refine z_gtt ?_; refine z_of A1 ?_; refine z_gtt ?_; refine z_fadr ?_; refine z_gtt ?_; refine z_of B1 ?_; refine z_gtt ?_; refine z_of (eqV_b h2 b b') ?_; refine z_kt ?_
  by_cases c1 : b = b'
  rotate_left
  · rw [beq_eq_false_iff_ne.2 c1]
    refine z_gft ?_; refine z_gft ?_; refine z_gft ?_; refine z_gft ?_; refine z_gft ?_; refine z_kf ?_; refine z_gft ?_; refine z_gft ?_; refine z_gft ?_; refine z_gft ?_; refine z_gft ?_; refine z_kf ?_; refine z_gft ?_; refine z_gft ?_; refine z_gft ?_; refine z_gft ?_; refine z_rft ?_; refine z_kf ?_
    exact no c1 fun h => by cases h; rfl
  rw [beq_iff_eq.2 c1]
  refine z_gtt ?_; refine z_fadr ?_; refine z_gtt ?_; refine z_of A2 ?_; refine z_gtt ?_; refine z_fadr ?_; refine z_gtt ?_; refine z_of B2 ?_; refine z_gtt ?_; refine z_eql ?_; refine z_kt ?_
  by_cases c2 : nn = nn'
  rotate_left
  · rw [decide_eq_false c2]
    refine z_gft ?_; refine z_gft ?_; refine z_gft ?_; refine z_gft ?_; refine z_gft ?_; refine z_kf ?_; refine z_gft ?_; refine z_gft ?_; refine z_gft ?_; refine z_gft ?_; refine z_rft ?_; refine z_kf ?_
    exact no c2 fun h => by cases h; rfl
  rw [decide_eq_true c2]
  refine z_gtt ?_; refine z_fadr ?_; refine z_gtt ?_; refine z_of A3 ?_; refine z_gtt ?_; refine z_fadr ?_; refine z_gtt ?_; refine z_of B3 ?_; refine z_gtt ?_; refine z_seq ?_; refine z_kt ?_
  by_cases w3 : t = t'
  rotate_left
  · rw [decide_eq_false w3]
    refine z_gft ?_; refine z_gft ?_; refine z_gft ?_; refine z_gft ?_; refine z_rft ?_; refine z_kf ?_
    exact no w3 fun h => by cases h; rfl
  rw [decide_eq_true w3]
  refine z_gtt ?_; refine z_fadr ?_; refine z_gtt ?_; refine z_of A4 ?_; refine z_gtt ?_; refine z_fadr ?_; refine z_gtt ?_; refine z_of B4 ?_; refine z_rtt ?_
  refine hl ⟨k, b, nn, t, rfl⟩ ((VL.ext e1).ext e2) ((VL'.ext e1).ext e2) o2 fun h3 r e3 o3 hr => ?_
  refine z_kt ?_
  refine kk h3 r (ext_two e12 e3) o3 (hr.trans ⟨fun h => ?_, fun h => ?_⟩)
  · rw [c0, c1, c2, w3, h]
  · cases h; rfl
theorem c60 : ∀ (k n : Nat) {h : AHeap} {v v' : AV} {l l' : List Val} {K : Kont}, VV h v l → VV h v' l' → h.Ok → szVs l ≤ k → 2 * k + 2 ≤ n → k < 1000000000 → n < lim →
    (∀ h2 r, Ext h h2 → h2.Ok → (r = true ↔ l = l') → K (.bool r) h2 = true) → callN E (n + 1) (.func 60) [v, v', .fn (.func 32) [] []] h K = true := by
  intro k
  induction k with
  | zero =>
    intro n h v v' l l' K V V' ho hk hn hB hL kk
    have : l = [] := by
      cases l with
      | nil => rfl
      | cons x t => have := szVs_len (x :: t); simp at this; omega
    subst this
    apply d60
    unfold s60
    refine z_of V.len ?_; refine z_of V'.len ?_; refine z_neq ?_
    cases l' with
    | cons x t =>
      refine z_ct (by simp; omega) ?_
      exact kk h false (Ext.refl _) ho (by simp)
    | nil =>
      refine z_cf (by simp) ?_
      unfold p60_10
      obtain ⟨n, rfl⟩ : ∃ j, n = j + 1 := ⟨n - 1, by omega⟩
      refine z_of V.len ?_
      unfold l60_14 b60_14
      refine z_lss ?_
      refine z_cf (by simp) ?_
      exact kk h true (Ext.refl _) ho (by simp)
  | succ k ih =>
    intro n hs v v' l l' K V V' ho hk hn hB hL kk
    have hlm : lim = 4611686018427387904 := rfl
    have hlen := szVs_len l
    apply d60
    unfold s60
    refine z_of V.len ?_; refine z_of V'.len ?_; refine z_neq ?_
    by_cases hll : l.length = l'.length
    rotate_left
    · refine z_ct (by rw [decide_eq_false (by omega)]; rfl) ?_
      exact kk hs false (Ext.refl _) ho ⟨fun h => (by cases h), fun h => absurd (by rw [h]) hll⟩
    refine z_cf (by rw [decide_eq_true (by omega)]; rfl) ?_
    unfold p60_10
    refine z_of V.len ?_
    suffices H : ∀ m i h, l.length - i < m → i ≤ l.length → Ext hs h → h.Ok → l.take i = l'.take i → l60_14 (callN E n) n m v' (.fn (.func 32) [] []) v (.int .i64 (l.length : Int)) (.int .i64 (i : Int)) h K = true from
      H n 0 hs (by omega) (Nat.zero_le _) (Ext.refl _) ho rfl
    intro m
    induction m with
    | zero => intro i h hm; omega
    | succ m ihm =>
      intro i h hm hi e o C
      unfold l60_14 b60_14
      refine z_lss ?_
      by_cases hlt : i < l.length
      · refine z_ct (decide_eq_true (by omega)) ?_
        obtain ⟨id, g, j, ee, p1, p2, R⟩ := (V.ext e).at (List.getElem?_eq_getElem hlt)
        have hel := R.len5
        obtain ⟨g1, g2, g3, g4⟩ := R.agg
        have A : loadA h true 5 (.ptr id g j 0) = some (.agg ee) := by rw [p2]; exact g1
        have hm2 := szVs_mem (List.getElem_mem hlt)
        refine z_of (p1 .i64) ?_; refine z_of A ?_
        obtain ⟨h2, q2, V2, e2, o2, z2⟩ := alloc_v (z := [AV.int .i64 0, .bool false, .int .i64 0, .str [], .nilSlc]) o (by decide) rfl
        refine z_p q2 ?_
        obtain ⟨h3, u1, U, u3, o3, u5⟩ := V2.wrs o2 (n := 5) (v := .agg ee) g2 rfl g3
        refine z_u u1 ?_
        rw [g4] at U
        have e3 : Ext h h3 := u3.ext e2 o (Nat.le_refl _)
        obtain ⟨id', g', j', ee', p1', p2', R'⟩ := (V'.ext (ext_two e e3)).at (List.getElem?_eq_getElem (show i < l'.length by omega))
        have hel' := R'.len5
        obtain ⟨g1', g2', g3', g4'⟩ := R'.agg
        have A' : loadA h3 true 5 (.ptr id' g' j' 0) = some (.agg ee') := by rw [p2']; exact g1'
        refine z_of (p1' .i64) ?_; refine z_of A' ?_
        obtain ⟨h4, q4, V4, e4, o4, z4⟩ := alloc_v (z := [AV.int .i64 0, .bool false, .int .i64 0, .str [], .nilSlc]) o3 (by decide) rfl
        refine z_p q4 ?_
        obtain ⟨h5, x1, X, x3, o5, x5⟩ := V4.wrs o4 (n := 5) (v := .agg ee') g2' rfl g3'
        refine z_u x1 ?_
        rw [g4'] at X
        have e5 : Ext h3 h5 := x3.ext e4 o3 (Nat.le_refl _)
        have B1 : loadA h5 true 5 (.ptr h.sz 0 0 0) = some (.agg ee) := (U.ext e5).all hel
        have B2 : loadA h5 true 5 (.ptr h3.sz 0 0 0) = some (.agg ee') := X.all hel'
        refine z_of B1 ?_; refine z_of B2 ?_; refine z_cv ?_
        obtain ⟨n, rfl⟩ : ∃ j, n = j + 2 := ⟨n - 2, by omega⟩
        have e35 := ext_two e3 e5
        refine c32 (n := n + 1) o5 (RV.ext e35 R) (RV.ext e5 R') (fun {h1 lv lv' ll ll' K'} hx V1 V1' o1 kk' => ?_) fun h6 r e6 o6 hr => ?_
        · obtain ⟨k', b, nn, t, hx⟩ := hx
          have : szVs ll + 1 ≤ szVs l := by rw [hx] at hm2; simp only [szV] at hm2; omega
          exact ih n V1 V1' o1 (by omega) (by omega) (by omega) (by omega) kk'
        · have t1 : l.take (i + 1) = l.take i ++ [l[i]] := by rw [List.take_succ_eq_append_getElem hlt]
          have t2 : l'.take (i + 1) = l'.take i ++ [l'[i]'(by omega)] := by rw [List.take_succ_eq_append_getElem (by omega)]
          have e06 := ext_two e (ext_two e35 e6)
          cases r with
          | false =>
            refine z_notF ?_; refine z_cT ?_
            refine kk h6 false e06 o6 ⟨fun h => (by cases h), fun h => ?_⟩
            subst h
            exact hr.2 rfl
          | true =>
            refine z_notT ?_; refine z_cF ?_; refine z_of (inc64 (i := i) (by omega)) ?_
            exact ihm (i + 1) h6 (by omega) (by omega) e06 o6 (by rw [t1, t2, C, hr.1 rfl])
      · refine z_cf (decide_eq_false (by omega)) ?_
        refine kk h true e o ⟨fun _ => ?_, fun _ => rfl⟩
        rw [List.take_of_length_le (by omega), List.take_of_length_le (by omega)] at C
        exact C
theorem c32s {k n : Nat} {h : AHeap} {a a' : List AV} {x x' : Val} {K : Kont} (ho : h.Ok) (R : RV h a x) (R' : RV h a' x') (hk : szV x ≤ k) (hn : 2 * k + 3 ≤ n) (hB : k < 1000000000) (hL : n < lim)
    (kk : ∀ h2 r, Ext h h2 → h2.Ok → (r = true ↔ x = x') → K (.bool r) h2 = true) : callN E (n + 1) (.func 32) [.agg a, .agg a'] h K = true := by
  obtain ⟨n, rfl⟩ : ∃ j, n = j + 1 := ⟨n - 1, by omega⟩
  refine c32 ho R R' (fun {h1 lv lv' ll ll' K'} hx V V' o1 kk' => ?_) kk
  obtain ⟨k', b, nn, t, hx⟩ := hx
  have : szVs ll ≤ k := by rw [hx] at hk; simp only [szV] at hk; omega
  exact c60 k n V V' o1 this (by omega) hB (by omega) kk'
end Go.Proofs.Ythifmankpcadjaa
namespace Go.Proofs.Ythifmankpcadjaa
open Go.Ab
set_option linter.unusedSimpArgs false
set_option linter.unusedVariables false
structure DelT (T T' : SD) (k : Int) : Prop where
  fs : T'.fs = dlG T.fs k
  sc : T'.p = T.p ∧ T'.tb = T.tb ∧ T'.most = T.most ∧ T'.next = T.next ∧ T'.clock = T.clock + 1
  rw : ∀ i y, InR T' i y ↔ InR T i y ∧ y ≠ k
section
variable {B b : Nat} {τ : Nat → Tag} {o : Nat} {h0 h h' : AHeap} {T : SD} {K : Kont} {n : Nat} {cs : List Cls} {k : Int}
theorem SO.delF (O : SO B τ o h0 h T) (f : But T.fm h h') (ok : h'.Ok) (M : KMap intKey h' T.fm (dl (mp fp T.fs) k)) : SO B τ o h0 h' { T with fs := dlG T.fs k } ∧ St o τ τ h h' := by
  have f' : Fr (XS τ o fun t => t = .fm) h h' := Fr.of_but ⟨_, rfl, O.tf⟩ f
  exact ⟨O.step (T' := { T with fs := dlG T.fs k }) f' ok (O.tg f.sz) rfl rfl rfl rfl (f'.var O.var (xs_no O.tp nofun)) (by rw [dl_G, ← dlG_mp] at M; exact M) (f'.kmap O.by' (xs_no O.tb nofun)) (f'.kmap O.same (xs_no O.ts nofun)) (fun k y hk => O.f' f' (O.tg f.sz) nofun nofun (dlG_sub.subset hk)) fun i r hr => O.r' f' (O.tg f.sz) nofun nofun hr,
    ok, Fr.of_but ⟨_, O.tf⟩ f, fun _ _ => rfl, fun j hj => .inl (O.hi j hj)⟩
theorem SI.del {T' : SD} (I : SI cs b T) (O : SO B τ o h0 h T) (D : DelT T T' k) : SI cs b T' := by
  have sub : ∀ j y, (j, y) ∈ T'.fs → (j, y) ∈ T.fs := fun j y q => by rw [D.fs] at q; exact dlG_sub.subset q
  refine ⟨?_, fun j y q => ?_, fun i y => ?_, fun j y q => I.fc j y (sub j y q)⟩
  · rw [D.fs]; exact I.ks.sublist (dlG_sub.map _)
  · rw [D.sc.2.2.2.1]; exact I.kb j y (sub j y q)
  · rw [D.rw, I.rw, D.fs, lkG_dl O.nf]
    by_cases e : y = k
    · rw [if_pos e]; simp [e]
    · rw [if_neg e]; simp [e]
theorem c12 (O : SO B τ o h0 h T) (I : SI cs b T) (hN : T.next < 500000) (hC : T.clock < 500000) (hB : B < 1000000000) (hn : B + 3000000 ≤ n) (hL : n + 200 < lim)
    (k0 : lkG T.fs k = none → K (.int .i64 7) h = true)
    (k1 : ∀ x, lkG T.fs k = some x → ∀ h' τ' T', SO B τ' o h0 h' T' → St o τ τ' h h' → SI cs b T' → DelT T T' k → K (.int .i64 0) h' = true) :
    callN E (n + 8) (.func 12) [.ptr T.p 0 0 0, .int .i64 k] h K = true := by
  have hlm : lim = 4611686018427387904 := rfl
  apply d12
  unfold s12
  have L := O.lkf k
  cases hx : lkG T.fs k with
  | none =>
    rw [hx] at L
    have L : lookA h (.leaf .int) true .nilPtr (.map T.fm) (.int .i64 k) = some (.tup [.nilPtr, .bool false]) := L
    refine z_nil ?_; refine z_fadr ?_; refine z_of O.l4 ?_; refine z_of L ?_; refine z_ext0 ?_; refine z_ext1 ?_; refine z_notF ?_; refine z_cT ?_
    exact k0 hx
  | some x =>
    rw [hx] at L
    have L : lookA h (.leaf .int) true .nilPtr (.map T.fm) (.int .i64 k) = some (.tup [.ptr x.id 0 0 0, .bool true]) := L
    have hk := lkG_mem hx
    obtain ⟨kb1, kb2⟩ := I.kb k x hk
    have hsm : small k := ⟨by omega, by omega⟩
    refine z_nil ?_; refine z_fadr ?_; refine z_of O.l4 ?_; refine z_of L ?_; refine z_ext0 ?_; refine z_ext1 ?_; refine z_notT ?_; refine z_cF ?_; refine z_nil ?_; refine z_fadr ?_; refine z_of O.l3 ?_; refine z_of (inc64 (i := T.clock) (by omega)) ?_; refine z_nil ?_; refine z_fadr ?_
    obtain ⟨h1, w1, V1, b1, o1, z1⟩ := O.var.wr O.ok (off := 3) (v := .int .i64 ((T.clock + 1 : Nat) : Int)) (show 3 < 8 by decide) rfl
    refine z_u w1 ?_
    obtain ⟨P1, s1⟩ := O.putS (nx := T.next) (ck := T.clock + 1) b1 o1 V1
    obtain ⟨T1, hT1⟩ : ∃ T1 : SD, T1 = { T with next := T.next, clock := T.clock + 1 } := ⟨_, rfl⟩
    rw [← hT1] at P1
    have p1 : T1.p = T.p := by rw [hT1]
    have r1 : ∀ i, T1.row i = T.row i := fun i => by rw [hT1]; cases i <;> rfl
    have hk1 : (k, x) ∈ T1.fs := by rw [hT1]; exact hk
    have ir1 : ∀ i y, InR T1 i y ↔ InR T i y := fun i y => by unfold InR; rw [r1]
    have len1 : ∀ i r, T1.row i = some r → r.l.length ≤ 500000 := fun i r e => by
      have := I.len O (by rw [← r1]; exact e); omega
    obtain ⟨ra, ea, ka⟩ : InR T1 (.k (keyOf x)) k := by rw [ir1]; exact (I.rw _ _).2 ⟨x, hx, rfl⟩
    rw [← p1]
    refine c33 (n := n + 2) P1 hk1 hsm ea ka (by have := len1 _ ra ea; omega) (by omega) (by omega) (by omega) fun h2 τ2 T2 P2 s2 S2 => ?_
    have p2 : T2.p = T1.p := by rw [S2.eq]
    have hk2 : (k, x) ∈ T2.fs := by rw [S2.eq]; exact hk1
    have ir2 : ∀ i y, InR T2 i y ↔ InR T1 i y ∧ ¬ (i = .k (keyOf x) ∧ y = k) := fun i y => by
      rw [rs_in S2]
      by_cases e : i = .k (keyOf x)
      · rw [if_pos e, e]
        have : InR T1 (.k (keyOf x)) y ↔ y ∈ ra.l := by
          unfold InR
          constructor
          · rintro ⟨r, e, q⟩; rw [ea] at e; cases e; exact q
          · exact fun q => ⟨_, ea, q⟩
        rw [this]; simp
      · rw [if_neg e]; simp [e]
    have L5 : loadA h2 false 1 (.ptr T1.p 0 0 5) = some (.ptr T2.all.id 0 0 0) := by rw [← p2]; exact P2.l5
    refine z_nil ?_; refine z_fadr ?_; refine z_of L5 ?_
    have ia : InR T2 .all k := by rw [ir2, ir1]; exact ⟨(I.rw _ _).2 ⟨x, hx, trivial⟩, fun q => by cases q.1⟩
    obtain ⟨r2, e2, k2⟩ := ia
    cases e2
    have ll2 : T2.all.l.length ≤ 500000 := by
      have := len1 .all T1.all rfl
      have h3 : T2.row .all = T1.row .all := S2.ne .all nofun
      simp only [SD.row, Option.some.injEq] at h3
      rw [h3]; exact this
    refine drop_row (n := n + 4) (i := .all) P2 rfl hsm k2 (by omega) fun h3 τ3 r3 P3 s3 i3 m3 => ?_
    have S3 := rs_set (T := T2) (i := .all) (r' := r3) m3
    generalize hT3 : T2.setRow .all r3 = T3 at *
    have p3 : T3.p = T1.p := by rw [S3.eq]; exact p2
    have hk3 : (k, x) ∈ T3.fs := by rw [S3.eq]; exact hk2
    have ir3 : ∀ i y, InR T3 i y ↔ InR T2 i y ∧ ¬ (i = .all ∧ y = k) := fun i y => by
      rw [rs_in S3]
      by_cases e : i = .all
      · rw [if_pos e, e]
        have : InR T2 .all y ↔ y ∈ T2.all.l := by
          unfold InR
          constructor
          · rintro ⟨r, e, q⟩; cases e; exact q
          · exact fun q => ⟨_, rfl, q⟩
        rw [this]; simp
      · rw [if_neg e]; simp [e]
    have F3 := P3.f k x hk3
    obtain ⟨r4, e4, k4⟩ : InR T3 (.c x.cls) k := by rw [ir3, ir2, ir1]; exact ⟨⟨(I.rw _ _).2 ⟨x, hx, rfl⟩, fun q => by cases q.1⟩, fun q => by cases q.1⟩
    have ll4 : r4.l.length ≤ 500000 := len1 (.c x.cls) r4 (by rw [← S2.ne _ (show IK.c x.cls ≠ .k (keyOf x) from nofun), ← S3.ne _ (show IK.c x.cls ≠ .all from nofun)]; exact e4)
    have L6 : loadA h3 false 1 (.ptr T1.p 0 0 6) = some (.map T3.bm) := by rw [← p3]; exact P3.l6
    refine z_nil ?_; refine z_fadr ?_; refine z_of L6 ?_; refine z_nil ?_; refine z_fadr ?_; refine z_of F3.l1 ?_; refine z_of (P3.lkb e4) ?_
    refine drop_row (n := n + 4) P3 e4 hsm k4 (by omega) fun h4 τ4 r5 P4 s4 i4 m4 => ?_
    have S4 := rs_set (T := T3) (i := .c x.cls) (r' := r5) m4
    generalize hT4 : T3.setRow (.c x.cls) r5 = T4 at *
    have p4 : T4.p = T1.p := by rw [S4.eq]; exact p3
    have ir4 : ∀ i y, InR T4 i y ↔ InR T3 i y ∧ ¬ (i = .c x.cls ∧ y = k) := fun i y => by
      rw [rs_in S4]
      by_cases e : i = .c x.cls
      · rw [if_pos e, e]
        have : InR T3 (.c x.cls) y ↔ y ∈ r4.l := by
          unfold InR
          constructor
          · rintro ⟨r, e, q⟩; rw [e4] at e; cases e; exact q
          · exact fun q => ⟨_, e4, q⟩
        rw [this]; simp
      · rw [if_neg e]; simp [e]
    have L4 : loadA h4 false 1 (.ptr T1.p 0 0 4) = some (.map T4.fm) := by rw [← p4]; exact P4.l4
    refine z_nil ?_; refine z_fadr ?_; refine z_of L4 ?_
    obtain ⟨h5, u1, u2, u3, u4, u5⟩ := P4.fs.del intKeys k
    refine z_u u1 ?_
    obtain ⟨P5, s5⟩ := P4.delF u2 (u4 P4.ok) u5
    have eqT : T4 = { T with clock := T.clock + 1, all := T4.all, by' := T4.by', same := T4.same } := by rw [S4.eq, S3.eq, S2.eq, hT1]
    have D : DelT T { T4 with fs := dlG T4.fs k } k := by
      refine ⟨by show dlG T4.fs k = _; rw [eqT], ⟨by show T4.p = _; rw [eqT], by show T4.tb = _; rw [eqT], by show T4.most = _; rw [eqT], by show T4.next = _; rw [eqT], by show T4.clock = _; rw [eqT]⟩, fun i y => ?_⟩
      have h0 : InR { T4 with fs := dlG T4.fs k } i y ↔ InR T4 i y := by unfold InR; cases i <;> exact Iff.rfl
      rw [h0, ir4, ir3, ir2, ir1]
      constructor
      · rintro ⟨⟨⟨q, a⟩, b⟩, c⟩
        refine ⟨q, fun e => ?_⟩
        obtain ⟨z, ez, hz⟩ := (I.rw i y).1 q
        rw [e, hx] at ez; cases ez
        cases i with
        | all => exact b ⟨rfl, e⟩
        | c s => exact c ⟨by rw [show x.cls = s from hz], e⟩
        | k s => exact a ⟨by rw [show keyOf x = s from hz], e⟩
      · rintro ⟨q, e⟩
        exact ⟨⟨⟨q, fun w => e w.2⟩, fun w => e w.2⟩, fun w => e w.2⟩
    exact k1 x hx h5 τ4 _ P5 ((((s1.trans O.ok s2).trans O.ok s3).trans O.ok s4).trans O.ok s5) (I.del O D) D
end
end Go.Proofs.Ythifmankpcadjaa
namespace Go.Proofs.Ythifmankpcadjaa
open Go.Ab
set_option linter.unusedSimpArgs false
set_option linter.unusedVariables false
theorem c31 {n : Nat} {h : AHeap} {v : AV} {es : List (List AV)} {K : Kont} (ho : h.Ok) (V : View h 5 v es) (hl : es.length < 1000000)
    (k : ∀ h' v', Ext h h' → h'.Ok → View h' 5 v' es → (es ≠ [] → Mr h' 5 v' es) → (∀ j, inRow v' j → h.sz ≤ j) → K v' h' = true) : callN E (n + 1) (.func 31) [v] h K = true := by
  apply d31
  unfold s31
  have hnil : v = .nilSlc ∨ eqV h false .slc v .nilSlc = some (.bool false) := by
    rcases V with ⟨_, rfl | rfl⟩ | ⟨id, g, s, cap, ex, r, rfl, _⟩
    · exact .inl rfl
    · exact .inr rfl
    · exact .inr rfl
  rcases hnil with rfl | hne
  · have hes : es = [] := by
      rcases V with ⟨e, _⟩ | ⟨_, _, _, _, _, _, e, _⟩
      · exact e
      · cases e
    have : eqV h false .slc .nilSlc .nilSlc = some (.bool true) := rfl
    refine z_of this ?_; refine z_cT ?_
    exact k h _ (Ext.refl h) ho V (fun e => absurd hes e) fun j q => absurd q inRow_nil
  · refine z_of hne ?_; refine z_cF ?_
    have hb : bsliceV h 0 5 [AV.int .i64 0, AV.bool false, AV.int .i64 0, AV.str [], AV.nilSlc] [] = some (.slc h.sz 0 0 0 0 true, Ab.newRow h [] 5) := rfl
    refine z_p hb ?_
    have e1 := ext_newRow ho [] 5
    have o1 := ok_newRow ho [] 5
    have r1 : (Ab.newRow h [] 5).row h.sz = some { es := [], sz := 5, g := 0, m := 0, rw := true } := by rw [AHeap.row_some]; exact get_push_same _ _
    generalize Ab.newRow h [] 5 = h1 at *
    have V1 := V.ext e1
    cases es with
    | nil =>
      have : appendA h1 5 64 (.slc h.sz 0 0 0 0 true) v = some (.slc h.sz 0 0 0 0 true, h1) := by
        simp only [appendA, show Nat.beq 5 0 = false from rfl, cond_false, V1.src, appendNew]
      refine z_p this ?_
      exact k h1 _ e1 o1 (.inr ⟨h.sz, 0, 0, 0, true, _, rfl, r1, Nat.le_refl _, rfl, rfl, Nat.le_refl _⟩) (fun e => absurd rfl e) fun j q => by rw [inRow_slc.1 q]; exact Nat.le_refl _
    | cons y l =>
      have b1 : Nat.ble ((0 + (y :: l).length) * 64) most = true := nble_true.2 (by unfold most; omega)
      have b2 : Nat.ble (0 + (y :: l).length) most = true := nble_true.2 (by unfold most; omega)
      have b3 : Nat.ble (0 + (y :: l).length) 0 = false := by
        cases hh : Nat.ble (0 + (y :: l).length) 0 with
        | false => rfl
        | true => have := nble_true.1 hh; simp at this
      have : appendA h1 5 64 (.slc h.sz 0 0 0 0 true) v = some (.slc h1.sz 0 0 (0 + (y :: l).length) (0 + (y :: l).length) false, Ab.newRow h1 (y :: l) 5) := by
        simp only [appendA, show Nat.beq 5 0 = false from rfl, cond_false, V1.src, appendNew, r1, b1, b2, b3, Nat.beq_refl, Bool.and_self, cond_true, Nat.ble_self_eq_true, List.drop_nil, List.take_nil, List.length_nil, List.nil_append]
      refine z_p this ?_
      have M : Mr (Ab.newRow h1 (y :: l) 5) 5 (.slc h1.sz 0 0 (0 + (y :: l).length) (0 + (y :: l).length) false) (y :: l) :=
        ⟨h1.sz, 0 + (y :: l).length, false, { es := y :: l, sz := 5, g := 0, m := 0, rw := true }, by simp, by rw [AHeap.row_some]; exact get_push_same _ _, rfl, Nat.le_refl _, rfl, rfl, by simp⟩
      exact k _ _ (e1.trans (ext_newRow o1 _ 5)) (ok_newRow o1 _ 5) M.view (fun _ => M) fun j q => by rw [← inRow_slc.1 q]; exact e1.1
noncomputable instance valDec : DecidableEq Val := fun a b => Classical.propDecidable (a = b)
noncomputable def dm (old new : List Val) : Nat → Nat
  | 0 => 0
  | i + 1 => if old[i]? = new[i]? then dm old new i else dm old new i ||| 2 ^ i
theorem dm_bit (old new : List Val) : ∀ (m i : Nat), (dm old new m).testBit i = decide (i < m ∧ old[i]? ≠ new[i]?)
  | 0, i => by simp [dm]
  | m + 1, i => by
    simp only [dm]
    by_cases e : old[m]? = new[m]?
    · rw [if_pos e, dm_bit old new m i]
      by_cases q : i = m
      · subst q; simp [e]
      · congr 1; apply propext; constructor <;> (rintro ⟨a, b⟩; exact ⟨by omega, b⟩)
    · rw [if_neg e, Nat.testBit_or, dm_bit old new m i, Nat.testBit_two_pow]
      by_cases q : i = m
      · subst q; simp [e]
      · have : ¬ m = i := fun w => q w.symm
        simp only [this, decide_false, Bool.or_false]
        congr 1; apply propext; constructor <;> (rintro ⟨a, b⟩; exact ⟨by omega, b⟩)
theorem dm_lt (old new : List Val) : ∀ m, dm old new m < 2 ^ m
  | 0 => by simp [dm]
  | m + 1 => by
    have h1 := dm_lt old new m
    have h2 : 2 ^ m < 2 ^ (m + 1) := Nat.pow_lt_pow_right (by decide) (by omega)
    simp only [dm]
    split
    · omega
    · exact Nat.or_lt_two_pow (Nat.lt_trans h1 h2) h2
theorem dm_zero {old new : List Val} (hl : old.length = new.length) : dm old new new.length = 0 ↔ old = new := by
  constructor
  · intro h
    apply List.ext_getElem?
    intro i
    by_cases q : i < new.length
    · have := dm_bit old new new.length i
      rw [h, Nat.zero_testBit] at this
      have := (decide_eq_false_iff_not.1 this.symm)
      exact Classical.byContradiction fun w => this ⟨q, w⟩
    · rw [List.getElem?_eq_none (by omega), List.getElem?_eq_none (by omega)]
  · rintro rfl
    apply Nat.eq_of_testBit_eq
    intro i
    rw [dm_bit]; simp
noncomputable def nst (old new : List Val) (c : Int) (st : List Int) : List Int := st.mapIdx fun i s => if old[i]? = new[i]? then s else c
section
variable {B : Nat} {τ : Nat → Tag} {o : Nat} {h0 h h' : AHeap} {T : SD} {k : Int} {x x' : FD}
theorem SO.updF (O : SO B τ o h0 h T) (hx : lkG T.fs k = some x) (f : Fr (fun j => τ j = .own o (.f k) ∨ τ j = .own o (.st k)) h h') (ok : h'.Ok) (F : FO B τ o h' k x') (hid : x'.id = x.id) : SO B τ o h0 h' { T with fs := upG T.fs k x' } ∧ St o τ τ h h' := by
  let S : PT → Prop := fun t => t = .f k ∨ t = .st k
  have f' : Fr (XS τ o S) h h' := f.mono fun j e => by
    rcases e with e | e
    · exact ⟨_, .inl rfl, e⟩
    · exact ⟨_, .inr rfl, e⟩
  refine ⟨O.step (T' := { T with fs := upG T.fs k x' }) f' ok (O.tg f.sz) rfl rfl rfl rfl (f'.var O.var (xs_no O.tp nofun)) ?_ (f'.kmap O.by' (xs_no O.tb nofun)) (f'.kmap O.same (xs_no O.ts nofun)) (fun k' y hk => ?_) fun i r hr => O.r' f' (O.tg f.sz) nofun nofun hr,
    ok, f'.mono fun j ⟨t, _, e⟩ => ⟨t, e⟩, fun _ _ => rfl, fun j hj => .inl (O.hi j hj)⟩
  · have : mp fp (upG T.fs k x') = mp fp T.fs := by
      rw [upG_mp, upG_same]
      rw [lkG_mp, hx]; simp [fp, hid]
    show KMap intKey h' T.fm (mp fp (upG T.fs k x'))
    rw [this]; exact f'.kmap O.fs (xs_no O.tf nofun)
  · by_cases e : k' = k
    · subst e
      have := lkG_of_mem (upG_nodup O.nf) hk
      rw [lkG_up, if_pos rfl] at this
      cases this; exact F
    · rcases upG_mem hk with q | q
      · cases q; exact absurd rfl e
      · exact O.f' f' (O.tg f.sz) (by simp [S, e]) (by simp [S, e]) q
end
end Go.Proofs.Ythifmankpcadjaa
namespace Go.Proofs.Ythifmankpcadjaa
open Go.Ab
set_option linter.unusedSimpArgs false
set_option linter.unusedVariables false
structure UpdT (T T' : SD) (k : Int) (x : FD) (vs : List Val) : Prop where
  fs : ∃ x', T'.fs = upG T.fs k x' ∧ x'.cls = x.cls ∧ x'.vs = vs ∧ x'.stated = x.stated ∧ x'.born = x.born ∧ x'.stamps = nst x.vs vs ((T.clock + 1 : Nat) : Int) x.stamps
  sc : T'.p = T.p ∧ T'.tb = T.tb ∧ T'.most = T.most ∧ T'.next = T.next ∧ T'.clock = T.clock + 1
  rw : ∀ i y, InR T' i y ↔ (InR T i y ∧ y ≠ k) ∨ (y = k ∧ (i = .all ∨ i = .c x.cls ∨ i = .k (x.cls, spV vs)))
theorem nst_len (old new : List Val) (c : Int) (st : List Int) : (nst old new c st).length = st.length := by simp [nst]
section
variable {B b : Nat} {τ : Nat → Tag} {o : Nat} {h0 h h' : AHeap} {T : SD} {K : Kont} {n : Nat} {cs : List Cls} {k : Int} {Q : Nat → Prop} {sv : AV} {gs : List (Str × Val)}
theorem SI.upd {T' : SD} {x : FD} {vs : List Val} (I : SI cs b T) (hx : lkG T.fs k = some x) (hl : vs.length = x.vs.length) (hb : ∀ v ∈ vs, szV v ≤ b) (U : UpdT T T' k x vs) : SI cs b T' := by
  obtain ⟨x', fs, u1, u2, u3, u4, u5⟩ := U.fs
  obtain ⟨c1, c2, c3, c4⟩ := I.fc k x (lkG_mem hx)
  have keys : T'.fs.map (fun p => p.1) = T.fs.map fun p => p.1 := by rw [fs]; exact upG_keys hx
  refine ⟨by rw [keys]; exact I.ks, fun j y q => ?_, fun i y => ?_, fun j y q => ?_⟩
  · rw [U.sc.2.2.2.1]
    rw [fs] at q
    rcases upG_mem q with e | e
    · cases e; exact I.kb k x (lkG_mem hx)
    · exact I.kb j y e
  · rw [U.rw, I.rw, fs, lkG_up]
    by_cases e : y = k
    · rw [if_pos e]
      constructor
      · rintro (⟨_, q⟩ | ⟨_, q⟩)
        · exact absurd e q
        · refine ⟨x', rfl, ?_⟩
          rcases q with rfl | rfl | rfl
          · trivial
          · exact u1
          · show (x'.cls, spV x'.vs) = _
            rw [u1, u2]
      · rintro ⟨z, q, w⟩
        cases q
        refine .inr ⟨e, ?_⟩
        cases i with
        | all => exact .inl rfl
        | c s => have w : x'.cls = s := w; rw [← w, u1]; exact .inr (.inl rfl)
        | k s => have w : (x'.cls, spV x'.vs) = s := w; rw [← w, u1, u2]; exact .inr (.inr rfl)
    · rw [if_neg e]; simp [e]
  · rw [fs] at q
    rcases upG_mem q with e | e
    · cases e
      refine ⟨by rw [u1]; exact c1, by rw [u1, u2, hl]; exact c2, by rw [u5, u2, nst_len, hl]; exact c3, by rw [u2]; exact hb⟩
    · exact I.fc j y e
theorem c11 (O : SO B τ o h0 h T) (I : SI cs b T) (TR : TableRep h0 T.tb cs) (A : Asc cs) (hcs : cs.length ≤ 64) (hfs : ∀ s, (fieldsOf cs s).length ≤ 62)
    (S : Sq Q h sv gs) (hQ : ∀ j, Q j → j < h.sz) (hgB : ∀ p ∈ gs, szV p.2 ≤ b) (hb : 62 * b ≤ B)
    (hN : T.next < 500000) (hC : T.clock < 500000) (hB : B < 100000000) (hn : 3 * B + 3000000 ≤ n) (hL : n + 200 < lim)
    (k0 : lkG T.fs k = none → K (.tup [.int .u64 0, .int .i64 7]) h = true)
    (k1 : ∀ x, lkG T.fs k = some x → given cs x.cls (ofT T) gs x.vs = none → ∀ h', Ext h h' → h'.Ok → K (.tup [.int .u64 0, .int .i64 11]) h' = true)
    (k2 : ∀ x, lkG T.fs k = some x → given cs x.cls (ofT T) gs x.vs = some x.vs → ∀ h', Ext h h' → h'.Ok → K (.tup [.int .u64 0, .int .i64 0]) h' = true)
    (k3 : ∀ x vs, lkG T.fs k = some x → given cs x.cls (ofT T) gs x.vs = some vs → vs.length = x.vs.length → x.vs ≠ vs → ∀ h' τ' T', SO B τ' o h0 h' T' → St o τ τ' h h' → SI cs b T' → UpdT T T' k x vs → K (.tup [.int .u64 ((dm x.vs vs vs.length : Nat) : Int), .int .i64 0]) h' = true) :
    callN E (n + 8) (.func 11) [.ptr T.p 0 0 0, .int .i64 k, sv] h K = true := by
  have hlm : lim = 4611686018427387904 := rfl
  apply d11
  unfold s11
  have L := O.lkf k
  cases hx : lkG T.fs k with
  | none =>
    rw [hx] at L
    have L : lookA h (.leaf .int) true .nilPtr (.map T.fm) (.int .i64 k) = some (.tup [.nilPtr, .bool false]) := L
    refine z_nil ?_; refine z_fadr ?_; refine z_of O.l4 ?_; refine z_of L ?_; refine z_ext0 ?_; refine z_ext1 ?_; refine z_notF ?_; refine z_cT ?_
    exact k0 hx
  | some x =>
    rw [hx] at L
    have L : lookA h (.leaf .int) true .nilPtr (.map T.fm) (.int .i64 k) = some (.tup [.ptr x.id 0 0 0, .bool true]) := L
    have hk := lkG_mem hx
    obtain ⟨kb1, kb2⟩ := I.kb k x hk
    obtain ⟨c1, c2, c3, c4⟩ := I.fc k x hk
    have hsm : small k := ⟨by omega, by omega⟩
    have F0 := O.f k x hk
    refine z_nil ?_; refine z_fadr ?_; refine z_of O.l4 ?_; refine z_of L ?_; refine z_ext0 ?_; refine z_ext1 ?_; refine z_notT ?_; refine z_cF ?_
    unfold p11_12
    refine z_nil ?_; refine z_fadr ?_; refine z_of F0.l2 ?_
    obtain ⟨es0, W0, t0, D0⟩ := F0.vals
    have hf62 := hfs x.cls
    have hes0 : es0.length = x.vs.length := D0.length
    refine c31 (n := n + 6) O.ok W0 (by omega) fun h1 v1 e1 o1 W1 M1 r1 => ?_
    have O1 := O.ext e1 o1
    have F1 := O1.f k x hk
    refine z_nil ?_; refine z_fadr ?_; refine z_of F1.l1 ?_
    have O1' : SO B (tagAt τ (inRow v1) .dat) o h0 h1 T := O.fr (Fr.of_ext (X := fun _ => False) e1) o1 (fun _ x => x.elim) ⟨fun j hj => tagAt_out fun q => by have := r1 j q; omega, fun j hj => by
      rw [tagAt_out fun q => by have := W1.rlt o1 q; omega]; exact O1.hi j hj⟩
    have D1 : All2 (DX (Out (tagAt τ (inRow v1) .dat)) h1) es0 x.vs := D0.mono fun _ _ r => r.fr (Lt.of_ext e1) O.ok fun j hj e => by
      show tagAt τ (inRow v1) .dat j = .out
      rw [tagAt_out fun q => by have := r1 j q; omega]; exact e
    obtain ⟨ci, hci⟩ := Option.isSome_iff_exists.1 c1
    have fall : ∀ h5, Fr (fun j => fieldsOf cs x.cls ≠ [] ∧ inRow v1 j) h1 h5 → Ext h h5 := fun h5 f5 => f5.ext e1 O.ok fun j q => r1 j q.2
    refine c28 (n := n + 2) (vals := x.vs) O1' TR A hcs hci hf62 (fun h' L => S h' ((Lt.of_ext e1).trans L)) (fun p hp => by have := hgB p hp; omega) c2 (fun ne => ⟨⟨es0, M1 (fun e => ne (by apply List.eq_nil_of_length_eq_zero; rw [← c2, ← hes0, e]; rfl)), D1⟩, fun j q => tagAt_in q, fun j q w => by have := r1 j q; have := hQ j w; omega⟩) (by omega) (by omega) (by omega) ?_ ?_
    · intro hg h5 O5 f5
      refine z_notF ?_; refine z_cT ?_
      exact k1 x hx hg h5 (fall h5 f5) O5.ok
    intro vs hg hvl h2 O2 f2 W2
    have e2 := fall h2 f2
    refine z_notT ?_; refine z_cF ?_
    unfold p11_22
    have hg' := hg
    have P2 := O.ext e2 O2.ok
    have D2 : DV (Out τ) h2 v1 vs := by
      have t1o : ∀ j, j < h2.sz → Out (tagAt τ (inRow v1) .dat) j → Out τ j := fun j _ q => by
        have q : tagAt τ (inRow v1) .dat j = .out := q
        by_cases w : inRow v1 j
        · rw [tagAt_in w] at q; cases q
        · rwa [tagAt_out w] at q
      have tvv : ∀ j, inRow v1 j → Out τ j := fun j q => O.hi j (r1 j q)
      by_cases hF0 : fieldsOf cs x.cls = []
      · have hv0 : vs = [] := by apply List.eq_nil_of_length_eq_zero; rw [hvl, c2, hF0]; rfl
        have he0 : es0 = [] := by apply List.eq_nil_of_length_eq_zero; rw [hes0, c2, hF0]; rfl
        subst hv0
        subst he0
        exact ⟨_, f2.view W1 fun id g s l c ex _ q => q.1 hF0, tvv, .nil⟩
      · obtain ⟨es, M5, D⟩ := W2 hF0
        exact ⟨es, M5.view, tvv, D.mono fun _ _ r => r.fr (Lt.refl _ _) O2.ok t1o⟩
    have hlen : ∀ g, Ext h2 g → lenA g 1 v1 = some (.int .i64 (vs.length : Int)) := fun g e => (D2.now.ext e).len
    refine z_of (hlen h2 (Ext.refl _)) ?_
    have m0 : (AV.int .u64 0) = AV.int .u64 ((0 : Nat) : Int) := rfl
    rw [m0]
    have hvb : ∀ v ∈ vs, szV v ≤ b := given_all (P := fun v => szV v ≤ b) c4 hgB hg
    suffices H : ∀ m i g, vs.length - i < m → i ≤ vs.length → Ext h2 g → g.Ok → l11_28 (callN E (n + 7)) (n + 7) m (.ptr T.p 0 0 0) (.ptr x.id 0 0 0) v1 (.int .u64 ((dm x.vs vs i : Nat) : Int)) (.int .i64 (vs.length : Int)) (.int .i64 (i : Int)) g K = true from
      H (n + 7) 0 h2 (by omega) (Nat.zero_le _) (Ext.refl _) O2.ok
    intro m
    induction m with
    | zero => intro i g hm; omega
    | succ m ih =>
      intro i g hm hi e ok
      have Pg := P2.ext e ok
      have Fg := Pg.f k x hk
      unfold l11_28 b11_28
      refine z_lss ?_
      by_cases hlt : i < vs.length
      · refine z_ct (decide_eq_true (by omega)) ?_
        have hlt0 : i < x.vs.length := by omega
        obtain ⟨id, gg, j, ee, p1, p2, R⟩ := (D2.now.ext e).at (List.getElem?_eq_getElem hlt)
        obtain ⟨id', gg', j', ee', p1', p2', R'⟩ := Fg.vals.now.at (List.getElem?_eq_getElem hlt0)
        have A1 : loadA g true 5 (.ptr id gg j 0) = some (.agg ee) := by rw [p2]; exact R.agg.1
        have A2 : loadA g true 5 (.ptr id' gg' j' 0) = some (.agg ee') := by rw [p2']; exact R'.agg.1
        have hsz := hvb _ (List.getElem_mem hlt)
        refine z_of (p1 .i64) ?_; refine z_of A1 ?_; refine z_nil ?_; refine z_fadr ?_; refine z_of Fg.l2 ?_; refine z_of (p1' .i64) ?_; refine z_of A2 ?_
        refine c32s (k := b) (n := n + 6) ok R R' hsz (by omega) (by omega) (by omega) fun g2 r e3 o3 hr => ?_
        have e23 := ext_two e e3
        have hdm : dm x.vs vs (i + 1) = if r = true then dm x.vs vs i else dm x.vs vs i ||| 2 ^ i := by
          simp only [dm, List.getElem?_eq_getElem hlt, List.getElem?_eq_getElem hlt0, Option.some.injEq]
          cases r with
          | true => rw [if_pos (hr.1 rfl).symm, if_pos rfl]
          | false => rw [if_neg (fun q => Bool.false_ne_true (hr.2 q.symm)), if_neg Bool.false_ne_true]
        have hlt2 := dm_lt x.vs vs i
        have h2i : 2 ^ i ≤ 2 ^ 62 := Nat.pow_le_pow_right (by decide) (by omega)
        have h264 : 2 ^ 62 < 18446744073709551616 := by decide
        cases r with
        | true =>
          rw [if_pos rfl] at hdm
          refine z_notT ?_; refine z_cF ?_
          unfold p11_44
          refine z_of (inc64 (i := i) (by omega)) ?_
          rw [← hdm]
          exact ih (i + 1) g2 (by omega) (by omega) e23 o3
        | false =>
          rw [if_neg Bool.false_ne_true] at hdm
          refine z_notF ?_; refine z_cT ?_; refine z_of (m_shl (i := i) (by omega)) ?_; refine z_of (m_or (a := dm x.vs vs i) (b := 2 ^ i) (by omega) (by omega)) ?_
          unfold p11_44
          refine z_of (inc64 (i := i) (by omega)) ?_
          rw [← hdm]
          exact ih (i + 1) g2 (by omega) (by omega) e23 o3
      · refine z_cf (decide_eq_false (by omega)) ?_
        have hiv : i = vs.length := by omega
        subst hiv
        unfold p11_45
        refine z_eql ?_
        by_cases hz : dm x.vs vs vs.length = 0
        · refine z_ct (decide_eq_true (by rw [hz]; rfl)) ?_
          have heq : x.vs = vs := (dm_zero (by omega)).1 hz
          exact k2 x hx (by rw [hg, heq]) g (ext_two e2 e) ok
        · refine z_cf (decide_eq_false (by omega)) ?_
          have hne : x.vs ≠ vs := fun q => hz ((dm_zero (by omega)).2 q)
          have Dg : DV (Out τ) g v1 vs := D2.fr (Lt.of_ext e) O2.ok fun _ _ q => q
          unfold p11_53
          refine z_nil ?_; refine z_fadr ?_; refine z_of Pg.l3 ?_; refine z_of (inc64 (i := T.clock) (by omega)) ?_; refine z_nil ?_; refine z_fadr ?_
          obtain ⟨h3, w3, V3, b3, o3, z3⟩ := Pg.var.wr Pg.ok (off := 3) (v := .int .i64 ((T.clock + 1 : Nat) : Int)) (show 3 < 8 by decide) rfl
          refine z_u w3 ?_
          obtain ⟨P3, s3⟩ := Pg.putS (nx := T.next) (ck := T.clock + 1) b3 o3 V3
          obtain ⟨T1, hT1⟩ : ∃ T1 : SD, T1 = { T with next := T.next, clock := T.clock + 1 } := ⟨_, rfl⟩
          rw [← hT1] at P3
          have sg : St o τ τ h g := St.ext (ext_two e2 e) ok O.hi
          have s03 := sg.trans O.ok s3
          have D3 := Dg.st Pg.ok s3
          have p1 : T1.p = T.p := by rw [hT1]
          have r1' : ∀ i, T1.row i = T.row i := fun i => by rw [hT1]; cases i <;> rfl
          have hk1 : (k, x) ∈ T1.fs := by rw [hT1]; exact hk
          have ir1 : ∀ i y, InR T1 i y ↔ InR T i y := fun i y => by unfold InR; rw [r1']
          have len1 : ∀ i r, T1.row i = some r → r.l.length ≤ 500000 := fun i r e => by
            have := I.len O (by rw [← r1']; exact e); omega
          obtain ⟨ra, ea, ka⟩ : InR T1 (.k (keyOf x)) k := by rw [ir1]; exact (I.rw _ _).2 ⟨x, hx, rfl⟩
          rw [← p1]
          refine c33 (n := n + 2) P3 hk1 hsm ea ka (by have := len1 _ ra ea; omega) (by omega) (by omega) (by omega) fun h4 τ4 T2 P4 s4 S4 => ?_
          have p2 : T2.p = T1.p := by rw [S4.eq]
          have f2' : T2.fs = T.fs := by rw [S4.eq, hT1]
          have hx2 : lkG T2.fs k = some x := by rw [f2']; exact hx
          have ir2 : ∀ i y, InR T2 i y ↔ InR T i y ∧ ¬ (i = .k (keyOf x) ∧ y = k) := fun i y => by
            rw [rs_in S4, ← ir1]
            by_cases e : i = .k (keyOf x)
            · rw [if_pos e, e]
              have : InR T1 (.k (keyOf x)) y ↔ y ∈ ra.l := by
                unfold InR
                constructor
                · rintro ⟨r, e, q⟩; rw [ea] at e; cases e; exact q
                · exact fun q => ⟨_, ea, q⟩
              rw [this]; simp
            · rw [if_neg e]; simp [e]
          have s04 := s03.trans O.ok s4
          have D4 := D3.st P3.ok s4
          have F4 := P4.f k x (lkG_mem hx2)
          refine z_nil ?_; refine z_fadr ?_
          obtain ⟨h5, w5, V5, b5, o5, z5⟩ := F4.row.wr P4.ok (off := 2) (v := v1) (show 2 < 6 by decide) Dg.leaf
          refine z_u w5 ?_
          have V5 : Var h5 x.id [.int .i64 k, .str x.cls, v1, .bool x.stated, .int .i64 (x.born : Int), x.sv] := V5
          have fr5 : Fr (fun j => τ4 j = .own o (.f k) ∨ τ4 j = .own o (.st k)) h4 h5 := Fr.of_but (.inl F4.tid) b5
          have D5 : DV (Out τ4) h5 v1 vs := D4.fr (Lt.of_fr fr5 fun j q w => by rcases q with q | q <;> rw [show τ4 j = .out from w] at q <;> cases q) P4.ok fun _ _ q => q
          have hvB : szVs vs ≤ B := by
            have h1 := sz_all hvb
            have h2 : vs.length * b ≤ 62 * b := Nat.mul_le_mul_right b (by omega)
            omega
          let x1 : FD := { x with vv := v1, vs := vs }
          have FX : FO B τ4 o h5 k x1 := ⟨F4.tid, V5, D5, hvB, F4.st.fr (X := fun j => j = x.id) (Fr.of_but rfl b5) fun j q w => (by have := F4.ts j q; rw [w, F4.tid] at this; cases this), F4.ts⟩
          obtain ⟨P5, s5⟩ := P4.updF hx2 fr5 o5 FX rfl
          have s05 := s04.trans O.ok s5
          obtain ⟨T3, hT3⟩ : ∃ T3 : SD, T3 = { T2 with fs := upG T2.fs k x1 } := ⟨_, rfl⟩
          rw [← hT3] at P5
          have p3 : T3.p = T1.p := by rw [hT3]; exact p2
          have hx3 : lkG T3.fs k = some x1 := by rw [hT3]; show lkG (upG T2.fs k x1) k = _; rw [lkG_up, if_pos rfl]
          have r3' : ∀ i, T3.row i = T2.row i := fun i => by rw [hT3]; cases i <;> rfl
          have nin3 : ∀ r, T3.row (.k (keyOf x1)) = some r → k ∉ r.l := fun r e q => by
            have : InR T2 (.k (keyOf x1)) k := ⟨r, by rw [← r3']; exact e, q⟩
            rw [ir2] at this
            obtain ⟨z, ez, hz⟩ := (I.rw _ _).1 this.1
            rw [hx] at ez; cases ez
            exact this.2 ⟨by rw [show keyOf x = keyOf x1 from hz], rfl⟩
          have len3 : ∀ r, T3.row (.k (keyOf x1)) = some r → r.l.length < 999999 := fun r e => by
            have := srt_len (a := 0) (N := T.next) (P5.r _ r e).rn.srt (fun y hy => by
              have : InR T2 (.k (keyOf x1)) y := ⟨r, by rw [← r3']; exact e, hy⟩
              obtain ⟨z, ez, _⟩ := (I.rw _ _).1 ((ir2 _ _).1 this).1
              have := I.kb y z (lkG_mem ez); omega) (by omega)
            omega
          rw [← p3]
          refine c30 (x := x1) (n := n + 2) P5 (lkG_mem hx3) hsm nin3 len3 (by omega) (by omega) (by omega) fun h6 τ6 T4 P6 s6 S6 => ?_
          have s06 := s05.trans O.ok s6
          have p4 : T4.p = T3.p := by rw [S6.eq]
          have hrows : ∀ i y, InR T4 i y ↔ (InR T i y ∧ y ≠ k) ∨ (y = k ∧ (i = .all ∨ i = .c x.cls ∨ i = .k (x.cls, spV vs))) := fun i y => by
            have i3 : InR T3 i y ↔ InR T2 i y := by unfold InR; rw [r3']
            have hkk : keyOf x1 = (x.cls, spV vs) := rfl
            have h4 : InR T4 i y ↔ InR T2 i y ∨ (i = .k (x.cls, spV vs) ∧ y = k) := by
              rw [rs_in S6, hkk]
              by_cases e : i = .k (x.cls, spV vs)
              · rw [if_pos e, e]
                have : InR T2 (.k (x.cls, spV vs)) y ↔ ∃ r, T3.row (.k (x.cls, spV vs)) = some r ∧ y ∈ r.l := by unfold InR; rw [r3']
                rw [this]
                simp only [true_and]
                exact Or.comm
              · rw [if_neg e, i3]; simp [e]
            rw [h4, ir2]
            by_cases e : y = k
            · have hit : InR T i y ↔ Hit i x := by
                rw [I.rw, e, hx]
                constructor
                · rintro ⟨z, q, w⟩; cases q; exact w
                · exact fun w => ⟨x, rfl, w⟩
              rw [hit]
              cases i with
              | all => simp [e, Hit]
              | c s => simp [e, Hit, eq_comm]
              | k s => simp [e, Hit, eq_comm]
            · simp [e]
          have hl6 : lenA h6 1 v1 = some (.int .i64 (vs.length : Int)) := by
            have F6 := P6.f k x1 (by rw [S6.eq]; exact lkG_mem hx3)
            exact F6.vals.now.len
          refine z_of hl6 ?_
          have hsl : x.stamps.length = vs.length := by rw [c3, hvl]
          have eq6 : T4 = { T with clock := T.clock + 1, fs := upG T.fs k x1, all := T4.all, by' := T4.by', same := T4.same } := by rw [S6.eq, hT3, S4.eq, hT1]
          rw [p3, p1]
          suffices H : ∀ m i g τg Tg L, vs.length - i < m → i ≤ vs.length → SO B τg o h0 g Tg → St o τ τg h g → Tg = { T with clock := T.clock + 1, fs := upG T.fs k { x1 with stamps := L }, all := T4.all, by' := T4.by', same := T4.same } → L.length = x.stamps.length → (∀ j, L[j]? = if j < i then (nst x.vs vs ((T.clock + 1 : Nat) : Int) x.stamps)[j]? else x.stamps[j]?) →
              l11_65 (callN E (n + 7)) (n + 7) m (.ptr T.p 0 0 0) (.ptr x.id 0 0 0) (.int .u64 ((dm x.vs vs vs.length : Nat) : Int)) (.int .i64 (vs.length : Int)) (.int .i64 (i : Int)) g K = true from
            H (n + 7) 0 h6 τ6 T4 x.stamps (by omega) (Nat.zero_le _) P6 s06 eq6 rfl (fun j => by rw [if_neg (by omega)])
          clear ih
          intro m
          induction m with
          | zero => intro i g τg Tg L hm; omega
          | succ m ih =>
            intro i g τg Tg L hm hi P s eqg hL' hLj
            unfold l11_65 b11_65
            refine z_lss ?_
            have hlt62 := dm_lt x.vs vs vs.length
            have h2i : 2 ^ vs.length ≤ 2 ^ 62 := Nat.pow_le_pow_right (by decide) (by omega)
            have h264 : 2 ^ 62 < 18446744073709551616 := by decide
            by_cases hlt : i < vs.length
            · refine z_ct (decide_eq_true (by omega)) ?_
              obtain ⟨vb, mb1, mb2⟩ := m_bit (m := dm x.vs vs vs.length) (i := i) (by omega)
              refine z_of (m_shr (m := dm x.vs vs vs.length) (i := i) (by omega)) ?_; refine z_of mb1 ?_; refine z_of mb2 ?_
              rw [dm_bit]
              have hni : (nst x.vs vs ((T.clock + 1 : Nat) : Int) x.stamps)[i]? = some (if x.vs[i]? = vs[i]? then x.stamps[i]'(by omega) else ((T.clock + 1 : Nat) : Int)) := by
                unfold nst
                rw [List.getElem?_mapIdx, List.getElem?_eq_getElem (by omega : i < x.stamps.length)]; rfl
              by_cases hch : x.vs[i]? = vs[i]?
              · rw [decide_eq_false (fun q => q.2 hch)]
                refine z_cF ?_
                unfold p11_81
                refine z_of (inc64 (i := i) (by omega)) ?_
                refine ih (i + 1) g τg Tg L (by omega) (by omega) P s eqg hL' fun j => ?_
                rw [hLj]
                by_cases e1 : j = i
                · subst e1
                  rw [if_neg (by omega), if_pos (by omega), hni, if_pos hch, List.getElem?_eq_getElem (by omega)]
                · by_cases e2 : j < i
                  · rw [if_pos e2, if_pos (by omega)]
                  · rw [if_neg e2, if_neg (by omega)]
              · rw [decide_eq_true ⟨hlt, hch⟩]
                have hxg : lkG Tg.fs k = some { x1 with stamps := L } := by rw [eqg]; show lkG (upG T.fs k _) k = _; rw [lkG_up, if_pos rfl]
                have Fg := P.f k _ (lkG_mem hxg)
                have A5 : loadA g false 1 (.ptr x.id 0 0 5) = some x.sv := Fg.l5
                have L3 : loadA g false 1 (.ptr T.p 0 0 3) = some (.int .i64 ((T.clock + 1 : Nat) : Int)) := by have := P.l3; rw [eqg] at this; exact this
                have hil : i < (ints L).length := by rw [ints_len]; omega
                have Ms : Mr g 1 x.sv (ints L) := Fg.st
                obtain ⟨id3, g3, i1, i2, g', i3, M', b', z', o'⟩ := Ms.set (x := .int .i64 ((T.clock + 1 : Nat) : Int)) (List.getElem?_eq_getElem hil) (by simp [ints]) rfl rfl
                refine z_cT ?_; refine z_nil ?_; refine z_fadr ?_; refine z_of A5 ?_; refine z_nil ?_; refine z_fadr ?_; refine z_of L3 ?_; refine z_of (i1 .i64) ?_; refine z_u i3 ?_
                unfold p11_81
                refine z_of (inc64 (i := i) (by omega)) ?_
                have t3 := Fg.ts id3 i2
                have frw : Fr (fun j => τg j = .own o (.f k) ∨ τg j = .own o (.st k)) g g' := Fr.of_but (.inr t3) b'
                have ne3 : x.id ≠ id3 := fun w => by have := Fg.tid; rw [show ({ x1 with stamps := L } : FD).id = x.id from rfl, w, t3] at this; cases this
                have sw : ints (L.set i ((T.clock + 1 : Nat) : Int)) = (ints L).set i [AV.int .i64 ((T.clock + 1 : Nat) : Int)] := by simp [ints, List.map_set]
                have FX' : FO B τg o g' k { x1 with stamps := L.set i ((T.clock + 1 : Nat) : Int) } := ⟨Fg.tid, b'.var Fg.row ne3, Fg.vals.fr (Lt.of_fr frw fun j q w => by rcases q with q | q <;> rw [show τg j = .out from w] at q <;> cases q) P.ok fun _ _ q => q, Fg.sz, (by show Mr g' 1 x.sv (ints (L.set i _)); rw [sw]; exact M'), Fg.ts⟩
                obtain ⟨P', s'⟩ := P.updF hxg frw (o' P.ok) FX' rfl
                refine ih (i + 1) g' τg _ (L.set i ((T.clock + 1 : Nat) : Int)) (by omega) (by omega) P' (s.trans O.ok s') (by rw [eqg]; simp only [upG_up]) (by rw [List.length_set]; exact hL') fun j => ?_
                by_cases e1 : j = i
                · subst e1
                  rw [List.getElem?_set_self (by omega), if_pos (by omega), hni, if_neg hch]
                · rw [List.getElem?_set_ne (fun w => e1 w.symm), hLj]
                  by_cases e2 : j < i
                  · rw [if_pos e2, if_pos (by omega)]
                  · rw [if_neg e2, if_neg (by omega)]
            · refine z_cf (decide_eq_false (by omega)) ?_
              have hLn : L = nst x.vs vs ((T.clock + 1 : Nat) : Int) x.stamps := by
                apply List.ext_getElem?
                intro j
                rw [hLj]
                by_cases e : j < i
                · rw [if_pos e]
                · rw [if_neg e, List.getElem?_eq_none (by omega), List.getElem?_eq_none (by rw [nst_len]; omega)]
              have U : UpdT T Tg k x vs := by
                refine ⟨⟨{ x1 with stamps := L }, by rw [eqg], rfl, rfl, rfl, rfl, hLn⟩, ⟨by rw [eqg], by rw [eqg], by rw [eqg], by rw [eqg], by rw [eqg]⟩, fun i y => ?_⟩
                rw [← hrows]
                unfold InR
                have : Tg.row i = T4.row i := by rw [eqg]; cases i <;> rfl
                rw [this]
              exact k3 x vs hx hg hvl hne g τg Tg P s (I.upd hx hvl hvb U) U
end
end Go.Proofs.Ythifmankpcadjaa
namespace Go.Proofs.Ythifmankpcadjaa
open Go.Ab
set_option linter.unusedSimpArgs false
set_option linter.unusedVariables false
theorem c41 {n : Nat} {h : AHeap} {v : AV} {es : List (List AV)} {K : Kont} (ho : h.Ok) (V : View h 1 v es) (hl : es.length < 1000000)
    (k : ∀ h' v', Ext h h' → h'.Ok → View h' 1 v' es → (es ≠ [] → Mr h' 1 v' es) → (∀ j, inRow v' j → h.sz ≤ j) → K v' h' = true) : callN E (n + 1) (.func 41) [v] h K = true := by
  apply d41
  unfold s41
  have hnil : v = .nilSlc ∨ eqV h false .slc v .nilSlc = some (.bool false) := by
    rcases V with ⟨_, rfl | rfl⟩ | ⟨id, g, s, cap, ex, r, rfl, _⟩
    · exact .inl rfl
    · exact .inr rfl
    · exact .inr rfl
  rcases hnil with rfl | hne
  · have hes : es = [] := by
      rcases V with ⟨e, _⟩ | ⟨_, _, _, _, _, _, e, _⟩
      · exact e
      · cases e
    have : eqV h false .slc .nilSlc .nilSlc = some (.bool true) := rfl
    refine z_of this ?_; refine z_cT ?_
    exact k h _ (Ext.refl h) ho V (fun e => absurd hes e) fun j q => absurd q inRow_nil
  · refine z_of hne ?_; refine z_cF ?_
    have hb : bsliceV h 0 1 [AV.int .i64 0] [] = some (.slc h.sz 0 0 0 0 true, Ab.newRow h [] 1) := rfl
    refine z_p hb ?_
    have e1 := ext_newRow ho [] 1
    have o1 := ok_newRow ho [] 1
    have r1 : (Ab.newRow h [] 1).row h.sz = some { es := [], sz := 1, g := 0, m := 0, rw := true } := by rw [AHeap.row_some]; exact get_push_same _ _
    generalize Ab.newRow h [] 1 = h1 at *
    have V1 := V.ext e1
    cases es with
    | nil =>
      have : appendA h1 1 8 (.slc h.sz 0 0 0 0 true) v = some (.slc h.sz 0 0 0 0 true, h1) := by
        simp only [appendA, show Nat.beq 1 0 = false from rfl, cond_false, V1.src, appendNew]
      refine z_p this ?_
      exact k h1 _ e1 o1 (.inr ⟨h.sz, 0, 0, 0, true, _, rfl, r1, Nat.le_refl _, rfl, rfl, Nat.le_refl _⟩) (fun e => absurd rfl e) fun j q => by rw [inRow_slc.1 q]; exact Nat.le_refl _
    | cons y l =>
      have b1 : Nat.ble ((0 + (y :: l).length) * 8) most = true := nble_true.2 (by unfold most; omega)
      have b2 : Nat.ble (0 + (y :: l).length) most = true := nble_true.2 (by unfold most; omega)
      have b3 : Nat.ble (0 + (y :: l).length) 0 = false := by
        cases hh : Nat.ble (0 + (y :: l).length) 0 with
        | false => rfl
        | true => have := nble_true.1 hh; simp at this
      have : appendA h1 1 8 (.slc h.sz 0 0 0 0 true) v = some (.slc h1.sz 0 0 (0 + (y :: l).length) (0 + (y :: l).length) false, Ab.newRow h1 (y :: l) 1) := by
        simp only [appendA, show Nat.beq 1 0 = false from rfl, cond_false, V1.src, appendNew, r1, b1, b2, b3, Nat.beq_refl, Bool.and_self, cond_true, Nat.ble_self_eq_true, List.drop_nil, List.take_nil, List.length_nil, List.nil_append]
      refine z_p this ?_
      have M : Mr (Ab.newRow h1 (y :: l) 1) 1 (.slc h1.sz 0 0 (0 + (y :: l).length) (0 + (y :: l).length) false) (y :: l) :=
        ⟨h1.sz, 0 + (y :: l).length, false, { es := y :: l, sz := 1, g := 0, m := 0, rw := true }, by simp, by rw [AHeap.row_some]; exact get_push_same _ _, rfl, Nat.le_refl _, rfl, rfl, by simp⟩
      exact k _ _ (e1.trans (ext_newRow o1 _ 1)) (ok_newRow o1 _ 1) M.view (fun _ => M) fun j q => by rw [← inRow_slc.1 q]; exact e1.1
structure PF where
  k : Int
  cls : Str
  vs : List Val
  stated : Bool
  born : Nat
  stamps : List Int
def pf (p : Int × FD) : PF := ⟨p.1, p.2.cls, p.2.vs, p.2.stated, p.2.born, p.2.stamps⟩
def RF (h : AHeap) (a : List AV) (f : PF) : Prop := ∃ vv sv, a = [.int .i64 f.k, .str f.cls, vv, .bool f.stated, .int .i64 (f.born : Int), sv] ∧ VV h vv f.vs ∧ View h 1 sv (ints f.stamps)
def FV (h : AHeap) (v : AV) (l : List PF) : Prop := ∃ es, View h 6 v es ∧ All2 (RF h) es l
theorem RF.ext {h h' : AHeap} {a : List AV} {f : PF} (R : RF h a f) (e : Ext h h') : RF h' a f := let ⟨vv, sv, q, V, W⟩ := R; ⟨vv, sv, q, V.ext e, W.ext e⟩
theorem FV.ext {h h' : AHeap} {v : AV} {l : List PF} (R : FV h v l) (e : Ext h h') : FV h' v l := let ⟨es, V, A⟩ := R; ⟨es, V.ext e, A.mono fun _ _ r => r.ext e⟩
structure Tld (h h2 : AHeap) (x : FD) (vv sv : AV) : Prop where
  g : ∃ lo hi, Gv x.vs h2 lo hi vv ∧ h.sz ≤ lo ∧ lo ≤ hi ∧ hi ≤ h2.sz ∧ ∀ j, inRow sv j → hi ≤ j ∧ j < h2.sz
  l : vv.leaf = true
  v : View h2 1 sv (ints x.stamps)
  m : ints x.stamps ≠ [] → Mr h2 1 sv (ints x.stamps)
section
variable {B b : Nat} {τ : Nat → Tag} {o : Nat} {h0 h h' : AHeap} {T : SD} {K : Kont} {n : Nat} {k : Int} {x : FD}
theorem c36 (F : FO B τ o h k x) (ho : h.Ok) (hs : x.stamps.length < 1000000) (hB : B < 100000000) (hn : B + 100 ≤ n) (hL : n < lim)
    (kk : ∀ h2 vv sv, Ext h h2 → h2.Ok → Tld h h2 x vv sv → K (.agg [.int .i64 k, .str x.cls, vv, .bool x.stated, .int .i64 (x.born : Int), sv]) h2 = true) : callN E (n + 2) (.func 36) [.ptr x.id 0 0 0] h K = true := by
  have hBs := F.sz
  apply d36
  unfold s36
  obtain ⟨h1, q1, V1, e1, o1, z1⟩ := alloc_v (z := [AV.int .i64 0, .str [], .nilSlc, .bool false, .int .i64 0, .nilSlc]) ho (by decide) rfl
  refine z_p q1 ?_
  have R1 := F.row.ext e1
  have A : loadA h1 true 6 (.ptr x.id 0 0 0) = some (.agg [.int .i64 k, .str x.cls, x.vv, .bool x.stated, .int .i64 (x.born : Int), x.sv]) := R1.all rfl
  refine z_nil ?_; refine z_of A ?_
  obtain ⟨h2, q2, V2, e2, o2, z2⟩ := alloc_v (z := [AV.int .i64 0, .str [], .nilSlc, .bool false, .int .i64 0, .nilSlc]) o1 (by decide) rfl
  refine z_p q2 ?_
  have lvv := F.vals.leaf
  have lsv : x.sv.leaf = true := F.st.view.leaf
  obtain ⟨h3, w3, V3, b3, o3, z3⟩ := V2.wrs o2 (n := 6) (v := .agg [.int .i64 k, .str x.cls, x.vv, .bool x.stated, .int .i64 (x.born : Int), x.sv]) rfl rfl (by show allLeaf [.int .i64 k, .str x.cls, x.vv, .bool x.stated, .int .i64 (x.born : Int), x.sv] = true; simp only [allLeaf, lvv, lsv]; rfl)
  refine z_u w3 ?_
  have V3 : Var h3 h1.sz [.int .i64 k, .str x.cls, x.vv, .bool x.stated, .int .i64 (x.born : Int), x.sv] := V3
  have e03 : Ext h h3 := b3.ext (ext_two e1 e2) ho (by omega)
  have R3 := F.row.ext e03
  have A2 : loadA h3 false 1 (.ptr x.id 0 0 2) = some x.vv := R3.get rfl
  have A5 : ∀ g, Ext h3 g → loadA g false 1 (.ptr x.id 0 0 5) = some x.sv := fun g e => (R3.ext e).get rfl
  refine z_nil ?_; refine z_fadr ?_; refine z_of A2 ?_; refine z_nil ?_; refine z_fadr ?_; refine z_of (A5 h3 (Ext.refl _)) ?_
  have VV3 : VV h3 x.vv x.vs := F.vals.now.ext e03
  refine c62 (n := n) VV3 o3 (by omega) (by omega) hL fun h4 vv e4 o4 l4 s4 G => ?_
  refine z_same (A5 h4 e4) F.st.view.same ?_
  refine c41 (n := n) o4 ((F.st.view.ext e03).ext e4) (by rw [ints_len]; exact hs) fun h5 sv e5 o5 W5 M5 r5 => ?_
  have V5 := (V3.ext e4).ext e5
  obtain ⟨h6, w6, V6, b6, o6, z6⟩ := V5.wr o5 (off := 2) (v := vv) (show 2 < 6 by decide) l4
  refine z_fadr ?_
  refine z_u w6 ?_
  have V6 : Var h6 h1.sz [.int .i64 k, .str x.cls, vv, .bool x.stated, .int .i64 (x.born : Int), x.sv] := V6
  obtain ⟨h7, w7, V7, b7, o7, z7⟩ := V6.wr o6 (off := 5) (v := sv) (show 5 < 6 by decide) W5.leaf
  refine z_fadr ?_
  refine z_u w7 ?_
  have V7 : Var h7 h1.sz [.int .i64 k, .str x.cls, vv, .bool x.stated, .int .i64 (x.born : Int), sv] := V7
  have A7 : loadA h7 true 6 (.ptr h1.sz 0 0 0) = some (.agg [.int .i64 k, .str x.cls, vv, .bool x.stated, .int .i64 (x.born : Int), sv]) := V7.all rfl
  refine z_of A7 ?_
  have e23 : Ext h1 h3 := b3.ext e2 o1 (Nat.le_refl _)
  have U1 := (((V1.ext e23).ext e4).ext e5)
  have s1 := e1.1
  have U7 := b7.var (b6.var U1 (show h.sz ≠ h1.sz by omega)) (show h.sz ≠ h1.sz by omega)
  have lsv' := W5.leaf
  obtain ⟨h8, w8, V8, b8, o8, z8⟩ := U7.wrs o7 (n := 6) (v := .agg [.int .i64 k, .str x.cls, vv, .bool x.stated, .int .i64 (x.born : Int), sv]) rfl rfl (by show allLeaf [.int .i64 k, .str x.cls, vv, .bool x.stated, .int .i64 (x.born : Int), sv] = true; simp only [allLeaf, l4, lsv']; rfl)
  refine z_u w8 ?_
  have V8 : Var h8 h.sz [.int .i64 k, .str x.cls, vv, .bool x.stated, .int .i64 (x.born : Int), sv] := V8
  refine res1 (V8.all rfl) ?_
  have s3 := e03.1
  have s4' := e4.1
  have s5 := e5.1
  have hz3 : h3.sz = h1.sz + 1 := by omega
  have e05 : Ext h h5 := ext_two (ext_two e03 e4) e5
  have e08 : Ext h h8 := b8.ext (b7.ext (b6.ext e05 ho (by omega)) ho (by omega)) ho (Nat.le_refl _)
  have f58 : Fr (fun j => j = h1.sz ∨ j = h.sz) h5 h8 := ((Fr.of_but (.inl rfl) b6).trans (Fr.of_but (.inl rfl) b7)).trans (Fr.of_but (.inr rfl) b8)
  have dr : ∀ j, inRow sv j → ¬ (j = h1.sz ∨ j = h.sz) := fun j q w => by have := r5 j q; omega
  refine kk h8 vv sv e08 o8 ⟨⟨h3.sz, h4.sz, (G.fr (Kp.of_ext e5)).fr (Kp.of_fr f58 fun j w => by omega), s3, s4', by have := f58.sz; omega, fun j q => ⟨r5 j q, by have := W5.rlt o5 q; have := f58.sz; omega⟩⟩, l4, f58.view W5 fun id g s l c ex e => dr id (by rw [e]; exact inRow_slc.2 rfl), fun ne => (M5 ne).fr f58 dr⟩
end
end Go.Proofs.Ythifmankpcadjaa
namespace Go.Proofs.Ythifmankpcadjaa
open Go.Ab
set_option linter.unusedSimpArgs false
set_option linter.unusedVariables false
section
variable {B b : Nat} {τ : Nat → Tag} {o : Nat} {h0 h h' : AHeap} {T : SD} {K : Kont} {n : Nat} {cs : List Cls}
theorem SI.all (I : SI cs b T) (O : SO B τ o h0 h T) : T.all.l = T.fs.map fun p => p.1 := by
  refine srt_ext (O.r .all T.all rfl).rn.srt I.ks fun y => ?_
  have : y ∈ T.all.l ↔ InR T .all y := ⟨fun q => ⟨_, rfl, q⟩, fun ⟨r, e, q⟩ => by cases e; exact q⟩
  rw [this, I.rw]
  constructor
  · rintro ⟨x, e, _⟩; exact List.mem_map.2 ⟨_, lkG_mem e, rfl⟩
  · intro q
    obtain ⟨⟨k, x⟩, e, rfl⟩ := List.mem_map.1 q
    exact ⟨x, lkG_of_mem O.nf e, trivial⟩
theorem SI.fslen (I : SI cs b T) (O : SO B τ o h0 h T) : T.fs.length ≤ T.next := by
  have := I.len O (i := .all) rfl
  rw [I.all O, List.length_map] at this; exact this
theorem c15 (O : SO B τ o h0 h T) (kk : K (.int .i64 (T.clock : Int)) h = true) : callN E (n + 1) (.func 15) [.ptr T.p 0 0 0] h K = true := by
  apply d15
  unfold s15
  refine z_nil ?_; refine z_fadr ?_; refine z_of O.l3 ?_
  exact kk
theorem c16 (O : SO B τ o h0 h T) (kk : K (.int .i64 (T.fs.length : Int)) h = true) : callN E (n + 1) (.func 16) [.ptr T.p 0 0 0] h K = true := by
  apply d16
  unfold s16
  have flen : lenA h 2 (.map T.fm) = some (.int .i64 (T.fs.length : Int)) := by have := O.fs.len; simpa [mp] using this
  refine z_nil ?_; refine z_fadr ?_; refine z_of O.l4 ?_; refine z_of flen ?_
  exact kk
def RFr (g : AHeap) (out : AV) (a : List AV) (f : PF) : Prop := ∃ lo hi, hi ≤ g.sz ∧ (∀ j, inRow out j → ¬ (lo ≤ j ∧ j < hi)) ∧ ∀ g', Kp lo hi g g' → RF g' a f
theorem RFr.now {g : AHeap} {out : AV} {a : List AV} {f : PF} (R : RFr g out a f) : RF g a f := let ⟨_, _, _, _, r⟩ := R; r g (Kp.refl _ _ _)
theorem RFr.step {g g' : AHeap} {out out' : AV} {a : List AV} {f : PF} (R : RFr g out a f) (e : Fr (inRow out) g g') (r : ∀ j, inRow out' j → inRow out j ∨ g.sz ≤ j) : RFr g' out' a f := by
  obtain ⟨lo, hi, a1, a2, a3⟩ := R
  refine ⟨lo, hi, Nat.le_trans a1 e.sz, fun j q w => ?_, fun g'' k => a3 g'' ((Kp.of_fr e fun j q w => a2 j q w).trans k)⟩
  rcases r j q with u | u
  · exact a2 j u w
  · omega
theorem Tld.rf {g g2 : AHeap} {k : Int} {x : FD} {vv sv out : AV} (D : Tld g g2 x vv sv) (hr : ∀ j, inRow out j → j < g.sz) : RFr g2 out [.int .i64 k, .str x.cls, vv, .bool x.stated, .int .i64 (x.born : Int), sv] (pf (k, x)) := by
  obtain ⟨lo, hi, G, q1, q4, q2, q3⟩ := D.g
  exact ⟨lo, g2.sz, Nat.le_refl _, fun j q w => by have := hr j q; omega, fun g' kp => ⟨vv, sv, rfl, G.rd g' (kp.sub (Nat.le_refl _) q2), D.v.lt (Q := fun j => hi ≤ j ∧ j < g2.sz) (fun j o q e => kp j o (by omega) q.2 e) q3⟩⟩
theorem c14 (O : SO B τ o h0 h T) (I : SI cs b T) (hfs : ∀ s, (fieldsOf cs s).length ≤ 62) (hN : T.next < 500000) (hB : B < 100000000) (hn : B + 1000000 ≤ n) (hL : n < lim)
    (kk : ∀ h2 v, Ext h h2 → h2.Ok → FV h2 v (T.fs.map pf) → K v h2 = true) : callN E (n + 3) (.func 14) [.ptr T.p 0 0 0] h K = true := by
  have hlm : lim = 4611686018427387904 := rfl
  have hmo : most = 1099511627776 := rfl
  have hlf := I.fslen O
  have Ra := (O.r .all T.all rfl).rn
  have hal := I.all O
  apply d14
  unfold s14
  have A0 : loadA h false 1 (.ptr T.all.id 0 0 0) = some T.all.v := Ra.var.get rfl
  have la : lenA h 1 T.all.v = some (.int .i64 (T.fs.length : Int)) := by have := Ra.buf.view.len; rw [ints_len, hal, List.length_map] at this; exact this
  refine z_nil ?_; refine z_fadr ?_; refine z_of O.l5 ?_; refine z_nil ?_; refine z_fadr ?_; refine z_of A0 ?_; refine z_of la ?_
  have Vall : View h 1 T.all.v (ints (T.fs.map fun p => p.1)) := by rw [← hal]; exact Ra.buf.view
  suffices H : ∀ m i g out es, T.fs.length - i < m → i ≤ T.fs.length → Ext h g → g.Ok → Own h.sz g 6 out es → All2 (RFr g out) es ((T.fs.take i).map pf) → l14_8 (callN E (n + 2)) (n + 2) m (.ptr T.p 0 0 0) out T.all.v (.int .i64 (T.fs.length : Int)) (.int .i64 (i : Int)) g K = true from
    H (n + 2) 0 h .nilSlc [] (by omega) (Nat.zero_le _) (Ext.refl _) O.ok (Own.nil _ _ _) .nil
  intro m
  induction m with
  | zero => intro i g out es hm; omega
  | succ m ih =>
    intro i g out es hm hi e ok W C
    have Og := O.ext e ok
    unfold l14_8 b14_8
    refine z_lss ?_
    by_cases hlt : i < T.fs.length
    · refine z_ct (decide_eq_true (by omega)) ?_
      have hik : i < (T.fs.map fun p => p.1).length := by simpa using hlt
      obtain ⟨id, gg, j, p1, p2⟩ := (Vall.ext e).at (ints_get hik)
      have hp : (T.fs.map fun p => p.1)[i] = (T.fs[i]).1 := by simp
      rw [hp] at p2
      have A : loadA g false 1 (.ptr id gg j 0) = some (.int .i64 (T.fs[i]).1) := by rw [p2]; rfl
      have hmem : ((T.fs[i]).1, (T.fs[i]).2) ∈ T.fs := List.getElem_mem hlt
      have lk : lookA g (.leaf .int) false .nilPtr (.map T.fm) (.int .i64 (T.fs[i]).1) = some (.ptr (T.fs[i]).2.id 0 0 0) := by
        have := Og.fs.look intKeys .nilPtr (T.fs[i]).1
        rw [lk_G, lkG_mp, lkG_of_mem Og.nf hmem] at this; exact this
      refine z_of (p1 .i64) ?_; refine z_of A ?_; refine z_nil ?_; refine z_fadr ?_; refine z_of Og.l4 ?_; refine z_of lk ?_
      have F := Og.f _ _ hmem
      obtain ⟨c1, c2, c3, c4⟩ := I.fc _ _ hmem
      have t1 : (T.fs.take (i + 1)).map pf = (T.fs.take i).map pf ++ [pf T.fs[i]] := by rw [List.take_succ_eq_append_getElem hlt, List.map_append]; rfl
      have hf := hfs (T.fs[i]).2.cls
      have hel : es.length = i := by rw [C.length]; simp; omega
      refine c36 (n := n) F ok (by omega) hB (by omega) hL fun g2 vv sv e2 o2 D => ?_
      have RFx := D.rf (k := (T.fs[i]).1) (out := out) fun j q => own_lt (own_low W) ok q
      have lsv := D.v.leaf
      have hal6 : allLeaf [.int .i64 (T.fs[i]).1, .str (T.fs[i]).2.cls, vv, .bool (T.fs[i]).2.stated, .int .i64 ((T.fs[i]).2.born : Int), sv] = true := by simp only [allLeaf, D.l, lsv]; rfl
      obtain ⟨w', g3, b1, b2, e3, o3, z3, _⟩ := bslice1_v (sz := 6) (z := [AV.int .i64 0, .str [], .nilSlc, .bool false, .int .i64 0, .nilSlc]) (v := .agg [.int .i64 (T.fs[i]).1, .str (T.fs[i]).2.cls, vv, .bool (T.fs[i]).2.stated, .int .i64 ((T.fs[i]).2.born : Int), sv]) o2 rfl (by decide) (by decide) rfl rfl hal6
      refine z_p b1 ?_
      have e13 := ext_two e2 e3
      have e03 := ext_two e e13
      obtain ⟨out', g4, a1, a2, a3, a4, a5, a6⟩ := own_app2 (bytes := 88) (W.ext e13) (by decide) e03.1 o3 O.ok e03 (Nat.le_refl _) b2.src (by
        simp only [List.length_singleton, hel]; omega) (by simp only [List.length_singleton, hel]; omega)
      refine z_p a1 ?_
      refine z_of (inc64 (i := i) (by omega)) ?_
      refine ih (i + 1) g4 out' _ (by omega) (by omega) a4 a3 a2 ?_
      rw [t1]
      have st1 : ∀ {e f}, RFr g2 out e f → RFr g4 out' e f := fun r => (r.step (g' := g3) (out' := out) (Fr.of_ext e3) fun j q => .inl q).step a5 fun j q => by
        rcases a6 j q with u | u
        · exact .inl u
        · exact .inr (by omega)
      exact (C.mono fun _ _ r => st1 (r.step (Fr.of_ext e2) fun j q => .inl q)).append (.cons (st1 RFx) .nil)
    · refine z_cf (decide_eq_false (by omega)) ?_
      rw [List.take_of_length_le (by omega)] at C
      exact kk g out e ok ⟨es, W.view, C.mono fun _ _ r => r.now⟩
end
end Go.Proofs.Ythifmankpcadjaa
namespace Go.Proofs.Ythifmankpcadjaa
open Go.Ab
set_option linter.unusedSimpArgs false
set_option linter.unusedVariables false
theorem c18 {n : Nat} {hs : AHeap} {v v' : AV} {l l' : List Int} {K : Kont} (V : View hs 1 v (ints l)) (V' : View hs 1 v' (ints l')) (hlen : l.length < 1000000000) (hn : l.length < n)
    (kk : ∀ r, (r = true ↔ l = l') → K (.bool r) hs = true) : callN E (n + 1) (.func 18) [v, v'] hs K = true := by
  have hlm : lim = 4611686018427387904 := rfl
  apply d18
  unfold s18
  have la : lenA hs 1 v = some (.int .i64 (l.length : Int)) := by have := V.len; rwa [ints_len] at this
  have lb : lenA hs 1 v' = some (.int .i64 (l'.length : Int)) := by have := V'.len; rwa [ints_len] at this
  refine z_of la ?_; refine z_of lb ?_; refine z_neq ?_
  by_cases hll : l.length = l'.length
  rotate_left
  · refine z_ct (by rw [decide_eq_false (by omega)]; rfl) ?_
    exact kk false ⟨fun h => (by cases h), fun h => absurd (by rw [h]) hll⟩
  refine z_cf (by rw [decide_eq_true (by omega)]; rfl) ?_
  unfold p18_10
  suffices H : ∀ m i, l.length - i < m → i ≤ l.length → l.take i = l'.take i → l18_14 (callN E n) n m v v' (.int .i64 (i : Int)) hs K = true from
    H n 0 (by omega) (Nat.zero_le _) rfl
  intro m
  induction m with
  | zero => intro i hm; omega
  | succ m ihm =>
    intro i hm hi C
    unfold l18_14 b18_14
    refine z_of la ?_; refine z_lss ?_
    by_cases hlt : i < l.length
    · refine z_ct (decide_eq_true (by omega)) ?_
      have hlt' : i < l'.length := by omega
      obtain ⟨id, g, j, p1, p2⟩ := V.at (ints_get hlt)
      obtain ⟨id', g', j', p1', p2'⟩ := V'.at (ints_get hlt')
      have A : loadA hs false 1 (.ptr id g j 0) = some (.int .i64 l[i]) := by rw [p2]; rfl
      have A' : loadA hs false 1 (.ptr id' g' j' 0) = some (.int .i64 l'[i]) := by rw [p2']; rfl
      have t1 : l.take (i + 1) = l.take i ++ [l[i]] := by rw [List.take_succ_eq_append_getElem hlt]
      have t2 : l'.take (i + 1) = l'.take i ++ [l'[i]] := by rw [List.take_succ_eq_append_getElem hlt']
      refine z_of (p1 .i64) ?_; refine z_of A ?_; refine z_of (p1' .i64) ?_; refine z_of A' ?_; refine z_neq ?_
      by_cases c0 : l[i] = l'[i]
      rotate_left
      · rw [decide_eq_false c0, Bool.not_false]
        refine z_cT ?_
        exact kk false ⟨fun h => (by cases h), fun h => absurd (by subst h; rfl) c0⟩
      rw [decide_eq_true c0, Bool.not_true]
      refine z_cF ?_; refine z_of (inc64 (i := i) (by omega)) ?_
      exact ihm (i + 1) (by omega) (by omega) (by rw [t1, t2, C, c0])
    · refine z_cf (decide_eq_false (by omega)) ?_
      refine kk true ⟨fun _ => ?_, fun _ => rfl⟩
      rw [List.take_of_length_le (by omega), List.take_of_length_le (by omega)] at C
      exact C
def fit (b : Nat) (f : PF) : Prop := szVs f.vs ≤ b ∧ f.stamps.length ≤ b
theorem c35 {n b : Nat} {h : AHeap} {a a' : List AV} {f f' : PF} {K : Kont} (ho : h.Ok) (R : RF h a f) (R' : RF h a' f') (hf : fit b f) (hb : b < 1000000000) (hn : 2 * b + 2 < n) (hL : n < lim)
    (kk : ∀ h2 r, Ext h h2 → h2.Ok → (r = true ↔ f = f') → K (.bool r) h2 = true) : callN E (n + 2) (.func 35) [.agg a, .agg a'] h K = true := by
  obtain ⟨k, c, vs, st, bo, sp⟩ := f
  obtain ⟨k', c', vs', st', bo', sp'⟩ := f'
  obtain ⟨vv, sv, rfl, V, W⟩ := R
  obtain ⟨vv', sv', rfl, V', W'⟩ := R'
  have hf1 : szVs vs ≤ b := hf.1
  have hf2 : sp.length ≤ b := hf.2
  have lv := V.leaf
  have lw := W.leaf
  have lv' := V'.leaf
  have lw' := W'.leaf
  apply d35
  unfold s35
  obtain ⟨h1, q1, V1, e1, o1, z1⟩ := box_v (n := 6) (v := .agg [.int .i64 k, .str c, vv, .bool st, .int .i64 (bo : Int), sv]) ho rfl (by decide) (by show allLeaf [.int .i64 k, .str c, vv, .bool st, .int .i64 (bo : Int), sv] = true; simp only [allLeaf, lv, lw]; rfl)
  refine z_p q1 ?_
  obtain ⟨h2, q2, V2, e2, o2, z2⟩ := box_v (n := 6) (v := .agg [.int .i64 k', .str c', vv', .bool st', .int .i64 (bo' : Int), sv']) o1 rfl (by decide) (by show allLeaf [.int .i64 k', .str c', vv', .bool st', .int .i64 (bo' : Int), sv'] = true; simp only [allLeaf, lv', lw']; rfl)
  refine z_p q2 ?_
  have V1 : Var h2 h.sz [.int .i64 k, .str c, vv, .bool st, .int .i64 (bo : Int), sv] := V1.ext e2
  have V2 : Var h2 h1.sz [.int .i64 k', .str c', vv', .bool st', .int .i64 (bo' : Int), sv'] := V2
  have e12 := ext_two e1 e2
  have A0 : loadA h2 false 1 (.ptr h.sz 0 0 0) = some (.int .i64 k) := V1.get rfl
  have A1 : loadA h2 false 1 (.ptr h.sz 0 0 1) = some (.str c) := V1.get rfl
  have A2 : loadA h2 false 1 (.ptr h.sz 0 0 2) = some vv := V1.get rfl
  have B0 : loadA h2 false 1 (.ptr h1.sz 0 0 0) = some (.int .i64 k') := V2.get rfl
  have B1 : loadA h2 false 1 (.ptr h1.sz 0 0 1) = some (.str c') := V2.get rfl
  have B2 : loadA h2 false 1 (.ptr h1.sz 0 0 2) = some vv' := V2.get rfl
  have no : ∀ {g : AHeap} {p : Prop}, Ext h g → g.Ok → ¬ p → ((PF.mk k c vs st bo sp = PF.mk k' c' vs' st' bo' sp') → p) → K (.bool false) g = true := fun e o hp hq => kk _ false e o ⟨fun h => (by cases h), fun h => absurd (hq h) hp⟩
  refine z_fadr ?_; refine z_of A0 ?_; refine z_fadr ?_; refine z_of B0 ?_; refine z_eql ?_
  by_cases c0 : k = k'
  rotate_left
  · rw [decide_eq_false c0]
    refine z_gft ?_; refine z_gft ?_; refine z_gft ?_; refine z_gft ?_; refine z_gft ?_; refine z_kf ?_; refine z_gft ?_; refine z_gft ?_; refine z_gft ?_; refine z_gft ?_; refine z_rft ?_; refine z_kf ?_; refine z_gft ?_; refine z_gft ?_; refine z_gft ?_; refine z_gft ?_; refine z_gft ?_; refine z_kf ?_; refine z_gft ?_; refine z_gft ?_
    exact no e12 o2 c0 fun h => by cases h; rfl
  rw [decide_eq_true c0]
  refine z_gtt ?_; refine z_fadr ?_; refine z_gtt ?_; refine z_of A1 ?_; refine z_gtt ?_; refine z_fadr ?_; refine z_gtt ?_; refine z_of B1 ?_; refine z_gtt ?_; refine z_seq ?_; refine z_kt ?_
  by_cases c1 : c = c'
  rotate_left
  · rw [decide_eq_false c1]
    refine z_gft ?_; refine z_gft ?_; refine z_gft ?_; refine z_gft ?_; refine z_rft ?_; refine z_kf ?_; refine z_gft ?_; refine z_gft ?_; refine z_gft ?_; refine z_gft ?_; refine z_gft ?_; refine z_kf ?_; refine z_gft ?_; refine z_gft ?_; refine z_gft ?_; refine z_gft ?_; refine z_gft ?_; refine z_kf ?_; refine z_gft ?_; refine z_gft ?_
    exact no e12 o2 c1 fun h => by cases h; rfl
  rw [decide_eq_true c1]
  refine z_gtt ?_; refine z_fadr ?_; refine z_gtt ?_; refine z_of A2 ?_; refine z_gtt ?_; refine z_fadr ?_; refine z_gtt ?_; refine z_of B2 ?_; refine z_rtt ?_
  refine eqVals b n (V.ext e12) (V'.ext e12) o2 hf1 (by omega) (by omega) (by omega) fun h3 r e3 o3 hr => ?_
  have e13 := ext_two e12 e3
  cases r with
  | false =>
    refine z_kt ?_; refine z_gft ?_; refine z_gft ?_; refine z_gft ?_; refine z_gft ?_; refine z_gft ?_; refine z_kf ?_; refine z_gft ?_; refine z_gft ?_; refine z_gft ?_; refine z_gft ?_; refine z_gft ?_; refine z_kf ?_; refine z_gft ?_; refine z_gft ?_; refine z_gft ?_; refine z_gft ?_; refine z_rft ?_; refine z_kf ?_
    exact no e13 o3 (p := vs = vs') (fun q => by have := hr.2 q; cases this) fun h => by cases h; rfl
  | true =>
    have c2 : vs = vs' := hr.1 rfl
    have U1 := V1.ext e3
    have U2 := V2.ext e3
    have A3 : loadA h3 false 1 (.ptr h.sz 0 0 3) = some (.bool st) := U1.get rfl
    have A4 : loadA h3 false 1 (.ptr h.sz 0 0 4) = some (.int .i64 (bo : Int)) := U1.get rfl
    have A5 : loadA h3 false 1 (.ptr h.sz 0 0 5) = some sv := U1.get rfl
    have B3 : loadA h3 false 1 (.ptr h1.sz 0 0 3) = some (.bool st') := U2.get rfl
    have B4 : loadA h3 false 1 (.ptr h1.sz 0 0 4) = some (.int .i64 (bo' : Int)) := U2.get rfl
    have B5 : loadA h3 false 1 (.ptr h1.sz 0 0 5) = some sv' := U2.get rfl
    refine z_kt ?_; refine z_gtt ?_; refine z_fadr ?_; refine z_gtt ?_; refine z_of A3 ?_; refine z_gtt ?_; refine z_fadr ?_; refine z_gtt ?_; refine z_of B3 ?_; refine z_gtt ?_; refine z_of (eqV_b h3 st st') ?_; refine z_kt ?_
    by_cases c3 : st = st'
    rotate_left
    · rw [beq_eq_false_iff_ne.2 c3]
      refine z_gft ?_; refine z_gft ?_; refine z_gft ?_; refine z_gft ?_; refine z_gft ?_; refine z_kf ?_; refine z_gft ?_; refine z_gft ?_; refine z_gft ?_; refine z_gft ?_; refine z_rft ?_; refine z_kf ?_
      exact no e13 o3 c3 fun h => by cases h; rfl
    rw [beq_iff_eq.2 c3]
    refine z_gtt ?_; refine z_fadr ?_; refine z_gtt ?_; refine z_of A4 ?_; refine z_gtt ?_; refine z_fadr ?_; refine z_gtt ?_; refine z_of B4 ?_; refine z_gtt ?_; refine z_eql ?_; refine z_kt ?_
    by_cases c4 : (bo : Int) = (bo' : Int)
    rotate_left
    · rw [decide_eq_false c4]
      refine z_gft ?_; refine z_gft ?_; refine z_gft ?_; refine z_gft ?_; refine z_rft ?_; refine z_kf ?_
      exact no e13 o3 c4 fun h => by cases h; rfl
    rw [decide_eq_true c4]
    refine z_gtt ?_; refine z_fadr ?_; refine z_gtt ?_; refine z_of A5 ?_; refine z_gtt ?_; refine z_fadr ?_; refine z_gtt ?_; refine z_of B5 ?_; refine z_rtt ?_
    refine c18 (n := n) (l := sp) (l' := sp') (W.ext e13) (W'.ext e13) (by omega) (by omega) fun r hr5 => ?_
    refine z_kt ?_
    refine kk h3 r e13 o3 (hr5.trans ⟨fun q => ?_, fun q => ?_⟩)
    · have c4' : bo = bo' := by omega
      rw [c0, c1, c2, c3, c4', q]
    · cases q; rfl
theorem c13 {n b : Nat} {hs : AHeap} {v v' : AV} {l l' : List PF} {K : Kont} (V : FV hs v l) (V' : FV hs v' l') (ho : hs.Ok) (hf : ∀ f ∈ l, fit b f) (hb : b < 1000000000) (hlen : l.length < 1000000) (hn : 2 * b + l.length + 4 < n) (hL : n < lim)
    (kk : ∀ h2 r, Ext hs h2 → h2.Ok → (r = true ↔ l = l') → K (.bool r) h2 = true) : callN E (n + 1) (.func 13) [v, v'] hs K = true := by
  have hlm : lim = 4611686018427387904 := rfl
  obtain ⟨es, W, A⟩ := V
  obtain ⟨es', W', A'⟩ := V'
  apply d13
  unfold s13
  have la : ∀ h, Ext hs h → lenA h 1 v = some (.int .i64 (l.length : Int)) := fun h e => by rw [(W.ext e).len, A.length]
  have lb : lenA hs 1 v' = some (.int .i64 (l'.length : Int)) := by rw [W'.len, A'.length]
  refine z_of (la hs (Ext.refl _)) ?_; refine z_of lb ?_; refine z_neq ?_
  by_cases hll : l.length = l'.length
  rotate_left
  · refine z_ct (by rw [decide_eq_false (by omega)]; rfl) ?_
    exact kk hs false (Ext.refl _) ho ⟨fun h => (by cases h), fun h => absurd (by rw [h]) hll⟩
  refine z_cf (by rw [decide_eq_true (by omega)]; rfl) ?_
  unfold p13_10
  suffices H : ∀ m i h, l.length - i < m → i ≤ l.length → Ext hs h → h.Ok → l.take i = l'.take i → l13_14 (callN E n) n m v v' (.int .i64 (i : Int)) h K = true from
    H n 0 hs (by omega) (Nat.zero_le _) (Ext.refl _) ho rfl
  intro m
  induction m with
  | zero => intro i h hm; omega
  | succ m ihm =>
    intro i h hm hi e o C
    unfold l13_14 b13_14
    refine z_of (la h e) ?_; refine z_lss ?_
    by_cases hlt : i < l.length
    · refine z_ct (decide_eq_true (by omega)) ?_
      have hlt' : i < l'.length := by omega
      obtain ⟨ee, he, R⟩ := A.get (List.getElem?_eq_getElem hlt)
      obtain ⟨ee', he', R'⟩ := A'.get (List.getElem?_eq_getElem hlt')
      obtain ⟨id, g, j, p1, p2⟩ := (W.ext e).at he
      obtain ⟨id', g', j', p1', p2'⟩ := (W'.ext e).at he'
      have hl6 : ee.length = 6 := by obtain ⟨_, _, q, _⟩ := R; rw [q]; rfl
      have hl6' : ee'.length = 6 := by obtain ⟨_, _, q, _⟩ := R'; rw [q]; rfl
      have P : ∀ {c : List AV}, c.length = 6 → partA true 0 6 c = some (.agg c) := fun hc => by
        simp only [partA, cond_true, hc, Nat.zero_add]
        rw [nble_true.2 (Nat.le_refl 6), cond_true, List.drop_zero, List.take_of_length_le (by omega)]
      have L : loadA h true 6 (.ptr id g j 0) = some (.agg ee) := by rw [p2]; exact P hl6
      have L' : loadA h true 6 (.ptr id' g' j' 0) = some (.agg ee') := by rw [p2']; exact P hl6'
      have t1 : l.take (i + 1) = l.take i ++ [l[i]] := by rw [List.take_succ_eq_append_getElem hlt]
      have t2 : l'.take (i + 1) = l'.take i ++ [l'[i]] := by rw [List.take_succ_eq_append_getElem hlt']
      refine z_of (p1 .i64) ?_; refine z_of L ?_; refine z_of (p1' .i64) ?_; refine z_of L' ?_
      obtain ⟨n, rfl⟩ : ∃ j, n = j + 2 := ⟨n - 2, by omega⟩
      refine c35 (n := n) (b := b) o (R.ext e) (R'.ext e) (hf _ (List.getElem_mem hlt)) hb (by omega) (by omega) fun h2 r e2 o2 hr => ?_
      cases r with
      | false =>
        refine z_notF ?_; refine z_cT ?_
        refine kk h2 false (ext_two e e2) o2 ⟨fun h => (by cases h), fun h => ?_⟩
        subst h
        exact hr.2 rfl
      | true =>
        refine z_notT ?_; refine z_cF ?_; refine z_of (inc64 (i := i) (by omega)) ?_
        exact ihm (i + 1) h2 (by omega) (by omega) (ext_two e e2) o2 (by rw [t1, t2, C, hr.1 rfl])
    · refine z_cf (decide_eq_false (by omega)) ?_
      refine kk h true e o ⟨fun _ => ?_, fun _ => rfl⟩
      rw [List.take_of_length_le (by omega), List.take_of_length_le (by omega)] at C
      exact C
end Go.Proofs.Ythifmankpcadjaa
namespace Go.Proofs.Ythifmankpcadjaa
open Go.Ab
set_option linter.unusedSimpArgs false
set_option linter.unusedVariables false
def zz : Str := [90, 122, 57]
theorem Good.noName {l : List Cls} (G : Good l) : idx [] (names l) = none := by
  cases h : idx [] (names l) with
  | none => rfl
  | some i =>
    have := idx_mem h
    simp only [names, List.mem_map] at this
    obtain ⟨d, hd, hd2⟩ := this
    have := (G.2 d hd).1
    rw [hd2, isName_nil] at this; cases this
theorem chain_app {l m : List Cls} (A : Asc l) (B : Asc (l ++ m)) : ∀ (i : Nat) {s : Str}, idx s (names l) = some i → (∀ c ∈ l, idx c.super (names l) = none → idx c.super (names (l ++ m)) = none) → chain (l ++ m) s = chain l s := by
  intro i
  induction i using Nat.strongRecOn with
  | _ i ih =>
    intro s hs hsup
    obtain ⟨c, hc, _⟩ := idx_get hs
    have hs' : idx s (names (l ++ m)) = some i := by rw [names_append, idx_append, hs]
    have hc' : (l ++ m)[i]? = some c := by
      rw [List.getElem?_append_left (List.getElem?_eq_some_iff.1 hc).1]; exact hc
    rw [chain_some A hs hc, chain_some B hs' hc']
    congr 1
    cases hj : idx c.super (names l) with
    | none => rw [chain_none hj, chain_none (hsup c (List.mem_of_getElem? hc) hj)]
    | some j => exact ih j (A i c hc j hj) hj hsup
theorem validGo_at {all : List Str} : ∀ (l pre : List Cls), validGo all pre l = true → ∀ (i : Nat) c, l[i]? = some c → fitsB (pre ++ l.take i) c all = true ∧ c.fields.length ≤ 62
  | [], _, _, i, c, h => by simp at h
  | d :: l, pre, hv, i, c, h => by
    simp only [validGo, Bool.and_eq_true, decide_eq_true_eq] at hv
    cases i with
    | zero => simp at h; subst h; simpa using ⟨hv.1.2, hv.1.1⟩
    | succ i =>
      simp at h
      have := validGo_at l _ hv.2 i c h
      simpa using this
theorem valid_at {l : List Cls} (hv : valid l = true) {i : Nat} {c : Cls} (hc : l[i]? = some c) : fitsB (l.take i) c (names l) = true ∧ c.fields.length ≤ 62 := by
  simp only [valid, Bool.and_eq_true] at hv
  simpa using validGo_at l [] hv.2 i c hc
theorem uniq {l : List Cls} (hv : valid l = true) {i : Nat} {c : Cls} (hc : l[i]? = some c) : idx c.name (names l) = some i := by
  have hf := (valid_at hv hc).1
  simp only [fitsB, Bool.and_eq_true, Bool.not_eq_true'] at hf
  have hn := hf.1.1.1.2
  have hlt := (List.getElem?_eq_some_iff.1 hc).1
  have e : l = l.take i ++ c :: l.drop (i + 1) := by
    have h1 := (List.getElem?_eq_some_iff.1 hc).2
    rw [← h1, ← List.drop_eq_getElem_cons hlt, List.take_append_drop]
  have e2 : names l = names (l.take i) ++ names (c :: l.drop (i + 1)) := by rw [← names_append, ← e]
  rw [e2, idx_append]
  cases hx : idx c.name (names (l.take i)) with
  | some j => rw [hx] at hn; cases hn
  | none =>
    have hl : (names (l.take i)).length = i := by rw [names_length]; simp; omega
    simp [names, idx]
    omega
theorem idx_take {l : List Cls} {s : Str} {i j : Nat} (h : idx s (names l) = some j) (hj : j < i) : idx s (names (l.take i)) = some j := by
  have e : names l = names (l.take i) ++ names (l.drop i) := by rw [← names_append, List.take_append_drop]
  rw [e, idx_append] at h
  cases hx : idx s (names (l.take i)) with
  | some k => rw [hx] at h; exact h
  | none =>
    rw [hx] at h
    simp only at h
    cases hy : idx s (names (l.drop i)) with
    | none => rw [hy] at h; cases h
    | some k =>
      rw [hy] at h
      simp at h
      rw [names_length] at h
      have hd := (idx_lt hy).1
      rw [names_length] at hd
      simp at hd h
      omega
theorem Good.take {l : List Cls} (G : Good l) (i : Nat) : Good (l.take i) := by
  refine ⟨fun k c hc => ?_, fun c hc => G.2 c (List.mem_of_mem_take hc)⟩
  have hk : k < i := by
    have := (List.getElem?_eq_some_iff.1 hc).1
    simp at this; omega
  rw [List.getElem?_take] at hc
  simp only [hk, if_true] at hc
  rcases G.1 k c hc with h | ⟨j, h1, h2⟩
  · exact .inl h
  · exact .inr ⟨j, h1, idx_take h2 (by omega)⟩
theorem chain_take {l : List Cls} (G : Good l) {i : Nat} {c : Cls} (hc : l[i]? = some c) : chain (l.take i) c.super = chain l c.super := by
  have Gt := G.take i
  rcases G.1 i c hc with h | ⟨j, h1, h2⟩
  · rw [h, chain_none G.noName, chain_none Gt.noName]
  · have e : l.take i ++ l.drop i = l := List.take_append_drop i l
    have B : Asc (l.take i ++ l.drop i) := by rw [e]; exact G.asc
    have := chain_app (m := l.drop i) Gt.asc B j (idx_take h2 h1) (fun d hd hn => ?_)
    · rw [e] at this; exact this.symm
    · rw [e]
      obtain ⟨k, hk⟩ := List.getElem?_of_mem hd
      rcases Gt.1 k d hk with h | ⟨q, _, hq⟩
      · rw [h]; exact G.noName
      · rw [hn] at hq; cases hq
theorem goF_nodup {all : List Str} : ∀ (fs prev : List Fld), goF all prev fs = true → (fnames fs).Nodup ∧ ∀ n ∈ fnames fs, n ∉ fnames prev
  | [], _, _ => ⟨List.nodup_nil, fun n h => by cases h⟩
  | f :: fs, prev, h => by
    simp only [goF, Bool.and_eq_true, decide_eq_true_eq] at h
    obtain ⟨i1, i2⟩ := goF_nodup fs _ h.2
    have hn : f.name ∉ fnames prev := by
      intro hm
      simp only [fnames, List.mem_map] at hm
      obtain ⟨g, hg, hgn⟩ := hm
      have h0 := h.1.2
      unfold cnt at h0
      rw [List.length_eq_zero_iff, List.filter_eq_nil_iff] at h0
      exact h0 g hg (by simpa using hgn)
    refine ⟨?_, fun n hm => ?_⟩
    · show (f.name :: fnames fs).Nodup
      refine List.nodup_cons.2 ⟨fun hm => i2 _ hm (by simp [fnames]), i1⟩
    · have hm' : n = f.name ∨ n ∈ fnames fs := by simpa [fnames] using hm
      rcases hm' with rfl | hm'
      · exact hn
      · intro hp
        refine i2 n hm' ?_
        simp only [fnames, List.map_append, List.mem_append] at hp ⊢
        exact .inl hp
theorem fields_step {l : List Cls} (A : Asc l) {s : Str} {i : Nat} {c : Cls} (hs : idx s (names l) = some i) (hc : l[i]? = some c) : fieldsOf l s = fieldsOf l c.super ++ c.fields := by
  unfold fieldsOf
  rw [chain_some A hs hc]
  simp
theorem flat_len {α β : Type} (f : α → List β) : ∀ (l : List α), (l.reverse.flatMap f).length = (l.flatMap f).length
  | [] => rfl
  | x :: l => by
    rw [List.reverse_cons, List.flatMap_append, List.length_append, flat_len f l]
    simp; omega
theorem fields_mem {l : List Cls} {s n : Str} : n ∈ fnames (fieldsOf l s) ↔ n ∈ fnames (upF l s) := by
  simp [fnames, fieldsOf, upF]
theorem fields_len {l : List Cls} {s : Str} : (fieldsOf l s).length = (upF l s).length := flat_len _ _
theorem fields_ok {l : List Cls} (hv : valid l = true) (G : Good l) : ∀ (i : Nat) {s : Str}, idx s (names l) = some i → (fnames (fieldsOf l s)).Nodup ∧ (fieldsOf l s).length ≤ 62 := by
  intro i
  induction i using Nat.strongRecOn with
  | _ i ih =>
    intro s hs
    obtain ⟨c, hc, hcn⟩ := idx_get hs
    have hf := (valid_at hv hc).1
    simp only [fitsB, Bool.and_eq_true, decide_eq_true_eq] at hf
    have hg := hf.1.2
    have h62 := hf.2
    have hup : upF (l.take i) c.super = upF l c.super := by unfold upF; rw [chain_take G hc]
    rw [hup] at hg h62
    obtain ⟨g1, g2⟩ := goF_nodup _ _ hg
    rw [fields_step G.asc hs hc]
    have hfst : (fnames (fieldsOf l c.super)).Nodup := by
      cases hj : idx c.super (names l) with
      | none => unfold fieldsOf; rw [chain_none hj]; exact List.nodup_nil
      | some j => exact (ih j (G.asc i c hc j hj) hj).1
    refine ⟨?_, by rw [List.length_append, fields_len]; exact h62⟩
    have e : fnames (fieldsOf l c.super ++ c.fields) = fnames (fieldsOf l c.super) ++ fnames c.fields := by simp [fnames]
    rw [e]
    refine List.nodup_append.2 ⟨hfst, g1, fun a ha b hb hab => ?_⟩
    subst hab
    exact g2 a hb (fields_mem.1 ha)
theorem fields62 {l : List Cls} (hv : valid l = true) (G : Good l) (s : Str) : (fieldsOf l s).length ≤ 62 := by
  cases h : idx s (names l) with
  | some i => exact (fields_ok hv G i h).2
  | none =>
    have : chain l s = [] := by unfold chain chainN; rw [h]
    unfold fieldsOf; rw [this]; simp
end Go.Proofs.Ythifmankpcadjaa
namespace Go.Proofs.Ythifmankpcadjaa
open Go.Ab
set_option linter.unusedSimpArgs false
set_option linter.unusedVariables false
structure Tw (T T' : SD) : Prop where
  fs : T.fs.map pf = T'.fs.map pf
  tb : T.tb = T'.tb
  most : T.most = T'.most
  next : T.next = T'.next
  clock : T.clock = T'.clock
theorem lk_pf {k : Int} : ∀ {l l' : List (Int × FD)}, l.map pf = l'.map pf → ((lkG l k).map fun x => pf (k, x)) = (lkG l' k).map fun x => pf (k, x)
  | [], [], _ => rfl
  | [], _ :: _, h => by cases h
  | _ :: _, [], h => by cases h
  | p :: t, q :: u, h => by
    simp only [List.map_cons, List.cons.injEq] at h
    have h1 : p.1 = q.1 := congrArg PF.k h.1
    simp only [lkG]
    rw [← h1]
    by_cases e : k = p.1
    · rw [if_pos e, if_pos e]
      simp only [Option.map_some]
      have a : pf (k, p.2) = pf p := by rw [e]
      have b : pf (k, q.2) = pf q := by rw [e, h1]
      rw [a, b, h.1]
    · rw [if_neg e, if_neg e, lk_pf h.2]
theorem up_pf {k : Int} {x x' : FD} (e : pf (k, x) = pf (k, x')) : ∀ {l l' : List (Int × FD)}, l.map pf = l'.map pf → (upG l k x).map pf = (upG l' k x').map pf
  | [], [], _ => by simp only [upG, List.map_cons, List.map_nil, e]
  | [], _ :: _, h => by cases h
  | _ :: _, [], h => by cases h
  | p :: t, q :: u, h => by
    simp only [List.map_cons, List.cons.injEq] at h
    have h1 : p.1 = q.1 := congrArg PF.k h.1
    simp only [upG]
    rw [← h1]
    by_cases c : k = p.1
    · rw [if_pos c, if_pos c, List.map_cons, List.map_cons, e, h.2]
    · rw [if_neg c, if_neg c, List.map_cons, List.map_cons, h.1, up_pf e h.2]
theorem dl_pf {k : Int} : ∀ {l l' : List (Int × FD)}, l.map pf = l'.map pf → (dlG l k).map pf = (dlG l' k).map pf
  | [], [], _ => rfl
  | [], _ :: _, h => by cases h
  | _ :: _, [], h => by cases h
  | p :: t, q :: u, h => by
    simp only [List.map_cons, List.cons.injEq] at h
    have h1 : p.1 = q.1 := congrArg PF.k h.1
    simp only [dlG]
    rw [← h1]
    by_cases c : k = p.1
    · rw [if_pos c, if_pos c, h.2]
    · rw [if_neg c, if_neg c, List.map_cons, List.map_cons, h.1, dl_pf h.2]
section
variable {T T' T1 T1' : SD} {k : Int} {x x' : FD} {vs : List Val} {name : Str} {st : Bool}
theorem Tw.refl (T : SD) : Tw T T := ⟨rfl, rfl, rfl, rfl, rfl⟩
theorem Tw.len (w : Tw T T') : T.fs.length = T'.fs.length := by have := congrArg List.length w.fs; simpa using this
theorem Tw.lk (w : Tw T T') (h : lkG T.fs k = some x) : ∃ x', lkG T'.fs k = some x' ∧ pf (k, x) = pf (k, x') := by
  have := lk_pf (k := k) w.fs
  rw [h] at this
  cases e : lkG T'.fs k with
  | none => rw [e] at this; cases this
  | some x' => rw [e] at this; exact ⟨x', rfl, Option.some.inj this⟩
theorem Tw.symm (w : Tw T T') : Tw T' T := ⟨w.fs.symm, w.tb.symm, w.most.symm, w.next.symm, w.clock.symm⟩
theorem Tw.of (w : Tw T T') : ofT T = ofT T' := by
  funext k
  unfold ofT
  have := congrArg (fun o => o.map PF.cls) (lk_pf (k := k) w.fs)
  simp only [Option.map_map] at this
  exact this
theorem Tw.ins (w : Tw T T') (i : InsT T T1 name vs st) (i' : InsT T' T1' name vs st) : Tw T1 T1' := by
  obtain ⟨x, e, a1, a2, a3, a4, a5⟩ := i.fs
  obtain ⟨x', e', b1, b2, b3, b4, b5⟩ := i'.fs
  obtain ⟨c1, c2, c3, c4, c5⟩ := i.sc
  obtain ⟨d1, d2, d3, d4, d5⟩ := i'.sc
  refine ⟨?_, by rw [c2, d2, w.tb], by rw [c3, d3, w.most], by rw [c4, d4, w.next], by rw [c5, d5, w.clock]⟩
  rw [e, e', List.map_append, List.map_append, w.fs]
  have : pf (((T.next + 1 : Nat) : Int), x) = pf (((T'.next + 1 : Nat) : Int), x') := by
    unfold pf; rw [a1, a2, a3, a4, a5, b1, b2, b3, b4, b5, w.next, w.clock]
  simp only [List.map_cons, List.map_nil, this]
theorem Tw.upd (w : Tw T T') (e : pf (k, x) = pf (k, x')) (u : UpdT T T1 k x vs) (u' : UpdT T' T1' k x' vs) : Tw T1 T1' := by
  obtain ⟨y, q, a1, a2, a3, a4, a5⟩ := u.fs
  obtain ⟨y', q', b1, b2, b3, b4, b5⟩ := u'.fs
  obtain ⟨c1, c2, c3, c4, c5⟩ := u.sc
  obtain ⟨d1, d2, d3, d4, d5⟩ := u'.sc
  refine ⟨?_, by rw [c2, d2, w.tb], by rw [c3, d3, w.most], by rw [c4, d4, w.next], by rw [c5, d5, w.clock]⟩
  rw [q, q']
  refine up_pf ?_ w.fs
  simp only [pf, PF.mk.injEq] at e
  unfold pf
  rw [a1, a2, a3, a4, a5, b1, b2, b3, b4, b5, e.2.1, e.2.2.1, e.2.2.2.1, e.2.2.2.2.1, e.2.2.2.2.2, w.clock]
theorem Tw.del (w : Tw T T') (d : DelT T T1 k) (d' : DelT T' T1' k) : Tw T1 T1' := by
  obtain ⟨c1, c2, c3, c4, c5⟩ := d.sc
  obtain ⟨d1, d2, d3, d4, d5⟩ := d'.sc
  refine ⟨?_, by rw [c2, d2, w.tb], by rw [c3, d3, w.most], by rw [c4, d4, w.next], by rw [c5, d5, w.clock]⟩
  rw [d.fs, d'.fs]
  exact dl_pf w.fs
end
end Go.Proofs.Ythifmankpcadjaa
namespace Go.Proofs.Ythifmankpcadjaa
open Go.Ab
set_option linter.unusedSimpArgs false
set_option linter.unusedVariables false
mutual
theorem RV.keep {h h' : AHeap} (e : Lt (fun _ => True) h h') : ∀ {a : List AV} {v : Val}, RV h a v → RV h' a v
  | a, .mk k b n t l, H => by
    simp only [RV] at H ⊢
    obtain ⟨lv, es, h1, h2, h3, h4⟩ := H
    exact ⟨lv, es, h1, h2.lt e (fun _ _ => trivial), RVs.keep e h3, h4⟩
theorem RVs.keep {h h' : AHeap} (e : Lt (fun _ => True) h h') : ∀ {es : List (List AV)} {l : List Val}, RVs h es l → RVs h' es l
  | es, [], H => by simp only [RVs] at H ⊢; exact H
  | es, v :: l, H => by
    simp only [RVs] at H ⊢
    obtain ⟨x, r, h1, h2, h3⟩ := H
    exact ⟨x, r, h1, RV.keep e h2, RVs.keep e h3⟩
end
theorem GV.sq {h0 h : AHeap} {v : AV} {l : List (Str × Val)} (G : GV h0 v l) (k0 : h0.Ok) (e : Ext h0 h) : Sq (fun j => j < h0.sz) h v l := fun h' L => by
  have q : Lt (fun _ => True) h0 h' := fun j o _ g => L j o (k0.lt g) (e.2 j o g)
  obtain ⟨es, V, A⟩ := G
  refine ⟨es, V.lt q (fun _ _ => trivial), A.mono fun a p r => ?_⟩
  obtain ⟨c, e, R⟩ := r
  exact ⟨c, e, RV.keep q R⟩
structure OpP where
  d : Int
  cls : Str
  set : List (Str × Val)
  k : Int
  st : Bool
def ROp (h : AHeap) (a : List AV) (p : OpP) : Prop := ∃ sv, a = [.int .i64 p.d, .str p.cls, sv, .int .i64 p.k, .bool p.st] ∧ GV h sv p.set
def OV (h : AHeap) (v : AV) (l : List OpP) : Prop := ∃ es, View h 5 v es ∧ All2 (ROp h) es l
theorem GV.ext {h h' : AHeap} {v : AV} {l : List (Str × Val)} (G : GV h v l) (e : Ext h h') : GV h' v l := let ⟨es, V, A⟩ := G; ⟨es, V.ext e, A.mono fun _ _ ⟨c, q, R⟩ => ⟨c, q, RV.ext e R⟩⟩
theorem ROp.ext {h h' : AHeap} {a : List AV} {p : OpP} (R : ROp h a p) (e : Ext h h') : ROp h' a p := let ⟨sv, q, G⟩ := R; ⟨sv, q, G.ext e⟩
theorem OV.ext {h h' : AHeap} {v : AV} {l : List OpP} (R : OV h v l) (e : Ext h h') : OV h' v l := let ⟨es, V, A⟩ := R; ⟨es, V.ext e, A.mono fun _ _ r => r.ext e⟩
structure Pr (cs : List Cls) (B b : Nat) (h0 h : AHeap) (τ : Nat → Tag) (T T' : SD) (i : Nat) : Prop where
  a : SO B τ 0 h0 h T
  c : SO B τ 1 h0 h T'
  ia : SI cs b T
  ib : SI cs b T'
  tw : Tw T T'
  nx : T.next ≤ i
  ck : T.clock ≤ i
  ml : (T.fs.length : Int) ≤ T.most
  m4 : T.most = 4
structure Fix (cs : List Cls) (B b : Nat) (h0 : AHeap) (tb : AV) : Prop where
  tr : TableRep h0 tb cs
  asc : Asc cs
  len : cs.length ≤ 64
  f62 : ∀ s, (fieldsOf cs s).length ≤ 62
  b1 : 1 ≤ b
  bB : 62 * b ≤ B
  B : B < 100000000
section
variable {cs : List Cls} {B b i n : Nat} {h0 h h' : AHeap} {τ : Nat → Tag} {T T' : SD} {tb sv : AV} {K : Kont} {p : OpP}
theorem Pr.ext (S : Pr cs B b h0 h τ T T' i) (e : Ext h h') (o : h'.Ok) : Pr cs B b h0 h' τ T T' i := ⟨S.a.ext e o, S.c.ext e o, S.ia, S.ib, S.tw, S.nx, S.ck, S.ml, S.m4⟩
theorem Pr.up (S : Pr cs B b h0 h τ T T' i) {j : Nat} (q : i ≤ j) : Pr cs B b h0 h τ T T' j := ⟨S.a, S.c, S.ia, S.ib, S.tw, Nat.le_trans S.nx q, Nat.le_trans S.ck q, S.ml, S.m4⟩
theorem ins_a (S : Pr cs B b h0 h τ T T' i) (X : Fix cs B b h0 tb) (ht : T.tb = tb) (G : GV h0 sv p.set) (hb : ∀ q ∈ p.set, szV q.2 ≤ b) (hi : i < 400000) (hn : 3 * B + 3000000 ≤ n) (hL : n + 200 < lim)
    (kno : ∀ h' (e : Int), Ext h h' → h'.Ok → e ≠ 0 → K (.tup [.int .i64 0, .int .i64 e]) h' = true)
    (kyes : ∀ vs, (idx p.cls (names cs)).isSome → given cs p.cls (ofT T) p.set (zeros (fieldsOf cs p.cls)) = some vs → T.fs.length < T.most → ∀ h' τ' T1, SO B τ' 0 h0 h' T1 → St 0 τ τ' h h' → SI cs b T1 → InsT T T1 p.cls vs p.st → K (.tup [.int .i64 ((T.next + 1 : Nat) : Int), .int .i64 0]) h' = true) :
    callN E (n + 8) (.func 10) [.ptr T.p 0 0 0, .str p.cls, sv, .bool p.st] h K = true :=
  c10 S.a S.ia (by rw [ht]; exact X.tr) X.asc X.len X.f62 (G.sq S.a.k0 S.a.e) (fun j q => by have := S.a.e.1; omega) hb X.b1 X.bB (by have := S.nx; omega) (by have := S.ck; omega) (by have := X.B; omega) (by omega) hL
    (fun _ h' e o => kno h' 10 e o (by decide)) (fun _ _ h' e o => kno h' 11 e o (by decide)) (fun _ _ _ _ h' e o => kno h' 12 e o (by decide)) kyes
theorem ins_b (O : SO B τ 1 h0 h T') (I : SI cs b T') (w : Tw T T') (X : Fix cs B b h0 tb) (ht : T'.tb = tb) (G : GV h0 sv p.set) (hb : ∀ q ∈ p.set, szV q.2 ≤ b) (hnx : T'.next ≤ i) (hck : T'.clock ≤ i) (hi : i < 400000) (hn : 3 * B + 3000000 ≤ n) (hL : n + 200 < lim) {vs : List Val}
    (h1 : (idx p.cls (names cs)).isSome) (h2 : given cs p.cls (ofT T) p.set (zeros (fieldsOf cs p.cls)) = some vs) (h3 : T.fs.length < T.most)
    (kyes : ∀ h' τ' T1, SO B τ' 1 h0 h' T1 → St 1 τ τ' h h' → SI cs b T1 → InsT T' T1 p.cls vs p.st → K (.tup [.int .i64 ((T'.next + 1 : Nat) : Int), .int .i64 0]) h' = true) :
    callN E (n + 8) (.func 10) [.ptr T'.p 0 0 0, .str p.cls, sv, .bool p.st] h K = true := by
  rw [w.of] at h2
  rw [w.len, w.most] at h3
  refine c10 O I (by rw [ht]; exact X.tr) X.asc X.len X.f62 (G.sq O.k0 O.e) (fun j q => by have := O.e.1; omega) hb X.b1 X.bB (by omega) (by omega) (by have := X.B; omega) (by omega) hL (fun q => by rw [q] at h1; cases h1) (fun _ q => by rw [q] at h2; cases h2) (fun _ _ _ q => by omega) fun vs' _ q _ => ?_
  rw [h2] at q; cases q
  exact kyes
end
end Go.Proofs.Ythifmankpcadjaa
namespace Go.Proofs.Ythifmankpcadjaa
open Go.Ab
set_option linter.unusedSimpArgs false
set_option linter.unusedVariables false
section
variable {cs : List Cls} {B b n : Nat} {h0 : AHeap} {tb lv dv nv hv : AV} {mo : Int} {K : Kont} {l : List OpP} {q pa pb : Nat}
theorem l3 (X : Fix cs B b h0 tb) (V1 : Var h0 q [lv, .int .i64 mo, dv, nv, hv]) (D : OV h0 dv l) (hb : ∀ p ∈ l, ∀ q ∈ p.set, szV q.2 ≤ b) (hn : 3 * B + 3000000 ≤ n) (hL : n + 200 < lim)
    (fin : ∀ h τ T T', Pr cs B b h0 h τ T T' 30 → T.tb = tb → T.p = pa → T'.p = pb → p3_98 (callN E (n + 8)) (n + 8) (.ptr q 0 0 0) (.ptr pa 0 0 0) (.ptr pb 0 0 0) (.int .i64 (T.next : Int)) h K = true) :
    ∀ m i h τ T T', 30 - i < m → i ≤ 30 → Pr cs B b h0 h τ T T' i → T.tb = tb → T.p = pa → T'.p = pb →
      l3_38 (callN E (n + 8)) (n + 8) m (.ptr q 0 0 0) (.ptr pa 0 0 0) (.ptr pb 0 0 0) (.int .i64 (T.next : Int)) (.int .i64 (i : Int)) h K = true := by
  have hlm : lim = 4611686018427387904 := rfl
  obtain ⟨es, W, A⟩ := D
  intro m
  induction m with
  | zero => intro i h τ T T' hm; omega
  | succ m ih =>
    intro i h τ T T' hm hi S ht hp hp'
    have e0 := S.a.e
    have V := V1.ext e0
    have A2 : loadA h false 1 (.ptr q 0 0 2) = some dv := V.get rfl
    have len : lenA h 1 dv = some (.int .i64 (l.length : Int)) := by rw [(W.ext e0).len, A.length]
    unfold l3_38 b3_38
    refine z_fadr ?_; refine z_of A2 ?_; refine z_of len ?_; refine z_lss ?_
    by_cases hlt : i < l.length
    rotate_left
    · rw [decide_eq_false (show ¬ (i : Int) < (l.length : Int) by omega)]
      refine z_gft ?_; refine z_gft ?_; refine z_kf ?_; refine z_cF ?_
      exact fin h τ T T' (S.up hi) ht hp hp'
    rw [decide_eq_true (show (i : Int) < (l.length : Int) by omega)]
    refine z_gtt ?_; refine z_some ?_; refine z_gtt ?_; refine z_lss ?_; refine z_kt ?_
    by_cases h30 : i < 30
    rotate_left
    · rw [decide_eq_false (show ¬ (i : Int) < 30 by omega)]
      refine z_cF ?_
      exact fin h τ T T' (S.up hi) ht hp hp'
    rw [decide_eq_true (show (i : Int) < 30 by omega)]
    obtain ⟨ee, he, R⟩ := A.get (List.getElem?_eq_getElem hlt)
    have hbp := hb _ (List.getElem_mem hlt)
    generalize l[i] = p at *
    obtain ⟨sv, rfl, G⟩ := R
    obtain ⟨id, gg, j, u⟩ := W.atE he
    obtain ⟨p1, p2⟩ := u h e0
    have lsv : sv.leaf = true := by obtain ⟨_, w, _⟩ := G; exact w.leaf
    have Lo : loadA h true 5 (.ptr id gg j 0) = some (.agg [.int .i64 p.d, .str p.cls, sv, .int .i64 p.k, .bool p.st]) := by rw [p2]; rfl
    refine z_cT ?_; refine z_fadr ?_; refine z_of A2 ?_; refine z_of (p1 .i64) ?_; refine z_of Lo ?_
    obtain ⟨h1, q1, V2, e1, o1, z1⟩ := alloc_v (z := [AV.int .i64 0, .str [], .nilSlc, .int .i64 0, .bool false]) S.a.ok (by decide) rfl
    refine z_p q1 ?_
    obtain ⟨h2, w2, V3, b3, o2, z2⟩ := V2.wrs o1 (n := 5) (v := .agg [.int .i64 p.d, .str p.cls, sv, .int .i64 p.k, .bool p.st]) rfl rfl (by show allLeaf [.int .i64 p.d, .str p.cls, sv, .int .i64 p.k, .bool p.st] = true; simp only [allLeaf, lsv]; rfl)
    refine z_u w2 ?_
    have V3 : Var h2 h.sz [.int .i64 p.d, .str p.cls, sv, .int .i64 p.k, .bool p.st] := V3
    have e2 : Ext h h2 := b3.ext e1 S.a.ok (Nat.le_refl _)
    have S2 := S.ext e2 o2
    have nx : ∀ h' τ' T1 T1', Pr cs B b h0 h' τ' T1 T1' (i + 1) → T1.tb = tb → T1.p = pa → T1'.p = pb → p3_97 (callN E (n + 8)) (n + 8) (fun x1 x5 x7 x9 x10 h => l3_38 (callN E (n + 8)) (n + 8) m x1 x5 x7 x9 x10 h K) (.ptr q 0 0 0) (.ptr pa 0 0 0) (.ptr pb 0 0 0) (.int .i64 (T1.next : Int)) (.int .i64 (i : Int)) h' K = true := by
      intro h' τ' T1 T1' S1 t1 t2 t3
      unfold p3_97
      refine z_of (inc64 (i := i) (by omega)) ?_
      exact ih (i + 1) h' τ' T1 T1' (by omega) (by omega) S1 t1 t2 t3
    have out : τ h.sz = .out := S.a.hi _ (Nat.le_refl _)
    have a0 : ∀ {g}, Var g h.sz [.int .i64 p.d, .str p.cls, sv, .int .i64 p.k, .bool p.st] → loadA g false 1 (.ptr h.sz 0 0 0) = some (.int .i64 p.d) := fun V => V.get rfl
    have a1 : ∀ {g}, Var g h.sz [.int .i64 p.d, .str p.cls, sv, .int .i64 p.k, .bool p.st] → loadA g false 1 (.ptr h.sz 0 0 1) = some (.str p.cls) := fun V => V.get rfl
    have a2 : ∀ {g}, Var g h.sz [.int .i64 p.d, .str p.cls, sv, .int .i64 p.k, .bool p.st] → loadA g false 1 (.ptr h.sz 0 0 2) = some sv := fun V => V.get rfl
    have a3 : ∀ {g}, Var g h.sz [.int .i64 p.d, .str p.cls, sv, .int .i64 p.k, .bool p.st] → loadA g false 1 (.ptr h.sz 0 0 3) = some (.int .i64 p.k) := fun V => V.get rfl
    have a4 : ∀ {g}, Var g h.sz [.int .i64 p.d, .str p.cls, sv, .int .i64 p.k, .bool p.st] → loadA g false 1 (.ptr h.sz 0 0 4) = some (.bool p.st) := fun V => V.get rfl
    have ht' : T'.tb = tb := by rw [← S.tw.tb]; exact ht
    have hxN := S.nx
    have hxC := S.ck
    have hNb : T'.next = T.next := S.tw.next.symm
    have hCb : T'.clock = T.clock := S.tw.clock.symm
    refine z_fadr ?_; refine z_of (a0 V3) ?_; refine z_eql ?_
    by_cases d0 : p.d = 0
    · rw [decide_eq_true d0]
      refine z_cT ?_; refine z_fadr ?_; refine z_of (a1 V3) ?_; refine z_fadr ?_; refine z_of (a2 V3) ?_; refine z_fadr ?_; refine z_of (a4 V3) ?_
      rw [← hp]
      refine ins_a S2 X ht G hbp (by omega) hn hL (fun h3 e e3 o3 he => ?_) fun vs g1 g2 g3 h3 τ3 T1 P3 s3 I3 N3 => ?_
      · refine z_ext0 ?_; refine z_ext1 ?_; refine z_eql ?_
        rw [decide_eq_false he]
        refine z_cF ?_
        have S3 := (S2.ext e3 o3).up (Nat.le_succ i)
        have := nx h3 τ T T' S3 ht hp hp'
        rw [hp]; exact this
      · refine z_ext0 ?_; refine z_ext1 ?_; refine z_eql ?_
        rw [show decide ((0 : Int) = 0) = true from rfl]
        have V4 := s3.var S2.a V3 out
        refine z_cT ?_; refine z_fadr ?_; refine z_of (a1 V4) ?_; refine z_fadr ?_; refine z_of (a2 V4) ?_; refine z_fadr ?_; refine z_of (a4 V4) ?_
        have Q3 := S2.c.st s3 (by decide)
        rw [← hp']
        refine ins_b Q3 S.ib S.tw X ht' G hbp (i := i) (by omega) (by omega) (by omega) hn hL g1 g2 g3 fun h4 τ4 T1' P4 s4 I4 N4 => ?_
        refine z_ext0 ?_; refine z_ext1 ?_; refine z_neq ?_
        rw [show (!decide ((0 : Int) = 0)) = false from rfl]
        refine z_gff ?_; refine z_some ?_; refine z_gff ?_; refine z_some ?_; refine z_gff ?_; refine z_neq ?_; refine z_kf ?_
        rw [show (!decide (((T'.next + 1 : Nat) : Int) = ((T.next + 1 : Nat) : Int))) = false by rw [hNb]; simp]
        refine z_gff ?_; refine z_some ?_; refine z_gff ?_; refine z_some ?_; refine z_gff ?_; refine z_of (inc64 (i := T.next) (by omega)) ?_; refine z_gff ?_; refine z_neq ?_; refine z_kf ?_
        rw [show (!decide (((T.next + 1 : Nat) : Int) = ((T.next + 1 : Nat) : Int))) = false by simp]
        refine z_cF ?_
        have S4 : Pr cs B b h0 h4 τ4 T1 T1' (i + 1) := ⟨P3.st s4 (by decide), P4, I3, I4, S.tw.ins N3 N4, by rw [N3.sc.2.2.2.1]; omega, by rw [N3.sc.2.2.2.2]; omega, by obtain ⟨x, e, _⟩ := N3.fs; rw [N3.sc.2.2.1, e, List.length_append, List.length_singleton]; omega, by rw [N3.sc.2.2.1]; exact S.m4⟩
        have := nx h4 τ4 T1 T1' S4 (by rw [N3.sc.2.1]; exact ht) (by rw [N3.sc.1]; exact hp) (by rw [N4.sc.1]; exact hp')
        rw [N3.sc.2.2.2.1] at this
        rw [hp, hp']
        exact this
    · rw [decide_eq_false d0]
      refine z_cF ?_; refine z_eql ?_
      by_cases d1 : p.d = 1
      · rw [decide_eq_true d1]
        refine z_cT ?_; refine z_fadr ?_; refine z_of (a3 V3) ?_; refine z_fadr ?_; refine z_of (a2 V3) ?_
        rw [← hp]
        have stay : ∀ h3, Ext h2 h3 → h3.Ok → p3_97 (callN E (n + 8)) (n + 8) (fun x1 x5 x7 x9 x10 h => l3_38 (callN E (n + 8)) (n + 8) m x1 x5 x7 x9 x10 h K) (.ptr q 0 0 0) (.ptr T.p 0 0 0) (.ptr pb 0 0 0) (.int .i64 (T.next : Int)) (.int .i64 (i : Int)) h3 K = true := fun h3 e3 o3 => by
          rw [hp]; exact nx h3 τ T T' ((S2.ext e3 o3).up (Nat.le_succ i)) ht hp hp'
        refine c11 S2.a S.ia (by rw [ht]; exact X.tr) X.asc X.len X.f62 (G.sq S2.a.k0 S2.a.e) (fun j w => by have := S2.a.e.1; omega) hbp X.bB (by omega) (by omega) X.B (by omega) hL ?_ ?_ ?_ ?_
        · intro hx
          refine z_ext0 ?_; refine z_ext1 ?_; refine z_eql ?_
          rw [show decide ((7 : Int) = 0) = false from rfl]
          refine z_gft ?_; refine z_gft ?_; refine z_kf ?_; refine z_cF ?_
          exact stay h2 (Ext.refl _) o2
        · intro x hx hg h3 e3 o3
          refine z_ext0 ?_; refine z_ext1 ?_; refine z_eql ?_
          rw [show decide ((11 : Int) = 0) = false from rfl]
          refine z_gft ?_; refine z_gft ?_; refine z_kf ?_; refine z_cF ?_
          exact stay h3 e3 o3
        · intro x hx hg h3 e3 o3
          refine z_ext0 ?_; refine z_ext1 ?_; refine z_eql ?_
          rw [show decide ((0 : Int) = 0) = true from rfl]
          refine z_gtt ?_; refine z_some ?_; refine z_gtt ?_; refine z_neq ?_; refine z_kt ?_
          rw [show (!decide ((0 : Int) = 0)) = false from rfl]
          refine z_cF ?_
          exact stay h3 e3 o3
        · intro x vs hx hg hvl hne h3 τ3 T1 P3 s3 I3 N3
          have hdz : ¬ ((dm x.vs vs vs.length : Nat) : Int) = 0 := fun w => hne ((dm_zero hvl.symm).1 (by omega))
          refine z_ext0 ?_; refine z_ext1 ?_; refine z_eql ?_
          rw [show decide ((0 : Int) = 0) = true from rfl]
          refine z_gtt ?_; refine z_some ?_; refine z_gtt ?_; refine z_neq ?_; refine z_kt ?_
          rw [decide_eq_false hdz, Bool.not_false]
          have V4 := s3.var S2.a V3 out
          refine z_cT ?_; refine z_fadr ?_; refine z_of (a3 V4) ?_; refine z_fadr ?_; refine z_of (a2 V4) ?_
          have Q3 := S2.c.st s3 (by decide)
          obtain ⟨x', hx', epf⟩ := S.tw.lk hx
          have epf2 := epf
          simp only [pf, PF.mk.injEq] at epf2
          rw [← hp']
          refine c11 Q3 S.ib (by rw [ht']; exact X.tr) X.asc X.len X.f62 (G.sq Q3.k0 Q3.e) (fun j w => by have := Q3.e.1; omega) hbp X.bB (by omega) (by omega) X.B (by omega) hL ?_ ?_ ?_ ?_
          · intro w; rw [hx'] at w; cases w
          · intro y hy hg'
            rw [hx'] at hy; cases hy
            rw [← S.tw.of, ← epf2.2.1, ← epf2.2.2.1, hg] at hg'; cases hg'
          · intro y hy hg'
            rw [hx'] at hy; cases hy
            rw [← S.tw.of, ← epf2.2.1, ← epf2.2.2.1, hg] at hg'
            exact absurd (Option.some.inj hg').symm hne
          · intro y vs' hy hg' hvl' hne' h4 τ4 T1' P4 s4 I4 N4
            rw [hx'] at hy; cases hy
            rw [← S.tw.of, ← epf2.2.1, ← epf2.2.2.1, hg] at hg'
            cases hg'
            rw [← epf2.2.2.1]
            refine z_ext0 ?_; refine z_ext1 ?_; refine z_neq ?_
            rw [show (!decide ((0 : Int) = 0)) = false from rfl]
            refine z_gff ?_; refine z_some ?_; refine z_gff ?_; refine z_some ?_; refine z_gff ?_; refine z_neq ?_; refine z_kf ?_
            rw [show (!decide (((dm x.vs vs vs.length : Nat) : Int) = ((dm x.vs vs vs.length : Nat) : Int))) = false by simp]
            refine z_cF ?_
            have S4 : Pr cs B b h0 h4 τ4 T1 T1' (i + 1) := ⟨P3.st s4 (by decide), P4, I3, I4, S.tw.upd epf N3 N4, by rw [N3.sc.2.2.2.1]; omega, by rw [N3.sc.2.2.2.2]; omega, by obtain ⟨y, e, _⟩ := N3.fs; rw [N3.sc.2.2.1, e, upG_length hx]; exact S.ml, by rw [N3.sc.2.2.1]; exact S.m4⟩
            have := nx h4 τ4 T1 T1' S4 (by rw [N3.sc.2.1]; exact ht) (by rw [N3.sc.1]; exact hp) (by rw [N4.sc.1]; exact hp')
            rw [N3.sc.2.2.2.1] at this
            rw [hp, hp']
            exact this
      · rw [decide_eq_false d1]
        refine z_cF ?_; refine z_fadr ?_; refine z_of (a3 V3) ?_
        rw [← hp]
        refine c12 S2.a S.ia (by omega) (by omega) (by have := X.B; omega) (by omega) hL ?_ ?_
        · intro hx
          refine z_eql ?_
          rw [show decide ((7 : Int) = 0) = false from rfl]
          refine z_gft ?_; refine z_gft ?_; refine z_gft ?_; refine z_rft ?_; refine z_gft ?_; refine z_kf ?_; refine z_cF ?_
          rw [hp]; exact nx h2 τ T T' (S2.up (Nat.le_succ i)) ht hp hp'
        · intro x hx h3 τ3 T1 P3 s3 I3 N3
          refine z_eql ?_
          rw [show decide ((0 : Int) = 0) = true from rfl]
          have V4 := s3.var S2.a V3 out
          refine z_gtt ?_; refine z_some ?_; refine z_gtt ?_; refine z_fadr ?_; refine z_gtt ?_; refine z_of (a3 V4) ?_; refine z_rtt ?_
          have Q3 := S2.c.st s3 (by decide)
          obtain ⟨x', hx', epf⟩ := S.tw.lk hx
          rw [← hp']
          refine c12 Q3 S.ib (by omega) (by omega) (by have := X.B; omega) (by omega) hL ?_ ?_
          · intro w; rw [hx'] at w; cases w
          · intro y hy h4 τ4 T1' P4 s4 I4 N4
            refine z_gtt ?_; refine z_neq ?_; refine z_kt ?_
            rw [show (!decide ((0 : Int) = 0)) = false from rfl]
            refine z_cF ?_
            have S4 : Pr cs B b h0 h4 τ4 T1 T1' (i + 1) := ⟨P3.st s4 (by decide), P4, I3, I4, S.tw.del N3 N4, by rw [N3.sc.2.2.2.1]; omega, by rw [N3.sc.2.2.2.2]; omega, by have := (dlG_sub (k := p.k) (l := T.fs)).length_le; have := S.ml; rw [N3.sc.2.2.1, N3.fs]; omega, by rw [N3.sc.2.2.1]; exact S.m4⟩
            have := nx h4 τ4 T1 T1' S4 (by rw [N3.sc.2.1]; exact ht) (by rw [N3.sc.1]; exact hp) (by rw [N4.sc.1]; exact hp')
            rw [N3.sc.2.2.2.1] at this
            rw [hp, hp']
            exact this
end
end Go.Proofs.Ythifmankpcadjaa
namespace Go.Proofs.Ythifmankpcadjaa
open Go.Ab
set_option linter.unusedSimpArgs false
set_option linter.unusedVariables false
theorem c7 {n : Nat} {h : AHeap} {K : Kont} (k : K (.bool true) h = true) : callN E (n + 1) (.func 7) [] h K = true := k
theorem gv_nil (h : AHeap) : GV h .nilSlc [] := ⟨[], View.nil _ _, .nil⟩
theorem given_nil (cs : List Cls) (nm : Str) (of : Int → Option Str) (vs : List Val) : given cs nm of [] vs = some vs := rfl
section
variable {cs : List Cls} {B b n : Nat} {h0 h : AHeap} {τ : Nat → Tag} {T T' : SD} {tb lv dv nv hv : AV} {mo : Int} {K : Kont} {q : Nat}
theorem p98 (X : Fix cs B b h0 tb) (V1 : Var h0 q [lv, .int .i64 mo, dv, nv, hv]) (C : CV h0 lv cs) (hn : 3 * B + 3000000 ≤ n) (hL : n + 200 < lim) (S : Pr cs B b h0 h τ T T' 30) (ht : T.tb = tb) (hm : T.most = 4)
    (kk : ∀ h, K (.bool true) h = true) : p3_98 (callN E (n + 8)) (n + 8) (.ptr q 0 0 0) (.ptr T.p 0 0 0) (.ptr T'.p 0 0 0) (.int .i64 (T.next : Int)) h K = true := by
  have hlm : lim = 4611686018427387904 := rfl
  have hB := X.B
  have hxN := S.nx
  have hxC := S.ck
  unfold p3_98
  refine c14 (n := n + 5) S.a S.ia X.f62 (by omega) hB (by omega) (by omega) fun h1 v1 e1 o1 F1 => ?_
  have S1 := S.ext e1 o1
  have hNb : T'.next = T.next := S.tw.next.symm
  refine c14 (n := n + 5) S1.c S.ib X.f62 (by omega) hB (by omega) (by omega) fun h2 v2 e2 o2 F2 => ?_
  have S2 := S1.ext e2 o2
  have fl := S.ia.fslen S.a
  refine c13 (n := n + 7) (b := 100000 + B) (F1.ext e2) F2 o2 (fun f hf => ?_) (by omega) (by rw [List.length_map]; omega) (by rw [List.length_map]; omega) (by omega) fun h3 r e3 o3 hr => ?_
  · obtain ⟨⟨k, x⟩, hk, rfl⟩ := List.mem_map.1 hf
    obtain ⟨c1, c2, c3, c4⟩ := S.ia.fc k x hk
    have := (S.a.f k x hk).sz
    have := X.f62 x.cls
    exact ⟨by show szVs x.vs ≤ _; omega, by show x.stamps.length ≤ _; omega⟩
  have S3 := S2.ext e3 o3
  rw [hr.2 S.tw.fs]
  refine z_notT ?_; refine z_gff ?_; refine z_some ?_; refine z_rff ?_
  refine c15 S3.a ?_
  refine z_gff ?_; refine z_some ?_; refine z_rff ?_
  refine c15 S3.c ?_
  refine z_gff ?_; refine z_neq ?_; refine z_kf ?_
  rw [show (!decide ((T.clock : Int) = (T'.clock : Int))) = false by rw [S.tw.clock]; simp]
  refine z_gff ?_; refine z_some ?_; refine z_rff ?_
  refine c16 S3.a ?_
  have ml := S.ml
  rw [hm] at ml
  refine z_gff ?_; refine z_gtr ?_; refine z_kf ?_
  rw [decide_eq_false (show ¬ (4 : Int) < (T.fs.length : Int) by omega)]
  refine z_cF ?_
  refine c16 S3.a ?_
  refine z_eql ?_
  have kw : ∀ h, callN E (n + 8) (.func 7) [] h (fun v h => K v h) = true := fun h => c7 (n := n + 7) (kk h)
  by_cases h4 : (T.fs.length : Int) = 4
  rotate_left
  · rw [decide_eq_false h4]
    refine z_gft ?_; refine z_gft ?_; refine z_gft ?_; refine z_gft ?_; refine z_kf ?_; refine z_cF ?_
    exact kw h3
  rw [decide_eq_true h4]
  have W3 := V1.ext S3.a.e
  have A0 : ∀ {g}, Ext h0 g → loadA g false 1 (.ptr q 0 0 0) = some lv := fun e => (V1.ext e).get rfl
  have hl0 : ∀ {g}, Ext h0 g → lenA g 1 lv = some (.int .i64 (cs.length : Int)) := fun e => by
    obtain ⟨es, W, A⟩ := C.ext e; rw [W.len, A.length]
  refine z_gtt ?_; refine z_fadr ?_; refine z_gtt ?_; refine z_of (A0 S3.a.e) ?_; refine z_gtt ?_; refine z_of (hl0 S3.a.e) ?_; refine z_gtt ?_; refine z_gtr ?_; refine z_kt ?_
  by_cases h0c : (0 : Int) < (cs.length : Int)
  rotate_left
  · rw [decide_eq_false h0c]
    refine z_cF ?_
    exact kw h3
  rw [decide_eq_true h0c]
  obtain ⟨c, hc⟩ : ∃ c, cs[0]? = some c := ⟨cs[0]'(by omega), List.getElem?_eq_getElem (by omega)⟩
  have at0 : ∀ {g}, Ext h0 g → ∃ id g' j, iadrA g 3 lv (.int .i64 0) = some (.ptr id g' j 0) ∧ loadA g false 1 (.ptr id g' j 0) = some (.str c.name) := fun e => by
    obtain ⟨id, g', j, f, y1, y2, y3, _⟩ := C.at2 e hc
    exact ⟨id, g', j, y1, y3⟩
  have his : (idx c.name (names cs)).isSome := by
    cases hh : idx c.name (names cs) with
    | some _ => rfl
    | none => exact absurd (List.mem_map.2 ⟨c, List.mem_of_getElem? hc, rfl⟩) (idx_none.1 hh)
  obtain ⟨id, g', j, y1, y2⟩ := at0 S3.a.e
  refine z_cT ?_; refine z_fadr ?_; refine z_of (A0 S3.a.e) ?_; refine z_of y1 ?_; refine z_fadr ?_; refine z_of y2 ?_
  have TR : ∀ {T1 : SD}, T1.tb = tb → TableRep h0 T1.tb cs := fun e => by rw [e]; exact X.tr
  refine c10 (Q := fun j => j < h0.sz) S3.a S.ia (TR ht) X.asc X.len X.f62 ((gv_nil h0).sq S3.a.k0 S3.a.e) (fun j q => by have := S3.a.e.1; omega) (fun p hp => by cases hp) X.b1 X.bB (by omega) (by omega) (by omega) (by omega) hL (fun w => by rw [w] at his; cases his) (fun _ w => by rw [given_nil] at w; cases w) (fun vs _ _ _ h4' e4 o4 => ?_) (fun vs _ _ w => by rw [hm] at w; omega)
  have S4 := S3.ext e4 o4
  refine z_ext0 ?_; refine z_ext1 ?_
  refine c14 (n := n + 5) S4.a S.ia X.f62 (by omega) hB (by omega) (by omega) fun h5 v5 e5 o5 F5 => ?_
  have S5 := S4.ext e5 o5
  obtain ⟨k, x, hkx⟩ : ∃ k x, T.fs[0]? = some (k, x) := ⟨(T.fs[0]'(by omega)).1, (T.fs[0]'(by omega)).2, List.getElem?_eq_getElem (by omega)⟩
  have hk : lkG T.fs k = some x := lkG_of_mem S.a.nf (List.mem_of_getElem? hkx)
  obtain ⟨es5, W5, A5⟩ := F5
  obtain ⟨ee, he, vv, sv, hee, _⟩ := A5.get (i := 0) (b := pf (k, x)) (by rw [List.getElem?_map, hkx]; rfl)
  obtain ⟨id5, g5, j5, p1, p2⟩ := W5.at he
  have p1 : iadrA h5 6 v5 (.int .i64 0) = some (.ptr id5 g5 j5 0) := p1 .i64
  have B0 : loadA h5 false 1 (.ptr id5 g5 j5 0) = some (.int .i64 k) := by rw [p2, hee]; rfl
  refine z_of p1 ?_; refine z_fadr ?_; refine z_of B0 ?_
  refine c12 S5.a S.ia (by omega) (by omega) (by omega) (by omega) hL (fun w => by rw [hk] at w; cases w) fun y hy h6 τ6 T1 P6 s6 I6 D6 => ?_
  obtain ⟨d1, d2, d3, d4, d5⟩ := D6.sc
  obtain ⟨id6, g6, j6, y61, y62⟩ := at0 P6.e
  refine z_fadr ?_; refine z_of (A0 P6.e) ?_; refine z_of y61 ?_; refine z_fadr ?_; refine z_of y62 ?_
  have len1 : (dlG T.fs k).length + 1 = T.fs.length := dlG_len hk
  rw [← d1]
  refine c10 (Q := fun j => j < h0.sz) P6 I6 (TR (by rw [d2]; exact ht)) X.asc X.len X.f62 ((gv_nil h0).sq P6.k0 P6.e) (fun j q => by have := P6.e.1; omega) (fun p hp => by cases hp) X.b1 X.bB (by omega) (by omega) (by omega) (by omega) hL (fun w => by rw [w] at his; cases his) (fun _ w => by rw [given_nil] at w; cases w) (fun vs _ _ w => by rw [d3, hm, D6.fs] at w; omega) fun vs _ _ _ h7 τ7 T2 P7 s7 I7 N7 => ?_
  refine z_ext0 ?_; refine z_ext1 ?_; refine z_eql ?_
  rw [show decide ((12 : Int) = 12) = true from rfl, d4]
  refine z_gtt ?_; refine z_some ?_; refine z_gtt ?_; refine z_eql ?_; refine z_kt ?_
  rw [show decide ((0 : Int) = 0) = true from rfl]
  refine z_gtt ?_; refine z_some ?_; refine z_gtt ?_; refine z_eql ?_; refine z_kt ?_
  rw [show decide ((0 : Int) = 0) = true from rfl]
  refine z_gtt ?_; refine z_some ?_; refine z_gtt ?_; refine z_some ?_; refine z_gtt ?_; refine z_of (inc64 (i := T.next) (by omega)) ?_; refine z_gtt ?_; refine z_eql ?_; refine z_kt ?_
  rw [show decide (((T.next + 1 : Nat) : Int) = ((T.next + 1 : Nat) : Int)) = true by simp]
  refine z_rtt ?_
  refine c7 (n := n + 7) ?_
  refine z_kt ?_
  exact kk h7
end
end Go.Proofs.Ythifmankpcadjaa
namespace Go.Proofs.Ythifmankpcadjaa
open Go.Ab
set_option linter.unusedSimpArgs false
set_option linter.unusedVariables false
theorem addAny (x y : Int) : ∃ z, binA .add (.int .i64 x) (.int .i64 y) = some (.int .i64 z) := ⟨_, by rw [binA_ints _ _ _ _ rfl]; rfl⟩
section
variable {cs : List Cls} {b n : Nat} {h : AHeap} {lv dv nv hv : AV} {mo : Int} {K : Kont} {l : List OpP} {q : Nat}
theorem l35 {B23 : F3} {i : Nat} {sv : AV} {p : OpP} (hs : h.Ok) (V1 : Var h q [lv, .int .i64 mo, dv, nv, hv]) (D : OV h dv l) (hp : l[i]? = some p) (hb : ∀ p ∈ l, (∀ q ∈ p.set, szV q.2 ≤ b) ∧ p.set.length ≤ n) (hn : b + 200 ≤ n) (hL : n + 10 < lim) (hi : i < 1000)
    (kk : ∀ z h', Ext h h' → h'.Ok → B23 (.ptr q 0 0 0) (.int .i64 z) (.int .i64 ((i + 1 : Nat) : Int)) h' = true) :
    ∀ m j x g, p.set.length - j < m → j ≤ p.set.length → Ext h g → g.Ok → l6_35 (callN E (n + 2)) (n + 2) B23 m (.ptr q 0 0 0) (.int .i64 x) (.int .i64 (i : Int)) (.int .i64 (j : Int)) g K = true := by
  have hlm : lim = 4611686018427387904 := rfl
  obtain ⟨es, W, A⟩ := D
  obtain ⟨ee, he, sv, rfl, G⟩ := A.get hp
  obtain ⟨hb1, hb2⟩ := hb p (List.mem_of_getElem? hp)
  obtain ⟨id, gg, jj, u⟩ := W.atE he
  intro m
  induction m with
  | zero => intro j x g hm; omega
  | succ m ih =>
    intro j x g hm hj e o
    have A2 : loadA g false 1 (.ptr q 0 0 2) = some dv := (V1.ext e).get rfl
    obtain ⟨p1, p2⟩ := u g e
    have L2 : loadA g false 1 (.ptr id gg jj 2) = some sv := by rw [p2]; rfl
    obtain ⟨es6, W6, A6⟩ := G.ext e
    have len : lenA g 1 sv = some (.int .i64 (p.set.length : Int)) := by rw [W6.len, A6.length]
    unfold l6_35 b6_35
    refine z_fadr ?_; refine z_of A2 ?_; refine z_of (p1 .i64) ?_; refine z_fadr ?_; refine z_of L2 ?_; refine z_of len ?_; refine z_lss ?_
    by_cases hlt : j < p.set.length
    · refine z_ct (decide_eq_true (by omega)) ?_
      obtain ⟨e6, he6, c, rfl, Rc⟩ := A6.get (List.getElem?_eq_getElem hlt)
      have hbq := hb1 _ (List.getElem_mem hlt)
      obtain ⟨id6, g6, j6, y1, y2⟩ := W6.at he6
      obtain ⟨z, az⟩ := addAny x 1
      have hc5 := Rc.len5
      have L5 : loadA g true 5 (.ptr id6 g6 j6 1) = some (.agg c) := by
        rw [y2]
        simp only [partA, cond_true, List.length_cons, hc5]
        rw [nble_true.2 (Nat.le_refl 6), cond_true, List.drop_succ_cons, List.drop_zero, List.take_of_length_le (by omega)]
      refine z_of az ?_; refine z_fadr ?_; refine z_of A2 ?_; refine z_of (p1 .i64) ?_; refine z_fadr ?_; refine z_of L2 ?_; refine z_of (y1 .i64) ?_; refine z_fadr ?_; refine z_of L5 ?_
      obtain ⟨r1, r2, r3, r4⟩ := Rc.agg
      obtain ⟨w', g3, b1, b2, e3, o3, z3, _⟩ := bslice1_v (sz := 5) (z := [AV.int .i64 0, .bool false, .int .i64 0, .str [], .nilSlc]) (v := .agg c) o rfl (by decide) (by decide) rfl r2 r3
      rw [r4] at b2
      refine z_p b1 ?_
      have VVw : VV g3 w' [(p.set[j]).2] := ⟨[c], b2, .cons (RV.ext e3 Rc) .nil⟩
      refine u24 (n := n) VVw (by simp only [szVs]; omega) (by omega) fun y => ?_
      obtain ⟨z2, az2⟩ := addAny z y
      refine z_of az2 ?_; refine z_of (inc64 (i := j) (by omega)) ?_
      exact ih (j + 1) z2 g3 (by omega) (by omega) (ext_two e e3) o3
    · refine z_cf (decide_eq_false (by omega)) ?_
      unfold p6_46
      refine z_of (inc64 (i := i) (by omega)) ?_
      exact kk x g e o
theorem c6 (hs : h.Ok) (C : CV h lv cs) (D : OV h dv l) (hlf : allLeaf [lv, .int .i64 mo, dv, nv, hv] = true) (hb : ∀ p ∈ l, (∀ q ∈ p.set, szV q.2 ≤ b) ∧ p.set.length ≤ n) (hcl : cs.length ≤ n) (hn : b + 200 ≤ n) (hL : n + 10 < lim)
    (kk : ∀ c h', Ext h h' → h'.Ok → K (.bool c) h' = true) : callN E (n + 3) (.func 6) [.agg [lv, .int .i64 mo, dv, nv, hv]] h K = true := by
  have hlm : lim = 4611686018427387904 := rfl
  apply d6
  unfold s6
  obtain ⟨h1, q1, V1, e1, o1, z1⟩ := box_v (n := 5) (v := .agg [lv, .int .i64 mo, dv, nv, hv]) hs rfl (by decide) hlf
  have V1 : Var h1 h.sz [lv, .int .i64 mo, dv, nv, hv] := V1
  refine z_p q1 ?_
  have ops : ∀ (m i : Nat) (x : Int) (g : AHeap), 100 - i < m → i ≤ 100 → Ext h1 g → g.Ok → l6_23 (callN E (n + 2)) (n + 2) m (.ptr h.sz 0 0 0) (.int .i64 x) (.int .i64 (i : Int)) g K = true := by
    intro m
    induction m with
    | zero => intro i x g hm; omega
    | succ m ih =>
      intro i x g hm hi e o
      have A2 : loadA g false 1 (.ptr h.sz 0 0 2) = some dv := (V1.ext e).get rfl
      have Dg := (D.ext e1).ext e
      have len : lenA g 1 dv = some (.int .i64 (l.length : Int)) := by obtain ⟨es, W, A⟩ := Dg; rw [W.len, A.length]
      have fin : p6_47 (callN E (n + 2)) (n + 2) (.int .i64 x) g K = true := by
        unfold p6_47
        refine z_leq ?_
        exact kk _ g (ext_two e1 e) o
      unfold l6_23 b6_23
      refine z_fadr ?_; refine z_of A2 ?_; refine z_of len ?_; refine z_lss ?_
      by_cases hlt : i < l.length
      rotate_left
      · rw [decide_eq_false (show ¬ (i : Int) < (l.length : Int) by omega)]
        refine z_gft ?_; refine z_gft ?_; refine z_kf ?_; refine z_cF ?_
        exact fin
      rw [decide_eq_true (show (i : Int) < (l.length : Int) by omega)]
      refine z_gtt ?_; refine z_some ?_; refine z_gtt ?_; refine z_lss ?_; refine z_kt ?_
      by_cases h100 : i < 100
      rotate_left
      · rw [decide_eq_false (show ¬ (i : Int) < 100 by omega)]
        refine z_cF ?_
        exact fin
      rw [decide_eq_true (show (i : Int) < 100 by omega)]
      refine z_cT ?_
      unfold p6_30
      obtain ⟨hb1, hb2⟩ := hb _ (List.getElem_mem hlt)
      exact l35 (sv := dv) o (V1.ext e) Dg (List.getElem?_eq_getElem hlt) hb hn hL (by omega) (fun z h' e' o' => ih (i + 1) z h' (by omega) (by omega) (ext_two e e') o') (n + 2) 0 x g (by omega) (Nat.zero_le _) (Ext.refl _) o
  have cls : ∀ (m i : Nat) (x : Int), cs.length - i < m → i ≤ cs.length → l6_8 (callN E (n + 2)) (n + 2) m (.ptr h.sz 0 0 0) (.int .i64 x) (.int .i64 (i : Int)) h1 K = true := by
    intro m
    induction m with
    | zero => intro i x hm; omega
    | succ m ih =>
      intro i x hm hi
      have A0 : loadA h1 false 1 (.ptr h.sz 0 0 0) = some lv := V1.get rfl
      have len : lenA h1 1 lv = some (.int .i64 (cs.length : Int)) := by obtain ⟨es, W, A⟩ := C.ext e1; rw [W.len, A.length]
      unfold l6_8 b6_8
      refine z_fadr ?_; refine z_of A0 ?_; refine z_of len ?_; refine z_lss ?_
      by_cases hlt : i < cs.length
      · refine z_ct (decide_eq_true (by omega)) ?_
        obtain ⟨id, g', j, f, y1, y2, y3, y4, y5, y6⟩ := C.at2 e1 (List.getElem?_eq_getElem hlt)
        obtain ⟨z, az⟩ := addAny x 1
        obtain ⟨z2, az2⟩ := addAny z (((cs[i]).fields.map encF).length : Int)
        refine z_of az ?_; refine z_fadr ?_; refine z_of A0 ?_; refine z_of y1 ?_; refine z_fadr ?_; refine z_of y5 ?_; refine z_of (y6.ext e1).len ?_; refine z_of az2 ?_; refine z_of (inc64 (i := i) (by omega)) ?_
        exact ih (i + 1) z2 (by omega) (by omega)
      · refine z_cf (decide_eq_false (by omega)) ?_
        unfold p6_19
        exact ops (n + 2) 0 x h1 (by omega) (by omega) (Ext.refl _) o1
  exact cls (n + 2) 0 0 (by omega) (Nat.zero_le _)
end
end Go.Proofs.Ythifmankpcadjaa
namespace Go.Proofs.Ythifmankpcadjaa
open Go.Ab
set_option linter.unusedSimpArgs false
set_option linter.unusedVariables false
theorem SI.nil {cs : List Cls} {b : Nat} {T : SD} (h1 : T.fs = []) (h2 : T.all.l = []) (h3 : T.by' = []) (h4 : T.same = []) : SI cs b T := by
  refine ⟨(by rw [h1]; exact .nil), fun k x q => (by rw [h1] at q; cases q), fun i y => ?_, fun k x q => (by rw [h1] at q; cases q)⟩
  constructor
  · rintro ⟨r, e, q⟩
    cases i with
    | all => cases e; rw [h2] at q; cases q
    | c s => simp only [SD.row, h3, lkG] at e; cases e
    | k s => simp only [SD.row, h4, lkG] at e; cases e
  · rintro ⟨x, e, _⟩
    rw [h1] at e; cases e
section
variable {cs : List Cls} {B b n : Nat} {h : AHeap} {lv dv nv hv : AV} {mo : Int} {K : Kont} {l : List OpP}
theorem c3 (hs : h.Ok) (C : CV h lv cs) (D : OV h dv l) (hlf : allLeaf [lv, .int .i64 mo, dv, nv, hv] = true) (hb : ∀ p ∈ l, (∀ q ∈ p.set, szV q.2 ≤ b) ∧ p.set.length ≤ n) (hcl : cs.length ≤ n) (b1 : 1 ≤ b) (bB : 62 * b ≤ B) (hB : B < 100000000) (hn : 3 * B + 3000000 ≤ n) (hL : n + 300 < lim)
    (hnm : ∀ c ∈ cs, c.name.length ≤ n ∧ ∀ f ∈ c.fields, f.name.length ≤ n)
    (kk : ∀ h, K (.bool true) h = true) : callN E (n + 9) (.func 3) [.agg [lv, .int .i64 mo, dv, nv, hv]] h K = true := by
  have hlm : lim = 4611686018427387904 := rfl
  apply d3
  unfold s3
  obtain ⟨h1, q1, V1, e1, o1, z1⟩ := box_v (n := 5) (v := .agg [lv, .int .i64 mo, dv, nv, hv]) hs rfl (by decide) hlf
  have V1 : Var h1 h.sz [lv, .int .i64 mo, dv, nv, hv] := V1
  refine z_p q1 ?_
  have A : loadA h1 true 5 (.ptr h.sz 0 0 0) = some (.agg [lv, .int .i64 mo, dv, nv, hv]) := V1.all rfl
  have kw : ∀ h, callN E (n + 8) (.func 7) [] h (fun v h => K v h) = true := fun h => c7 (n := n + 7) (kk h)
  refine z_of A ?_
  refine c6 (n := n + 5) o1 (C.ext e1) (D.ext e1) hlf (fun p hp => ⟨(hb p hp).1, by have := (hb p hp).2; omega⟩) (by omega) (by omega) (by omega) fun c h2 e2 o2 => ?_
  cases c with
  | false =>
    refine z_notF ?_; refine z_cT ?_
    exact kw h2
  | true =>
    refine z_notT ?_; refine z_cF ?_
    unfold p3_10
    have A0 : loadA h2 false 1 (.ptr h.sz 0 0 0) = some lv := (V1.ext e2).get rfl
    refine z_fadr ?_; refine z_of A0 ?_
    have C2 := (C.ext e1).ext e2
    refine u11 (n := n + 2) o2 C2 ⟨by omega, by omega, fun c hc => ⟨by have := (hnm c hc).1; omega, fun f hf => by have := (hnm c hc).2 f hf; omega⟩⟩ (fun _ h3 e3 o3 => ?_) fun hv' G h3 t e3 o3 TR => ?_
    · refine z_ext0 ?_; refine z_ext1 ?_; refine z_neq ?_
      rw [show (!decide ((10 : Int) = 0)) = true from rfl]
      refine z_gtf ?_; refine z_gtf ?_; refine z_kt ?_; refine z_cT ?_
      exact kw h3
    obtain ⟨tid, tl, tm, rfl, _, _, _⟩ := id TR
    refine z_ext0 ?_; refine z_ext1 ?_; refine z_neq ?_
    rw [show (!decide ((0 : Int) = 0)) = false from rfl]
    refine z_gff ?_; refine z_some ?_; refine z_gff ?_; refine z_eqp ?_; refine z_kf ?_; refine z_cF ?_
    unfold p3_20
    have X : Fix cs B b h3 (.ptr tid 0 0 0) := ⟨TR, G.asc, by
      have := hv'
      unfold valid at this
      simp only [Bool.and_eq_true, decide_eq_true_eq] at this
      exact this.1, fields62 hv' G, b1, bB, hB⟩
    refine c9 (B := B) (τ := fun _ => .out) (o := 0) (n := n + 6) o3 o3 (Ext.refl _) (fun _ _ => rfl) (fun _ _ => rfl) (fun w => absurd (by decide) w) fun _ _ h4 τ4 T P4 s4 a1 a2 a3 a4 a5 a6 a7 a8 => ?_
    refine z_ext0 ?_; refine z_ext1 ?_
    refine c9 (B := B) (τ := τ4) (o := 1) (n := n + 6) P4.ok o3 P4.e P4.t0 P4.hi (fun w => absurd (by decide) w) fun _ _ h5 τ5 T' P5 s5 b1' b2 b3 b4 b5 b6 b7 b8 => ?_
    refine z_ext0 ?_; refine z_ext1 ?_; refine z_neq ?_
    rw [show (!decide ((0 : Int) = 0)) = false from rfl]
    refine z_gff ?_; refine z_some ?_; refine z_gff ?_; refine z_neq ?_; refine z_kf ?_
    unfold p3_32
    have S : Pr cs B b h3 h5 τ5 T T' 0 := ⟨P4.st s5 (by decide), P5, SI.nil a5 a6 a7 a8, SI.nil b5 b6 b7 b8, ⟨by rw [a5, b5], by rw [a1, b1'], by rw [a2, b2], by rw [a3, b3], by rw [a4, b4]⟩, by omega, by omega, by rw [a5, a2]; decide, a2⟩
    have V3 : Var h3 h.sz [lv, .int .i64 mo, dv, nv, hv] := (V1.ext e2).ext e3
    have e03 := ext_two (ext_two e1 e2) e3
    have fin := l3 (K := K) (n := n) (pa := T.p) (pb := T'.p) X V3 (D.ext e03) (fun p hp => (hb p hp).1) hn (by omega) (fun h6 τ6 T6 T6' S6 t1 t2 t3 => by
      rw [← t2, ← t3]
      exact p98 X V3 (C.ext e03) hn (by omega) S6 t1 S6.m4 kk) (n + 8) 0 h5 τ5 T T' (by omega) (by omega) S a1 rfl rfl
    rw [a3] at fin
    exact fin
end
end Go.Proofs.Ythifmankpcadjaa
namespace Go.Proofs.Ythifmankpcadjaa
open Go.Ab
set_option linter.unusedSimpArgs false
set_option linter.unusedVariables false
mutual
theorem bulk_eq {H : Type} : ∀ (d : DataW H), Rows.uptoBulk d = bulk d
  | .lit l => by cases l <;> simp [Rows.uptoBulk, bulk]
  | .nil => by simp [Rows.uptoBulk, bulk]
  | .ptr d => by simp [Rows.uptoBulk, bulk, bulk_eq d]
  | .slice a b => by simp [Rows.uptoBulk, bulk, bulkAll_eq a, bulkAll_eq b]
  | .agg a => by simp [Rows.uptoBulk, bulk, bulkAll_eq a]
  | .iface _ d => by simp [Rows.uptoBulk, bulk, bulk_eq d]
  | .map es => by simp [Rows.uptoBulk, bulk, bulkEntries_eq es]
  | .held _ => by simp [Rows.uptoBulk, bulk]
theorem bulkAll_eq {H : Type} : ∀ (l : List (DataW H)), Rows.uptoBulkAll l = bulkAll l
  | [] => rfl
  | d :: l => by simp [Rows.uptoBulkAll, bulkAll, bulk_eq d, bulkAll_eq l]
theorem bulkEntries_eq {H : Type} : ∀ (l : List (Lit × DataW H)), Rows.uptoBulkEntries l = bulkEntries l
  | [] => rfl
  | (k, d) :: l => by
    have h1 := bulk_eq d
    have h2 := bulkEntries_eq l
    cases k <;> simp [Rows.uptoBulkEntries, bulkEntries, Rows.uptoBulkEntry, bulkEntry, h1, h2]
end
def szF (f : Fld) : Nat := f.name.length + 1
def szC (c : Cls) : Nat := c.name.length + szL szF c.fields + 1
def RFd : Rd Fld := fun _ a f => a = encF f
def RC : Rd Cls := fun h a c => RCls h a c
theorem all2_enc {h : AHeap} {es : List (List AV)} {fs : List Fld} (he : All2 (RFd h) es fs) : es = fs.map encF := by
  induction he with
  | nil => rfl
  | cons h _ ih =>
    have h' : _ = encF _ := h
    rw [List.map_cons, ih, h']
theorem RFd.mono : Mono RFd := fun _ _ _ _ _ h => h
theorem RC.mono : Mono RC := fun _ _ _ _ e h => RCls.ext h e
def szG (p : Str × Val) : Nat := p.1.length + szV p.2 + 1
def szO (p : OpP) : Nat := p.cls.length + szL szG p.set + 1
theorem RG.mono : Mono RG := fun _ _ _ _ e h => let ⟨c, q, R⟩ := h; ⟨c, q, RV.ext e R⟩
theorem ROp.mono : Mono ROp := fun _ _ _ _ e h => ROp.ext h e
section
variable {H : Type} {enc : TypeId × Value → H} {W : World} {held : Bool}
theorem inV : In enc Try.prog W held 63 5 szV RV :=
  inVal (t0 := 3) (t1 := 4) (t2 := 2) (t3 := 9) (tl := 53) Try.underlying63 rfl (by kernel_rfl) Try.underlying3 (by kernel_rfl) Try.underlying4 (by kernel_rfl) Try.underlying2 (by kernel_rfl) Try.underlying9 (by kernel_rfl) Try.underlying53 (by kernel_rfl)
theorem inFd : In enc Try.prog W held 65 3 szF RFd := by
  have I := In.struct (enc := enc) (W := W) (held := held) (P := Try.prog) (t := 65) (tot := 3) Try.underlying65 rfl (by kernel_rfl)
    (InF.cons (off := 0) (n := 1) (by kernel_rfl) RStr.mono (In.str Try.underlying9) (InF.cons (off := 1) (n := 1) (by kernel_rfl) RInt.mono (In.int Try.underlying3) (InF.cons (off := 2) (n := 1) (by kernel_rfl) RStr.mono (In.str Try.underlying9) InF.nil)))
  refine I.conv ?_
  rintro h a ⟨s, i, s2, u⟩ ⟨b1, c1, rfl, _, ⟨rfl, _⟩, b2, c2, rfl, _, ⟨rfl, _⟩, b3, c3, rfl, _, ⟨rfl, _⟩, rfl⟩
  exact ⟨⟨s, i, s2⟩, rfl, by simp [szF]; omega⟩
theorem inFs : In enc Try.prog W held 50 1 (fun l => szL szF l + 1) (RSl 3 RFd) := In.slice Try.underlying50 (by kernel_rfl) (by decide) RFd.mono inFd
theorem inC : In enc Try.prog W held 52 3 szC RC := by
  have I := In.struct (enc := enc) (W := W) (held := held) (P := Try.prog) (t := 52) (tot := 3) Try.underlying52 rfl (by kernel_rfl)
    (InF.cons (off := 0) (n := 1) (by kernel_rfl) RStr.mono (In.str Try.underlying9) (InF.cons (off := 1) (n := 1) (by kernel_rfl) RStr.mono (In.str Try.underlying9) (InF.cons (off := 2) (n := 1) (by kernel_rfl) (RSl.mono RFd.mono) inFs InF.nil)))
  refine I.conv ?_
  rintro h a ⟨s, s2, fs, u⟩ ⟨b1, c1, rfl, _, ⟨rfl, _⟩, b2, c2, rfl, _, ⟨rfl, _⟩, b3, c3, rfl, _, hf, rfl⟩
  obtain ⟨v, es, rfl, hv, he⟩ := hf.view
  rw [all2_enc he] at hv
  exact ⟨⟨s, s2, fs⟩, ⟨v, rfl, hv⟩, by simp [szC]; omega⟩
theorem inCs : In enc Try.prog W held 22 1 (fun l => szL szC l + 1) (RSl 3 RC) := In.slice Try.underlying22 (by kernel_rfl) (by decide) RC.mono inC
theorem inG : In enc Try.prog W held 67 6 szG RG := by
  have I := In.struct (enc := enc) (W := W) (held := held) (P := Try.prog) (t := 67) (tot := 6) Try.underlying67 rfl (by kernel_rfl)
    (InF.cons (off := 0) (n := 1) (by kernel_rfl) RStr.mono (In.str Try.underlying9) (InF.cons (off := 1) (n := 5) (by kernel_rfl) RV.mono inV InF.nil))
  refine I.conv ?_
  rintro h a ⟨s, v, u⟩ ⟨b1, c1, rfl, _, ⟨rfl, hs⟩, b2, c2, rfl, _, hv, rfl⟩
  exact ⟨(s, v), ⟨b2, by simp, hv⟩, by simp only [szG]; omega⟩
theorem inGs : In enc Try.prog W held 37 1 (fun l => szL szG l + 1) (RSl 6 RG) := In.slice Try.underlying37 (by kernel_rfl) (by decide) RG.mono inG
theorem inO : In enc Try.prog W held 39 5 szO ROp := by
  have I := In.struct (enc := enc) (W := W) (held := held) (P := Try.prog) (t := 39) (tot := 5) Try.underlying39 rfl (by kernel_rfl)
    (InF.cons (off := 0) (n := 1) (by kernel_rfl) RInt.mono (In.int Try.underlying3) (InF.cons (off := 1) (n := 1) (by kernel_rfl) RStr.mono (In.str Try.underlying9) (InF.cons (off := 2) (n := 1) (by kernel_rfl) (RSl.mono RG.mono) inGs (InF.cons (off := 3) (n := 1) (by kernel_rfl) RInt.mono (In.int Try.underlying3) (InF.cons (off := 4) (n := 1) (by kernel_rfl) RBool.mono (In.bool Try.underlying4) InF.nil)))))
  refine I.conv ?_
  rintro h a ⟨d, c, gs, k, st, u⟩ ⟨b1, c1, rfl, _, ⟨rfl, _⟩, b2, c2, rfl, _, ⟨rfl, _⟩, b3, c3, rfl, _, hg, b4, c4, rfl, _, ⟨rfl, _⟩, b5, c5, rfl, _, hst, rfl⟩
  obtain ⟨v, es, rfl, hv, he⟩ := hg.view
  cases hst
  exact ⟨⟨d, c, gs, k, st⟩, ⟨v, rfl, es, hv, he⟩, by simp only [szO]; omega⟩
theorem inOs : In enc Try.prog W held 23 1 (fun l => szL szO l + 1) (RSl 5 ROp) := In.slice Try.underlying23 (by kernel_rfl) (by decide) ROp.mono inO
theorem inSs : In enc Try.prog W held 24 1 (fun l => szL (fun s : Str => s.length + 1) l + 1) (RSl 1 RStr) := In.slice Try.underlying24 (by kernel_rfl) (by decide) RStr.mono (In.str Try.underlying9)
theorem inIs : In enc Try.prog W held 25 1 (fun l => szL (fun _ : Int => 1) l + 1) (RSl 1 (RInt .i64)) := In.slice Try.underlying25 (by kernel_rfl) (by decide) RInt.mono (In.int Try.underlying3)
def RSx : Rd (List Cls × List OpP) := fun h a p => ∃ lv mo dv nv hv, a = [lv, .int .i64 mo, dv, nv, hv] ∧ CV h lv p.1 ∧ OV h dv p.2 ∧ allLeaf [lv, .int .i64 mo, dv, nv, hv] = true
theorem inSx : In enc Try.prog W held 27 5 (fun p => szL szC p.1 + szL szO p.2) RSx := by
  have I := In.struct (enc := enc) (W := W) (held := held) (P := Try.prog) (t := 27) (tot := 5) Try.underlying27 rfl (by kernel_rfl)
    (InF.cons (off := 0) (n := 1) (by kernel_rfl) (RSl.mono RC.mono) inCs (InF.cons (off := 1) (n := 1) (by kernel_rfl) RInt.mono (In.int Try.underlying3) (InF.cons (off := 2) (n := 1) (by kernel_rfl) (RSl.mono ROp.mono) inOs (InF.cons (off := 3) (n := 1) (by kernel_rfl) (RSl.mono RStr.mono) inSs (InF.cons (off := 4) (n := 1) (by kernel_rfl) (RSl.mono RInt.mono) inIs InF.nil)))))
  refine I.conv ?_
  rintro h a ⟨cs, mo, ops, ns, hs, u⟩ ⟨b1, c1, rfl, _, hc, b2, c2, rfl, _, ⟨rfl, _⟩, b3, c3, rfl, _, ho, b4, c4, rfl, _, hn, b5, c5, rfl, _, hh, rfl⟩
  obtain ⟨v1, e1, rfl, w1, x1⟩ := hc.view
  obtain ⟨v3, e3, rfl, w3, x3⟩ := ho.view
  obtain ⟨v4, e4, rfl, w4, x4⟩ := hn.view
  obtain ⟨v5, e5, rfl, w5, x5⟩ := hh.view
  have l1 := w1.leaf
  have l3 := w3.leaf
  have l4 := w4.leaf
  have l5 := w5.leaf
  exact ⟨(cs, ops), ⟨v1, mo, v3, v4, v5, rfl, ⟨e1, w1, x1⟩, ⟨e3, w3, x3⟩, by simp only [allLeaf, l1, l3, l4, l5]; rfl⟩, by dsimp only; omega⟩
end
end Go.Proofs.Ythifmankpcadjaa
namespace Go.Proofs
open Go.Shelf
def Ythifmankpcadjaa.insL_ren : Go.Shelf.Ren := ⟨fun | 21 => 59 | 27 => 72 | 28 => 73 | 35 => 86 | 39 => 95 | n => n, fun | 22 => 25 | 3 => 3 | 4 => 4 | 0 => 0 | n => n, fun | n => n⟩
theorem Ythifmankpcadjaa.insL : Go.Proofs.Lays2.n21 Try.prog Ythifmankpcadjaa.insL_ren := {
  mixed := by kernel_rfl
  f21 := Try.func59.trans (congrArg some (by kernel_rfl))
  f27 := Try.func72.trans (congrArg some (by kernel_rfl))
  f28 := Try.func73.trans (congrArg some (by kernel_rfl))
  f35 := Try.func86.trans (congrArg some (by kernel_rfl))
  f39 := Try.func95.trans (congrArg some (by kernel_rfl))
  t0 := Try.underlying0
  a0 := Try.isAgg0
  z0 := Try.sizeOf0
  v0 := Try.zeroValue0
  t3 := Try.underlying3
  a3 := Try.isAgg3
  z3 := Try.sizeOf3
  v3 := Try.zeroValue3
  t4 := Try.underlying4
  a4 := Try.isAgg4
  z4 := Try.sizeOf4
  v4 := Try.zeroValue4
  t22 := Try.underlying25
  a22 := Try.isAgg25
  z22 := Try.sizeOf25
  v22 := Try.zeroValue25
  i3 := by kernel_rfl }
end Go.Proofs
namespace Go.Proofs.Ythifmankpcadjaa
open Go.Ab
@[irreducible] noncomputable def A7 : AFun := (compFn Try.prog Try.f7).getD ⟨0, [], .skip⟩
noncomputable def tblW : List (Nat × AFun) := [(7, A7), (8, A8), (9, A9), (10, A10), (11, A11), (15, A15), (16, A16), (17, A17), (20, A20), (23, A23), (25, A25), (26, A26), (27, A27), (28, A28), (29, A29), (30, A30), (31, A31), (32, A32), (33, A33), (34, A34), (36, A36), (39, A39), (40, A40), (41, A41), (42, A42), (43, A43), (44, A44), (49, A49), (50, A50), (51, A51), (52, A52), (53, A53), (54, A54), (55, A55), (56, A56), (57, A57), (58, A58), (60, A60), (61, A61), (62, A62), (64, A64), (65, A65), (66, A66), (67, A67), (70, A70), (71, A71), (74, A74), (87, A87), (88, A88)]
set_option maxRecDepth 1000000 in
theorem runW : callN (envP tblW [(59, insP)]) 300 (.func 7) [] AHeap.empty (fun v _ => isTrue v) = true := by kernel_rfl
end Go.Proofs.Ythifmankpcadjaa
namespace Go.Proofs.Ythifmankpcadjaa
open Go.Ab
theorem tt3 : compFn Try.prog Try.f3 = some (stripF A3) := by kernel_rfl
theorem tt4 : compFn Try.prog Try.f4 = some (stripF A4) := by kernel_rfl
theorem tt5 : compFn Try.prog Try.f5 = some (stripF A5) := by kernel_rfl
theorem tt6 : compFn Try.prog Try.f6 = some (stripF A6) := by kernel_rfl
theorem tt7 : compFn Try.prog Try.f7 = some (stripF A7) := by kernel_rfl
theorem tt8 : compFn Try.prog Try.f8 = some (stripF A8) := by kernel_rfl
theorem tt9 : compFn Try.prog Try.f9 = some (stripF A9) := by kernel_rfl
theorem tt10 : compFn Try.prog Try.f10 = some (stripF A10) := by kernel_rfl
theorem tt11 : compFn Try.prog Try.f11 = some (stripF A11) := by kernel_rfl
theorem tt12 : compFn Try.prog Try.f12 = some (stripF A12) := by kernel_rfl
theorem tt13 : compFn Try.prog Try.f13 = some (stripF A13) := by kernel_rfl
theorem tt14 : compFn Try.prog Try.f14 = some (stripF A14) := by kernel_rfl
theorem tt15 : compFn Try.prog Try.f15 = some (stripF A15) := by kernel_rfl
theorem tt16 : compFn Try.prog Try.f16 = some (stripF A16) := by kernel_rfl
theorem tt17 : compFn Try.prog Try.f17 = some (stripF A17) := by kernel_rfl
theorem tt18 : compFn Try.prog Try.f18 = some (stripF A18) := by kernel_rfl
theorem tt19 : compFn Try.prog Try.f19 = some (stripF A19) := by kernel_rfl
theorem tt20 : compFn Try.prog Try.f20 = some (stripF A20) := by kernel_rfl
theorem tt21 : compFn Try.prog Try.f21 = some (stripF A21) := by kernel_rfl
theorem tt22 : compFn Try.prog Try.f22 = some (stripF A22) := by kernel_rfl
theorem tt23 : compFn Try.prog Try.f23 = some (stripF A23) := by kernel_rfl
theorem tt24 : compFn Try.prog Try.f24 = some (stripF A24) := by kernel_rfl
theorem tt25 : compFn Try.prog Try.f25 = some (stripF A25) := by kernel_rfl
theorem tt26 : compFn Try.prog Try.f26 = some (stripF A26) := by kernel_rfl
theorem tt27 : compFn Try.prog Try.f27 = some (stripF A27) := by kernel_rfl
theorem tt28 : compFn Try.prog Try.f28 = some (stripF A28) := by kernel_rfl
theorem tt29 : compFn Try.prog Try.f29 = some (stripF A29) := by kernel_rfl
theorem tt30 : compFn Try.prog Try.f30 = some (stripF A30) := by kernel_rfl
theorem tt31 : compFn Try.prog Try.f31 = some (stripF A31) := by kernel_rfl
theorem tt32 : compFn Try.prog Try.f32 = some (stripF A32) := by kernel_rfl
theorem tt33 : compFn Try.prog Try.f33 = some (stripF A33) := by kernel_rfl
theorem tt34 : compFn Try.prog Try.f34 = some (stripF A34) := by kernel_rfl
theorem tt35 : compFn Try.prog Try.f35 = some (stripF A35) := by kernel_rfl
theorem tt36 : compFn Try.prog Try.f36 = some (stripF A36) := by kernel_rfl
theorem tt37 : compFn Try.prog Try.f37 = some (stripF A37) := by kernel_rfl
theorem tt38 : compFn Try.prog Try.f38 = some (stripF A38) := by kernel_rfl
theorem tt39 : compFn Try.prog Try.f39 = some (stripF A39) := by kernel_rfl
theorem tt40 : compFn Try.prog Try.f40 = some (stripF A40) := by kernel_rfl
theorem tt41 : compFn Try.prog Try.f41 = some (stripF A41) := by kernel_rfl
theorem tt42 : compFn Try.prog Try.f42 = some (stripF A42) := by kernel_rfl
theorem tt43 : compFn Try.prog Try.f43 = some (stripF A43) := by kernel_rfl
theorem tt44 : compFn Try.prog Try.f44 = some (stripF A44) := by kernel_rfl
theorem tt45 : compFn Try.prog Try.f45 = some (stripF A45) := by kernel_rfl
theorem tt46 : compFn Try.prog Try.f46 = some (stripF A46) := by kernel_rfl
theorem tt48 : compFn Try.prog Try.f48 = some (stripF A48) := by kernel_rfl
theorem tt49 : compFn Try.prog Try.f49 = some (stripF A49) := by kernel_rfl
theorem tt50 : compFn Try.prog Try.f50 = some (stripF A50) := by kernel_rfl
theorem tt51 : compFn Try.prog Try.f51 = some (stripF A51) := by kernel_rfl
theorem tt52 : compFn Try.prog Try.f52 = some (stripF A52) := by kernel_rfl
theorem tt53 : compFn Try.prog Try.f53 = some (stripF A53) := by kernel_rfl
theorem tt54 : compFn Try.prog Try.f54 = some (stripF A54) := by kernel_rfl
theorem tt55 : compFn Try.prog Try.f55 = some (stripF A55) := by kernel_rfl
theorem tt56 : compFn Try.prog Try.f56 = some (stripF A56) := by kernel_rfl
theorem tt57 : compFn Try.prog Try.f57 = some (stripF A57) := by kernel_rfl
theorem tt58 : compFn Try.prog Try.f58 = some (stripF A58) := by kernel_rfl
theorem tt60 : compFn Try.prog Try.f60 = some (stripF A60) := by kernel_rfl
theorem tt61 : compFn Try.prog Try.f61 = some (stripF A61) := by kernel_rfl
theorem tt62 : compFn Try.prog Try.f62 = some (stripF A62) := by kernel_rfl
theorem tt63 : compFn Try.prog Try.f63 = some (stripF A63) := by kernel_rfl
theorem tt64 : compFn Try.prog Try.f64 = some (stripF A64) := by kernel_rfl
theorem tt65 : compFn Try.prog Try.f65 = some (stripF A65) := by kernel_rfl
theorem tt66 : compFn Try.prog Try.f66 = some (stripF A66) := by kernel_rfl
theorem tt67 : compFn Try.prog Try.f67 = some (stripF A67) := by kernel_rfl
theorem tt70 : compFn Try.prog Try.f70 = some (stripF A70) := by kernel_rfl
theorem tt71 : compFn Try.prog Try.f71 = some (stripF A71) := by kernel_rfl
theorem tt74 : compFn Try.prog Try.f74 = some (stripF A74) := by kernel_rfl
theorem tt87 : compFn Try.prog Try.f87 = some (stripF A87) := by kernel_rfl
theorem tt88 : compFn Try.prog Try.f88 = some (stripF A88) := by kernel_rfl
theorem tbl_ok : AllOK Try.prog tbl := ⟨⟨_, Try.func3, tt3⟩, ⟨_, Try.func4, tt4⟩, ⟨_, Try.func5, tt5⟩, ⟨_, Try.func6, tt6⟩, ⟨_, Try.func8, tt8⟩, ⟨_, Try.func9, tt9⟩, ⟨_, Try.func10, tt10⟩, ⟨_, Try.func11, tt11⟩, ⟨_, Try.func12, tt12⟩, ⟨_, Try.func13, tt13⟩, ⟨_, Try.func14, tt14⟩, ⟨_, Try.func15, tt15⟩, ⟨_, Try.func16, tt16⟩, ⟨_, Try.func17, tt17⟩, ⟨_, Try.func18, tt18⟩, ⟨_, Try.func19, tt19⟩, ⟨_, Try.func21, tt21⟩, ⟨_, Try.func22, tt22⟩, ⟨_, Try.func24, tt24⟩, ⟨_, Try.func26, tt26⟩, ⟨_, Try.func27, tt27⟩, ⟨_, Try.func28, tt28⟩, ⟨_, Try.func29, tt29⟩, ⟨_, Try.func30, tt30⟩, ⟨_, Try.func31, tt31⟩, ⟨_, Try.func32, tt32⟩, ⟨_, Try.func33, tt33⟩, ⟨_, Try.func34, tt34⟩, ⟨_, Try.func35, tt35⟩, ⟨_, Try.func36, tt36⟩, ⟨_, Try.func37, tt37⟩, ⟨_, Try.func38, tt38⟩, ⟨_, Try.func39, tt39⟩, ⟨_, Try.func40, tt40⟩, ⟨_, Try.func41, tt41⟩, ⟨_, Try.func42, tt42⟩, ⟨_, Try.func44, tt44⟩, ⟨_, Try.func45, tt45⟩, ⟨_, Try.func46, tt46⟩, ⟨_, Try.func48, tt48⟩, ⟨_, Try.func49, tt49⟩, ⟨_, Try.func50, tt50⟩, ⟨_, Try.func51, tt51⟩, ⟨_, Try.func52, tt52⟩, ⟨_, Try.func53, tt53⟩, ⟨_, Try.func54, tt54⟩, ⟨_, Try.func55, tt55⟩, ⟨_, Try.func56, tt56⟩, ⟨_, Try.func57, tt57⟩, ⟨_, Try.func58, tt58⟩, ⟨_, Try.func60, tt60⟩, ⟨_, Try.func61, tt61⟩, ⟨_, Try.func62, tt62⟩, ⟨_, Try.func63, tt63⟩, ⟨_, Try.func64, tt64⟩, ⟨_, Try.func65, tt65⟩, ⟨_, Try.func67, tt67⟩, ⟨_, Try.func70, tt70⟩, ⟨_, Try.func71, tt71⟩, ⟨_, Try.func74, tt74⟩, ⟨_, Try.func87, tt87⟩, ⟨_, Try.func88, tt88⟩, ⟨_, Try.func20, tt20⟩, ⟨_, Try.func23, tt23⟩, ⟨_, Try.func25, tt25⟩, ⟨_, Try.func43, tt43⟩, ⟨_, Try.func66, tt66⟩, trivial⟩
theorem tblW_ok : AllOK Try.prog tblW := ⟨⟨_, Try.func7, tt7⟩, ⟨_, Try.func8, tt8⟩, ⟨_, Try.func9, tt9⟩, ⟨_, Try.func10, tt10⟩, ⟨_, Try.func11, tt11⟩, ⟨_, Try.func15, tt15⟩, ⟨_, Try.func16, tt16⟩, ⟨_, Try.func17, tt17⟩, ⟨_, Try.func20, tt20⟩, ⟨_, Try.func23, tt23⟩, ⟨_, Try.func25, tt25⟩, ⟨_, Try.func26, tt26⟩, ⟨_, Try.func27, tt27⟩, ⟨_, Try.func28, tt28⟩, ⟨_, Try.func29, tt29⟩, ⟨_, Try.func30, tt30⟩, ⟨_, Try.func31, tt31⟩, ⟨_, Try.func32, tt32⟩, ⟨_, Try.func33, tt33⟩, ⟨_, Try.func34, tt34⟩, ⟨_, Try.func36, tt36⟩, ⟨_, Try.func39, tt39⟩, ⟨_, Try.func40, tt40⟩, ⟨_, Try.func41, tt41⟩, ⟨_, Try.func42, tt42⟩, ⟨_, Try.func43, tt43⟩, ⟨_, Try.func44, tt44⟩, ⟨_, Try.func49, tt49⟩, ⟨_, Try.func50, tt50⟩, ⟨_, Try.func51, tt51⟩, ⟨_, Try.func52, tt52⟩, ⟨_, Try.func53, tt53⟩, ⟨_, Try.func54, tt54⟩, ⟨_, Try.func55, tt55⟩, ⟨_, Try.func56, tt56⟩, ⟨_, Try.func57, tt57⟩, ⟨_, Try.func58, tt58⟩, ⟨_, Try.func60, tt60⟩, ⟨_, Try.func61, tt61⟩, ⟨_, Try.func62, tt62⟩, ⟨_, Try.func64, tt64⟩, ⟨_, Try.func65, tt65⟩, ⟨_, Try.func66, tt66⟩, ⟨_, Try.func67, tt67⟩, ⟨_, Try.func70, tt70⟩, ⟨_, Try.func71, tt71⟩, ⟨_, Try.func74, tt74⟩, ⟨_, Try.func87, tt87⟩, ⟨_, Try.func88, tt88⟩, trivial⟩
theorem body59 : ∃ c, Try.f59.body = some c := by
  have h : Try.f59.body.isSome = true := by kernel_rfl
  cases e : Try.f59.body with
  | none => rw [e] at h; cases h
  | some c => exact ⟨c, rfl⟩
theorem enter59 (args : Array Value) (w : World) : (callFunc 59 args).run Try.prog w = .ok (.enter 59 args) w := by
  obtain ⟨c, h⟩ := body59
  exact _root_.Go.MuLone.run_callFunc_enter Try.func59 (by kernel_rfl) h args w
theorem ins_ok : PrimOK Try.prog 59 insP := insP_ok insL rfl enter59
theorem prims_ok : AllPrim Try.prog prims := ⟨ins_ok, saysT_ok Try.checked.mixed (envP_ok tblW_ok (ps := [(59, insP)]) (show AllPrim Try.prog [(59, insP)] from ⟨ins_ok, trivial⟩)) (fn := A7) rfl runW, trivial⟩
theorem env_ok : EnvOK Try.prog E := envP_ok tbl_ok prims_ok
end Go.Proofs.Ythifmankpcadjaa
