/-
  'Lex', walked.
-/
import Derived.Test.YtajjclkdggoobaaL6
namespace Go.Proofs.Ytajjclkdggoobaa
open Go.Ab
set_option linter.unusedSimpArgs false
set_option linter.unusedVariables false

theorem callV_y (call : CallFn) (f : AFn) (vs : List AV) (h : AHeap) (K : Kont) : callV call (.fn f [] []) vs h K = call f vs h K := by
  rw [callV_fn, List.nil_append, List.append_nil]

/-- A variable of one cell, written. -/
theorem put1 {h : AHeap} {id : Nat} {w v : AV} (V : Var h id [w]) (hv : v.leaf = true) (o : h.Ok) : ∃ h', storeA h 1 (.ptr id 0 0 0) v = some h' ∧ But id h h' ∧ Var h' id [v] ∧ h'.Ok :=
  ⟨_, V.set1 (by show 0 < 1; omega) hv, But.put _ _ _, var_put id [v], o.put (V.lt o) _⟩

theorem l27 {n : Nat} {h0 : AHeap} {s : Str} {v7 : AV} {K : Kont} (k0 : h0.Ok) (hL : 2 * s.length + 4 < most) (hb : ∀ b ∈ s, b < 256) (hn : s.length < n) (hn6 : 6 ≤ n) :
    ∀ (m a f : Nat) (acc : List Lx) (h : AHeap), LInv h0 s (regsL h0.sz v7) h a false acc → a ≤ s.length → s.length - a < m → s.length - a < f → acc.length ≤ 4096 →
      (∀ l h' a', lexF f s a acc.length = .ok l → LInv h0 s (regsL h0.sz v7) h' a' false (acc ++ l) → K (.tup []) h' = true) →
      (∀ e l h', lexF f s a acc.length = .error e → LInv h0 s (regsL h0.sz v7) h' e true l → K (.tup []) h' = true) →
      (∀ e h', lexF f s a acc.length = .error e → LStop h0 (regsL h0.sz v7) h' e → K (.tup []) h' = true) →
      l27_1 (callN E (n + 6)) (n + 6) m (.fn (.yield (h0.sz + 6)) [] []) (.ptr (h0.sz + 5) 0 0 0) h K = true := by
  have hlim : most < lim := by decide
  intro m
  induction m with
  | zero => intro a f acc h _ _ hm; omega
  | succ m ih =>
    intro a f acc h I ha hm hf hacc k1 k2 k3
    obtain ⟨f, rfl⟩ : ∃ j, f = j + 1 := ⟨f - 1, by omega⟩
    simp only [lexF] at k1 k2 k3
    unfold l27_1 b27_1
    have P0 : loadA h false 1 (.ptr (h0.sz + 5) 0 0 0) = some (.ptr (h0.sz + 3) 0 0 0) := by rw [I.p.load]; rfl
    rw [o_of P0]
    refine c28 I.lx I.ok (by omega) ha (by omega) fun h1 B1 o1 V1 => ?_
    have I1 := I.but k0 B1 o1 V1
    have hsk : a + skip false (s.drop a) ≤ s.length := by
      have := skip_le false (s.drop a)
      simp only [List.length_drop] at this
      omega
    have hab : a ≤ a + skip false (s.drop a) := Nat.le_add_right _ _
    generalize a + skip false (s.drop a) = b at *
    have P1 : loadA h1 false 1 (.ptr (h0.sz + 5) 0 0 0) = some (.ptr (h0.sz + 3) 0 0 0) := by rw [I1.p.load]; rfl
    show (optB _ _) = true
    rw [o_of P1, o_nilck, o_fadr0, o_of V1.l1, o_of P1, o_nilck, o_fadr0, o_of V1.l0, o_slen, o_geq]
    by_cases hend : s.length ≤ b
    · rw [condB_t (decide_eq_true (by omega))]
      rw [if_pos hend] at k1
      exact k1 [] h1 b rfl (by rw [List.append_nil]; exact I1)
    · rw [condB_f (decide_eq_false (by omega)), o_of P1]
      rw [if_neg hend] at k1 k2 k3
      have hbl : b < s.length := by omega
      refine c29 (n := n + 1) V1 o1 hL hb hbl (by omega) (by omega) ?_ ?_
      · intro kd t mm h2 hN e2 o2
        obtain ⟨hm0, hml⟩ := next_le hN
        simp only [List.length_drop] at hml
        simp only [hN] at k1 k2 k3
        have I2 := I1.grow e2 o2
        rw [o_ext0, o_ext1]
        have A : allocV h2 [AV.int .i64 0, .str [], .int .i64 0, .int .i64 0] = some (.ptr h2.sz 0 0 0, Ab.newRow h2 [[AV.int .i64 0, .str [], .int .i64 0, .int .i64 0]] 4) := alloc_eq (by decide) rfl
        rw [p_of A]
        rw [u_of (store_new (h := h2) (z := [AV.int .i64 0, .str [], .int .i64 0, .int .i64 0]) (n := 4) (v := .agg [.int .i64 (kd : Int), .str t, .int .i64 0, .int .i64 0]) rfl rfl rfl)]
        show (optB _ _) = true
        have e0 : binA .eql (.int .i64 (mm : Int)) (AV.int .i64 0) = some (.bool false) := by
          rw [binA_eql, decide_eq_false (by omega)]
        rw [o_of e0, condB_false]
        have hc0 : (AV.agg [AV.int .i64 (kd : Int), .str t, .int .i64 0, .int .i64 0]).cells = [AV.int .i64 (kd : Int), .str t, .int .i64 0, .int .i64 0] := rfl
        rw [hc0]
        have nb : ∀ c, Ext h2 (Ab.newRow h2 [c] 4) ∧ (Ab.newRow h2 [c] 4).Ok := fun c => ⟨ext_newRow o2 _ _, ok_newRow o2 _ _⟩
        have pp : ∀ c, loadA (Ab.newRow h2 [c] 4) false 1 (.ptr (h0.sz + 5) 0 0 0) = some (.ptr (h0.sz + 3) 0 0 0) := fun c => by rw [(I2.p.ext (nb c).1).load]; rfl
        have l1 : ∀ c, loadA (Ab.newRow h2 [c] 4) false 1 (.ptr (h0.sz + 3) 0 0 1) = some (.int .i64 (b : Int)) := fun c => LX.l1 (Var.ext I2.lx (nb c).1)
        rw [o_of (pp _), o_nilck, o_fadr0, o_of (l1 _), o_of (pp _), o_nilck, o_fadr0, o_of (l1 _), o_of (nat64 (show b + mm < lim by omega)), o_fadr0]
        rw [u_of (nr_set (n := 4) rfl rfl (by decide))]
        rw [sameB_of (pp _) (same_ptr _ _ _ _), sameB_of (l1 _) (same_int _ _), o_fadr0]
        rw [u_of (nr_set (n := 4) rfl rfl (by decide))]
        rw [o_of (pp _), o_nilck, o_fadr0, o_of (l1 _), o_of (nat64 (show b + mm < lim by omega)), o_nilck, o_fadr0]
        show (optP _ _) = true
        have hcs : ([AV.int .i64 (kd : Int), .str t, .int .i64 0, .int .i64 0].set 2 (.int .i64 (b : Int))).set 3 (.int .i64 ((b + mm : Nat) : Int)) = encL ⟨kd, t, b, b + mm⟩ := rfl
        rw [hcs]
        have V3 : Var (Ab.newRow h2 [encL ⟨kd, t, b, b + mm⟩] 4) h2.sz (encL ⟨kd, t, b, b + mm⟩) := var_new h2 _
        have I3 := I2.grow (nb (encL ⟨kd, t, b, b + mm⟩)).1 (nb _).2
        have sz3 : (Ab.newRow h2 [encL ⟨kd, t, b, b + mm⟩] 4).sz = h2.sz + 1 := rfl
        have sz2 := I2.sz
        generalize Ab.newRow h2 [encL ⟨kd, t, b, b + mm⟩] 4 = h3 at *
        rw [u_of (LX.set I3.lx (b + mm))]
        have B4 := But.put (h0.sz + 3) h3 (.row (VRow [.str s, .int .i64 ((b + mm : Nat) : Int), .bool false]))
        have V4 := B4.var V3 (by omega)
        have I4 := I3.but k0 B4 (I3.ok.put (by omega) _) (lx_put h3 (h0.sz + 3) s (b + mm) false)
        generalize h3.put (h0.sz + 3) (.row (VRow [.str s, .int .i64 ((b + mm : Nat) : Int), .bool false])) = h4 at *
        have LA : loadA h4 true 4 (.ptr h2.sz 0 0 0) = some (.agg (encL ⟨kd, t, b, b + mm⟩)) := by rw [V4.load]; rfl
        rw [o_of LA]
        rw [callV_y]
        refine y16 (n := n + 5) (x := ⟨kd, t, b, b + mm⟩) k0 I4 hacc ?_ ?_
        · intro hlt h5 I5
          rw [if_neg (by omega)] at k1 k2 k3
          rw [o_not]
          show (condB (.bool false) _ _) = true
          rw [condB_false]
          refine ih (b + mm) f (acc ++ [⟨kd, t, b, b + mm⟩]) h5 I5 (by omega) (by omega) (by omega) (by simp; omega) ?_ ?_ ?_
          · intro l h' a' hl I'
            simp only [List.length_append, List.length_cons, List.length_nil, Nat.zero_add] at hl
            rw [hl] at k1
            exact k1 _ h' a' rfl (by rw [List.append_assoc] at I'; exact I')
          · intro e l h' hl I'
            simp only [List.length_append, List.length_cons, List.length_nil, Nat.zero_add] at hl
            rw [hl] at k2
            exact k2 e l h' rfl I'
          · intro e h' hl I'
            simp only [List.length_append, List.length_cons, List.length_nil, Nat.zero_add] at hl
            rw [hl] at k3
            exact k3 e h' rfl I'
        · intro hge h5 S5
          rw [if_pos hge] at k3
          rw [o_not]
          show (condB (.bool true) _ _) = true
          rw [condB_true]
          exact k3 b h5 rfl S5
      · intro hN kd t h2 e2 o2
        simp only [hN] at k2
        have I2 := I1.grow e2 o2
        rw [o_ext0, o_ext1]
        have A : allocV h2 [AV.int .i64 0, .str [], .int .i64 0, .int .i64 0] = some (.ptr h2.sz 0 0 0, Ab.newRow h2 [[AV.int .i64 0, .str [], .int .i64 0, .int .i64 0]] 4) := alloc_eq (by decide) rfl
        rw [p_of A]
        rw [u_of (store_new (h := h2) (z := [AV.int .i64 0, .str [], .int .i64 0, .int .i64 0]) (n := 4) (v := .agg [.int .i64 (kd : Int), .str t, .int .i64 0, .int .i64 0]) rfl rfl rfl)]
        show (optB _ _) = true
        have e0 : binA .eql (.int .i64 0) (AV.int .i64 0) = some (.bool true) := rfl
        rw [o_of e0, condB_true]
        have I3 := I2.grow (ext_newRow o2 [(AV.agg [AV.int .i64 (kd : Int), .str t, .int .i64 0, .int .i64 0]).cells] 4) (ok_newRow o2 _ _)
        generalize Ab.newRow h2 [(AV.agg [AV.int .i64 (kd : Int), .str t, .int .i64 0, .int .i64 0]).cells] 4 = h3 at *
        have P3 : loadA h3 false 1 (.ptr (h0.sz + 5) 0 0 0) = some (.ptr (h0.sz + 3) 0 0 0) := by rw [I3.p.load]; rfl
        have sz3 := I3.sz
        rw [o_of P3, o_nilck, o_fadr0, u_of (LX.setb I3.lx true)]
        exact k2 b acc _ rfl (I3.but k0 (But.put _ _ _) (I3.ok.put (by omega) _) (lx_put h3 (h0.sz + 3) s b true))

/-- The answer of 'Lex'. -/
def ansL (h : AHeap) (v : AV) : Except Nat (List Lx) → Prop
  | .ok l => ∃ u, v = .tup [u, .int .i64 0, .int .i64 0] ∧ View h 4 u (l.map encL)
  | .error e => v = .tup [.nilSlc, .int .i64 (e : Int), .int .i64 20]

theorem c16 {n : Nat} {h : AHeap} {s : Str} {K : Kont} (ho : h.Ok) (hL : 2 * s.length + 4 < most) (hb : ∀ b ∈ s, b < 256) (hn : s.length < n) (hn6 : 6 ≤ n)
    (k : ∀ v h', Ext h h' → h'.Ok → ansL h' v (lexS s) → K v h' = true) : callN E (n + 8) (.func 16) [.str s] h K = true := by
  apply d16
  unfold s16
  have A1 : allocV h [AV.nilSlc] = some (.ptr h.sz 0 0 0, Ab.newRow h [[AV.nilSlc]] 1) := alloc_eq (by decide) rfl
  rw [p_of A1]
  have e1 := ext_newRow ho [[AV.nilSlc]] 1
  have o1 := ok_newRow ho [[AV.nilSlc]] 1
  have V1 : Var (Ab.newRow h [[AV.nilSlc]] 1) h.sz [AV.nilSlc] := var_new h [AV.nilSlc]
  have s1 : (Ab.newRow h [[AV.nilSlc]] 1).sz = h.sz + 1 := rfl
  generalize Ab.newRow h [[AV.nilSlc]] 1 = h1 at *
  have A2 : allocV h1 [AV.int .i64 0] = some (.ptr h1.sz 0 0 0, Ab.newRow h1 [[AV.int .i64 0]] 1) := alloc_eq (by decide) rfl
  rw [p_of A2]
  have e2 := ext_newRow o1 [[AV.int .i64 0]] 1
  have o2 := ok_newRow o1 [[AV.int .i64 0]] 1
  have V2 : Var (Ab.newRow h1 [[AV.int .i64 0]] 1) h1.sz [AV.int .i64 0] := var_new h1 [AV.int .i64 0]
  have s2 : (Ab.newRow h1 [[AV.int .i64 0]] 1).sz = h1.sz + 1 := rfl
  generalize Ab.newRow h1 [[AV.int .i64 0]] 1 = h2 at *
  have A3 : allocV h2 [AV.int .i64 0] = some (.ptr h2.sz 0 0 0, Ab.newRow h2 [[AV.int .i64 0]] 1) := alloc_eq (by decide) rfl
  rw [p_of A3]
  have e3 := ext_newRow o2 [[AV.int .i64 0]] 1
  have o3 := ok_newRow o2 [[AV.int .i64 0]] 1
  have V3 : Var (Ab.newRow h2 [[AV.int .i64 0]] 1) h2.sz [AV.int .i64 0] := var_new h2 [AV.int .i64 0]
  have s3 : (Ab.newRow h2 [[AV.int .i64 0]] 1).sz = h2.sz + 1 := rfl
  generalize Ab.newRow h2 [[AV.int .i64 0]] 1 = h3 at *
  rw [o_of (show buildV [AV.str [], AV.int .i64 0, AV.bool false] [(0, 1, AV.str s)] = some (.agg [.str s, .int .i64 ((0 : Nat) : Int), .bool false]) from rfl)]
  have A4 : boxA h3 3 (.agg [.str s, .int .i64 ((0 : Nat) : Int), .bool false]) = some (.ptr h3.sz 0 0 0, Ab.newRow h3 [[.str s, .int .i64 ((0 : Nat) : Int), .bool false]] 3) := box_eq (n := 3) rfl (by decide) rfl
  rw [p_of A4]
  have e4 := ext_newRow o3 [[.str s, .int .i64 ((0 : Nat) : Int), .bool false]] 3
  have o4 := ok_newRow o3 [[.str s, .int .i64 ((0 : Nat) : Int), .bool false]] 3
  have V4 : LX (Ab.newRow h3 [[.str s, .int .i64 ((0 : Nat) : Int), .bool false]] 3) h3.sz s 0 false := var_new h3 [.str s, .int .i64 ((0 : Nat) : Int), .bool false]
  have s4 : (Ab.newRow h3 [[.str s, .int .i64 ((0 : Nat) : Int), .bool false]] 3).sz = h3.sz + 1 := rfl
  generalize Ab.newRow h3 [[.str s, .int .i64 ((0 : Nat) : Int), .bool false]] 3 = h4 at *
  have A5 : allocV h4 [AV.nilSlc] = some (.ptr h4.sz 0 0 0, Ab.newRow h4 [[AV.nilSlc]] 1) := alloc_eq (by decide) rfl
  rw [p_of A5]
  have e5 := ext_newRow o4 [[AV.nilSlc]] 1
  have o5 := ok_newRow o4 [[AV.nilSlc]] 1
  have V5 : Var (Ab.newRow h4 [[AV.nilSlc]] 1) h4.sz [AV.nilSlc] := var_new h4 [AV.nilSlc]
  have s5 : (Ab.newRow h4 [[AV.nilSlc]] 1).sz = h4.sz + 1 := rfl
  generalize Ab.newRow h4 [[AV.nilSlc]] 1 = h5 at *
  apply d22
  unfold s22
  have A6 : boxA h5 1 (.ptr h3.sz 0 0 0) = some (.ptr h5.sz 0 0 0, Ab.newRow h5 [[AV.ptr h3.sz 0 0 0]] 1) := box_eq (n := 1) rfl (by decide) rfl
  rw [p_of A6]
  have e6 := ext_newRow o5 [[AV.ptr h3.sz 0 0 0]] 1
  have o6 := ok_newRow o5 [[AV.ptr h3.sz 0 0 0]] 1
  have V6 : Var (Ab.newRow h5 [[AV.ptr h3.sz 0 0 0]] 1) h5.sz [AV.ptr h3.sz 0 0 0] := var_new h5 [AV.ptr h3.sz 0 0 0]
  have s6 : (Ab.newRow h5 [[AV.ptr h3.sz 0 0 0]] 1).sz = h5.sz + 1 := rfl
  generalize Ab.newRow h5 [[AV.ptr h3.sz 0 0 0]] 1 = h6 at *
  rw [o_some]
  have z1 : h1.sz = h.sz + 1 := s1
  have z2 : h2.sz = h.sz + 2 := by omega
  have z3 : h3.sz = h.sz + 3 := by omega
  have z4 : h4.sz = h.sz + 4 := by omega
  have z5 : h5.sz = h.sz + 5 := by omega
  have z6 : h6.sz = h.sz + 6 := by omega
  rw [z1] at V2
  rw [z2] at V3
  rw [z3] at V4 V6
  rw [z4] at V5
  rw [z5] at V6
  rw [z1, z2, z3, z4, z5]
  have e7 := ext_push o6 (Lp (regsL h.sz (.fn (.func 27) [] [.ptr (h.sz + 5) 0 0 0])) [13] c16_11 c16_12 .ready)
  have I0 : LInv h s (regsL h.sz (.fn (.func 27) [] [.ptr (h.sz + 5) 0 0 0])) (h6.push (Lp (regsL h.sz (.fn (.func 27) [] [.ptr (h.sz + 5) 0 0 0])) [13] c16_11 c16_12 .ready)) 0 false [] := by
    refine ⟨e1.trans (e2.trans (e3.trans (e4.trans (e5.trans (e6.trans e7))))), o6.push _, by simp [z6], V1.ext (e2.trans (e3.trans (e4.trans (e5.trans (e6.trans e7))))), V2.ext (e3.trans (e4.trans (e5.trans (e6.trans e7)))), V3.ext (e4.trans (e5.trans (e6.trans e7))), Var.ext V4 (e5.trans (e6.trans e7)), ⟨.nilSlc, V5.ext (e6.trans e7), Own.nil _ _ _⟩, V6.ext e7, ?_⟩
    rw [← z6]; exact get_push_same _ _
  show rfS (callN E (n + 7)) (.fn (.func 27) [] [.ptr (h.sz + 5) 0 0 0]) (regsL h.sz (.fn (.func 27) [] [.ptr (h.sz + 5) 0 0 0])) [13] c16_11 c16_12 h6 _ = true
  unfold rfS
  simp only [List.nil_append, List.cons_append]
  apply d27
  unfold s27
  rw [z6]
  refine l27 ho hL hb hn hn6 (n + 6) 0 (s.length + 1) [] _ I0 (by omega) (by omega) (by omega) (by simp) ?_ ?_ ?_
  · intro l h' a' hl I'
    have hl' : lexS s = .ok l := hl
    simp only [I'.y, Lp]
    have B := But.put (h.sz + 6) h' (.loop { regs := regsL h.sz (.fn (.func 27) [] [.ptr (h.sz + 5) 0 0 0]), ps := [13], asg := c16_11, body := c16_12, st := .exh })
    have sz' := I'.sz
    have X' := B.ext I'.ext ho (by omega)
    have O' := I'.ok.put (show h.sz + 6 < h'.sz by omega) (.loop { regs := regsL h.sz (.fn (.func 27) [] [.ptr (h.sz + 5) 0 0 0]), ps := [13], asg := c16_11, body := c16_12, st := .exh })
    have LXx := B.var I'.lx (by omega)
    obtain ⟨v, L, OO⟩ := I'.l
    have L' := B.var L (by omega)
    have OO' := B.own OO
    have R1 := B.var I'.r1 (by omega)
    have R2 := B.var I'.r2 (by omega)
    have R3 := B.var I'.r3 (by omega)
    have zz : (h'.put (h.sz + 6) (.loop { regs := regsL h.sz (.fn (.func 27) [] [.ptr (h.sz + 5) 0 0 0]), ps := [13], asg := c16_11, body := c16_12, st := .exh })).sz = h'.sz := by simp
    generalize h'.put (h.sz + 6) (.loop { regs := regsL h.sz (.fn (.func 27) [] [.ptr (h.sz + 5) 0 0 0]), ps := [13], asg := c16_11, body := c16_12, st := .exh }) = g at *
    unfold p16_22
    rw [o_nilck, o_fadr0, o_of (LX.l2 LXx), condB_false]
    rw [o_of (show loadA g false 1 (.ptr (h.sz + 4) 0 0 0) = some v by rw [L'.load]; rfl)]
    have lf : v.leaf = true := OO.view.leaf
    obtain ⟨g1, q1, b1, w1, y1⟩ := put1 R1 lf O'
    obtain ⟨g2, q2, b2, w2, y2⟩ := put1 (v := .int .i64 0) (b1.var R2 (by omega)) rfl y1
    obtain ⟨g3, q3, b3, w3, y3⟩ := put1 (v := .int .i64 0) (b2.var (b1.var R3 (by omega)) (by omega)) rfl y2
    rw [u_of q1, u_of q2, u_of q3]
    have EX := b3.ext (b2.ext (b1.ext X' ho (by omega)) ho (by omega)) ho (by omega)
    have OW := b3.own (b2.own (b1.own (OO' (by omega)) (by omega)) (by omega)) (by omega)
    simp only [resV, (b3.var (b2.var w1 (by omega)) (by omega)).load, (b3.var w2 (by omega)).load, w3.load, partA_false, nth_zero, optR_some]
    refine k _ _ EX y3 ?_
    rw [hl']
    exact ⟨v, rfl, by rw [List.nil_append] at OW; exact OW.view⟩
  · intro e l h' hl I'
    have hl' : lexS s = .error e := hl
    simp only [I'.y, Lp]
    have B := But.put (h.sz + 6) h' (.loop { regs := regsL h.sz (.fn (.func 27) [] [.ptr (h.sz + 5) 0 0 0]), ps := [13], asg := c16_11, body := c16_12, st := .exh })
    have sz' := I'.sz
    have X' := B.ext I'.ext ho (by omega)
    have O' := I'.ok.put (show h.sz + 6 < h'.sz by omega) (.loop { regs := regsL h.sz (.fn (.func 27) [] [.ptr (h.sz + 5) 0 0 0]), ps := [13], asg := c16_11, body := c16_12, st := .exh })
    have LXx := B.var I'.lx (by omega)
    have R1 := B.var I'.r1 (by omega)
    have R2 := B.var I'.r2 (by omega)
    have R3 := B.var I'.r3 (by omega)
    have zz : (h'.put (h.sz + 6) (.loop { regs := regsL h.sz (.fn (.func 27) [] [.ptr (h.sz + 5) 0 0 0]), ps := [13], asg := c16_11, body := c16_12, st := .exh })).sz = h'.sz := by simp
    generalize h'.put (h.sz + 6) (.loop { regs := regsL h.sz (.fn (.func 27) [] [.ptr (h.sz + 5) 0 0 0]), ps := [13], asg := c16_11, body := c16_12, st := .exh }) = g at *
    unfold p16_22
    rw [o_nilck, o_fadr0, o_of (LX.l2 LXx), condB_true, o_nilck, o_fadr0, o_of (LX.l1 LXx)]
    obtain ⟨g1, q1, b1, w1, y1⟩ := put1 (v := .nilSlc) R1 rfl O'
    obtain ⟨g2, q2, b2, w2, y2⟩ := put1 (v := .int .i64 (e : Int)) (b1.var R2 (by omega)) rfl y1
    obtain ⟨g3, q3, b3, w3, y3⟩ := put1 (v := .int .i64 20) (b2.var (b1.var R3 (by omega)) (by omega)) rfl y2
    rw [u_of q1, sameB_of (LX.l1 (b1.var LXx (by omega))) (same_int _ _), u_of q2, u_of q3]
    have EX := b3.ext (b2.ext (b1.ext X' ho (by omega)) ho (by omega)) ho (by omega)
    simp only [resV, (b3.var (b2.var w1 (by omega)) (by omega)).load, (b3.var w2 (by omega)).load, w3.load, partA_false, nth_zero, optR_some]
    refine k _ _ EX y3 ?_
    rw [hl']
    rfl
  · intro e h' hl S'
    have hl' : lexS s = .error e := hl
    simp only [S'.y, Lp]
    have B := But.put (h.sz + 6) h' (.loop { regs := regsL h.sz (.fn (.func 27) [] [.ptr (h.sz + 5) 0 0 0]), ps := [13], asg := c16_11, body := c16_12, st := .exh })
    have sz' := S'.sz
    simp only [resV, (B.var S'.r1 (by omega)).load, (B.var S'.r2 (by omega)).load, (B.var S'.r3 (by omega)).load, partA_false, nth_zero, optR_some]
    refine k _ _ (B.ext S'.ext ho (by omega)) (S'.ok.put (by omega) _) ?_
    rw [hl']
    rfl
end Go.Proofs.Ytajjclkdggoobaa
