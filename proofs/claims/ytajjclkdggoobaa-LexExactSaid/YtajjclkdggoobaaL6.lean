/-
  All lexemes of a text.
-/
import Derived.Test.YtajjclkdggoobaaL5
namespace Go.Proofs.Ytajjclkdggoobaa
open Go.Ab
set_option linter.unusedSimpArgs false
set_option linter.unusedVariables false

structure Lx where
  kind : Nat
  text : Str
  beg : Nat
  fin : Nat

def encL (x : Lx) : List AV := [.int .i64 (x.kind : Int), .str x.text, .int .i64 (x.beg : Int), .int .i64 (x.fin : Int)]

/-- The lexemes from 'a' on, where there were k ahead; or the fault's place. -/
def lexF : Nat → Str → Nat → Nat → Except Nat (List Lx)
  | 0, _, _, _ => .ok []
  | f + 1, s, a, k =>
    if s.length ≤ a + skip false (s.drop a) then .ok [] else match nextS (s.drop (a + skip false (s.drop a))) with
      | none => .error (a + skip false (s.drop a))
      | some (kd, t, m) => if 4096 ≤ k then .error (a + skip false (s.drop a)) else match lexF f s (a + skip false (s.drop a) + m) (k + 1) with
        | .error e => .error e
        | .ok l => .ok (⟨kd, t, a + skip false (s.drop a), a + skip false (s.drop a) + m⟩ :: l)

/-- A text's lexemes. -/
def lexS (s : Str) : Except Nat (List Lx) := lexF (s.length + 1) s 0 0

theorem nr_set {h : AHeap} {c : List AV} {n off : Nat} {v : AV} (hc : c.length = n) (hv : v.leaf = true) (ho : off < n) : storeA (Ab.newRow h [c] n) 1 (.ptr h.sz 0 0 off) v = some (Ab.newRow h [c.set off v] n) := by
  subst hc
  rw [(var_new h c).set1 ho hv]
  simp only [Ab.newRow, push_put, VRow, List.length_set]

/-- What holds at each round: the answers' variables, the lexer, what it has, the loop. -/
structure LInv (h0 : AHeap) (s : Str) (regs : Regs) (h : AHeap) (a : Nat) (bad : Bool) (acc : List Lx) : Prop where
  ext : Ext h0 h
  ok : h.Ok
  sz : h0.sz + 7 ≤ h.sz
  r1 : Var h h0.sz [.nilSlc]
  r2 : Var h (h0.sz + 1) [.int .i64 0]
  r3 : Var h (h0.sz + 2) [.int .i64 0]
  lx : LX h (h0.sz + 3) s a bad
  l : ∃ v, Var h (h0.sz + 4) [v] ∧ Own (h0.sz + 7) h 4 v (acc.map encL)
  p : Var h (h0.sz + 5) [.ptr (h0.sz + 3) 0 0 0]
  y : h.get (h0.sz + 6) = some (Lp regs [13] c16_11 c16_12 .ready)

theorem LInv.grow {h0 h h' : AHeap} {s : Str} {regs : Regs} {a : Nat} {bad : Bool} {acc : List Lx} (I : LInv h0 s regs h a bad acc) (e : Ext h h') (o : h'.Ok) : LInv h0 s regs h' a bad acc :=
  ⟨I.ext.trans e, o, Nat.le_trans I.sz e.1, I.r1.ext e, I.r2.ext e, I.r3.ext e, Var.ext I.lx e, let ⟨v, p, q⟩ := I.l; ⟨v, p.ext e, q.ext e⟩, I.p.ext e, e.2 _ _ I.y⟩

theorem LInv.but {h0 h h' : AHeap} {s : Str} {regs : Regs} {a a' : Nat} {bad bad' : Bool} {acc : List Lx} (I : LInv h0 s regs h a bad acc) (k0 : h0.Ok) (e : But (h0.sz + 3) h h') (o : h'.Ok) (V : LX h' (h0.sz + 3) s a' bad') : LInv h0 s regs h' a' bad' acc :=
  ⟨e.ext I.ext k0 (by omega), o, Nat.le_trans I.sz e.sz, e.var I.r1 (by omega), e.var I.r2 (by omega), e.var I.r3 (by omega), V, let ⟨v, p, q⟩ := I.l; ⟨v, e.var p (by omega), e.own q (by omega)⟩, e.var I.p (by omega), e.keep _ _ (by omega) I.y⟩

/-- There were too many. -/
structure LStop (h0 : AHeap) (regs : Regs) (h : AHeap) (e : Nat) : Prop where
  ext : Ext h0 h
  ok : h.Ok
  sz : h0.sz + 7 ≤ h.sz
  r1 : Var h h0.sz [.nilSlc]
  r2 : Var h (h0.sz + 1) [.int .i64 (e : Int)]
  r3 : Var h (h0.sz + 2) [.int .i64 20]
  y : h.get (h0.sz + 6) = some (Lp regs [13] c16_11 c16_12 (.done .ret))

def regsL (b : Nat) (v7 : AV) : Regs := mkR [(2, .ptr b 0 0 0), (3, .ptr (b + 1) 0 0 0), (4, .ptr (b + 2) 0 0 0), (5, .ptr (b + 3) 0 0 0), (6, .ptr (b + 4) 0 0 0), (12, v7)]

/-- One lexeme, handed to the loop in 'Long'. -/
theorem y16 {n : Nat} {h h0 : AHeap} {s : Str} {v7 : AV} {a : Nat} {acc : List Lx} {x : Lx} {K : Kont} (k0 : h0.Ok) (I : LInv h0 s (regsL h0.sz v7) h a false acc) (hacc : acc.length ≤ 4096)
    (k1 : acc.length < 4096 → ∀ h', LInv h0 s (regsL h0.sz v7) h' a false (acc ++ [x]) → K (.bool true) h' = true)
    (k2 : 4096 ≤ acc.length → ∀ h', LStop h0 (regsL h0.sz v7) h' x.beg → K (.bool false) h' = true) : callN E (n + 1) (.yield (h0.sz + 6)) [.agg (encL x)] h K = true := by
  refine y16_10_run primle I.y ?_
  unfold y16_10
  have hl : allLeaf (AV.agg (encL x)).cells = true := rfl
  rw [alloc_set (n := 4) rfl (by decide) rfl rfl hl]
  show (busyB _ _ _) = true
  have hc : (AV.agg (encL x)).cells = encL x := rfl
  rw [hc]
  have e1 := ext_newRow I.ok [encL x] 4
  have I1 := I.grow e1 (ok_newRow I.ok [encL x] 4)
  have V1 := var_new h (encL x)
  simp only [show (encL x).length = 4 from rfl] at V1
  have hh := I.sz
  generalize Ab.newRow h [encL x] 4 = h1 at *
  rw [busy_eq I1.y]
  obtain ⟨v, L, O⟩ := I1.l
  -- the heap in which the loop is busy
  have hx : But (h0.sz + 6) h1 (h1.put (h0.sz + 6) (Lp (regsL h0.sz v7) [13] c16_11 c16_12 .busy)) := But.put _ _ _
  have hg : (h1.put (h0.sz + 6) (Lp (regsL h0.sz v7) [13] c16_11 c16_12 .busy)).get (h0.sz + 6) = some (Lp (regsL h0.sz v7) [13] c16_11 c16_12 .busy) := get_put_same _ _ _
  have o2 : (h1.put (h0.sz + 6) (Lp (regsL h0.sz v7) [13] c16_11 c16_12 .busy)).Ok := I1.ok.put (by have := I1.sz; omega) _
  have hz2 : (h1.put (h0.sz + 6) (Lp (regsL h0.sz v7) [13] c16_11 c16_12 .busy)).sz = h1.sz := by simp
  generalize h1.put (h0.sz + 6) (Lp (regsL h0.sz v7) [13] c16_11 c16_12 .busy) = h2 at *
  have L2 := hx.var L (by omega)
  have O2 := hx.own O (by omega)
  have V2 := hx.var V1 (by omega)
  have r1 := hx.var I1.r1 (by omega)
  have r2 := hx.var I1.r2 (by omega)
  have r3 := hx.var I1.r3 (by omega)
  have X2 := hx.ext I1.ext k0 (by omega)
  have LL : loadA h2 false 1 (.ptr (h0.sz + 4) 0 0 0) = some v := by rw [L2.load]; rfl
  have LV : loadA h2 false 1 (.ptr h.sz 0 0 2) = some (.int .i64 (x.beg : Int)) := by rw [V2.load]; rfl
  have sz1 := I1.sz
  rw [o_of LL, o_of O2.view.len, o_geq, List.length_map]
  by_cases hfull : 4096 ≤ acc.length
  · rw [condB_t (decide_eq_true (by omega)), o_fadr0, o_of LV]
    rw [u_of (r1.set1 (v := .nilSlc) (by decide) rfl)]
    have b1 := But.put h0.sz h2 (.row (VRow ([AV.nilSlc].set 0 .nilSlc)))
    have V3 := b1.var V2 (by omega)
    have LV3 : loadA (h2.put h0.sz (.row (VRow ([AV.nilSlc].set 0 .nilSlc)))) false 1 (.ptr h.sz 0 0 2) = some (.int .i64 (x.beg : Int)) := by rw [V3.load]; rfl
    rw [sameB_of LV3 (same_int _ _)]
    have r2' := b1.var r2 (by omega)
    rw [u_of (r2'.set1 (v := .int .i64 (x.beg : Int)) (by decide) rfl)]
    have b2 := But.put (h0.sz + 1) (h2.put h0.sz (.row (VRow ([AV.nilSlc].set 0 .nilSlc)))) (.row (VRow ([AV.int .i64 0].set 0 (.int .i64 (x.beg : Int)))))
    have r3' := b2.var (b1.var r3 (by omega)) (by omega)
    rw [u_of (r3'.set1 (v := .int .i64 20) (by decide) rfl)]
    have b3 := But.put (h0.sz + 2) ((h2.put h0.sz (.row (VRow ([AV.nilSlc].set 0 .nilSlc)))).put (h0.sz + 1) (.row (VRow ([AV.int .i64 0].set 0 (.int .i64 (x.beg : Int)))))) (.row (VRow ([AV.int .i64 0].set 0 (.int .i64 20))))
    have g3 := b3.keep _ _ (by omega) (b2.keep _ _ (by omega) (b1.keep _ _ (by omega) hg))
    rw [end_ret g3]
    have b4 := But.put (h0.sz + 6) (((h2.put h0.sz (.row (VRow ([AV.nilSlc].set 0 .nilSlc)))).put (h0.sz + 1) (.row (VRow ([AV.int .i64 0].set 0 (.int .i64 (x.beg : Int)))))).put (h0.sz + 2) (.row (VRow ([AV.int .i64 0].set 0 (.int .i64 20))))) (Lp (regsL h0.sz v7) [13] c16_11 c16_12 (.done .ret))
    refine k2 hfull _ ⟨b4.ext (b3.ext (b2.ext (b1.ext X2 k0 (by omega)) k0 (by omega)) k0 (by omega)) k0 (by omega), ?_, ?_, ?_, ?_, ?_, get_put_same _ _ _⟩
    · exact (((o2.put (by omega) _).put (by simp; omega) _).put (by simp; omega) _).put (by simp; omega) _
    · simp; omega
    · exact b4.var (b3.var (b2.var (var_put h0.sz [AV.nilSlc]) (by omega)) (by omega)) (by omega)
    · exact b4.var (b3.var (var_put (h0.sz + 1) [AV.int .i64 (x.beg : Int)]) (by omega)) (by omega)
    · exact b4.var (var_put (h0.sz + 2) [AV.int .i64 20]) (by omega)
  · rw [condB_f (decide_eq_false (by omega)), o_of LL]
    have LA : loadA h2 true 4 (.ptr h.sz 0 0 0) = some (.agg (encL x)) := by rw [V2.load]; rfl
    rw [o_of LA]
    obtain ⟨u, g1, W⟩ := bslice_view (h := h2) (n := 1) (sz := 4) (z := [AV.int .i64 0, .str [], .int .i64 0, .int .i64 0]) (ps := [(0, .agg (encL x))]) (es := [encL x]) rfl (by decide) (by decide) rfl rfl rfl
    rw [p_of g1]
    have e3 := ext_newRow o2 [encL x] 4
    have o3 := ok_newRow o2 [encL x] 4
    generalize Ab.newRow h2 [encL x] 4 = h3 at *
    have hm : most = 1099511627776 := rfl
    obtain ⟨v', h4, a1, a2, a3, a4, a5, a6, _⟩ := (O2.ext e3).app (bytes := 40) (by decide) (by have := e3.1; omega) o3 k0 (X2.trans e3) (by omega) W.src (by simp only [List.length_map, List.length_cons, List.length_nil]; omega) (by simp only [List.length_map, List.length_cons, List.length_nil]; omega)
    rw [p_of a1]
    have kp : ∀ j o, j < h0.sz + 7 → h2.get j = some o → h4.get j = some o := fun j o hj hg => a6 j o (e3.2 _ _ hg) (by
      intro id g st l c ex hv
      rcases O2 with ⟨rfl, _⟩ | ⟨i', r, q1, q2, _⟩
      · cases hv
      · rw [q2] at hv; cases hv; omega)
    have kv : ∀ (j : Nat) (c : List AV), j < h0.sz + 7 → Var h2 j c → Var h4 j c := fun j c hj V => by
      have V' : h2.row j = some (VRow c) := V
      show h4.row j = _
      rw [AHeap.row_some] at V' ⊢
      exact kp j _ hj V'
    have L4 := kv _ _ (by omega) L2
    rw [u_of (L4.set1 (v := v') (by show 0 < 1; omega) a2.view.leaf)]
    have b5 := But.put (h0.sz + 4) h4 (.row (VRow ([v].set 0 v')))
    have g5 := b5.keep _ _ (by omega) (kp _ _ (by omega) hg)
    rw [end_normal g5]
    have b6 := But.put (h0.sz + 6) (h4.put (h0.sz + 4) (.row (VRow ([v].set 0 v')))) (Lp (regsL h0.sz v7) [13] c16_11 c16_12 .ready)
    have s4 : h0.sz + 7 ≤ h4.sz := by have := e3.1; omega
    refine k1 (by omega) _ ⟨b6.ext (b5.ext a4 k0 (by omega)) k0 (by omega), (a3.put (by omega) _).put (by simp; omega) _, by simp; omega, ?_, ?_, ?_, ?_, ⟨v', b6.var (var_put (h0.sz + 4) [v']) (by omega), ?_⟩, ?_, get_put_same _ _ _⟩
    · exact b6.var (b5.var (kv _ _ (by omega) r1) (by omega)) (by omega)
    · exact b6.var (b5.var (kv _ _ (by omega) r2) (by omega)) (by omega)
    · exact b6.var (b5.var (kv _ _ (by omega) r3) (by omega)) (by omega)
    · exact b6.var (b5.var (kv _ _ (by omega) (hx.var I1.lx (by omega))) (by omega)) (by omega)
    · rw [List.map_append]; exact b6.own (b5.own a2 (by omega)) (by omega)
    · exact b6.var (b5.var (kv _ _ (by omega) (hx.var I1.p (by omega))) (by omega)) (by omega)
end Go.Proofs.Ytajjclkdggoobaa
