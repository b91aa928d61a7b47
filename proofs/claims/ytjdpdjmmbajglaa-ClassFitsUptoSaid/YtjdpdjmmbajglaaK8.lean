/-
  Whether a class may be the next one of a table.
-/
import Derived.Test.YtjdpdjmmbajglaaK7
namespace Go.Proofs.Ytjdpdjmmbajglaa
open Go.Ab
set_option linter.unusedSimpArgs false
set_option linter.unusedVariables false

theorem c45 {n : Nat} {h : AHeap} {a b : Str} {g : AV} {f : Fld} {p : Nat} {K : Kont} (ho : h.Ok) (hg : g.leaf = true) (V : Var h p (encF f)) (k : ∀ h', Ext h h' → h'.Ok → K (.bool (decide (a = f.cls))) h' = true) :
    callN E (n + 1) (.func 45) [.agg [.str a, .str b, g], .ptr p 0 0 0] h K = true := by
  apply d45
  unfold s45
  rw [box_eq (n := 3) rfl (by decide) (leaf3 hg), optP_some]
  have e := ext_newRow ho [[AV.str a, AV.str b, g]] 3
  have V2 := var_new h [AV.str a, AV.str b, g]
  have hc : (AV.agg [AV.str a, AV.str b, g]).cells = [AV.str a, AV.str b, g] := rfl
  rw [hc]
  simp only [List.length_cons, List.length_nil, Nat.zero_add] at V2
  have o := ok_newRow ho [[AV.str a, AV.str b, g]] 3
  generalize Ab.newRow h [[AV.str a, AV.str b, g]] 3 = h2 at *
  simp only [fadrA_ptr, optB_some, V2.load, (V.ext e).load, partA_false, Nat.zero_add, nth_zero, nth_succ, encF, binA_seql]
  exact k h2 e o

theorem l55 {n : Nat} {v : AV} {l : List Cls} {f : Fld} {p : Nat} {K : Kont} {h0 : AHeap} (C : CV h0 v l) (P : Var h0 p (encF f)) (hl : l.length < lim)
    (k : ∀ h', Ext h0 h' → h'.Ok → K (.int .i64 (fint (idx f.cls (names l)))) h' = true) : ∀ (m i : Nat) (h : AHeap), Ext h0 h → h.Ok → i ≤ l.length → l.length - i < m → idx f.cls (names l) = off i (idx f.cls (names (l.drop i))) →
    l55_6 (callN E (n + 1)) (n + 1) m v (.fn (.func 45) [] [.ptr p 0 0 0]) (.int .i64 (l.length : Int)) (.int .i64 (i : Int)) h K = true := by
  intro m
  induction m with
  | zero => intro i h _ _ _ hm; omega
  | succ m ih =>
    intro i h e ho hi hm hx
    rw [l55_6_s]
    unfold b55_6
    by_cases hlt : i < l.length
    · have hd : l.drop i = l[i] :: l.drop (i + 1) := List.drop_eq_getElem_cons hlt
      obtain ⟨id, g, j, ff, p1, p2, p3, p4, p5, p6⟩ := (C.ext e).at (List.getElem?_eq_getElem hlt)
      rw [binA_lss, optB_some, condB_t (by simpa using hlt), p1, optB_some, p2, optB_some, callV_fn]
      simp only [List.nil_append, List.cons_append]
      refine c45 ho p6.leaf (P.ext e) ?_
      intro h' e' o'
      rw [hd] at hx
      simp only [names, List.map_cons, idx] at hx
      by_cases hs : l[i].name = f.cls
      · rw [condB_t (by simpa using hs)]
        have := k h' (e.trans e') o'
        simp only [names] at this
        rw [hx] at this
        simpa [hs, off, fint] using this
      · rw [condB_f (by simpa using hs), inc64 (by omega), optB_some]
        refine ih (i + 1) h' (e.trans e') o' (by omega) (by omega) ?_
        rw [if_neg hs] at hx
        simp only [names]
        rw [hx]
        cases idx f.cls (List.map Cls.name (List.drop (i + 1) l)) with
        | none => rfl
        | some x => simp [off]; omega
    · have : l.drop i = [] := List.drop_of_length_le (by omega)
      rw [this] at hx
      rw [binA_lss, optB_some, condB_f (by simpa using hlt)]
      have := k h e ho
      rw [hx] at this
      exact this

theorem c44 {n : Nat} {v : AV} {l : List Cls} {f : Fld} {p : Nat} {K : Kont} {h : AHeap} (ho : h.Ok) (C : CV h v l) (P : Var h p (encF f)) (hl : l.length < lim) (hn : l.length < n)
    (k : ∀ h', Ext h h' → h'.Ok → K (.bool (idx f.cls (names l)).isSome) h' = true) : callN E (n + 3) (.func 44) [v, .fn (.func 45) [] [.ptr p 0 0 0]] h K = true := by
  apply d44
  unfold s44
  apply d55
  unfold s55
  rw [C.len, optB_some]
  refine l55 C P hl ?_ (n + 1) 0 h (Ext.refl h) ho (by omega) (by omega) (by rw [off0]; rfl)
  intro h' e' o'
  rw [binA_geq, optB_some]
  have := k h' e' o'
  have hx : decide ((0 : Int) ≤ fint (idx f.cls (names l))) = (idx f.cls (names l)).isSome := by
    cases idx f.cls (names l) with
    | none => rfl
    | some x => simp [fint]
  rw [hx]; exact this

/-! ### Counts of names -/
def cnt (s : Str) (fs : List Fld) : Nat := (fs.filter fun f => decide (f.name = s)).length

theorem cnt_append (s : Str) (a b : List Fld) : cnt s (a ++ b) = cnt s a + cnt s b := by simp [cnt]
theorem cnt_one (s : Str) (f : Fld) : cnt s [f] = if s = f.name then 1 else 0 := by
  unfold cnt
  by_cases h : s = f.name
  · subst h; simp
  · have : ¬ f.name = s := fun e => h e.symm
    simp [h, this]
theorem cnt_le (s : Str) (fs : List Fld) : cnt s fs ≤ fs.length := List.length_filter_le _ _

def cntAt (fs : List Fld) (s : Str) : Option AV := if cnt s fs = 0 then none else some (.int .i64 (cnt s fs : Int))

theorem cntAt_next (fs : List Fld) (f : Fld) : (fun s => if s = f.name then some (AV.int .i64 ((cnt f.name fs + 1 : Nat) : Int)) else cntAt fs s) = cntAt (fs ++ [f]) := by
  funext s
  unfold cntAt
  rw [cnt_append, cnt_one]
  by_cases h : s = f.name
  · subst h; simp
  · simp [h]

theorem cntAt_get (fs : List Fld) (s : Str) : (cntAt fs s).getD (.int .i64 0) = .int .i64 (cnt s fs : Int) := by
  unfold cntAt
  by_cases h : cnt s fs = 0
  · simp [h]
  · simp [h]

/-- The program's counts as it goes over fields. -/
structure Counts (h0 : AHeap) (b : Nat) (mid vn vc : Nat) (fs : List Fld) (h : AHeap) : Prop where
  ext : Ext h0 h
  ok : h.Ok
  lo : h0.sz ≤ b ∧ b ≤ mid ∧ b ≤ vn ∧ b ≤ vc ∧ mid ≠ vn ∧ mid ≠ vc ∧ vn ≠ vc
  n : Var h vn [.map mid]
  c : Var h vc [.int .i64 (fs.length : Int)]
  m : StrMap h mid (cntAt fs)

theorem Counts.lt {h0 h : AHeap} {b mid vn vc : Nat} {fs : List Fld} (C : Counts h0 b mid vn vc fs h) : mid < h.sz ∧ vn < h.sz ∧ vc < h.sz := ⟨C.m.lt C.ok, C.n.lt C.ok, C.c.lt C.ok⟩
theorem Counts.grow {h0 h h' : AHeap} {b mid vn vc : Nat} {fs : List Fld} (C : Counts h0 b mid vn vc fs h) (e : Ext h h') (o : h'.Ok) : Counts h0 b mid vn vc fs h' :=
  ⟨C.ext.trans e, o, C.lo, C.n.ext e, C.c.ext e, C.m.ext e⟩

/-- One field more: the name's count. -/
theorem Counts.name {h0 h : AHeap} {b mid vn vc : Nat} {fs : List Fld} (k0 : h0.Ok) (C : Counts h0 b mid vn vc fs h) (f : Fld) (hlt : fs.length < lim) :
    ∃ h', mupdA h (.leaf .str) (.map mid) (.str f.name) (.int .i64 ((cnt f.name fs + 1 : Nat) : Int)) = some h' ∧ h'.sz = h.sz ∧ h'.Ok ∧ Ext h0 h' ∧ Var h' vn [.map mid] ∧ Var h' vc [.int .i64 (fs.length : Int)] ∧ StrMap h' mid (cntAt (fs ++ [f])) ∧
      (∀ j o, j ≠ mid → h.get j = some o → h'.get j = some o) := by
  obtain ⟨o, u1, u2⟩ := C.m.upd f.name (.int .i64 ((cnt f.name fs + 1 : Nat) : Int))
  rw [cntAt_next] at u2
  obtain ⟨l1, l2, l3⟩ := C.lt
  obtain ⟨a0, a1, a2, a3, a4, a5, a6⟩ := C.lo
  refine ⟨_, u1, by simp, C.ok.put l1 _, ext_put C.ext k0 (by omega) _, C.n.other (Ne.symm a4) _, C.c.other (Ne.symm a5) _, u2, fun j x hj hx => ?_⟩
  rw [get_put_ne hj]; exact hx

/-- ... and how many there are. -/
theorem bump {h : AHeap} {vc k : Nat} (V : Var h vc [.int .i64 (k : Int)]) (hk : k < lim) :
    storeA h 1 (.ptr vc 0 0 0) (.int .i64 ((k + 1 : Nat) : Int)) = some (h.put vc (.row (VRow [.int .i64 ((k + 1 : Nat) : Int)]))) := V.set1 (by simp) rfl

def fldOk (all : List Str) (f : Fld) : Bool := isName f.name && decide (0 ≤ f.ty) && decide (f.ty ≤ 5) && (decide (f.ty = 5) == !decide (f.cls = [])) && (!decide (f.ty = 5) || (idx f.cls all).isSome)

def goF (all : List Str) : List Fld → List Fld → Bool
  | _, [] => true
  | prev, f :: r => fldOk all f && decide (cnt f.name prev = 0) && goF all (prev ++ [f]) r

def upF (t : List Cls) (s : Str) : List Fld := (chain t s).flatMap Cls.fields

def fitsB (t : List Cls) (c : Cls) (all : List Str) : Bool :=
  isName c.name && !(idx c.name (names t)).isSome && (decide (c.super = []) || (idx c.super (names t)).isSome) && goF all (upF t c.super) c.fields && decide ((upF t c.super).length + c.fields.length ≤ 62)

theorem eqV_bool (h : AHeap) (a b : Bool) : eqV h true .bool (.bool a) (.bool b) = some (.bool (!(a == b))) := rfl

theorem field_chain (h : AHeap) (p : Nat) (f : Fld) (V : Var h p (encF f)) (nm : Bool) (k : AV → Bool) :
    (optB (notA (.bool nm)) fun v61 => optB (grdO (wantV v61 false) (fadrA 1 (.ptr p 0 0 0))) fun v62 => optB (grdO (wantV v61 false) (loadA h false 1 v62)) fun v63 => optB (grdO (wantV v61 false) (binA (BinOp.lss) v63 (AV.int (IntKind.i64) 0))) fun v64 => optB (pickV v61 (AV.bool true) v64) fun v65 => optB (grdO (wantV v65 false) (fadrA 1 (.ptr p 0 0 0))) fun v66 => optB (grdO (wantV v65 false) (loadA h false 1 v66)) fun v67 => optB (grdO (wantV v65 false) (binA (BinOp.gtr) v67 (AV.int (IntKind.i64) 5))) fun v68 => optB (pickV v65 (AV.bool true) v68) fun v69 => optB (grdO (wantV v69 false) (fadrA 1 (.ptr p 0 0 0))) fun v70 => optB (grdO (wantV v69 false) (loadA h false 1 v70)) fun v71 => optB (grdO (wantV v69 false) (binA (BinOp.eql) v71 (AV.int (IntKind.i64) 5))) fun v72 => optB (grdO (wantV v69 false) (fadrA 2 (.ptr p 0 0 0))) fun v73 => optB (grdO (wantV v69 false) (loadA h false 1 v73)) fun v74 => optB (grdO (wantV v69 false) (binA (BinOp.neq) v74 (AV.str []))) fun v75 => optB (grdO (wantV v69 false) (eqV h true (EqK.bool) v72 v75)) fun v76 => optB (pickV v69 (AV.bool true) v76) fun v77 => k v77)
    = k (.bool (!(nm && decide (0 ≤ f.ty) && decide (f.ty ≤ 5) && (decide (f.ty = 5) == !decide (f.cls = []))))) := by
  have t0 : decide (f.ty < 0) = !decide (0 ≤ f.ty) := by by_cases h : f.ty < 0 <;> simp [h] <;> omega
  have t5 : decide (5 < f.ty) = !decide (f.ty ≤ 5) := by by_cases h : 5 < f.ty <;> simp [h] <;> omega
  cases nm
  · simp
  · simp only [encF] at V
    by_cases a0 : 0 ≤ f.ty
    · by_cases a5 : f.ty ≤ 5
      · by_cases e5 : f.ty = 5 <;> by_cases ec : f.cls = [] <;> simp [V.load, t0, t5, a0, a5, e5, ec, eqV_bool]
      · simp [V.load, t0, t5, a0, a5]
    · simp [V.load, t0, t5, a0]
end Go.Proofs.Ytjdpdjmmbajglaa
