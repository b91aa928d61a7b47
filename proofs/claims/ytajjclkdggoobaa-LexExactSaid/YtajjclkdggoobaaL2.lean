/-
  strings.Builder, byte by byte.
-/
import Derived.Test.YtajjclkdggoobaaL1
namespace Go.Proofs.Ytajjclkdggoobaa
open Go.Ab
set_option linter.unusedSimpArgs false
set_option linter.unusedVariables false

def BRow (p buf : AV) : Row := { es := [[p, buf]], sz := 2, g := 0, m := 0, rw := true, ty := some 41 }

theorem brow_load {h : AHeap} {id : Nat} {p buf : AV} (V : h.row id = some (BRow p buf)) (ag : Bool) (off n : Nat) : loadA h ag n (.ptr id 0 0 off) = partA ag off n [p, buf] := by
  simp only [loadA, V, BRow, Nat.ble_self_eq_true, cond_true, nth_zero]
theorem brow_set0 {h : AHeap} {id : Nat} {p buf v : AV} (V : h.row id = some (BRow p buf)) (hv : v.leaf = true) : storeA h 1 (.ptr id 0 0 0) v = some (h.put id (.row (BRow v buf))) := by
  have hc := cells_leaf hv
  simp only [storeA, V, BRow, hc, Nat.beq_refl, allLeaf, hv, List.length_cons, List.length_nil, Bool.and_self, cond_true, nth_zero, setNth, lay]
  rfl
theorem brow_set1 {h : AHeap} {id : Nat} {p buf v : AV} (V : h.row id = some (BRow p buf)) (hv : v.leaf = true) : storeA h 1 (.ptr id 0 0 1) v = some (h.put id (.row (BRow p v))) := by
  have hc := cells_leaf hv
  simp only [storeA, V, BRow, hc, Nat.beq_refl, allLeaf, hv, List.length_cons, List.length_nil, Bool.and_self, cond_true, nth_zero, setNth, lay]
  rfl

/-- The Builder at 'id' holds these bytes. -/
structure Bld (h : AHeap) (id : Nat) (s : Str) : Prop where
  ex : ∃ p buf, h.row id = some (BRow p buf) ∧ (p = .nilPtr ∨ p = .ptr id 0 0 0) ∧ Own (id + 1) h 1 buf (encB s) ∧ TyOf h buf 5 ∧ (s = [] → buf = .nilSlc)
  bytes : ∀ b ∈ s, b < 256

theorem bld_new {h : AHeap} (k : h.Ok) : allotV h 41 [AV.nilPtr, AV.nilSlc] = some (.ptr h.sz 0 0 0, Ab.newRow h [[AV.nilPtr, AV.nilSlc]] 2 (some 41)) ∧ Bld (Ab.newRow h [[AV.nilPtr, AV.nilSlc]] 2 (some 41)) h.sz [] ∧ (Ab.newRow h [[AV.nilPtr, AV.nilSlc]] 2 (some 41)).Ok ∧ Ext h (Ab.newRow h [[AV.nilPtr, AV.nilSlc]] 2 (some 41)) := by
  refine ⟨rfl, ⟨⟨.nilPtr, .nilSlc, ?_, .inl rfl, Own.nil _ _ _, ?_, fun _ => rfl⟩, fun b hb => by cases hb⟩, k.push _, ext_push k _⟩
  · rw [AHeap.row_some]; exact get_push_same _ _
  · intro id g s l c ex hv; cases hv

theorem c34 {n a b c d : Nat} {h : AHeap} {K : Kont} (k : K (.ptr a b c d) h = true) : callN E (n + 1) (.func 34) [.ptr a b c d] h K = true := by
  show noEsc (callN E n) n [.ptr a b c d] h K = true
  exact k

theorem c25 {n id : Nat} {p buf : AV} {h : AHeap} {K : Kont} (V : h.row id = some (BRow p buf)) (hp : p = .nilPtr ∨ p = .ptr id 0 0 0) (ho : h.Ok)
    (k : ∀ h', But id h h' → h'.Ok → h'.row id = some (BRow (.ptr id 0 0 0) buf) → K (.tup []) h' = true) : callN E (n + 2) (.func 25) [.ptr id 0 0 0] h K = true := by
  apply d25
  unfold s25
  have hid := ho.lt (AHeap.row_some.1 V)
  have L0 : loadA h false 1 (.ptr id 0 0 0) = some p := by rw [brow_load V]; rfl
  simp only [nilckA_ptr, fadrA_ptr, optB_some, Nat.zero_add, L0]
  rcases hp with rfl | rfl
  · have e1 : eqV h false .ptr .nilPtr .nilPtr = some (.bool true) := rfl
    have e2 : utoA h (.ptr id 0 0 0) = some (.ptr id 0 0 0) := by simp only [utoA, V, BRow]; rfl
    rw [e1, optB_some, condB_true, e2, optB_some]
    refine c34 ?_
    have e3 : ufrA h 41 2 (.ptr id 0 0 0) = some (.ptr id 0 0 0) := by simp only [ufrA, V, BRow]; rfl
    simp only [e3, optB_some, nilckA_ptr, fadrA_ptr, Nat.zero_add, brow_set0 V (show (AV.ptr id 0 0 0).leaf = true from rfl), unit, optP_some]
    exact k _ (But.put _ _ _) (ho.put hid _) (by rw [AHeap.row_some]; exact get_put_same _ _ _)
  · have e1 : eqV h false .ptr (.ptr id 0 0 0) .nilPtr = some (.bool false) := rfl
    have e2 : eqV h true .ptr (.ptr id 0 0 0) (.ptr id 0 0 0) = some (.bool false) := by
      simp only [eqV, eqA, eqPtr, V, BRow, Nat.beq_refl, cond_true]
      rfl
    rw [e1, optB_some, condB_false, e2, optB_some, condB_false]
    exact k _ (But.refl _ _) ho V

theorem c19 {n id b : Nat} {s : Str} {h h0 : AHeap} {K : Kont} (B : Bld h id s) (ho : h.Ok) (ho0 : h0.Ok) (e0 : Ext h0 h) (hid : h0.sz ≤ id) (hl : s.length + 1 ≤ most) (hb : b < 256)
    (k : ∀ h', Ext h0 h' → h'.Ok → Bld h' id (s ++ [b]) → K .nilIf h' = true) : callN E (n + 3) (.func 19) [.ptr id 0 0 0, .int .u8 (b : Int)] h K = true := by
  apply d19
  unfold s19
  obtain ⟨⟨p, buf, V, hp, O, T, hn⟩, hB⟩ := B
  refine c25 V hp ho ?_
  intro h1 B1 o1 V1
  have x1 := B1.ext e0 ho0 hid
  have id1 : id < h1.sz := o1.lt (AHeap.row_some.1 V1)
  have O1 := B1.own O (by omega)
  have T1 : TyOf h1 buf 5 := keep_ty T fun i g st l c ex o hv ho => by
    rcases O with ⟨rfl, _⟩ | ⟨i', r, q1, q2, _⟩
    · cases hv
    · rw [q2] at hv; cases hv
      exact B1.keep _ _ (by omega) ho
  have L1 : loadA h1 false 1 (.ptr id 0 0 1) = some buf := by rw [brow_load V1]; rfl
  simp only [nilckA_ptr, fadrA_ptr, optB_some, Nat.zero_add, L1]
  obtain ⟨v, g1, W⟩ := bslice_view (h := h1) (n := 1) (sz := 1) (z := [AV.int .u8 0]) (ps := [(0, .int .u8 (b : Int))]) (es := [[.int .u8 (b : Int)]]) rfl (by decide) (by decide) rfl rfl rfl
  rw [g1, optP_some]
  have e2 := ext_newRow o1 [[AV.int .u8 (b : Int)]] 1
  have o2 := ok_newRow o1 [[AV.int .u8 (b : Int)]] 1
  have z2 : (Ab.newRow h1 [[AV.int .u8 (b : Int)]] 1).sz = h1.sz + 1 := rfl
  have T2 : TyOf (Ab.newRow h1 [[AV.int .u8 (b : Int)]] 1) buf 5 := keep_ty T1 fun _ _ _ _ _ _ _ _ hg => e2.2 _ _ hg
  generalize Ab.newRow h1 [[AV.int .u8 (b : Int)]] 1 = h2 at *
  obtain ⟨v', h3, a1, a2, a3, a4, a5, a6, _, a8⟩ := (O1.ext e2).appb (e := 5) (by omega) o2 ho0 (x1.trans e2) (by omega) W.src (by simpa [encB] using hl)
  rw [a1, optP_some]
  have V3 : h3.row id = some (BRow (.ptr id 0 0 0) buf) := by
    rw [AHeap.row_some]
    refine a6 _ _ (e2.2 _ _ (AHeap.row_some.1 V1)) ?_
    intro i g st l c ex hv
    rcases O with ⟨rfl, _⟩ | ⟨i', r, q1, q2, _⟩
    · cases hv
    · rw [q2] at hv; cases hv; omega
  have id3 : id < h3.sz := a3.lt (AHeap.row_some.1 V3)
  rw [brow_set1 V3 a2.view.leaf, unit, optP_some]
  refine k _ (ext_put a4 ho0 hid _) (a3.put id3 _) ⟨⟨.ptr id 0 0 0, v', by rw [AHeap.row_some]; exact get_put_same _ _ _, .inr rfl, ?_, ?_, fun h => by simp at h⟩, ?_⟩
  · have : encB (s ++ [b]) = encB s ++ [[.int .u8 (b : Int)]] := by simp [encB]
    rw [this]
    exact keep_own a2 fun j o hj g => by rw [get_put_ne (by omega)]; exact g
  · refine keep_ty (a8 T2) fun i g st l c ex o hv hg => ?_
    rcases a2 with ⟨rfl, _⟩ | ⟨i', r, q1, q2, _⟩
    · cases hv
    · rw [q2] at hv; cases hv
      rw [get_put_ne (by omega)]; exact hg
  · intro c hc
    rcases List.mem_append.1 hc with hc | hc
    · exact hB c hc
    · simp only [List.mem_singleton] at hc; omega

theorem c21 {n id : Nat} {s : Str} {h h0 : AHeap} {K : Kont} (B : Bld h id s) (ho : h.Ok) (ho0 : h0.Ok) (e0 : Ext h0 h) (hid : h0.sz ≤ id) (hl : s.length ≤ most)
    (k : ∀ h', Ext h0 h' → h'.Ok → K (.str s) h' = true) : callN E (n + 1) (.func 21) [.ptr id 0 0 0] h K = true := by
  apply d21
  unfold s21
  obtain ⟨⟨p, buf, V, hp, O, T, hn⟩, hB⟩ := B
  have L1 : loadA h false 1 (.ptr id 0 0 1) = some buf := by rw [brow_load V]; rfl
  simp only [nilckA_ptr, fadrA_ptr, optB_some, Nat.zero_add, L1, O.view.len]
  by_cases hs : s = []
  · subst hs
    rw [hn rfl]
    exact k _ e0 ho
  · rcases O with ⟨rfl, he⟩ | ⟨i, r, q1, rfl, q3, q4, q5, q6, q7⟩
    · cases s with
      | nil => exact absurd rfl hs
      | cons b s => simp [encB] at he
    · obtain ⟨r', t1, t2⟩ := T _ _ _ _ _ _ rfl
      rw [q3] at t1; cases t1
      have hpos : 0 < (encB s).length := by cases s with | nil => exact absurd rfl hs | cons b s => simp [encB]
      have hlen : (encB s).length = s.length := by simp [encB]
      have e1 : sdatA (.slc i r.g 0 (encB s).length (encB s).length false) = some (.ptr i r.g 0 0) := by simp only [sdatA, nblt_true.2 hpos, cond_true]
      have hk : Nat.beq (encB s).length 0 = false := nbeq_false.2 (by omega)
      have e2 : ustrA h 5 (.ptr i r.g 0 0) (.int .i64 ((encB s).length : Int)) = some (.str s, h.put i .gone) := by
        show ustrA h 5 (.ptr i r.g 0 0) (.int .i64 (.ofNat (encB s).length)) = _
        simp only [ustrA, hk, cond_false, q3, t2, q4, Nat.beq_refl, q6, nble_true.2 (show (encB s).length ≤ most by omega), Bool.and_self, cond_true, q7, List.take_length, bytesOf_enc s hB]
      rw [e1, optB_some, e2, optP_some]
      exact k _ (ext_put e0 ho0 (by omega) _) (ho.put (ho.lt (AHeap.row_some.1 q3)) _)
end Go.Proofs.Ytajjclkdggoobaa
