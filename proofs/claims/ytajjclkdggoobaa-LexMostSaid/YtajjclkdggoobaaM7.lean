/-
  LexMost, walked.
-/
import Derived.Test.YtajjclkdggoobaaM6
namespace Go.Proofs.Ytajjclkdggoobaa
open Go.Ab
set_option linter.unusedSimpArgs false
set_option linter.unusedVariables false

theorem setNth_set {α : Type} : ∀ (l : List α) (n : Nat) (y : α), setNth l n y = l.set n y
  | [], _, _ => rfl
  | x :: l, 0, y => rfl
  | x :: l, n + 1, y => by show x :: setNth l n y = x :: l.set n y; rw [setNth_set l n y]
theorem repl_len {α : Type} : ∀ (n : Nat) (x : α), (repl n x).length = n
  | 0, _ => rfl
  | n + 1, x => by show (repl n x).length + 1 = n + 1; rw [repl_len n x]
theorem repl_mem {α : Type} : ∀ (n : Nat) (x y : α), y ∈ repl n x → y = x
  | 0, _, _, h => by cases h
  | n + 1, x, y, h => by
    rcases List.mem_cons.1 h with e | h
    · exact e
    · exact repl_mem n x y h

/-- A slice of bytes with room behind them. -/
def Buf (h : AHeap) (id c : Nat) (s : Str) : Prop := ∃ es, h.row id = some { es, sz := 1, g := 0, m := 0, rw := true } ∧ es.length = c ∧ (∀ e ∈ es, e.length = 1) ∧ es.take s.length = encB s ∧ s.length ≤ c

theorem Buf.view {h : AHeap} {id c : Nat} {s : Str} (B : Buf h id c s) (ex : Bool) : View h 1 (.slc id 0 0 s.length c ex) (encB s) := by
  obtain ⟨es, h1, h2, h3, h4, h5⟩ := B
  have hl : (encB s).length = s.length := by simp [encB]
  exact .inr ⟨id, 0, 0, c, ex, _, by rw [hl], h1, Nat.le_refl _, rfl, by rw [List.drop_zero, hl]; exact h4, by rw [hl]; exact h5⟩

theorem Buf.str {h : AHeap} {id c : Nat} {s : Str} (B : Buf h id c s) (ex : Bool) (hb : ∀ b ∈ s, b < 256) : b2sA h (.slc id 0 0 s.length c ex) = some (.str s) := by
  have := (B.view ex).src
  simp only [b2sA, this, bytesOf_enc s hb]

theorem Buf.keep {h h' : AHeap} {id c : Nat} {s : Str} (B : Buf h id c s) (p : ∀ o, h.get id = some o → h'.get id = some o) : Buf h' id c s := by
  obtain ⟨es, h1, h2⟩ := B
  exact ⟨es, by rw [AHeap.row_some] at h1 ⊢; exact p _ h1, h2⟩

theorem mk_buf {h : AHeap} {c l : Nat} (hc : c ≤ 65536) (hl : l ≤ c) : mkslA h 1 1 [.int .u8 0] (.int .i64 (l : Int)) (.int .i64 (c : Int)) = some (.slc h.sz 0 0 l c true, Ab.newRow h (repl c [.int .u8 0]) 1) ∧ Buf (Ab.newRow h (repl c [.int .u8 0]) 1) h.sz c [] := by
  have hm : most = 1099511627776 := rfl
  refine ⟨?_, repl c [.int .u8 0], ?_, repl_len _ _, fun e he => by rw [repl_mem _ _ _ he]; rfl, by simp [encB], by simp⟩
  · have e : (Nat.ble l c && Nat.ble (c * 1) most && Nat.ble c most && Nat.beq [AV.int .u8 0].length 1 && Nat.blt 0 1 && allLeaf [AV.int .u8 0]) = true := by
      rw [nble_true.2 hl, nble_true.2 (show c * 1 ≤ most by omega), nble_true.2 (show c ≤ most by omega)]; rfl
    simp only [mkslA, asNat_nat, e, cond_true]
  · rw [AHeap.row_some]; exact get_push_same _ _

/-- Two bytes more, in its room. -/
theorem Buf.app {h0 h : AHeap} {id c : Nat} {s new : Str} {x : AV} {e : Nat} (B : Buf h id c s) (ho : h.Ok) (k0 : h0.Ok) (e0 : Ext h0 h) (hid : h0.sz ≤ id) (hx : source h 1 x = some (encB new)) (hn : new ≠ []) (hc : s.length + new.length ≤ c) (hc2 : c ≤ 65536) :
    ∃ h', appbA h e (.slc id 0 0 s.length c true) x = some (.slc id 0 0 (s ++ new).length c true, h') ∧ Buf h' id c (s ++ new) ∧ h'.Ok ∧ Ext h0 h' := by
  obtain ⟨es, h1, h2, h3, h4, h5⟩ := B
  have hm : most = 1099511627776 := rfl
  have hl : (encB new).length = new.length := by simp [encB]
  have hls : (encB s).length = s.length := by simp [encB]
  have hidl := ho.lt (AHeap.row_some.1 h1)
  have hlay : (lay es s.length (encB new)).length = c := by rw [lay_len (by rw [hl, h2]; omega), h2]
  refine ⟨h.put id (.row { es := lay es s.length (encB new), sz := 1, g := 0, m := 0, rw := true }), ?_, ⟨lay es s.length (encB new), by rw [AHeap.row_some]; exact get_put_same _ _ _, hlay, ?_, ?_, by rw [List.length_append]; exact hc⟩, ho.put hidl _, ext_put e0 k0 hid _⟩
  · have hz : Nat.beq 1 0 = false := rfl
    simp only [appbA, appendA, hz, cond_false, hx]
    match henc : encB new, hn with
    | [], _ =>
      have : new.length = 0 := by rw [← hl, henc]; rfl
      exact absurd (List.length_eq_zero_iff.1 this) hn
    | y :: ys, _ =>
      rw [henc] at hl
      simp only [appendNew, h1]
      have q1 : (Nat.ble ((s.length + (y :: ys).length) * 1) most && Nat.ble (s.length + (y :: ys).length) most && Nat.beq 1 1) = true := by
        rw [hl, nble_true.2 (show (s.length + new.length) * 1 ≤ most by omega), nble_true.2 (show s.length + new.length ≤ most by omega)]; rfl
      have q2 : Nat.ble (s.length + (y :: ys).length) c = true := nble_true.2 (by rw [hl]; exact hc)
      have q3 : (true && Nat.beq 0 0) = true := rfl
      rw [q1, cond_true, q2, cond_true, q3, cond_true, Nat.zero_add, hl, List.length_append]
  · intro b hb
    simp only [lay, List.mem_append] at hb
    rcases hb with (hb | hb) | hb
    · exact h3 b (List.mem_of_mem_take hb)
    · simp only [encB, List.mem_map] at hb
      obtain ⟨c', _, rfl⟩ := hb; rfl
    · exact h3 b (List.mem_of_mem_drop hb)
  · rw [List.length_append]
    simp only [lay]
    rw [h4, List.take_append_of_le_length (by rw [List.length_append, hls, hl]; omega), List.take_of_length_le (by rw [List.length_append, hls, hl]; omega)]
    simp [encB]
end Go.Proofs.Ytajjclkdggoobaa
