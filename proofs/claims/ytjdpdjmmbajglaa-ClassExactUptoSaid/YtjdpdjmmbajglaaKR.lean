/-
  What is one's own is written over: classes and their fields.
-/
import Derived.Test.YtjdpdjmmbajglaaKQ
namespace Go.Proofs.Ytjdpdjmmbajglaa
open Go.Ab
set_option linter.unusedSimpArgs false
set_option linter.unusedVariables false

def FE (b T M : Nat) (h : AHeap) (e : List AV) : Prop := ∃ (s u : Str) (v : AV) (fs : List Fld), e = [.str s, .str u, v] ∧ Own b h 3 v (fs.map encF) ∧ VLt T v ∧ fs.length ≤ M
structure CI (b T M : Nat) (h : AHeap) (x : AV) (es : List (List AV)) : Prop where
  own : Own b h 3 x es
  lt : VLt T x
  fs : ∀ e ∈ es, FE b T M h e

def sOver : Str := [111, 118, 101, 114]
def sOver' : Str := [79, 118, 101, 114]

theorem slc_inj {i j a b c d e f g k : Nat} {x y : Bool} (h : AV.slc i a b c d x = AV.slc j e f g k y) : i = j := by cases h; rfl

theorem encF_set {fs : List Fld} {k : Nat} (hk : k < fs.length) (w : Str) : (fs.map encF).set k ((encF fs[k]).set 0 (.str w)) = (fs.set k ⟨w, fs[k].ty, fs[k].cls⟩).map encF := by
  rw [List.map_set]; rfl

/-- A field's name is written over. -/
theorem CI.fld {b T M : Nat} {h : AHeap} {x v : AV} {es : List (List AV)} {s u : Str} {fs : List Fld} (C : CI b T M h x es) (he : [AV.str s, AV.str u, v] ∈ es) (O : Own b h 3 v (fs.map encF)) (hv : VLt T v) {k : Nat} (hk : k < fs.length) :
    ∃ id g obj, (∀ j, iadrA h 3 v (.int j (k : Int)) = some (.ptr id g k 0)) ∧ b ≤ id ∧ id < T ∧ storeA h 1 (.ptr id g k 0) (.str sOver) = some (h.put id obj) ∧ CI b T M (h.put id obj) x es ∧ (∃ r, h.get id = some (.row r)) ∧ ∃ fs' : List Fld, Own b (h.put id obj) 3 v (fs'.map encF) ∧ fs'.length = fs.length := by
  obtain ⟨id, g, obj, p1, p2, p3, p4, ⟨s4, l4, c4, ex4, hv4⟩, p6⟩ := O.store1 (i := k) (o := 0) (e := encF fs[k]) (w := .str sOver) (by simp [hk]) (by simp [encF]) rfl
  rw [encF_set hk] at p4
  refine ⟨id, g, obj, p1, p2, hv _ _ _ _ _ _ hv4, p3, ⟨?_, C.lt, ?_⟩, p6, _, p4, by simp⟩
  · refine C.own.put_ne ?_ _
    intro i2 g2 s2 l2 c2 ex2 hx hi
    exact rows_ne C.own he O id ⟨_, _, _, _, _, hv4⟩ _ _ _ _ _ _ hx hi.symm
  · intro e' he'
    obtain ⟨s', u', v', fs', rfl, O', lt', ml'⟩ := C.fs e' he'
    rcases O' with ⟨rfl, hn⟩ | ⟨i2, r2, w1, rfl, w3, w4, w5, w6, w7⟩
    · exact ⟨s', u', .nilSlc, fs', rfl, .inl ⟨rfl, hn⟩, lt', ml'⟩
    · by_cases hi : i2 = id
      · subst hi
        rcases O with ⟨rfl, _⟩ | ⟨i3, r3, z1, rfl, z3, z4, z5, z6, z7⟩
        · cases hv4
        · have := slc_inj hv4
          subst this
          rw [w3] at z3; cases z3
          have hm : fs'.map encF = fs.map encF := by rw [← w7, ← z7]
          have hl : fs'.length = fs.length := by have := congrArg List.length hm; simpa using this
          refine ⟨s', u', _, fs.set k ⟨sOver, fs[k].ty, fs[k].cls⟩, rfl, ?_, lt', by simp; omega⟩
          rw [hm]
          exact p4
      · refine ⟨s', u', _, fs', rfl, ?_, lt', ml'⟩
        have O' : Own b h 3 (.slc i2 r2.g 0 (fs'.map encF).length (fs'.map encF).length false) (fs'.map encF) := .inr ⟨i2, r2, w1, rfl, w3, w4, w5, w6, w7⟩
        exact O'.put_ne (fun a b c d e f hh => by rw [← slc_inj hh]; exact hi) _

/-- A class's name is written over. -/
theorem CI.name {b T M : Nat} {h : AHeap} {x : AV} {es : List (List AV)} (C : CI b T M h x es) {i : Nat} (hi : i < es.length) :
    ∃ id g obj es', (∀ j, iadrA h 3 x (.int j (i : Int)) = some (.ptr id g i 0)) ∧ b ≤ id ∧ id < T ∧ storeA h 1 (.ptr id g i 0) (.str sOver') = some (h.put id obj) ∧ CI b T M (h.put id obj) x es' ∧ es'.length = es.length ∧ (∃ r, h.get id = some (.row r)) := by
  have hm := List.getElem_mem hi
  obtain ⟨s, u, v, fs, he, O, lt, ml⟩ := C.fs _ hm
  obtain ⟨id, g, obj, p1, p2, p3, p4, ⟨s4, l4, c4, ex4, hv4⟩, p6⟩ := C.own.store1 (i := i) (o := 0) (e := es[i]) (w := .str sOver') (by simp [hi]) (by rw [he]; simp) rfl
  have keepF : ∀ e ∈ es, FE b T M (h.put id obj) e := by
    intro e' he'
    obtain ⟨s', u', v', fs', rfl, O', lt', ml'⟩ := C.fs e' he'
    refine ⟨s', u', v', fs', rfl, O'.put_ne ?_ _, lt', ml'⟩
    intro i2 g2 s2 l2 c2 ex2 hx hi2
    exact rows_ne C.own he' O' i2 ⟨_, _, _, _, _, hx⟩ _ _ _ _ _ _ hv4 hi2
  refine ⟨id, g, obj, es.set i (es[i].set 0 (.str sOver')), p1, p2, C.lt _ _ _ _ _ _ hv4, p3, ⟨p4, C.lt, ?_⟩, by simp, p6⟩
  intro e' he'
  rcases List.mem_or_eq_of_mem_set he' with h1 | rfl
  · exact keepF e' h1
  · obtain ⟨s', u', v', fs', hh, O', lt', ml'⟩ := keepF _ hm
    rw [hh]
    exact ⟨sOver', u', v', fs', rfl, O', lt', ml'⟩

structure WI (h0 hT : AHeap) (T : Nat) (h : AHeap) : Prop where
  ext : Ext h0 h
  ok : h.Ok
  keep : ∀ j o, T ≤ j → hT.get j = some o → h.get j = some o

theorem WI.put {h0 hT h : AHeap} {T id : Nat} {r : Row} (W : WI h0 hT T h) (k0 : h0.Ok) (h1 : h0.sz ≤ id) (h2 : id < T) (h3 : h.get id = some (.row r)) (o : AObj) : WI h0 hT T (h.put id o) := by
  refine ⟨ext_put W.ext k0 h1 _, W.ok.put (W.ok.lt h3) _, fun j x hj hx => ?_⟩
  rw [AHeap.get_put, if_neg (by omega)]
  exact W.keep j x hj hx

theorem l31 {n : Nat} {h0 hT : AHeap} {x1 x3 x4 x5 v : AV} {es : List (List AV)} {i T M : Nat} {s u : Str} {B : AV → AV → AV → AV → AV → AHeap → Bool} {K : Kont} (k0 : h0.Ok) (he : es[i]? = some [.str s, .str u, v]) (hM : M < lim)
    (k : ∀ h', WI h0 hT T h' → CI h0.sz T M h' x3 es → p3_42 (callN E n) n B x1 x3 x4 x5 (.int .i64 (i : Int)) h' K = true) :
    ∀ (m j : Nat) (h : AHeap) (fs : List Fld), WI h0 hT T h → CI h0.sz T M h x3 es → Own h0.sz h 3 v (fs.map encF) → VLt T v → fs.length ≤ M → j ≤ fs.length → fs.length - j < m →
      l3_31 (callN E n) n B m x1 x3 x4 x5 (.int .i64 (i : Int)) (.int .i64 (j : Int)) h K = true := by
  intro m
  induction m with
  | zero => intro j h fs _ _ _ _ _ _ hm; omega
  | succ m ih =>
    intro j h fs W C O lt ml hj hm
    rw [l3_31_s]
    unfold b3_31
    obtain ⟨id, g, o, q1, q2⟩ := C.own.view.at he
    have q3 : loadA h false 1 (.ptr id g o 2) = some v := by rw [q2]; rfl
    have hl := O.view.len
    rw [List.length_map] at hl
    rw [q1, optB_some, fadrA_ptr, optB_some, Nat.zero_add, q3, optB_some, hl, optB_some, binA_lss, optB_some]
    by_cases hlt : j < fs.length
    · obtain ⟨i2, g2, obj, p1, p2, p3, p4, p5, ⟨r, p6⟩, fs', p7, p8⟩ := C.fld (List.mem_of_getElem? he) O lt hlt
      rw [condB_t (by simpa using hlt), optB_some, fadrA_ptr, optB_some, Nat.zero_add, q3, optB_some, p1, optB_some, fadrA_ptr, optB_some, Nat.zero_add]
      unfold sOver at p4
      rw [p4]
      simp only [unit, Option.map_some, optP_some]
      rw [inc64 (by omega), optB_some]
      exact ih (j + 1) _ fs' (W.put k0 p2 p3 p6 _) p5 p7 lt (by omega) (by omega) (by omega)
    · rw [condB_f (by simpa using hlt)]
      exact k h W C

theorem l18w {n : Nat} {h0 hT : AHeap} {x1 x3 x4 x5 : AV} {T M : Nat} {K : Kont} (k0 : h0.Ok) (hM : M < n) (hn : n < lim)
    (k : ∀ h', WI h0 hT T h' → p3_44 (callN E n) n x1 x4 x5 h' K = true) :
    ∀ (m i : Nat) (h : AHeap) (es : List (List AV)), WI h0 hT T h → CI h0.sz T M h x3 es → es.length < lim → i ≤ es.length → es.length - i < m →
      l3_18 (callN E n) n m x1 x3 x4 x5 (.int .i64 (i : Int)) h K = true := by
  intro m
  induction m with
  | zero => intro i h es _ _ _ _ hm; omega
  | succ m ih =>
    intro i h es W C hL hi hm
    rw [l3_18_s]
    unfold b3_18
    rw [C.own.view.len, optB_some, binA_lss, optB_some]
    by_cases hlt : i < es.length
    · have hci := List.getElem?_eq_getElem hlt
      obtain ⟨s, u, v, fs, he, O, lt, ml⟩ := C.fs _ (List.getElem_mem hlt)
      rw [he] at hci
      rw [condB_t (by simpa using hlt)]
      unfold p3_25
      refine l31 k0 hci (by omega) ?_ n 0 h fs W C O lt ml (Nat.zero_le _) (by omega)
      intro h1 W1 C1
      unfold p3_42
      obtain ⟨id, g, obj, es', p1, p2, p3, p4, p5, p6, ⟨r, p7⟩⟩ := C1.name hlt
      unfold sOver' at p4
      rw [p1, optB_some, fadrA_ptr, optB_some, Nat.zero_add, p4]
      simp only [unit, Option.map_some, optP_some]
      unfold p3_43
      rw [inc64 (by omega), optB_some]
      exact ih (i + 1) _ es' (W1.put k0 p2 p3 p7 _) p5 (by omega) (by omega) (by omega)
    · rw [condB_f (by simpa using hlt)]
      exact k h W
end Go.Proofs.Ytjdpdjmmbajglaa
