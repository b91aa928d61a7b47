/-
  LexMost, walked: the law itself.
-/
import Derived.Test.YtajjclkdggoobaaM7
namespace Go.Proofs.Ytajjclkdggoobaa
open Go.Ab
set_option linter.unusedSimpArgs false
set_option linter.unusedVariables false

theorem Buf.store {h0 h : AHeap} {id c : Nat} {s : Str} (B : Buf h id c s) (ho : h.Ok) (k0 : h0.Ok) (e0 : Ext h0 h) (hid : h0.sz ≤ id) (hs : s.length < c) (b : Nat) :
    ∃ h', iadrA h 1 (.slc id 0 0 c c true) (.int .i64 (s.length : Int)) = some (.ptr id 0 s.length 0) ∧ storeA h 1 (.ptr id 0 s.length 0) (.int .u8 (b : Int)) = some h' ∧ Buf h' id c (s ++ [b]) ∧ h'.Ok ∧ Ext h0 h' ∧ But id h h' := by
  obtain ⟨es, h1, h2, h3, h4, h5⟩ := B
  have hlt : s.length < es.length := by omega
  have hge : es[s.length]? = some (es[s.length]'hlt) := List.getElem?_eq_getElem hlt
  have hl1 : (es[s.length]'hlt).length = 1 := h3 _ (List.getElem_mem hlt)
  have hls : (encB s).length = s.length := by simp [encB]
  refine ⟨h.put id (.row { es := es.set s.length [.int .u8 (b : Int)], sz := 1, g := 0, m := 0, rw := true }), ?_, ?_, ⟨es.set s.length [.int .u8 (b : Int)], by rw [AHeap.row_some]; exact get_put_same _ _ _, by rw [List.length_set]; exact h2, ?_, ?_, by simp; omega⟩, ho.put (ho.lt (AHeap.row_some.1 h1)) _, ext_put e0 k0 hid _, But.put _ _ _⟩
  · have hr : rowSz h id 1 = true := by simp only [rowSz, h1]; rfl
    simp only [iadrA, asNat_nat, nblt_true.2 hs, hr, Bool.and_self, cond_true, Nat.zero_add]
  · have hn : nth es s.length = some (es[s.length]'hlt) := by rw [nth_eq]; exact hge
    have hy : lay (es[s.length]'hlt) 0 (AV.int .u8 (b : Int)).cells = [.int .u8 (b : Int)] := by
      match hq : es[s.length]'hlt, hl1 with
      | [_], _ => rfl
    have q : (true && Nat.beq 0 0 && Nat.beq (AV.int .u8 (b : Int)).cells.length 1 && allLeaf (AV.int .u8 (b : Int)).cells) = true := rfl
    have q2 : Nat.ble (0 + 1) (es[s.length]'hlt).length = true := nble_true.2 (by omega)
    simp only [storeA, h1]
    rw [q, cond_true, hn]
    simp only
    rw [q2, cond_true, hy, setNth_set]
  · intro e he
    rcases List.mem_or_eq_of_mem_set he with he | he
    · exact h3 e he
    · rw [he]; rfl
  · rw [List.length_append, List.length_cons, List.length_nil, List.take_add_one, List.getElem?_set_self hlt, List.take_set_of_le (Nat.le_refl _), h4]
    simp [encB]

theorem l729 {n N ida : Nat} {h0 : AHeap} {x3 : AV} {L : Nat} {r : List Lx} {K : Kont} (k0 : h0.Ok) (hN : N = 65536) (hn : 65536 < n) (W : View h0 4 x3 (r.map encL)) (hr : r.length = 4096) (hL : L = 8192) (k : ∀ h', Ext h0 h' → h'.Ok → K (.bool true) h' = true) :
    ∀ (m i : Nat) (h : AHeap), Ext h0 h → h.Ok → Buf h h0.sz N (List.replicate i 32) → i ≤ N → N - i < m →
      l7_29 (callN E (n + 10)) (n + 10) m (.slc ida 0 0 L 8192 true) x3 (.int .i64 0) (.int .i64 8192) (.int .i64 20) (.slc h0.sz 0 0 N N true) (.int .i64 (i : Int)) h K = true := by
  have hlim : 100000 < lim := by decide
  have hm' : most = 1099511627776 := rfl
  intro m
  induction m with
  | zero => intro i h _ _ _ _ hm; omega
  | succ m ih =>
    intro i h e o B hi hm
    unfold l7_29 b7_29
    have hrep : (List.replicate i 32).length = i := by simp
    rw [o_of (show lenA h 1 (.slc h0.sz 0 0 N N true) = some (.int .i64 (N : Int)) from rfl), o_lss]
    by_cases hlt : i < N
    · rw [condB_t (decide_eq_true (by omega))]
      obtain ⟨h', q1, q2, B', o', e', _⟩ := B.store o k0 e (Nat.le_refl _) (by rw [hrep]; exact hlt) 32
      rw [hrep] at q1 q2
      have q2' : storeA h 1 (.ptr h0.sz 0 i 0) (AV.int .u8 32) = some h' := q2
      rw [o_of q1, u_of q2', o_of (inc64 (show i < lim by omega))]
      refine ih (i + 1) h' e' o' ?_ (by omega) (by omega)
      rw [List.replicate_succ']; exact B'
    · rw [condB_f (decide_eq_false (by omega))]
      have hiN : i = N := by omega
      subst hiN
      have hbb : ∀ b ∈ List.replicate i 32, b < 256 := fun b hb => by rw [List.eq_of_mem_replicate hb]; decide
      have bs := B.str true hbb
      rw [hrep] at bs
      unfold p7_40
      rw [o_of bs]
      refine c8 (n := n + 1) o hbb (fun _ => by rw [hrep]; omega) (by omega) fun v1 h1 e1 o1 A1 => ?_
      have A1 := ans_small A1 (by rw [hrep]; omega)
      rw [most3] at A1
      obtain ⟨u1, rfl, _⟩ := A1
      show (optB _ _) = true
      rw [o_ext0, o_ext1, o_ext2]
      have B1 := B.keep (h' := h1) fun x hx => e1.2 _ _ hx
      have bs1 := B1.str true hbb
      rw [hrep] at bs1
      rw [o_of bs1, o_of (sadd' (a := List.replicate i 32) (b := [32]) (by rw [hrep]; simp only [List.length_cons, List.length_nil]; omega))]
      have hbig : (List.replicate i 32 ++ [32]).length = i + 1 := by rw [List.length_append, hrep]; rfl
      refine c8 (n := n + 1) o1 (fun b hb => ?_) (fun hh => by rw [hbig] at hh; omega) (by omega) fun v2 h2 e2 o2 A2 => ?_
      · rcases List.mem_append.1 hb with hb | hb
        · exact hbb b hb
        · simp only [List.mem_singleton] at hb; omega
      unfold ans8 at A2
      rw [hbig, if_pos (by omega)] at A2
      subst A2
      show (optB _ _) = true
      have W2 := W.ext (e.trans (e1.trans e2))
      rw [o_ext0, o_ext1, o_ext2, o_of (show binA .eql (.int .i64 0) (AV.int .i64 0) = some (.bool true) from rfl)]
      rw [g_tt, o_some, g_tt, o_of W2.len, g_tt, List.length_map, hr, o_of (show binA .eql (.int .i64 ((4096 : Nat) : Int)) (AV.int .i64 4096) = some (.bool true) from rfl), k_t]
      rw [g_tt, o_some, g_tt, o_of (show binA .eql (.int .i64 20) (AV.int .i64 20) = some (.bool true) from rfl), k_t]
      rw [g_tt, o_some, g_tt, o_some, g_tt, o_of (show lenA h2 1 (.slc ida 0 0 L 8192 true) = some (.int .i64 (L : Int)) from rfl), g_tt, hL, o_of (show binA .eql (.int .i64 8192) (.int .i64 ((8192 : Nat) : Int)) = some (.bool true) from rfl), k_t]
      rw [g_tt, o_some, g_tt, o_of (show binA .eql (.int .i64 0) (AV.int .i64 0) = some (.bool true) from rfl), k_t]
      rw [g_tt, o_some, g_tt, o_of (show binA .eql (.int .i64 21) (AV.int .i64 21) = some (.bool true) from rfl), k_t, gc_tt]
      refine c14 (n := n) o2 (by omega) fun h3 e3 o3 => ?_
      show (optB (pickV _ (.bool true) _) _) = true
      rw [k_t]
      exact k h3 (e.trans (e1.trans (e2.trans e3))) o3

theorem p719 {n ida : Nat} {h : AHeap} {K : Kont} {S : Str} (ho : h.Ok) (hS : S = aas 4096) (hn : 65536 < n) (B : Buf h ida 8192 S) (k : ∀ h', Ext h h' → h'.Ok → K (.bool true) h' = true) :
    p7_19 (callN E (n + 10)) (n + 10) (.slc ida 0 0 S.length 8192 true) h K = true := by
  have hm' : most = 1099511627776 := rfl
  have hl : S.length = 8192 := by rw [hS]; exact aas_len 4096
  have hbb : ∀ b ∈ S, b < 256 := by
    have : ∀ j, ∀ b ∈ aas j, b < 256 := by
      intro j
      induction j with
      | zero => intro b hb; cases hb
      | succ j ih =>
        intro b hb
        rcases List.mem_cons.1 hb with e | hb
        · omega
        · rcases List.mem_cons.1 hb with e | hb
          · omega
          · exact ih b hb
    rw [hS]; exact this 4096
  unfold p7_19
  rw [o_of (B.str true hbb)]
  refine c8 (n := n + 1) ho hbb (fun _ => by omega) (by omega) fun v1 h1 e1 o1 A1 => ?_
  have A1 := ans_small A1 (by omega)
  obtain ⟨r, hr1, hr2⟩ := most1
  rw [hS, hr1] at A1
  obtain ⟨u1, rfl, W⟩ := A1
  have B1 := B.keep (h' := h1) fun x hx => e1.2 _ _ hx
  show (optB _ _) = true
  rw [o_ext0, o_ext1, o_ext2, o_of (B1.str true hbb), o_of (sadd' (b := [98]) (by rw [hl]; simp only [List.length_cons, List.length_nil]; omega))]
  refine c8 (n := n + 1) o1 (fun b hb => ?_) (fun _ => by rw [List.length_append, hl]; simp only [List.length_cons, List.length_nil]; omega) (by omega) fun v2 h2 e2 o2 A2 => ?_
  · rcases List.mem_append.1 hb with hb | hb
    · exact hbb b hb
    · simp only [List.mem_singleton] at hb; omega
  have A2 := ans_small A2 (by rw [List.length_append, hl]; simp only [List.length_cons, List.length_nil]; omega)
  rw [hS, most2] at A2
  have A2' : v2 = .tup [.nilSlc, .int .i64 ((8192 : Nat) : Int), .int .i64 20] := A2
  subst A2'
  show (optB _ _) = true
  obtain ⟨m1, m2⟩ := mk_buf (h := h2) (c := 65536) (l := 65536) (Nat.le_refl _) (Nat.le_refl _)
  have m1' : mkslA h2 1 1 [AV.int .u8 0] (AV.int .i64 65536) (AV.int .i64 65536) = some (.slc h2.sz 0 0 65536 65536 true, Ab.newRow h2 (repl 65536 [.int .u8 0]) 1) := m1
  rw [o_ext0, o_ext1, o_ext2, p_of m1']
  have e3 := ext_newRow o2 (repl 65536 [AV.int .u8 0]) 1
  have o3 := ok_newRow o2 (repl 65536 [AV.int .u8 0]) 1
  generalize Ab.newRow h2 (repl 65536 [AV.int .u8 0]) 1 = h3 at *
  exact l729 (N := 65536) (r := r) o2 rfl hn (W.ext e2) hr2 hl (fun h' e' o' => k h' (e1.trans (e2.trans e')) o') (n + 10) 0 h3 e3 o3 m2 (Nat.zero_le _) (by omega)

theorem l78 {n : Nat} {h0 : AHeap} {K : Kont} (k0 : h0.Ok) (hn : 65536 < n) (k : ∀ h', Ext h0 h' → h'.Ok → K (.bool true) h' = true) :
    ∀ (m i : Nat) (h : AHeap), Ext h0 h → h.Ok → Buf h h0.sz 8192 (aas i) → i ≤ 4096 → 4096 - i < m →
      l7_8 (callN E (n + 10)) (n + 10) m (.slc h0.sz 0 0 (aas i).length 8192 true) (.int .i64 (i : Int)) h K = true := by
  have hlim : 100000 < lim := by decide
  intro m
  induction m with
  | zero => intro i h _ _ _ _ hm; omega
  | succ m ih =>
    intro i h e o B hi hm
    unfold l7_8 b7_8
    rw [o_lss]
    by_cases hlt : i < 4096
    · rw [condB_t (decide_eq_true (by omega))]
      obtain ⟨u, g1, W⟩ := bslice_view (h := h) (n := 2) (sz := 1) (z := [AV.int .u8 0]) (ps := [(0, AV.int .u8 97), (1, AV.int .u8 32)]) (es := encB [97, 32]) rfl (by decide) (by decide) rfl rfl rfl
      rw [p_of g1]
      have e1 := ext_newRow o (encB [97, 32]) 1
      have o1 := ok_newRow o (encB [97, 32]) 1
      have B1 := B.keep (h' := Ab.newRow h (encB [97, 32]) 1) fun x hx => e1.2 _ _ hx
      have hal := aas_len i
      obtain ⟨h2, q1, B2, o2, e2⟩ := B1.app (e := 5) (new := [97, 32]) o1 k0 (e.trans e1) (Nat.le_refl _) W.src (by simp) (by simp only [List.length_cons, List.length_nil]; omega) (by decide)
      rw [p_of q1, o_of (inc64 (show i < lim by omega))]
      rw [← aas_snoc] at B2 ⊢
      exact ih (i + 1) h2 e2 o2 B2 (by omega) (by omega)
    · rw [condB_f (decide_eq_false (by omega))]
      have hi' : i = 4096 := by omega
      exact p719 o (by rw [hi']) hn B fun h' e' o' => k h' (e.trans e') o'

theorem c7 {n : Nat} {h : AHeap} {K : Kont} (ho : h.Ok) (hn : 65536 < n) (k : ∀ h', Ext h h' → h'.Ok → K (.bool true) h' = true) : callN E (n + 11) (.func 7) [] h K = true := by
  apply d7
  unfold s7
  obtain ⟨m1, m2⟩ := mk_buf (h := h) (c := 8192) (l := 0) (by decide) (by decide)
  have m1' : mkslA h 1 1 [AV.int .u8 0] (AV.int .i64 0) (AV.int .i64 8192) = some (.slc h.sz 0 0 0 8192 true, Ab.newRow h (repl 8192 [.int .u8 0]) 1) := m1
  rw [p_of m1']
  have e3 := ext_newRow ho (repl 8192 [AV.int .u8 0]) 1
  have o3 := ok_newRow ho (repl 8192 [AV.int .u8 0]) 1
  generalize Ab.newRow h (repl 8192 [AV.int .u8 0]) 1 = h3 at *
  exact l78 ho hn k (n + 10) 0 h3 e3 o3 m2 (by omega) (by omega)
end Go.Proofs.Ytajjclkdggoobaa
