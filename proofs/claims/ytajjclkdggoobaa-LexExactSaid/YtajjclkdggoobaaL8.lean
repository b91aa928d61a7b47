/-
  'Lex', 'Key', 'Quote'; what wakes.
-/
import Derived.Test.YtajjclkdggoobaaL7
namespace Go.Proofs.Ytajjclkdggoobaa
open Go.Ab
set_option linter.unusedSimpArgs false
set_option linter.unusedVariables false

/-- The answer of 'Lex', of any text. -/
def ans8 (h : AHeap) (v : AV) (s : Str) : Prop := if 65536 < s.length then v = .tup [.nilSlc, .int .i64 0, .int .i64 21] else ansL h v (lexS s)

theorem ans_tup {h : AHeap} {v : AV} {r : Except Nat (List Lx)} (a : ansL h v r) : ∃ x y z, v = .tup [x, y, z] := by
  cases r with
  | ok l => obtain ⟨u, rfl, _⟩ := a; exact ⟨_, _, _, rfl⟩
  | error e => exact ⟨_, _, _, a⟩

theorem c8 {n : Nat} {h : AHeap} {s : Str} {K : Kont} (ho : h.Ok) (hb : ∀ b ∈ s, b < 256) (hn : s.length ≤ 65536 → s.length < n) (hn6 : 6 ≤ n)
    (k : ∀ v h', Ext h h' → h'.Ok → ans8 h' v s → K v h' = true) : callN E (n + 9) (.func 8) [.str s] h K = true := by
  have hm : most = 1099511627776 := rfl
  apply d8
  unfold s8
  rw [o_slen, o_gtr]
  by_cases hlt : 65536 < s.length
  · rw [condB_t (decide_eq_true (by omega))]
    exact k _ h (Ext.refl _) ho (by unfold ans8; rw [if_pos hlt])
  · rw [condB_f (decide_eq_false (by omega))]
    refine c16 ho (by omega) hb (hn (by omega)) hn6 fun v h' e' o' a => ?_
    obtain ⟨x, y, z, rfl⟩ := ans_tup a
    show (optB _ _) = true
    rw [o_ext0, o_ext1, o_ext2]
    exact k _ h' e' o' (by unfold ans8; rw [if_neg hlt]; exact a)

/-! ### Keywords -/
def keys : List Str := [[99, 108, 97, 115, 115], [101, 120, 116, 101, 110, 100, 115], [114, 117, 108, 101], [113, 117, 101, 114, 121], [119, 104, 101, 110], [116, 104, 101, 110], [101, 110, 100], [115, 97, 108, 105, 101, 110, 99, 101], [103, 114, 111, 117, 112], [102, 108, 111, 119], [110, 111, 108, 111, 111, 112], [108, 111, 99, 107], [110, 111, 116], [101, 120, 105, 115, 116, 115], [102, 111, 114, 97, 108, 108], [111, 114], [102, 114, 111, 109], [101, 118, 97, 108], [97, 99, 99], [111, 118, 101, 114], [105, 110, 115, 101, 114, 116], [108, 111, 103, 105, 99, 97, 108], [117, 112, 100, 97, 116, 101], [100, 101, 108, 101, 116, 101], [102, 111, 99, 117, 115], [112, 114, 105, 110, 116], [104, 97, 108, 116], [116, 114, 117, 101], [102, 97, 108, 115, 101], [110, 117, 108, 108], [115, 105, 122, 101], [104, 97, 115], [105, 110, 116], [98, 111, 111, 108], [116, 101, 120, 116], [108, 105, 115, 116], [97, 110, 121], [114, 101, 102]]

def keyB (s : Str) (l : List Str) : Bool := l.any fun t => decide (s = t)

theorem key_step {call : CallFn} {n : Nat} {h : AHeap} {K : Kont} {s t : Str} {l : List Str} {R : Bool} (k : K (.bool (keyB s (t :: l))) h = true) (kr : K (.bool (keyB s l)) h = true → R = true) :
    (optB (binA .eql (.str s) (.str t)) fun v => condB v (p10_156 call n v h K) R) = true := by
  rw [binA_seql, optB_some]
  by_cases e : s = t
  · rw [condB_t (decide_eq_true e)]
    have : keyB s (t :: l) = true := by simp [keyB, e]
    rw [this] at k
    rw [decide_eq_true e]
    exact k
  · rw [condB_f (decide_eq_false e)]
    have : keyB s (t :: l) = keyB s l := by simp [keyB, e]
    rw [this] at k
    exact kr k
theorem key_last {call : CallFn} {n : Nat} {h : AHeap} {K : Kont} {s t : Str} (k : K (.bool (keyB s [t])) h = true) :
    (optB (binA .eql (.str s) (.str t)) fun v => p10_156 call n v h K) = true := by
  rw [binA_seql, optB_some]
  have : keyB s [t] = decide (s = t) := by simp [keyB]
  rw [this] at k
  cases e : decide (s = t) with
  | true => rw [e] at k; exact k
  | false => rw [e] at k; exact k

theorem c10 {n : Nat} {h : AHeap} {s : Str} {K : Kont} (k : K (.bool (keyB s keys)) h = true) : callN E (n + 1) (.func 10) [.str s] h K = true := by
  apply d10
  unfold s10
  unfold keys at k
  iterate 37 (refine key_step k ?_; clear k; intro k)
  exact key_last k

/-! ### Quote -/
def qByte (b : Nat) : Str := match bidx b [34, 92, 10, 9] with
  | some k => [92, pk [34, 92, 110, 116] k]
  | none => [b]
def quoteS (s : Str) : Str := [34] ++ s.flatMap qByte ++ [34]

theorem qByte_le (b : Nat) : (qByte b).length ≤ 2 := by
  unfold qByte; split <;> simp
theorem flat_le : ∀ (s : Str), (s.flatMap qByte).length ≤ 2 * s.length
  | [] => by simp
  | b :: s => by
    have h1 := qByte_le b
    have h2 := flat_le s
    simp only [List.flatMap_cons, List.length_append, List.length_cons]; omega

theorem l12 {n bd : Nat} {s : Str} {h0 : AHeap} {K : Kont} (ho0 : h0.Ok) (hL : 2 * s.length + 2 ≤ most) (hb : ∀ b ∈ s, b < 256) (hid : h0.sz ≤ bd) (hs : 2 < n) :
    ∀ (m i : Nat) (acc : Str) (h : AHeap), h.Ok → Ext h0 h → Bld h bd acc → acc.length ≤ 2 * i + 1 → i ≤ s.length → s.length - i < m →
      (∀ h', Ext h0 h' → h'.Ok → K (.str (acc ++ (s.drop i).flatMap qByte ++ [34])) h' = true) → l12_10 (callN E (n + 3)) (n + 3) m (.str s) (.ptr bd 0 0 0) (.int .i64 (s.length : Int)) (.int .i64 (i : Int)) h K = true := by
  have hlim : most < lim := by decide
  intro m
  induction m with
  | zero => intro i acc h _ _ _ _ _ hm; omega
  | succ m ih =>
    intro i acc h ho e0 B hacc hi hm k
    unfold l12_10 b12_10
    rw [o_lss]
    by_cases hlt : i < s.length
    · rw [condB_t (decide_eq_true (by omega)), o_of (idxs_pk hlt)]
      rw [drop_pk hlt, List.flatMap_cons] at k
      have next : ∀ acc' h', h'.Ok → Ext h0 h' → Bld h' bd acc' → acc' = acc ++ qByte (pk s i) → p12_30 (callN E (n + 3)) (n + 3) (fun x0 x3 x8 x9 h => l12_10 (callN E (n + 3)) (n + 3) m x0 x3 x8 x9 h K) (.str s) (.ptr bd 0 0 0) (.int .i64 (s.length : Int)) (.int .i64 (i : Int)) h' K = true := by
        intro acc' h' o' e' B' hq
        unfold p12_30
        rw [o_of (inc64 (show i < lim by omega))]
        have := qByte_le (pk s i)
        refine ih (i + 1) acc' h' o' e' B' (by rw [hq, List.length_append]; omega) (by omega) (by omega) fun h'' e'' o'' => ?_
        have := k h'' e'' o''
        rw [hq, List.append_assoc acc]
        exact this
      refine c20 (pk_byte hb _) ?_
      show (optB (binA .geq (.int .i64 (fint (bidx (pk s i) [34, 92, 10, 9]))) _) _) = true
      cases hk : bidx (pk s i) [34, 92, 10, 9] with
      | some j =>
        have e1 : binA .geq (.int .i64 (fint (some j))) (AV.int .i64 0) = some (.bool true) := by rw [binA_geq]; rfl
        rw [o_of e1, condB_true]
        refine c19 (b := 92) B ho ho0 e0 hid (by omega) (by decide) fun h1 x1 o1 B1 => ?_
        have hj := bidx_lt hk
        rw [o_of (show idxsA (.str [34, 92, 110, 116]) (.int .i64 (fint (some j))) = some (.int .u8 (pk [34, 92, 110, 116] j : Int)) from idxs_pk (s := [34, 92, 110, 116]) hj)]
        refine c19 B1 o1 ho0 x1 hid (by simp; omega) (pk_byte (by decide) j) fun h2 x2 o2 B2 => ?_
        exact next _ h2 o2 x2 B2 (by unfold qByte; rw [hk, List.append_assoc]; rfl)
      | none =>
        have e1 : binA .geq (.int .i64 (fint none)) (AV.int .i64 0) = some (.bool false) := rfl
        rw [o_of e1, condB_false, o_of (idxs_pk hlt)]
        refine c19 B ho ho0 e0 hid (by omega) (pk_byte hb _) fun h1 x1 o1 B1 => ?_
        exact next _ h1 o1 x1 B1 (by unfold qByte; rw [hk])
    · rw [condB_f (decide_eq_false (by omega))]
      rw [List.drop_of_length_le (by omega)] at k
      unfold p12_31
      refine c19 (b := 34) B ho ho0 e0 hid (by omega) (by decide) fun h1 x1 o1 B1 => ?_
      refine c21 B1 o1 ho0 x1 hid (by simp; omega) fun h2 x2 o2 => ?_
      have := k h2 x2 o2
      rw [List.flatMap_nil, List.append_nil] at this
      exact this

theorem c12 {n : Nat} {h : AHeap} {s : Str} {K : Kont} (ho : h.Ok) (hL : 2 * s.length + 2 ≤ most) (hb : ∀ b ∈ s, b < 256) (hn : s.length < n) (hn2 : 2 < n)
    (k : ∀ h', Ext h h' → h'.Ok → K (.str (quoteS s)) h' = true) : callN E (n + 4) (.func 12) [.str s] h K = true := by
  apply d12
  unfold s12
  obtain ⟨b1, b2, b3, b4⟩ := bld_new ho
  rw [p_of b1]
  refine c19 (b := 34) b2 b3 ho b4 (Nat.le_refl _) (by decide) (by decide) fun h1 x1 o1 B1 => ?_
  rw [o_slen]
  refine l12 ho hL hb (Nat.le_refl _) hn2 (n + 3) 0 _ h1 o1 x1 B1 (by simp) (by omega) (by omega) fun h' e' o' => ?_
  exact k h' e' o'

/-! ### What wakes -/
def wtext : Str := [36, 120, 32, 58, 32, 80, 40, 97, 32, 62, 61, 32, 49, 41, 32, 47, 47, 32, 101, 110, 100]
def wlex : List Lx := [⟨1, [120], 0, 2⟩, ⟨4, [58], 3, 4⟩, ⟨0, [80], 5, 6⟩, ⟨4, [40], 6, 7⟩, ⟨0, [97], 7, 8⟩, ⟨4, [62, 61], 9, 11⟩, ⟨2, [49], 12, 13⟩, ⟨4, [41], 13, 14⟩]
theorem wlex_eq : lexS wtext = .ok wlex := by rfl

theorem c14 {n : Nat} {h : AHeap} {K : Kont} (ho : h.Ok) (hn : 30 < n) (k : ∀ h', Ext h h' → h'.Ok → K (.bool true) h' = true) : callN E (n + 10) (.func 14) [] h K = true := by
  apply d14
  unfold s14
  refine c8 (s := wtext) ho (by decide) (fun _ => by show 21 < n; omega) (by omega) fun v h1 e1 o1 a => ?_
  unfold ans8 at a
  rw [if_neg (by decide), wlex_eq] at a
  obtain ⟨u, rfl, W⟩ := a
  show (optB _ _) = true
  rw [o_ext0, o_ext1, o_ext2]
  obtain ⟨i0, g0, j0, p0, q0⟩ := W.at (i := 0) (e := encL ⟨1, [120], 0, 2⟩) rfl
  obtain ⟨i5, g5, j5, p5, q5⟩ := W.at (i := 5) (e := encL ⟨4, [62, 61], 9, 11⟩) rfl
  have e0 : binA .eql (.int .i64 0) (AV.int .i64 0) = some (.bool true) := rfl
  have eL : lenA h1 1 u = some (.int .i64 8) := W.len
  have e8 : binA .eql (.int .i64 8) (AV.int .i64 8) = some (.bool true) := rfl
  rw [o_of e0]
  repeat first | rw [o_some] | rw [o_nilck] | rw [o_fadr0] | rw [o_slen] | rw [g_tt] | rw [g_ft] | rw [g_ff] | rw [g_tf] | rw [gc_tt] | rw [gc_ft] | rw [gc_ff] | rw [gc_tf] | rw [k_t] | rw [k_f] | rw [condB_true] | rw [condB_false] | rw [o_lss] | rw [o_geq] | rw [o_gtr] | rw [o_leq] | rw [o_not] | rw [o_ext0] | rw [o_ext1] | rw [gp_tt] | rw [gp_ft] | rw [gp_ff] | rw [gp_tf]
  rw [o_of eL]
  repeat first | rw [o_some] | rw [o_nilck] | rw [o_fadr0] | rw [o_slen] | rw [g_tt] | rw [g_ft] | rw [g_ff] | rw [g_tf] | rw [gc_tt] | rw [gc_ft] | rw [gc_ff] | rw [gc_tf] | rw [k_t] | rw [k_f] | rw [condB_true] | rw [condB_false] | rw [o_lss] | rw [o_geq] | rw [o_gtr] | rw [o_leq] | rw [o_not] | rw [o_ext0] | rw [o_ext1] | rw [gp_tt] | rw [gp_ft] | rw [gp_ff] | rw [gp_tf]
  rw [o_of e8]
  repeat first | rw [o_some] | rw [o_nilck] | rw [o_fadr0] | rw [o_slen] | rw [g_tt] | rw [g_ft] | rw [g_ff] | rw [g_tf] | rw [gc_tt] | rw [gc_ft] | rw [gc_ff] | rw [gc_tf] | rw [k_t] | rw [k_f] | rw [condB_true] | rw [condB_false] | rw [o_lss] | rw [o_geq] | rw [o_gtr] | rw [o_leq] | rw [o_not] | rw [o_ext0] | rw [o_ext1] | rw [gp_tt] | rw [gp_ft] | rw [gp_ff] | rw [gp_tf]
  rw [o_of (show iadrA h1 4 u (.int .i64 0) = some (.ptr i0 g0 j0 0) from p0 .i64)]
  repeat first | rw [o_some] | rw [o_nilck] | rw [o_fadr0] | rw [o_slen] | rw [g_tt] | rw [g_ft] | rw [g_ff] | rw [g_tf] | rw [gc_tt] | rw [gc_ft] | rw [gc_ff] | rw [gc_tf] | rw [k_t] | rw [k_f] | rw [condB_true] | rw [condB_false] | rw [o_lss] | rw [o_geq] | rw [o_gtr] | rw [o_leq] | rw [o_not] | rw [o_ext0] | rw [o_ext1] | rw [gp_tt] | rw [gp_ft] | rw [gp_ff] | rw [gp_tf]
  rw [o_of (show loadA h1 false 1 (.ptr i0 g0 j0 0) = some (.int .i64 1) by rw [q0]; rfl)]
  repeat first | rw [o_some] | rw [o_nilck] | rw [o_fadr0] | rw [o_slen] | rw [g_tt] | rw [g_ft] | rw [g_ff] | rw [g_tf] | rw [gc_tt] | rw [gc_ft] | rw [gc_ff] | rw [gc_tf] | rw [k_t] | rw [k_f] | rw [condB_true] | rw [condB_false] | rw [o_lss] | rw [o_geq] | rw [o_gtr] | rw [o_leq] | rw [o_not] | rw [o_ext0] | rw [o_ext1] | rw [gp_tt] | rw [gp_ft] | rw [gp_ff] | rw [gp_tf]
  rw [o_of (show binA .eql (.int .i64 1) (AV.int .i64 1) = some (.bool true) from rfl)]
  repeat first | rw [o_some] | rw [o_nilck] | rw [o_fadr0] | rw [o_slen] | rw [g_tt] | rw [g_ft] | rw [g_ff] | rw [g_tf] | rw [gc_tt] | rw [gc_ft] | rw [gc_ff] | rw [gc_tf] | rw [k_t] | rw [k_f] | rw [condB_true] | rw [condB_false] | rw [o_lss] | rw [o_geq] | rw [o_gtr] | rw [o_leq] | rw [o_not] | rw [o_ext0] | rw [o_ext1] | rw [gp_tt] | rw [gp_ft] | rw [gp_ff] | rw [gp_tf]
  rw [o_of (show iadrA h1 4 u (.int .i64 5) = some (.ptr i5 g5 j5 0) from p5 .i64)]
  repeat first | rw [o_some] | rw [o_nilck] | rw [o_fadr0] | rw [o_slen] | rw [g_tt] | rw [g_ft] | rw [g_ff] | rw [g_tf] | rw [gc_tt] | rw [gc_ft] | rw [gc_ff] | rw [gc_tf] | rw [k_t] | rw [k_f] | rw [condB_true] | rw [condB_false] | rw [o_lss] | rw [o_geq] | rw [o_gtr] | rw [o_leq] | rw [o_not] | rw [o_ext0] | rw [o_ext1] | rw [gp_tt] | rw [gp_ft] | rw [gp_ff] | rw [gp_tf]
  rw [o_of (show loadA h1 false 1 (.ptr i5 g5 j5 1) = some (.str [62, 61]) by rw [q5]; rfl)]
  repeat first | rw [o_some] | rw [o_nilck] | rw [o_fadr0] | rw [o_slen] | rw [g_tt] | rw [g_ft] | rw [g_ff] | rw [g_tf] | rw [gc_tt] | rw [gc_ft] | rw [gc_ff] | rw [gc_tf] | rw [k_t] | rw [k_f] | rw [condB_true] | rw [condB_false] | rw [o_lss] | rw [o_geq] | rw [o_gtr] | rw [o_leq] | rw [o_not] | rw [o_ext0] | rw [o_ext1] | rw [gp_tt] | rw [gp_ft] | rw [gp_ff] | rw [gp_tf]
  rw [o_of (show binA .eql (.str [62, 61]) (AV.str [62, 61]) = some (.bool true) from rfl)]
  repeat first | rw [o_some] | rw [o_nilck] | rw [o_fadr0] | rw [o_slen] | rw [g_tt] | rw [g_ft] | rw [g_ff] | rw [g_tf] | rw [gc_tt] | rw [gc_ft] | rw [gc_ff] | rw [gc_tf] | rw [k_t] | rw [k_f] | rw [condB_true] | rw [condB_false] | rw [o_lss] | rw [o_geq] | rw [o_gtr] | rw [o_leq] | rw [o_not] | rw [o_ext0] | rw [o_ext1] | rw [gp_tt] | rw [gp_ft] | rw [gp_ff] | rw [gp_tf]
  refine c10 (n := n + 8) ?_
  show (optB (pickV _ (.bool (keyB [114, 117, 108, 101] keys)) _) _) = true
  rw [show keyB [114, 117, 108, 101] keys = true by decide]
  repeat first | rw [o_some] | rw [o_nilck] | rw [o_fadr0] | rw [o_slen] | rw [g_tt] | rw [g_ft] | rw [g_ff] | rw [g_tf] | rw [gc_tt] | rw [gc_ft] | rw [gc_ff] | rw [gc_tf] | rw [k_t] | rw [k_f] | rw [condB_true] | rw [condB_false] | rw [o_lss] | rw [o_geq] | rw [o_gtr] | rw [o_leq] | rw [o_not] | rw [o_ext0] | rw [o_ext1] | rw [gp_tt] | rw [gp_ft] | rw [gp_ff] | rw [gp_tf]
  refine c12 (n := n + 5) (s := [97, 10]) o1 (by decide) (by decide) (by show 2 < n + 5; omega) (by omega) fun h2 e2 o2 => ?_
  show (optB (grdO _ (binA .eql (.str (quoteS [97, 10])) _)) _) = true
  rw [show quoteS [97, 10] = [34, 97, 92, 110, 34] by decide]
  repeat first | rw [o_some] | rw [o_nilck] | rw [o_fadr0] | rw [o_slen] | rw [g_tt] | rw [g_ft] | rw [g_ff] | rw [g_tf] | rw [gc_tt] | rw [gc_ft] | rw [gc_ff] | rw [gc_tf] | rw [k_t] | rw [k_f] | rw [condB_true] | rw [condB_false] | rw [o_lss] | rw [o_geq] | rw [o_gtr] | rw [o_leq] | rw [o_not] | rw [o_ext0] | rw [o_ext1] | rw [gp_tt] | rw [gp_ft] | rw [gp_ff] | rw [gp_tf]
  rw [o_of (show binA .eql (.str [34, 97, 92, 110, 34]) (AV.str [34, 97, 92, 110, 34]) = some (.bool true) from rfl)]
  repeat first | rw [o_some] | rw [o_nilck] | rw [o_fadr0] | rw [o_slen] | rw [g_tt] | rw [g_ft] | rw [g_ff] | rw [g_tf] | rw [gc_tt] | rw [gc_ft] | rw [gc_ff] | rw [gc_tf] | rw [k_t] | rw [k_f] | rw [condB_true] | rw [condB_false] | rw [o_lss] | rw [o_geq] | rw [o_gtr] | rw [o_leq] | rw [o_not] | rw [o_ext0] | rw [o_ext1] | rw [gp_tt] | rw [gp_ft] | rw [gp_ff] | rw [gp_tf]
  exact k h2 (e1.trans e2) o2
end Go.Proofs.Ytajjclkdggoobaa
