/-
  Whether a value fits a field: the program's answer and the document's.
-/
import Derived.Test.YtjdpdjmmbajglaaVD
namespace Go.Proofs.Ytjdpdjmmbajglaa
open Go.Ab
set_option linter.unusedSimpArgs false
set_option linter.unusedVariables false

theorem ltz (o : Option Nat) : decide (fint o < 0) = o.isNone := by
  cases o with
  | none => rfl
  | some x => exact decide_eq_false (by show ¬ ((x : Int) < 0); omega)

structure Fct where
  handle : Int
  cls : Str

def RFa (a : List AV) (f : Fct) : Prop := ∃ x2 x3 x4 x5, a = [.int .i64 f.handle, .str f.cls, x2, x3, x4, x5]
def FV (h : AHeap) (v : AV) (l : List Fct) : Prop := ∃ es, View h 6 v es ∧ All2 RFa es l
theorem FV.ext {h h' : AHeap} {v : AV} {l : List Fct} (V : FV h v l) (e : Ext h h') : FV h' v l := let ⟨es, h1, h2⟩ := V; ⟨es, h1.ext e, h2⟩
theorem FV.nil (h : AHeap) : FV h .nilSlc [] := ⟨[], View.nil h 6, .nil⟩
theorem FV.len {h : AHeap} {v : AV} {l : List Fct} (V : FV h v l) : lenA h 1 v = some (.int .i64 (l.length : Int)) := by
  obtain ⟨es, h1, h2⟩ := V; rw [h1.len, h2.length]
theorem FV.leaf {h : AHeap} {v : AV} {l : List Fct} (V : FV h v l) : v.leaf = true := by obtain ⟨es, h1, h2⟩ := V; exact h1.leaf
theorem FV.at {h : AHeap} {v : AV} {l : List Fct} (V : FV h v l) {i : Nat} {f : Fct} (hi : l[i]? = some f) :
    ∃ id g j, (∀ k, iadrA h 6 v (.int k (i : Int)) = some (.ptr id g j 0)) ∧ loadA h false 1 (.ptr id g j 0) = some (.int .i64 f.handle) ∧ loadA h false 1 (.ptr id g j 1) = some (.str f.cls) := by
  obtain ⟨es, h1, h2⟩ := V
  obtain ⟨e, he, x2, x3, x4, x5, rfl⟩ := h2.get hi
  obtain ⟨id, g, j, p1, p2⟩ := h1.at he
  exact ⟨id, g, j, p1, by rw [p2]; rfl, by rw [p2]; rfl⟩

def atF (x : Int) : List Fct → Option Nat
  | [] => none
  | f :: l => if f.handle = x then some 0 else (atF x l).map (· + 1)

theorem atF_lt {x : Int} : ∀ {l : List Fct} {i : Nat}, atF x l = some i → i < l.length
  | [], i, h => by cases h
  | f :: l, i, h => by
    simp only [atF] at h
    by_cases e : f.handle = x
    · rw [if_pos e] at h; cases h; simp
    · rw [if_neg e] at h
      cases hx : atF x l with
      | none => rw [hx] at h; cases h
      | some j =>
        rw [hx] at h
        simp at h
        have := atF_lt hx
        simp; omega

theorem c26 {n : Nat} {h : AHeap} {v : AV} {l : List Fct} {x : Int} {K : Kont} (V : FV h v l) (hn : l.length < n) (hL : n < lim) (k : K (.int .i64 (fint (atF x l))) h = true) : callN E (n + 1) (.func 26) [v, .int .i64 x] h K = true := by
  apply d26
  unfold s26
  have loop : ∀ (m i : Nat), i ≤ l.length → l.length - i < m → atF x l = off i (atF x (l.drop i)) → l26_6 (callN E n) n m v (.int .i64 x) (.int .i64 (i : Int)) h K = true := by
    intro m
    induction m with
    | zero => intro i _ hm; omega
    | succ m ih =>
      intro i hi hm hx
      rw [l26_6_s]
      unfold b26_6
      rw [V.len, optB_some, binA_lss, optB_some]
      by_cases hlt : i < l.length
      · have hci := List.getElem?_eq_getElem hlt
        have hd : l.drop i = l[i] :: l.drop (i + 1) := by rw [List.drop_eq_getElem_cons hlt]
        obtain ⟨id, g, j, p1, p2, p3⟩ := V.at hci
        generalize l[i] = f at *
        rw [condB_t (by simpa using hlt), p1, optB_some, fadrA_ptr, optB_some, Nat.zero_add, p2, optB_some, binA_eql, optB_some]
        rw [hd] at hx
        by_cases he : f.handle = x
        · rw [condB_t (by simp [he])]
          have : atF x l = some i := by rw [hx]; simp [atF, he, off]
          rw [this] at k; exact k
        · rw [condB_f (by simp [he]), inc64 (by omega), optB_some]
          refine ih (i + 1) (by omega) (by omega) ?_
          rw [hx]
          simp only [atF, if_neg he]
          cases atF x (l.drop (i + 1)) with
          | none => rfl
          | some q => simp [off]; omega
      · have hd : l.drop i = [] := List.drop_of_length_le (by omega)
        rw [hd] at hx
        rw [condB_f (by simpa using hlt)]
        have : atF x l = none := by rw [hx]; rfl
        rw [this] at k; exact k
  exact loop n 0 (Nat.zero_le _) (by omega) (by rw [off0]; rfl)

def ofF (x : Int) (facts : List Fct) : Option Str := match atF x facts with
  | none => none
  | some i => (facts[i]?).map Fct.cls

theorem c25 {n p : Nat} {h : AHeap} {lv fv vv hv : AV} {facts : List Fct} {x : Int} {K : Kont} (V : Var h p [lv, fv, vv, hv]) (F : FV h hv facts) (hn : facts.length < n) (hL : n < lim) (k : K (.tup [.str ((ofF x facts).getD []), .bool (ofF x facts).isSome]) h = true) : callN E (n + 2) (.func 25) [.int .i64 x, .ptr p 0 0 0] h K = true := by
  apply d25
  unfold s25
  have l3 : loadA h false 1 (.ptr p 0 0 3) = some hv := by rw [V.load]; rfl
  rw [fadrA_ptr, optB_some, Nat.zero_add, l3, optB_some]
  refine c26 F hn hL ?_
  rw [binA_lss, optB_some, ltz]
  unfold ofF at k
  cases hx : atF x facts with
  | none =>
    rw [hx] at k
    rw [condB_t (by rfl)]; exact k
  | some i =>
    have hlt := atF_lt hx
    have hci := List.getElem?_eq_getElem hlt
    obtain ⟨id, g, j, p1, p2, p3⟩ := F.at hci
    rw [hx] at k
    simp only [hci, Option.map_some, Option.getD_some, Option.isSome_some] at k
    have hfi : fint (some i) = (i : Int) := rfl
    rw [condB_f (by rfl), optB_some, l3, optB_some, hfi, p1, optB_some, fadrA_ptr, optB_some, Nat.zero_add, p3, optB_some]
    exact k

/-- What a field takes. -/
def fitV (l : List Cls) (f : Fld) (v : Val) (facts : List Fct) : Bool :=
  ckV 30 v && (match v with
    | .mk kind _ x _ _ =>
      if kind = 0 then true else if f.ty = 0 then true else if f.ty = 1 then decide (kind = 1) else if f.ty = 2 then decide (kind = 2) else if f.ty = 3 then decide (kind = 3) else if f.ty = 4 then decide (kind = 4)
      else if f.ty = 5 then (decide (kind = 5) && match ofF x facts with
        | none => false
        | some s => isB l s f.cls)
      else false)

def OfRep (h : AHeap) (of : AV) (facts : List Fct) : Prop := (of = .nilFn ∧ facts = []) ∨ ∃ p lv fv vv hv, of = .fn (.func 25) [] [.ptr p 0 0 0] ∧ Var h p [lv, fv, vv, hv] ∧ FV h hv facts
theorem OfRep.ext {h h' : AHeap} {of : AV} {facts : List Fct} (O : OfRep h of facts) (e : Ext h h') : OfRep h' of facts := by
  rcases O with O | ⟨p, lv, fv, vv, hv, h1, h2, h3⟩
  · exact .inl O
  · exact .inr ⟨p, lv, fv, vv, hv, h1, h2.ext e, h3.ext e⟩

theorem nil_chk {h : AHeap} {kind : Int} {of : AV} {k : AV → Bool} (c : Bool) (hof : eqV h false .fn of .nilFn = some (.bool c)) : (optB (binA .neq (.int .i64 kind) (.int .i64 5)) fun v31 => optB (grdO (wantV v31 false) (some of)) fun v32 => optB (grdO (wantV v31 false) (eqV h false .fn v32 .nilFn)) fun v33 => optB (pickV v31 (.bool true) v33) fun v34 => k v34) = k (.bool (!decide (kind = 5) || c)) := by
  rw [binA_neq, optB_some]
  cases decide (kind = 5) with
  | false => rfl
  | true => simp only [Bool.not_true, wantV_false, Bool.not_false, grdO_true, optB_some, hof, pickV_false, Bool.false_or]

theorem is_chk {call : CallFn} {h : AHeap} {x0 : AV} {s u : Str} {p : Nat} {ok : Bool} {k : AV → AHeap → Bool} (hp : loadA h false 1 (.ptr p 0 0 2) = some (.str u)) (h0 : ok = false → k (.bool false) h = true) (h1 : ok = true → call (.func 14) [x0, .str s, .str u] h (fun v h => k v h) = true) :
    (optB (grdO (wantV (.bool ok) true) (some x0)) fun v40 => optB (grdO (wantV (.bool ok) true) (some (.str s))) fun v41 => optB (grdO (wantV (.bool ok) true) (fadrA 2 (.ptr p 0 0 0))) fun v42 => optB (grdO (wantV (.bool ok) true) (loadA h false 1 v42)) fun v43 => grdC (wantV (.bool ok) true) (fun k => call (.func 14) [v40, v41, v43] h k) h fun v44 h => optB (pickV (.bool ok) v44 (.bool false)) fun v45 => k v45 h) = true := by
  cases ok with
  | false => exact h0 rfl
  | true =>
    have := h1 rfl
    simp only [wantV_true, grdO_true, optB_some, fadrA_ptr, Nat.zero_add, hp, grdC_true, pickV_true]
    exact this
end Go.Proofs.Ytjdpdjmmbajglaa
