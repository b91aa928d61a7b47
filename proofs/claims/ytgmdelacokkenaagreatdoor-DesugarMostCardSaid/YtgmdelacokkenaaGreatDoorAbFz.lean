/-
  Operations for runs in the kernel: by recursors, each handed what comes next; and that they say what the machine's say. (Printed by wip/tools/gfast.py.)
-/
import Derived.Test.YtgmdelacokkenaaGreatDoorAbBridge
namespace Go.Ab
set_option linter.unusedSimpArgs false
set_option linter.unusedVariables false

noncomputable section
def ifR {α : Type} (c : Bool) (a b : α) : α := @Bool.rec (fun _ => α) b a c
theorem ifR_eq {α : Type} (c : Bool) (a b : α) : ifR c a b = bif c then a else b := by cases c <;> rfl

def AHeap.putR (h : AHeap) (id : Nat) (o : AObj) : AHeap := { sz := h.sz, t := h.t.set id o }
def AHeap.pushR (h : AHeap) (o : AObj) : AHeap := { sz := Nat.succ h.sz, t := h.t.set h.sz o }
theorem AHeap.putR_eq (h : AHeap) (id : Nat) (o : AObj) : h.putR id o = h.put id o := rfl
theorem AHeap.pushR_eq (h : AHeap) (o : AObj) : h.pushR o = h.push o := rfl

def nthK {α : Type} (l : List α) (n : Nat) (k : α → Bool) : Bool :=
  @List.rec α (fun _ => Nat → Bool) (fun _ => false) (fun x _ ih n => @Nat.rec (fun _ => Bool) (k x) (fun m _ => ih m) n) l n
def setNthR {α : Type} (l : List α) (n : Nat) (y : α) : List α :=
  @List.rec α (fun _ => Nat → List α) (fun _ => []) (fun x l ih n => @Nat.rec (fun _ => List α) (y :: l) (fun m _ => x :: ih m) n) l n
def lenR {α : Type} (l : List α) : Nat := @List.rec α (fun _ => Nat) 0 (fun _ _ n => Nat.succ n) l
def dropR {α : Type} (n : Nat) (l : List α) : List α := @Nat.rec (fun _ => List α → List α) (fun l => l) (fun _ ih l => @List.rec α (fun _ => List α) [] (fun _ l _ => ih l) l) n l
def takeR {α : Type} (n : Nat) (l : List α) : List α := @Nat.rec (fun _ => List α → List α) (fun _ => []) (fun _ ih l => @List.rec α (fun _ => List α) [] (fun x l _ => x :: ih l) l) n l
def appR {α : Type} (l m : List α) : List α := @List.rec α (fun _ => List α) m (fun x _ r => x :: r) l
def rowK (h : AHeap) (id : Nat) (k : Row → Bool) : Bool :=
  @Option.rec AObj (fun _ => Bool) false (fun o => @AObj.rec (fun _ => Bool) k (fun _ _ => false) (fun _ _ _ _ => false) (fun _ => false) false (fun _ _ => false) false (fun _ => false) o) (h.t.get id)
def optK {α : Type} (o : Option α) (k : α → Bool) : Bool := @Option.rec α (fun _ => Bool) false k o
def optPK (o : Option (AV × AHeap)) (k : Kont) : Bool := @Option.rec (AV × AHeap) (fun _ => Bool) false (fun p => @Prod.rec AV AHeap (fun _ => Bool) k p) o

theorem nthK_eq {α : Type} : ∀ (l : List α) (n : Nat) (k : α → Bool), nthK l n k = optK (nth l n) k
  | [], n, k => rfl
  | x :: l, 0, k => rfl
  | x :: l, n + 1, k => nthK_eq l n k
theorem setNthR_eq {α : Type} : ∀ (l : List α) (n : Nat) (y : α), setNthR l n y = setNth l n y
  | [], n, y => rfl
  | x :: l, 0, y => rfl
  | x :: l, n + 1, y => congrArg (x :: ·) (setNthR_eq l n y)
theorem lenR_eq {α : Type} : ∀ (l : List α), lenR l = l.length
  | [] => rfl
  | x :: l => congrArg Nat.succ (lenR_eq l)
theorem dropR_eq {α : Type} : ∀ (n : Nat) (l : List α), dropR n l = l.drop n
  | 0, l => rfl
  | n + 1, [] => by rw [List.drop_nil]; rfl
  | n + 1, x :: l => dropR_eq n l
theorem takeR_eq {α : Type} : ∀ (n : Nat) (l : List α), takeR n l = l.take n
  | 0, l => by rw [List.take_zero]; rfl
  | n + 1, [] => by rw [List.take_nil]; rfl
  | n + 1, x :: l => by
    have : takeR (n + 1) (x :: l) = x :: takeR n l := rfl
    rw [this, takeR_eq n l]; simp
theorem appR_eq {α : Type} : ∀ (l m : List α), appR l m = l ++ m
  | [], m => rfl
  | x :: l, m => congrArg (x :: ·) (appR_eq l m)
theorem rowK_eq (h : AHeap) (id : Nat) (k : Row → Bool) : rowK h id k = optK (h.row id) k := by
  simp only [rowK, AHeap.row, AHeap.get]
  cases h.t.get id with
  | none => rfl
  | some o => cases o <;> rfl
theorem optK_if {α : Type} (c : Bool) (o : Option α) (k : α → Bool) : optK (bif c then o else none) k = ifR c (optK o k) false := by cases c <;> rfl

def fadrK (off : Nat) (a : AV) (k : AV → Bool) : Bool :=
  @AV.rec (fun _ => Bool) (fun _ => Bool) (fun _ => false) (fun _ _ => false) (fun _ => false) (fun id g i o => k (.ptr id g i (Nat.add o off))) (false) (fun _ _ _ _ _ _ => false) (false) (false) (fun _ => false) (false) (fun _ => false) (fun _ _ _ _ _ => false) (false) (fun _ _ => false) (fun _ _ => false) (false) (fun _ _ _ => false) (fun _ _ => false) (false) (fun _ _ _ _ => false) a
theorem fadrK_eq (off : Nat) (a : AV) (k : AV → Bool) : fadrK off a k = optK (fadrA off a) k := by cases a <;> rfl

def loadK (h : AHeap) (a : AV) (k : AV → Bool) : Bool :=
  @AV.rec (fun _ => Bool) (fun _ => Bool) (fun _ => false) (fun _ _ => false) (fun _ => false) (fun id g i o => rowK h id fun r => @Bool.rec (fun _ => Bool) false (nthK r.es i fun e => nthK e o k) (Nat.ble r.m g)) (false) (fun _ _ _ _ _ _ => false) (false) (false) (fun _ => false) (false) (fun _ => false) (fun _ _ _ _ _ => false) (false) (fun _ _ => false) (fun _ _ => false) (false) (fun _ _ _ => false) (fun _ _ => false) (false) (fun _ _ _ _ => false) a
theorem loadK_eq (h : AHeap) (n : Nat) (a : AV) (k : AV → Bool) : loadK h a k = optK (loadA h false n a) k := by
  cases a <;> try rfl
  rename_i id g i o
  show rowK h id _ = _
  simp only [rowK_eq, loadA]
  cases h.row id with
  | none => rfl
  | some r =>
    simp only
    rw [optK_if]
    show ifR (Nat.ble r.m g) (nthK r.es i _) false = _
    rw [nthK_eq]
    cases nth r.es i with
    | none => rfl
    | some e =>
      simp only [partA, cond_false]
      show ifR (Nat.ble r.m g) (nthK e o k) false = _
      rw [nthK_eq]

def loadGK (h : AHeap) (n : Nat) (a : AV) (k : AV → Bool) : Bool :=
  @AV.rec (fun _ => Bool) (fun _ => Bool) (fun _ => false) (fun _ _ => false) (fun _ => false) (fun id g i o => rowK h id fun r => @Bool.rec (fun _ => Bool) false (nthK r.es i fun e => ifR (Nat.ble (Nat.add o n) (lenR e)) (k (.agg (ifR (Nat.beq (lenR e) n) e (takeR n (dropR o e))))) false) (Nat.ble r.m g)) (false) (fun _ _ _ _ _ _ => false) (false) (false) (fun _ => false) (false) (fun _ => false) (fun _ _ _ _ _ => false) (false) (fun _ _ => false) (fun _ _ => false) (false) (fun _ _ _ => false) (fun _ _ => false) (false) (fun _ _ _ _ => false) a
theorem wholeR {α : Type} (e : List α) (o n : Nat) (h : Nat.ble (o + n) e.length = true) : ifR (Nat.beq e.length n) e ((e.drop o).take n) = (e.drop o).take n := by
  rw [ifR_eq]
  cases hb : Nat.beq e.length n with
  | false => rfl
  | true =>
    have he := nbeq_true.1 hb
    have := nble_true.1 h
    have ho : o = 0 := by omega
    subst ho
    rw [cond_true, List.drop_zero, List.take_of_length_le (by omega)]
theorem loadGK_eq (h : AHeap) (n : Nat) (a : AV) (k : AV → Bool) : loadGK h n a k = optK (loadA h true n a) k := by
  cases a <;> try rfl
  rename_i id g i o
  show rowK h id _ = _
  simp only [rowK_eq, loadA]
  cases h.row id with
  | none => rfl
  | some r =>
    simp only
    rw [optK_if]
    show ifR (Nat.ble r.m g) (nthK r.es i _) false = _
    rw [nthK_eq]
    cases nth r.es i with
    | none => rfl
    | some e =>
      simp only [partA, cond_true]
      rw [optK_if]
      show ifR (Nat.ble r.m g) (ifR (Nat.ble (o + n) (lenR e)) _ false) false = _
      rw [lenR_eq, dropR_eq, takeR_eq]
      cases hb : Nat.ble (o + n) e.length with
      | false => rfl
      | true => rw [wholeR e o n hb]; rfl

def leafR (v : AV) : Bool := @AV.rec (fun _ => Bool) (fun _ => Bool) (fun _ => true) (fun _ _ => true) (fun _ => true) (fun _ _ _ _ => true) (true) (fun _ _ _ _ _ _ => true) (true) (true) (fun _ => true) (true) (fun _ => true) (fun _ _ _ _ _ => true) (true) (fun _ _ => false) (fun _ _ => false) (true) (fun _ _ _ => true) (fun _ _ => true) (true) (fun _ _ _ _ => true) v
theorem leafR_eq (v : AV) : leafR v = v.leaf := by cases v <;> rfl
def storeSlow (h : AHeap) (a v : AV) (k : AHeap → Bool) : Bool := optK (storeA h 1 a v) k
def storeK (h : AHeap) (a v : AV) (k : AHeap → Bool) : Bool :=
  ifR (leafR v) (@AV.rec (fun _ => Bool) (fun _ => Bool) (fun _ => false) (fun _ _ => false) (fun _ => false) (fun id g i o => rowK h id fun r => ifR r.rw (ifR (Nat.beq g r.g) (nthK r.es i fun e => nthK e o fun _ => k { sz := h.sz, t := h.t.set id ((.row { es := setNthR r.es i (setNthR e o v), sz := r.sz, g := r.g, m := r.g, rw := r.rw, ty := r.ty })) }) false) false) (false) (fun _ _ _ _ _ _ => false) (false) (false) (fun _ => false) (false) (fun _ => false) (fun _ _ _ _ _ => false) (false) (fun _ _ => false) (fun _ _ => false) (false) (fun _ _ _ => false) (fun _ _ => false) (false) (fun _ _ _ _ => false) a) (storeSlow h a v k)
theorem nth_lay {α : Type} {v : α} : ∀ (e : List α) (o : Nat), (∃ x, nth e o = some x) → lay e o [v] = setNth e o v
  | [], o, h => by obtain ⟨x, h⟩ := h; cases h
  | y :: e, 0, h => by simp [lay, setNth]
  | y :: e, o + 1, h => by
    have ih := nth_lay (v := v) e o h
    simp only [lay, List.take_succ_cons, List.cons_append, setNth]
    rw [← ih]
    simp only [lay, List.length_cons, List.length_nil]
    congr 2
theorem nth_lt {α : Type} : ∀ (e : List α) (o : Nat), (nth e o = none ∧ ¬ o < e.length) ∨ (∃ x, nth e o = some x) ∧ o < e.length
  | [], o => .inl ⟨rfl, by simp⟩
  | y :: e, 0 => .inr ⟨⟨y, rfl⟩, by simp⟩
  | y :: e, o + 1 => by
    rcases nth_lt e o with ⟨h1, h2⟩ | ⟨h1, h2⟩
    · exact .inl ⟨h1, by simp; omega⟩
    · exact .inr ⟨h1, by simp; omega⟩
theorem leaf_cells {v : AV} (h : v.leaf = true) : v.cells = [v] := by cases v <;> first | rfl | cases h
theorem storeK_eq (h : AHeap) (a v : AV) (k : AHeap → Bool) : storeK h a v k = optK (storeA h 1 a v) k := by
  unfold storeK
  rw [ifR_eq, leafR_eq]
  cases hl : v.leaf with
  | false => rfl
  | true =>
    rw [cond_true]
    cases a <;> try rfl
    rename_i id g i o
    have hc := leaf_cells hl
    have hcl : Nat.beq v.cells.length 1 = true := by rw [hc]; rfl
    have hal : allLeaf v.cells = true := by rw [hc]; simp [allLeaf, hl]
    show rowK h id _ = _
    simp only [rowK_eq, storeA, hcl, hal]
    cases h.row id with
    | none => rfl
    | some r =>
      show ifR r.rw (ifR (Nat.beq g r.g) (nthK r.es i _) false) false = _
      simp only [Bool.and_true]
      rw [optK_if, nthK_eq]
      cases hrw : r.rw with
      | false => rfl
      | true =>
        cases hg : Nat.beq g r.g with
        | false => rfl
        | true =>
          show optK (nth r.es i) _ = optK _ k
          cases nth r.es i with
          | none => rfl
          | some e =>
            simp only
            show nthK e o _ = _
            rw [nthK_eq, optK_if]
            rcases nth_lt e o with ⟨h1, h2⟩ | ⟨⟨x, h1⟩, h2⟩
            · have : Nat.ble (o + 1) e.length = false := by
                cases hb : Nat.ble (o + 1) e.length with
                | false => rfl
                | true => have := nble_true.1 hb; omega
              rw [h1, this]; rfl
            · have : Nat.ble (o + 1) e.length = true := nble_true.2 h2
              rw [this, h1]
              show k _ = k _
              rw [hc, nth_lay e o ⟨x, h1⟩, setNthR_eq, setNthR_eq]
              congr 1

def cellsR (v : AV) : List AV := @AV.rec (fun _ => List AV) (fun _ => List AV) (fun _ => [v]) (fun _ _ => [v]) (fun _ => [v]) (fun _ _ _ _ => [v]) ([v]) (fun _ _ _ _ _ _ => [v]) ([v]) ([v]) (fun _ => [v]) ([v]) (fun _ => [v]) (fun _ _ _ _ _ => [v]) ([v]) (fun l _ => l) (fun _ _ => [v]) ([v]) (fun _ _ _ => [v]) (fun _ _ => [v]) ([v]) (fun _ _ _ _ => [v]) v
theorem cellsR_eq (v : AV) : cellsR v = v.cells := by cases v <;> rfl
def allLeafR (l : List AV) : Bool := @List.rec AV (fun _ => Bool) true (fun v _ r => ifR (leafR v) r false) l
theorem allLeafR_eq : ∀ l : List AV, allLeafR l = allLeaf l
  | [] => rfl
  | x :: l => by
    show ifR (leafR x) (allLeafR l) false = _
    rw [ifR_eq, leafR_eq, allLeafR_eq l]
    rfl
def overR {α : Type} (new : List α) (o : Nat) : List α → List α :=
  @Nat.rec (fun _ => List α → List α) (fun e => appR new (dropR (lenR new) e)) (fun _ ih e => @List.rec α (fun _ => List α) [] (fun x l _ => x :: ih l) e) o
theorem overR_eq {α : Type} {new : List α} : ∀ (o : Nat) (e : List α), o ≤ e.length → overR new o e = lay e o new
  | 0, e, _ => by
    show appR new (dropR (lenR new) e) = _
    rw [appR_eq, dropR_eq, lenR_eq]
    simp [lay]
  | o + 1, [], h => by simp at h
  | o + 1, x :: e, h => by
    show x :: overR new o e = _
    rw [overR_eq o e (by simpa using h)]
    simp only [lay, List.take_succ_cons, List.cons_append]
    rw [show o + 1 + new.length = (o + new.length) + 1 by omega, List.drop_succ_cons]
def storeNK (h : AHeap) (n : Nat) (a v : AV) (k : AHeap → Bool) : Bool :=
  @AV.rec (fun _ => Bool) (fun _ => Bool) (fun _ => false) (fun _ _ => false) (fun _ => false) (fun id g i o => rowK h id fun r => ifR r.rw (ifR (Nat.beq g r.g) (ifR (Nat.beq (lenR (cellsR v)) n) (ifR (allLeafR (cellsR v)) (nthK r.es i fun e => ifR (Nat.ble (o + n) (lenR e)) (k { sz := h.sz, t := h.t.set id (.row { es := setNthR r.es i (ifR (Nat.beq (lenR e) n) (cellsR v) (overR (cellsR v) o e)), sz := r.sz, g := r.g, m := r.g, rw := r.rw, ty := r.ty }) }) false) false) false) false) false) (false) (fun _ _ _ _ _ _ => false) (false) (false) (fun _ => false) (false) (fun _ => false) (fun _ _ _ _ _ => false) (false) (fun _ _ => false) (fun _ _ => false) (false) (fun _ _ _ => false) (fun _ _ => false) (false) (fun _ _ _ _ => false) a
theorem storeNK_eq (h : AHeap) (n : Nat) (a v : AV) (k : AHeap → Bool) (hn : Nat.beq n 0 = false) : storeNK h n a v k = optK (storeA h n a v) k := by
  unfold storeNK
  cases a <;> try rfl
  rename_i id g i o
  show rowK h id _ = _
  simp only [rowK_eq, storeA]
  cases h.row id with
  | none => simp only [hn, Bool.false_and, cond_false]; rfl
  | some r =>
    show ifR r.rw (ifR (Nat.beq g r.g) (ifR (Nat.beq (lenR (cellsR v)) n) (ifR (allLeafR (cellsR v)) (nthK r.es i _) false) false) false) false = _
    simp only
    rw [optK_if, cellsR_eq, lenR_eq, allLeafR_eq, nthK_eq]
    cases hrw : r.rw with
    | false => rfl
    | true =>
    cases hg : Nat.beq g r.g with
    | false => rfl
    | true =>
    cases hl : Nat.beq v.cells.length n with
    | false => rfl
    | true =>
    cases ha : allLeaf v.cells with
    | false => rfl
    | true =>
    show optK (nth r.es i) _ = optK _ k
    cases nth r.es i with
    | none => rfl
    | some e =>
      show ifR (Nat.ble (o + n) (lenR e)) _ false = optK (bif Nat.ble (o + n) e.length then _ else none) k
      rw [optK_if, lenR_eq]
      cases hb : Nat.ble (o + n) e.length with
      | false => rfl
      | true =>
        show k _ = k _
        have hb := nble_true.1 hb
        have hl := nbeq_true.1 hl
        have e1 : ifR (Nat.beq e.length n) v.cells (overR v.cells o e) = lay e o v.cells := by
          rw [ifR_eq]
          cases he : Nat.beq e.length n with
          | false => exact overR_eq o e (by omega)
          | true =>
            have he := nbeq_true.1 he
            have ho : o = 0 := by omega
            subst ho
            simp only [cond_true, lay, List.take_zero, List.nil_append, Nat.zero_add]
            rw [hl, List.drop_of_length_le (by omega), List.append_nil]
        rw [e1, setNthR_eq]
        congr 1

def allocK (h : AHeap) (z : List AV) (n : Nat) (k : Kont) : Bool := k (.ptr h.sz 0 0 0) (h.pushR (.row { es := [z], sz := n, g := 0, m := 0, rw := true }))
theorem allocK_eq (h : AHeap) (z : List AV) (k : Kont) (h0 : Nat.beq z.length 0 = false) (hl : allLeaf z = true) : allocK h z z.length k = optPK (allocA h z) k := by
  simp only [allocK, AHeap.pushR_eq, allocA, h0, hl, cond_false, cond_true]
  rfl
def boxK (h : AHeap) (v : AV) (k : Kont) : Bool := ifR (leafR v) (k (.ptr h.sz 0 0 0) (h.pushR (.row { es := [[v]], sz := 1, g := 0, m := 0, rw := true }))) (optPK (boxA h none 1 v) k)
theorem boxK_eq (h : AHeap) (v : AV) (k : Kont) : boxK h v k = optPK (boxA h none 1 v) k := by
  unfold boxK
  rw [ifR_eq, leafR_eq, AHeap.pushR_eq]
  cases hl : v.leaf with
  | false => rfl
  | true =>
    have hc := leaf_cells hl
    simp only [cond_true, boxA, hc, List.length_singleton, allLeaf, hl]
    rfl

def binSlow (op : BinOp) (x y : AV) (k : AV → Bool) : Bool := optK (binA op x y) k
def kindR (a b : IntKind) : Bool := Nat.beq (kidx a) (kidx b)
def leqR (l : List Nat) : List Nat → Bool :=
  @List.rec Nat (fun _ => List Nat → Bool) (fun m => @List.rec Nat (fun _ => Bool) true (fun _ _ _ => false) m) (fun a _ ih m => @List.rec Nat (fun _ => Bool) false (fun b m _ => @Bool.rec (fun _ => Bool) false (ih m) (Nat.beq a b)) m) l
theorem leqR_eq : ∀ (l m : List Nat), leqR l m = leqb l m
  | [], [] => rfl
  | [], _ :: _ => rfl
  | _ :: _, [] => rfl
  | a :: l, b :: m => by
    show (@Bool.rec (fun _ => Bool) false (leqR l m) (Nat.beq a b)) = _
    rw [leqR_eq l m]; simp only [leqb]
    cases Nat.beq a b <;> rfl

def eqlK (x y : AV) (k : AV → Bool) : Bool :=
  @AV.rec (fun _ => Bool) (fun _ => Bool) (fun _ => binSlow .eql x y k) (fun kd m => @Int.rec (fun _ => Bool) (fun m' => @AV.rec (fun _ => Bool) (fun _ => Bool) (fun _ => binSlow .eql x y k) (fun j n => @Int.rec (fun _ => Bool) (fun n' => @Bool.rec (fun _ => Bool) (binSlow .eql x y k) (k (.bool (Nat.beq m' n'))) (kindR kd j)) (fun _ => binSlow .eql x y k) n) (fun _ => binSlow .eql x y k) (fun _ _ _ _ => binSlow .eql x y k) (binSlow .eql x y k) (fun _ _ _ _ _ _ => binSlow .eql x y k) (binSlow .eql x y k) (binSlow .eql x y k) (fun _ => binSlow .eql x y k) (binSlow .eql x y k) (fun _ => binSlow .eql x y k) (fun _ _ _ _ _ => binSlow .eql x y k) (binSlow .eql x y k) (fun _ _ => binSlow .eql x y k) (fun _ _ => binSlow .eql x y k) (binSlow .eql x y k) (fun _ _ _ => binSlow .eql x y k) (fun _ _ => binSlow .eql x y k) (binSlow .eql x y k) (fun _ _ _ _ => binSlow .eql x y k) y) (fun _ => binSlow .eql x y k) m) (fun s => @AV.rec (fun _ => Bool) (fun _ => Bool) (fun _ => binSlow .eql x y k) (fun _ _ => binSlow .eql x y k) (fun t => k (.bool (leqR s t))) (fun _ _ _ _ => binSlow .eql x y k) (binSlow .eql x y k) (fun _ _ _ _ _ _ => binSlow .eql x y k) (binSlow .eql x y k) (binSlow .eql x y k) (fun _ => binSlow .eql x y k) (binSlow .eql x y k) (fun _ => binSlow .eql x y k) (fun _ _ _ _ _ => binSlow .eql x y k) (binSlow .eql x y k) (fun _ _ => binSlow .eql x y k) (fun _ _ => binSlow .eql x y k) (binSlow .eql x y k) (fun _ _ _ => binSlow .eql x y k) (fun _ _ => binSlow .eql x y k) (binSlow .eql x y k) (fun _ _ _ _ => binSlow .eql x y k) y) (fun _ _ _ _ => binSlow .eql x y k) (binSlow .eql x y k) (fun _ _ _ _ _ _ => binSlow .eql x y k) (binSlow .eql x y k) (binSlow .eql x y k) (fun _ => binSlow .eql x y k) (binSlow .eql x y k) (fun _ => binSlow .eql x y k) (fun _ _ _ _ _ => binSlow .eql x y k) (binSlow .eql x y k) (fun _ _ => binSlow .eql x y k) (fun _ _ => binSlow .eql x y k) (binSlow .eql x y k) (fun _ _ _ => binSlow .eql x y k) (fun _ _ => binSlow .eql x y k) (binSlow .eql x y k) (fun _ _ _ _ => binSlow .eql x y k) x
def neqK (x y : AV) (k : AV → Bool) : Bool :=
  @AV.rec (fun _ => Bool) (fun _ => Bool) (fun _ => binSlow .neq x y k) (fun kd m => @Int.rec (fun _ => Bool) (fun m' => @AV.rec (fun _ => Bool) (fun _ => Bool) (fun _ => binSlow .neq x y k) (fun j n => @Int.rec (fun _ => Bool) (fun n' => @Bool.rec (fun _ => Bool) (binSlow .neq x y k) (k (.bool (@Bool.rec (fun _ => Bool) true false (Nat.beq m' n')))) (kindR kd j)) (fun _ => binSlow .neq x y k) n) (fun _ => binSlow .neq x y k) (fun _ _ _ _ => binSlow .neq x y k) (binSlow .neq x y k) (fun _ _ _ _ _ _ => binSlow .neq x y k) (binSlow .neq x y k) (binSlow .neq x y k) (fun _ => binSlow .neq x y k) (binSlow .neq x y k) (fun _ => binSlow .neq x y k) (fun _ _ _ _ _ => binSlow .neq x y k) (binSlow .neq x y k) (fun _ _ => binSlow .neq x y k) (fun _ _ => binSlow .neq x y k) (binSlow .neq x y k) (fun _ _ _ => binSlow .neq x y k) (fun _ _ => binSlow .neq x y k) (binSlow .neq x y k) (fun _ _ _ _ => binSlow .neq x y k) y) (fun _ => binSlow .neq x y k) m) (fun s => @AV.rec (fun _ => Bool) (fun _ => Bool) (fun _ => binSlow .neq x y k) (fun _ _ => binSlow .neq x y k) (fun t => k (.bool (@Bool.rec (fun _ => Bool) true false (leqR s t)))) (fun _ _ _ _ => binSlow .neq x y k) (binSlow .neq x y k) (fun _ _ _ _ _ _ => binSlow .neq x y k) (binSlow .neq x y k) (binSlow .neq x y k) (fun _ => binSlow .neq x y k) (binSlow .neq x y k) (fun _ => binSlow .neq x y k) (fun _ _ _ _ _ => binSlow .neq x y k) (binSlow .neq x y k) (fun _ _ => binSlow .neq x y k) (fun _ _ => binSlow .neq x y k) (binSlow .neq x y k) (fun _ _ _ => binSlow .neq x y k) (fun _ _ => binSlow .neq x y k) (binSlow .neq x y k) (fun _ _ _ _ => binSlow .neq x y k) y) (fun _ _ _ _ => binSlow .neq x y k) (binSlow .neq x y k) (fun _ _ _ _ _ _ => binSlow .neq x y k) (binSlow .neq x y k) (binSlow .neq x y k) (fun _ => binSlow .neq x y k) (binSlow .neq x y k) (fun _ => binSlow .neq x y k) (fun _ _ _ _ _ => binSlow .neq x y k) (binSlow .neq x y k) (fun _ _ => binSlow .neq x y k) (fun _ _ => binSlow .neq x y k) (binSlow .neq x y k) (fun _ _ _ => binSlow .neq x y k) (fun _ _ => binSlow .neq x y k) (binSlow .neq x y k) (fun _ _ _ _ => binSlow .neq x y k) x
def lssK (x y : AV) (k : AV → Bool) : Bool :=
  @AV.rec (fun _ => Bool) (fun _ => Bool) (fun _ => binSlow .lss x y k) (fun kd m => @Int.rec (fun _ => Bool) (fun m' => @AV.rec (fun _ => Bool) (fun _ => Bool) (fun _ => binSlow .lss x y k) (fun j n => @Int.rec (fun _ => Bool) (fun n' => @Bool.rec (fun _ => Bool) (binSlow .lss x y k) (k (.bool (Nat.ble (Nat.succ m') n'))) (kindR kd j)) (fun _ => binSlow .lss x y k) n) (fun _ => binSlow .lss x y k) (fun _ _ _ _ => binSlow .lss x y k) (binSlow .lss x y k) (fun _ _ _ _ _ _ => binSlow .lss x y k) (binSlow .lss x y k) (binSlow .lss x y k) (fun _ => binSlow .lss x y k) (binSlow .lss x y k) (fun _ => binSlow .lss x y k) (fun _ _ _ _ _ => binSlow .lss x y k) (binSlow .lss x y k) (fun _ _ => binSlow .lss x y k) (fun _ _ => binSlow .lss x y k) (binSlow .lss x y k) (fun _ _ _ => binSlow .lss x y k) (fun _ _ => binSlow .lss x y k) (binSlow .lss x y k) (fun _ _ _ _ => binSlow .lss x y k) y) (fun _ => binSlow .lss x y k) m) (fun _ => binSlow .lss x y k) (fun _ _ _ _ => binSlow .lss x y k) (binSlow .lss x y k) (fun _ _ _ _ _ _ => binSlow .lss x y k) (binSlow .lss x y k) (binSlow .lss x y k) (fun _ => binSlow .lss x y k) (binSlow .lss x y k) (fun _ => binSlow .lss x y k) (fun _ _ _ _ _ => binSlow .lss x y k) (binSlow .lss x y k) (fun _ _ => binSlow .lss x y k) (fun _ _ => binSlow .lss x y k) (binSlow .lss x y k) (fun _ _ _ => binSlow .lss x y k) (fun _ _ => binSlow .lss x y k) (binSlow .lss x y k) (fun _ _ _ _ => binSlow .lss x y k) x
def leqK (x y : AV) (k : AV → Bool) : Bool :=
  @AV.rec (fun _ => Bool) (fun _ => Bool) (fun _ => binSlow .leq x y k) (fun kd m => @Int.rec (fun _ => Bool) (fun m' => @AV.rec (fun _ => Bool) (fun _ => Bool) (fun _ => binSlow .leq x y k) (fun j n => @Int.rec (fun _ => Bool) (fun n' => @Bool.rec (fun _ => Bool) (binSlow .leq x y k) (k (.bool (Nat.ble m' n'))) (kindR kd j)) (fun _ => binSlow .leq x y k) n) (fun _ => binSlow .leq x y k) (fun _ _ _ _ => binSlow .leq x y k) (binSlow .leq x y k) (fun _ _ _ _ _ _ => binSlow .leq x y k) (binSlow .leq x y k) (binSlow .leq x y k) (fun _ => binSlow .leq x y k) (binSlow .leq x y k) (fun _ => binSlow .leq x y k) (fun _ _ _ _ _ => binSlow .leq x y k) (binSlow .leq x y k) (fun _ _ => binSlow .leq x y k) (fun _ _ => binSlow .leq x y k) (binSlow .leq x y k) (fun _ _ _ => binSlow .leq x y k) (fun _ _ => binSlow .leq x y k) (binSlow .leq x y k) (fun _ _ _ _ => binSlow .leq x y k) y) (fun _ => binSlow .leq x y k) m) (fun _ => binSlow .leq x y k) (fun _ _ _ _ => binSlow .leq x y k) (binSlow .leq x y k) (fun _ _ _ _ _ _ => binSlow .leq x y k) (binSlow .leq x y k) (binSlow .leq x y k) (fun _ => binSlow .leq x y k) (binSlow .leq x y k) (fun _ => binSlow .leq x y k) (fun _ _ _ _ _ => binSlow .leq x y k) (binSlow .leq x y k) (fun _ _ => binSlow .leq x y k) (fun _ _ => binSlow .leq x y k) (binSlow .leq x y k) (fun _ _ _ => binSlow .leq x y k) (fun _ _ => binSlow .leq x y k) (binSlow .leq x y k) (fun _ _ _ _ => binSlow .leq x y k) x
def gtrK (x y : AV) (k : AV → Bool) : Bool :=
  @AV.rec (fun _ => Bool) (fun _ => Bool) (fun _ => binSlow .gtr x y k) (fun kd m => @Int.rec (fun _ => Bool) (fun m' => @AV.rec (fun _ => Bool) (fun _ => Bool) (fun _ => binSlow .gtr x y k) (fun j n => @Int.rec (fun _ => Bool) (fun n' => @Bool.rec (fun _ => Bool) (binSlow .gtr x y k) (k (.bool (Nat.ble (Nat.succ n') m'))) (kindR kd j)) (fun _ => binSlow .gtr x y k) n) (fun _ => binSlow .gtr x y k) (fun _ _ _ _ => binSlow .gtr x y k) (binSlow .gtr x y k) (fun _ _ _ _ _ _ => binSlow .gtr x y k) (binSlow .gtr x y k) (binSlow .gtr x y k) (fun _ => binSlow .gtr x y k) (binSlow .gtr x y k) (fun _ => binSlow .gtr x y k) (fun _ _ _ _ _ => binSlow .gtr x y k) (binSlow .gtr x y k) (fun _ _ => binSlow .gtr x y k) (fun _ _ => binSlow .gtr x y k) (binSlow .gtr x y k) (fun _ _ _ => binSlow .gtr x y k) (fun _ _ => binSlow .gtr x y k) (binSlow .gtr x y k) (fun _ _ _ _ => binSlow .gtr x y k) y) (fun _ => binSlow .gtr x y k) m) (fun _ => binSlow .gtr x y k) (fun _ _ _ _ => binSlow .gtr x y k) (binSlow .gtr x y k) (fun _ _ _ _ _ _ => binSlow .gtr x y k) (binSlow .gtr x y k) (binSlow .gtr x y k) (fun _ => binSlow .gtr x y k) (binSlow .gtr x y k) (fun _ => binSlow .gtr x y k) (fun _ _ _ _ _ => binSlow .gtr x y k) (binSlow .gtr x y k) (fun _ _ => binSlow .gtr x y k) (fun _ _ => binSlow .gtr x y k) (binSlow .gtr x y k) (fun _ _ _ => binSlow .gtr x y k) (fun _ _ => binSlow .gtr x y k) (binSlow .gtr x y k) (fun _ _ _ _ => binSlow .gtr x y k) x
def geqK (x y : AV) (k : AV → Bool) : Bool :=
  @AV.rec (fun _ => Bool) (fun _ => Bool) (fun _ => binSlow .geq x y k) (fun kd m => @Int.rec (fun _ => Bool) (fun m' => @AV.rec (fun _ => Bool) (fun _ => Bool) (fun _ => binSlow .geq x y k) (fun j n => @Int.rec (fun _ => Bool) (fun n' => @Bool.rec (fun _ => Bool) (binSlow .geq x y k) (k (.bool (Nat.ble n' m'))) (kindR kd j)) (fun _ => binSlow .geq x y k) n) (fun _ => binSlow .geq x y k) (fun _ _ _ _ => binSlow .geq x y k) (binSlow .geq x y k) (fun _ _ _ _ _ _ => binSlow .geq x y k) (binSlow .geq x y k) (binSlow .geq x y k) (fun _ => binSlow .geq x y k) (binSlow .geq x y k) (fun _ => binSlow .geq x y k) (fun _ _ _ _ _ => binSlow .geq x y k) (binSlow .geq x y k) (fun _ _ => binSlow .geq x y k) (fun _ _ => binSlow .geq x y k) (binSlow .geq x y k) (fun _ _ _ => binSlow .geq x y k) (fun _ _ => binSlow .geq x y k) (binSlow .geq x y k) (fun _ _ _ _ => binSlow .geq x y k) y) (fun _ => binSlow .geq x y k) m) (fun _ => binSlow .geq x y k) (fun _ _ _ _ => binSlow .geq x y k) (binSlow .geq x y k) (fun _ _ _ _ _ _ => binSlow .geq x y k) (binSlow .geq x y k) (binSlow .geq x y k) (fun _ => binSlow .geq x y k) (binSlow .geq x y k) (fun _ => binSlow .geq x y k) (fun _ _ _ _ _ => binSlow .geq x y k) (binSlow .geq x y k) (fun _ _ => binSlow .geq x y k) (fun _ _ => binSlow .geq x y k) (binSlow .geq x y k) (fun _ _ _ => binSlow .geq x y k) (fun _ _ => binSlow .geq x y k) (binSlow .geq x y k) (fun _ _ _ _ => binSlow .geq x y k) x
def addK (x y : AV) (k : AV → Bool) : Bool :=
  @AV.rec (fun _ => Bool) (fun _ => Bool) (fun _ => binSlow .add x y k) (fun kd m => @IntKind.rec (fun _ => Bool) (binSlow .add x y k) (binSlow .add x y k) (binSlow .add x y k) (@Int.rec (fun _ => Bool) (fun m' => @AV.rec (fun _ => Bool) (fun _ => Bool) (fun _ => binSlow .add x y k) (fun j n => @IntKind.rec (fun _ => Bool) (binSlow .add x y k) (binSlow .add x y k) (binSlow .add x y k) (@Int.rec (fun _ => Bool) (fun n' => @Bool.rec (fun _ => Bool) (binSlow .add x y k) (k (.int .i64 (.ofNat (Nat.add m' n')))) (Nat.ble (Nat.add m' n') 9223372036854775807)) (fun _ => binSlow .add x y k) n) (binSlow .add x y k) (binSlow .add x y k) (binSlow .add x y k) (binSlow .add x y k) j) (fun _ => binSlow .add x y k) (fun _ _ _ _ => binSlow .add x y k) (binSlow .add x y k) (fun _ _ _ _ _ _ => binSlow .add x y k) (binSlow .add x y k) (binSlow .add x y k) (fun _ => binSlow .add x y k) (binSlow .add x y k) (fun _ => binSlow .add x y k) (fun _ _ _ _ _ => binSlow .add x y k) (binSlow .add x y k) (fun _ _ => binSlow .add x y k) (fun _ _ => binSlow .add x y k) (binSlow .add x y k) (fun _ _ _ => binSlow .add x y k) (fun _ _ => binSlow .add x y k) (binSlow .add x y k) (fun _ _ _ _ => binSlow .add x y k) y) (fun _ => binSlow .add x y k) m) (binSlow .add x y k) (binSlow .add x y k) (binSlow .add x y k) (binSlow .add x y k) kd) (fun _ => binSlow .add x y k) (fun _ _ _ _ => binSlow .add x y k) (binSlow .add x y k) (fun _ _ _ _ _ _ => binSlow .add x y k) (binSlow .add x y k) (binSlow .add x y k) (fun _ => binSlow .add x y k) (binSlow .add x y k) (fun _ => binSlow .add x y k) (fun _ _ _ _ _ => binSlow .add x y k) (binSlow .add x y k) (fun _ _ => binSlow .add x y k) (fun _ _ => binSlow .add x y k) (binSlow .add x y k) (fun _ _ _ => binSlow .add x y k) (fun _ _ => binSlow .add x y k) (binSlow .add x y k) (fun _ _ _ _ => binSlow .add x y k) x
def subK (x y : AV) (k : AV → Bool) : Bool :=
  @AV.rec (fun _ => Bool) (fun _ => Bool) (fun _ => binSlow .sub x y k) (fun kd m => @IntKind.rec (fun _ => Bool) (binSlow .sub x y k) (binSlow .sub x y k) (binSlow .sub x y k) (@Int.rec (fun _ => Bool) (fun m' => @AV.rec (fun _ => Bool) (fun _ => Bool) (fun _ => binSlow .sub x y k) (fun j n => @IntKind.rec (fun _ => Bool) (binSlow .sub x y k) (binSlow .sub x y k) (binSlow .sub x y k) (@Int.rec (fun _ => Bool) (fun n' => @Bool.rec (fun _ => Bool) (binSlow .sub x y k) (k (.int .i64 (.ofNat (Nat.sub m' n')))) (and (Nat.ble n' m') (Nat.ble m' 9223372036854775807))) (fun _ => binSlow .sub x y k) n) (binSlow .sub x y k) (binSlow .sub x y k) (binSlow .sub x y k) (binSlow .sub x y k) j) (fun _ => binSlow .sub x y k) (fun _ _ _ _ => binSlow .sub x y k) (binSlow .sub x y k) (fun _ _ _ _ _ _ => binSlow .sub x y k) (binSlow .sub x y k) (binSlow .sub x y k) (fun _ => binSlow .sub x y k) (binSlow .sub x y k) (fun _ => binSlow .sub x y k) (fun _ _ _ _ _ => binSlow .sub x y k) (binSlow .sub x y k) (fun _ _ => binSlow .sub x y k) (fun _ _ => binSlow .sub x y k) (binSlow .sub x y k) (fun _ _ _ => binSlow .sub x y k) (fun _ _ => binSlow .sub x y k) (binSlow .sub x y k) (fun _ _ _ _ => binSlow .sub x y k) y) (fun _ => binSlow .sub x y k) m) (binSlow .sub x y k) (binSlow .sub x y k) (binSlow .sub x y k) (binSlow .sub x y k) kd) (fun _ => binSlow .sub x y k) (fun _ _ _ _ => binSlow .sub x y k) (binSlow .sub x y k) (fun _ _ _ _ _ _ => binSlow .sub x y k) (binSlow .sub x y k) (binSlow .sub x y k) (fun _ => binSlow .sub x y k) (binSlow .sub x y k) (fun _ => binSlow .sub x y k) (fun _ _ _ _ _ => binSlow .sub x y k) (binSlow .sub x y k) (fun _ _ => binSlow .sub x y k) (fun _ _ => binSlow .sub x y k) (binSlow .sub x y k) (fun _ _ _ => binSlow .sub x y k) (fun _ _ => binSlow .sub x y k) (binSlow .sub x y k) (fun _ _ _ _ => binSlow .sub x y k) x
theorem ble_succ (a b : Nat) : Nat.ble (Nat.succ a) b = Nat.blt a b := rfl
theorem ble_not (a b : Nat) : Nat.ble a b = !Nat.blt b a := by
  cases h : Nat.ble a b with
  | true => have := nble_true.1 h; cases h2 : Nat.blt b a with
    | true => have := nblt_true.1 h2; omega
    | false => rfl
  | false =>
    have : ¬ a ≤ b := fun e => by rw [nble_true.2 e] at h; cases h
    rw [nblt_true.2 (by omega : b < a)]; rfl
theorem not_rec (b : Bool) : (@Bool.rec (fun _ => Bool) true false b) = !b := by cases b <;> rfl

theorem eqlK_eq (x y : AV) (k : AV → Bool) : eqlK x y k = optK (binA .eql x y) k := by
  cases x with
  | int kd m =>
    cases m with
    | negSucc m => rfl
    | ofNat m =>
      cases y with
      | int j n =>
        cases n with
        | negSucc n => rfl
        | ofNat n =>
          show (@Bool.rec (fun _ => Bool) (binSlow .eql (.int kd (.ofNat m)) (.int j (.ofNat n)) k) _ (kindR kd j)) = _
          cases hk : kindR kd j with
          | false => rfl
          | true =>
            have hk : Nat.beq (kidx kd) (kidx j) = true := hk
            show k _ = _
            simp only [binA, isShift, cond_false, hk, cond_true, intOp, ieqb, iltb, ble_succ, ble_not, not_rec]
            try rfl
      | _ => rfl
  | str s =>
    cases y <;> try rfl
    rename_i t
    show k _ = _
    simp only [binA, strOp, leqR_eq, not_rec]
    rfl
  | _ => rfl

theorem neqK_eq (x y : AV) (k : AV → Bool) : neqK x y k = optK (binA .neq x y) k := by
  cases x with
  | int kd m =>
    cases m with
    | negSucc m => rfl
    | ofNat m =>
      cases y with
      | int j n =>
        cases n with
        | negSucc n => rfl
        | ofNat n =>
          show (@Bool.rec (fun _ => Bool) (binSlow .neq (.int kd (.ofNat m)) (.int j (.ofNat n)) k) _ (kindR kd j)) = _
          cases hk : kindR kd j with
          | false => rfl
          | true =>
            have hk : Nat.beq (kidx kd) (kidx j) = true := hk
            show k _ = _
            simp only [binA, isShift, cond_false, hk, cond_true, intOp, ieqb, iltb, ble_succ, ble_not, not_rec]
            try rfl
      | _ => rfl
  | str s =>
    cases y <;> try rfl
    rename_i t
    show k _ = _
    simp only [binA, strOp, leqR_eq, not_rec]
    rfl
  | _ => rfl

theorem lssK_eq (x y : AV) (k : AV → Bool) : lssK x y k = optK (binA .lss x y) k := by
  cases x with
  | int kd m =>
    cases m with
    | negSucc m => rfl
    | ofNat m =>
      cases y with
      | int j n =>
        cases n with
        | negSucc n => rfl
        | ofNat n =>
          show (@Bool.rec (fun _ => Bool) (binSlow .lss (.int kd (.ofNat m)) (.int j (.ofNat n)) k) _ (kindR kd j)) = _
          cases hk : kindR kd j with
          | false => rfl
          | true =>
            have hk : Nat.beq (kidx kd) (kidx j) = true := hk
            show k _ = _
            simp only [binA, isShift, cond_false, hk, cond_true, intOp, ieqb, iltb, ble_succ, ble_not, not_rec]
            try rfl
      | _ => rfl
  | _ => rfl

theorem leqK_eq (x y : AV) (k : AV → Bool) : leqK x y k = optK (binA .leq x y) k := by
  cases x with
  | int kd m =>
    cases m with
    | negSucc m => rfl
    | ofNat m =>
      cases y with
      | int j n =>
        cases n with
        | negSucc n => rfl
        | ofNat n =>
          show (@Bool.rec (fun _ => Bool) (binSlow .leq (.int kd (.ofNat m)) (.int j (.ofNat n)) k) _ (kindR kd j)) = _
          cases hk : kindR kd j with
          | false => rfl
          | true =>
            have hk : Nat.beq (kidx kd) (kidx j) = true := hk
            show k _ = _
            simp only [binA, isShift, cond_false, hk, cond_true, intOp, ieqb, iltb, ble_succ, ble_not, not_rec]
            try rfl
      | _ => rfl
  | _ => rfl

theorem gtrK_eq (x y : AV) (k : AV → Bool) : gtrK x y k = optK (binA .gtr x y) k := by
  cases x with
  | int kd m =>
    cases m with
    | negSucc m => rfl
    | ofNat m =>
      cases y with
      | int j n =>
        cases n with
        | negSucc n => rfl
        | ofNat n =>
          show (@Bool.rec (fun _ => Bool) (binSlow .gtr (.int kd (.ofNat m)) (.int j (.ofNat n)) k) _ (kindR kd j)) = _
          cases hk : kindR kd j with
          | false => rfl
          | true =>
            have hk : Nat.beq (kidx kd) (kidx j) = true := hk
            show k _ = _
            simp only [binA, isShift, cond_false, hk, cond_true, intOp, ieqb, iltb, ble_succ, ble_not, not_rec]
            try rfl
      | _ => rfl
  | _ => rfl

theorem geqK_eq (x y : AV) (k : AV → Bool) : geqK x y k = optK (binA .geq x y) k := by
  cases x with
  | int kd m =>
    cases m with
    | negSucc m => rfl
    | ofNat m =>
      cases y with
      | int j n =>
        cases n with
        | negSucc n => rfl
        | ofNat n =>
          show (@Bool.rec (fun _ => Bool) (binSlow .geq (.int kd (.ofNat m)) (.int j (.ofNat n)) k) _ (kindR kd j)) = _
          cases hk : kindR kd j with
          | false => rfl
          | true =>
            have hk : Nat.beq (kidx kd) (kidx j) = true := hk
            show k _ = _
            simp only [binA, isShift, cond_false, hk, cond_true, intOp, ieqb, iltb, ble_succ, ble_not, not_rec]
            try rfl
      | _ => rfl
  | _ => rfl

theorem addK_eq (x y : AV) (k : AV → Bool) : addK x y k = optK (binA .add x y) k := by
  cases x with
  | int kd m =>
    cases kd with
    | i64 =>
      cases m with
      | negSucc m => rfl
      | ofNat m =>
        cases y with
        | int j n =>
          cases j with
          | i64 =>
            cases n with
            | negSucc n => rfl
            | ofNat n =>
              show (@Bool.rec (fun _ => Bool) (binSlow .add (.int .i64 (.ofNat m)) (.int .i64 (.ofNat n)) k) _ _) = _
              cases hb : Nat.ble (Nat.add m n) 9223372036854775807 with
              | false => rfl
              | true =>
                show k _ = _
                have : (Int.ofNat m + Int.ofNat n) = Int.ofNat (Nat.add m n) := rfl
                simp only [binA, isShift, cond_false, kidx, intOp, this, wrapA, fitsK, hb, cond_true]
                rfl
          | _ => rfl
        | _ => rfl
    | _ => rfl
  | _ => rfl

theorem subK_eq (x y : AV) (k : AV → Bool) : subK x y k = optK (binA .sub x y) k := by
  cases x with
  | int kd m =>
    cases kd with
    | i64 =>
      cases m with
      | negSucc m => rfl
      | ofNat m =>
        cases y with
        | int j n =>
          cases j with
          | i64 =>
            cases n with
            | negSucc n => rfl
            | ofNat n =>
              show (@Bool.rec (fun _ => Bool) (binSlow .sub (.int .i64 (.ofNat m)) (.int .i64 (.ofNat n)) k) _ _) = _
              cases hb : and (Nat.ble n m) (Nat.ble m 9223372036854775807) with
              | false => rfl
              | true =>
                rw [Bool.and_eq_true] at hb
                have h1 := nble_true.1 hb.1
                have h2 := nble_true.1 hb.2
                show k _ = _
                have e : (Int.ofNat m - Int.ofNat n) = Int.ofNat (Nat.sub m n) := by
                  show ((m : Int) - (n : Int)) = ((m - n : Nat) : Int)
                  omega
                have e2 : Nat.ble (Nat.sub m n) 9223372036854775807 = true := nble_true.2 (by show m - n ≤ _; omega)
                simp only [binA, isShift, cond_false, kidx, intOp, e, wrapA, fitsK, e2, cond_true]
                rfl
          | _ => rfl
        | _ => rfl
    | _ => rfl
  | _ => rfl

def pickK (c a b : AV) (k : AV → Bool) : Bool :=
  @AV.rec (fun _ => Bool) (fun _ => Bool) (fun x => k (@Bool.rec (fun _ => AV) b a x)) (fun _ _ => false) (fun _ => false) (fun _ _ _ _ => false) (false) (fun _ _ _ _ _ _ => false) (false) (false) (fun _ => false) (false) (fun _ => false) (fun _ _ _ _ _ => false) (false) (fun _ _ => false) (fun _ _ => false) (false) (fun _ _ _ => false) (fun _ _ => false) (false) (fun _ _ _ _ => false) c
def condK (c : AV) (p q : Bool) : Bool :=
  @AV.rec (fun _ => Bool) (fun _ => Bool) (fun x => @Bool.rec (fun _ => Bool) q p x) (fun _ _ => false) (fun _ => false) (fun _ _ _ _ => false) (false) (fun _ _ _ _ _ _ => false) (false) (false) (fun _ => false) (false) (fun _ => false) (fun _ _ _ _ _ => false) (false) (fun _ _ => false) (fun _ _ => false) (false) (fun _ _ _ => false) (fun _ _ => false) (false) (fun _ _ _ _ => false) c
def notK (x : AV) (k : AV → Bool) : Bool :=
  @AV.rec (fun _ => Bool) (fun _ => Bool) (fun x => k (.bool (@Bool.rec (fun _ => Bool) true false x))) (fun _ _ => false) (fun _ => false) (fun _ _ _ _ => false) (false) (fun _ _ _ _ _ _ => false) (false) (false) (fun _ => false) (false) (fun _ => false) (fun _ _ _ _ _ => false) (false) (fun _ _ => false) (fun _ _ => false) (false) (fun _ _ _ => false) (fun _ _ => false) (false) (fun _ _ _ _ => false) x
theorem notK_eq (x : AV) (k : AV → Bool) : notK x k = optK (notA x) k := by
  cases x <;> try rfl
  rename_i b; cases b <;> rfl

def nilckK (x : AV) (k : AV → Bool) : Bool :=
  @AV.rec (fun _ => Bool) (fun _ => Bool) (fun _ => k x) (fun _ _ => k x) (fun _ => k x) (fun _ _ _ _ => k x) (false) (fun _ _ _ _ _ _ => k x) (k x) (k x) (fun _ => k x) (k x) (fun _ => k x) (fun _ _ _ _ _ => k x) (false) (fun _ _ => k x) (fun _ _ => k x) (false) (fun _ _ _ => k x) (fun _ _ => k x) (k x) (fun _ _ _ _ => k x) x
theorem nilckK_eq (x : AV) (k : AV → Bool) : nilckK x k = optK (nilckA x) k := by cases x <;> rfl

def extK (i : Nat) (x : AV) (k : AV → Bool) : Bool :=
  @AV.rec (fun _ => Bool) (fun _ => Bool) (fun _ => false) (fun _ _ => false) (fun _ => false) (fun _ _ _ _ => false) (false) (fun _ _ _ _ _ _ => false) (false) (false) (fun _ => false) (false) (fun _ => false) (fun _ _ _ _ _ => false) (false) (fun _ _ => false) (fun l _ => nthK l i k) (false) (fun _ _ _ => false) (fun _ _ => false) (false) (fun _ _ _ _ => false) x
theorem extK_eq (i : Nat) (x : AV) (k : AV → Bool) : extK i x k = optK (extA i x) k := by
  cases x <;> try rfl
  exact nthK_eq _ _ _

def lenSK (x : AV) (k : AV → Bool) : Bool :=
  @AV.rec (fun _ => Bool) (fun _ => Bool) (fun _ => false) (fun _ _ => false) (fun s => k (.int .i64 (.ofNat (lenR s)))) (fun _ _ _ _ => false) (false) (fun _ _ _ _ _ _ => false) (false) (false) (fun _ => false) (false) (fun _ => false) (fun _ _ _ _ _ => false) (false) (fun _ _ => false) (fun _ _ => false) (false) (fun _ _ _ => false) (fun _ _ => false) (false) (fun _ _ _ _ => false) x
theorem lenSK_eq (h : AHeap) (x : AV) (k : AV → Bool) : lenSK x k = optK (lenA h 0 x) k := by
  cases x <;> try rfl
  show k _ = k _
  rw [lenR_eq]

def lenK (x : AV) (k : AV → Bool) : Bool :=
  @AV.rec (fun _ => Bool) (fun _ => Bool) (fun _ => false) (fun _ _ => false) (fun _ => false) (fun _ _ _ _ => false) (false) (fun _ _ _ n _ _ => k (.int .i64 (.ofNat n))) (k (.int .i64 (.ofNat 0))) (k (.int .i64 (.ofNat 0))) (fun _ => false) (false) (fun _ => false) (fun _ _ _ _ _ => false) (false) (fun _ _ => false) (fun _ _ => false) (false) (fun _ _ _ => false) (fun _ _ => false) (false) (fun _ _ _ _ => false) x
theorem lenK_eq (h : AHeap) (x : AV) (k : AV → Bool) : lenK x k = optK (lenA h 1 x) k := by cases x <;> rfl

def natK (x : AV) (k : Nat → Bool) : Bool :=
  @AV.rec (fun _ => Bool) (fun _ => Bool) (fun _ => false) (fun _ n => @Int.rec (fun _ => Bool) k (fun _ => false) n) (fun _ => false) (fun _ _ _ _ => false) (false) (fun _ _ _ _ _ _ => false) (false) (false) (fun _ => false) (false) (fun _ => false) (fun _ _ _ _ _ => false) (false) (fun _ _ => false) (fun _ _ => false) (false) (fun _ _ _ => false) (fun _ _ => false) (false) (fun _ _ _ _ => false) x
theorem natK_eq (x : AV) (k : Nat → Bool) : natK x k = optK (asNat x) k := by
  cases x <;> try rfl
  rename_i n; cases n <;> rfl

def iadrK (h : AHeap) (sz : Nat) (x y : AV) (k : AV → Bool) : Bool :=
  @AV.rec (fun _ => Bool) (fun _ => Bool) (fun _ => false) (fun _ _ => false) (fun _ => false) (fun _ _ _ _ => false) (false) (fun id g s len _ _ => natK y fun i => ifR (Nat.ble (Nat.succ i) len) (rowK h id fun r => ifR (Nat.beq r.sz sz) (k (.ptr id g (Nat.add s i) 0)) false) false) (false) (false) (fun _ => false) (false) (fun _ => false) (fun _ _ _ _ _ => false) (false) (fun _ _ => false) (fun _ _ => false) (false) (fun _ _ _ => false) (fun _ _ => false) (false) (fun _ _ _ _ => false) x
theorem iadrK_eq (h : AHeap) (sz : Nat) (x y : AV) (k : AV → Bool) : iadrK h sz x y k = optK (iadrA h sz x y) k := by
  cases x <;> try rfl
  rename_i id g s len c ex
  show natK y _ = _
  rw [natK_eq]
  simp only [iadrA]
  cases asNat y with
  | none => rfl
  | some i =>
    simp only
    show ifR (Nat.blt i len) (rowK h id _) false = _
    rw [rowK_eq, optK_if, rowSz]
    cases Nat.blt i len with
    | false => rfl
    | true =>
      cases h.row id with
      | none => rfl
      | some r => rfl

/-- A text as a trie. -/
def strF (l : List Nat) : Nat → PT Nat → PT Nat := @List.rec Nat (fun _ => Nat → PT Nat → PT Nat) (fun _ t => t) (fun x _ ih n t => ih (Nat.succ n) (t.set n x)) l
def strT (l : List Nat) : PT Nat := strF l 0 .lf
theorem strF_get : ∀ (l : List Nat) (n : Nat) (t : PT Nat) (i : Nat), (strF l n t).get i = if n ≤ i then (match nth l (i - n) with | some x => some x | none => t.get i) else t.get i
  | [], n, t, i => by
    show t.get i = _
    simp [nth]
  | x :: l, n, t, i => by
    show (strF l (n + 1) (t.set n x)).get i = _
    rw [strF_get l (n + 1) (t.set n x) i, PT.get_set]
    by_cases h1 : n + 1 ≤ i
    · have h3 : n ≤ i := by omega
      have h4 : ¬ i = n := by omega
      have h5 : nth (x :: l) (i - n) = nth l (i - (n + 1)) := by
        rw [show i - n = (i - (n + 1)) + 1 by omega]
        rfl
      simp only [if_pos h1, if_pos h3, if_neg h4, h5]
    · rw [if_neg h1]
      by_cases h2 : i = n
      · subst h2
        simp [nth]
      · rw [if_neg h2, if_neg (by omega)]
theorem strT_get (l : List Nat) (i : Nat) : (strT l).get i = nth l i := by
  unfold strT
  rw [strF_get, if_pos (Nat.zero_le _), Nat.sub_zero]
  cases nth l i <;> rfl
def idxsK (x y : AV) (k : AV → Bool) : Bool :=
  @AV.rec (fun _ => Bool) (fun _ => Bool) (fun _ => false) (fun _ _ => false) (fun s => natK y fun i => ifR (Nat.ble i 9) (nthK s i fun b => k (.int .u8 (.ofNat b))) (optK ((strT s).get i) fun b => k (.int .u8 (.ofNat b)))) (fun _ _ _ _ => false) (false) (fun _ _ _ _ _ _ => false) (false) (false) (fun _ => false) (false) (fun _ => false) (fun _ _ _ _ _ => false) (false) (fun _ _ => false) (fun _ _ => false) (false) (fun _ _ _ => false) (fun _ _ => false) (false) (fun _ _ _ _ => false) x
theorem idxsK_eq (x y : AV) (k : AV → Bool) : idxsK x y k = optK (idxsA x y) k := by
  cases x <;> try rfl
  rename_i s
  show natK y _ = _
  rw [natK_eq]
  simp only [idxsA]
  cases asNat y with
  | none => rfl
  | some i =>
    show ifR _ (nthK s i _) _ = _
    rw [ifR_eq, nthK_eq, strT_get]
    simp only
    cases Nat.ble i 9 <;> cases nth s i <;> rfl

def fldK (off : Nat) (x : AV) (k : AV → Bool) : Bool :=
  @AV.rec (fun _ => Bool) (fun _ => Bool) (fun _ => false) (fun _ _ => false) (fun _ => false) (fun _ _ _ _ => false) (false) (fun _ _ _ _ _ _ => false) (false) (false) (fun _ => false) (false) (fun _ => false) (fun _ _ _ _ _ => false) (false) (fun l _ => nthK l off k) (fun _ _ => false) (false) (fun _ _ _ => false) (fun _ _ => false) (false) (fun _ _ _ _ => false) x
theorem fldK_eq (off n : Nat) (x : AV) (k : AV → Bool) : fldK off x k = optK (fldA false off n x) k := by
  cases x <;> try rfl
  exact nthK_eq _ _ _

/-- Under a guard. -/
def gK (g : AV) (b : Bool) (run : (AV → Bool) → Bool) (k : AV → Bool) : Bool :=
  @AV.rec (fun _ => Bool) (fun _ => Bool) (fun x => @Bool.rec (fun _ => Bool) (k (.tup [])) (run k) (@Bool.rec (fun _ => Bool) (@Bool.rec (fun _ => Bool) true false b) b x)) (fun _ _ => k (.tup [])) (fun _ => k (.tup [])) (fun _ _ _ _ => k (.tup [])) (k (.tup [])) (fun _ _ _ _ _ _ => k (.tup [])) (k (.tup [])) (k (.tup [])) (fun _ => k (.tup [])) (k (.tup [])) (fun _ => k (.tup [])) (fun _ _ _ _ _ => k (.tup [])) (k (.tup [])) (fun _ _ => k (.tup [])) (fun _ _ => k (.tup [])) (k (.tup [])) (fun _ _ _ => k (.tup [])) (fun _ _ => k (.tup [])) (k (.tup [])) (fun _ _ _ _ => k (.tup [])) g
def gP (g : AV) (b : Bool) (run : Kont → Bool) (h : AHeap) (k : Kont) : Bool :=
  @AV.rec (fun _ => Bool) (fun _ => Bool) (fun x => @Bool.rec (fun _ => Bool) (k (.tup []) h) (run k) (@Bool.rec (fun _ => Bool) (@Bool.rec (fun _ => Bool) true false b) b x)) (fun _ _ => k (.tup []) h) (fun _ => k (.tup []) h) (fun _ _ _ _ => k (.tup []) h) (k (.tup []) h) (fun _ _ _ _ _ _ => k (.tup []) h) (k (.tup []) h) (k (.tup []) h) (fun _ => k (.tup []) h) (k (.tup []) h) (fun _ => k (.tup []) h) (fun _ _ _ _ _ => k (.tup []) h) (k (.tup []) h) (fun _ _ => k (.tup []) h) (fun _ _ => k (.tup []) h) (k (.tup []) h) (fun _ _ _ => k (.tup []) h) (fun _ _ => k (.tup []) h) (k (.tup []) h) (fun _ _ _ _ => k (.tup []) h) g
/-- What a call leaves: a panic goes on to the function's end. -/
def pz (Q k : Kont) : Kont := fun v h =>
  @AV.rec (fun _ => Bool) (fun _ => Bool) (fun _ => k v h) (fun _ _ => k v h) (fun _ => k v h) (fun _ _ _ _ => k v h) (k v h) (fun _ _ _ _ _ _ => k v h) (k v h) (k v h) (fun _ => k v h) (k v h) (fun _ => k v h) (fun _ _ _ _ _ => k v h) (k v h) (fun _ _ => k v h) (fun _ _ => k v h) (k v h) (fun _ _ _ => k v h) (fun x _ => Q (.pan x) h) (k v h) (fun _ _ _ _ => k v h) v
theorem pz_eq (Q k : Kont) (v : AV) (h : AHeap) : pz Q k v h = (match isPan v with | some x => Q (.pan x) h | none => k v h) := by cases v <;> rfl
end
end Go.Ab
