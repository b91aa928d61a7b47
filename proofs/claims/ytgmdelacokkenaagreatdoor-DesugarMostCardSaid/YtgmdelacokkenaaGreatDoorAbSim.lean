/-
  The functions of a program as functions of Lean ('shallow'): the pieces that they are made of, and the laws by which each is shown to say no more than the abstract machine's code.
-/
import Derived.Test.YtgmdelacokkenaaGreatDoorAbFz
namespace Go.Ab
noncomputable section
set_option linter.unusedSimpArgs false
set_option linter.unusedVariables false

/-! ### The pieces -/
def callV (call : CallFn) (f : AV) (args : List AV) (h : AHeap) (K : Kont) : Bool :=
  match f with
  | .fn tgt first cap => call tgt (first ++ args ++ cap) h K
  | _ => false

def pickV (c a b : AV) : Option AV :=
  match c with
  | .bool x => match x with | true => some a | false => some b
  | _ => none

def eqV (h : AHeap) (neg : Bool) (k : EqK) (a b : AV) : Option AV :=
  match eqA h k a b with
  | some r => some (.bool (bif neg then !r else r))
  | none => none

def fillV (cells : List AV) : List (Nat × Nat × AV) → Option (List AV)
  | [] => some cells
  | (off, n, v) :: rest => bif Nat.beq v.cells.length n && Nat.ble (off + n) cells.length && allLeaf v.cells then fillV (lay cells off v.cells) rest else none

def buildV (z : List AV) (ps : List (Nat × Nat × AV)) : Option AV :=
  match fillV z ps with
  | some l => some (.agg l)
  | none => none

def fillRowV (sz : Nat) (es : List (List AV)) : List (Nat × AV) → Option (List (List AV))
  | [] => some es
  | (i, v) :: rest => bif Nat.beq v.cells.length sz && Nat.blt i es.length && allLeaf v.cells then fillRowV sz (setNth es i v.cells) rest else none

def bsliceV (h : AHeap) (n sz : Nat) (z : List AV) (ps : List (Nat × AV)) : Option (AV × AHeap) :=
  bif Nat.beq z.length sz && Nat.blt 0 sz && Nat.ble (n * sz) 16777216 && allLeaf z then
    (match fillRowV sz (repl n z) ps with
    | some es => some (.slc h.sz 0 0 n n true, newRow h es sz)
    | none => none)
  else none

def natV (d : Nat) : Option AV → Option Nat
  | none => some d
  | some v => asNat v

def sliceV (h : AHeap) (sz : Nat) (x : AV) (lo hi mx : Option AV) : Option AV :=
  match x with
  | .slc id g s len cap ex =>
    bif rowSz h id sz then
    match mx with
    | some m => match natV 0 (some m), natV len hi, natV 0 lo with
      | some m, some h, some l => bif Nat.ble l h && Nat.ble h m && Nat.ble m cap && hi.isSome then some (.slc id g (s + l) (h - l) (m - l) true) else none
      | _, _, _ => none
    | none => match natV len hi, natV 0 lo with
      | some h, some l => bif Nat.ble l h && Nat.ble h cap then some (.slc id g (s + l) (h - l) (cap - l) ex) else none
      | _, _ => none
    else none
  | .nilSlc =>
    match natV 0 mx, natV 0 hi, natV 0 lo with
    | some 0, some 0, some 0 => bif mx.isNone || hi.isSome then some .nilSlc else none
    | _, _, _ => none
  | .emp =>
    match natV 0 mx, natV 0 hi, natV 0 lo with
    | some 0, some 0, some 0 => bif mx.isNone || hi.isSome then some .emp else none
    | _, _, _ => none
  | _ => none

def sliceSV (x : AV) (lo hi : Option AV) : Option AV :=
  match x with
  | .str s => match natV s.length hi, natV 0 lo with
    | some h, some l => bif Nat.ble l h && Nat.ble h s.length then some (.str ((s.take h).drop l)) else none
    | _, _ => none
  | _ => none

/-! The same, handed what comes next -/
def natVK (d : Nat) (o : Option AV) (k : Nat → Bool) : Bool := @Option.rec AV (fun _ => Bool) (k d) (fun v => natK v k) o
theorem natVK_eq (d : Nat) (o : Option AV) (k : Nat → Bool) : natVK d o k = optK (natV d o) k := by
  cases o with
  | none => rfl
  | some v => exact natK_eq v k
def slsR (s : List Nat) (lo hi : Option AV) (k : AV → Bool) : Bool :=
  @Option.rec AV (fun _ => Bool) (natVK 0 lo fun l => ifR (Nat.ble l (lenR s)) (k (.str (dropR l s))) false)
    (fun v => natK v fun m => natVK 0 lo fun l => ifR (Nat.ble l m) (ifR (Nat.ble m (lenR s)) (k (.str (takeR (Nat.sub m l) (dropR l s)))) false) false) hi
def strK (x : AV) (k : List Nat → Bool) : Bool :=
  match x with
  | .str s => k s
  | _ => false
def slsK (x : AV) (lo hi : Option AV) (k : AV → Bool) : Bool := strK x fun s => slsR s lo hi k
theorem slsK_eq (x : AV) (lo hi : Option AV) (k : AV → Bool) : slsK x lo hi k = optK (sliceSV x lo hi) k := by
  cases x <;> try rfl
  rename_i s
  show slsR s lo hi k = _
  cases hi with
  | none =>
    have e0 : slsR s lo none k = natVK 0 lo (fun l => ifR (Nat.ble l (lenR s)) (k (.str (dropR l s))) false) := rfl
    rw [e0, natVK_eq]
    simp only [sliceSV, show natV s.length none = some s.length from rfl]
    cases natV 0 lo with
    | none => rfl
    | some l =>
      show ifR (Nat.ble l (lenR s)) _ false = optK (bif Nat.ble l s.length && Nat.ble s.length s.length then _ else none) k
      have e : Nat.ble s.length s.length = true := nble_true.2 (Nat.le_refl _)
      rw [optK_if, lenR_eq, e, Bool.and_true, dropR_eq, List.take_length]
      rfl
  | some v =>
    have e0 : slsR s lo (some v) k = natK v (fun m => natVK 0 lo fun l => ifR (Nat.ble l m) (ifR (Nat.ble m (lenR s)) (k (.str (takeR (Nat.sub m l) (dropR l s)))) false) false) := rfl
    rw [e0, natK_eq]
    simp only [sliceSV, show natV s.length (some v) = asNat v from rfl]
    cases asNat v with
    | none => rfl
    | some m =>
      show (natVK 0 lo fun l => ifR (Nat.ble l m) (ifR (Nat.ble m (lenR s)) (k (.str (takeR (Nat.sub m l) (dropR l s)))) false) false) = _
      rw [natVK_eq]
      cases natV 0 lo with
      | none => rfl
      | some l =>
        show ifR (Nat.ble l m) (ifR (Nat.ble m (lenR s)) _ false) false = optK (bif Nat.ble l m && Nat.ble m s.length then _ else none) k
        rw [optK_if, lenR_eq, dropR_eq, takeR_eq]
        cases Nat.ble l m with
        | false => rfl
        | true =>
          cases Nat.ble m s.length with
          | false => rfl
          | true =>
            show k _ = k _
            rw [List.drop_take]
            rfl
def fillR (ps : List (Nat × Nat × AV)) : List AV → Option (List AV) :=
  @List.rec (Nat × Nat × AV) (fun _ => List AV → Option (List AV)) (fun cells => some cells)
    (fun p _ ih cells => ifR (Nat.beq (lenR (cellsR p.2.2)) p.2.1) (ifR (Nat.ble (Nat.add p.1 p.2.1) (lenR cells)) (ifR (allLeafR (cellsR p.2.2)) (ih (overR (cellsR p.2.2) p.1 cells)) none) none) none) ps
theorem fillR_eq : ∀ (ps : List (Nat × Nat × AV)) (cells : List AV), fillR ps cells = fillV cells ps
  | [], cells => rfl
  | (off, n, v) :: ps, cells => by
    show ifR (Nat.beq (lenR (cellsR v)) n) (ifR (Nat.ble (off + n) (lenR cells)) (ifR (allLeafR (cellsR v)) (fillR ps (overR (cellsR v) off cells)) none) none) none = _
    simp only [ifR_eq, cellsR_eq, lenR_eq, allLeafR_eq, fillV, fillR_eq ps]
    cases h1 : Nat.beq v.cells.length n with
    | false => rfl
    | true =>
      cases h2 : Nat.ble (off + n) cells.length with
      | false => rfl
      | true =>
        rw [overR_eq off cells (by have := nble_true.1 h2; omega)]
        rfl
def buildK (z : List AV) (ps : List (Nat × Nat × AV)) (k : AV → Bool) : Bool := @Option.rec (List AV) (fun _ => Bool) false (fun l => k (.agg l)) (fillR ps z)
theorem buildK_eq (z : List AV) (ps : List (Nat × Nat × AV)) (k : AV → Bool) : buildK z ps k = optK (buildV z ps) k := by
  unfold buildK buildV
  rw [fillR_eq]
  cases fillV z ps <;> rfl

def srcS (es : List (List AV)) (s len : Nat) (k : List (List AV) → Bool) : Bool :=
  ifR (Nat.beq (lenR (takeR len (dropR s es))) len) (k (takeR len (dropR s es))) false
def srcW (es : List (List AV)) (s len : Nat) (k : List (List AV) → Bool) : Bool :=
  ifR (Nat.beq s 0) (ifR (Nat.beq (lenR es) len) (k es) (srcS es s len k)) (srcS es s len k)
def srcK (h : AHeap) (sz : Nat) (x : AV) (k : List (List AV) → Bool) : Bool :=
  match x with
  | .slc id g s len _ _ => ifR (Nat.beq len 0) (k []) (rowK h id fun r => ifR (Nat.ble r.m g) (ifR (Nat.beq r.sz sz) (srcW r.es s len k) false) false)
  | x => optK (source h sz x) k
theorem srcW_eq (es : List (List AV)) (s len : Nat) (k : List (List AV) → Bool) : srcW es s len k = optK (bif Nat.beq ((es.drop s).take len).length len then some ((es.drop s).take len) else none) k := by
  have e1 : srcS es s len k = optK (bif Nat.beq ((es.drop s).take len).length len then some ((es.drop s).take len) else none) k := by
    unfold srcS
    rw [takeR_eq, dropR_eq, lenR_eq, optK_if]
    rfl
  unfold srcW
  rw [e1, ifR_eq, ifR_eq, lenR_eq]
  cases h1 : Nat.beq s 0 with
  | false => rfl
  | true =>
    cases h2 : Nat.beq es.length len with
    | false => rfl
    | true =>
      have h1 := nbeq_true.1 h1
      have h2 := nbeq_true.1 h2
      subst h1
      rw [List.drop_zero, List.take_of_length_le (by omega), nbeq_true.2 h2]
      rfl
theorem srcK_eq (h : AHeap) (sz : Nat) (x : AV) (k : List (List AV) → Bool) : srcK h sz x k = optK (source h sz x) k := by
  cases x <;> try rfl
  rename_i id g s len c ex
  show ifR (Nat.beq len 0) (k []) (rowK h id _) = _
  rw [ifR_eq, rowK_eq]
  simp only [source]
  cases Nat.beq len 0 with
  | true => rfl
  | false =>
    simp only [cond_false]
    cases h.row id with
    | none => rfl
    | some r =>
      show ifR (Nat.ble r.m g) (ifR (Nat.beq r.sz sz) (srcW r.es s len k) false) false = optK (bif Nat.ble r.m g && Nat.beq r.sz sz then _ else none) k
      rw [optK_if, srcW_eq]
      cases Nat.ble r.m g with
      | false => rfl
      | true => cases Nat.beq r.sz sz <;> rfl
def capK (len m bytes : Nat) (r : Bool) : Bool := ifR (Nat.ble (Nat.mul (Nat.add len m) bytes) most) (ifR (Nat.ble (Nat.add len m) most) r false) false
def appW (h : AHeap) (sz bytes id g st len cap : Nat) (ex : Bool) (new : List (List AV)) (m : Nat) (r : Row) (k : Kont) : Bool :=
  capK len m bytes (ifR (Nat.beq r.sz sz)
    (ifR (Nat.ble (Nat.add len m) cap)
      (ifR r.rw (ifR (Nat.beq g r.g) (k (.slc id g st (Nat.add len m) cap ex) { sz := h.sz, t := h.t.set id (.row { es := lay r.es (Nat.add st len) new, sz := r.sz, g := r.g, m := r.g, rw := r.rw, ty := r.ty }) }) false) false)
      (ifR ex (ifR (Nat.ble r.m g) (srcW r.es st len fun old => k (.slc h.sz 0 0 (Nat.add len m) (Nat.add len m) false) (newRow h (appR old new) sz)) false)
        (ifR r.rw (ifR (Nat.beq g r.g) (ifR (Nat.beq st 0)
          (ifR (Nat.beq len (lenR r.es)) (k (.slc id (Nat.succ r.g) 0 (Nat.add len m) (Nat.add len m) false) { sz := h.sz, t := h.t.set id (.row { es := appR r.es new, sz := r.sz, g := Nat.succ r.g, m := r.m, rw := r.rw, ty := tyJoin r.ty none }) })
            (k (.slc id (Nat.succ r.g) 0 (Nat.add len m) (Nat.add len m) false) { sz := h.sz, t := h.t.set id (.row { es := appR (takeR len r.es) new, sz := r.sz, g := Nat.succ r.g, m := Nat.succ r.g, rw := r.rw, ty := tyJoin r.ty none }) })) false) false) false))) false)
def appK (h : AHeap) (sz bytes : Nat) (s x : AV) (k : Kont) : Bool :=
  srcK h sz x fun new => match s with
    | .slc id g st len cap ex => (match new with
      | [] => optPK (appendNew h sz bytes s new) k
      | _ => rowK h id fun r => appW h sz bytes id g st len cap ex new (lenR new) r k)
    | s => optPK (appendNew h sz bytes s new) k
theorem optPK_if (c : Bool) (o : Option (AV × AHeap)) (k : Kont) : optPK (bif c then o else none) k = ifR c (optPK o k) false := by cases c <;> rfl
theorem appK_eq (h : AHeap) (sz bytes : Nat) (s x : AV) (k : Kont) (hs : Nat.beq sz 0 = false) : appK h sz bytes s x k = optPK (appendA h sz bytes s x) k := by
  unfold appK appendA
  rw [hs, cond_false, srcK_eq]
  cases source h sz x with
  | none => rfl
  | some new =>
    show _ = optPK (appendNew h sz bytes s new) k
    cases s <;> try rfl
    rename_i id g st len cap ex
    cases new with
    | nil => rfl
    | cons y l =>
      show rowK h id _ = _
      rw [rowK_eq]
      simp only [appendNew]
      cases h.row id with
      | none => rfl
      | some r =>
        show appW h sz bytes id g st len cap ex (y :: l) (lenR (y :: l)) r k = _
        unfold appW capK
        rw [lenR_eq]
        generalize (y :: l).length = m
        show ifR (Nat.ble ((len + m) * bytes) most) (ifR (Nat.ble (len + m) most) (ifR (Nat.beq r.sz sz) _ false) false) false = _
        rw [optPK_if]
        cases Nat.ble ((len + m) * bytes) most with
        | false => rfl
        | true =>
        cases Nat.ble (len + m) most with
        | false => rfl
        | true =>
        cases Nat.beq r.sz sz with
        | false => rfl
        | true =>
        show ifR (Nat.ble (len + m) cap) _ _ = optPK (bif Nat.ble (len + m) cap then _ else _) k
        cases Nat.ble (len + m) cap with
        | true =>
          show ifR r.rw (ifR (Nat.beq g r.g) _ false) false = optPK (bif r.rw && Nat.beq g r.g then _ else none) k
          rw [optPK_if]
          cases hrw : r.rw with
          | false => rfl
          | true =>
            cases Nat.beq g r.g with
            | false => rfl
            | true =>
              show k _ _ = k _ _
              simp only [AHeap.put, hrw]
              rfl
        | false =>
        cases ex with
        | true =>
          show ifR (Nat.ble r.m g) (srcW r.es st len _) false = optPK (bif Nat.ble r.m g then _ else none) k
          rw [optPK_if, srcW_eq]
          cases Nat.ble r.m g with
          | false => rfl
          | true =>
            show optK (bif Nat.beq ((r.es.drop st).take len).length len then _ else none) _ = optPK (bif Nat.beq ((r.es.drop st).take len).length len then _ else none) k
            rw [optK_if, optPK_if]
            cases Nat.beq ((r.es.drop st).take len).length len with
            | false => rfl
            | true =>
              show k _ (newRow h (appR _ (y :: l)) sz) = k _ _
              rw [appR_eq]
              rfl
        | false =>
          show ifR r.rw (ifR (Nat.beq g r.g) (ifR (Nat.beq st 0) _ false) false) false = optPK (bif r.rw && Nat.beq g r.g && Nat.beq st 0 then _ else none) k
          rw [optPK_if]
          cases hrw : r.rw with
          | false => rfl
          | true =>
          cases Nat.beq g r.g with
          | false => rfl
          | true =>
          cases Nat.beq st 0 with
          | false => rfl
          | true =>
            show ifR (Nat.beq len (lenR r.es)) _ _ = optPK (bif Nat.beq len r.es.length then _ else _) k
            rw [lenR_eq, appR_eq, appR_eq, takeR_eq]
            cases Nat.beq len r.es.length with
            | true =>
              show k _ _ = k _ _
              simp only [AHeap.put, hrw]
              rfl
            | false =>
              show k _ _ = k _ _
              simp only [AHeap.put, hrw]
              rfl

def allocV (h : AHeap) (z : List AV) : Option (AV × AHeap) := allocA h z

def allotV (h : AHeap) (t : Nat) (z : List AV) : Option (AV × AHeap) := bif Nat.blt 0 z.length && allLeaf z then some (.ptr h.sz 0 0 0, newRow h [z] z.length (some t)) else none

/-- Bytes appended. -/
def appbA (h : AHeap) (e : Nat) (s x : AV) : Option (AV × AHeap) := appendA h 1 1 s x (some e)

def mmV (mx : Bool) : List AV → Option AV
  | v :: l => mmA mx v l
  | [] => none

def mkmapV (h : AHeap) : Option (AV × AHeap) := some (.map h.sz, h.push (.map [] 0))

/-! ### Temporaries -/
abbrev LEnv := List (Nat × AV)

def LEnv.get : LEnv → Nat → Option AV
  | [], _ => none
  | (k, v) :: l, n => bif Nat.beq n k then some v else LEnv.get l n

def Has (ρ : Regs) (l : LEnv) : Prop := ∀ k v, l.get k = some v → ρ.get k = some v

theorem Has.nil {ρ : Regs} : Has ρ [] := fun _ _ h => by cases h
theorem Has.set {ρ : Regs} {l : LEnv} (H : Has ρ l) (d : Nat) (v : AV) : Has (ρ.set d v) ((d, v) :: l) := by
  intro k u h
  rw [PT.get_set]
  simp only [LEnv.get] at h
  cases hb : Nat.beq k d with
  | true =>
    rw [hb, cond_true] at h
    rw [if_pos (Nat.eq_of_beq_eq_true hb)]
    exact h
  | false =>
    rw [hb, cond_false] at h
    rw [if_neg (nbeq_false.1 hb)]
    exact H k u h

def keepL : List Nat → LEnv → Option LEnv
  | [], _ => some []
  | k :: ks, l => match l.get k with
    | some v => match keepL ks l with
      | some m => some ((k, v) :: m)
      | none => none
    | none => none

def mkR : LEnv → Regs
  | [] => .lf
  | (k, v) :: l => (mkR l).set k v

theorem Has.mk : ∀ {l : LEnv}, Has (mkR l) l
  | [] => Has.nil
  | (k, v) :: l => (Has.mk (l := l)).set k v

theorem keepL_get : ∀ {ks : List Nat} {l m : LEnv}, keepL ks l = some m → ∀ k v, m.get k = some v → l.get k = some v
  | [], l, m, h, k, v, e => by simp only [keepL] at h; cases h; cases e
  | k :: ks, l, m, h, j, v, e => by
    simp only [keepL] at h
    split at h
    · rename_i u hu
      split at h
      · rename_i m' hm
        cases h
        simp only [LEnv.get] at e
        cases hb : Nat.beq j k with
        | true => rw [hb, cond_true] at e; cases e; rw [Nat.eq_of_beq_eq_true hb]; exact hu
        | false => rw [hb, cond_false] at e; exact keepL_get hm j v e
      · cases h
    · cases h

theorem Has.keep {ρ : Regs} {l m : LEnv} (H : Has ρ l) (ks : List Nat) (h : keepL ks l = some m) : Has ρ m := fun k v e => H k v (keepL_get h k v e)

theorem keepR_eq {ρ : Regs} : ∀ {ks : List Nat} {l m : LEnv}, Has ρ l → keepL ks l = some m → keepR ks ρ = mkR m
  | [], l, m, H, h => by simp only [keepL] at h; cases h; rfl
  | k :: ks, l, m, H, h => by
    simp only [keepL] at h
    split at h
    · rename_i u hu
      split at h
      · rename_i m' hm
        cases h
        simp only [keepR, H k u hu, mkR, keepR_eq H hm]
      · cases h
    · cases h

def evL (l : LEnv) : Opd → Option AV
  | .t r => l.get r
  | .c v => some v

def evsL (l : LEnv) : List Opd → Option (List AV)
  | [] => some []
  | x :: xs => match evL l x with
    | some v => match evsL l xs with
      | some vs => some (v :: vs)
      | none => none
    | none => none

def evoL (l : LEnv) : Option Opd → Option (Option AV)
  | none => some none
  | some x => match evL l x with
    | some v => some (some v)
    | none => none

def partsL (l : LEnv) : List (Nat × Nat × Opd) → Option (List (Nat × Nat × AV))
  | [] => some []
  | (a, b, x) :: xs => match evL l x with
    | some v => match partsL l xs with
      | some vs => some ((a, b, v) :: vs)
      | none => none
    | none => none

def slotsL (l : LEnv) : List (Nat × Opd) → Option (List (Nat × AV))
  | [] => some []
  | (a, x) :: xs => match evL l x with
    | some v => match slotsL l xs with
      | some vs => some ((a, v) :: vs)
      | none => none
    | none => none

theorem ev_has {ρ : Regs} {l : LEnv} (H : Has ρ l) {x : Opd} {v : AV} (h : evL l x = some v) : ev ρ x = some v := by
  cases x with
  | t r => exact H r v h
  | c u => exact h

theorem evs_has {ρ : Regs} {l : LEnv} (H : Has ρ l) : ∀ {xs : List Opd} {vs : List AV}, evsL l xs = some vs → evs ρ xs = some vs
  | [], vs, h => by simpa [evsL, evs] using h
  | x :: xs, vs, h => by
    simp only [evsL] at h
    split at h
    · rename_i v hv
      split at h
      · rename_i vs' hvs
        cases h
        simp only [evs, ev_has H hv, evs_has H hvs]
      · cases h
    · cases h

theorem evNat_has {ρ : Regs} {l : LEnv} (H : Has ρ l) {d : Nat} {x : Option Opd} {o : Option AV} (h : evoL l x = some o) : evNat ρ d x = natV d o ∧ x.isSome = o.isSome ∧ x.isNone = o.isNone ∧ (x = none ↔ o = none) := by
  cases x with
  | none => simp only [evoL] at h; cases h; exact ⟨rfl, rfl, rfl, by simp⟩
  | some x =>
    simp only [evoL] at h
    split at h
    · rename_i v hv
      cases h
      exact ⟨by simp only [evNat, ev_has H hv, natV], rfl, rfl, by simp⟩
    · cases h

theorem fill_has {ρ : Regs} {l : LEnv} (H : Has ρ l) : ∀ {ps : List (Nat × Nat × Opd)} {vs : List (Nat × Nat × AV)} {cells : List AV}, partsL l ps = some vs → fillA ρ cells ps = fillV cells vs
  | [], vs, cells, h => by simp only [partsL] at h; cases h; rfl
  | (a, b, x) :: ps, vs, cells, h => by
    simp only [partsL] at h
    split at h
    · rename_i v hv
      split at h
      · rename_i vs' hvs
        cases h
        simp only [fillA, fillV, ev_has H hv]
        rw [fill_has H hvs]
      · cases h
    · cases h

theorem fillRow_has {ρ : Regs} {l : LEnv} (H : Has ρ l) {sz : Nat} : ∀ {ps : List (Nat × Opd)} {vs : List (Nat × AV)} {es : List (List AV)}, slotsL l ps = some vs → fillRow ρ sz es ps = fillRowV sz es vs
  | [], vs, es, h => by simp only [slotsL] at h; cases h; rfl
  | (a, x) :: ps, vs, es, h => by
    simp only [slotsL] at h
    split at h
    · rename_i v hv
      split at h
      · rename_i vs' hvs
        cases h
        simp only [fillRow, fillRowV, ev_has H hv]
        rw [fillRow_has H hvs]
      · cases h
    · cases h

def l1 (l : LEnv) (x : Opd) (f : AV → Option AV) : Option (Option AV) :=
  match evL l x with
  | some v => some (f v)
  | none => none

def l2 (l : LEnv) (x y : Opd) (f : AV → AV → Option AV) : Option (Option AV) :=
  match evL l x with
  | some v => match evL l y with
    | some w => some (f v w)
    | none => none
  | none => none

/-- Operations that leave memory as it is: what they say. -/
def pureL (l : LEnv) (h : AHeap) (op : AOp) : Option (Option AV) :=
  match op with
  | .mv x => match evL l x with
    | some v => some (some v)
    | none => none
  | .pick c a b => match evL l c, evL l a, evL l b with
    | some c, some a, some b => some (pickV c a b)
    | _, _, _ => none
  | .build z ps => match partsL l ps with
    | some vs => some (buildV z vs)
    | none => none
  | .load ag n a => l1 l a (loadA h ag n)
  | .nilck x => l1 l x nilckA
  | .bin op x y => l2 l x y (binA op)
  | .eq neg k x y => l2 l x y (eqV h neg k)
  | .not x => l1 l x notA
  | .neg x => l1 l x negA
  | .conv k x => l1 l x (convA k)
  | .b2s x => l1 l x (b2sA h)
  | .cvs x => l1 l x cvsA
  | .mkfn f a b => match evsL l a with
    | some a => match evsL l b with
      | some b => some (some (.fn (.func f) a b))
      | none => none
    | none => none
  | .sl sz x lo hi mx => match evL l x, evoL l lo, evoL l hi, evoL l mx with
    | some v, some lo, some hi, some mx => some (sliceV h sz v lo hi mx)
    | _, _, _, _ => none
  | .sls x lo hi => match evL l x, evoL l lo, evoL l hi with
    | some v, some lo, some hi => some (sliceSV v lo hi)
    | _, _, _ => none
  | .fadr off x => l1 l x (fadrA off)
  | .fld ag off n x => l1 l x (fldA ag off n)
  | .iadr sz x i => l2 l x i (iadrA h sz)
  | .iadra len esz x i => l2 l x i (iadraA len esz)
  | .idxs x i => l2 l x i idxsA
  | .idxa ag len esz x i => l2 l x i (idxaA ag len esz)
  | .look kk ok z m k => l2 l m k (lookA h kk ok z)
  | .ext x i => l1 l x (extA i)
  | .len k x => l1 l x (lenA h k)
  | .cap x => l1 l x capA
  | .mm mx xs => match evsL l xs with
    | some vs => some (mmV mx vs)
    | none => none
  | .ent x => l1 l x (entA h)
  | .uto x => l1 l x (utoA h)
  | .ufr t n us x => l1 l x (ufrA h t n us)
  | .sdat x => l1 l x sdatA
  | .mkif t x => l1 l x (mkifA t)
  | .tas t ok z x => l1 l x (tasA t ok z)
  | _ => none

def heapL (l : LEnv) (h : AHeap) (op : AOp) : Option (Option (AV × AHeap)) :=
  match op with
  | .alloc z => some (allocV h z)
  | .box ty n x => match evL l x with
    | some v => some (boxA h ty n v)
    | none => none
  | .bslice n sz z ps => match slotsL l ps with
    | some vs => some (bsliceV h n sz z vs)
    | none => none
  | .store n a v => match evL l a, evL l v with
    | some a, some v => some (unit (storeA h n a v))
    | _, _ => none
  | .mkmap => some (mkmapV h)
  | .mksl sz bytes z a c => match evL l a, evL l c with
    | some a, some c => some (mkslA h sz bytes z a c)
    | _, _ => none
  | .mupd kk m k v => match evL l m, evL l k, evL l v with
    | some m, some k, some v => some (unit (mupdA h kk m k v))
    | _, _, _ => none
  | .app sz bytes s x => match evL l s, evL l x with
    | some s, some x => some (appendA h sz bytes s x)
    | _, _ => none
  | .appz sz bytes z s x => match evL l s, evL l x with
    | some s, some x => some (appzA h sz bytes z s x)
    | _, _ => none
  | .copy sz d s => match evL l d, evL l s with
    | some d, some s => some (copyA h sz d s)
    | _, _ => none
  | .del kk m k => match evL l m, evL l k with
    | some m, some k => some (unit (delA h kk m k))
    | _, _ => none
  | .clr sz z x => match evL l x with
    | some v => some (unit (clrA h sz z v))
    | none => none
  | .rng x => match evL l x with
    | some v => some (rngA h v)
    | none => none
  | .allot t z => some (allotV h t z)
  | .appb e s x => match evL l s, evL l x with
    | some s, some x => some (appbA h e s x)
    | _, _ => none
  | .ustr e p n => match evL l p, evL l n with
    | some p, some n => some (ustrA h e p n)
    | _, _ => none
  | .stw n a v b => match evL l a, evL l v, evL l b with
    | some a, some v, some b => some (bif apartP a b then unit (storeA h n a v) else none)
    | _, _, _ => none
  | _ => none

section
variable {ρ : Regs} {l : LEnv} {h : AHeap} {op : AOp}

theorem l1_has (H : Has ρ l) {x : Opd} {f : AV → Option AV} {o : Option AV} (e : l1 l x f = some o) : ev1 ρ x f = o := by
  unfold l1 at e
  split at e
  · rename_i v hv; cases e; simp only [ev1, ev_has H hv]
  · cases e

theorem l2_has (H : Has ρ l) {x y : Opd} {f : AV → AV → Option AV} {o : Option AV} (e : l2 l x y f = some o) : ev2 ρ x y f = o := by
  unfold l2 at e
  split at e
  · rename_i v hv
    split at e
    · rename_i w hw; cases e; simp only [ev2, ev_has H hv, ev_has H hw]
    · cases e
  · cases e

theorem slice_has (H : Has ρ l) {sz : Nat} {v : AV} {lo hi mx : Option Opd} {a b c : Option AV} (h1 : evoL l lo = some a) (h2 : evoL l hi = some b) (h3 : evoL l mx = some c) : sliceA ρ h sz v lo hi mx = sliceV h sz v a b c := by
  have e1 := fun d => evNat_has H (d := d) h1
  have e2 := fun d => evNat_has H (d := d) h2
  have e3 := fun d => evNat_has H (d := d) h3
  unfold sliceA sliceV
  cases v <;> simp only [(e1 0).1, (e2 _).1, (e3 0).1, (e2 0).2.1, (e3 0).2.2.1]
  · cases mx with
    | none =>
      have : c = none := (e3 0).2.2.2.1 rfl
      subst this; rfl
    | some m =>
      cases c with
      | none => have := (e3 0).2.2.2.2 rfl; cases this
      | some c =>
        have := (e3 0).1
        simp only [this]
        rfl
  · rfl
  · rfl

theorem pureL_has (H : Has ρ l) {o : Option AV} (e : pureL l h op = some o) : evalA ρ h op = pureV o h ∧ isCall op = false := by
  unfold pureL at e
  split at e
  case h_1 x =>
    split at e
    · rename_i v hv; cases e; simp only [evalA, ev_has H hv, isCall, and_self]
    · cases e
  case h_2 c a b =>
    split at e
    · rename_i c' a' b' h1 h2 h3
      cases e
      refine ⟨?_, rfl⟩
      simp only [evalA, ev_has H h1, ev_has H h2, ev_has H h3]
      cases c' <;> try rfl
      rename_i x; cases x <;> rfl
    · cases e
  case h_3 z ps =>
    split at e
    · rename_i vs hvs
      cases e
      refine ⟨?_, rfl⟩
      simp only [evalA, fill_has H hvs, buildV]
      cases fillV z vs <;> rfl
    · cases e
  case h_7 neg k x y =>
    unfold l2 at e
    split at e
    · rename_i v hv
      split at e
      · rename_i w hw
        cases e
        refine ⟨?_, rfl⟩
        simp only [evalA, ev_has H hv, ev_has H hw, eqV]
        cases eqA h k v w <;> rfl
      · cases e
    · cases e
  case h_13 f a b =>
    split at e
    · rename_i a' ha
      split at e
      · rename_i b' hb
        cases e
        exact ⟨by simp only [evalA, evs_has H ha, evs_has H hb, pureV], rfl⟩
      · cases e
    · cases e
  case h_14 sz x lo hi mx =>
    split at e
    · rename_i v a b c h0 h1 h2 h3
      cases e
      exact ⟨by simp only [evalA, ev1, ev_has H h0, slice_has H h1 h2 h3], rfl⟩
    · cases e
  case h_15 x lo hi =>
    split at e
    · rename_i v a b h0 h1 h2
      cases e
      refine ⟨?_, rfl⟩
      simp only [evalA, ev1, ev_has H h0]
      congr 1
      unfold sliceS sliceSV
      cases v <;> simp only [(evNat_has H h1).1, (evNat_has H h2).1]
      rfl
    · cases e
  case h_26 mx xs =>
    split at e
    · rename_i vs hvs
      cases e
      refine ⟨?_, rfl⟩
      simp only [evalA, evs_has H hvs]
      cases vs <;> rfl
    · cases e
  all_goals first
    | exact ⟨by simp only [evalA]; rw [l1_has H e], rfl⟩
    | exact ⟨by simp only [evalA]; rw [l2_has H e], rfl⟩
    | cases e

theorem heapL_has (H : Has ρ l) {o : Option (AV × AHeap)} (e : heapL l h op = some o) : evalA ρ h op = o ∧ isCall op = false := by
  unfold heapL at e
  split at e
  case h_1 z => cases e; exact ⟨rfl, rfl⟩
  case h_3 n sz z ps =>
    split at e
    · rename_i vs hvs
      cases e
      refine ⟨?_, rfl⟩
      simp only [evalA, bsliceV, fillRow_has H hvs]
      rfl
    · cases e
  case h_5 => cases e; exact ⟨rfl, rfl⟩
  case h_14 => cases e; exact ⟨rfl, rfl⟩
  case h_15 =>
    split at e
    · rename_i h1 h2
      cases e
      refine ⟨?_, rfl⟩
      simp only [evalA, ev_has H h1, ev_has H h2]
      rfl
    · cases e
  all_goals first
    | cases e; done
    | (split at e
       · cases e
         refine ⟨?_, rfl⟩
         rename_i h1
         simp only [evalA, ev_has H h1]
       · cases e)
    | (split at e
       · cases e
         refine ⟨?_, rfl⟩
         rename_i h1 h2
         simp only [evalA, ev_has H h1, ev_has H h2]
       · cases e)
    | (split at e
       · cases e
         refine ⟨?_, rfl⟩
         rename_i h1 h2 h3
         simp only [evalA, ev_has H h1, ev_has H h2, ev_has H h3]
       · cases e)

/-! ### Calls -/
def Le (c c' : CallFn) : Prop := ∀ t a h (K K' : Kont), c t a h K = true → (∀ v h', K v h' = true → K' v h' = true) → c' t a h K' = true
abbrev KLe (K K' : Kont) : Prop := ∀ v h', K v h' = true → K' v h' = true

variable {call call' : CallFn}

theorem callV_le (hc : Le call call') {f : AV} {vs : List AV} {k k' : Kont} (s : callV call f vs h k = true) (hk : KLe k k') : callV call' f vs h k' = true := by
  unfold callV at s ⊢
  cases f <;> first | (cases s; done) | exact hc _ _ _ _ _ s hk

theorem nextA_tup {v : AV} {k k' : Kont} (s : nextA h v k = true) (hk : ∀ l h', k (.tup l) h' = true → k' (.tup l) h' = true) : nextA h v k' = true := by
  unfold nextA at s ⊢
  split at s <;> first | (cases s; done) | skip
  split at s <;> first | (cases s; done) | exact hk _ _ s | skip
  split at s <;> first | (cases s; done) | skip
  rename_i es clock hes
  cases hb : (!List.isEmpty _ && !List.isEmpty es && es.all _) with
  | true => rw [hb, cond_true] at s; cases s
  | false =>
    rw [hb, cond_false] at s
    simp only [cond_false]
    rw [List.all_eq_true] at s ⊢
    intro x hx
    have := s x hx
    cases x with
    | none => exact hk _ _ this
    | some e => exact hk _ _ this

theorem evalK_le (hc : Le call call') {K K' : Kont} (s : evalK call ρ h op K = true) (hk : KLe K K') : evalK call' ρ h op K' = true := by
  cases hn : isCall op with
  | false =>
    rw [evalK_plain hn] at s ⊢
    split at s
    · exact hk _ _ s
    · cases s
  | true =>
    cases op <;> first | (cases hn; done) | skip
    case call f xs =>
      simp only [evalK] at s ⊢
      split at s
      · exact hc _ _ _ _ _ s hk
      · cases s
    case nxt x =>
      simp only [evalK] at s ⊢
      split at s
      · exact nextA_tup s fun l h' => hk _ _
      · cases s
    case pnc x =>
      simp only [evalK] at s ⊢
      split at s
      · exact hk _ _ s
      · cases s
    case dfr f xs => cases s
    case rcv => cases s

theorem stepA_le (hc : Le call call') {o : AOper} {σ : St} {k k' : KSt} (s : stepA call o σ k = true) (hk : ∀ v σ', k v σ' = true → k' v σ' = true) : stepA call' o σ k' = true := by
  unfold stepA at s ⊢
  split at s
  · exact evalK_le hc s fun v h' hv => hk _ _ hv
  · exact hk _ _ s
  · cases s

abbrev KELe (K K' : KEx) : Prop := ∀ x σ, K x σ = true → K' x σ = true

theorem runR_le (hc : Le call call') : ∀ {ops : List AOper} {σ : St} {k k' : KEx}, runR call ops σ k = true → KELe k k' → runR call' ops σ k' = true
  | [], σ, k, k', s, hk => hk _ _ s
  | o :: ops, σ, k, k', s, hk => by
    simp only [runR] at s ⊢
    refine stepA_le hc s fun v σ' hv => ?_
    cases hp : panO (isCall o.op) v with
    | none => rw [hp] at hv; exact runR_le hc hv hk
    | some x => rw [hp] at hv; exact hk _ _ hv

theorem runD_le (hc : Le call call') {ρ0 : Regs} : ∀ {ops : List (AOper × List AOper × List AOper)} {es : List Nat} {σ : St} {k k' : KEx}, runD call ρ0 es ops σ k = true → KELe k k' → runD call' ρ0 es ops σ k' = true
  | [], es, σ, k, k', s, hk => hk _ _ s
  | (act, chk, ns) :: ops, es, σ, k, k', s, hk => by
    simp only [runD] at s ⊢
    refine stepA_le hc s fun v σ' hv => ?_
    cases hp : panO (isCall act.op) v with
    | some x =>
      rw [hp] at hv
      simp only at hv ⊢
      split at hv
      · exact hk _ _ hv
      · cases hv
    | none =>
      rw [hp] at hv
      simp only at hv ⊢
      cases ha : again σ'.regs σ'.h chk with
      | false => rw [ha] at hv; cases hv
      | true =>
        rw [ha] at hv
        simp only [cond_true] at hv ⊢
        split at hv
        · exact runD_le hc hv hk
        · cases hv

theorem iter_le {f f' : St → KEx → Bool} {K K' : KEx} (hf : ∀ σ (k k' : KEx), f σ k = true → KELe k k' → f' σ k' = true) (hK : KELe K K') : ∀ (n : Nat) (σ : St), iter f K n σ = true → iter f' K' n σ = true
  | 0, σ, s => by cases s
  | n + 1, σ, s => by
    simp only [iter] at s ⊢
    refine hf _ _ _ s fun x σ' hx => ?_
    cases x with
    | normal => exact iter_le hf hK n σ' hx
    | _ => exact hK _ _ hx

theorem iterG_le {l : Nat} {f f' : St → KEx → Bool} {K K' : KEx} (hf : ∀ σ (k k' : KEx), f σ k = true → KELe k k' → f' σ k' = true) (hK : KELe K K') : ∀ (n : Nat) (σ : St), iterG l f K n σ = true → iterG l f' K' n σ = true
  | 0, σ, s => by cases s
  | n + 1, σ, s => by
    simp only [iterG] at s ⊢
    refine hf _ _ _ s fun x σ' hx => ?_
    cases x with
    | goto l' =>
      simp only at hx ⊢
      cases hb : Nat.beq l' l with
      | false => rw [hb] at hx; cases hx
      | true => rw [hb] at hx; exact iterG_le hf hK n σ' hx
    | _ => exact hK _ _ hx

theorem runC_le (hc : Le call call') {n : Nat} : ∀ {c : ACode} {σ : St} {K K' : KEx}, runC call n c σ K = true → KELe K K' → runC call' n c σ K' = true := by
  intro c
  induction c with
  | skip => intro σ K K' s hk; exact hk _ _ s
  | reg ops => intro σ K K' s hk; exact runR_le hc s hk
  | dreg n0 rest =>
    intro σ K K' s hk
    simp only [runC] at s ⊢
    split at s
    · exact runD_le hc s hk
    · cases s
  | seq a b iha ihb =>
    intro σ K K' s hk
    simp only [runC] at s ⊢
    refine iha s fun x σ' hx => ?_
    cases x with
    | normal => exact ihb hx hk
    | _ => exact hk _ _ hx
  | cond o a b iha ihb =>
    intro σ K K' s hk
    simp only [runC] at s ⊢
    split at s
    · exact iha s hk
    · exact ihb s hk
    · cases s
  | block id a ih =>
    intro σ K K' s hk
    simp only [runC] at s ⊢
    refine ih s fun x σ' hx => ?_
    cases x with
    | exit i =>
      simp only at hx ⊢
      cases hb : Nat.beq i id with
      | true => rw [hb] at hx; exact hk _ _ hx
      | false => rw [hb] at hx; exact hk _ _ hx
    | _ => exact hk _ _ hx
  | loop a ih =>
    intro σ K K' s hk
    exact iter_le (f := runC call n a) (f' := runC call' n a) (fun σ k k' s' hk' => ih s' hk') hk n σ s
  | rf f ps asg body iha ihb =>
    intro σ K K' s hk
    simp only [runC] at s ⊢
    split at s
    · refine hc _ _ _ _ _ s fun v h' hv => ?_
      cases hp : isPan v with
      | some x => rw [hp] at hv; cases hv
      | none =>
      rw [hp] at hv
      simp only at hv ⊢
      split at hv
      · rename_i lo hlo
        (try simp only [hlo])
        split at hv
        · rename_i hst; (try simp only [hst]); exact hk _ _ hv
        · rename_i x hst; (try simp only [hst]); exact hk _ _ hv
        · cases hv
      · cases hv
    · cases s
  | exit id => intro σ K K' s hk; exact hk _ _ s
  | scope a l r iha ihr =>
    intro σ K K' s hk
    simp only [runC] at s ⊢
    refine iha s fun x σ' hx => ?_
    cases x with
    | goto l' =>
      simp only at hx ⊢
      cases hb : Nat.beq l' l with
      | false => rw [hb] at hx; cases hx
      | true => rw [hb] at hx; exact iterG_le (f := runC call n r) (f' := runC call' n r) (fun σ k k' s' hk' => ihr s' hk') hk n σ' hx
    | _ => exact hk _ _ hx
  | label l => intro σ K K' s hk; exact hk _ _ s
  | goto l => intro σ K K' s hk; exact hk _ _ s
  | ret => intro σ K K' s hk; exact hk _ _ s
  | refuse => intro σ K K' s hk; cases s
  | keep ks a ih => intro σ K K' s hk; exact ih s hk
  | cut cs a ih =>
    intro σ K K' s hk
    simp only [runC] at s ⊢
    split at s
    · exact ih s hk
    · exact ih s hk

/-! ### Deferred calls -/
abbrev KMLe (K K' : KMo) : Prop := ∀ x d σ, K x d σ = true → K' x d σ = true
abbrev KNLe (K K' : KEnd) : Prop := ∀ μ h, K μ h = true → K' μ h = true
def DfLe (df df' : DefFn) : Prop := ∀ g as μ h (K K' : KEnd), df g as μ h K = true → KNLe K K' → df' g as μ h K' = true

theorem runRS_le {μ : Mode} : ∀ {ops : List AOper} {d : Bool} {σ : St} {K K' : KMo}, runRS μ ops d σ K = true → KMLe K K' → runRS μ ops d σ K' = true
  | [], d, σ, K, K', s, hk => hk _ _ _ s
  | o :: l, d, σ, K, K', s, hk => by
    unfold runRS at s ⊢
    split at s
    · split at s
      · exact runRS_le s hk
      · split at s
        · exact runRS_le s hk
        · cases s
    · exact runRS_le s hk
    · cases s

theorem runS_le (hc : Le call call') {n : Nat} {μ : Mode} : ∀ {c : ACode} {d : Bool} {σ : St} {K K' : KMo}, runS call n μ c d σ K = true → KMLe K K' → runS call' n μ c d σ K' = true := by
  intro c
  induction c with
  | seq a b iha ihb =>
    intro d σ K K' s hk
    simp only [runS] at s ⊢
    refine iha s fun x d' σ' hx => ?_
    cases x with
    | normal => exact ihb hx hk
    | _ => exact hk _ _ _ hx
  | cond o a b iha ihb =>
    intro d σ K K' s hk
    simp only [runS] at s ⊢
    split at s
    · exact iha s hk
    · exact ihb s hk
    · cases s
  | reg ops =>
    intro d σ K K' s hk
    simp only [runS] at s ⊢
    cases hb : hasRcv ops with
    | true => rw [hb] at s; exact runRS_le s hk
    | false => rw [hb] at s; exact runC_le hc s fun x σ' => hk _ _ _
  | _ => intro d σ K K' s hk; simp only [runS] at s ⊢; exact runC_le hc s fun x σ' => hk _ _ _

theorem ends_le {df df' : DefFn} (hd : DfLe df df') : ∀ {l : List (AV × List AV)} {μ : Mode} {h : AHeap} {K K' : KEnd}, ends df l μ h K = true → KNLe K K' → ends df' l μ h K' = true
  | [], μ, h, K, K', s, hk => hk _ _ s
  | (f, as) :: l, μ, h, K, K', s, hk => by
    unfold ends at s ⊢
    split at s
    · exact hd _ _ _ _ _ _ s fun μ' h' hx => ends_le hd hx hk
    · cases s

theorem atEnd_le {df df' : DefFn} (hd : DfLe df df') {pend : List (AV × List AV)} {x : AExit} {σ : St} {K K' : Mode → St → Bool} (s : atEnd df pend x σ K = true) (hk : ∀ μ σ, K μ σ = true → K' μ σ = true) : atEnd df' pend x σ K' = true := by
  cases x <;> first | (cases s; done) | exact ends_le hd s fun μ h => hk _ _

theorem runT_le (hc : Le call call') {df df' : DefFn} (hd : DfLe df df') {n : Nat} : ∀ {c : ACode} {pend : List (AV × List AV)} {σ : St} {K K' : Mode → St → Bool}, runT call df n c pend σ K = true → (∀ μ σ, K μ σ = true → K' μ σ = true) → runT call' df' n c pend σ K' = true := by
  intro c
  induction c with
  | seq a b iha ihb =>
    intro pend σ K K' s hk
    cases a with
    | reg ops =>
      unfold runT at s ⊢
      cases hs : splitDfr ops with
      | some p =>
        obtain ⟨pre, f, as⟩ := p
        rw [hs] at s
        simp only at s ⊢
        refine runR_le hc s fun x σ' hx => ?_
        cases x with
        | normal =>
          simp only at hx ⊢
          split at hx
          · exact ihb hx hk
          · cases hx
        | _ => exact atEnd_le hd hx hk
      | none =>
        rw [hs] at s
        simp only at s ⊢
        refine runC_le hc s fun x σ' hx => ?_
        cases x with
        | normal => exact ihb hx hk
        | _ => exact atEnd_le hd hx hk
    | _ =>
      simp only [runT] at s ⊢
      refine runC_le hc s fun x σ' hx => ?_
      cases x with
      | normal => exact ihb hx hk
      | _ => exact atEnd_le hd hx hk
  | _ => intro pend σ K K' s hk; simp only [runT] at s ⊢; exact runC_le hc s fun x σ' hx => atEnd_le hd hx hk

theorem fnEnd_le {res : List (Nat × Option (Bool × Nat))} {K K' : Kont} (hK : KLe K K') {μ : Mode} {σ : St} (s : fnEnd res K μ σ = true) : fnEnd res K' μ σ = true := by
  cases μ with
  | ret =>
    simp only [fnEnd] at s ⊢
    split at s
    · exact hK _ _ s
    · cases s
  | pan v => exact hK _ _ s

theorem defN_le {E : Env} (hc : Le call call') (n : Nat) : DfLe (defN E call n) (defN E call' n) := by
  intro g as μ h K K' s hk
  unfold defN at s ⊢
  split at s
  · cases s
  · rename_i hp
    (try simp only [hp])
    split at s
    · cases s
    · rename_i fn hf
      (try simp only [hf])
      cases hb : (Nat.beq as.length fn.np && fn.res.isEmpty && noRf fn.body) with
      | false => rw [hb] at s; cases s
      | true =>
        rw [hb] at s
        simp only [cond_true] at s ⊢
        refine runS_le hc s fun x d σ hx => ?_
        cases x <;> first | (cases hx; done) | exact hk _ _ hx

/-- A round of a loop over a function. -/
def yieldS (call : CallFn) (n id : Nat) (args : List AV) (h : AHeap) (K : Kont) : Bool :=
  match h.get id with
  | some (.loop l) => match l.st with
    | .ready => match setPs l.ps args l.regs with
      | some ρ => runC call n l.asg ⟨ρ, h⟩ fun x σ => match x with
        | .normal => (match σ.h.get id with
          | some (.loop l1) => match l1.st with
            | .ready => runC call n l.body ⟨σ.regs, σ.h.put id (.loop { l1 with st := .busy })⟩ fun x σ2 =>
              match σ2.h.get id with
              | some (.loop l2) => match x with
                | .normal => K (.bool true) (σ2.h.put id (.loop { l2 with st := .ready }))
                | .panic _ => false
                | x => K (.bool false) (σ2.h.put id (.loop { l2 with st := .done x }))
              | _ => false
            | _ => false
          | _ => false)
        | _ => false
      | none => false
    | _ => false
  | _ => false

theorem yieldS_le (hc : Le call call') {n id : Nat} {args : List AV} {h : AHeap} {K K' : Kont} (s : yieldS call n id args h K = true) (hK : KLe K K') : yieldS call' n id args h K' = true := by
  unfold yieldS at s ⊢
  split at s
  rotate_left
  · cases s
  rename_i l hl
  (try simp only [hl])
  split at s
  rotate_left
  · cases s
  rename_i hst
  (try simp only [hst])
  split at s
  rotate_left
  · cases s
  rename_i ρ hρ
  (try simp only [hρ])
  refine runC_le hc s fun x σ hx => ?_
  cases x <;> first | (cases hx; done) | skip
  simp only at hx ⊢
  split at hx
  rotate_left
  · cases hx
  rename_i l1 hl1
  (try simp only [hl1])
  split at hx
  rotate_left
  · cases hx
  rename_i hst1
  (try simp only [hst1])
  refine runC_le hc hx fun x σ2 hx2 => ?_
  split at hx2
  rotate_left
  · cases hx2
  rename_i l2 hl2
  (try simp only [hl2])
  cases x <;> first | (cases hx2; done) | exact hK _ _ hx2

/-! ### A table of functions of Lean beside the code -/
abbrev Sh := CallFn → Nat → List AV → AHeap → Kont → Bool
/-- Where a function is one of Lean, that; else what the environment says of it. -/
def stepE (E : Env) (call : CallFn) (n f : Nat) (a : List AV) (h : AHeap) (K : Kont) : Bool :=
  match E.prim f with
  | some p => p call n a h K
  | none => match E.code f with
    | none => false
    | some fn => bif Nat.beq a.length fn.np then runT call (defN E call n) n fn.body [] ⟨initR 0 a .lf, h⟩ (fnEnd fn.res K) else false
def stepT (E : Env) (tab : Nat → Option Sh) (call : CallFn) (n : Nat) : CallFn := fun t a h K =>
  @AFn.rec (fun _ => Bool) (fun f => @Option.rec Sh (fun _ => Bool) (stepE E call n f a h K) (fun s => s call n a h K) (tab f)) (fun id => yieldS call n id a h K) t
def callT (E : Env) (tab : Nat → Option Sh) (n : Nat) : CallFn := @Nat.rec (fun _ => CallFn) (fun _ _ _ _ => false) (fun n ih => stepT E tab ih n) n

/-- What is said of the functions that are not walked does not hang on more than on what their calls say. -/
def PrimLe (E : Env) : Prop := ∀ f p, E.prim f = some p → ∀ (call call' : CallFn) n args h (K K' : Kont), Le call call' → KLe K K' → p call n args h K = true → p call' n args h K' = true

def ShOK (E : Env) (k : Nat) (s : Sh) : Prop := ∀ (call call' : CallFn) n args h (K K' : Kont), Le call call' → Le call' call' → KLe K K' → s call n args h K = true →
  ∃ fn, E.code k = some fn ∧ E.prim k = none ∧ args.length = fn.np ∧ ∀ df, runT call' df n fn.body [] ⟨initR 0 args .lf, h⟩ (fnEnd fn.res K') = true

theorem callN_le {E : Env} (hp : PrimLe E) : ∀ n, Le (callN E n) (callN E n)
  | 0 => fun _ _ _ _ _ s _ => by cases s
  | n + 1 => by
    intro t a h K K' s hK
    have ih := callN_le hp n
    cases t with
    | yield id => exact yieldS_le ih s hK
    | func f =>
      simp only [callN] at s ⊢
      cases hpf : E.prim f with
      | some p =>
        rw [hpf] at s
        exact hp f p hpf _ _ n a h K K' ih hK s
      | none =>
        rw [hpf] at s
        simp only at s ⊢
        split at s
        · cases s
        · rename_i fn hf
          (try simp only [hf])
          cases hb : Nat.beq a.length fn.np with
          | false => rw [hb] at s; cases s
          | true =>
            rw [hb] at s
            simp only [cond_true] at s ⊢
            exact runT_le ih (defN_le ih n) s fun μ σ => fnEnd_le hK

theorem callT_le {E : Env} (hp : PrimLe E) {tab : Nat → Option Sh} (ht : ∀ k s, tab k = some s → ShOK E k s) : ∀ n, Le (callT E tab n) (callN E n)
  | 0 => fun _ _ _ _ _ s _ => by cases s
  | n + 1 => by
    intro t a h K K' s hK
    have ih := callT_le hp ht n
    cases t with
    | yield id => exact yieldS_le ih s hK
    | func f =>
      have s : (@Option.rec Sh (fun _ => Bool) (stepE E (callT E tab n) n f a h K) (fun s => s (callT E tab n) n a h K) (tab f)) = true := s
      simp only [callN]
      cases htab : tab f with
      | some sh =>
        rw [htab] at s
        obtain ⟨fn, h1, h2, h3, h4⟩ := ht f sh htab _ _ n a h K K' ih (callN_le hp n) hK s
        simp only [h1, h2, h3, Nat.beq_refl, cond_true]
        exact h4 _
      | none =>
        rw [htab] at s
        have s : stepE E (callT E tab n) n f a h K = true := s
        unfold stepE at s
        cases hpf : E.prim f with
        | some p =>
          rw [hpf] at s
          exact hp f p hpf _ _ n a h K K' ih hK s
        | none =>
          rw [hpf] at s
          simp only at s ⊢
          split at s
          · cases s
          · rename_i fn hf
            (try simp only [hf])
            cases hb : Nat.beq a.length fn.np with
            | false => rw [hb] at s; cases s
            | true =>
              rw [hb] at s
              simp only [cond_true] at s ⊢
              exact runT_le ih (defN_le ih n) s fun μ σ => fnEnd_le hK

end
end
end Go.Ab
