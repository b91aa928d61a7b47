/-
  The functions of a program as functions of Lean ('shallow'): the pieces that they are made of, and the laws by which each is shown to say no more than the abstract machine's code.
-/
import Derived.Test.YtbamgdknkhhikaaAbCode
namespace Go.Ab
set_option linter.unusedSimpArgs false
set_option linter.unusedVariables false

/-! ### The pieces -/
def optB (o : Option AV) (k : AV → Bool) : Bool :=
  match o with
  | some v => k v
  | none => false

def optP (o : Option (AV × AHeap)) (k : Kont) : Bool :=
  match o with
  | some p => match p with | (v, h) => k v h
  | none => false

def condB (c : AV) (a b : Bool) : Bool :=
  match c with
  | .bool x => match x with | true => a | false => b
  | _ => false

def wantV (c : AV) (b : Bool) : Bool :=
  match c with
  | .bool x => x == b
  | _ => false

def grdO (w : Bool) (o : Option AV) : Option AV := bif w then o else some (.tup [])
def grdP (w : Bool) (o : Option (AV × AHeap)) (h : AHeap) : Option (AV × AHeap) := bif w then o else some (.tup [], h)
def grdC (w : Bool) (run : Kont → Bool) (h : AHeap) (K : Kont) : Bool := bif w then run K else K (.tup []) h

def callV (call : CallFn) (f : AV) (args : List AV) (h : AHeap) (K : Kont) : Bool :=
  match f with
  | .fn tgt first cap => call tgt (first ++ args ++ cap) h K
  | _ => false

def sameB (o : Option AV) (u : AV) (r : Bool) : Bool :=
  match o with
  | some v => bif AV.same v u then r else false
  | none => false

def sameG (w : Bool) (o : Option AV) (u : AV) (r : Bool) : Bool := bif w then sameB o u r else r

def pickV (c a b : AV) : Option AV :=
  match c with
  | .bool x => match x with | true => some a | false => some b
  | _ => none

def eqV (h : AHeap) (neg : Bool) (k : EqK) (a b : AV) : Option AV :=
  match eqA h k a b with
  | some r => some (.bool (bif neg then !r else r))
  | none => none

def fillV (cells : List AV) : List (Nat × Nat × AV) → Option (List AV)
  | [] => some cells
  | (off, n, v) :: rest => bif Nat.beq v.cells.length n && Nat.ble (off + n) cells.length && allLeaf v.cells then fillV (lay cells off v.cells) rest else none

def buildV (z : List AV) (ps : List (Nat × Nat × AV)) : Option AV :=
  match fillV z ps with
  | some l => some (.agg l)
  | none => none

def fillRowV (sz : Nat) (es : List (List AV)) : List (Nat × AV) → Option (List (List AV))
  | [] => some es
  | (i, v) :: rest => bif Nat.beq v.cells.length sz && Nat.blt i es.length && allLeaf v.cells then fillRowV sz (setNth es i v.cells) rest else none

def bsliceV (h : AHeap) (n sz : Nat) (z : List AV) (ps : List (Nat × AV)) : Option (AV × AHeap) :=
  bif Nat.beq z.length sz && Nat.blt 0 sz && Nat.ble (n * sz) 16777216 && allLeaf z then
    (match fillRowV sz (repl n z) ps with
    | some es => some (.slc h.sz 0 0 n n true, newRow h es sz)
    | none => none)
  else none

def natV (d : Nat) : Option AV → Option Nat
  | none => some d
  | some v => asNat v

def sliceV (h : AHeap) (sz : Nat) (x : AV) (lo hi mx : Option AV) : Option AV :=
  match x with
  | .slc id g s len cap ex =>
    bif rowSz h id sz then
    match mx with
    | some m => match natV 0 (some m), natV len hi, natV 0 lo with
      | some m, some h, some l => bif Nat.ble l h && Nat.ble h m && Nat.ble m cap && hi.isSome then some (.slc id g (s + l) (h - l) (m - l) true) else none
      | _, _, _ => none
    | none => match natV len hi, natV 0 lo with
      | some h, some l => bif Nat.ble l h && Nat.ble h cap then some (.slc id g (s + l) (h - l) (cap - l) ex) else none
      | _, _ => none
    else none
  | .nilSlc =>
    match natV 0 mx, natV 0 hi, natV 0 lo with
    | some 0, some 0, some 0 => bif mx.isNone || hi.isSome then some .nilSlc else none
    | _, _, _ => none
  | .emp =>
    match natV 0 mx, natV 0 hi, natV 0 lo with
    | some 0, some 0, some 0 => bif mx.isNone || hi.isSome then some .emp else none
    | _, _, _ => none
  | _ => none

def sliceSV (x : AV) (lo hi : Option AV) : Option AV :=
  match x with
  | .str s => match natV s.length hi, natV 0 lo with
    | some h, some l => bif Nat.ble l h && Nat.ble h s.length then some (.str ((s.take h).drop l)) else none
    | _, _ => none
  | _ => none

def allocV (h : AHeap) (z : List AV) : Option (AV × AHeap) := allocA h z

def allotV (h : AHeap) (t : Nat) (z : List AV) : Option (AV × AHeap) := bif Nat.blt 0 z.length && allLeaf z then some (.ptr h.sz 0 0 0, newRow h [z] z.length (some t)) else none

/-- Bytes appended. -/
def appbA (h : AHeap) (e : Nat) (s x : AV) : Option (AV × AHeap) := appendA h 1 1 s x (some e)

def mmV (mx : Bool) : List AV → Option AV
  | v :: l => mmA mx v l
  | [] => none

def mkmapV (h : AHeap) : Option (AV × AHeap) := some (.map h.sz, h.push (.map [] 0))

/-! ### Temporaries -/
abbrev LEnv := List (Nat × AV)

def LEnv.get : LEnv → Nat → Option AV
  | [], _ => none
  | (k, v) :: l, n => bif Nat.beq n k then some v else LEnv.get l n

def Has (ρ : Regs) (l : LEnv) : Prop := ∀ k v, l.get k = some v → ρ.get k = some v

theorem Has.nil {ρ : Regs} : Has ρ [] := fun _ _ h => by cases h
theorem Has.set {ρ : Regs} {l : LEnv} (H : Has ρ l) (d : Nat) (v : AV) : Has (ρ.set d v) ((d, v) :: l) := by
  intro k u h
  rw [PT.get_set]
  simp only [LEnv.get] at h
  cases hb : Nat.beq k d with
  | true =>
    rw [hb, cond_true] at h
    rw [if_pos (Nat.eq_of_beq_eq_true hb)]
    exact h
  | false =>
    rw [hb, cond_false] at h
    rw [if_neg (nbeq_false.1 hb)]
    exact H k u h

def keepL : List Nat → LEnv → Option LEnv
  | [], _ => some []
  | k :: ks, l => match l.get k with
    | some v => match keepL ks l with
      | some m => some ((k, v) :: m)
      | none => none
    | none => none

def mkR : LEnv → Regs
  | [] => .lf
  | (k, v) :: l => (mkR l).set k v

theorem Has.mk : ∀ {l : LEnv}, Has (mkR l) l
  | [] => Has.nil
  | (k, v) :: l => (Has.mk (l := l)).set k v

theorem keepL_get : ∀ {ks : List Nat} {l m : LEnv}, keepL ks l = some m → ∀ k v, m.get k = some v → l.get k = some v
  | [], l, m, h, k, v, e => by simp only [keepL] at h; cases h; cases e
  | k :: ks, l, m, h, j, v, e => by
    simp only [keepL] at h
    split at h
    · rename_i u hu
      split at h
      · rename_i m' hm
        cases h
        simp only [LEnv.get] at e
        cases hb : Nat.beq j k with
        | true => rw [hb, cond_true] at e; cases e; rw [Nat.eq_of_beq_eq_true hb]; exact hu
        | false => rw [hb, cond_false] at e; exact keepL_get hm j v e
      · cases h
    · cases h

theorem Has.keep {ρ : Regs} {l m : LEnv} (H : Has ρ l) (ks : List Nat) (h : keepL ks l = some m) : Has ρ m := fun k v e => H k v (keepL_get h k v e)

theorem keepR_eq {ρ : Regs} : ∀ {ks : List Nat} {l m : LEnv}, Has ρ l → keepL ks l = some m → keepR ks ρ = mkR m
  | [], l, m, H, h => by simp only [keepL] at h; cases h; rfl
  | k :: ks, l, m, H, h => by
    simp only [keepL] at h
    split at h
    · rename_i u hu
      split at h
      · rename_i m' hm
        cases h
        simp only [keepR, H k u hu, mkR, keepR_eq H hm]
      · cases h
    · cases h

def evL (l : LEnv) : Opd → Option AV
  | .t r => l.get r
  | .c v => some v

def evsL (l : LEnv) : List Opd → Option (List AV)
  | [] => some []
  | x :: xs => match evL l x with
    | some v => match evsL l xs with
      | some vs => some (v :: vs)
      | none => none
    | none => none

def evoL (l : LEnv) : Option Opd → Option (Option AV)
  | none => some none
  | some x => match evL l x with
    | some v => some (some v)
    | none => none

def partsL (l : LEnv) : List (Nat × Nat × Opd) → Option (List (Nat × Nat × AV))
  | [] => some []
  | (a, b, x) :: xs => match evL l x with
    | some v => match partsL l xs with
      | some vs => some ((a, b, v) :: vs)
      | none => none
    | none => none

def slotsL (l : LEnv) : List (Nat × Opd) → Option (List (Nat × AV))
  | [] => some []
  | (a, x) :: xs => match evL l x with
    | some v => match slotsL l xs with
      | some vs => some ((a, v) :: vs)
      | none => none
    | none => none

theorem ev_has {ρ : Regs} {l : LEnv} (H : Has ρ l) {x : Opd} {v : AV} (h : evL l x = some v) : ev ρ x = some v := by
  cases x with
  | t r => exact H r v h
  | c u => exact h

theorem evs_has {ρ : Regs} {l : LEnv} (H : Has ρ l) : ∀ {xs : List Opd} {vs : List AV}, evsL l xs = some vs → evs ρ xs = some vs
  | [], vs, h => by simpa [evsL, evs] using h
  | x :: xs, vs, h => by
    simp only [evsL] at h
    split at h
    · rename_i v hv
      split at h
      · rename_i vs' hvs
        cases h
        simp only [evs, ev_has H hv, evs_has H hvs]
      · cases h
    · cases h

theorem evNat_has {ρ : Regs} {l : LEnv} (H : Has ρ l) {d : Nat} {x : Option Opd} {o : Option AV} (h : evoL l x = some o) : evNat ρ d x = natV d o ∧ x.isSome = o.isSome ∧ x.isNone = o.isNone ∧ (x = none ↔ o = none) := by
  cases x with
  | none => simp only [evoL] at h; cases h; exact ⟨rfl, rfl, rfl, by simp⟩
  | some x =>
    simp only [evoL] at h
    split at h
    · rename_i v hv
      cases h
      exact ⟨by simp only [evNat, ev_has H hv, natV], rfl, rfl, by simp⟩
    · cases h

theorem fill_has {ρ : Regs} {l : LEnv} (H : Has ρ l) : ∀ {ps : List (Nat × Nat × Opd)} {vs : List (Nat × Nat × AV)} {cells : List AV}, partsL l ps = some vs → fillA ρ cells ps = fillV cells vs
  | [], vs, cells, h => by simp only [partsL] at h; cases h; rfl
  | (a, b, x) :: ps, vs, cells, h => by
    simp only [partsL] at h
    split at h
    · rename_i v hv
      split at h
      · rename_i vs' hvs
        cases h
        simp only [fillA, fillV, ev_has H hv]
        rw [fill_has H hvs]
      · cases h
    · cases h

theorem fillRow_has {ρ : Regs} {l : LEnv} (H : Has ρ l) {sz : Nat} : ∀ {ps : List (Nat × Opd)} {vs : List (Nat × AV)} {es : List (List AV)}, slotsL l ps = some vs → fillRow ρ sz es ps = fillRowV sz es vs
  | [], vs, es, h => by simp only [slotsL] at h; cases h; rfl
  | (a, x) :: ps, vs, es, h => by
    simp only [slotsL] at h
    split at h
    · rename_i v hv
      split at h
      · rename_i vs' hvs
        cases h
        simp only [fillRow, fillRowV, ev_has H hv]
        rw [fillRow_has H hvs]
      · cases h
    · cases h

def l1 (l : LEnv) (x : Opd) (f : AV → Option AV) : Option (Option AV) :=
  match evL l x with
  | some v => some (f v)
  | none => none

def l2 (l : LEnv) (x y : Opd) (f : AV → AV → Option AV) : Option (Option AV) :=
  match evL l x with
  | some v => match evL l y with
    | some w => some (f v w)
    | none => none
  | none => none

/-- Operations that leave memory as it is: what they say. -/
def pureL (l : LEnv) (h : AHeap) (op : AOp) : Option (Option AV) :=
  match op with
  | .mv x => match evL l x with
    | some v => some (some v)
    | none => none
  | .pick c a b => match evL l c, evL l a, evL l b with
    | some c, some a, some b => some (pickV c a b)
    | _, _, _ => none
  | .build z ps => match partsL l ps with
    | some vs => some (buildV z vs)
    | none => none
  | .load ag n a => l1 l a (loadA h ag n)
  | .nilck x => l1 l x nilckA
  | .bin op x y => l2 l x y (binA op)
  | .eq neg k x y => l2 l x y (eqV h neg k)
  | .not x => l1 l x notA
  | .neg x => l1 l x negA
  | .conv k x => l1 l x (convA k)
  | .b2s x => l1 l x (b2sA h)
  | .cvs x => l1 l x cvsA
  | .mkfn f a b => match evsL l a with
    | some a => match evsL l b with
      | some b => some (some (.fn (.func f) a b))
      | none => none
    | none => none
  | .sl sz x lo hi mx => match evL l x, evoL l lo, evoL l hi, evoL l mx with
    | some v, some lo, some hi, some mx => some (sliceV h sz v lo hi mx)
    | _, _, _, _ => none
  | .sls x lo hi => match evL l x, evoL l lo, evoL l hi with
    | some v, some lo, some hi => some (sliceSV v lo hi)
    | _, _, _ => none
  | .fadr off x => l1 l x (fadrA off)
  | .fld ag off n x => l1 l x (fldA ag off n)
  | .iadr sz x i => l2 l x i (iadrA h sz)
  | .iadra len esz x i => l2 l x i (iadraA len esz)
  | .idxs x i => l2 l x i idxsA
  | .idxa ag len esz x i => l2 l x i (idxaA ag len esz)
  | .look kk ok z m k => l2 l m k (lookA h kk ok z)
  | .ext x i => l1 l x (extA i)
  | .len k x => l1 l x (lenA h k)
  | .cap x => l1 l x capA
  | .mm mx xs => match evsL l xs with
    | some vs => some (mmV mx vs)
    | none => none
  | .ent x => l1 l x (entA h)
  | .uto x => l1 l x (utoA h)
  | .ufr t n x => l1 l x (ufrA h t n)
  | .sdat x => l1 l x sdatA
  | _ => none

def heapL (l : LEnv) (h : AHeap) (op : AOp) : Option (Option (AV × AHeap)) :=
  match op with
  | .alloc z => some (allocV h z)
  | .box n x => match evL l x with
    | some v => some (boxA h n v)
    | none => none
  | .bslice n sz z ps => match slotsL l ps with
    | some vs => some (bsliceV h n sz z vs)
    | none => none
  | .store n a v => match evL l a, evL l v with
    | some a, some v => some (unit (storeA h n a v))
    | _, _ => none
  | .mkmap => some (mkmapV h)
  | .mksl sz bytes z a c => match evL l a, evL l c with
    | some a, some c => some (mkslA h sz bytes z a c)
    | _, _ => none
  | .mupd kk m k v => match evL l m, evL l k, evL l v with
    | some m, some k, some v => some (unit (mupdA h kk m k v))
    | _, _, _ => none
  | .app sz bytes s x => match evL l s, evL l x with
    | some s, some x => some (appendA h sz bytes s x)
    | _, _ => none
  | .appz sz bytes z s x => match evL l s, evL l x with
    | some s, some x => some (appzA h sz bytes z s x)
    | _, _ => none
  | .copy sz d s => match evL l d, evL l s with
    | some d, some s => some (copyA h sz d s)
    | _, _ => none
  | .del kk m k => match evL l m, evL l k with
    | some m, some k => some (unit (delA h kk m k))
    | _, _ => none
  | .clr sz z x => match evL l x with
    | some v => some (unit (clrA h sz z v))
    | none => none
  | .rng x => match evL l x with
    | some v => some (rngA h v)
    | none => none
  | .allot t z => some (allotV h t z)
  | .appb e s x => match evL l s, evL l x with
    | some s, some x => some (appbA h e s x)
    | _, _ => none
  | .ustr e p n => match evL l p, evL l n with
    | some p, some n => some (ustrA h e p n)
    | _, _ => none
  | _ => none

section
variable {ρ : Regs} {l : LEnv} {h : AHeap} {op : AOp}

theorem l1_has (H : Has ρ l) {x : Opd} {f : AV → Option AV} {o : Option AV} (e : l1 l x f = some o) : ev1 ρ x f = o := by
  unfold l1 at e
  split at e
  · rename_i v hv; cases e; simp only [ev1, ev_has H hv]
  · cases e

theorem l2_has (H : Has ρ l) {x y : Opd} {f : AV → AV → Option AV} {o : Option AV} (e : l2 l x y f = some o) : ev2 ρ x y f = o := by
  unfold l2 at e
  split at e
  · rename_i v hv
    split at e
    · rename_i w hw; cases e; simp only [ev2, ev_has H hv, ev_has H hw]
    · cases e
  · cases e

theorem slice_has (H : Has ρ l) {sz : Nat} {v : AV} {lo hi mx : Option Opd} {a b c : Option AV} (h1 : evoL l lo = some a) (h2 : evoL l hi = some b) (h3 : evoL l mx = some c) : sliceA ρ h sz v lo hi mx = sliceV h sz v a b c := by
  have e1 := fun d => evNat_has H (d := d) h1
  have e2 := fun d => evNat_has H (d := d) h2
  have e3 := fun d => evNat_has H (d := d) h3
  unfold sliceA sliceV
  cases v <;> simp only [(e1 0).1, (e2 _).1, (e3 0).1, (e2 0).2.1, (e3 0).2.2.1]
  · cases mx with
    | none =>
      have : c = none := (e3 0).2.2.2.1 rfl
      subst this; rfl
    | some m =>
      cases c with
      | none => have := (e3 0).2.2.2.2 rfl; cases this
      | some c =>
        have := (e3 0).1
        simp only [this]
        rfl
  · rfl
  · rfl

theorem pureL_has (H : Has ρ l) {o : Option AV} (e : pureL l h op = some o) : evalA ρ h op = pureV o h ∧ isCall op = false := by
  unfold pureL at e
  split at e
  case h_1 x =>
    split at e
    · rename_i v hv; cases e; simp only [evalA, ev_has H hv, isCall, and_self]
    · cases e
  case h_2 c a b =>
    split at e
    · rename_i c' a' b' h1 h2 h3
      cases e
      refine ⟨?_, rfl⟩
      simp only [evalA, ev_has H h1, ev_has H h2, ev_has H h3]
      cases c' <;> try rfl
      rename_i x; cases x <;> rfl
    · cases e
  case h_3 z ps =>
    split at e
    · rename_i vs hvs
      cases e
      refine ⟨?_, rfl⟩
      simp only [evalA, fill_has H hvs, buildV]
      cases fillV z vs <;> rfl
    · cases e
  case h_7 neg k x y =>
    unfold l2 at e
    split at e
    · rename_i v hv
      split at e
      · rename_i w hw
        cases e
        refine ⟨?_, rfl⟩
        simp only [evalA, ev_has H hv, ev_has H hw, eqV]
        cases eqA h k v w <;> rfl
      · cases e
    · cases e
  case h_13 f a b =>
    split at e
    · rename_i a' ha
      split at e
      · rename_i b' hb
        cases e
        exact ⟨by simp only [evalA, evs_has H ha, evs_has H hb, pureV], rfl⟩
      · cases e
    · cases e
  case h_14 sz x lo hi mx =>
    split at e
    · rename_i v a b c h0 h1 h2 h3
      cases e
      exact ⟨by simp only [evalA, ev1, ev_has H h0, slice_has H h1 h2 h3], rfl⟩
    · cases e
  case h_15 x lo hi =>
    split at e
    · rename_i v a b h0 h1 h2
      cases e
      refine ⟨?_, rfl⟩
      simp only [evalA, ev1, ev_has H h0]
      congr 1
      unfold sliceS sliceSV
      cases v <;> simp only [(evNat_has H h1).1, (evNat_has H h2).1]
      rfl
    · cases e
  case h_26 mx xs =>
    split at e
    · rename_i vs hvs
      cases e
      refine ⟨?_, rfl⟩
      simp only [evalA, evs_has H hvs]
      cases vs <;> rfl
    · cases e
  all_goals first
    | exact ⟨by simp only [evalA]; rw [l1_has H e], rfl⟩
    | exact ⟨by simp only [evalA]; rw [l2_has H e], rfl⟩
    | cases e

theorem heapL_has (H : Has ρ l) {o : Option (AV × AHeap)} (e : heapL l h op = some o) : evalA ρ h op = o ∧ isCall op = false := by
  unfold heapL at e
  split at e
  case h_1 z => cases e; exact ⟨rfl, rfl⟩
  case h_3 n sz z ps =>
    split at e
    · rename_i vs hvs
      cases e
      refine ⟨?_, rfl⟩
      simp only [evalA, bsliceV, fillRow_has H hvs]
      rfl
    · cases e
  case h_5 => cases e; exact ⟨rfl, rfl⟩
  case h_14 => cases e; exact ⟨rfl, rfl⟩
  case h_15 =>
    split at e
    · rename_i h1 h2
      cases e
      refine ⟨?_, rfl⟩
      simp only [evalA, ev_has H h1, ev_has H h2]
      rfl
    · cases e
  all_goals first
    | cases e; done
    | (split at e
       · cases e
         refine ⟨?_, rfl⟩
         rename_i h1
         simp only [evalA, ev_has H h1]
       · cases e)
    | (split at e
       · cases e
         refine ⟨?_, rfl⟩
         rename_i h1 h2
         simp only [evalA, ev_has H h1, ev_has H h2]
       · cases e)
    | (split at e
       · cases e
         refine ⟨?_, rfl⟩
         rename_i h1 h2 h3
         simp only [evalA, ev_has H h1, ev_has H h2, ev_has H h3]
       · cases e)

/-! ### One operation -/
def Le (c c' : CallFn) : Prop := ∀ t a h (K K' : Kont), c t a h K = true → (∀ v h', K v h' = true → K' v h' = true) → c' t a h K' = true

theorem optB_true {o : Option AV} {k : AV → Bool} (s : optB o k = true) : ∃ v, o = some v ∧ k v = true := by
  cases o with
  | none => cases s
  | some v => exact ⟨v, rfl, s⟩

theorem optP_true {o : Option (AV × AHeap)} {k : Kont} (s : optP o k = true) : ∃ v h', o = some (v, h') ∧ k v h' = true := by
  cases o with
  | none => cases s
  | some p => exact ⟨p.1, p.2, rfl, s⟩

theorem wanted_has (H : Has ρ l) {d : Nat} {g : AV} {b : Bool} (hg : l.get d = some g) : wantedA ρ (some (d, b)) = some (wantV g b) := by
  simp only [wantedA, H d g hg, wantV]
  cases g <;> rfl

variable {call call' : CallFn} {Ks : KSt} {d : Nat}

theorem step_mv {x : Opd} {v : AV} (H : Has ρ l) (e : evL l x = some v) (k : Has (ρ.set d v) ((d, v) :: l) → Ks v ⟨ρ.set d v, h⟩ = true) : stepA call' ⟨some d, .mv x, none⟩ ⟨ρ, h⟩ Ks = true := by
  simp only [stepA, wantedA, evalK, evalA, ev_has H e, pureV, put]
  exact k (H.set d v)

theorem evalK_of (hn : isCall op = false) {o : Option (AV × AHeap)} (e : evalA ρ h op = o) {K : Kont} : evalK call' ρ h op K = optP o K := by
  rw [evalK_plain hn, e]
  cases o <;> rfl

theorem step_pure {o : Option AV} {k : AV → Bool} (H : Has ρ l) (e : pureL l h op = some o) (s : optB o k = true) (hk : ∀ v, k v = true → Has (ρ.set d v) ((d, v) :: l) → Ks v ⟨ρ.set d v, h⟩ = true) : stepA call' ⟨some d, op, none⟩ ⟨ρ, h⟩ Ks = true := by
  obtain ⟨e1, e2⟩ := pureL_has H e
  obtain ⟨v, rfl, s⟩ := optB_true s
  simp only [stepA, wantedA, evalK_of e2 e1, pureV, optP, put]
  exact hk v s (H.set d v)

theorem step_pure0 {o : Option AV} {k : AV → Bool} (H : Has ρ l) (e : pureL l h op = some o) (s : optB o k = true) (hk : ∀ v, k v = true → Has ρ l → Ks v ⟨ρ, h⟩ = true) : stepA call' ⟨none, op, none⟩ ⟨ρ, h⟩ Ks = true := by
  obtain ⟨e1, e2⟩ := pureL_has H e
  obtain ⟨v, rfl, s⟩ := optB_true s
  simp only [stepA, wantedA, evalK_of e2 e1, pureV, optP, put]
  exact hk v s H

theorem step_heap {o : Option (AV × AHeap)} {k : Kont} (H : Has ρ l) (e : heapL l h op = some o) (s : optP o k = true) (hk : ∀ v h', k v h' = true → Has (ρ.set d v) ((d, v) :: l) → Ks v ⟨ρ.set d v, h'⟩ = true) : stepA call' ⟨some d, op, none⟩ ⟨ρ, h⟩ Ks = true := by
  obtain ⟨e1, e2⟩ := heapL_has H e
  obtain ⟨v, h', rfl, s⟩ := optP_true s
  simp only [stepA, wantedA, evalK_of e2 e1, optP, put]
  exact hk v h' s (H.set d v)

theorem step_heap0 {o : Option (AV × AHeap)} {k : Kont} (H : Has ρ l) (e : heapL l h op = some o) (s : optP o k = true) (hk : ∀ v h', k v h' = true → Has ρ l → Ks v ⟨ρ, h'⟩ = true) : stepA call' ⟨none, op, none⟩ ⟨ρ, h⟩ Ks = true := by
  obtain ⟨e1, e2⟩ := heapL_has H e
  obtain ⟨v, h', rfl, s⟩ := optP_true s
  simp only [stepA, wantedA, evalK_of e2 e1, optP, put]
  exact hk v h' s H

theorem step_call {f : Nat} {xs : List Opd} {vs : List AV} {k : Kont} (hc : Le call call') (H : Has ρ l) (e : evsL l xs = some vs) (s : call (.func f) vs h k = true) (hk : ∀ v h', k v h' = true → Has (ρ.set d v) ((d, v) :: l) → Ks v ⟨ρ.set d v, h'⟩ = true) :
    stepA call' ⟨some d, .call (.c (.fn (.func f) [] [])) xs, none⟩ ⟨ρ, h⟩ Ks = true := by
  simp only [stepA, wantedA, evalK, ev, evs_has H e, put, List.nil_append, List.append_nil]
  exact hc _ _ _ _ _ s fun v h' hv => hk v h' hv (H.set d v)

theorem step_call0 {f : Nat} {xs : List Opd} {vs : List AV} {k : Kont} (hc : Le call call') (H : Has ρ l) (e : evsL l xs = some vs) (s : call (.func f) vs h k = true) (hk : ∀ v h', k v h' = true → Has ρ l → Ks v ⟨ρ, h'⟩ = true) :
    stepA call' ⟨none, .call (.c (.fn (.func f) [] [])) xs, none⟩ ⟨ρ, h⟩ Ks = true := by
  simp only [stepA, wantedA, evalK, ev, evs_has H e, put, List.nil_append, List.append_nil]
  exact hc _ _ _ _ _ s fun v h' hv => hk v h' hv H

theorem callV_le (hc : Le call call') {f : AV} {vs : List AV} {k k' : Kont} (s : callV call f vs h k = true) (hk : ∀ v h', k v h' = true → k' v h' = true) : callV call' f vs h k' = true := by
  unfold callV at s ⊢
  cases f <;> first | (cases s; done) | exact hc _ _ _ _ _ s hk

theorem evalK_callV {x : Opd} {f : AV} {xs : List Opd} {vs : List AV} (H : Has ρ l) (ef : evL l x = some f) (e : evsL l xs = some vs) {K : Kont} : evalK call' ρ h (.call x xs) K = callV call' f vs h K := by
  simp only [evalK, ev_has H ef, evs_has H e, callV]
  cases f <;> rfl

theorem step_callv {x : Opd} {f : AV} {xs : List Opd} {vs : List AV} {k : Kont} (hc : Le call call') (H : Has ρ l) (ef : evL l x = some f) (e : evsL l xs = some vs) (s : callV call f vs h k = true) (hk : ∀ v h', k v h' = true → Has (ρ.set d v) ((d, v) :: l) → Ks v ⟨ρ.set d v, h'⟩ = true) :
    stepA call' ⟨some d, .call x xs, none⟩ ⟨ρ, h⟩ Ks = true := by
  simp only [stepA, wantedA, evalK_callV H ef e, put]
  exact callV_le hc s fun v h' hv => hk v h' hv (H.set d v)

theorem step_callv0 {x : Opd} {f : AV} {xs : List Opd} {vs : List AV} {k : Kont} (hc : Le call call') (H : Has ρ l) (ef : evL l x = some f) (e : evsL l xs = some vs) (s : callV call f vs h k = true) (hk : ∀ v h', k v h' = true → Has ρ l → Ks v ⟨ρ, h'⟩ = true) :
    stepA call' ⟨none, .call x xs, none⟩ ⟨ρ, h⟩ Ks = true := by
  simp only [stepA, wantedA, evalK_callV H ef e, put]
  exact callV_le hc s fun v h' hv => hk v h' hv H

theorem nextA_le {v : AV} {k k' : Kont} (s : nextA h v k = true) (hk : ∀ v h', k v h' = true → k' v h' = true) : nextA h v k' = true := by
  unfold nextA at s ⊢
  split at s <;> first | (cases s; done) | skip
  split at s <;> first | (cases s; done) | exact hk _ _ s | skip
  split at s <;> first | (cases s; done) | skip
  rename_i es clock hes
  cases hb : (!List.isEmpty _ && !List.isEmpty es && es.all _) with
  | true => rw [hb, cond_true] at s; cases s
  | false =>
    rw [hb, cond_false] at s
    simp only [cond_false]
    rw [List.all_eq_true] at s ⊢
    intro x hx
    have := s x hx
    cases x with
    | none => exact hk _ _ this
    | some e => exact hk _ _ this

theorem step_nxt {x : Opd} {v : AV} {k : Kont} (H : Has ρ l) (e : evL l x = some v) (s : nextA h v k = true) (hk : ∀ v h', k v h' = true → Has (ρ.set d v) ((d, v) :: l) → Ks v ⟨ρ.set d v, h'⟩ = true) :
    stepA call' ⟨some d, .nxt x, none⟩ ⟨ρ, h⟩ Ks = true := by
  simp only [stepA, wantedA, evalK, ev_has H e, put]
  exact nextA_le s fun v h' hv => hk v h' hv (H.set d v)

/-! ### One operation that is guarded -/
variable {j : Nat} {b : Bool} {g : AV}

theorem gstep_pure {o : Option AV} {k : AV → Bool} (H : Has ρ l) (hg : l.get j = some g) (e : pureL l h op = some o) (s : optB (grdO (wantV g b) o) k = true) (hk : ∀ v, k v = true → Has (ρ.set d v) ((d, v) :: l) → Ks v ⟨ρ.set d v, h⟩ = true) : stepA call' ⟨some d, op, some (j, b)⟩ ⟨ρ, h⟩ Ks = true := by
  obtain ⟨e1, e2⟩ := pureL_has H e
  simp only [stepA, wanted_has H hg]
  cases hw : wantV g b with
  | true =>
    simp only [hw, grdO, cond_true] at s
    obtain ⟨v, rfl, s⟩ := optB_true s
    simp only [evalK_of e2 e1, pureV, optP, put]
    exact hk v s (H.set d v)
  | false =>
    simp only [hw, grdO, cond_false] at s
    exact hk _ s (H.set d _)

theorem gstep_pure0 {o : Option AV} {k : AV → Bool} (H : Has ρ l) (hg : l.get j = some g) (e : pureL l h op = some o) (s : optB (grdO (wantV g b) o) k = true) (hk : ∀ v, k v = true → Has ρ l → Ks v ⟨ρ, h⟩ = true) : stepA call' ⟨none, op, some (j, b)⟩ ⟨ρ, h⟩ Ks = true := by
  obtain ⟨e1, e2⟩ := pureL_has H e
  simp only [stepA, wanted_has H hg]
  cases hw : wantV g b with
  | true =>
    simp only [hw, grdO, cond_true] at s
    obtain ⟨v, rfl, s⟩ := optB_true s
    simp only [evalK_of e2 e1, pureV, optP, put]
    exact hk v s H
  | false =>
    simp only [hw, grdO, cond_false] at s
    exact hk _ s H

theorem gstep_heap {o : Option (AV × AHeap)} {k : Kont} (H : Has ρ l) (hg : l.get j = some g) (e : heapL l h op = some o) (s : optP (grdP (wantV g b) o h) k = true) (hk : ∀ v h', k v h' = true → Has (ρ.set d v) ((d, v) :: l) → Ks v ⟨ρ.set d v, h'⟩ = true) : stepA call' ⟨some d, op, some (j, b)⟩ ⟨ρ, h⟩ Ks = true := by
  obtain ⟨e1, e2⟩ := heapL_has H e
  simp only [stepA, wanted_has H hg]
  cases hw : wantV g b with
  | true =>
    simp only [hw, grdP, cond_true] at s
    obtain ⟨v, h', rfl, s⟩ := optP_true s
    simp only [evalK_of e2 e1, optP, put]
    exact hk v h' s (H.set d v)
  | false =>
    simp only [hw, grdP, cond_false] at s
    exact hk _ _ s (H.set d _)

theorem gstep_heap0 {o : Option (AV × AHeap)} {k : Kont} (H : Has ρ l) (hg : l.get j = some g) (e : heapL l h op = some o) (s : optP (grdP (wantV g b) o h) k = true) (hk : ∀ v h', k v h' = true → Has ρ l → Ks v ⟨ρ, h'⟩ = true) : stepA call' ⟨none, op, some (j, b)⟩ ⟨ρ, h⟩ Ks = true := by
  obtain ⟨e1, e2⟩ := heapL_has H e
  simp only [stepA, wanted_has H hg]
  cases hw : wantV g b with
  | true =>
    simp only [hw, grdP, cond_true] at s
    obtain ⟨v, h', rfl, s⟩ := optP_true s
    simp only [evalK_of e2 e1, optP, put]
    exact hk v h' s H
  | false =>
    simp only [hw, grdP, cond_false] at s
    exact hk _ _ s H

theorem gstep_callv {x : Opd} {f : AV} {xs : List Opd} {vs : List AV} {k : Kont} (hc : Le call call') (H : Has ρ l) (hg : l.get j = some g) (ef : evL l x = some f) (e : evsL l xs = some vs) (s : grdC (wantV g b) (fun k => callV call f vs h k) h k = true) (hk : ∀ v h', k v h' = true → Has (ρ.set d v) ((d, v) :: l) → Ks v ⟨ρ.set d v, h'⟩ = true) :
    stepA call' ⟨some d, .call x xs, some (j, b)⟩ ⟨ρ, h⟩ Ks = true := by
  simp only [stepA, wanted_has H hg]
  cases hw : wantV g b with
  | true =>
    simp only [hw, grdC, cond_true] at s
    simp only [evalK_callV H ef e, put]
    exact callV_le hc s fun v h' hv => hk v h' hv (H.set d v)
  | false =>
    simp only [hw, grdC, cond_false] at s
    exact hk _ _ s (H.set d _)

theorem gstep_callv0 {x : Opd} {f : AV} {xs : List Opd} {vs : List AV} {k : Kont} (hc : Le call call') (H : Has ρ l) (hg : l.get j = some g) (ef : evL l x = some f) (e : evsL l xs = some vs) (s : grdC (wantV g b) (fun k => callV call f vs h k) h k = true) (hk : ∀ v h', k v h' = true → Has ρ l → Ks v ⟨ρ, h'⟩ = true) :
    stepA call' ⟨none, .call x xs, some (j, b)⟩ ⟨ρ, h⟩ Ks = true := by
  simp only [stepA, wanted_has H hg]
  cases hw : wantV g b with
  | true =>
    simp only [hw, grdC, cond_true] at s
    simp only [evalK_callV H ef e, put]
    exact callV_le hc s fun v h' hv => hk v h' hv H
  | false =>
    simp only [hw, grdC, cond_false] at s
    exact hk _ _ s H

theorem gstep_call {f : Nat} {xs : List Opd} {vs : List AV} {k : Kont} (hc : Le call call') (H : Has ρ l) (hg : l.get j = some g) (e : evsL l xs = some vs) (s : grdC (wantV g b) (fun k => call (.func f) vs h k) h k = true) (hk : ∀ v h', k v h' = true → Has (ρ.set d v) ((d, v) :: l) → Ks v ⟨ρ.set d v, h'⟩ = true) :
    stepA call' ⟨some d, .call (.c (.fn (.func f) [] [])) xs, some (j, b)⟩ ⟨ρ, h⟩ Ks = true := by
  refine gstep_callv hc H hg (f := .fn (.func f) [] []) rfl e ?_ hk
  simpa only [callV, List.nil_append, List.append_nil] using s

theorem gstep_call0 {f : Nat} {xs : List Opd} {vs : List AV} {k : Kont} (hc : Le call call') (H : Has ρ l) (hg : l.get j = some g) (e : evsL l xs = some vs) (s : grdC (wantV g b) (fun k => call (.func f) vs h k) h k = true) (hk : ∀ v h', k v h' = true → Has ρ l → Ks v ⟨ρ, h'⟩ = true) :
    stepA call' ⟨none, .call (.c (.fn (.func f) [] [])) xs, some (j, b)⟩ ⟨ρ, h⟩ Ks = true := by
  refine gstep_callv0 hc H hg (f := .fn (.func f) [] []) rfl e ?_ hk
  simpa only [callV, List.nil_append, List.append_nil] using s

/-! ### Regions that draw their order -/
variable {ops : List AOper} {Kr : Regs → Bool}

theorem calc_nil (k : Kr ρ = true) : calcK [] ρ h Kr = true := k

theorem calc_cons_some {o : AOper} {v : AV} (e : (wantedA ρ o.grd = some true ∧ ∃ h', evalA ρ h o.op = some (v, h')) ∨ (wantedA ρ o.grd = some false ∧ v = .tup [])) (k : calcK ops (put ρ o.dst v) h Kr = true) : calcK (o :: ops) ρ h Kr = true := by
  unfold calcK at k ⊢
  simp only [calcA]
  rcases e with ⟨e1, h', e2⟩ | ⟨e1, rfl⟩
  · simp only [e1, e2]; exact k
  · simp only [e1]; exact k

theorem calc_mv {x : Opd} {v : AV} (H : Has ρ l) (e : evL l x = some v) (k : Has (ρ.set d v) ((d, v) :: l) → calcK ops (ρ.set d v) h Kr = true) : calcK (⟨some d, .mv x, none⟩ :: ops) ρ h Kr = true :=
  calc_cons_some (v := v) (.inl ⟨rfl, h, by simp only [evalA, ev_has H e, pureV]⟩) (k (H.set d v))

theorem calc_pure {o : Option AV} {k : AV → Bool} (H : Has ρ l) (e : pureL l h op = some o) (s : optB o k = true) (hk : ∀ v, k v = true → Has (ρ.set d v) ((d, v) :: l) → calcK ops (ρ.set d v) h Kr = true) : calcK (⟨some d, op, none⟩ :: ops) ρ h Kr = true := by
  obtain ⟨e1, e2⟩ := pureL_has H e
  obtain ⟨v, rfl, s⟩ := optB_true s
  exact calc_cons_some (v := v) (.inl ⟨rfl, h, e1⟩) (hk v s (H.set d v))

theorem calc_pure0 {o : Option AV} {k : AV → Bool} (H : Has ρ l) (e : pureL l h op = some o) (s : optB o k = true) (hk : ∀ v, k v = true → Has ρ l → calcK ops ρ h Kr = true) : calcK (⟨none, op, none⟩ :: ops) ρ h Kr = true := by
  obtain ⟨e1, e2⟩ := pureL_has H e
  obtain ⟨v, rfl, s⟩ := optB_true s
  exact calc_cons_some (v := v) (.inl ⟨rfl, h, e1⟩) (hk v s H)

theorem gcalc_pure {o : Option AV} {k : AV → Bool} (H : Has ρ l) (hg : l.get j = some g) (e : pureL l h op = some o) (s : optB (grdO (wantV g b) o) k = true) (hk : ∀ v, k v = true → Has (ρ.set d v) ((d, v) :: l) → calcK ops (ρ.set d v) h Kr = true) : calcK (⟨some d, op, some (j, b)⟩ :: ops) ρ h Kr = true := by
  obtain ⟨e1, e2⟩ := pureL_has H e
  cases hw : wantV g b with
  | true =>
    simp only [hw, grdO, cond_true] at s
    obtain ⟨v, rfl, s⟩ := optB_true s
    exact calc_cons_some (v := v) (.inl ⟨by simp only [wanted_has H hg, hw], h, e1⟩) (hk v s (H.set d v))
  | false =>
    simp only [hw, grdO, cond_false] at s
    exact calc_cons_some (v := .tup []) (.inr ⟨by simp only [wanted_has H hg, hw], rfl⟩) (hk _ s (H.set d _))

theorem gcalc_pure0 {o : Option AV} {k : AV → Bool} (H : Has ρ l) (hg : l.get j = some g) (e : pureL l h op = some o) (s : optB (grdO (wantV g b) o) k = true) (hk : ∀ v, k v = true → Has ρ l → calcK ops ρ h Kr = true) : calcK (⟨none, op, some (j, b)⟩ :: ops) ρ h Kr = true := by
  obtain ⟨e1, e2⟩ := pureL_has H e
  cases hw : wantV g b with
  | true =>
    simp only [hw, grdO, cond_true] at s
    obtain ⟨v, rfl, s⟩ := optB_true s
    exact calc_cons_some (v := v) (.inl ⟨by simp only [wanted_has H hg, hw], h, e1⟩) (hk v s H)
  | false =>
    simp only [hw, grdO, cond_false] at s
    exact calc_cons_some (v := .tup []) (.inr ⟨by simp only [wanted_has H hg, hw], rfl⟩) (hk _ s H)

def againB (ρ : Regs) (h : AHeap) (chk : List AOper) (r : Bool) : Bool := bif again ρ h chk then r else false

theorem again_nil {r : Bool} (s : r = true) : againB ρ h [] r = true := s

theorem again_one {o : AOper} {r : Bool} (e : againOne ρ h o = true) (s : againB ρ h ops r = true) : againB ρ h (o :: ops) r = true := by
  unfold againB at s ⊢
  simp only [again, e, cond_true]; exact s

theorem again_same {o : Option AV} {u : AV} {r q : Bool} (H : Has ρ l) (e : pureL l h op = some o) (eu : l.get d = some u) (s : sameB o u q = true) (k : q = true → againB ρ h ops r = true) : againB ρ h (⟨some d, op, none⟩ :: ops) r = true := by
  obtain ⟨e1, e2⟩ := pureL_has H e
  cases o with
  | none => cases s
  | some v =>
    simp only [sameB] at s
    cases hs : AV.same v u with
    | false => rw [hs] at s; cases s
    | true =>
      rw [hs] at s
      refine again_one ?_ (k s)
      simp only [againOne, wantedA, e1, pureV, H d u eu, hs]

theorem gagain_same {o : Option AV} {u : AV} {r q : Bool} (H : Has ρ l) (hg : l.get j = some g) (e : pureL l h op = some o) (eu : l.get d = some u) (s : sameG (wantV g b) o u q = true) (k : q = true → againB ρ h ops r = true) : againB ρ h (⟨some d, op, some (j, b)⟩ :: ops) r = true := by
  obtain ⟨e1, e2⟩ := pureL_has H e
  cases hw : wantV g b with
  | false =>
    simp only [hw, sameG, cond_false] at s
    refine again_one ?_ (k s)
    simp only [againOne, wanted_has H hg, hw]
  | true =>
    simp only [hw, sameG, cond_true] at s
    cases o with
    | none => cases s
    | some v =>
      simp only [sameB] at s
      cases hs : AV.same v u with
      | false => rw [hs] at s; cases s
      | true =>
        rw [hs] at s
        refine again_one ?_ (k s)
        simp only [againOne, wanted_has H hg, hw, e1, pureV, H d u eu, hs]

/-! ### Code -/
variable {n : Nat} {KS : KEx} {σ : St}

theorem c_reg {ops : List AOper} (s : runR call ops σ (KS .normal) = true) : runC call n (.reg ops) σ KS = true := s
theorem r_nil (s : KS .normal σ = true) : runR call [] σ (KS .normal) = true := s
theorem r_cons {o : AOper} {K : St → Bool} (s : stepA call o σ (fun _ σ' => runR call ops σ' K) = true) : runR call (o :: ops) σ K = true := s
theorem c_dreg {n0 : List AOper} {rest : List (AOper × List AOper × List AOper)} (s : calcK n0 ρ h (fun ρ' => runD call rest ⟨ρ', h⟩ (KS .normal)) = true) : runC call n (.dreg n0 rest) ⟨ρ, h⟩ KS = true := s
theorem d_nil (s : KS .normal σ = true) : runD call [] σ (KS .normal) = true := s
def dK (call : CallFn) (chk ns : List AOper) (rest : List (AOper × List AOper × List AOper)) (K : St → Bool) : KSt := fun _ σ =>
  match σ with
  | ⟨ρ, h⟩ => againB ρ h chk (calcK ns ρ h fun ρ => runD call rest ⟨ρ, h⟩ K)

theorem d_cons {act : AOper} {chk ns : List AOper} {rest : List (AOper × List AOper × List AOper)} {K : St → Bool} (s : stepA call act σ (dK call chk ns rest K) = true) : runD call ((act, chk, ns) :: rest) σ K = true := by
  have e : dK call chk ns rest K = fun _ σ' => againB σ'.regs σ'.h chk (calcK ns σ'.regs σ'.h fun ρ => runD call rest ⟨ρ, σ'.h⟩ K) := rfl
  rw [e] at s
  simpa only [runD, againB, calcK] using s

theorem dk {chk ns : List AOper} {rest : List (AOper × List AOper × List AOper)} {K : St → Bool} {v : AV} (s : againB ρ h chk (calcK ns ρ h fun ρ => runD call rest ⟨ρ, h⟩ K) = true) : dK call chk ns rest K v ⟨ρ, h⟩ = true := s

def seqK (call : CallFn) (n : Nat) (b : ACode) (K : KEx) : KEx := fun x σ' =>
  match x with
  | .normal => runC call n b σ' K
  | x => K x σ'
def blockK (id : Nat) (K : KEx) : KEx := fun x σ' =>
  match x with
  | .exit i => bif Nat.beq i id then K .normal σ' else K (.exit i) σ'
  | x => K x σ'
def loopK (call : CallFn) (n : Nat) (c : ACode) (K : KEx) (m : Nat) : KEx := fun x σ' =>
  match x with
  | .normal => iter (runC call n c) K m σ'
  | x => K x σ'
def jumpK (call : CallFn) (n : Nat) (l : Nat) (r : ACode) (K : KEx) (m : Nat) : KEx := fun x σ' =>
  match x with
  | .goto l' => bif Nat.beq l' l then iterG l (runC call n r) K m σ' else false
  | x => K x σ'
def finK (res : List (Nat × Option (Bool × Nat))) (K : Kont) : KEx := fun x σ =>
  match x with
  | .normal => (match resultsA σ.regs σ.h res with
    | some l => K (oneOf l) σ.h
    | none => false)
  | .ret => (match resultsA σ.regs σ.h res with
    | some l => K (oneOf l) σ.h
    | none => false)
  | _ => false

theorem c_seq {x y : ACode} (s : runC call n x σ (seqK call n y KS) = true) : runC call n (.seq x y) σ KS = true := by
  have e : seqK call n y KS = (fun x σ' => match x with | .normal => runC call n y σ' KS | x => KS x σ') := by
    funext x σ'; cases x <;> rfl
  rw [e] at s; exact s
theorem c_cond {c : Opd} {x y : ACode} {v : AV} {p q : Bool} (H : Has ρ l) (e : evL l c = some v) (s : condB v p q = true) (kx : p = true → runC call n x ⟨ρ, h⟩ KS = true) (ky : q = true → runC call n y ⟨ρ, h⟩ KS = true) : runC call n (.cond c x y) ⟨ρ, h⟩ KS = true := by
  simp only [runC, ev_has H e]
  unfold condB at s
  cases v <;> first | (cases s; done) | skip
  rename_i t
  cases t
  · exact ky s
  · exact kx s
theorem c_block {id : Nat} {x : ACode} (s : runC call n x σ (blockK id KS) = true) : runC call n (.block id x) σ KS = true := by
  have e : blockK id KS = (fun x σ' => match x with | .exit i => bif Nat.beq i id then KS .normal σ' else KS (.exit i) σ' | x => KS x σ') := by
    funext x σ'; cases x <;> rfl
  rw [e] at s; exact s
theorem c_loop {x : ACode} (s : iter (runC call n x) KS n σ = true) : runC call n (.loop x) σ KS = true := s
theorem c_round {x : ACode} {m : Nat} (s : runC call n x σ (loopK call n x KS m) = true) : iter (runC call n x) KS (m + 1) σ = true := by
  have e : loopK call n x KS m = (fun y σ' => match y with | .normal => iter (runC call n x) KS m σ' | y => KS y σ') := by
    funext y σ'; cases y <;> rfl
  rw [e] at s; exact s
theorem c_scope {x r : ACode} {l : Nat} (s : runC call n x σ (jumpK call n l r KS n) = true) : runC call n (.scope x l r) σ KS = true := by
  have e : jumpK call n l r KS n = (fun x σ' => match x with | .goto l' => bif Nat.beq l' l then iterG l (runC call n r) KS n σ' else false | x => KS x σ') := by
    funext x σ'; cases x <;> rfl
  rw [e] at s; exact s
theorem c_jump {r : ACode} {l m : Nat} (s : runC call n r σ (jumpK call n l r KS m) = true) : iterG l (runC call n r) KS (m + 1) σ = true := by
  have e : jumpK call n l r KS m = (fun x σ' => match x with | .goto l' => bif Nat.beq l' l then iterG l (runC call n r) KS m σ' else false | x => KS x σ') := by
    funext x σ'; cases x <;> rfl
  rw [e] at s; exact s
theorem c_skip (s : KS .normal σ = true) : runC call n .skip σ KS = true := s
theorem c_exit {id : Nat} (s : KS (.exit id) σ = true) : runC call n (.exit id) σ KS = true := s
theorem c_label {l : Nat} (s : KS .normal σ = true) : runC call n (.label l) σ KS = true := s
theorem c_goto {l : Nat} (s : KS (.goto l) σ = true) : runC call n (.goto l) σ KS = true := s
theorem c_ret (s : KS .ret σ = true) : runC call n .ret σ KS = true := s
theorem c_keep {ks : List Nat} {x : ACode} {m : LEnv} (H : Has ρ l) (e : keepL ks l = some m) (s : Has (mkR m) m → runC call n x ⟨mkR m, h⟩ KS = true) : runC call n (.keep ks x) ⟨ρ, h⟩ KS = true := by
  simp only [runC, keepR_eq H e]; exact s Has.mk

theorem k_seq {y : ACode} (s : runC call n y σ KS = true) : seqK call n y KS .normal σ = true := s
theorem k_seq_ret {y : ACode} (s : KS .ret σ = true) : seqK call n y KS .ret σ = true := s
theorem k_seq_exit {y : ACode} {i : Nat} (s : KS (.exit i) σ = true) : seqK call n y KS (.exit i) σ = true := s
theorem k_seq_goto {y : ACode} {i : Nat} (s : KS (.goto i) σ = true) : seqK call n y KS (.goto i) σ = true := s
theorem k_block {id : Nat} (s : KS .normal σ = true) : blockK id KS .normal σ = true := s
theorem k_block_ret {id : Nat} (s : KS .ret σ = true) : blockK id KS .ret σ = true := s
theorem k_block_goto {id i : Nat} (s : KS (.goto i) σ = true) : blockK id KS (.goto i) σ = true := s
theorem k_block_eq {id : Nat} (s : KS .normal σ = true) : blockK id KS (.exit id) σ = true := by
  simp only [blockK, Nat.beq_refl, cond_true]; exact s
theorem k_block_ne {id i : Nat} (e : Nat.beq i id = false) (s : KS (.exit i) σ = true) : blockK id KS (.exit i) σ = true := by
  simp only [blockK, e, cond_false]; exact s
theorem k_loop {c : ACode} {m : Nat} (s : iter (runC call n c) KS m σ = true) : loopK call n c KS m .normal σ = true := s
theorem k_loop_ret {c : ACode} {m : Nat} (s : KS .ret σ = true) : loopK call n c KS m .ret σ = true := s
theorem k_loop_exit {c : ACode} {m i : Nat} (s : KS (.exit i) σ = true) : loopK call n c KS m (.exit i) σ = true := s
theorem k_loop_goto {c : ACode} {m i : Nat} (s : KS (.goto i) σ = true) : loopK call n c KS m (.goto i) σ = true := s
theorem k_jump {r : ACode} {l m : Nat} (s : KS .normal σ = true) : jumpK call n l r KS m .normal σ = true := s
theorem k_jump_ret {r : ACode} {l m : Nat} (s : KS .ret σ = true) : jumpK call n l r KS m .ret σ = true := s
theorem k_jump_exit {r : ACode} {l m i : Nat} (s : KS (.exit i) σ = true) : jumpK call n l r KS m (.exit i) σ = true := s
theorem k_jump_eq {r : ACode} {l m : Nat} (s : iterG l (runC call n r) KS m σ = true) : jumpK call n l r KS m (.goto l) σ = true := by
  simp only [jumpK, Nat.beq_refl, cond_true]; exact s

/-! ### Results -/
def resL (l : LEnv) : List (Nat × Option (Bool × Nat)) → Option (List (AV × Option (Bool × Nat)))
  | [] => some []
  | (t, x) :: r => match l.get t with
    | some v => match resL l r with
      | some vs => some ((v, x) :: vs)
      | none => none
    | none => none

def resV (h : AHeap) : List (AV × Option (Bool × Nat)) → Option (List AV)
  | [] => some []
  | (v, none) :: r => match resV h r with
    | some vs => some (v :: vs)
    | none => none
  | (a, some (ag, n)) :: r => match loadA h ag n a with
    | some v => match resV h r with
      | some vs => some (v :: vs)
      | none => none
    | none => none

def optR (o : Option (List AV)) (h : AHeap) (K : Kont) : Bool :=
  match o with
  | some l => K (oneOf l) h
  | none => false

theorem results_has (H : Has ρ l) : ∀ {res : List (Nat × Option (Bool × Nat))} {m : List (AV × Option (Bool × Nat))}, resL l res = some m → resultsA ρ h res = resV h m
  | [], m, e => by simp only [resL] at e; cases e; rfl
  | (t, x) :: r, m, e => by
    simp only [resL] at e
    split at e
    · rename_i v hv
      split at e
      · rename_i vs hvs
        cases e
        simp only [resultsA]
        rw [results_has H hvs]
        cases x with
        | none => simp only [resultA, H t v hv, resV]; rfl
        | some p =>
          obtain ⟨ag, k⟩ := p
          simp only [resultA, H t v hv, resV]
          rfl
      · cases e
    · cases e

theorem fin_ret {res : List (Nat × Option (Bool × Nat))} {m : List (AV × Option (Bool × Nat))} {K K' : Kont} (H : Has ρ l) (e : resL l res = some m) (hK : ∀ v h', K v h' = true → K' v h' = true) (s : optR (resV h m) h K = true) : finK res K' .ret ⟨ρ, h⟩ = true := by
  simp only [finK, results_has H e]
  cases hr : resV h m with
  | none => rw [hr] at s; cases s
  | some vs => rw [hr] at s; exact hK _ _ s

theorem fin_normal {res : List (Nat × Option (Bool × Nat))} {m : List (AV × Option (Bool × Nat))} {K K' : Kont} (H : Has ρ l) (e : resL l res = some m) (hK : ∀ v h', K v h' = true → K' v h' = true) (s : optR (resV h m) h K = true) : finK res K' .normal ⟨ρ, h⟩ = true := by
  simp only [finK, results_has H e]
  cases hr : resV h m with
  | none => rw [hr] at s; cases s
  | some vs => rw [hr] at s; exact hK _ _ s

/-! ### Ranging over a function -/
def rfS (call : CallFn) (f : AV) (regs : Regs) (ps : List Nat) (asg body : ACode) (h : AHeap) (Kx : AExit → AHeap → Bool) : Bool :=
  match f with
  | .fn (.func fid) first cap =>
    call (.func fid) (first ++ [.fn (.yield h.sz) [] []] ++ cap) (h.push (.loop { regs, ps, asg, body, st := .ready })) fun _ h' =>
      match h'.get h.sz with
      | some (.loop l) => match l.st with
        | .ready => Kx .normal (h'.put h.sz (.loop { l with st := .exh }))
        | .done x => Kx x (h'.put h.sz (.loop { l with st := .exh }))
        | _ => false
      | _ => false
  | _ => false

theorem c_rf {f : Opd} {ps : List Nat} {asg body : ACode} {v : AV} {Kx : AExit → AHeap → Bool} (hc : Le call call') (H : Has (mkR l) l) (e : evL l f = some v) (s : rfS call v (mkR l) ps asg body h Kx = true) (hk : ∀ x h', Kx x h' = true → KS x ⟨mkR l, h'⟩ = true) :
    runC call' n (.rf f ps asg body) ⟨mkR l, h⟩ KS = true := by
  simp only [runC, ev_has H e]
  unfold rfS at s
  split at s
  · rename_i fid first cap
    refine hc _ _ _ _ _ s ?_
    intro u h' hu
    split at hu
    · rename_i lo hlo
      simp only [hlo]
      split at hu
      · rename_i hst; simp only [hst]; exact hk _ _ hu
      · rename_i x hst; simp only [hst]; exact hk _ _ hu
      · cases hu
    · cases hu
  · cases s

/-! ### Calls -/
abbrev Tab := Nat → CallFn → Nat → List AV → AHeap → Kont → Bool

def yieldS (call : CallFn) (n id : Nat) (args : List AV) (h : AHeap) (K : Kont) : Bool :=
  match h.get id with
  | some (.loop l) => match l.st with
    | .ready => match setPs l.ps args l.regs with
      | some ρ => runC call n l.asg ⟨ρ, h⟩ fun x σ => match x with
        | .normal => (match σ.h.get id with
          | some (.loop l1) => match l1.st with
            | .ready => runC call n l.body ⟨σ.regs, σ.h.put id (.loop { l1 with st := .busy })⟩ fun x σ2 =>
              match σ2.h.get id with
              | some (.loop l2) => match x with
                | .normal => K (.bool true) (σ2.h.put id (.loop { l2 with st := .ready }))
                | x => K (.bool false) (σ2.h.put id (.loop { l2 with st := .done x }))
              | _ => false
            | _ => false
          | _ => false)
        | _ => false
      | none => false
    | _ => false
  | _ => false

def callS (tab : Tab) : Nat → CallFn
  | 0 => fun _ _ _ _ => false
  | n + 1 => fun tgt args h K =>
    match tgt with
    | .func f => tab f (callS tab n) n args h K
    | .yield id => yieldS (callS tab n) n id args h K
end

/-! ### What is well of less is well of more -/
section
variable {call call' : CallFn}

theorem Le.refl_of (h : ∀ t a h (K K' : Kont), call t a h K = true → (∀ v h', K v h' = true → K' v h' = true) → call t a h K' = true) : Le call call := h

theorem evalK_le (hc : Le call call') {ρ : Regs} {h : AHeap} {op : AOp} {k k' : Kont} (s : evalK call ρ h op k = true) (hk : ∀ v h', k v h' = true → k' v h' = true) : evalK call' ρ h op k' = true := by
  cases hi : isCall op with
  | false =>
    rw [evalK_plain hi] at s ⊢
    split at s
    · rename_i v h' e; exact hk _ _ s
    · cases s
  | true =>
    cases op <;> first | (cases hi; done) | skip
    · simp only [evalK] at s ⊢
      split at s
      · exact nextA_le s hk
      · cases s
    · simp only [evalK] at s ⊢
      split at s
      · exact hc _ _ _ _ _ s hk
      · cases s

theorem stepA_le (hc : Le call call') {o : AOper} {σ : St} {k k' : KSt} (s : stepA call o σ k = true) (hk : ∀ v σ', k v σ' = true → k' v σ' = true) : stepA call' o σ k' = true := by
  unfold stepA at s ⊢
  split at s
  · exact evalK_le hc s fun v h' hv => hk _ _ hv
  · exact hk _ _ s
  · cases s

theorem runR_le (hc : Le call call') : ∀ {ops : List AOper} {σ : St} {k k' : St → Bool}, runR call ops σ k = true → (∀ σ', k σ' = true → k' σ' = true) → runR call' ops σ k' = true
  | [], σ, k, k', s, hk => hk _ s
  | o :: ops, σ, k, k', s, hk => stepA_le hc s fun v σ' hv => runR_le hc hv hk

theorem runD_le (hc : Le call call') : ∀ {ops : List (AOper × List AOper × List AOper)} {σ : St} {k k' : St → Bool}, runD call ops σ k = true → (∀ σ', k σ' = true → k' σ' = true) → runD call' ops σ k' = true
  | [], σ, k, k', s, hk => hk _ s
  | (act, chk, ns) :: ops, σ, k, k', s, hk => by
    simp only [runD] at s ⊢
    refine stepA_le hc s fun v σ' hv => ?_
    cases ha : again σ'.regs σ'.h chk with
    | false => rw [ha] at hv; cases hv
    | true =>
      rw [ha] at hv
      simp only [cond_true] at hv ⊢
      split at hv
      · exact runD_le hc hv hk
      · cases hv

theorem iter_le {f f' : St → KEx → Bool} {K K' : KEx} (hf : ∀ σ (k k' : KEx), f σ k = true → (∀ x σ', k x σ' = true → k' x σ' = true) → f' σ k' = true) (hK : ∀ x σ', K x σ' = true → K' x σ' = true) : ∀ (n : Nat) (σ : St), iter f K n σ = true → iter f' K' n σ = true
  | 0, σ, s => by cases s
  | n + 1, σ, s => by
    simp only [iter] at s ⊢
    refine hf _ _ _ s fun x σ' hx => ?_
    cases x with
    | normal => exact iter_le hf hK n σ' hx
    | _ => exact hK _ _ hx

theorem iterG_le {l : Nat} {f f' : St → KEx → Bool} {K K' : KEx} (hf : ∀ σ (k k' : KEx), f σ k = true → (∀ x σ', k x σ' = true → k' x σ' = true) → f' σ k' = true) (hK : ∀ x σ', K x σ' = true → K' x σ' = true) : ∀ (n : Nat) (σ : St), iterG l f K n σ = true → iterG l f' K' n σ = true
  | 0, σ, s => by cases s
  | n + 1, σ, s => by
    simp only [iterG] at s ⊢
    refine hf _ _ _ s fun x σ' hx => ?_
    cases x with
    | goto l' =>
      simp only at hx ⊢
      cases hb : Nat.beq l' l with
      | false => rw [hb] at hx; cases hx
      | true => rw [hb] at hx; exact iterG_le hf hK n σ' hx
    | _ => exact hK _ _ hx

theorem runC_le (hc : Le call call') {n : Nat} : ∀ {c : ACode} {σ : St} {K K' : KEx}, runC call n c σ K = true → (∀ x σ', K x σ' = true → K' x σ' = true) → runC call' n c σ K' = true := by
  intro c
  induction c with
  | skip => intro σ K K' s hk; exact hk _ _ s
  | reg ops => intro σ K K' s hk; exact runR_le hc s fun σ' => hk _ _
  | dreg n0 rest =>
    intro σ K K' s hk
    simp only [runC] at s ⊢
    split at s
    · exact runD_le hc s fun σ' => hk _ _
    · cases s
  | seq a b iha ihb =>
    intro σ K K' s hk
    simp only [runC] at s ⊢
    refine iha s fun x σ' hx => ?_
    cases x with
    | normal => exact ihb hx hk
    | _ => exact hk _ _ hx
  | cond o a b iha ihb =>
    intro σ K K' s hk
    simp only [runC] at s ⊢
    split at s
    · exact iha s hk
    · exact ihb s hk
    · cases s
  | block id a ih =>
    intro σ K K' s hk
    simp only [runC] at s ⊢
    refine ih s fun x σ' hx => ?_
    cases x with
    | exit i =>
      simp only at hx ⊢
      cases hb : Nat.beq i id with
      | true => rw [hb] at hx; exact hk _ _ hx
      | false => rw [hb] at hx; exact hk _ _ hx
    | _ => exact hk _ _ hx
  | loop a ih =>
    intro σ K K' s hk
    exact iter_le (f := runC call n a) (f' := runC call' n a) (fun σ k k' s' hk' => ih s' hk') hk n σ s
  | rf f ps asg body iha ihb =>
    intro σ K K' s hk
    simp only [runC] at s ⊢
    split at s
    · refine hc _ _ _ _ _ s fun v h' hv => ?_
      split at hv
      · rename_i lo hlo
        (try simp only [hlo])
        split at hv
        · rename_i hst; (try simp only [hst]); exact hk _ _ hv
        · rename_i x hst; (try simp only [hst]); exact hk _ _ hv
        · cases hv
      · cases hv
    · cases s
  | exit id => intro σ K K' s hk; exact hk _ _ s
  | scope a l r iha ihr =>
    intro σ K K' s hk
    simp only [runC] at s ⊢
    refine iha s fun x σ' hx => ?_
    cases x with
    | goto l' =>
      simp only at hx ⊢
      cases hb : Nat.beq l' l with
      | false => rw [hb] at hx; cases hx
      | true => rw [hb] at hx; exact iterG_le (f := runC call n r) (f' := runC call' n r) (fun σ k k' s' hk' => ihr s' hk') hk n σ' hx
    | _ => exact hk _ _ hx
  | label l => intro σ K K' s hk; exact hk _ _ s
  | goto l => intro σ K K' s hk; exact hk _ _ s
  | ret => intro σ K K' s hk; exact hk _ _ s
  | refuse => intro σ K K' s hk; cases s
  | keep ks a ih => intro σ K K' s hk; exact ih s hk

theorem yieldS_le (hc : Le call call') {n id : Nat} {args : List AV} {h : AHeap} {K K' : Kont} (s : yieldS call n id args h K = true) (hK : ∀ v h', K v h' = true → K' v h' = true) : yieldS call' n id args h K' = true := by
  unfold yieldS at s ⊢
  split at s
  rotate_left
  · cases s
  rename_i l hl
  (try simp only [hl])
  split at s
  rotate_left
  · cases s
  rename_i hst
  (try simp only [hst])
  split at s
  rotate_left
  · cases s
  rename_i ρ hρ
  (try simp only [hρ])
  refine runC_le hc s fun x σ hx => ?_
  cases x <;> first | (cases hx; done) | skip
  simp only at hx ⊢
  split at hx
  rotate_left
  · cases hx
  rename_i l1 hl1
  (try simp only [hl1])
  split at hx
  rotate_left
  · cases hx
  rename_i hst1
  (try simp only [hst1])
  refine runC_le hc hx fun x σ2 hx2 => ?_
  split at hx2
  rotate_left
  · cases hx2
  rename_i l2 hl2
  (try simp only [hl2])
  cases x <;> exact hK _ _ hx2

/-- What is said of the functions that are not walked does not hang on more than on what their calls say. -/
def PrimLe (E : Env) : Prop := ∀ f p, E.prim f = some p → ∀ (call call' : CallFn) n args h (K K' : Kont), Le call call' → (∀ v h', K v h' = true → K' v h' = true) → p call n args h K = true → p call' n args h K' = true

theorem PrimLe.none {E : Env} (hp : ∀ f, E.prim f = none) : PrimLe E := fun f p h => by rw [hp f] at h; cases h

theorem callN_le {E : Env} (hp : PrimLe E) : ∀ n, Le (callN E n) (callN E n)
  | 0 => fun _ _ _ _ _ s _ => by cases s
  | n + 1 => by
    intro t a h K K' s hK
    have ih := callN_le hp n
    cases t with
    | yield id => exact yieldS_le ih s hK
    | func f =>
      simp only [callN] at s ⊢
      cases hpf : E.prim f with
      | some p =>
        simp only [hpf] at s ⊢
        exact hp f p hpf _ _ n a h K K' ih hK s
      | none =>
      simp only [hpf] at s ⊢
      split at s
      · cases s
      · rename_i fn hf
        (try simp only [hf])
        cases hb : Nat.beq a.length fn.np with
        | false => rw [hb] at s; cases s
        | true =>
          rw [hb] at s
          simp only [cond_true] at s ⊢
          refine runC_le ih s fun x σ hx => ?_
          cases x <;> first | (cases hx; done) | skip
          all_goals
            simp only at hx ⊢
            split at hx
            · rename_i vs hvs
              (try simp only [hvs])
              exact hK _ _ hx
            · cases hx

/-- A table of shallow functions says no more than the environment's code. -/
def TabOK (tab : Tab) (E : Env) : Prop := ∀ f (call call' : CallFn) n args h (K K' : Kont), Le call call' → (∀ v h', K v h' = true → K' v h' = true) → tab f call n args h K = true →
  ∃ fn, E.code f = some fn ∧ args.length = fn.np ∧ runC call' n fn.body ⟨initR 0 args .lf, h⟩ (finK fn.res K') = true

theorem callS_le {tab : Tab} {E : Env} (hp : ∀ f, E.prim f = none) (ht : TabOK tab E) : ∀ n, Le (callS tab n) (callN E n)
  | 0 => fun _ _ _ _ _ s _ => by cases s
  | n + 1 => by
    intro t a h K K' s hK
    have ih := callS_le hp ht n
    cases t with
    | yield id => exact yieldS_le ih s hK
    | func f =>
      obtain ⟨fn, h1, h2, h3⟩ := ht f _ _ n a h K K' ih hK s
      simp only [callN, hp, h1, h2, Nat.beq_refl, cond_true]
      have e : finK fn.res K' = (fun x σ => match x with
              | .normal => (match resultsA σ.regs σ.h fn.res with
                | some l => K' (oneOf l) σ.h
                | none => false)
              | .ret => (match resultsA σ.regs σ.h fn.res with
                | some l => K' (oneOf l) σ.h
                | none => false)
              | _ => false) := by
        funext x σ; cases x <;> rfl
      rw [e] at h3
      exact h3

end

/-! ### Rounds of a loop over a function -/
section
variable {call call' : CallFn} {n id : Nat} {h : AHeap} {σ : St} {K K' : Kont}

def endY (id : Nat) (K : Kont) (x : AExit) (h : AHeap) : Bool :=
  match h.get id with
  | some (.loop l2) => match x with
    | .normal => K (.bool true) (h.put id (.loop { l2 with st := .ready }))
    | x => K (.bool false) (h.put id (.loop { l2 with st := .done x }))
  | _ => false

def busyB (id : Nat) (h : AHeap) (k : AHeap → Bool) : Bool :=
  match h.get id with
  | some (.loop l1) => match l1.st with
    | .ready => k (h.put id (.loop { l1 with st := .busy }))
    | _ => false
  | _ => false

def bodyK (id : Nat) (K : Kont) : KEx := fun x σ2 => endY id K x σ2.h
def asgK (call : CallFn) (n id : Nat) (body : ACode) (K : Kont) : KEx := fun x σ =>
  match x with
  | .normal => busyB id σ.h fun h => runC call n body ⟨σ.regs, h⟩ (bodyK id K)
  | _ => false

theorem endY_le (hK : ∀ v h', K v h' = true → K' v h' = true) {x : AExit} (s : endY id K x h = true) : endY id K' x h = true := by
  unfold endY at s ⊢
  split at s
  · cases x <;> exact hK _ _ s
  · cases s

theorem k_body (hK : ∀ v h', K v h' = true → K' v h' = true) {x : AExit} (s : endY id K x σ.h = true) : bodyK id K' x σ = true := endY_le hK s

theorem k_asg {body : ACode} {ρ : Regs} {k : AHeap → Bool} (s : busyB id h k = true) (hk : ∀ h', k h' = true → runC call n body ⟨ρ, h'⟩ (bodyK id K) = true) : asgK call n id body K .normal ⟨ρ, h⟩ = true := by
  show busyB id h (fun h => runC call n body ⟨ρ, h⟩ (bodyK id K)) = true
  unfold busyB at s ⊢
  split at s
  · split at s
    · exact hk _ s
    · cases s
  · cases s

theorem yieldS_of {regs ρ : Regs} {ps : List Nat} {args : List AV} {asg body : ACode} (hg : h.get id = some (.loop { regs, ps, asg, body, st := .ready })) (hp : setPs ps args regs = some ρ) (s : runC call n asg ⟨ρ, h⟩ (asgK call n id body K) = true) : yieldS call n id args h K = true := by
  unfold yieldS
  simp only [hg, hp]
  have e : asgK call n id body K = (fun x σ => match x with
        | .normal => (match σ.h.get id with
          | some (.loop l1) => match l1.st with
            | .ready => runC call n body ⟨σ.regs, σ.h.put id (.loop { l1 with st := .busy })⟩ fun x σ2 =>
              match σ2.h.get id with
              | some (.loop l2) => match x with
                | .normal => K (.bool true) (σ2.h.put id (.loop { l2 with st := .ready }))
                | x => K (.bool false) (σ2.h.put id (.loop { l2 with st := .done x }))
              | _ => false
            | _ => false
          | _ => false)
        | _ => false) := by
    funext x σ
    cases x <;> rfl
  rw [e] at s
  exact s

theorem exit_case {i j : Nat} {p q : Bool} (s : (bif Nat.beq i j then p else q) = true) : (i = j ∧ p = true) ∨ q = true := by
  cases hb : Nat.beq i j with
  | true => rw [hb] at s; exact .inl ⟨Nat.eq_of_beq_eq_true hb, s⟩
  | false => rw [hb] at s; exact .inr s
end

/-! ### Tables -/
abbrev Sh := CallFn → Nat → List AV → AHeap → Kont → Bool
def brT (k : Nat) (a b : Tab) : Tab := fun f => bif Nat.blt f k then a f else b f
def lfT (k : Nat) (s : Sh) : Tab := fun f call n args h K => bif Nat.beq f k then s call n args h K else false

def ShOK (E : Env) (k : Nat) (s : Sh) : Prop := ∀ (call call' : CallFn) n args h (K K' : Kont), Le call call' → (∀ v h', K v h' = true → K' v h' = true) → s call n args h K = true →
  ∃ fn, E.code k = some fn ∧ args.length = fn.np ∧ runC call' n fn.body ⟨initR 0 args .lf, h⟩ (finK fn.res K') = true

theorem brT_ok {E : Env} {k : Nat} {a b : Tab} (ha : TabOK a E) (hb : TabOK b E) : TabOK (brT k a b) E := by
  intro f call call' n args h K K' hc hK s
  unfold brT at s
  cases hf : Nat.blt f k with
  | true => rw [hf] at s; exact ha f call call' n args h K K' hc hK s
  | false => rw [hf] at s; exact hb f call call' n args h K K' hc hK s

theorem lfT_ok {E : Env} {k : Nat} {s : Sh} (hs : ShOK E k s) : TabOK (lfT k s) E := by
  intro f call call' n args h K K' hc hK e
  unfold lfT at e
  cases hf : Nat.beq f k with
  | true =>
    rw [hf] at e
    rw [Nat.eq_of_beq_eq_true hf]
    exact hs call call' n args h K K' hc hK e
  | false => rw [hf] at e; cases e

/-- A call is well if the shallow function is. -/
theorem down {E : Env} (hp : PrimLe E) {k : Nat} (hk : E.prim k = none) {s : Sh} (hs : ShOK E k s) {n : Nat} {args : List AV} {h : AHeap} {K : Kont} (e : s (callN E n) n args h K = true) : callN E (n + 1) (.func k) args h K = true := by
  obtain ⟨fn, h1, h2, h3⟩ := hs (callN E n) (callN E n) n args h K K (callN_le hp n) (fun _ _ h => h) e
  simp only [callN, hk, h1, h2, Nat.beq_refl, cond_true]
  have e : finK fn.res K = (fun x σ => match x with
          | .normal => (match resultsA σ.regs σ.h fn.res with
            | some l => K (oneOf l) σ.h
            | none => false)
          | .ret => (match resultsA σ.regs σ.h fn.res with
            | some l => K (oneOf l) σ.h
            | none => false)
          | _ => false) := by
    funext x σ; cases x <;> rfl
  rw [e] at h3
  exact h3

/-- A round is well if the shallow round is. -/
theorem down_yield {E : Env} {n id : Nat} {regs ρ : Regs} {ps : List Nat} {args : List AV} {asg body : ACode} {h : AHeap} {K : Kont} (hg : h.get id = some (.loop { regs, ps, asg, body, st := .ready })) (hp : setPs ps args regs = some ρ)
    (s : runC (callN E n) n asg ⟨ρ, h⟩ (asgK (callN E n) n id body K) = true) : callN E (n + 1) (.yield id) args h K = true := by
  have e : callN E (n + 1) (.yield id) args h K = yieldS (callN E n) n id args h K := rfl
  rw [e]
  exact yieldS_of hg hp s

end Go.Ab
