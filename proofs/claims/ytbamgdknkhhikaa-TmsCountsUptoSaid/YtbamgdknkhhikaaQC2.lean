/-
  Texts that the claim hangs on, part 3.
-/
import Derived.Test.YtbamgdknkhhikaaQC1
import Derived.ChangeOld
import Derived.ChangeSame
namespace Go.Ab
set_option linter.unusedSimpArgs false
set_option linter.unusedVariables false
def optB (o : Option AV) (k : AV → Bool) : Bool :=
  match o with
  | some v => k v
  | none => false
def optP (o : Option (AV × AHeap)) (k : Kont) : Bool :=
  match o with
  | some p => match p with | (v, h) => k v h
  | none => false
def condB (c : AV) (a b : Bool) : Bool :=
  match c with
  | .bool x => match x with | true => a | false => b
  | _ => false
def wantV (c : AV) (b : Bool) : Bool :=
  match c with
  | .bool x => x == b
  | _ => false
def grdO (w : Bool) (o : Option AV) : Option AV := bif w then o else some (.tup [])
def grdP (w : Bool) (o : Option (AV × AHeap)) (h : AHeap) : Option (AV × AHeap) := bif w then o else some (.tup [], h)
def grdC (w : Bool) (run : Kont → Bool) (h : AHeap) (K : Kont) : Bool := bif w then run K else K (.tup []) h
def callV (call : CallFn) (f : AV) (args : List AV) (h : AHeap) (K : Kont) : Bool :=
  match f with
  | .fn tgt first cap => call tgt (first ++ args ++ cap) h K
  | _ => false
def sameB (o : Option AV) (u : AV) (r : Bool) : Bool :=
  match o with
  | some v => bif AV.same v u then r else false
  | none => false
def pickV (c a b : AV) : Option AV :=
  match c with
  | .bool x => match x with | true => some a | false => some b
  | _ => none
def eqV (h : AHeap) (neg : Bool) (k : EqK) (a b : AV) : Option AV :=
  match eqA h k a b with
  | some r => some (.bool (bif neg then !r else r))
  | none => none
def fillV (cells : List AV) : List (Nat × Nat × AV) → Option (List AV)
  | [] => some cells
  | (off, n, v) :: rest => bif Nat.beq v.cells.length n && Nat.ble (off + n) cells.length && allLeaf v.cells then fillV (lay cells off v.cells) rest else none
def buildV (z : List AV) (ps : List (Nat × Nat × AV)) : Option AV :=
  match fillV z ps with
  | some l => some (.agg l)
  | none => none
def fillRowV (sz : Nat) (es : List (List AV)) : List (Nat × AV) → Option (List (List AV))
  | [] => some es
  | (i, v) :: rest => bif Nat.beq v.cells.length sz && Nat.blt i es.length && allLeaf v.cells then fillRowV sz (setNth es i v.cells) rest else none
def bsliceV (h : AHeap) (n sz : Nat) (z : List AV) (ps : List (Nat × AV)) : Option (AV × AHeap) :=
  bif Nat.beq z.length sz && Nat.blt 0 sz && Nat.ble (n * sz) 16777216 && allLeaf z then
    (match fillRowV sz (repl n z) ps with
    | some es => some (.slc h.sz 0 0 n n true, newRow h es sz)
    | none => none)
  else none
def natV (d : Nat) : Option AV → Option Nat
  | none => some d
  | some v => asNat v
def sliceV (h : AHeap) (sz : Nat) (x : AV) (lo hi mx : Option AV) : Option AV :=
  match x with
  | .slc id g s len cap ex =>
    bif rowSz h id sz then
    match mx with
    | some m => match natV 0 (some m), natV len hi, natV 0 lo with
      | some m, some h, some l => bif Nat.ble l h && Nat.ble h m && Nat.ble m cap && hi.isSome then some (.slc id g (s + l) (h - l) (m - l) true) else none
      | _, _, _ => none
    | none => match natV len hi, natV 0 lo with
      | some h, some l => bif Nat.ble l h && Nat.ble h cap then some (.slc id g (s + l) (h - l) (cap - l) ex) else none
      | _, _ => none
    else none
  | .nilSlc =>
    match natV 0 mx, natV 0 hi, natV 0 lo with
    | some 0, some 0, some 0 => bif mx.isNone || hi.isSome then some .nilSlc else none
    | _, _, _ => none
  | .emp =>
    match natV 0 mx, natV 0 hi, natV 0 lo with
    | some 0, some 0, some 0 => bif mx.isNone || hi.isSome then some .emp else none
    | _, _, _ => none
  | _ => none
def sliceSV (x : AV) (lo hi : Option AV) : Option AV :=
  match x with
  | .str s => match natV s.length hi, natV 0 lo with
    | some h, some l => bif Nat.ble l h && Nat.ble h s.length then some (.str ((s.take h).drop l)) else none
    | _, _ => none
  | _ => none
def allocV (h : AHeap) (z : List AV) : Option (AV × AHeap) := allocA h z
def allotV (h : AHeap) (t : Nat) (z : List AV) : Option (AV × AHeap) := bif Nat.blt 0 z.length && allLeaf z then some (.ptr h.sz 0 0 0, newRow h [z] z.length (some t)) else none
def appbA (h : AHeap) (e : Nat) (s x : AV) : Option (AV × AHeap) := appendA h 1 1 s x (some e)
def mmV (mx : Bool) : List AV → Option AV
  | v :: l => mmA mx v l
  | [] => none
def mkmapV (h : AHeap) : Option (AV × AHeap) := some (.map h.sz, h.push (.map [] 0))
abbrev LEnv := List (Nat × AV)
def LEnv.get : LEnv → Nat → Option AV
  | [], _ => none
  | (k, v) :: l, n => bif Nat.beq n k then some v else LEnv.get l n
def Has (ρ : Regs) (l : LEnv) : Prop := ∀ k v, l.get k = some v → ρ.get k = some v
theorem Has.nil {ρ : Regs} : Has ρ [] := fun _ _ h => by cases h
theorem Has.set {ρ : Regs} {l : LEnv} (H : Has ρ l) (d : Nat) (v : AV) : Has (ρ.set d v) ((d, v) :: l) := by
  intro k u h
  rw [PT.get_set]
  simp only [LEnv.get] at h
  cases hb : Nat.beq k d with
  | true =>
    rw [hb, cond_true] at h
    rw [if_pos (Nat.eq_of_beq_eq_true hb)]
    exact h
  | false =>
    rw [hb, cond_false] at h
    rw [if_neg (nbeq_false.1 hb)]
    exact H k u h
def keepL : List Nat → LEnv → Option LEnv
  | [], _ => some []
  | k :: ks, l => match l.get k with
    | some v => match keepL ks l with
      | some m => some ((k, v) :: m)
      | none => none
    | none => none
def mkR : LEnv → Regs
  | [] => .lf
  | (k, v) :: l => (mkR l).set k v
theorem Has.mk : ∀ {l : LEnv}, Has (mkR l) l
  | [] => Has.nil
  | (k, v) :: l => (Has.mk (l := l)).set k v
theorem keepL_get : ∀ {ks : List Nat} {l m : LEnv}, keepL ks l = some m → ∀ k v, m.get k = some v → l.get k = some v
  | [], l, m, h, k, v, e => by simp only [keepL] at h; cases h; cases e
  | k :: ks, l, m, h, j, v, e => by
    simp only [keepL] at h
    split at h
    · rename_i u hu
      split at h
      · rename_i m' hm
        cases h
        simp only [LEnv.get] at e
        cases hb : Nat.beq j k with
        | true => rw [hb, cond_true] at e; cases e; rw [Nat.eq_of_beq_eq_true hb]; exact hu
        | false => rw [hb, cond_false] at e; exact keepL_get hm j v e
      · cases h
    · cases h
theorem Has.keep {ρ : Regs} {l m : LEnv} (H : Has ρ l) (ks : List Nat) (h : keepL ks l = some m) : Has ρ m := fun k v e => H k v (keepL_get h k v e)
def evL (l : LEnv) : Opd → Option AV
  | .t r => l.get r
  | .c v => some v
def evsL (l : LEnv) : List Opd → Option (List AV)
  | [] => some []
  | x :: xs => match evL l x with
    | some v => match evsL l xs with
      | some vs => some (v :: vs)
      | none => none
    | none => none
def evoL (l : LEnv) : Option Opd → Option (Option AV)
  | none => some none
  | some x => match evL l x with
    | some v => some (some v)
    | none => none
def partsL (l : LEnv) : List (Nat × Nat × Opd) → Option (List (Nat × Nat × AV))
  | [] => some []
  | (a, b, x) :: xs => match evL l x with
    | some v => match partsL l xs with
      | some vs => some ((a, b, v) :: vs)
      | none => none
    | none => none
def slotsL (l : LEnv) : List (Nat × Opd) → Option (List (Nat × AV))
  | [] => some []
  | (a, x) :: xs => match evL l x with
    | some v => match slotsL l xs with
      | some vs => some ((a, v) :: vs)
      | none => none
    | none => none
theorem ev_has {ρ : Regs} {l : LEnv} (H : Has ρ l) {x : Opd} {v : AV} (h : evL l x = some v) : ev ρ x = some v := by
  cases x with
  | t r => exact H r v h
  | c u => exact h
theorem evs_has {ρ : Regs} {l : LEnv} (H : Has ρ l) : ∀ {xs : List Opd} {vs : List AV}, evsL l xs = some vs → evs ρ xs = some vs
  | [], vs, h => by simpa [evsL, evs] using h
  | x :: xs, vs, h => by
    simp only [evsL] at h
    split at h
    · rename_i v hv
      split at h
      · rename_i vs' hvs
        cases h
        simp only [evs, ev_has H hv, evs_has H hvs]
      · cases h
    · cases h
theorem evNat_has {ρ : Regs} {l : LEnv} (H : Has ρ l) {d : Nat} {x : Option Opd} {o : Option AV} (h : evoL l x = some o) : evNat ρ d x = natV d o ∧ x.isSome = o.isSome ∧ x.isNone = o.isNone ∧ (x = none ↔ o = none) := by
  cases x with
  | none => simp only [evoL] at h; cases h; exact ⟨rfl, rfl, rfl, by simp⟩
  | some x =>
    simp only [evoL] at h
    split at h
    · rename_i v hv
      cases h
      exact ⟨by simp only [evNat, ev_has H hv, natV], rfl, rfl, by simp⟩
    · cases h
theorem fill_has {ρ : Regs} {l : LEnv} (H : Has ρ l) : ∀ {ps : List (Nat × Nat × Opd)} {vs : List (Nat × Nat × AV)} {cells : List AV}, partsL l ps = some vs → fillA ρ cells ps = fillV cells vs
  | [], vs, cells, h => by simp only [partsL] at h; cases h; rfl
  | (a, b, x) :: ps, vs, cells, h => by
    simp only [partsL] at h
    split at h
    · rename_i v hv
      split at h
      · rename_i vs' hvs
        cases h
        simp only [fillA, fillV, ev_has H hv]
        rw [fill_has H hvs]
      · cases h
    · cases h
theorem fillRow_has {ρ : Regs} {l : LEnv} (H : Has ρ l) {sz : Nat} : ∀ {ps : List (Nat × Opd)} {vs : List (Nat × AV)} {es : List (List AV)}, slotsL l ps = some vs → fillRow ρ sz es ps = fillRowV sz es vs
  | [], vs, es, h => by simp only [slotsL] at h; cases h; rfl
  | (a, x) :: ps, vs, es, h => by
    simp only [slotsL] at h
    split at h
    · rename_i v hv
      split at h
      · rename_i vs' hvs
        cases h
        simp only [fillRow, fillRowV, ev_has H hv]
        rw [fillRow_has H hvs]
      · cases h
    · cases h
def l1 (l : LEnv) (x : Opd) (f : AV → Option AV) : Option (Option AV) :=
  match evL l x with
  | some v => some (f v)
  | none => none
def l2 (l : LEnv) (x y : Opd) (f : AV → AV → Option AV) : Option (Option AV) :=
  match evL l x with
  | some v => match evL l y with
    | some w => some (f v w)
    | none => none
  | none => none
def pureL (l : LEnv) (h : AHeap) (op : AOp) : Option (Option AV) :=
  match op with
  | .mv x => match evL l x with
    | some v => some (some v)
    | none => none
  | .pick c a b => match evL l c, evL l a, evL l b with
    | some c, some a, some b => some (pickV c a b)
    | _, _, _ => none
  | .build z ps => match partsL l ps with
    | some vs => some (buildV z vs)
    | none => none
  | .load ag n a => l1 l a (loadA h ag n)
  | .nilck x => l1 l x nilckA
  | .bin op x y => l2 l x y (binA op)
  | .eq neg k x y => l2 l x y (eqV h neg k)
  | .not x => l1 l x notA
  | .neg x => l1 l x negA
  | .conv k x => l1 l x (convA k)
  | .b2s x => l1 l x (b2sA h)
  | .cvs x => l1 l x cvsA
  | .mkfn f a b => match evsL l a with
    | some a => match evsL l b with
      | some b => some (some (.fn (.func f) a b))
      | none => none
    | none => none
  | .sl sz x lo hi mx => match evL l x, evoL l lo, evoL l hi, evoL l mx with
    | some v, some lo, some hi, some mx => some (sliceV h sz v lo hi mx)
    | _, _, _, _ => none
  | .sls x lo hi => match evL l x, evoL l lo, evoL l hi with
    | some v, some lo, some hi => some (sliceSV v lo hi)
    | _, _, _ => none
  | .fadr off x => l1 l x (fadrA off)
  | .fld ag off n x => l1 l x (fldA ag off n)
  | .iadr sz x i => l2 l x i (iadrA h sz)
  | .iadra len esz x i => l2 l x i (iadraA len esz)
  | .idxs x i => l2 l x i idxsA
  | .idxa ag len esz x i => l2 l x i (idxaA ag len esz)
  | .look kk ok z m k => l2 l m k (lookA h kk ok z)
  | .ext x i => l1 l x (extA i)
  | .len k x => l1 l x (lenA h k)
  | .cap x => l1 l x capA
  | .mm mx xs => match evsL l xs with
    | some vs => some (mmV mx vs)
    | none => none
  | .ent x => l1 l x (entA h)
  | .uto x => l1 l x (utoA h)
  | .ufr t n x => l1 l x (ufrA h t n)
  | .sdat x => l1 l x sdatA
  | _ => none
def heapL (l : LEnv) (h : AHeap) (op : AOp) : Option (Option (AV × AHeap)) :=
  match op with
  | .alloc z => some (allocV h z)
  | .box n x => match evL l x with
    | some v => some (boxA h n v)
    | none => none
  | .bslice n sz z ps => match slotsL l ps with
    | some vs => some (bsliceV h n sz z vs)
    | none => none
  | .store n a v => match evL l a, evL l v with
    | some a, some v => some (unit (storeA h n a v))
    | _, _ => none
  | .mkmap => some (mkmapV h)
  | .mksl sz bytes z a c => match evL l a, evL l c with
    | some a, some c => some (mkslA h sz bytes z a c)
    | _, _ => none
  | .mupd kk m k v => match evL l m, evL l k, evL l v with
    | some m, some k, some v => some (unit (mupdA h kk m k v))
    | _, _, _ => none
  | .app sz bytes s x => match evL l s, evL l x with
    | some s, some x => some (appendA h sz bytes s x)
    | _, _ => none
  | .appz sz bytes z s x => match evL l s, evL l x with
    | some s, some x => some (appzA h sz bytes z s x)
    | _, _ => none
  | .copy sz d s => match evL l d, evL l s with
    | some d, some s => some (copyA h sz d s)
    | _, _ => none
  | .del kk m k => match evL l m, evL l k with
    | some m, some k => some (unit (delA h kk m k))
    | _, _ => none
  | .clr sz z x => match evL l x with
    | some v => some (unit (clrA h sz z v))
    | none => none
  | .rng x => match evL l x with
    | some v => some (rngA h v)
    | none => none
  | .allot t z => some (allotV h t z)
  | .appb e s x => match evL l s, evL l x with
    | some s, some x => some (appbA h e s x)
    | _, _ => none
  | .ustr e p n => match evL l p, evL l n with
    | some p, some n => some (ustrA h e p n)
    | _, _ => none
  | _ => none
section
variable {ρ : Regs} {l : LEnv} {h : AHeap} {op : AOp}
theorem l1_has (H : Has ρ l) {x : Opd} {f : AV → Option AV} {o : Option AV} (e : l1 l x f = some o) : ev1 ρ x f = o := by
  unfold l1 at e
  split at e
  · rename_i v hv; cases e; simp only [ev1, ev_has H hv]
  · cases e
theorem l2_has (H : Has ρ l) {x y : Opd} {f : AV → AV → Option AV} {o : Option AV} (e : l2 l x y f = some o) : ev2 ρ x y f = o := by
  unfold l2 at e
  split at e
  · rename_i v hv
    split at e
    · rename_i w hw; cases e; simp only [ev2, ev_has H hv, ev_has H hw]
    · cases e
  · cases e
theorem slice_has (H : Has ρ l) {sz : Nat} {v : AV} {lo hi mx : Option Opd} {a b c : Option AV} (h1 : evoL l lo = some a) (h2 : evoL l hi = some b) (h3 : evoL l mx = some c) : sliceA ρ h sz v lo hi mx = sliceV h sz v a b c := by
  have e1 := fun d => evNat_has H (d := d) h1
  have e2 := fun d => evNat_has H (d := d) h2
  have e3 := fun d => evNat_has H (d := d) h3
  unfold sliceA sliceV
  cases v <;> simp only [(e1 0).1, (e2 _).1, (e3 0).1, (e2 0).2.1, (e3 0).2.2.1]
  · cases mx with
    | none =>
      have : c = none := (e3 0).2.2.2.1 rfl
      subst this; rfl
    | some m =>
      cases c with
      | none => have := (e3 0).2.2.2.2 rfl; cases this
      | some c =>
        have := (e3 0).1
        simp only [this]
        rfl
  · rfl
  · rfl
theorem pureL_has (H : Has ρ l) {o : Option AV} (e : pureL l h op = some o) : evalA ρ h op = pureV o h ∧ isCall op = false := by
  unfold pureL at e
  split at e
  case h_1 x =>
    split at e
    · rename_i v hv; cases e; simp only [evalA, ev_has H hv, isCall, and_self]
    · cases e
  case h_2 c a b =>
    split at e
    · rename_i c' a' b' h1 h2 h3
      cases e
      refine ⟨?_, rfl⟩
      simp only [evalA, ev_has H h1, ev_has H h2, ev_has H h3]
      cases c' <;> try rfl
      rename_i x; cases x <;> rfl
    · cases e
  case h_3 z ps =>
    split at e
    · rename_i vs hvs
      cases e
      refine ⟨?_, rfl⟩
      simp only [evalA, fill_has H hvs, buildV]
      cases fillV z vs <;> rfl
    · cases e
  case h_7 neg k x y =>
    unfold l2 at e
    split at e
    · rename_i v hv
      split at e
      · rename_i w hw
        cases e
        refine ⟨?_, rfl⟩
        simp only [evalA, ev_has H hv, ev_has H hw, eqV]
        cases eqA h k v w <;> rfl
      · cases e
    · cases e
  case h_13 f a b =>
    split at e
    · rename_i a' ha
      split at e
      · rename_i b' hb
        cases e
        exact ⟨by simp only [evalA, evs_has H ha, evs_has H hb, pureV], rfl⟩
      · cases e
    · cases e
  case h_14 sz x lo hi mx =>
    split at e
    · rename_i v a b c h0 h1 h2 h3
      cases e
      exact ⟨by simp only [evalA, ev1, ev_has H h0, slice_has H h1 h2 h3], rfl⟩
    · cases e
  case h_15 x lo hi =>
    split at e
    · rename_i v a b h0 h1 h2
      cases e
      refine ⟨?_, rfl⟩
      simp only [evalA, ev1, ev_has H h0]
      congr 1
      unfold sliceS sliceSV
      cases v <;> simp only [(evNat_has H h1).1, (evNat_has H h2).1]
      rfl
    · cases e
  case h_26 mx xs =>
    split at e
    · rename_i vs hvs
      cases e
      refine ⟨?_, rfl⟩
      simp only [evalA, evs_has H hvs]
      cases vs <;> rfl
    · cases e
  all_goals first
    | exact ⟨by simp only [evalA]; rw [l1_has H e], rfl⟩
    | exact ⟨by simp only [evalA]; rw [l2_has H e], rfl⟩
    | cases e
theorem heapL_has (H : Has ρ l) {o : Option (AV × AHeap)} (e : heapL l h op = some o) : evalA ρ h op = o ∧ isCall op = false := by
  unfold heapL at e
  split at e
  case h_1 z => cases e; exact ⟨rfl, rfl⟩
  case h_3 n sz z ps =>
    split at e
    · rename_i vs hvs
      cases e
      refine ⟨?_, rfl⟩
      simp only [evalA, bsliceV, fillRow_has H hvs]
      rfl
    · cases e
  case h_5 => cases e; exact ⟨rfl, rfl⟩
  case h_14 => cases e; exact ⟨rfl, rfl⟩
  case h_15 =>
    split at e
    · rename_i h1 h2
      cases e
      refine ⟨?_, rfl⟩
      simp only [evalA, ev_has H h1, ev_has H h2]
      rfl
    · cases e
  all_goals first
    | cases e; done
    | (split at e
       · cases e
         refine ⟨?_, rfl⟩
         rename_i h1
         simp only [evalA, ev_has H h1]
       · cases e)
    | (split at e
       · cases e
         refine ⟨?_, rfl⟩
         rename_i h1 h2
         simp only [evalA, ev_has H h1, ev_has H h2]
       · cases e)
    | (split at e
       · cases e
         refine ⟨?_, rfl⟩
         rename_i h1 h2 h3
         simp only [evalA, ev_has H h1, ev_has H h2, ev_has H h3]
       · cases e)
def Le (c c' : CallFn) : Prop := ∀ t a h (K K' : Kont), c t a h K = true → (∀ v h', K v h' = true → K' v h' = true) → c' t a h K' = true
theorem optB_true {o : Option AV} {k : AV → Bool} (s : optB o k = true) : ∃ v, o = some v ∧ k v = true := by
  cases o with
  | none => cases s
  | some v => exact ⟨v, rfl, s⟩
theorem optP_true {o : Option (AV × AHeap)} {k : Kont} (s : optP o k = true) : ∃ v h', o = some (v, h') ∧ k v h' = true := by
  cases o with
  | none => cases s
  | some p => exact ⟨p.1, p.2, rfl, s⟩
theorem wanted_has (H : Has ρ l) {d : Nat} {g : AV} {b : Bool} (hg : l.get d = some g) : wantedA ρ (some (d, b)) = some (wantV g b) := by
  simp only [wantedA, H d g hg, wantV]
  cases g <;> rfl
variable {call call' : CallFn} {Ks : KSt} {d : Nat}
theorem step_mv {x : Opd} {v : AV} (H : Has ρ l) (e : evL l x = some v) (k : Has (ρ.set d v) ((d, v) :: l) → Ks v ⟨ρ.set d v, h⟩ = true) : stepA call' ⟨some d, .mv x, none⟩ ⟨ρ, h⟩ Ks = true := by
  simp only [stepA, wantedA, evalK, evalA, ev_has H e, pureV, put]
  exact k (H.set d v)
theorem evalK_of (hn : isCall op = false) {o : Option (AV × AHeap)} (e : evalA ρ h op = o) {K : Kont} : evalK call' ρ h op K = optP o K := by
  rw [evalK_plain hn, e]
  cases o <;> rfl
theorem step_pure {o : Option AV} {k : AV → Bool} (H : Has ρ l) (e : pureL l h op = some o) (s : optB o k = true) (hk : ∀ v, k v = true → Has (ρ.set d v) ((d, v) :: l) → Ks v ⟨ρ.set d v, h⟩ = true) : stepA call' ⟨some d, op, none⟩ ⟨ρ, h⟩ Ks = true := by
  obtain ⟨e1, e2⟩ := pureL_has H e
  obtain ⟨v, rfl, s⟩ := optB_true s
  simp only [stepA, wantedA, evalK_of e2 e1, pureV, optP, put]
  exact hk v s (H.set d v)
theorem step_heap {o : Option (AV × AHeap)} {k : Kont} (H : Has ρ l) (e : heapL l h op = some o) (s : optP o k = true) (hk : ∀ v h', k v h' = true → Has (ρ.set d v) ((d, v) :: l) → Ks v ⟨ρ.set d v, h'⟩ = true) : stepA call' ⟨some d, op, none⟩ ⟨ρ, h⟩ Ks = true := by
  obtain ⟨e1, e2⟩ := heapL_has H e
  obtain ⟨v, h', rfl, s⟩ := optP_true s
  simp only [stepA, wantedA, evalK_of e2 e1, optP, put]
  exact hk v h' s (H.set d v)
theorem step_heap0 {o : Option (AV × AHeap)} {k : Kont} (H : Has ρ l) (e : heapL l h op = some o) (s : optP o k = true) (hk : ∀ v h', k v h' = true → Has ρ l → Ks v ⟨ρ, h'⟩ = true) : stepA call' ⟨none, op, none⟩ ⟨ρ, h⟩ Ks = true := by
  obtain ⟨e1, e2⟩ := heapL_has H e
  obtain ⟨v, h', rfl, s⟩ := optP_true s
  simp only [stepA, wantedA, evalK_of e2 e1, optP, put]
  exact hk v h' s H
theorem step_call {f : Nat} {xs : List Opd} {vs : List AV} {k : Kont} (hc : Le call call') (H : Has ρ l) (e : evsL l xs = some vs) (s : call (.func f) vs h k = true) (hk : ∀ v h', k v h' = true → Has (ρ.set d v) ((d, v) :: l) → Ks v ⟨ρ.set d v, h'⟩ = true) :
    stepA call' ⟨some d, .call (.c (.fn (.func f) [] [])) xs, none⟩ ⟨ρ, h⟩ Ks = true := by
  simp only [stepA, wantedA, evalK, ev, evs_has H e, put, List.nil_append, List.append_nil]
  exact hc _ _ _ _ _ s fun v h' hv => hk v h' hv (H.set d v)
theorem callV_le (hc : Le call call') {f : AV} {vs : List AV} {k k' : Kont} (s : callV call f vs h k = true) (hk : ∀ v h', k v h' = true → k' v h' = true) : callV call' f vs h k' = true := by
  unfold callV at s ⊢
  cases f <;> first | (cases s; done) | exact hc _ _ _ _ _ s hk
theorem evalK_callV {x : Opd} {f : AV} {xs : List Opd} {vs : List AV} (H : Has ρ l) (ef : evL l x = some f) (e : evsL l xs = some vs) {K : Kont} : evalK call' ρ h (.call x xs) K = callV call' f vs h K := by
  simp only [evalK, ev_has H ef, evs_has H e, callV]
  cases f <;> rfl
theorem step_callv {x : Opd} {f : AV} {xs : List Opd} {vs : List AV} {k : Kont} (hc : Le call call') (H : Has ρ l) (ef : evL l x = some f) (e : evsL l xs = some vs) (s : callV call f vs h k = true) (hk : ∀ v h', k v h' = true → Has (ρ.set d v) ((d, v) :: l) → Ks v ⟨ρ.set d v, h'⟩ = true) :
    stepA call' ⟨some d, .call x xs, none⟩ ⟨ρ, h⟩ Ks = true := by
  simp only [stepA, wantedA, evalK_callV H ef e, put]
  exact callV_le hc s fun v h' hv => hk v h' hv (H.set d v)
theorem nextA_le {v : AV} {k k' : Kont} (s : nextA h v k = true) (hk : ∀ v h', k v h' = true → k' v h' = true) : nextA h v k' = true := by
  unfold nextA at s ⊢
  split at s <;> first | (cases s; done) | skip
  split at s <;> first | (cases s; done) | exact hk _ _ s | skip
  split at s <;> first | (cases s; done) | skip
  rename_i es clock hes
  cases hb : (!List.isEmpty _ && !List.isEmpty es && es.all _) with
  | true => rw [hb, cond_true] at s; cases s
  | false =>
    rw [hb, cond_false] at s
    simp only [cond_false]
    rw [List.all_eq_true] at s ⊢
    intro x hx
    have := s x hx
    cases x with
    | none => exact hk _ _ this
    | some e => exact hk _ _ this
theorem step_nxt {x : Opd} {v : AV} {k : Kont} (H : Has ρ l) (e : evL l x = some v) (s : nextA h v k = true) (hk : ∀ v h', k v h' = true → Has (ρ.set d v) ((d, v) :: l) → Ks v ⟨ρ.set d v, h'⟩ = true) :
    stepA call' ⟨some d, .nxt x, none⟩ ⟨ρ, h⟩ Ks = true := by
  simp only [stepA, wantedA, evalK, ev_has H e, put]
  exact nextA_le s fun v h' hv => hk v h' hv (H.set d v)
variable {j : Nat} {b : Bool} {g : AV}
theorem gstep_pure {o : Option AV} {k : AV → Bool} (H : Has ρ l) (hg : l.get j = some g) (e : pureL l h op = some o) (s : optB (grdO (wantV g b) o) k = true) (hk : ∀ v, k v = true → Has (ρ.set d v) ((d, v) :: l) → Ks v ⟨ρ.set d v, h⟩ = true) : stepA call' ⟨some d, op, some (j, b)⟩ ⟨ρ, h⟩ Ks = true := by
  obtain ⟨e1, e2⟩ := pureL_has H e
  simp only [stepA, wanted_has H hg]
  cases hw : wantV g b with
  | true =>
    simp only [hw, grdO, cond_true] at s
    obtain ⟨v, rfl, s⟩ := optB_true s
    simp only [evalK_of e2 e1, pureV, optP, put]
    exact hk v s (H.set d v)
  | false =>
    simp only [hw, grdO, cond_false] at s
    exact hk _ s (H.set d _)
theorem gstep_callv {x : Opd} {f : AV} {xs : List Opd} {vs : List AV} {k : Kont} (hc : Le call call') (H : Has ρ l) (hg : l.get j = some g) (ef : evL l x = some f) (e : evsL l xs = some vs) (s : grdC (wantV g b) (fun k => callV call f vs h k) h k = true) (hk : ∀ v h', k v h' = true → Has (ρ.set d v) ((d, v) :: l) → Ks v ⟨ρ.set d v, h'⟩ = true) :
    stepA call' ⟨some d, .call x xs, some (j, b)⟩ ⟨ρ, h⟩ Ks = true := by
  simp only [stepA, wanted_has H hg]
  cases hw : wantV g b with
  | true =>
    simp only [hw, grdC, cond_true] at s
    simp only [evalK_callV H ef e, put]
    exact callV_le hc s fun v h' hv => hk v h' hv (H.set d v)
  | false =>
    simp only [hw, grdC, cond_false] at s
    exact hk _ _ s (H.set d _)
theorem gstep_call {f : Nat} {xs : List Opd} {vs : List AV} {k : Kont} (hc : Le call call') (H : Has ρ l) (hg : l.get j = some g) (e : evsL l xs = some vs) (s : grdC (wantV g b) (fun k => call (.func f) vs h k) h k = true) (hk : ∀ v h', k v h' = true → Has (ρ.set d v) ((d, v) :: l) → Ks v ⟨ρ.set d v, h'⟩ = true) :
    stepA call' ⟨some d, .call (.c (.fn (.func f) [] [])) xs, some (j, b)⟩ ⟨ρ, h⟩ Ks = true := by
  refine gstep_callv hc H hg (f := .fn (.func f) [] []) rfl e ?_ hk
  simpa only [callV, List.nil_append, List.append_nil] using s
variable {ops : List AOper} {Kr : Regs → Bool}
theorem calc_nil (k : Kr ρ = true) : calcK [] ρ h Kr = true := k
theorem calc_cons_some {o : AOper} {v : AV} (e : (wantedA ρ o.grd = some true ∧ ∃ h', evalA ρ h o.op = some (v, h')) ∨ (wantedA ρ o.grd = some false ∧ v = .tup [])) (k : calcK ops (put ρ o.dst v) h Kr = true) : calcK (o :: ops) ρ h Kr = true := by
  unfold calcK at k ⊢
  simp only [calcA]
  rcases e with ⟨e1, h', e2⟩ | ⟨e1, rfl⟩
  · simp only [e1, e2]; exact k
  · simp only [e1]; exact k
theorem c_m {x : Opd} {v : AV} (H : Has ρ l) (e : evL l x = some v) (k : Has (ρ.set d v) ((d, v) :: l) → calcK ops (ρ.set d v) h Kr = true) : calcK (⟨some d, .mv x, none⟩ :: ops) ρ h Kr = true :=
  calc_cons_some (v := v) (.inl ⟨rfl, h, by simp only [evalA, ev_has H e, pureV]⟩) (k (H.set d v))
theorem calc_pure {o : Option AV} {k : AV → Bool} (H : Has ρ l) (e : pureL l h op = some o) (s : optB o k = true) (hk : ∀ v, k v = true → Has (ρ.set d v) ((d, v) :: l) → calcK ops (ρ.set d v) h Kr = true) : calcK (⟨some d, op, none⟩ :: ops) ρ h Kr = true := by
  obtain ⟨e1, e2⟩ := pureL_has H e
  obtain ⟨v, rfl, s⟩ := optB_true s
  exact calc_cons_some (v := v) (.inl ⟨rfl, h, e1⟩) (hk v s (H.set d v))
theorem c_p {o : Option AV} {k : AV → Bool} (H : Has ρ l) (e : pureL l h op = some o) (s : optB o k = true) (hk : ∀ v, k v = true → Has (ρ.set d v) ((d, v) :: l) → calcK ops (ρ.set d v) h Kr = true) : calcK (⟨some d, op, none⟩ :: ops) ρ h Kr = true := calc_pure H e s hk
def againB (ρ : Regs) (h : AHeap) (chk : List AOper) (r : Bool) : Bool := bif again ρ h chk then r else false
theorem again_nil {r : Bool} (s : r = true) : againB ρ h [] r = true := s
theorem again_one {o : AOper} {r : Bool} (e : againOne ρ h o = true) (s : againB ρ h ops r = true) : againB ρ h (o :: ops) r = true := by
  unfold againB at s ⊢
  simp only [again, e, cond_true]; exact s
theorem again_same {o : Option AV} {u : AV} {r q : Bool} (H : Has ρ l) (e : pureL l h op = some o) (eu : l.get d = some u) (s : sameB o u q = true) (k : q = true → againB ρ h ops r = true) : againB ρ h (⟨some d, op, none⟩ :: ops) r = true := by
  obtain ⟨e1, e2⟩ := pureL_has H e
  cases o with
  | none => cases s
  | some v =>
    simp only [sameB] at s
    cases hs : AV.same v u with
    | false => rw [hs] at s; cases s
    | true =>
      rw [hs] at s
      refine again_one ?_ (k s)
      simp only [againOne, wantedA, e1, pureV, H d u eu, hs]
theorem a_s {o : Option AV} {u : AV} {r q : Bool} (H : Has ρ l) (e : pureL l h op = some o) (eu : l.get d = some u) (s : sameB o u q = true) (k : q = true → againB ρ h ops r = true) : againB ρ h (⟨some d, op, none⟩ :: ops) r = true := again_same H e eu s k
variable {n : Nat} {KS : KEx} {σ : St}
theorem c_reg {ops : List AOper} (s : runR call ops σ (KS .normal) = true) : runC call n (.reg ops) σ KS = true := s
theorem r_nil (s : KS .normal σ = true) : runR call [] σ (KS .normal) = true := s
theorem r_cons {o : AOper} {K : St → Bool} (s : stepA call o σ (fun _ σ' => runR call ops σ' K) = true) : runR call (o :: ops) σ K = true := s
theorem q_mv {K : St → Bool} {x : Opd} {v : AV} (H : Has ρ l) (e : evL l x = some v) (k : Has (ρ.set d v) ((d, v) :: l) → runR call' ops ⟨ρ.set d v, h⟩ K = true) : runR call' (⟨some d, .mv x, none⟩ :: ops) ⟨ρ, h⟩ K = true := r_cons (step_mv H e k)
theorem q_pure {K : St → Bool} {o : Option AV} {k : AV → Bool} (H : Has ρ l) (e : pureL l h op = some o) (s : optB o k = true) (hk : ∀ v, k v = true → Has (ρ.set d v) ((d, v) :: l) → runR call' ops ⟨ρ.set d v, h⟩ K = true) : runR call' (⟨some d, op, none⟩ :: ops) ⟨ρ, h⟩ K = true := r_cons (step_pure H e s hk)
theorem q_heap {K : St → Bool} {o : Option (AV × AHeap)} {k : Kont} (H : Has ρ l) (e : heapL l h op = some o) (s : optP o k = true) (hk : ∀ v h', k v h' = true → Has (ρ.set d v) ((d, v) :: l) → runR call' ops ⟨ρ.set d v, h'⟩ K = true) : runR call' (⟨some d, op, none⟩ :: ops) ⟨ρ, h⟩ K = true := r_cons (step_heap H e s hk)
theorem q_heap0 {K : St → Bool} {o : Option (AV × AHeap)} {k : Kont} (H : Has ρ l) (e : heapL l h op = some o) (s : optP o k = true) (hk : ∀ v h', k v h' = true → Has ρ l → runR call' ops ⟨ρ, h'⟩ K = true) : runR call' (⟨none, op, none⟩ :: ops) ⟨ρ, h⟩ K = true := r_cons (step_heap0 H e s hk)
theorem q_call {K : St → Bool} {f : Nat} {xs : List Opd} {vs : List AV} {k : Kont} (hc : Le call call') (H : Has ρ l) (e : evsL l xs = some vs) (s : call (.func f) vs h k = true) (hk : ∀ v h', k v h' = true → Has (ρ.set d v) ((d, v) :: l) → runR call' ops ⟨ρ.set d v, h'⟩ K = true) :
    runR call' (⟨some d, .call (.c (.fn (.func f) [] [])) xs, none⟩ :: ops) ⟨ρ, h⟩ K = true := r_cons (step_call hc H e s hk)
theorem q_callv {K : St → Bool} {x : Opd} {f : AV} {xs : List Opd} {vs : List AV} {k : Kont} (hc : Le call call') (H : Has ρ l) (ef : evL l x = some f) (e : evsL l xs = some vs) (s : callV call f vs h k = true) (hk : ∀ v h', k v h' = true → Has (ρ.set d v) ((d, v) :: l) → runR call' ops ⟨ρ.set d v, h'⟩ K = true) :
    runR call' (⟨some d, .call x xs, none⟩ :: ops) ⟨ρ, h⟩ K = true := r_cons (step_callv hc H ef e s hk)
theorem q_nxt {K : St → Bool} {x : Opd} {v : AV} {k : Kont} (H : Has ρ l) (e : evL l x = some v) (s : nextA h v k = true) (hk : ∀ v h', k v h' = true → Has (ρ.set d v) ((d, v) :: l) → runR call' ops ⟨ρ.set d v, h'⟩ K = true) :
    runR call' (⟨some d, .nxt x, none⟩ :: ops) ⟨ρ, h⟩ K = true := r_cons (step_nxt H e s hk)
theorem qgstep_pure {K : St → Bool} {o : Option AV} {k : AV → Bool} (H : Has ρ l) (hg : l.get j = some g) (e : pureL l h op = some o) (s : optB (grdO (wantV g b) o) k = true) (hk : ∀ v, k v = true → Has (ρ.set d v) ((d, v) :: l) → runR call' ops ⟨ρ.set d v, h⟩ K = true) : runR call' (⟨some d, op, some (j, b)⟩ :: ops) ⟨ρ, h⟩ K = true := r_cons (gstep_pure H hg e s hk)
theorem qgstep_call {K : St → Bool} {f : Nat} {xs : List Opd} {vs : List AV} {k : Kont} (hc : Le call call') (H : Has ρ l) (hg : l.get j = some g) (e : evsL l xs = some vs) (s : grdC (wantV g b) (fun k => call (.func f) vs h k) h k = true) (hk : ∀ v h', k v h' = true → Has (ρ.set d v) ((d, v) :: l) → runR call' ops ⟨ρ.set d v, h'⟩ K = true) :
    runR call' (⟨some d, .call (.c (.fn (.func f) [] [])) xs, some (j, b)⟩ :: ops) ⟨ρ, h⟩ K = true := r_cons (gstep_call hc H hg e s hk)
theorem c_dreg {n0 : List AOper} {rest : List (AOper × List AOper × List AOper)} (s : calcK n0 ρ h (fun ρ' => runD call rest ⟨ρ', h⟩ (KS .normal)) = true) : runC call n (.dreg n0 rest) ⟨ρ, h⟩ KS = true := s
theorem d_nil (s : KS .normal σ = true) : runD call [] σ (KS .normal) = true := s
def dK (call : CallFn) (chk ns : List AOper) (rest : List (AOper × List AOper × List AOper)) (K : St → Bool) : KSt := fun _ σ =>
  match σ with
  | ⟨ρ, h⟩ => againB ρ h chk (calcK ns ρ h fun ρ => runD call rest ⟨ρ, h⟩ K)
theorem d_cons {act : AOper} {chk ns : List AOper} {rest : List (AOper × List AOper × List AOper)} {K : St → Bool} (s : stepA call act σ (dK call chk ns rest K) = true) : runD call ((act, chk, ns) :: rest) σ K = true := by
  have e : dK call chk ns rest K = fun _ σ' => againB σ'.regs σ'.h chk (calcK ns σ'.regs σ'.h fun ρ => runD call rest ⟨ρ, σ'.h⟩ K) := rfl
  rw [e] at s
  simpa only [runD, againB, calcK] using s
theorem dk {chk ns : List AOper} {rest : List (AOper × List AOper × List AOper)} {K : St → Bool} {v : AV} (s : againB ρ h chk (calcK ns ρ h fun ρ => runD call rest ⟨ρ, h⟩ K) = true) : dK call chk ns rest K v ⟨ρ, h⟩ = true := s
def seqK (call : CallFn) (n : Nat) (b : ACode) (K : KEx) : KEx := fun x σ' =>
  match x with
  | .normal => runC call n b σ' K
  | x => K x σ'
def blockK (id : Nat) (K : KEx) : KEx := fun x σ' =>
  match x with
  | .exit i => bif Nat.beq i id then K .normal σ' else K (.exit i) σ'
  | x => K x σ'
def loopK (call : CallFn) (n : Nat) (c : ACode) (K : KEx) (m : Nat) : KEx := fun x σ' =>
  match x with
  | .normal => iter (runC call n c) K m σ'
  | x => K x σ'
def finK (res : List (Nat × Option (Bool × Nat))) (K : Kont) : KEx := fun x σ =>
  match x with
  | .normal => (match resultsA σ.regs σ.h res with
    | some l => K (oneOf l) σ.h
    | none => false)
  | .ret => (match resultsA σ.regs σ.h res with
    | some l => K (oneOf l) σ.h
    | none => false)
  | _ => false
theorem c_seq {x y : ACode} (s : runC call n x σ (seqK call n y KS) = true) : runC call n (.seq x y) σ KS = true := by
  have e : seqK call n y KS = (fun x σ' => match x with | .normal => runC call n y σ' KS | x => KS x σ') := by
    funext x σ'; cases x <;> rfl
  rw [e] at s; exact s
theorem c_cond {c : Opd} {x y : ACode} {v : AV} {p q : Bool} (H : Has ρ l) (e : evL l c = some v) (s : condB v p q = true) (kx : p = true → runC call n x ⟨ρ, h⟩ KS = true) (ky : q = true → runC call n y ⟨ρ, h⟩ KS = true) : runC call n (.cond c x y) ⟨ρ, h⟩ KS = true := by
  simp only [runC, ev_has H e]
  unfold condB at s
  cases v <;> first | (cases s; done) | skip
  rename_i t
  cases t
  · exact ky s
  · exact kx s
theorem c_block {id : Nat} {x : ACode} (s : runC call n x σ (blockK id KS) = true) : runC call n (.block id x) σ KS = true := by
  have e : blockK id KS = (fun x σ' => match x with | .exit i => bif Nat.beq i id then KS .normal σ' else KS (.exit i) σ' | x => KS x σ') := by
    funext x σ'; cases x <;> rfl
  rw [e] at s; exact s
theorem c_loop {x : ACode} (s : iter (runC call n x) KS n σ = true) : runC call n (.loop x) σ KS = true := s
theorem c_round {x : ACode} {m : Nat} (s : runC call n x σ (loopK call n x KS m) = true) : iter (runC call n x) KS (m + 1) σ = true := by
  have e : loopK call n x KS m = (fun y σ' => match y with | .normal => iter (runC call n x) KS m σ' | y => KS y σ') := by
    funext y σ'; cases y <;> rfl
  rw [e] at s; exact s
theorem c_skip (s : KS .normal σ = true) : runC call n .skip σ KS = true := s
theorem c_exit {id : Nat} (s : KS (.exit id) σ = true) : runC call n (.exit id) σ KS = true := s
theorem c_ret (s : KS .ret σ = true) : runC call n .ret σ KS = true := s
theorem k_seq {y : ACode} (s : runC call n y σ KS = true) : seqK call n y KS .normal σ = true := s
theorem k_seq_ret {y : ACode} (s : KS .ret σ = true) : seqK call n y KS .ret σ = true := s
theorem k_seq_exit {y : ACode} {i : Nat} (s : KS (.exit i) σ = true) : seqK call n y KS (.exit i) σ = true := s
theorem k_block {id : Nat} (s : KS .normal σ = true) : blockK id KS .normal σ = true := s
theorem k_block_ret {id : Nat} (s : KS .ret σ = true) : blockK id KS .ret σ = true := s
theorem k_block_eq {id : Nat} (s : KS .normal σ = true) : blockK id KS (.exit id) σ = true := by
  simp only [blockK, Nat.beq_refl, cond_true]; exact s
theorem k_loop {c : ACode} {m : Nat} (s : iter (runC call n c) KS m σ = true) : loopK call n c KS m .normal σ = true := s
theorem k_loop_ret {c : ACode} {m : Nat} (s : KS .ret σ = true) : loopK call n c KS m .ret σ = true := s
theorem k_loop_exit {c : ACode} {m i : Nat} (s : KS (.exit i) σ = true) : loopK call n c KS m (.exit i) σ = true := s
def resL (l : LEnv) : List (Nat × Option (Bool × Nat)) → Option (List (AV × Option (Bool × Nat)))
  | [] => some []
  | (t, x) :: r => match l.get t with
    | some v => match resL l r with
      | some vs => some ((v, x) :: vs)
      | none => none
    | none => none
def resV (h : AHeap) : List (AV × Option (Bool × Nat)) → Option (List AV)
  | [] => some []
  | (v, none) :: r => match resV h r with
    | some vs => some (v :: vs)
    | none => none
  | (a, some (ag, n)) :: r => match loadA h ag n a with
    | some v => match resV h r with
      | some vs => some (v :: vs)
      | none => none
    | none => none
def optR (o : Option (List AV)) (h : AHeap) (K : Kont) : Bool :=
  match o with
  | some l => K (oneOf l) h
  | none => false
theorem results_has (H : Has ρ l) : ∀ {res : List (Nat × Option (Bool × Nat))} {m : List (AV × Option (Bool × Nat))}, resL l res = some m → resultsA ρ h res = resV h m
  | [], m, e => by simp only [resL] at e; cases e; rfl
  | (t, x) :: r, m, e => by
    simp only [resL] at e
    split at e
    · rename_i v hv
      split at e
      · rename_i vs hvs
        cases e
        simp only [resultsA]
        rw [results_has H hvs]
        cases x with
        | none => simp only [resultA, H t v hv, resV]; rfl
        | some p =>
          obtain ⟨ag, k⟩ := p
          simp only [resultA, H t v hv, resV]
          rfl
      · cases e
    · cases e
theorem fin_ret {res : List (Nat × Option (Bool × Nat))} {m : List (AV × Option (Bool × Nat))} {K K' : Kont} (H : Has ρ l) (e : resL l res = some m) (hK : ∀ v h', K v h' = true → K' v h' = true) (s : optR (resV h m) h K = true) : finK res K' .ret ⟨ρ, h⟩ = true := by
  simp only [finK, results_has H e]
  cases hr : resV h m with
  | none => rw [hr] at s; cases s
  | some vs => rw [hr] at s; exact hK _ _ s
theorem fin_normal {res : List (Nat × Option (Bool × Nat))} {m : List (AV × Option (Bool × Nat))} {K K' : Kont} (H : Has ρ l) (e : resL l res = some m) (hK : ∀ v h', K v h' = true → K' v h' = true) (s : optR (resV h m) h K = true) : finK res K' .normal ⟨ρ, h⟩ = true := by
  simp only [finK, results_has H e]
  cases hr : resV h m with
  | none => rw [hr] at s; cases s
  | some vs => rw [hr] at s; exact hK _ _ s
def yieldS (call : CallFn) (n id : Nat) (args : List AV) (h : AHeap) (K : Kont) : Bool :=
  match h.get id with
  | some (.loop l) => match l.st with
    | .ready => match setPs l.ps args l.regs with
      | some ρ => runC call n l.asg ⟨ρ, h⟩ fun x σ => match x with
        | .normal => (match σ.h.get id with
          | some (.loop l1) => match l1.st with
            | .ready => runC call n l.body ⟨σ.regs, σ.h.put id (.loop { l1 with st := .busy })⟩ fun x σ2 =>
              match σ2.h.get id with
              | some (.loop l2) => match x with
                | .normal => K (.bool true) (σ2.h.put id (.loop { l2 with st := .ready }))
                | x => K (.bool false) (σ2.h.put id (.loop { l2 with st := .done x }))
              | _ => false
            | _ => false
          | _ => false)
        | _ => false
      | none => false
    | _ => false
  | _ => false
end
section
variable {call call' : CallFn}
theorem evalK_le (hc : Le call call') {ρ : Regs} {h : AHeap} {op : AOp} {k k' : Kont} (s : evalK call ρ h op k = true) (hk : ∀ v h', k v h' = true → k' v h' = true) : evalK call' ρ h op k' = true := by
  cases hi : isCall op with
  | false =>
    rw [evalK_plain hi] at s ⊢
    split at s
    · rename_i v h' e; exact hk _ _ s
    · cases s
  | true =>
    cases op <;> first | (cases hi; done) | skip
    · simp only [evalK] at s ⊢
      split at s
      · exact nextA_le s hk
      · cases s
    · simp only [evalK] at s ⊢
      split at s
      · exact hc _ _ _ _ _ s hk
      · cases s
theorem stepA_le (hc : Le call call') {o : AOper} {σ : St} {k k' : KSt} (s : stepA call o σ k = true) (hk : ∀ v σ', k v σ' = true → k' v σ' = true) : stepA call' o σ k' = true := by
  unfold stepA at s ⊢
  split at s
  · exact evalK_le hc s fun v h' hv => hk _ _ hv
  · exact hk _ _ s
  · cases s
theorem runR_le (hc : Le call call') : ∀ {ops : List AOper} {σ : St} {k k' : St → Bool}, runR call ops σ k = true → (∀ σ', k σ' = true → k' σ' = true) → runR call' ops σ k' = true
  | [], σ, k, k', s, hk => hk _ s
  | o :: ops, σ, k, k', s, hk => stepA_le hc s fun v σ' hv => runR_le hc hv hk
theorem runD_le (hc : Le call call') : ∀ {ops : List (AOper × List AOper × List AOper)} {σ : St} {k k' : St → Bool}, runD call ops σ k = true → (∀ σ', k σ' = true → k' σ' = true) → runD call' ops σ k' = true
  | [], σ, k, k', s, hk => hk _ s
  | (act, chk, ns) :: ops, σ, k, k', s, hk => by
    simp only [runD] at s ⊢
    refine stepA_le hc s fun v σ' hv => ?_
    cases ha : again σ'.regs σ'.h chk with
    | false => rw [ha] at hv; cases hv
    | true =>
      rw [ha] at hv
      simp only [cond_true] at hv ⊢
      split at hv
      · exact runD_le hc hv hk
      · cases hv
theorem iter_le {f f' : St → KEx → Bool} {K K' : KEx} (hf : ∀ σ (k k' : KEx), f σ k = true → (∀ x σ', k x σ' = true → k' x σ' = true) → f' σ k' = true) (hK : ∀ x σ', K x σ' = true → K' x σ' = true) : ∀ (n : Nat) (σ : St), iter f K n σ = true → iter f' K' n σ = true
  | 0, σ, s => by cases s
  | n + 1, σ, s => by
    simp only [iter] at s ⊢
    refine hf _ _ _ s fun x σ' hx => ?_
    cases x with
    | normal => exact iter_le hf hK n σ' hx
    | _ => exact hK _ _ hx
theorem iterG_le {l : Nat} {f f' : St → KEx → Bool} {K K' : KEx} (hf : ∀ σ (k k' : KEx), f σ k = true → (∀ x σ', k x σ' = true → k' x σ' = true) → f' σ k' = true) (hK : ∀ x σ', K x σ' = true → K' x σ' = true) : ∀ (n : Nat) (σ : St), iterG l f K n σ = true → iterG l f' K' n σ = true
  | 0, σ, s => by cases s
  | n + 1, σ, s => by
    simp only [iterG] at s ⊢
    refine hf _ _ _ s fun x σ' hx => ?_
    cases x with
    | goto l' =>
      simp only at hx ⊢
      cases hb : Nat.beq l' l with
      | false => rw [hb] at hx; cases hx
      | true => rw [hb] at hx; exact iterG_le hf hK n σ' hx
    | _ => exact hK _ _ hx
theorem runC_le (hc : Le call call') {n : Nat} : ∀ {c : ACode} {σ : St} {K K' : KEx}, runC call n c σ K = true → (∀ x σ', K x σ' = true → K' x σ' = true) → runC call' n c σ K' = true := by
  intro c
  induction c with
  | skip => intro σ K K' s hk; exact hk _ _ s
  | reg ops => intro σ K K' s hk; exact runR_le hc s fun σ' => hk _ _
  | dreg n0 rest =>
    intro σ K K' s hk
    simp only [runC] at s ⊢
    split at s
    · exact runD_le hc s fun σ' => hk _ _
    · cases s
  | seq a b iha ihb =>
    intro σ K K' s hk
    simp only [runC] at s ⊢
    refine iha s fun x σ' hx => ?_
    cases x with
    | normal => exact ihb hx hk
    | _ => exact hk _ _ hx
  | cond o a b iha ihb =>
    intro σ K K' s hk
    simp only [runC] at s ⊢
    split at s
    · exact iha s hk
    · exact ihb s hk
    · cases s
  | block id a ih =>
    intro σ K K' s hk
    simp only [runC] at s ⊢
    refine ih s fun x σ' hx => ?_
    cases x with
    | exit i =>
      simp only at hx ⊢
      cases hb : Nat.beq i id with
      | true => rw [hb] at hx; exact hk _ _ hx
      | false => rw [hb] at hx; exact hk _ _ hx
    | _ => exact hk _ _ hx
  | loop a ih =>
    intro σ K K' s hk
    exact iter_le (f := runC call n a) (f' := runC call' n a) (fun σ k k' s' hk' => ih s' hk') hk n σ s
  | rf f ps asg body iha ihb =>
    intro σ K K' s hk
    simp only [runC] at s ⊢
    split at s
    · refine hc _ _ _ _ _ s fun v h' hv => ?_
      split at hv
      · rename_i lo hlo
        (try simp only [hlo])
        split at hv
        · rename_i hst; (try simp only [hst]); exact hk _ _ hv
        · rename_i x hst; (try simp only [hst]); exact hk _ _ hv
        · cases hv
      · cases hv
    · cases s
  | exit id => intro σ K K' s hk; exact hk _ _ s
  | scope a l r iha ihr =>
    intro σ K K' s hk
    simp only [runC] at s ⊢
    refine iha s fun x σ' hx => ?_
    cases x with
    | goto l' =>
      simp only at hx ⊢
      cases hb : Nat.beq l' l with
      | false => rw [hb] at hx; cases hx
      | true => rw [hb] at hx; exact iterG_le (f := runC call n r) (f' := runC call' n r) (fun σ k k' s' hk' => ihr s' hk') hk n σ' hx
    | _ => exact hk _ _ hx
  | label l => intro σ K K' s hk; exact hk _ _ s
  | goto l => intro σ K K' s hk; exact hk _ _ s
  | ret => intro σ K K' s hk; exact hk _ _ s
  | refuse => intro σ K K' s hk; cases s
  | keep ks a ih => intro σ K K' s hk; exact ih s hk
theorem yieldS_le (hc : Le call call') {n id : Nat} {args : List AV} {h : AHeap} {K K' : Kont} (s : yieldS call n id args h K = true) (hK : ∀ v h', K v h' = true → K' v h' = true) : yieldS call' n id args h K' = true := by
  unfold yieldS at s ⊢
  split at s
  rotate_left
  · cases s
  rename_i l hl
  (try simp only [hl])
  split at s
  rotate_left
  · cases s
  rename_i hst
  (try simp only [hst])
  split at s
  rotate_left
  · cases s
  rename_i ρ hρ
  (try simp only [hρ])
  refine runC_le hc s fun x σ hx => ?_
  cases x <;> first | (cases hx; done) | skip
  simp only at hx ⊢
  split at hx
  rotate_left
  · cases hx
  rename_i l1 hl1
  (try simp only [hl1])
  split at hx
  rotate_left
  · cases hx
  rename_i hst1
  (try simp only [hst1])
  refine runC_le hc hx fun x σ2 hx2 => ?_
  split at hx2
  rotate_left
  · cases hx2
  rename_i l2 hl2
  (try simp only [hl2])
  cases x <;> exact hK _ _ hx2
def PrimLe (E : Env) : Prop := ∀ f p, E.prim f = some p → ∀ (call call' : CallFn) n args h (K K' : Kont), Le call call' → (∀ v h', K v h' = true → K' v h' = true) → p call n args h K = true → p call' n args h K' = true
theorem PrimLe.none {E : Env} (hp : ∀ f, E.prim f = none) : PrimLe E := fun f p h => by rw [hp f] at h; cases h
theorem callN_le {E : Env} (hp : PrimLe E) : ∀ n, Le (callN E n) (callN E n)
  | 0 => fun _ _ _ _ _ s _ => by cases s
  | n + 1 => by
    intro t a h K K' s hK
    have ih := callN_le hp n
    cases t with
    | yield id => exact yieldS_le ih s hK
    | func f =>
      simp only [callN] at s ⊢
      cases hpf : E.prim f with
      | some p =>
        simp only [hpf] at s ⊢
        exact hp f p hpf _ _ n a h K K' ih hK s
      | none =>
      simp only [hpf] at s ⊢
      split at s
      · cases s
      · rename_i fn hf
        (try simp only [hf])
        cases hb : Nat.beq a.length fn.np with
        | false => rw [hb] at s; cases s
        | true =>
          rw [hb] at s
          simp only [cond_true] at s ⊢
          refine runC_le ih s fun x σ hx => ?_
          cases x <;> first | (cases hx; done) | skip
          all_goals
            simp only at hx ⊢
            split at hx
            · rename_i vs hvs
              (try simp only [hvs])
              exact hK _ _ hx
            · cases hx
end
section
variable {call call' : CallFn} {n id : Nat} {h : AHeap} {σ : St} {K K' : Kont}
end
abbrev Sh := CallFn → Nat → List AV → AHeap → Kont → Bool
def ShOK (E : Env) (k : Nat) (s : Sh) : Prop := ∀ (call call' : CallFn) n args h (K K' : Kont), Le call call' → (∀ v h', K v h' = true → K' v h' = true) → s call n args h K = true →
  ∃ fn, E.code k = some fn ∧ args.length = fn.np ∧ runC call' n fn.body ⟨initR 0 args .lf, h⟩ (finK fn.res K') = true
theorem down {E : Env} (hp : PrimLe E) {k : Nat} (hk : E.prim k = none) {s : Sh} (hs : ShOK E k s) {n : Nat} {args : List AV} {h : AHeap} {K : Kont} (e : s (callN E n) n args h K = true) : callN E (n + 1) (.func k) args h K = true := by
  obtain ⟨fn, h1, h2, h3⟩ := hs (callN E n) (callN E n) n args h K K (callN_le hp n) (fun _ _ h => h) e
  simp only [callN, hk, h1, h2, Nat.beq_refl, cond_true]
  have e : finK fn.res K = (fun x σ => match x with
          | .normal => (match resultsA σ.regs σ.h fn.res with
            | some l => K (oneOf l) σ.h
            | none => false)
          | .ret => (match resultsA σ.regs σ.h fn.res with
            | some l => K (oneOf l) σ.h
            | none => false)
          | _ => false) := by
    funext x σ; cases x <;> rfl
  rw [e] at h3
  exact h3
abbrev gm (d x : Nat) : AOper := ⟨some d, .mv (.t x), none⟩
abbrev KLe (K K' : Kont) : Prop := ∀ v h', K v h' = true → K' v h' = true
abbrev F0 := AHeap → Bool
abbrev F1 := AV → F0
abbrev F2 := AV → F1
abbrev F3 := AV → F2
abbrev F4 := AV → F3
abbrev F5 := AV → F4
abbrev F6 := AV → F5
abbrev F7 := AV → F6
abbrev F8 := AV → F7
abbrev F9 := AV → F8
abbrev F10 := AV → F9
abbrev F11 := AV → F10
abbrev F12 := AV → F11
abbrev F13 := AV → F12
abbrev F14 := AV → F13
abbrev F15 := AV → F14
end Go.Ab
namespace Go.Ab
set_option linter.unusedSimpArgs false
set_option linter.unusedVariables false
inductive All2 {α β : Type} (R : α → β → Prop) : List α → List β → Prop
  | nil : All2 R [] []
  | cons {a : α} {b : β} {l : List α} {m : List β} (h : R a b) (t : All2 R l m) : All2 R (a :: l) (b :: m)
theorem All2.length {α β : Type} {R : α → β → Prop} {l : List α} {m : List β} (h : All2 R l m) : l.length = m.length := by
  induction h with
  | nil => rfl
  | cons _ _ ih => simp [ih]
theorem All2.mono {α β : Type} {R S : α → β → Prop} (k : ∀ a b, R a b → S a b) {l : List α} {m : List β} (h : All2 R l m) : All2 S l m := by
  induction h with
  | nil => exact .nil
  | cons h _ ih => exact .cons (k _ _ h) ih
theorem All2.get {α β : Type} {R : α → β → Prop} {l : List α} {m : List β} (h : All2 R l m) : ∀ {i : Nat} {b : β}, m[i]? = some b → ∃ a, l[i]? = some a ∧ R a b := by
  induction h with
  | nil => intro i b e; simp at e
  | cons h _ ih =>
    intro i b e
    cases i with
    | zero => simp at e; subst e; exact ⟨_, by simp, h⟩
    | succ i => simp at e; simpa using ih e
theorem All2.take {α β : Type} {R : α → β → Prop} {l : List α} {m : List β} (h : All2 R l m) : ∀ n, All2 R (l.take n) (m.take n) := by
  induction h with
  | nil => intro n; simp; exact .nil
  | cons h _ ih =>
    intro n
    cases n with
    | zero => simp; exact .nil
    | succ n => simp; exact .cons h (ih n)
theorem All2.drop {α β : Type} {R : α → β → Prop} {l : List α} {m : List β} (h : All2 R l m) : ∀ n, All2 R (l.drop n) (m.drop n) := by
  induction h with
  | nil => intro n; simp; exact .nil
  | cons h t ih =>
    intro n
    cases n with
    | zero => simp; exact .cons h t
    | succ n => simpa using ih n
theorem All2.append {α β : Type} {R : α → β → Prop} {l : List α} {m : List β} (h : All2 R l m) {l' : List α} {m' : List β} (h' : All2 R l' m') : All2 R (l ++ l') (m ++ m') := by
  induction h with
  | nil => exact h'
  | cons h _ ih => exact .cons h ih
mutual
def bulk {H : Type} : DataW H → Nat
  | .lit (.string bytes) => bytes.length + 1
  | .lit _ => 1
  | .nil => 1
  | .ptr d => bulk d + 1
  | .slice elems spare => bulkAll elems + bulkAll spare + 1
  | .agg parts => bulkAll parts + 1
  | .iface _ d => bulk d + 1
  | .map entries => bulkEntries entries + 1
  | .held _ => 1
def bulkAll {H : Type} : List (DataW H) → Nat
  | [] => 0
  | d :: r => bulk d + bulkAll r
def bulkEntries {H : Type} : List (Lit × DataW H) → Nat
  | [] => 0
  | x :: r => bulkEntry x + bulkEntries r
def bulkEntry {H : Type} : Lit × DataW H → Nat
  | (.string bytes, d) => bytes.length + bulk d + 1
  | (_, d) => bulk d + 1
end
def szL {α : Type} (sz : α → Nat) : List α → Nat
  | [] => 0
  | x :: l => sz x + szL sz l
theorem szL_length {α : Type} {sz : α → Nat} (h : ∀ x, 1 ≤ sz x) : ∀ (l : List α), l.length ≤ szL sz l
  | [] => Nat.le_refl _
  | x :: l => by have := szL_length h l; have := h x; simp [szL]; omega
theorem szL_take {α : Type} {sz : α → Nat} : ∀ (l : List α) (n : Nat), szL sz (l.take n) ≤ szL sz l
  | [], n => by simp
  | x :: l, 0 => by simp [szL]
  | x :: l, n + 1 => by have := szL_take (sz := sz) l n; simp [szL]; omega
theorem szL_mem {α : Type} {sz : α → Nat} : ∀ {l : List α} {x : α}, x ∈ l → sz x ≤ szL sz l
  | y :: l, x, h => by
    rcases List.mem_cons.1 h with rfl | h
    · simp [szL]
    · have := szL_mem (sz := sz) h; simp [szL]; omega
def Ext (h h' : AHeap) : Prop := h.sz ≤ h'.sz ∧ ∀ id o, h.get id = some o → h'.get id = some o
theorem Ext.refl (h : AHeap) : Ext h h := ⟨Nat.le_refl _, fun _ _ e => e⟩
theorem Ext.trans {a b c : AHeap} (h : Ext a b) (k : Ext b c) : Ext a c := ⟨Nat.le_trans h.1 k.1, fun id o e => k.2 id o (h.2 id o e)⟩
theorem Ext.row {h h' : AHeap} (e : Ext h h') {id : Nat} {r : Row} (hr : h.row id = some r) : h'.row id = some r := AHeap.row_some.2 (e.2 id _ (AHeap.row_some.1 hr))
section
variable {H : Type} {enc : TypeId × Value → H} {P : Program} {W : World} {held : Bool}
abbrev Rd (α : Type) := AHeap → List AV → α → Prop
def Mono {α : Type} (R : Rd α) : Prop := ∀ h h' a x, Ext h h' → R h a x → R h' a x
abbrev InAt (enc : TypeId × Value → H) (P : Program) (W : World) (held : Bool) {α : Type} (t : TypeId) (n : Nat) (sz : α → Nat) (R : Rd α) (fuel : Nat) : Prop :=
  ∀ (cs : List Value) (d : DataW H) (ps : List MemPlace), DataW.trod enc P W 0 (fun _ => true) held fuel t cs = some (d, ps) → ∀ φ h, RelH P (.of W.heap.size) φ h W →
    (∀ (W' : World) (sp' : Nat → Bool), (∀ k : Nat, k < W.heap.size → W'.heap[k]? = W.heap[k]?) → (∀ p ∈ ps, sp' p.block = true) → DataW.trod enc P W' 0 sp' held fuel t cs = some (d, ps)) ∧
    ∃ φ' h' avs x, φ.le φ' ∧ Ext h h' ∧ RelH P (.of W.heap.size) φ' h' W ∧ RelVs φ' avs cs ∧ avs.length = n ∧ allLeaf avs = true ∧ R h' avs x ∧ sz x ≤ bulk d
def In (enc : TypeId × Value → H) (P : Program) (W : World) (held : Bool) {α : Type} (t : TypeId) (n : Nat) (sz : α → Nat) (R : Rd α) : Prop :=
  ∀ (fuel : Nat), InAt enc P W held t n sz R fuel
theorem InAt.zero {α : Type} {t : TypeId} {n : Nat} {sz : α → Nat} {R : Rd α} : InAt enc P W held t n sz R 0 := by
  intro cs d ps ht
  simp [DataW.trod] at ht
theorem InAt.conv {α β : Type} {t : TypeId} {n : Nat} {sz : α → Nat} {R : Rd α} {fuel : Nat} (I : InAt enc P W held t n sz R fuel) {sz' : β → Nat} {S : Rd β} (k : ∀ h a x, R h a x → ∃ y, S h a y ∧ sz' y ≤ sz x) : InAt enc P W held t n sz' S fuel := by
  intro cs d ps ht φ h HH
  obtain ⟨h1, φ', h', avs, x, a1, a2, a3, a4, a5, a6, a7, a8⟩ := I cs d ps ht φ h HH
  obtain ⟨y, b1, b2⟩ := k h' avs x a7
  exact ⟨h1, φ', h', avs, y, a1, a2, a3, a4, a5, a6, b1, Nat.le_trans b2 a8⟩
theorem In.conv {α β : Type} {t : TypeId} {n : Nat} {sz : α → Nat} {R : Rd α} (I : In enc P W held t n sz R) {sz' : β → Nat} {S : Rd β} (k : ∀ h a x, R h a x → ∃ y, S h a y ∧ sz' y ≤ sz x) : In enc P W held t n sz' S := by
  intro fuel cs d ps ht φ h HH
  obtain ⟨h1, φ', h', avs, x, a1, a2, a3, a4, a5, a6, a7, a8⟩ := I fuel cs d ps ht φ h HH
  obtain ⟨y, b1, b2⟩ := k h' avs x a7
  exact ⟨h1, φ', h', avs, y, a1, a2, a3, a4, a5, a6, b1, Nat.le_trans b2 a8⟩
def RBool : Rd Bool := fun _ a b => a = [.bool b]
def RInt (k : IntKind) : Rd Int := fun _ a n => a = [.int k n] ∧ k.min ≤ n ∧ n ≤ k.max
def RStr : Rd (List Nat) := fun _ a s => a = [.str s] ∧ ∀ b ∈ s, b < 256
theorem In.bool {t : TypeId} (hu : P.underlying t = some .bool) : In enc P W held t 1 (fun _ : Bool => 1) RBool := by
  intro fuel cs d ps ht φ h HH
  cases fuel with
  | zero => simp [DataW.trod] at ht
  | succ fuel =>
    unfold DataW.trod at ht
    rw [hu] at ht
    split at ht <;> simp only [reduceCtorEq, Option.some.injEq] at * <;> try (cases ht; done)
    rename_i b h1
    simp only [Prod.mk.injEq] at ht
    obtain ⟨rfl, rfl⟩ := ht
    refine ⟨fun W' sp' _ _ => ?_, φ, h, [.bool b], b, φ.le_refl, Ext.refl h, HH, .cons (.bool _) .nil, rfl, rfl, rfl, by simp [bulk]⟩
    unfold DataW.trod; rw [hu]
theorem In.int {t : TypeId} {k : IntKind} (hu : P.underlying t = some (.int k)) : In enc P W held t 1 (fun _ : Int => 1) (RInt k) := by
  intro fuel cs d ps ht φ h HH
  cases fuel with
  | zero => simp [DataW.trod] at ht
  | succ fuel =>
    have ht0 := ht
    unfold DataW.trod at ht
    rw [hu] at ht
    split at ht <;> simp only [reduceCtorEq, Option.some.injEq, TypeDesc.int.injEq] at * <;> try (cases ht; done)
    rename_i k' k'' n h1
    subst h1
    split at ht
    · rename_i hc
      obtain ⟨rfl, hw⟩ := hc
      simp only [Option.some.injEq, Prod.mk.injEq] at ht
      obtain ⟨rfl, rfl⟩ := ht
      simp only [Lit.wf, Bool.and_eq_true, decide_eq_true_eq] at hw
      refine ⟨fun W' sp' _ _ => ?_, φ, h, [.int _ n], n, φ.le_refl, Ext.refl h, HH, .cons (.int _ _) .nil, rfl, rfl, ⟨rfl, hw⟩, by simp [bulk]⟩
      unfold DataW.trod; rw [hu]; simp [Lit.wf, hw]
    · cases ht
theorem In.str {t : TypeId} (hu : P.underlying t = some .string) : In enc P W held t 1 (fun s : List Nat => s.length + 1) RStr := by
  intro fuel cs d ps ht φ h HH
  cases fuel with
  | zero => simp [DataW.trod] at ht
  | succ fuel =>
    unfold DataW.trod at ht
    rw [hu] at ht
    split at ht <;> simp only [reduceCtorEq, Option.some.injEq] at * <;> try (cases ht; done)
    rename_i s h1
    split at ht
    · rename_i hs
      simp only [Option.some.injEq, Prod.mk.injEq] at ht
      obtain ⟨rfl, rfl⟩ := ht
      refine ⟨fun W' sp' _ _ => ?_, φ, h, [.str (s.data.toList.map UInt8.toNat)], _, φ.le_refl, Ext.refl h, HH, .cons (.str rfl) .nil, rfl, rfl, ⟨rfl, ?_⟩, by simp [bulk]⟩
      · unfold DataW.trod; rw [hu]; simp [hs]
      · intro b hb
        obtain ⟨u, _, rfl⟩ := List.mem_map.1 hb
        exact u.toNat_lt
    · cases ht
def RSl {α : Type} (n : Nat) (R : Rd α) : Rd (List α) := fun h a l =>
  (l = [] ∧ (a = [.nilSlc] ∨ a = [.emp])) ∨ ∃ id cap r, a = [.slc id 0 0 l.length cap true] ∧ h.row id = some r ∧ r.rw = false ∧ r.m = 0 ∧ r.g = 0 ∧ r.sz = n ∧ l.length ≤ cap ∧ cap = r.es.length ∧ All2 (R h) (r.es.take l.length) l
theorem RSl.mono {α : Type} {n : Nat} {R : Rd α} (hR : Mono R) : Mono (RSl n R) := by
  intro h h' a l e hh
  rcases hh with hh | ⟨id, cap, r, h1, h2, h3, h4, h5, h6, h7, h8, h9⟩
  · exact .inl hh
  · exact .inr ⟨id, cap, r, h1, e.row h2, h3, h4, h5, h6, h7, h8, h9.mono fun a b => hR h h' a b e⟩
theorem addr_add_spot {a : Addr} {i : Nat} {W : World} {v : Value} (h : W.cell? (a.add i) = some v) : a.add i = ⟨a.block, a.off + i, none⟩ := by
  have hspot : (a.add i).spot = none := by
    cases hsp : (a.add i).spot with
    | none => rfl
    | some s =>
      simp only [World.cell?] at h
      split at h
      · simp [hsp] at h
      · cases h
  unfold Addr.add at hspot ⊢
  split
  · rename_i h0
    subst h0
    rw [if_pos rfl] at hspot
    cases a
    simp_all
  · rfl
theorem cells_at {a : Addr} {i n : Nat} {cells : List Value} (hn : 0 < n) (h : W.cells? 0 (a.add (i * n)) n = some cells) : cells.length = n ∧ ∀ (j : Nat) v, cells[j]? = some v → W.cell? ⟨a.block, a.off + i * n + j, none⟩ = some v := by
  obtain ⟨_, hl, hc⟩ := World.cells?_some h
  refine ⟨hl, fun j v hj => ?_⟩
  have hjl := (List.getElem?_eq_some_iff.1 hj).1
  have h1 := hc j (by omega)
  rw [hj] at h1
  have h0 := hc 0 hn
  have hcell0 : ∃ v0, cells[0]? = some v0 := ⟨cells[0], by simp⟩
  obtain ⟨v0, hv0⟩ := hcell0
  rw [hv0] at h0
  have e1 : a.add (i * n) = ⟨a.block, a.off + i * n, none⟩ := by
    have : (a.add (i * n)).add 0 = a.add (i * n) := by unfold Addr.add; simp
    rw [this] at h0
    exact addr_add_spot h0
  rw [e1] at h1
  have e2 := addr_add_spot h1
  rw [e2] at h1
  exact h1
theorem elems_flat {φ : Phi} {a : Addr} {n : Nat} (hn : 0 < n) : ∀ {s : Nat} {k : Nat} {es : List (List AV)}, All2 (fun i e => ∃ cells, W.cells? 0 (a.add (i * n)) n = some cells ∧ RelVs φ e cells ∧ e.length = n ∧ allLeaf e = true) (List.range' s k) es →
    ∃ vals, RelVs φ es.flatten vals ∧ ∀ (j : Nat) v, vals[j]? = some v → W.cell? ⟨a.block, a.off + s * n + j, none⟩ = some v
  | s, 0, es, h => by
    cases h
    exact ⟨[], by simp; exact .nil, by simp⟩
  | s, k + 1, es, h => by
    rw [List.range'_succ] at h
    cases h with
    | cons h t =>
      rename_i e es
      obtain ⟨cells, c1, c2, c3, c4⟩ := h
      obtain ⟨vals, v1, v2⟩ := elems_flat hn t
      obtain ⟨q1, q2⟩ := cells_at hn c1
      refine ⟨cells ++ vals, by simpa using c2.append v1, fun j v hj => ?_⟩
      by_cases hjn : j < n
      · rw [List.getElem?_append_left (by omega)] at hj
        exact q2 j v hj
      · rw [List.getElem?_append_right (by omega), q1] at hj
        have := v2 (j - n) v hj
        have e : a.off + s * n + j = a.off + (s + 1) * n + (j - n) := by rw [Nat.add_mul]; omega
        rw [e]; exact this
theorem mapM_cons_some {α β : Type} {f : α → Option β} {x : α} {l : List α} {r : List β} (h : (x :: l).mapM f = some r) : ∃ y m, f x = some y ∧ l.mapM f = some m ∧ r = y :: m := by
  rw [List.mapM_cons] at h
  cases hx : f x with
  | none => simp [hx] at h
  | some y =>
    cases hl : l.mapM f with
    | none => simp [hx, hl] at h
    | some m => simp [hx, hl] at h; exact ⟨y, m, rfl, rfl, h.symm⟩
theorem lay_elems {α : Type} {e : TypeId} {n : Nat} {sz : α → Nat} {R : Rd α} (hR : Mono R) (fuel : Nat) (I : InAt enc P W held e n sz R fuel) (a : Addr) (hn : P.cellsOf e = n) : ∀ (l : List Nat) (xs : List (DataW H × List MemPlace)),
    l.mapM (fun i => (W.cells? 0 (a.add (i * P.cellsOf e)) (P.cellsOf e)).bind (DataW.trod enc P W 0 (fun _ => true) held fuel e)) = some xs → ∀ φ h, RelH P (.of W.heap.size) φ h W →
      (∀ (W' : World) (sp' : Nat → Bool), (∀ k : Nat, k < W.heap.size → W'.heap[k]? = W.heap[k]?) → (∀ p ∈ xs.flatMap (·.2), sp' p.block = true) → 0 < n → l.mapM (fun i => (W'.cells? 0 (a.add (i * P.cellsOf e)) (P.cellsOf e)).bind (DataW.trod enc P W' 0 sp' held fuel e)) = some xs) ∧
      ∃ φ' h' es ys, φ.le φ' ∧ Ext h h' ∧ RelH P (.of W.heap.size) φ' h' W ∧ All2 (fun i e => ∃ cells, W.cells? 0 (a.add (i * n)) n = some cells ∧ RelVs φ' e cells ∧ e.length = n ∧ allLeaf e = true) l es ∧ All2 (R h') es ys ∧ szL sz ys ≤ bulkAll (xs.map (·.1))
  | [], xs, hm, φ, h, HH => by
    simp at hm; subst hm
    exact ⟨fun _ _ _ _ _ => by simp, φ, h, [], [], φ.le_refl, Ext.refl h, HH, .nil, .nil, by simp [szL]⟩
  | i :: l, xs, hm, φ, h, HH => by
    obtain ⟨y, m, hy, hm', rfl⟩ := mapM_cons_some hm
    rw [hn] at hy
    cases hc : W.cells? 0 (a.add (i * n)) n with
    | none => rw [hc] at hy; cases hy
    | some cells =>
      rw [hc] at hy
      simp only [Option.bind_some] at hy
      obtain ⟨y1, y2⟩ := y
      obtain ⟨b1, φ1, h1, avs, x, a1, a2, a3, a4, a5, a6, a7, a8⟩ := I cells y1 y2 hy φ h HH
      obtain ⟨b2, φ2, h2, es, ys, c1, c2, c3, c4, c5, c6⟩ := lay_elems hR fuel I a hn l m hm' φ1 h1 a3
      refine ⟨fun W' sp' hW hp hpos => ?_, φ2, h2, avs :: es, x :: ys, Phi.le_trans a1 c1, a2.trans c2, c3, .cons ⟨cells, hc, a4.mono c1, a5, a6⟩ c4, .cons (hR _ _ _ _ c2 a7) c5, by simp [szL, bulkAll]; omega⟩
      rw [List.mapM_cons]
      have hk := b2 W' sp' hW (fun p hpp => hp p (by simp [List.flatMap_cons]; exact .inr (by simpa using hpp))) hpos
      have hcells : W'.cells? 0 (a.add (i * n)) n = some cells := by
        refine World.cells?_carry hc fun p hpp => ?_
        obtain ⟨k, hk, rfl⟩ := MemPlace.mem_row.1 hpp
        have hblk := World.cells?_block hc (by omega)
        show W'.cell? _ = W.cell? _
        simp only [World.cell?]
        rw [hW _ hblk]
      rw [hn] at hk ⊢
      rw [hcells]
      simp only [Option.bind_some]
      rw [b1 W' sp' hW (fun p hpp => hp p (by simp [List.flatMap_cons]; exact .inl hpp))]
      simp [hk]
theorem RelH.pushRO {φ : Phi} {h : AHeap} (HH : RelH P (.of W.heap.size) φ h W) {r : Row} (hrw : r.rw = false) {L : Loc} (hL : L.blk < W.heap.size) (hnd : ∀ ds : Option (List Deferred), W.heap[L.blk]? ≠ some (Obj.deferred ds)) (ho : RelRow (φ.add h.sz 0 L) h.sz r W) :
    RelH P (.of W.heap.size) (φ.add h.sz 0 L) (h.push (.row r)) W := by
  have hle : φ.le (φ.add h.sz 0 L) := Phi.le_add L (HH.fresh 0)
  have hget : ∀ id o', (h.push (.row r)).get id = some o' → (id = h.sz ∧ o' = .row r) ∨ (id < h.sz ∧ h.get id = some o') := by
    intro id o' e
    rw [AHeap.get_push] at e
    by_cases hi : id = h.sz
    · rw [if_pos hi] at e; cases e; exact .inl ⟨hi, rfl⟩
    · rw [if_neg hi] at e
      refine .inr ⟨?_, e⟩
      rcases Nat.lt_or_ge id h.sz with h1 | h1
      · exact h1
      · rw [HH.gone id h1] at e; cases e
  have hphi : ∀ id g K, φ.add h.sz 0 L id g = some K → (id = h.sz ∧ g = 0 ∧ K = L) ∨ φ id g = some K := by
    intro id g K e
    by_cases hk : id = h.sz ∧ g = 0
    · obtain ⟨rfl, rfl⟩ := hk; rw [Phi.add_same] at e; cases e; exact .inl ⟨rfl, rfl, rfl⟩
    · rw [Phi.add_other _ _ hk] at e; exact .inr e
  refine ⟨HH.base, ?_, ?_, ?_, ?_, ?_, ?_, ?_, ?_, fun id o e => (by cases e)⟩
  · intro id g K e
    rcases hphi id g K e with ⟨rfl, _, _⟩ | e
    · simp
    · have := HH.dom id g K e; simp; omega
  · intro id hid
    simp at hid
    rw [AHeap.get_push]
    by_cases hi : id = h.sz
    · exact ⟨_, by rw [if_pos hi]⟩
    · rw [if_neg hi]; exact HH.there id (by omega)
  · intro id hid
    simp at hid
    rw [AHeap.get_push, if_neg (by omega)]
    exact HH.gone id (by omega)
  · intro id o e _
    rcases hget id o e with ⟨rfl, rfl⟩ | ⟨hid, e⟩
    · exact ho
    · exact (HH.objn id o e rfl).other hle (fun g => Phi.add_other _ _ (by omega)) (fun _ _ _ => rfl)
  · intro id g K e
    rcases hphi id g K e with ⟨_, _, rfl⟩ | e
    · exact hL
    · exact HH.lt id g K e
  · intro id o g K e hK
    rcases hget id o e with ⟨rfl, rfl⟩ | ⟨hid, e⟩
    · rcases hphi _ g K hK with ⟨_, _, rfl⟩ | hK
      · exact ⟨fun h1 => by simp [AObj.own, hrw] at h1, fun _ => hL⟩
      · rw [HH.fresh] at hK; cases hK
    · rcases hphi _ g K hK with ⟨rfl, _, _⟩ | hK
      · omega
      · exact HH.own id o g K e hK
  · intro id o id' g g' K K' e hown hK hK' hb
    rcases hget id o e with ⟨rfl, rfl⟩ | ⟨hid, e⟩
    · simp [AObj.own, hrw] at hown
    · rcases hphi _ g K hK with ⟨rfl, _, _⟩ | hK2
      · omega
      · rcases hphi _ g' K' hK' with ⟨_, _, e3⟩ | hK3
        · have : W.heap.size ≤ K.blk := (HH.own id o g K e hK2).1 hown
          rw [e3] at hb
          omega
        · exact HH.disj id o id' g g' K K' e hown hK2 hK3 hb
  · intro id g K hK ds
    rcases hphi id g K hK with ⟨_, _, rfl⟩ | hK
    · exact hnd ds
    · exact HH.nodef id g K hK ds
theorem InAt.slice {α : Type} {t e : TypeId} {n : Nat} {sz : α → Nat} {R : Rd α} {fuel : Nat} (hu : P.underlying t = some (.slice e)) (hn : P.cellsOf e = n) (hpos : 0 < n) (hR : Mono R) (I : InAt enc P W held e n sz R fuel) :
    InAt enc P W held t 1 (fun l => szL sz l + 1) (RSl n R) (fuel + 1) := by
  intro cs d ps ht φ h HH
  · skip
    unfold DataW.trod at ht
    rw [hu] at ht
    split at ht <;> simp only [reduceCtorEq, Option.some.injEq, TypeDesc.slice.injEq] at * <;> try (cases ht; done)
    · rename_i e' h1
      simp only [Prod.mk.injEq] at ht
      obtain ⟨rfl, rfl⟩ := ht
      refine ⟨fun W' sp' _ _ => ?_, φ, h, [.nilSlc], [], φ.le_refl, Ext.refl h, HH, .cons .nilSlc .nil, rfl, rfl, .inl ⟨rfl, .inl rfl⟩, by simp [bulk, szL]⟩
      unfold DataW.trod; rw [hu]; rfl
    · rename_i e' a len cap h1
      subst h1
      split at ht
      rotate_left
      · cases ht
      rename_i hc
      obtain ⟨c1, c2, c3⟩ := hc
      simp only [if_true] at ht
      cases hel : (List.range len).mapM (fun i => (W.cells? 0 (a.add (i * P.cellsOf e)) (P.cellsOf e)).bind (DataW.trod enc P W 0 (fun _ => true) held fuel e)) with
      | none => rw [hel] at ht; cases ht
      | some elems =>
        rw [hel] at ht
        simp only [Option.bind_some] at ht
        cases hsp : (List.range (cap - len)).mapM (fun j => (W.cells? 0 (a.add ((len + j) * P.cellsOf e)) (P.cellsOf e)).bind (DataW.trod enc P W 0 (fun _ => true) held fuel e)) with
        | none => rw [hsp] at ht; cases ht
        | some rest =>
          rw [hsp] at ht
          simp only [Option.map_some, Option.some.injEq, Prod.mk.injEq] at ht
          obtain ⟨rfl, rfl⟩ := ht
          have hsp' : (List.range' len (cap - len)).mapM (fun i => (W.cells? 0 (a.add (i * P.cellsOf e)) (P.cellsOf e)).bind (DataW.trod enc P W 0 (fun _ => true) held fuel e)) = some rest := by
            rw [← hsp, List.range'_eq_map_range, List.mapM_map]
            rfl
          rw [List.range_eq_range'] at hel
          obtain ⟨b1, φ1, h1, es, ys, p1, p2, p3, p4, p5, p6⟩ := lay_elems hR fuel I a hn _ _ hel φ h HH
          obtain ⟨b2, φ2, h2, es2, ys2, q1, q2, q3, q4, q5, q6⟩ := lay_elems hR fuel I a hn _ _ hsp' φ1 h1 p3
          have hlen : es.length = len := by have := p4.length; simpa using this.symm
          have hlen2 : es2.length = cap - len := by have := q4.length; simpa using this.symm
          have hylen : ys.length = len := by rw [← p5.length, hlen]
          have hread : ∀ (W' : World) (sp' : Nat → Bool), (∀ k : Nat, k < W.heap.size → W'.heap[k]? = W.heap[k]?) → (∀ p ∈ MemPlace.row a ((elems.length + rest.length) * P.cellsOf e) ++ (elems ++ rest).flatMap (·.2), sp' p.block = true) → DataW.trod enc P W' 0 sp' held (fuel + 1) t [.slice (some a) len cap] = some (.slice (elems.map (·.1)) (rest.map (·.1)), MemPlace.row a ((elems.length + rest.length) * P.cellsOf e) ++ (elems ++ rest).flatMap (·.2)) := by
            intro W' sp' hW hp
            have k1 := b1 W' sp' hW (fun p hpp => hp p (by simp only [List.mem_append, List.flatMap_append]; exact .inr (.inl hpp))) hpos
            have k2 := b2 W' sp' hW (fun p hpp => hp p (by simp only [List.mem_append, List.flatMap_append]; exact .inr (.inr hpp))) hpos
            have hl1 : elems.length = len := by
              have := mapM_some_length hel
              simpa using this
            have hl2 : rest.length = cap - len := by
              have := mapM_some_length hsp'
              simpa using this
            unfold DataW.trod
            rw [hu]
            simp only
            rw [if_pos ⟨c1, c2, c3⟩]
            rw [← List.range_eq_range'] at k1
            rw [k1]
            simp only [Option.bind_some]
            by_cases hcap : cap = len
            · have hr0 : rest = [] := List.length_eq_zero_iff.1 (by omega)
              subst hr0
              have e0 : cap - len = 0 := by omega
              rw [e0]
              simp
            · have : sp' a.block = true := hp (.cell a.block a.off) (by
                rw [List.mem_append]
                refine .inl (MemPlace.mem_row.2 ⟨0, ?_, rfl⟩)
                rw [hn, hl1, hl2]
                exact Nat.mul_pos (by omega) hpos)
              rw [if_pos this]
              rw [List.range'_eq_map_range, List.mapM_map] at k2
              have k2' : (List.range (cap - len)).mapM (fun j => (W'.cells? 0 (a.add ((len + j) * P.cellsOf e)) (P.cellsOf e)).bind (DataW.trod enc P W' 0 sp' held fuel e)) = some rest := by
                rw [← k2]; rfl
              rw [k2']
              simp
          by_cases hcap0 : cap = 0
          · subst hcap0
            have hl0 : len = 0 := by omega
            subst hl0
            have : ys = [] := List.length_eq_zero_iff.1 hylen
            refine ⟨hread, φ, h, [.emp], [], φ.le_refl, Ext.refl h, HH, .cons .emp .nil, rfl, rfl, .inl ⟨rfl, .inr rfl⟩, by simp [bulk, szL]⟩
          · have hall : All2 (fun i e => ∃ cells, W.cells? 0 (a.add (i * n)) n = some cells ∧ RelVs φ2 e cells ∧ e.length = n ∧ allLeaf e = true) (List.range' 0 cap) (es ++ es2) := by
              have hr : List.range' 0 cap = List.range' 0 len ++ List.range' len (cap - len) := by
                have := @List.range'_append 0 len (cap - len) 1
                simp only [Nat.one_mul, Nat.zero_add] at this
                rw [this]
                congr 1; omega
              rw [hr]
              refine (p4.mono ?_).append q4
              rintro i e ⟨cells, k1, k2, k3, k4⟩
              exact ⟨cells, k1, k2.mono q1, k3, k4⟩
            obtain ⟨vals, v1, v2⟩ := elems_flat hpos hall
            have hblk : a.block < W.heap.size := by
              obtain ⟨k, hk⟩ : ∃ k, cap = k + 1 := ⟨cap - 1, by omega⟩
              rw [hk, List.range'_succ] at hall
              generalize es ++ es2 = ee at hall
              cases hall with
              | cons hh _ =>
                obtain ⟨cells, k1, _⟩ := hh
                have := World.cells?_block k1 hpos
                unfold Addr.add at this
                split at this <;> exact this
            have hcellsB : ∃ c t f, W.heap[a.block]? = some (.cells c t f) := by
              obtain ⟨k, hk⟩ : ∃ k, cap = k + 1 := ⟨cap - 1, by omega⟩
              rw [hk, List.range'_succ] at hall
              generalize es ++ es2 = ee at hall
              cases hall with
              | cons hh _ =>
                obtain ⟨cells, k1, _⟩ := hh
                obtain ⟨w1, w2⟩ := cells_at hpos k1
                have hv : ∃ v, cells[0]? = some v := ⟨cells[0]'(by omega), by simp⟩
                obtain ⟨v, hv⟩ := hv
                have := w2 0 v hv
                simp only [World.cell?] at this
                split at this
                · rename_i c t f hh; exact ⟨c, t, f, hh⟩
                · cases this
            let L : Loc := ⟨a.block, a.off, n, cap, cap⟩
            let r : Row := { es := es ++ es2, sz := n, g := 0, m := 0, rw := false }
            have hlt : (es ++ es2).length = cap := by simp; omega
            have hfresh := q3.fresh 0
            have hle := Phi.le_add (φ := φ2) (id := h2.sz) (g := 0) L hfresh
            have hkey : ∀ g K, φ2.add h2.sz 0 L h2.sz g = some K → g = 0 ∧ K = L := by
              intro g K e
              by_cases hg : g = 0
              · subst hg; rw [Phi.add_same] at e; cases e; exact ⟨rfl, rfl⟩
              · rw [Phi.add_other _ _ (show ¬ (h2.sz = h2.sz ∧ g = 0) by omega)] at e; rw [q3.fresh] at e; cases e
            have hmem : ∀ x ∈ es ++ es2, x.length = n ∧ allLeaf x = true := by
              intro x hx
              obtain ⟨i, hi⟩ := List.getElem?_of_mem hx
              have key : ∀ {l : List Nat} {m : List (List AV)}, All2 (fun i e => ∃ cells, W.cells? 0 (a.add (i * n)) n = some cells ∧ RelVs φ2 e cells ∧ e.length = n ∧ allLeaf e = true) l m → ∀ {i : Nat} {x}, m[i]? = some x → x.length = n ∧ allLeaf x = true := by
                intro l m hh
                induction hh with
                | nil => intro i x e; simp at e
                | cons hh _ ih =>
                  intro i x e
                  obtain ⟨_, _, _, k3, k4⟩ := hh
                  cases i with
                  | zero => simp at e; subst e; exact ⟨k3, k4⟩
                  | succ i => simp at e; exact ih e
              exact key hall hi
            have hrow : RelRow (φ2.add h2.sz 0 L) h2.sz r W := by
              refine ⟨Nat.le_refl _, hpos, fun x hx => (hmem x hx).1, fun x hx => (hmem x hx).2, ⟨L, Phi.add_same _ _ _ _, hlt.symm⟩, fun g K e => ?_, fun g K _ e => ?_, (fun hh => by cases hh), (fun e he => by cases he)⟩
              · obtain ⟨rfl, rfl⟩ := hkey g K e; exact ⟨Nat.le_refl _, rfl⟩
              · obtain ⟨rfl, rfl⟩ := hkey g K e
                refine ⟨by simp only [L, r]; omega, vals, ?_, fun j v hj => ?_⟩
                · simp only [L, r]
                  rw [List.take_of_length_le (by omega)]
                  exact v1.mono hle
                · have := v2 j v hj
                  simpa using this
            have H3 := RelH.pushRO (L := L) q3 (r := r) rfl hblk (fun ds => by
              obtain ⟨c, t, f, hh⟩ := hcellsB
              show W.heap[a.block]? ≠ _
              rw [hh]; intro e; cases e) hrow
            have hext : Ext h2 (h2.push (.row r)) := by
              refine ⟨by simp, fun id o e => ?_⟩
              rw [AHeap.get_push]
              have : id < h2.sz := by
                rcases Nat.lt_or_ge id h2.sz with h1 | h1
                · exact h1
                · rw [q3.gone id h1] at e; cases e
              rw [if_neg (by omega)]; exact e
            refine ⟨hread, _, _, [.slc h2.sz 0 0 len cap true], ys, Phi.le_trans p1 (Phi.le_trans q1 hle), p2.trans (q2.trans hext), H3, ?_, rfl, rfl, ?_, ?_⟩
            · have hspot : a = ⟨a.block, a.off, none⟩ := by
                obtain ⟨k, hk⟩ : ∃ k, cap = k + 1 := ⟨cap - 1, by omega⟩
                rw [hk, List.range'_succ] at hall
                generalize es ++ es2 = ee at hall
                cases hall with
                | cons hh _ =>
                  obtain ⟨cells, k1, _⟩ := hh
                  obtain ⟨_, hl, hcc⟩ := World.cells?_some k1
                  have h0 := hcc 0 hpos
                  have hv : ∃ v, cells[0]? = some v := ⟨cells[0]'(by omega), by simp⟩
                  obtain ⟨v, hv⟩ := hv
                  rw [hv] at h0
                  have e0 : (a.add (0 * n)).add 0 = a.add 0 := by unfold Addr.add; simp
                  rw [e0] at h0
                  have := addr_add_spot h0
                  unfold Addr.add at this
                  simpa using this
              rw [hspot]
              exact .cons (.slc (L := L) (Phi.add_same _ _ _ _) c2 (by simp [L]) (by simp [L]) (Nat.le_refl _) (fun _ => rfl) (fun _ => by simp [L])) .nil
            · refine .inr ⟨h2.sz, cap, r, by rw [hylen], ?_, rfl, rfl, rfl, rfl, by rw [hylen]; exact c2, hlt.symm, ?_⟩
              · rw [AHeap.row_some, AHeap.get_push, if_pos rfl]
              · show All2 (R _) ((es ++ es2).take ys.length) ys
                rw [hylen, ← hlen, List.take_left]
                exact p5.mono fun x y hxy => hR _ _ _ _ (q2.trans hext) hxy
            · simp only [bulk]
              omega
theorem In.slice {α : Type} {t e : TypeId} {n : Nat} {sz : α → Nat} {R : Rd α} (hu : P.underlying t = some (.slice e)) (hn : P.cellsOf e = n) (hpos : 0 < n) (hR : Mono R) (I : In enc P W held e n sz R) :
    In enc P W held t 1 (fun l => szL sz l + 1) (RSl n R)
  | 0 => InAt.zero
  | fuel + 1 => InAt.slice hu hn hpos hR (I fuel)
abbrev InFAt (enc : TypeId × Value → H) (P : Program) (W : World) (held : Bool) {α : Type} (fs : List (Nat × TypeId)) (off tot : Nat) (sz : α → Nat) (R : Rd α) (fuel : Nat) : Prop :=
  ∀ (cs : List Value) (xs : List (DataW H × List MemPlace)), cs.length = tot → fs.mapM (fun f => DataW.trod enc P W 0 (fun _ => true) held fuel f.2 ((cs.drop f.1).take (P.cellsOf f.2))) = some xs → ∀ φ h, RelH P (.of W.heap.size) φ h W →
    (∀ (W' : World) (sp' : Nat → Bool), (∀ k : Nat, k < W.heap.size → W'.heap[k]? = W.heap[k]?) → (∀ p ∈ xs.flatMap (·.2), sp' p.block = true) → fs.mapM (fun f => DataW.trod enc P W' 0 sp' held fuel f.2 ((cs.drop f.1).take (P.cellsOf f.2))) = some xs) ∧
    ∃ φ' h' avs x, φ.le φ' ∧ Ext h h' ∧ RelH P (.of W.heap.size) φ' h' W ∧ RelVs φ' avs (cs.drop off) ∧ allLeaf avs = true ∧ R h' avs x ∧ sz x ≤ bulkAll (xs.map (·.1))
def InF (enc : TypeId × Value → H) (P : Program) (W : World) (held : Bool) {α : Type} (fs : List (Nat × TypeId)) (off tot : Nat) (sz : α → Nat) (R : Rd α) : Prop := ∀ (fuel : Nat), InFAt enc P W held fs off tot sz R fuel
def RNil : Rd Unit := fun _ a _ => a = []
def RCons {α β : Type} (n : Nat) (R : Rd α) (S : Rd β) : Rd (α × β) := fun h a x => ∃ b c, a = b ++ c ∧ b.length = n ∧ R h b x.1 ∧ S h c x.2
theorem InF.nil {tot : Nat} : InF enc P W held [] tot tot (fun _ : Unit => 0) RNil := by
  intro fuel cs xs hl hm φ h HH
  simp at hm; subst hm
  refine ⟨fun _ _ _ _ => by simp, φ, h, [], (), φ.le_refl, Ext.refl h, HH, ?_, rfl, rfl, by simp [bulkAll]⟩
  rw [List.drop_of_length_le (by omega)]; exact .nil
theorem InFAt.cons {α β : Type} {t : TypeId} {off n tot : Nat} {fs : List (Nat × TypeId)} {sz : α → Nat} {sz' : β → Nat} {R : Rd α} {S : Rd β} {fuel : Nat} (hn : P.cellsOf t = n) (hR : Mono R) (I : InAt enc P W held t n sz R fuel) (J : InFAt enc P W held fs (off + n) tot sz' S fuel) :
    InFAt enc P W held ((off, t) :: fs) off tot (fun x : α × β => sz x.1 + sz' x.2) (RCons n R S) fuel := by
  intro cs xs hl hm φ h HH
  obtain ⟨y, m, hy, hm', rfl⟩ := mapM_cons_some hm
  simp only [hn] at hy
  obtain ⟨y1, y2⟩ := y
  obtain ⟨b1, φ1, h1, avs, x, a1, a2, a3, a4, a5, a6, a7, a8⟩ := I _ y1 y2 hy φ h HH
  obtain ⟨b2, φ2, h2, bvs, z, c1, c2, c3, c4, c5, c6, c7⟩ := J cs m hl hm' φ1 h1 a3
  refine ⟨fun W' sp' hW hp => ?_, φ2, h2, avs ++ bvs, (x, z), Phi.le_trans a1 c1, a2.trans c2, c3, ?_, allLeaf_append a6 c5, ⟨avs, bvs, rfl, a5, hR _ _ _ _ c2 a7, c6⟩, by simp [bulkAll]; omega⟩
  · rw [List.mapM_cons]
    simp only [hn]
    rw [b1 W' sp' hW (fun p hpp => hp p (by simp [List.flatMap_cons]; exact .inl hpp))]
    have k2 := b2 W' sp' hW (fun p hpp => hp p (by simp [List.flatMap_cons]; exact .inr (by simpa using hpp)))
    simp [k2]
  · have e : cs.drop off = (cs.drop off).take n ++ cs.drop (off + n) := by
      rw [← List.drop_drop, List.take_append_drop]
    rw [e]
    exact (a4.mono c1).append c4
theorem InF.cons {α β : Type} {t : TypeId} {off n tot : Nat} {fs : List (Nat × TypeId)} {sz : α → Nat} {sz' : β → Nat} {R : Rd α} {S : Rd β} (hn : P.cellsOf t = n) (hR : Mono R) (I : In enc P W held t n sz R) (J : InF enc P W held fs (off + n) tot sz' S) :
    InF enc P W held ((off, t) :: fs) off tot (fun x : α × β => sz x.1 + sz' x.2) (RCons n R S) := fun fuel => InFAt.cons hn hR (I fuel) (J fuel)
theorem mapM_pairs {β : Type} {g : Nat → TypeId → Option β} : ∀ (fs : List Field), fs.mapM (fun f => g f.offset f.type) = (fs.map fun f => (f.offset, f.type)).mapM (fun p => g p.1 p.2)
  | [] => rfl
  | f :: fs => by rw [List.mapM_cons, List.map_cons, List.mapM_cons, mapM_pairs fs]
theorem InAt.struct {α : Type} {t : TypeId} {fs : Array Field} {l : List (Nat × TypeId)} {tot : Nat} {sz : α → Nat} {R : Rd α} {fuel : Nat} (hu : P.underlying t = some (.struct fs)) (hl : (fs.toList.map fun f => (f.offset, f.type)) = l) (hn : P.cellsOf t = tot) (J : InFAt enc P W held l 0 tot sz R fuel) :
    InAt enc P W held t tot (fun x => sz x + 1) R (fuel + 1) := by
  intro cs d ps ht φ h HH
  · skip
    have hstep : ∀ (W' : World) (sp' : Nat → Bool) (held' : Bool), DataW.trod enc P W' 0 sp' held' (fuel + 1) t cs = if cs.length = P.cellsOf t then (fs.toList.mapM fun f => DataW.trod enc P W' 0 sp' held' fuel f.type ((cs.drop f.offset).take (P.cellsOf f.type))).map fun xs => (.agg (xs.map (·.1)), xs.flatMap (·.2)) else none := by
      intro W' sp' held'
      conv => lhs; unfold DataW.trod
      rw [hu]
    rw [hstep] at ht
    split at ht
    rotate_left
    · cases ht
    rename_i hlen
    rw [mapM_pairs (g := fun o ty => DataW.trod enc P W 0 (fun _ => true) held fuel ty ((cs.drop o).take (P.cellsOf ty))), hl] at ht
    cases hm : l.mapM (fun p => DataW.trod enc P W 0 (fun _ => true) held fuel p.2 ((cs.drop p.1).take (P.cellsOf p.2))) with
    | none => rw [hm] at ht; cases ht
    | some xs =>
      rw [hm] at ht
      simp only [Option.map_some, Option.some.injEq, Prod.mk.injEq] at ht
      obtain ⟨rfl, rfl⟩ := ht
      obtain ⟨b1, φ', h', avs, x, a1, a2, a3, a4, a5, a6, a7⟩ := J cs xs (by rw [hlen, hn]) hm φ h HH
      refine ⟨fun W' sp' hW hp => ?_, φ', h', avs, x, a1, a2, a3, by simpa using a4, ?_, a5, a6, by simp only [bulk]; omega⟩
      · rw [hstep, if_pos hlen, mapM_pairs (g := fun o ty => DataW.trod enc P W' 0 sp' held fuel ty ((cs.drop o).take (P.cellsOf ty))), hl, b1 W' sp' hW hp]
        simp
      · have := a4.length
        simp at this
        omega
theorem In.struct {α : Type} {t : TypeId} {fs : Array Field} {l : List (Nat × TypeId)} {tot : Nat} {sz : α → Nat} {R : Rd α} (hu : P.underlying t = some (.struct fs)) (hl : (fs.toList.map fun f => (f.offset, f.type)) = l) (hn : P.cellsOf t = tot) (J : InF enc P W held l 0 tot sz R) :
    In enc P W held t tot (fun x => sz x + 1) R
  | 0 => InAt.zero
  | fuel + 1 => InAt.struct hu hl hn (J fuel)
end
end Go.Ab
namespace Go.Ab
set_option linter.unusedSimpArgs false
set_option linter.unusedVariables false
@[simp] theorem optB_some (v : AV) (k : AV → Bool) : optB (some v) k = k v := rfl
@[simp] theorem optB_none (k : AV → Bool) : optB none k = false := rfl
@[simp] theorem optP_some (v : AV) (h : AHeap) (k : Kont) : optP (some (v, h)) k = k v h := rfl
@[simp] theorem optP_none (k : Kont) : optP none k = false := rfl
@[simp] theorem condB_true (a b : Bool) : condB (.bool true) a b = a := rfl
@[simp] theorem condB_false (a b : Bool) : condB (.bool false) a b = b := rfl
theorem condB_t {c a b : Bool} (h : c = true) : condB (.bool c) a b = a := by subst h; rfl
theorem condB_f {c a b : Bool} (h : c = false) : condB (.bool c) a b = b := by subst h; rfl
@[simp] theorem wantV_true (c : Bool) : wantV (.bool c) true = c := by cases c <;> rfl
@[simp] theorem wantV_false (c : Bool) : wantV (.bool c) false = !c := by cases c <;> rfl
@[simp] theorem wantV_tup (l : List AV) (b : Bool) : wantV (.tup l) b = false := rfl
@[simp] theorem grdO_true (o : Option AV) : grdO true o = o := rfl
@[simp] theorem grdO_false (o : Option AV) : grdO false o = some (.tup []) := rfl
@[simp] theorem grdP_true (o : Option (AV × AHeap)) (h : AHeap) : grdP true o h = o := rfl
@[simp] theorem grdP_false (o : Option (AV × AHeap)) (h : AHeap) : grdP false o h = some (.tup [], h) := rfl
@[simp] theorem grdC_true (r : Kont → Bool) (h : AHeap) (K : Kont) : grdC true r h K = r K := rfl
@[simp] theorem grdC_false (r : Kont → Bool) (h : AHeap) (K : Kont) : grdC false r h K = K (.tup []) h := rfl
@[simp] theorem pickV_true (a b : AV) : pickV (.bool true) a b = some a := rfl
@[simp] theorem pickV_false (a b : AV) : pickV (.bool false) a b = some b := rfl
@[simp] theorem notA_bool (b : Bool) : notA (.bool b) = some (.bool (!b)) := rfl
@[simp] theorem nilckA_ptr (a b c d : Nat) : nilckA (.ptr a b c d) = some (.ptr a b c d) := rfl
@[simp] theorem fadrA_ptr (off a b c d : Nat) : fadrA off (.ptr a b c d) = some (.ptr a b c (d + off)) := rfl
@[simp] theorem extA_tup (i : Nat) (l : List AV) : extA i (.tup l) = nth l i := rfl
@[simp] theorem nth_zero {α : Type} (x : α) (l : List α) : nth (x :: l) 0 = some x := rfl
@[simp] theorem nth_succ {α : Type} (x : α) (l : List α) (n : Nat) : nth (x :: l) (n + 1) = nth l n := rfl
@[simp] theorem nth_nil {α : Type} (n : Nat) : nth ([] : List α) n = none := rfl
@[simp] theorem fldA_agg (ag : Bool) (off n : Nat) (l : List AV) : fldA ag off n (.agg l) = partA ag off n l := rfl
@[simp] theorem partA_false (off n : Nat) (l : List AV) : partA false off n l = nth l off := rfl
@[simp] theorem lenA_str (h : AHeap) (s : List Nat) : lenA h 0 (.str s) = some (.int .i64 (s.length : Int)) := rfl
@[simp] theorem callV_fn (call : CallFn) (f : AFn) (a b vs : List AV) (h : AHeap) (K : Kont) : callV call (.fn f a b) vs h K = call f (a ++ vs ++ b) h K := rfl
@[simp] theorem optR_some (l : List AV) (h : AHeap) (K : Kont) : optR (some l) h K = K (oneOf l) h := rfl
@[simp] theorem oneOf_one (v : AV) : oneOf [v] = v := rfl
theorem iltb_dec (a b : Int) : iltb a b = decide (a < b) := iltb_eq a b
theorem ieqb_dec (a b : Int) : ieqb a b = decide (a = b) := by rw [ieqb_eq]; rfl
theorem leqb_dec (a b : List Nat) : leqb a b = decide (a = b) := by
  rw [leqb_eq]
  by_cases e : a = b
  · subst e; simp
  · rw [decide_eq_false e]; exact beq_eq_false_iff_ne.2 e
theorem binA_ints (op : BinOp) (k : IntKind) (a b : Int) (hs : isShift op = false) : binA op (.int k a) (.int k b) = intOp op k a b := by
  simp only [binA, hs, cond_false, Nat.beq_refl, cond_true]
@[simp] theorem binA_lss (k : IntKind) (a b : Int) : binA .lss (.int k a) (.int k b) = some (.bool (decide (a < b))) := by rw [binA_ints _ _ _ _ rfl]; simp only [intOp, iltb_dec]
@[simp] theorem binA_gtr (k : IntKind) (a b : Int) : binA .gtr (.int k a) (.int k b) = some (.bool (decide (b < a))) := by rw [binA_ints _ _ _ _ rfl]; simp only [intOp, iltb_dec]
@[simp] theorem binA_leq (k : IntKind) (a b : Int) : binA .leq (.int k a) (.int k b) = some (.bool (decide (a ≤ b))) := by
  rw [binA_ints _ _ _ _ rfl]; simp only [intOp, iltb_dec]
  by_cases e : b < a
  · rw [decide_eq_true e, decide_eq_false (by omega)]; rfl
  · rw [decide_eq_false e, decide_eq_true (by omega)]; rfl
@[simp] theorem binA_geq (k : IntKind) (a b : Int) : binA .geq (.int k a) (.int k b) = some (.bool (decide (b ≤ a))) := by
  rw [binA_ints _ _ _ _ rfl]; simp only [intOp, iltb_dec]
  by_cases e : a < b
  · rw [decide_eq_true e, decide_eq_false (by omega)]; rfl
  · rw [decide_eq_false e, decide_eq_true (by omega)]; rfl
@[simp] theorem binA_eql (k : IntKind) (a b : Int) : binA .eql (.int k a) (.int k b) = some (.bool (decide (a = b))) := by rw [binA_ints _ _ _ _ rfl]; simp only [intOp, ieqb_dec]
@[simp] theorem binA_neq (k : IntKind) (a b : Int) : binA .neq (.int k a) (.int k b) = some (.bool (!decide (a = b))) := by rw [binA_ints _ _ _ _ rfl]; simp only [intOp, ieqb_dec]
theorem binA_add (k : IntKind) (a b : Int) : binA .add (.int k a) (.int k b) = some (.int k (wrapA k (a + b))) := by rw [binA_ints _ _ _ _ rfl]; rfl
theorem binA_sub (k : IntKind) (a b : Int) : binA .sub (.int k a) (.int k b) = some (.int k (wrapA k (a - b))) := by rw [binA_ints _ _ _ _ rfl]; rfl
theorem binA_mul (k : IntKind) (a b : Int) : binA .mul (.int k a) (.int k b) = some (.int k (wrapA k (a * b))) := by rw [binA_ints _ _ _ _ rfl]; rfl
@[simp] theorem binA_seql (a b : List Nat) : binA .eql (.str a) (.str b) = some (.bool (decide (a = b))) := by simp only [binA, strOp, leqb_dec]
@[simp] theorem binA_sneq (a b : List Nat) : binA .neq (.str a) (.str b) = some (.bool (!decide (a = b))) := by simp only [binA, strOp, leqb_dec]
theorem wrap64 {n : Int} (h1 : -9223372036854775808 ≤ n) (h2 : n ≤ 9223372036854775807) : wrapA .i64 n = n := by
  have : fitsK .i64 n = true := by
    cases n with
    | ofNat m =>
      have e : Int.ofNat m = (m : Int) := rfl
      simp only [fitsK]; exact nble_true.2 (by omega)
    | negSucc m =>
      have e : Int.negSucc m = -((m : Int) + 1) := rfl
      simp only [fitsK]; exact nble_true.2 (by omega)
  simp only [wrapA, this, cond_true]
theorem add64 {a b : Int} (h1 : -9223372036854775808 ≤ a + b) (h2 : a + b ≤ 9223372036854775807) : binA .add (.int .i64 a) (.int .i64 b) = some (.int .i64 (a + b)) := by rw [binA_add, wrap64 h1 h2]
theorem sub64 {a b : Int} (h1 : -9223372036854775808 ≤ a - b) (h2 : a - b ≤ 9223372036854775807) : binA .sub (.int .i64 a) (.int .i64 b) = some (.int .i64 (a - b)) := by rw [binA_sub, wrap64 h1 h2]
def lim : Nat := 4611686018427387904
theorem inc64 {i : Nat} (h0 : i < lim) : binA .add (.int .i64 (i : Int)) (.int .i64 1) = some (.int .i64 ((i + 1 : Nat) : Int)) := by
  have h : i < 4611686018427387904 := h0
  rw [add64 (by omega) (by omega)]; rfl
@[simp] theorem asNat_nat (k : IntKind) (n : Nat) : asNat (.int k (n : Int)) = some n := rfl
@[simp] theorem lit_le (k b : Nat) : ((@OfNat.ofNat Int k _ : Int) ≤ (b : Int)) = ((@OfNat.ofNat Nat k _ : Nat) ≤ b) := by
  apply propext; show ((k : Nat) : Int) ≤ (b : Int) ↔ k ≤ b; omega
@[simp] theorem le_lit (k b : Nat) : ((b : Int) ≤ (@OfNat.ofNat Int k _ : Int)) = (b ≤ (@OfNat.ofNat Nat k _ : Nat)) := by
  apply propext; show (b : Int) ≤ ((k : Nat) : Int) ↔ b ≤ k; omega
@[simp] theorem lit_lt (k b : Nat) : ((@OfNat.ofNat Int k _ : Int) < (b : Int)) = ((@OfNat.ofNat Nat k _ : Nat) < b) := by
  apply propext; show ((k : Nat) : Int) < (b : Int) ↔ k < b; omega
@[simp] theorem lt_lit (k b : Nat) : ((b : Int) < (@OfNat.ofNat Int k _ : Int)) = (b < (@OfNat.ofNat Nat k _ : Nat)) := by
  apply propext; show (b : Int) < ((k : Nat) : Int) ↔ b < k; omega
@[simp] theorem lit_eq (k b : Nat) : ((@OfNat.ofNat Int k _ : Int) = (b : Int)) = ((@OfNat.ofNat Nat k _ : Nat) = b) := by
  apply propext; show ((k : Nat) : Int) = (b : Int) ↔ k = b; omega
@[simp] theorem eq_lit (k b : Nat) : ((b : Int) = (@OfNat.ofNat Int k _ : Int)) = (b = (@OfNat.ofNat Nat k _ : Nat)) := by
  apply propext; show (b : Int) = ((k : Nat) : Int) ↔ b = k; omega
def View (h : AHeap) (n : Nat) (v : AV) (es : List (List AV)) : Prop :=
  (es = [] ∧ (v = .nilSlc ∨ v = .emp)) ∨ ∃ id g s cap ex r, v = .slc id g s es.length cap ex ∧ h.row id = some r ∧ r.m ≤ g ∧ r.sz = n ∧ (r.es.drop s).take es.length = es ∧ es.length ≤ cap
theorem View.nil (h : AHeap) (n : Nat) : View h n .nilSlc [] := .inl ⟨rfl, .inl rfl⟩
theorem View.ext {h h' : AHeap} {n : Nat} {v : AV} {es : List (List AV)} (V : View h n v es) (e : Ext h h') : View h' n v es := by
  rcases V with V | ⟨id, g, s, cap, ex, r, h1, h2, h3⟩
  · exact .inl V
  · exact .inr ⟨id, g, s, cap, ex, r, h1, e.row h2, h3⟩
theorem View.put {h : AHeap} {n : Nat} {v : AV} {es : List (List AV)} (V : View h n v es) {id : Nat} (hid : ∀ r, h.row id = some r → r.sz ≠ n) (o : AObj) : View (h.put id o) n v es := by
  rcases V with V | ⟨i', g', s', cp, ex, rr, w1, w2, w3, w4, w5⟩
  · exact .inl V
  · refine .inr ⟨i', g', s', cp, ex, rr, w1, ?_, w3, w4, w5⟩
    have hne : i' ≠ id := fun e => hid rr (by rw [← e]; exact w2) w4
    rw [AHeap.row_some] at w2 ⊢
    rw [AHeap.get_put, if_neg hne]; exact w2
theorem View.leaf {h : AHeap} {n : Nat} {v : AV} {es : List (List AV)} (V : View h n v es) : v.leaf = true := by
  rcases V with ⟨rfl, rfl | rfl⟩ | ⟨id, g, s, cap, ex, r, rfl, _⟩ <;> rfl
theorem View.len {h : AHeap} {n : Nat} {v : AV} {es : List (List AV)} (V : View h n v es) : lenA h 1 v = some (.int .i64 (es.length : Int)) := by
  rcases V with ⟨rfl, rfl | rfl⟩ | ⟨id, g, s, cap, ex, r, rfl, _⟩ <;> rfl
theorem View.at {h : AHeap} {n : Nat} {v : AV} {es : List (List AV)} (V : View h n v es) {i : Nat} {e : List AV} (hi : es[i]? = some e) :
    ∃ id g j, (∀ k, iadrA h n v (.int k (i : Int)) = some (.ptr id g j 0)) ∧ ∀ ag off m, loadA h ag m (.ptr id g j off) = partA ag off m e := by
  rcases V with ⟨rfl, _⟩ | ⟨id, g, s, cap, ex, r, rfl, h2, h3, h4, h5, h6⟩
  · simp at hi
  · have hlt : i < es.length := (List.getElem?_eq_some_iff.1 hi).1
    refine ⟨id, g, s + i, fun k => ?_, fun ag off m => ?_⟩
    · have : rowSz h id n = true := by simp only [rowSz, h2, nbeq_true]; exact h4
      simp only [iadrA, asNat_nat, nblt_true.2 hlt, this, Bool.and_self, cond_true]
    · have hn : nth r.es (s + i) = some e := by
        rw [nth_eq]
        rw [← h5, List.getElem?_take] at hi
        simp only [hlt, if_true, List.getElem?_drop] at hi
        exact hi
      simp only [loadA, h2, nble_true.2 h3, cond_true, hn]
theorem View.src {h : AHeap} {n : Nat} {v : AV} {es : List (List AV)} (V : View h n v es) : source h n v = some es := by
  rcases V with ⟨rfl, rfl | rfl⟩ | ⟨id, g, s, cap, ex, r, rfl, h2, h3, h4, h5, h6⟩
  · rfl
  · rfl
  · simp only [source]
    cases hb : Nat.beq es.length 0 with
    | true =>
      rw [cond_true]
      have := nbeq_true.1 hb
      rw [List.length_eq_zero_iff.1 this]
    | false =>
      simp only [cond_false, h2, nble_true.2 h3, nbeq_true.2 h4, Bool.and_self, cond_true, h5, nbeq_true.2 rfl]
theorem View.cut {h : AHeap} {n : Nat} {v : AV} {es : List (List AV)} (V : View h n v es) {k j : IntKind} {a b : Nat} (hab : a ≤ b) (hb : b ≤ es.length) :
    ∃ v', sliceV h n v (some (.int k (a : Int))) (some (.int j (b : Int))) none = some v' ∧ View h n v' ((es.take b).drop a) := by
  rcases V with ⟨rfl, rfl | rfl⟩ | ⟨id, g, s, cap, ex, r, rfl, h2, h3, h4, h5, h6⟩
  · have h1 : b = 0 := by simpa using hb
    have h0 : a = 0 := by omega
    subst h1; subst h0
    exact ⟨.nilSlc, by simp [sliceV, natV, asNat], .inl ⟨rfl, .inl rfl⟩⟩
  · have h1 : b = 0 := by simpa using hb
    have h0 : a = 0 := by omega
    subst h1; subst h0
    exact ⟨.emp, by simp [sliceV, natV, asNat], .inl ⟨rfl, .inr rfl⟩⟩
  · have hr : rowSz h id n = true := by simp only [rowSz, h2, nbeq_true]; exact h4
    refine ⟨.slc id g (s + a) (b - a) (cap - a) ex, ?_, .inr ⟨id, g, s + a, cap - a, ex, r, ?_, h2, h3, h4, ?_, ?_⟩⟩
    · simp only [sliceV, hr, cond_true, natV, asNat_nat, nble_true.2 hab, nble_true.2 (Nat.le_trans hb h6), Bool.and_self]
    · simp; omega
    · have e1 : ((es.take b).drop a).length = b - a := by simp; omega
      rw [e1]
      have e2 : es.take b = (r.es.drop s).take b := by rw [← h5, List.take_take]; congr 1; omega
      rw [e2, List.drop_take, List.drop_drop]
    · simp; omega
theorem View.back {h : AHeap} {n : Nat} {v : AV} {es : List (List AV)} (V : View h n v es) {k : IntKind} {a : Nat} (ha : a ≤ es.length) :
    ∃ v', sliceV h n v (some (.int k (a : Int))) none none = some v' ∧ View h n v' (es.drop a) := by
  obtain ⟨v', h1, h2⟩ := V.cut (k := k) (j := .i64) ha (Nat.le_refl _)
  refine ⟨v', ?_, by simpa using h2⟩
  rw [← h1]
  rcases V with ⟨rfl, rfl | rfl⟩ | ⟨id, g, s, cap, ex, r, rfl, h2, h3, h4, h5, h6⟩
  · simp [sliceV, natV, asNat]
  · simp [sliceV, natV, asNat]
  · simp only [sliceV, natV, asNat_nat]
def Own (b : Nat) (h : AHeap) (n : Nat) (v : AV) (es : List (List AV)) : Prop :=
  (v = .nilSlc ∧ es = []) ∨ ∃ id r, b ≤ id ∧ v = .slc id r.g 0 es.length es.length false ∧ h.row id = some r ∧ r.rw = true ∧ r.m ≤ r.g ∧ r.sz = n ∧ r.es = es
theorem Own.view {b : Nat} {h : AHeap} {n : Nat} {v : AV} {es : List (List AV)} (O : Own b h n v es) : View h n v es := by
  rcases O with ⟨rfl, rfl⟩ | ⟨id, r, _, rfl, h2, h3, h4, h5, h6⟩
  · exact View.nil h n
  · exact .inr ⟨id, r.g, 0, es.length, false, r, rfl, h2, h4, h5, by simp [h6], Nat.le_refl _⟩
theorem Own.ext {b n : Nat} {h h' : AHeap} {v : AV} {es : List (List AV)} (V : Own b h n v es) (e : Ext h h') : Own b h' n v es := by
  rcases V with V | ⟨id, r, w1, w2, w3, w4, w5, w6, w7⟩
  · exact .inl V
  · exact .inr ⟨id, r, w1, w2, e.row w3, w4, w5, w6, w7⟩
theorem Own.nil (b : Nat) (h : AHeap) (n : Nat) : Own b h n .nilSlc [] := .inl ⟨rfl, rfl⟩
structure Ext1 (b : Nat) (id : Nat) (h h' : AHeap) : Prop where
  sz : h.sz ≤ h'.sz
  keep : ∀ j o, j < h.sz → j ≠ id → h.get j = some o → h'.get j = some o
theorem ext_push {h : AHeap} (gone : ∀ id, h.sz ≤ id → h.get id = none) (o : AObj) : Ext h (h.push o) := by
  refine ⟨by simp, fun id x e => ?_⟩
  rw [AHeap.get_push]
  have : id ≠ h.sz := fun hh => by rw [gone id (by omega)] at e; cases e
  rw [if_neg this]; exact e
def AHeap.Ok (h : AHeap) : Prop := ∀ id, h.sz ≤ id → h.get id = none
theorem AHeap.Ok.push {h : AHeap} (k : h.Ok) (o : AObj) : (h.push o).Ok := by
  intro id hid
  simp at hid
  rw [AHeap.get_push, if_neg (by omega)]
  exact k id (by omega)
theorem AHeap.Ok.lt {h : AHeap} (k : h.Ok) {id : Nat} {o : AObj} (e : h.get id = some o) : id < h.sz := by
  rcases Nat.lt_or_ge id h.sz with h1 | h1
  · exact h1
  · rw [k id h1] at e; cases e
theorem AHeap.Ok.put {h : AHeap} (k : h.Ok) {id : Nat} (hid : id < h.sz) (o : AObj) : (h.put id o).Ok := by
  intro j hj
  rw [AHeap.get_put, if_neg (by simp at hj; omega)]
  exact k j (by simpa using hj)
theorem ext_put {h0 h : AHeap} (e : Ext h0 h) (k0 : h0.Ok) {id : Nat} (hid : h0.sz ≤ id) (o : AObj) : Ext h0 (h.put id o) := by
  refine ⟨by simpa using e.1, fun j x hj => ?_⟩
  rw [AHeap.get_put]
  have := k0.lt hj
  rw [if_neg (by omega)]
  exact e.2 j x hj
def TyOf (h : AHeap) (v : AV) (e : Nat) : Prop := ∀ id g s l c ex, v = .slc id g s l c ex → ∃ r, h.row id = some r ∧ r.ty = some e
theorem Own.appT {b : Nat} {h h0 : AHeap} {n bytes : Nat} {v x : AV} {es new : List (List AV)} (nt : Option Nat) (O : Own b h n v es) (hn : 0 < n) (hb : b ≤ h.sz) (k : h.Ok) (k0 : h0.Ok) (e0 : Ext h0 h) (hb0 : h0.sz ≤ b) (hs : source h n x = some new)
    (h1 : (es.length + new.length) * bytes ≤ most) (h2 : es.length + new.length ≤ most) :
    ∃ v' h', appendA h n bytes v x nt = some (v', h') ∧ Own b h' n v' (es ++ new) ∧ h'.Ok ∧ Ext h0 h' ∧ h.sz ≤ h'.sz ∧
      (∀ j o, h.get j = some o → (∀ id g s l c ex, v = .slc id g s l c ex → j ≠ id) → h'.get j = some o) ∧ (∀ k u q, View h k u q → View h' k u q) ∧ (∀ e, nt = some e → TyOf h v e → TyOf h' v' e) := by
  have hn0 : Nat.beq n 0 = false := nbeq_false.2 (by omega)
  simp only [appendA, hn0, cond_false, hs]
  have hrow : ∀ (h : AHeap) (r : Row), (h.push (.row r)).row h.sz = some r := fun h r => by rw [AHeap.row_some, AHeap.get_push, if_pos rfl]
  rcases O with ⟨rfl, rfl⟩ | ⟨id, r, o1, rfl, o2, o3, o4, o5, o6⟩
  · cases new with
    | nil => exact ⟨.nilSlc, h, rfl, .inl ⟨rfl, rfl⟩, k, e0, Nat.le_refl _, fun j o hj _ => hj, fun _ _ _ V => V, fun _ _ T => T⟩
    | cons y new =>
      refine ⟨.slc h.sz 0 0 (y :: new).length (y :: new).length false, newRow h (y :: new) n nt, ?_, .inr ⟨h.sz, { es := y :: new, sz := n, g := 0, m := 0, rw := true, ty := nt }, hb, by simp, hrow _ _, rfl, Nat.le_refl _, rfl, rfl⟩, k.push _, e0.trans (ext_push k _), by simp [newRow], fun j o hj _ => (ext_push k _).2 j o hj, fun _ _ _ V => V.ext (ext_push k _), fun e he _ id g s l c ex hv => ⟨_, by cases hv; exact hrow _ _, he⟩⟩
      simp only [appendNew]
      rw [nble_true.2 (by simpa using h1), nble_true.2 (by simpa using h2)]
      rfl
  · cases new with
    | nil => exact ⟨.slc id r.g 0 es.length es.length false, h, rfl, .inr ⟨id, r, o1, by simp, o2, o3, o4, o5, by simpa using o6⟩, k, e0, Nat.le_refl _, fun j o hj _ => hj, fun _ _ _ V => V, fun _ _ T id g s l c ex hv => T id g s l c ex (by simpa using hv)⟩
    | cons y new =>
      have hid := k.lt (AHeap.row_some.1 o2)
      have hnc : Nat.ble (es.length + (y :: new).length) es.length = false := by
        cases hh : Nat.ble (es.length + (y :: new).length) es.length with
        | false => rfl
        | true => have := nble_true.1 hh; simp at this; omega
      refine ⟨.slc id (r.g + 1) 0 (es.length + (y :: new).length) (es.length + (y :: new).length) false, h.put id (.row { r with es := r.es ++ (y :: new), g := r.g + 1, ty := tyJoin r.ty nt }), ?_, .inr ⟨id, { r with es := r.es ++ (y :: new), g := r.g + 1, ty := tyJoin r.ty nt }, o1, by simp, ?_, o3, by simp only; omega, o5, by simp [o6]⟩, k.put hid _, ext_put e0 k0 (by omega) _, by simp, fun j o hj hne => ?_, fun kk u q V => ?_, fun e he T id' g' s' l' c' ex' hv => ?_⟩
      · simp only [appendNew, o2]
        rw [nble_true.2 h1, nble_true.2 h2, nbeq_true.2 o5]
        simp only [Bool.and_self, cond_true, hnc, cond_false, o3, nbeq_true.2 rfl, nbeq_true.2 (show es.length = r.es.length by rw [o6])]
      · rw [AHeap.row_some, AHeap.get_put, if_pos rfl]
      · rw [AHeap.get_put, if_neg (hne id _ _ _ _ _ rfl)]; exact hj
      · rcases V with V | ⟨i', g', s', cp, ex, rr, w1, w2, w3, w4, w5, w6⟩
        · exact .inl V
        · by_cases hi : i' = id
          · subst hi
            rw [o2] at w2; cases w2
            refine .inr ⟨i', g', s', cp, ex, { r with es := r.es ++ (y :: new), g := r.g + 1, ty := tyJoin r.ty nt }, w1, by rw [AHeap.row_some, AHeap.get_put, if_pos rfl], w3, w4, ?_, w6⟩
            simp only
            by_cases hq : q.length = 0
            · rw [hq, List.take_zero]; exact (List.length_eq_zero_iff.1 hq).symm
            · have hlen : ((r.es.drop s').take q.length).length = q.length := by rw [w5]
              rw [List.length_take, List.length_drop] at hlen
              rw [List.drop_append_of_le_length (by omega), List.take_append_of_le_length (by rw [List.length_drop]; omega)]
              exact w5
          · refine .inr ⟨i', g', s', cp, ex, rr, w1, ?_, w3, w4, w5, w6⟩
            rw [AHeap.row_some] at w2 ⊢
            rw [AHeap.get_put, if_neg hi]; exact w2
      · cases hv
        obtain ⟨r', q1, q2⟩ := T id _ _ _ _ _ rfl
        rw [o2] at q1; cases q1
        refine ⟨_, by rw [AHeap.row_some, AHeap.get_put, if_pos rfl], ?_⟩
        simp [q2, he, tyJoin]
theorem Own.app {b : Nat} {h h0 : AHeap} {n bytes : Nat} {v x : AV} {es new : List (List AV)} (O : Own b h n v es) (hn : 0 < n) (hb : b ≤ h.sz) (k : h.Ok) (k0 : h0.Ok) (e0 : Ext h0 h) (hb0 : h0.sz ≤ b) (hs : source h n x = some new)
    (h1 : (es.length + new.length) * bytes ≤ most) (h2 : es.length + new.length ≤ most) :
    ∃ v' h', appendA h n bytes v x = some (v', h') ∧ Own b h' n v' (es ++ new) ∧ h'.Ok ∧ Ext h0 h' ∧ h.sz ≤ h'.sz ∧
      (∀ j o, h.get j = some o → (∀ id g s l c ex, v = .slc id g s l c ex → j ≠ id) → h'.get j = some o) ∧ (∀ k u q, View h k u q → View h' k u q) := by
  obtain ⟨v', h', a1, a2, a3, a4, a5, a6, a7, _⟩ := O.appT none hn hb k k0 e0 hb0 hs h1 h2
  exact ⟨v', h', a1, a2, a3, a4, a5, a6, a7⟩
theorem Own.appb {b : Nat} {h h0 : AHeap} {e : Nat} {v x : AV} {es new : List (List AV)} (O : Own b h 1 v es) (hb : b ≤ h.sz) (k : h.Ok) (k0 : h0.Ok) (e0 : Ext h0 h) (hb0 : h0.sz ≤ b) (hs : source h 1 x = some new) (h2 : es.length + new.length ≤ most) :
    ∃ v' h', appbA h e v x = some (v', h') ∧ Own b h' 1 v' (es ++ new) ∧ h'.Ok ∧ Ext h0 h' ∧ h.sz ≤ h'.sz ∧
      (∀ j o, h.get j = some o → (∀ id g s l c ex, v = .slc id g s l c ex → j ≠ id) → h'.get j = some o) ∧ (∀ k u q, View h k u q → View h' k u q) ∧ (TyOf h v e → TyOf h' v' e) := by
  obtain ⟨v', h', a1, a2, a3, a4, a5, a6, a7, a8⟩ := O.appT (bytes := 1) (some e) (by decide) hb k k0 e0 hb0 hs (by omega) h2
  exact ⟨v', h', a1, a2, a3, a4, a5, a6, a7, a8 e rfl⟩
end Go.Ab
namespace Go.Ab
set_option linter.unusedSimpArgs false
set_option linter.unusedVariables false
theorem PT.setF_lf_setF {α : Type} : ∀ (f g : Nat) (t : PT α) (n : Nat) (x y : Option α), n < f → n < g → PT.setF g (PT.setF f t n x) n y = PT.setF g t n y
  | 0, _, _, n, _, _, h, _ => absurd h (Nat.not_lt_zero n)
  | _, 0, _, n, _, _, _, h => absurd h (Nat.not_lt_zero n)
  | f + 1, g + 1, t, n, x, y, h1, h2 => by
    cases n with
    | zero => cases t <;> rfl
    | succ k =>
      have d1 : Nat.div k 2 = k / 2 := rfl
      have hf : Nat.div k 2 < f := by omega
      have hg : Nat.div k 2 < g := by omega
      cases t with
      | lf =>
        simp only [PT.setF]
        cases hb : Nat.beq (Nat.mod k 2) 0 <;> simp only [cond_true, cond_false, PT.setF, hb] <;> rw [PT.setF_lf_setF f g _ _ _ _ hf hg]
      | nd l v r =>
        simp only [PT.setF]
        cases hb : Nat.beq (Nat.mod k 2) 0 <;> simp only [cond_true, cond_false, PT.setF, hb] <;> rw [PT.setF_lf_setF f g _ _ _ _ hf hg]
theorem PT.set_set {α : Type} (t : PT α) (n : Nat) (x y : α) : (t.set n x).set n y = t.set n y := PT.setF_lf_setF _ _ _ _ _ _ (Nat.lt_succ_self n) (Nat.lt_succ_self n)
theorem push_put (h : AHeap) (a b : AObj) : (h.push a).put h.sz b = h.push b := by
  simp only [AHeap.push, AHeap.put, PT.set_set]
@[simp] theorem newRow_sz (h : AHeap) (es : List (List AV)) (n : Nat) : (newRow h es n).sz = h.sz + 1 := rfl
def VRow (cells : List AV) : Row := { es := [cells], sz := cells.length, g := 0, m := 0, rw := true }
def Var (h : AHeap) (id : Nat) (cells : List AV) : Prop := h.row id = some (VRow cells)
theorem Var.ext {h h' : AHeap} {id : Nat} {c : List AV} (V : Var h id c) (e : Ext h h') : Var h' id c := e.row V
theorem Var.lt {h : AHeap} {id : Nat} {c : List AV} (V : Var h id c) (k : h.Ok) : id < h.sz := k.lt (AHeap.row_some.1 V)
theorem Var.load {h : AHeap} {id : Nat} {c : List AV} (V : Var h id c) (ag : Bool) (off n : Nat) : loadA h ag n (.ptr id 0 0 off) = partA ag off n c := by
  have V' : h.row id = some (VRow c) := V
  simp only [loadA, V', VRow, Nat.ble_self_eq_true, cond_true, nth_zero]
theorem var_new (h : AHeap) (c : List AV) : Var (newRow h [c] c.length) h.sz c := by
  show AHeap.row _ _ = _
  rw [AHeap.row_some]
  simp only [newRow, AHeap.get_push, if_pos, VRow]
theorem alloc_eq {h : AHeap} {z : List AV} (h1 : 0 < z.length) (h2 : allLeaf z = true) : allocV h z = some (.ptr h.sz 0 0 0, newRow h [z] z.length) := by
  simp only [allocV, allocA, nbeq_false.2 (show z.length ≠ 0 by omega), h2, cond_false, cond_true]
theorem box_eq {h : AHeap} {n : Nat} {v : AV} (h0 : v.cells.length = n) (h1 : 0 < n) (h2 : allLeaf v.cells = true) : boxA h n v = some (.ptr h.sz 0 0 0, newRow h [v.cells] n) := by
  simp only [boxA, nbeq_true.2 h0, nblt_true.2 h1, h2, Bool.and_self, cond_true]
theorem lay_len {α : Type} {l new : List α} {n : Nat} (h : n + new.length ≤ l.length) : (lay l n new).length = l.length := by
  simp [lay]; omega
theorem Var.store {h : AHeap} {id : Nat} {c : List AV} (V : Var h id c) {n off : Nat} {v : AV} (h0 : v.cells.length = n) (h1 : off + n ≤ c.length) (h2 : allLeaf v.cells = true) :
    storeA h n (.ptr id 0 0 off) v = some (h.put id (.row (VRow (lay c off v.cells)))) := by
  have V' : h.row id = some (VRow c) := V
  have e : (lay c off v.cells).length = c.length := lay_len (by omega)
  simp only [storeA, V', VRow, Nat.beq_refl, nbeq_true.2 h0, h2, Bool.and_self, cond_true, nth_zero, nble_true.2 h1, setNth, e]
theorem cells_leaf {v : AV} (h : v.leaf = true) : v.cells = [v] := by cases v <;> first | rfl | cases h
theorem lay_one {α : Type} {l : List α} {n : Nat} {x : α} (h : n < l.length) : lay l n [x] = l.set n x := by
  rw [List.set_eq_take_append_cons_drop]
  simp [lay, h]
theorem Var.set1 {h : AHeap} {id : Nat} {c : List AV} (V : Var h id c) {off : Nat} {v : AV} (h1 : off < c.length) (h2 : v.leaf = true) :
    storeA h 1 (.ptr id 0 0 off) v = some (h.put id (.row (VRow (c.set off v)))) := by
  have hc := cells_leaf h2
  rw [V.store (n := 1) (by rw [hc]; rfl) (by omega) (by rw [hc]; simp [allLeaf, h2]), hc, lay_one h1]
theorem var_put {h : AHeap} (id : Nat) (c : List AV) : Var (h.put id (.row (VRow c))) id c := by
  show AHeap.row _ _ = _
  rw [AHeap.row_some, AHeap.get_put, if_pos rfl]
theorem store_new {h : AHeap} {z : List AV} {n : Nat} {v : AV} (hz : z.length = n) (h0 : v.cells.length = n) (h2 : allLeaf v.cells = true) :
    storeA (newRow h [z] n) n (.ptr h.sz 0 0 0) v = some (newRow h [v.cells] n) := by
  subst hz
  rw [(var_new h z).store h0 (by omega) h2]
  have : lay z 0 v.cells = v.cells := by simp [lay]; omega
  rw [this]
  simp only [newRow, push_put, VRow, h0]
theorem alloc_set {h : AHeap} {z : List AV} {n : Nat} {v : AV} {k : Kont} (hz : z.length = n) (hp : 0 < n) (hl : allLeaf z = true) (h0 : v.cells.length = n) (h2 : allLeaf v.cells = true) :
    (optP (allocV h z) fun p h => optP (unit (storeA h n p v)) fun _ h => k p h) = k (.ptr h.sz 0 0 0) (newRow h [v.cells] n) := by
  rw [alloc_eq (by omega) hl, optP_some, hz, store_new hz h0 h2]
  rfl
def StrMap (h : AHeap) (id : Nat) (f : List Nat → Option AV) : Prop :=
  ∃ es c, h.get id = some (.map es c) ∧ (∀ e ∈ es, ∃ s, e.1 = .str s) ∧ ∀ s, findE (.str s) es = some (f s)
theorem StrMap.ext {h h' : AHeap} {id : Nat} {f : List Nat → Option AV} (M : StrMap h id f) (e : Ext h h') : StrMap h' id f := by
  obtain ⟨es, c, h1, h2⟩ := M
  exact ⟨es, c, e.2 id _ h1, h2⟩
theorem StrMap.look {h : AHeap} {id : Nat} {f : List Nat → Option AV} (M : StrMap h id f) (z : AV) (s : List Nat) : lookA h (.leaf .str) false z (.map id) (.str s) = some ((f s).getD z) := by
  obtain ⟨es, c, h1, h2, h3⟩ := M
  simp only [lookA, fitsKK, fits0, cond_true, mapOf, h1, h3]
  cases f s <;> rfl
theorem StrMap.look2 {h : AHeap} {id : Nat} {f : List Nat → Option AV} (M : StrMap h id f) (z : AV) (s : List Nat) : lookA h (.leaf .str) true z (.map id) (.str s) = some (.tup [(f s).getD z, .bool (f s).isSome]) := by
  obtain ⟨es, c, h1, h2, h3⟩ := M
  simp only [lookA, fitsKK, fits0, cond_true, mapOf, h1, h3]
  cases f s <;> rfl
theorem keyEq_str (a b : List Nat) : keyEq (.str a) (.str b) = some (decide (a = b)) := by
  simp only [keyEq, leafEq, leqb_dec]
theorem findE_append (s t : List Nat) (v : AV) (c : Nat) : ∀ (es : List (AV × AV × Nat)), (∀ e ∈ es, ∃ s, e.1 = .str s) → findE (.str t) es = some none →
    findE (.str s) (es ++ [(.str t, v, c)]) = if s = t then some (some v) else findE (.str s) es
  | [], _, _ => by
    simp only [List.nil_append, findE, keyEq_str]
    by_cases e : s = t <;> simp [e]
  | (k, u, b) :: es, hk, hf => by
    obtain ⟨x, hx⟩ := hk _ List.mem_cons_self
    simp only at hx; subst hx
    simp only [findE, keyEq_str] at hf
    simp only [List.cons_append, findE, keyEq_str]
    by_cases e1 : t = x
    · simp [e1] at hf
    · simp [e1] at hf
      have ih := findE_append s t v c es (fun e he => hk e (List.mem_cons_of_mem _ he)) hf
      by_cases e2 : s = x
      · subst e2
        have : ¬ s = t := fun h => e1 h.symm
        simp [this]
      · simp [e2, ih]
theorem findE_set (s t : List Nat) (v : AV) : ∀ (es : List (AV × AV × Nat)), (∀ e ∈ es, ∃ s, e.1 = .str s) → (∃ u, findE (.str t) es = some (some u)) →
    findE (.str s) (setE (.str t) v es) = (if s = t then some (some v) else findE (.str s) es) ∧ (∀ e ∈ setE (.str t) v es, ∃ s, e.1 = .str s)
  | [], _, hf => by obtain ⟨u, hf⟩ := hf; simp [findE] at hf
  | (k, u, b) :: es, hk, hf => by
    obtain ⟨x, hx⟩ := hk _ List.mem_cons_self
    simp only at hx; subst hx
    obtain ⟨w, hf⟩ := hf
    simp only [findE, keyEq_str] at hf
    simp only [setE, keyEq_str]
    by_cases e1 : t = x
    · subst e1
      simp only [decide_true]
      refine ⟨?_, ?_⟩
      · simp only [findE, keyEq_str]
        by_cases e2 : s = t <;> simp [e2]
      · intro e he
        rcases List.mem_cons.1 he with rfl | he
        · exact ⟨t, rfl⟩
        · exact hk e (List.mem_cons_of_mem _ he)
    · simp [e1] at hf
      obtain ⟨i1, i2⟩ := findE_set s t v es (fun e he => hk e (List.mem_cons_of_mem _ he)) ⟨w, hf⟩
      simp only [e1, decide_false]
      refine ⟨?_, ?_⟩
      · simp only [findE, keyEq_str]
        by_cases e2 : s = x
        · subst e2
          have : ¬ s = t := fun h => e1 h.symm
          simp [this]
        · simp [e2, i1]
      · intro e he
        rcases List.mem_cons.1 he with rfl | he
        · exact ⟨x, rfl⟩
        · exact i2 e he
theorem StrMap.upd {h : AHeap} {id : Nat} {f : List Nat → Option AV} (M : StrMap h id f) (t : List Nat) (v : AV) :
    ∃ o, mupdA h (.leaf .str) (.map id) (.str t) v = some (h.put id o) ∧ StrMap (h.put id o) id (fun s => if s = t then some v else f s) := by
  obtain ⟨es, c, h1, h2, h3⟩ := M
  have h4 := h3 t
  cases hft : f t with
  | none =>
    rw [hft] at h4
    refine ⟨.map (es ++ [(.str t, v, c)]) (c + 1), ?_, es ++ [(.str t, v, c)], c + 1, by rw [AHeap.get_put, if_pos rfl], ?_, fun s => ?_⟩
    · simp only [mupdA, fitsKK, fits0, cond_true, h1, h4]
    · intro e he
      rcases List.mem_append.1 he with he | he
      · exact h2 e he
      · simp at he; subst he; exact ⟨t, rfl⟩
    · rw [findE_append s t v c es h2 h4, h3 s]
      by_cases e : s = t <;> simp [e]
  | some u =>
    rw [hft] at h4
    refine ⟨.map (setE (.str t) v es) c, ?_, setE (.str t) v es, c, by rw [AHeap.get_put, if_pos rfl], (findE_set t t v es h2 ⟨u, h4⟩).2, fun s => ?_⟩
    · simp only [mupdA, fitsKK, fits0, cond_true, h1, h4]
    · rw [(findE_set s t v es h2 ⟨u, h4⟩).1, h3 s]
      by_cases e : s = t <;> simp [e]
theorem StrMap.lt {h : AHeap} {id : Nat} {f : List Nat → Option AV} (M : StrMap h id f) (k : h.Ok) : id < h.sz := by
  obtain ⟨es, c, h1, _⟩ := M; exact k.lt h1
theorem StrMap.other {h : AHeap} {id j : Nat} {f : List Nat → Option AV} (M : StrMap h id f) (e : id ≠ j) (o : AObj) : StrMap (h.put j o) id f := by
  obtain ⟨es, c, h1, h2⟩ := M
  exact ⟨es, c, by rw [AHeap.get_put, if_neg e]; exact h1, h2⟩
theorem Var.other {h : AHeap} {id j : Nat} {c : List AV} (V : Var h id c) (e : id ≠ j) (o : AObj) : Var (h.put j o) id c := by
  show AHeap.row _ _ = _
  rw [AHeap.row_some, AHeap.get_put, if_neg e]
  exact AHeap.row_some.1 V
theorem ext_newRow {h : AHeap} (k : h.Ok) (es : List (List AV)) (n : Nat) : Ext h (newRow h es n) := ext_push k _
theorem ok_newRow {h : AHeap} (k : h.Ok) (es : List (List AV)) (n : Nat) : (newRow h es n).Ok := k.push _
end Go.Ab
namespace Go.Ab
set_option linter.unusedSimpArgs false
set_option linter.unusedVariables false
theorem ok_of_rel {P : Program} {B : Base} {φ : Phi} {h : AHeap} {w : World} (H : RelH P B φ h w) : h.Ok := fun id hid => H.gone id hid
theorem RCons.mono {α β : Type} {n : Nat} {R : Rd α} {S : Rd β} (hR : Mono R) (hS : Mono S) : Mono (RCons n R S) := by
  rintro h h' a x e ⟨b, c, h1, h2, h3, h4⟩
  exact ⟨b, c, h1, h2, hR _ _ _ _ e h3, hS _ _ _ _ e h4⟩
theorem RNil.mono : Mono RNil := fun _ _ _ _ _ h => h
theorem RStr.mono : Mono RStr := fun _ _ _ _ _ h => h
theorem RInt.mono {k : IntKind} : Mono (RInt k) := fun _ _ _ _ _ h => h
theorem RBool.mono : Mono RBool := fun _ _ _ _ _ h => h
theorem RSl.view {α : Type} {n : Nat} {R : Rd α} {h : AHeap} {a : List AV} {l : List α} (H : RSl n R h a l) : ∃ v es, a = [v] ∧ View h n v es ∧ All2 (R h) es l := by
  rcases H with ⟨rfl, h1 | h1⟩ | ⟨id, cap, r, h1, h2, h3, h4, h5, h6, h7, h8, h9⟩
  · exact ⟨.nilSlc, [], h1, View.nil _ _, .nil⟩
  · exact ⟨.emp, [], h1, .inl ⟨rfl, .inr rfl⟩, .nil⟩
  · have hl := h9.length
    refine ⟨_, r.es.take l.length, h1, .inr ⟨id, 0, 0, cap, true, r, by rw [hl], h2, by omega, h6, ?_, by rw [hl]; exact h7⟩, h9⟩
    rw [hl, List.drop_zero]
theorem hv_agg {cs : Array Value} {n : Nat} : ∀ (φ : Phi) (avs : List AV), RelVs φ avs (Value.agg cs).cells.toList → avs.length = n → RelV φ (.agg avs) (.agg cs) := by
  intro φ avs hr hl
  exact .agg hr
theorem calls_law {H : Type} {enc : TypeId × Value → H} {P : Program} {E : Env} (hmix : P.follows .mixedOrders = true) (hE : EnvOK P E) {f fuel : Nat} {fn : AFun} (hf : E.code f = some fn) {α : Type} {t : TypeId} {n : Nat} {sz : α → Nat} {R : Rd α} {W : World}
    (I : In enc P W true t n sz R) {v : Value} {d : DataW H} {ps : List MemPlace} (ht : DataW.Trod enc P W 0 (fun _ => true) true t v d ps) (mk : List AV → AV) (hv : ∀ (φ : Phi) (avs : List AV), RelVs φ avs v.cells.toList → avs.length = n → RelV φ (mk avs) v)
    (hrun : ∀ h avs x, h.Ok → R h avs x → sz x ≤ bulk d → callN E fuel (.func f) [mk avs] h (fun v _ => isTrue v) = true) :
    Calls P f #[v] W fun e W' => e = .returned (.bool true) ∧ GrownB W W' ∧ ∀ sp' : Nat → Bool, (∀ p ∈ ps, sp' p.block = true) → DataW.Trod enc P W' 0 sp' true t v d ps := by
  obtain ⟨fu, ht⟩ := ht
  obtain ⟨b1, φ, h, avs, x, a1, a2, a3, a4, a5, a6, a7, a8⟩ := I fu _ d ps ht _ _ (relH_empty W)
  have hr := hrun h avs x (ok_of_rel a3) a7 a8
  have h0 := callN_sound hmix hE fuel (.func f) [mk avs] h _ hr (.of W.heap.size) φ W [v] a3 (.cons (hv φ avs a4 a5) .nil)
  simp only at h0
  have h0 := FuncOK.lands h0
  rw [enter_of hE hf] at h0
  have h1 : CallsIn (FW none) 0 P f #[v] W _ := h0 0
  refine (callsIn_wide.1 h1).mono ?_
  rintro e W' ⟨u, h', cv, φ', rfl, hK, hu, _, _, hg⟩
  refine ⟨?_, grown_of hg, fun sp' hsp => ⟨fu, b1 W' sp' (fun k hk => hg.below k hk) hsp⟩⟩
  cases hu <;> first | (cases hK; done) | skip
  rename_i b
  cases b with
  | false => cases hK
  | true => rfl
section
open Go.ChangeShapes
theorem post_same {H : Type} {enc : TypeId × Value → H} {P : Program} {f : Func} {s : ChangeSpec} {apart fresh handsOn again : Bool} {W W' : World} {args : Array Value} {v : Value} {ds gs : List (DataW H)} {before pa pv : List MemPlace}
    (hW : DataW.Whole enc P f.params.toList s.vars apart W args.toList ds gs before)
    (hres : ∀ (b : Nat) (sp : Nat → Bool) (hd : Bool), DataW.TrodAll enc P W' b sp hd f.resultTypes.toList (v.resultList f.resultTypes.size) (s.fn H (ds ++ gs)).results [])
    (hargs : ∀ sp : Nat → Bool, (∀ p ∈ before, sp p.block = true) → DataW.TrodAll enc P W' 0 sp true f.params.toList args.toList (s.fn H (ds ++ gs)).args pa)
    (hvars : ∀ sp : Nat → Bool, (∀ p ∈ before, sp p.block = true) → DataW.TrodVars enc P W' sp s.vars (s.fn H (ds ++ gs)).vars pv)
    (hps : before = pa ++ pv) (hk : W.keptBut W' (· ∈ before)) (hfz : ∀ a : Addr, a.block < W.heap.size → W'.frozen? a = W.frozen? a)
    (hok : ∀ (j : Nat) (t : TypeId) (r : Value), f.resultTypes[j]? = some t → (v.resultList f.resultTypes.size)[j]? = some r → Value.okWide P W' .any 0 t r) :
    s.post enc P f apart fresh handsOn again W args v W' := by
  have hlt := fun p hp => hW.lt p hp
  have hold : ∀ p ∈ before, (fun b => decide (b < W.heap.size)) p.block = true := fun p hp => by simpa using hW.lt p hp
  refine ⟨ds, gs, before, [], pa, pv, hW, hres _ _ _, hargs _ hold, hvars _ hold, World.keptBut_mono (fun p hp => ⟨hp, ?_⟩) hk, fun _ => ?_⟩
  · rw [hps, List.mem_append] at hp
    exact Or.inr hp
  · obtain ⟨_, _, _, _, _, hz, hn⟩ := hW
    refine ⟨hok, _, _, ([] ++ pa) ++ pv, ⟨[] ++ pa, pv, trodAll_append (hargs _ (fun _ _ => rfl)) (hres _ _ _), hvars _ (fun _ _ => rfl), rfl, ?_, ?_⟩, ?_⟩
    · intro b off hp
      have hm : MemPlace.cell b off ∈ before := by rw [hps]; simpa using hp
      rw [hfz ⟨b, off, none⟩ (hlt _ hm)]
      exact hz b off hm
    · intro ha
      have := hn ha
      rw [hps] at this
      simpa using this
    · intro p hp _
      rw [hps]
      simpa using hp
end
end Go.Ab
namespace Go.Ab
set_option linter.unusedSimpArgs false
set_option linter.unusedVariables false
inductive Val where
  | mk (kind : Int) (b : Bool) (n : Int) (t : List Nat) (l : List Val) : Val
mutual
def RV (h : AHeap) : List AV → Val → Prop
  | a, .mk k b n t l => ∃ lv es, a = [.int .i64 k, .bool b, .int .i64 n, .str t, lv] ∧ View h 5 lv es ∧ RVs h es l ∧ (-9223372036854775808 ≤ n ∧ n ≤ 9223372036854775807) ∧ (-9223372036854775808 ≤ k ∧ k ≤ 9223372036854775807) ∧ ∀ x ∈ t, x < 256
def RVs (h : AHeap) : List (List AV) → List Val → Prop
  | es, [] => es = []
  | es, v :: l => ∃ e r, es = e :: r ∧ RV h e v ∧ RVs h r l
end
mutual
def szV : Val → Nat
  | .mk _ _ _ t l => t.length + szVs l + 1
def szVs : List Val → Nat
  | [] => 0
  | v :: l => szV v + szVs l
end
mutual
theorem RV.ext {h h' : AHeap} (e : Ext h h') : ∀ {a : List AV} {v : Val}, RV h a v → RV h' a v
  | a, .mk k b n t l, H => by
    simp only [RV] at H ⊢
    obtain ⟨lv, es, h1, h2, h3, h4⟩ := H
    exact ⟨lv, es, h1, h2.ext e, RVs.ext e h3, h4⟩
theorem RVs.ext {h h' : AHeap} (e : Ext h h') : ∀ {es : List (List AV)} {l : List Val}, RVs h es l → RVs h' es l
  | es, [], H => by simp only [RVs] at H ⊢; exact H
  | es, v :: l, H => by
    simp only [RVs] at H ⊢
    obtain ⟨x, r, h1, h2, h3⟩ := H
    exact ⟨x, r, h1, RV.ext e h2, RVs.ext e h3⟩
end
theorem RVs.all2 {h : AHeap} : ∀ {es : List (List AV)} {l : List Val}, RVs h es l → All2 (RV h) es l
  | es, [], H => by simp only [RVs] at H; subst H; exact .nil
  | es, v :: l, H => by
    simp only [RVs] at H
    obtain ⟨x, r, rfl, h2, h3⟩ := H
    exact .cons h2 h3.all2
theorem RVs.of {h : AHeap} {es : List (List AV)} {l : List Val} (A : All2 (RV h) es l) : RVs h es l := by
  induction A with
  | nil => simp [RVs]
  | cons a _ ih => simp only [RVs]; exact ⟨_, _, rfl, a, ih⟩
theorem szVs_eq : ∀ (l : List Val), szVs l = szL szV l
  | [] => rfl
  | v :: l => by simp only [szVs, szL, szVs_eq l]
theorem RV.mono : Mono RV := fun _ _ _ _ e H => RV.ext e H
section
variable {H : Type} {enc : TypeId × Value → H} {P : Program} {W : World} {held : Bool}
theorem inVal {t tl t0 t1 t2 t3 : TypeId} {fs : Array Field} (hu : P.underlying t = some (.struct fs)) (hl : (fs.toList.map fun f => (f.offset, f.type)) = [(0, t0), (1, t1), (2, t2), (3, t3), (4, tl)]) (hn : P.cellsOf t = 5)
    (h0 : P.underlying t0 = some (.int .i64)) (n0 : P.cellsOf t0 = 1) (h1 : P.underlying t1 = some .bool) (n1 : P.cellsOf t1 = 1) (h2 : P.underlying t2 = some (.int .i64)) (n2 : P.cellsOf t2 = 1) (h3 : P.underlying t3 = some .string) (n3 : P.cellsOf t3 = 1) (h4 : P.underlying tl = some (.slice t)) (n4 : P.cellsOf tl = 1) :
    In enc P W held t 5 szV RV := by
  intro fuel
  induction fuel using Nat.strongRecOn with
  | _ fuel ih =>
    match fuel, ih with
    | 0, _ => exact InAt.zero
    | fuel + 1, ih =>
      have hsl : InAt enc P W held tl 1 (fun l => szL szV l + 1) (RSl 5 RV) fuel := by
        match fuel, ih with
        | 0, _ => exact InAt.zero
        | f + 1, ih => exact InAt.slice h4 hn (by decide) RV.mono (ih f (by omega))
      have I := InAt.struct (enc := enc) (W := W) (held := held) hu hl hn
        (InFAt.cons (off := 0) (n := 1) n0 RInt.mono (In.int h0 fuel) (InFAt.cons (off := 1) (n := 1) n1 RBool.mono (In.bool h1 fuel) (InFAt.cons (off := 2) (n := 1) n2 RInt.mono (In.int h2 fuel) (InFAt.cons (off := 3) (n := 1) n3 RStr.mono (In.str h3 fuel) (InFAt.cons (off := 4) (n := 1) n4 (RSl.mono RV.mono) hsl (InF.nil fuel))))))
      refine I.conv ?_
      rintro h a ⟨k, b, n, s, l, u⟩ ⟨b1, c1, rfl, _, ⟨rfl, hk1, hk2⟩, b2, c2, rfl, _, hb, b3, c3, rfl, _, ⟨rfl, hn1, hn2⟩, b4, c4, rfl, _, ⟨rfl, ht⟩, b5, c5, rfl, _, hs, rfl⟩
      obtain ⟨v, es, rfl, hv, he⟩ := hs.view
      have hb' : b2 = [.bool b] := hb
      subst hb'
      refine ⟨.mk k b n s l, ?_, ?_⟩
      · simp only [RV]
        exact ⟨v, es, rfl, hv, RVs.of he, ⟨hn1, hn2⟩, ⟨hk1, hk2⟩, ht⟩
      · simp only [szV, szVs_eq]; omega
theorem inVals {t tl : TypeId} (I : In enc P W held t 5 szV RV) (h4 : P.underlying tl = some (.slice t)) (hn : P.cellsOf t = 5) : In enc P W held tl 1 (fun l => szL szV l + 1) (RSl 5 RV) := In.slice h4 hn (by decide) RV.mono I
end
def VV (h : AHeap) (v : AV) (l : List Val) : Prop := ∃ es, View h 5 v es ∧ All2 (RV h) es l
theorem VV.ext {h h' : AHeap} {v : AV} {l : List Val} (V : VV h v l) (e : Ext h h') : VV h' v l := let ⟨es, h1, h2⟩ := V; ⟨es, h1.ext e, h2.mono fun _ _ r => RV.ext e r⟩
theorem VV.len {h : AHeap} {v : AV} {l : List Val} (V : VV h v l) : lenA h 1 v = some (.int .i64 (l.length : Int)) := by
  obtain ⟨es, h1, h2⟩ := V; rw [h1.len, h2.length]
theorem RV.cells {h : AHeap} {a : List AV} {k n : Int} {b : Bool} {t : List Nat} {l : List Val} (R : RV h a (.mk k b n t l)) : ∃ lv, a = [.int .i64 k, .bool b, .int .i64 n, .str t, lv] ∧ VV h lv l ∧ (-9223372036854775808 ≤ n ∧ n ≤ 9223372036854775807) ∧ (-9223372036854775808 ≤ k ∧ k ≤ 9223372036854775807) ∧ ∀ x ∈ t, x < 256 := by
  simp only [RV] at R
  obtain ⟨lv, es, h1, h2, h3, h4⟩ := R
  exact ⟨lv, h1, ⟨es, h2, h3.all2⟩, h4⟩
theorem VV.leaf {h : AHeap} {v : AV} {l : List Val} (V : VV h v l) : v.leaf = true := by obtain ⟨es, h1, _⟩ := V; exact h1.leaf
theorem VV.at {h : AHeap} {v : AV} {l : List Val} (V : VV h v l) {i : Nat} {x : Val} (hi : l[i]? = some x) :
    ∃ id g j e, (∀ k, iadrA h 5 v (.int k (i : Int)) = some (.ptr id g j 0)) ∧ (∀ ag off m, loadA h ag m (.ptr id g j off) = partA ag off m e) ∧ RV h e x := by
  obtain ⟨es, h1, h2⟩ := V
  obtain ⟨e, he, hr⟩ := h2.get hi
  obtain ⟨id, g, j, p1, p2⟩ := h1.at he
  exact ⟨id, g, j, e, p1, p2, hr⟩
end Go.Ab
namespace Go.Proofs.Ytbamgdknkhhikaa
open Go.Ab
set_option linter.unusedVariables false
set_option maxRecDepth 100000 in
def c5_68 : ACode := .seq (.seq (.reg [gm 89 6, gm 90 3, ⟨some 91, .call (.c (.fn (.func 23) [] [])) [.t 90], none⟩, ⟨some 92, .bin .neq (.t 89) (.t 91), none⟩, gm 93 92, ⟨some 94, .mv (.t 3), some (93, false)⟩, ⟨some 95, .call (.c (.fn (.func 13) [] [])) [.t 94, .c (.fn (.func 30) [] [])], some (93, false)⟩, ⟨some 96, .bin .neq (.t 95) (.c (.int .i64 0)), some (93, false)⟩, ⟨some 97, .pick (.t 93) (.c (.bool true)) (.t 96), none⟩, gm 98 97, ⟨some 99, .mv (.t 3), some (98, false)⟩, ⟨some 100, .call (.c (.fn (.func 23) [] [])) [.t 99], some (98, false)⟩, ⟨some 101, .mv (.t 6), some (98, false)⟩, ⟨some 102, .bin .neq (.t 100) (.t 101), some (98, false)⟩, ⟨some 103, .pick (.t 98) (.c (.bool true)) (.t 102), none⟩]) (.cond (.t 103) (.seq (.reg [⟨some 2, .mv (.c (.bool false)), none⟩]) .ret) .skip)) (.seq (.reg [gm 104 3, ⟨some 105, .call (.c (.fn (.func 13) [] [])) [.t 104, .c (.fn (.func 31) [] [])], none⟩, gm 106 6, ⟨some 107, .bin .eql (.t 105) (.t 106), none⟩, gm 108 107, ⟨some 109, .mv (.t 3), some (108, true)⟩, ⟨some 110, .call (.c (.fn (.func 23) [] [])) [.t 109], some (108, true)⟩, ⟨some 111, .bin .eql (.t 110) (.c (.int .i64 0)), some (108, true)⟩, ⟨some 112, .pick (.t 108) (.t 111) (.c (.bool false)), none⟩, gm 113 112, ⟨some 114, .mv (.t 3), some (113, true)⟩, ⟨some 115, .call (.c (.fn (.func 21) [] [])) [.t 114], some (113, true)⟩, ⟨some 116, .len 1 (.t 115), some (113, true)⟩, ⟨some 117, .bin .eql (.t 116) (.c (.int .i64 0)), some (113, true)⟩, ⟨some 118, .pick (.t 113) (.t 117) (.c (.bool false)), none⟩, gm 119 118, ⟨some 120, .call (.c (.fn (.func 7) [] [])) [], some (119, true)⟩, ⟨some 121, .pick (.t 119) (.t 120) (.c (.bool false)), none⟩, gm 2 121]) .ret)
def c5_48 : ACode := .seq (.seq (.reg [gm 72 7, gm 73 5, ⟨some 74, .len 1 (.t 73), none⟩, ⟨some 75, .bin .lss (.t 72) (.t 74), none⟩]) (.cond (.t 75) .skip (.exit 2))) (.seq (.block 3 (.seq (.reg [gm 78 3, gm 79 5, gm 80 7, ⟨some 81, .iadr 2 (.t 79) (.t 80), none⟩, ⟨some 82, .load true 2 (.t 81), none⟩, ⟨some 83, .call (.c (.fn (.func 24) [] [])) [.t 78, .t 82], none⟩, gm 8 83]) (.seq (.seq (.reg [gm 84 8, ⟨some 85, .bin .lss (.t 84) (.c (.int .i64 1)), none⟩]) (.cond (.t 85) (.seq (.reg [⟨some 2, .mv (.c (.bool false)), none⟩]) .ret) .skip)) (.reg [gm 86 6, gm 87 8, ⟨some 88, .bin .add (.t 86) (.t 87), none⟩, gm 6 88])))) (.reg [gm 76 7, ⟨some 77, .bin .add (.t 76) (.c (.int .i64 1)), none⟩, gm 7 77]))
def c5_39 : ACode := .seq (.reg [gm 70 3, ⟨some 71, .call (.c (.fn (.func 21) [] [])) [.t 70], none⟩, gm 5 71]) (.seq (.reg [⟨some 6, .mv (.c (.int .i64 0)), none⟩]) (.seq (.seq (.reg [⟨some 7, .mv (.c (.int .i64 0)), none⟩]) (.block 2 (.loop c5_48))) c5_68))
def c5_38 : ACode := .reg [gm 25 4, ⟨some 26, .bin .add (.t 25) (.c (.int .i64 1)), none⟩, gm 4 26]
set_option maxRecDepth 100000 in
def c5_33 : ACode := .seq (.reg [⟨some 27, .fadr 0 (.t 1), none⟩, ⟨some 28, .load false 1 (.t 27), none⟩, gm 29 4, ⟨some 30, .iadr 7 (.t 28) (.t 29), none⟩, ⟨some 31, .fadr 0 (.t 30), none⟩, ⟨some 32, .load false 1 (.t 31), none⟩, ⟨some 33, .bin .eql (.t 32) (.c (.int .i64 2)), none⟩]) (.cond (.t 33) (.dreg [gm 34 3, ⟨some 35, .fadr 0 (.t 1), none⟩, ⟨some 36, .load false 1 (.t 35), none⟩, gm 37 4, ⟨some 38, .iadr 7 (.t 36) (.t 37), none⟩, ⟨some 39, .fadr 1 (.t 38), none⟩, ⟨some 40, .load false 1 (.t 39), none⟩, ⟨some 41, .fadr 0 (.t 1), none⟩, ⟨some 42, .load false 1 (.t 41), none⟩, gm 43 4, ⟨some 44, .iadr 7 (.t 42) (.t 43), none⟩, ⟨some 45, .fadr 2 (.t 44), none⟩, ⟨some 46, .load false 1 (.t 45), none⟩, ⟨some 47, .build [.str [], .nilSlc] [(0, 1, .t 40), (1, 1, .t 46)], none⟩] [(⟨some 48, .call (.c (.fn (.func 19) [] [])) [.t 34, .t 47], none⟩, [], [])]) (.dreg [gm 49 3, ⟨some 50, .fadr 0 (.t 1), none⟩, ⟨some 51, .load false 1 (.t 50), none⟩, gm 52 4, ⟨some 53, .iadr 7 (.t 51) (.t 52), none⟩, ⟨some 54, .fadr 1 (.t 53), none⟩, ⟨some 55, .load false 1 (.t 54), none⟩, ⟨some 56, .fadr 0 (.t 1), none⟩, ⟨some 57, .load false 1 (.t 56), none⟩, gm 58 4, ⟨some 59, .iadr 7 (.t 57) (.t 58), none⟩, ⟨some 60, .fadr 2 (.t 59), none⟩, ⟨some 61, .load false 1 (.t 60), none⟩, ⟨some 62, .build [.str [], .nilSlc] [(0, 1, .t 55), (1, 1, .t 61)], none⟩, ⟨some 63, .fadr 0 (.t 1), none⟩, ⟨some 64, .load false 1 (.t 63), none⟩, gm 65 4, ⟨some 66, .iadr 7 (.t 64) (.t 65), none⟩, ⟨some 67, .fadr 3 (.t 66), none⟩, ⟨some 68, .load true 3 (.t 67), none⟩] [(⟨some 69, .call (.c (.fn (.func 10) [] [])) [.t 49, .t 62, .t 68], none⟩, [], [])]))
def c5_25 : ACode := .seq (.seq (.reg [gm 16 4, ⟨some 17, .fadr 0 (.t 1), none⟩, ⟨some 18, .load false 1 (.t 17), none⟩, ⟨some 19, .len 1 (.t 18), none⟩, ⟨some 20, .bin .lss (.t 16) (.t 19), none⟩, gm 21 20, ⟨some 22, .mv (.t 4), some (21, true)⟩, ⟨some 23, .bin .lss (.t 22) (.c (.int .i64 60)), some (21, true)⟩, ⟨some 24, .pick (.t 21) (.t 23) (.c (.bool false)), none⟩]) (.cond (.t 24) .skip (.exit 0))) (.seq (.block 1 c5_33) c5_38)
def c5_20 : ACode := .seq (.seq (.reg [⟨some 4, .mv (.c (.int .i64 0)), none⟩]) (.block 0 (.loop c5_25))) c5_39
def c5_10 : ACode := .seq (.reg [⟨some 13, .call (.c (.fn (.func 8) [] [])) [], none⟩, gm 3 13]) (.seq (.seq (.reg [gm 14 3, ⟨some 15, .eq false .ptr (.t 14) (.c .nilPtr), none⟩]) (.cond (.t 15) (.seq (.reg [⟨some 2, .mv (.c (.bool false)), none⟩]) .ret) .skip)) c5_20)
def c5_0 : ACode := .seq (.reg [⟨some 1, .box 1 (.t 0), none⟩, ⟨some 2, .mv (.c (.bool false)), none⟩]) (.seq (.seq (.reg [⟨some 9, .load true 1 (.t 1), none⟩, ⟨some 10, .call (.c (.fn (.func 6) [] [])) [.t 9], none⟩, ⟨some 11, .not (.t 10), none⟩]) (.cond (.t 11) (.seq (.reg [⟨some 12, .call (.c (.fn (.func 7) [] [])) [], none⟩, gm 2 12]) .ret) .skip)) c5_10)
def A5 : AFun := { np := 1, res := [(2, none)], body := c5_0 }
def c6_34 : ACode := .seq (.reg [gm 54 3, ⟨some 55, .bin .leq (.t 54) (.c (.int .i64 1500)), none⟩, gm 2 55]) .ret
def c6_33 : ACode := .reg [gm 15 4, ⟨some 16, .bin .add (.t 15) (.c (.int .i64 1)), none⟩, gm 4 16]
def c6_23 : ACode := .seq (.seq (.reg [gm 27 5, ⟨some 28, .fadr 0 (.t 1), none⟩, ⟨some 29, .load false 1 (.t 28), none⟩, gm 30 4, ⟨some 31, .iadr 7 (.t 29) (.t 30), none⟩, ⟨some 32, .fadr 3 (.t 31), none⟩, ⟨some 33, .fadr 1 (.t 32), none⟩, ⟨some 34, .load false 1 (.t 33), none⟩, ⟨some 35, .len 1 (.t 34), none⟩, ⟨some 36, .bin .lss (.t 27) (.t 35), none⟩]) (.cond (.t 36) .skip (.exit 2))) (.seq (.block 3 (.reg [gm 39 3, ⟨some 40, .bin .add (.t 39) (.c (.int .i64 1)), none⟩, ⟨some 41, .fadr 0 (.t 1), none⟩, ⟨some 42, .load false 1 (.t 41), none⟩, gm 43 4, ⟨some 44, .iadr 7 (.t 42) (.t 43), none⟩, ⟨some 45, .fadr 3 (.t 44), none⟩, ⟨some 46, .fadr 1 (.t 45), none⟩, ⟨some 47, .load false 1 (.t 46), none⟩, gm 48 5, ⟨some 49, .iadr 3 (.t 47) (.t 48), none⟩, ⟨some 50, .fadr 2 (.t 49), none⟩, ⟨some 51, .load false 1 (.t 50), none⟩, ⟨some 52, .call (.c (.fn (.func 32) [] [])) [.t 51], none⟩, ⟨some 53, .bin .add (.t 40) (.t 52), none⟩, gm 3 53])) (.reg [gm 37 5, ⟨some 38, .bin .add (.t 37) (.c (.int .i64 1)), none⟩, gm 5 38]))
def c6_15 : ACode := .seq (.block 1 (.seq (.reg [gm 17 3, ⟨some 18, .bin .add (.t 17) (.c (.int .i64 1)), none⟩, ⟨some 19, .fadr 0 (.t 1), none⟩, ⟨some 20, .load false 1 (.t 19), none⟩, gm 21 4, ⟨some 22, .iadr 7 (.t 20) (.t 21), none⟩, ⟨some 23, .fadr 2 (.t 22), none⟩, ⟨some 24, .load false 1 (.t 23), none⟩, ⟨some 25, .call (.c (.fn (.func 32) [] [])) [.t 24], none⟩, ⟨some 26, .bin .add (.t 18) (.t 25), none⟩, gm 3 26]) (.seq (.reg [⟨some 5, .mv (.c (.int .i64 0)), none⟩]) (.block 2 (.loop c6_23))))) c6_33
def c6_9 : ACode := .seq (.seq (.reg [gm 6 4, ⟨some 7, .fadr 0 (.t 1), none⟩, ⟨some 8, .load false 1 (.t 7), none⟩, ⟨some 9, .len 1 (.t 8), none⟩, ⟨some 10, .bin .lss (.t 6) (.t 9), none⟩, gm 11 10, ⟨some 12, .mv (.t 4), some (11, true)⟩, ⟨some 13, .bin .lss (.t 12) (.c (.int .i64 60)), some (11, true)⟩, ⟨some 14, .pick (.t 11) (.t 13) (.c (.bool false)), none⟩]) (.cond (.t 14) .skip (.exit 0))) c6_15
def c6_0 : ACode := .seq (.reg [⟨some 1, .box 1 (.t 0), none⟩, ⟨some 2, .mv (.c (.bool false)), none⟩]) (.seq (.reg [⟨some 3, .mv (.c (.int .i64 0)), none⟩]) (.seq (.seq (.reg [⟨some 4, .mv (.c (.int .i64 0)), none⟩]) (.block 0 (.loop c6_9))) c6_34))
def A6 : AFun := { np := 1, res := [(2, none)], body := c6_0 }
def c8_0 : ACode := .seq (.reg [⟨some 0, .mv (.c .nilPtr), none⟩]) (.seq (.reg [⟨some 1, .mkmap, none⟩, ⟨some 2, .mkmap, none⟩, ⟨some 3, .build [.nilMap, .nilMap, .int .i64 0, .int .i64 0] [(0, 1, .t 1), (1, 1, .t 2)], none⟩, ⟨some 4, .box 4 (.t 3), none⟩, gm 0 4]) .ret)
def A8 : AFun := { np := 0, res := [(0, none)], body := c8_0 }
def c10_36 : ACode := .seq (.dreg [gm 114 0, ⟨some 115, .nilck (.t 114), none⟩, ⟨some 116, .fadr 0 (.t 115), none⟩, ⟨some 117, .load false 1 (.t 116), none⟩, ⟨some 118, .load true 2 (.t 7), none⟩, ⟨some 119, .look (.st [.str, .str]) false .nilPtr (.t 117) (.t 118), none⟩, ⟨some 120, .nilck (.t 119), none⟩, ⟨some 121, .fadr 3 (.t 120), none⟩, ⟨some 122, .load false 1 (.t 121), none⟩, ⟨some 123, .load true 2 (.t 8), none⟩, ⟨some 124, .build [] [], none⟩] [(⟨none, .mupd (.st [.int, .str]) (.t 122) (.t 123) (.t 124), none⟩, [], [])]) (.seq (.dreg [gm 125 0, ⟨some 126, .nilck (.t 125), none⟩, ⟨some 127, .fadr 1 (.t 126), none⟩, ⟨some 128, .load false 1 (.t 127), none⟩, ⟨some 129, .load true 2 (.t 8), none⟩, ⟨some 130, .look (.st [.int, .str]) false .nilPtr (.t 128) (.t 129), none⟩, ⟨some 131, .nilck (.t 130), none⟩, ⟨some 132, .fadr 4 (.t 131), none⟩, ⟨some 133, .load false 1 (.t 132), none⟩, ⟨some 134, .load true 2 (.t 7), none⟩, ⟨some 135, .build [] [], none⟩] [(⟨none, .mupd (.st [.str, .str]) (.t 133) (.t 134) (.t 135), none⟩, [], [])]) (.seq (.reg [⟨some 6, .mv (.c (.int .i64 0)), none⟩]) .ret))
def c10_28 : ACode := .seq (.seq (.dreg [gm 92 0, ⟨some 93, .nilck (.t 92), none⟩, ⟨some 94, .fadr 0 (.t 93), none⟩, ⟨some 95, .load false 1 (.t 94), none⟩, ⟨some 96, .load true 2 (.t 7), none⟩, ⟨some 97, .look (.st [.str, .str]) false .nilPtr (.t 95) (.t 96), none⟩, ⟨some 98, .nilck (.t 97), none⟩, ⟨some 99, .fadr 3 (.t 98), none⟩, ⟨some 100, .load false 1 (.t 99), none⟩, ⟨some 101, .load true 2 (.t 8), none⟩, ⟨some 102, .look (.st [.int, .str]) true (.agg []) (.t 100) (.t 101), none⟩, gm 91 102, ⟨some 103, .ext (.t 91) 0, none⟩, ⟨some 104, .ext (.t 91) 1, none⟩] [(⟨some 9, .alloc [], none⟩, [⟨some 95, .load false 1 (.t 94), none⟩, ⟨some 96, .load true 2 (.t 7), none⟩, ⟨some 97, .look (.st [.str, .str]) false .nilPtr (.t 95) (.t 96), none⟩, ⟨some 100, .load false 1 (.t 99), none⟩, ⟨some 101, .load true 2 (.t 8), none⟩, ⟨some 102, .look (.st [.int, .str]) true (.agg []) (.t 100) (.t 101), none⟩], []), (⟨none, .store 0 (.t 9) (.t 103), none⟩, [], [gm 10 104])]) (.seq (.reg [gm 105 10, ⟨some 106, .not (.t 105), none⟩]) (.cond (.t 106) (.reg [gm 107 0, ⟨some 108, .nilck (.t 107), none⟩, ⟨some 109, .fadr 3 (.t 108), none⟩, ⟨some 110, .load false 1 (.t 109), none⟩, ⟨some 111, .bin .add (.t 110) (.c (.int .i64 1)), none⟩, ⟨some 112, .nilck (.t 107), none⟩, ⟨some 113, .fadr 3 (.t 112), none⟩, ⟨none, .store 1 (.t 113) (.t 111), none⟩]) .skip))) c10_36
set_option maxRecDepth 100000 in
def c10_21 : ACode := .seq (.dreg [gm 63 0, ⟨some 64, .nilck (.t 63), none⟩, ⟨some 65, .fadr 1 (.t 64), none⟩, ⟨some 66, .load false 1 (.t 65), none⟩, ⟨some 67, .load true 2 (.t 8), none⟩, ⟨some 68, .look (.st [.int, .str]) false .nilPtr (.t 66) (.t 67), none⟩, ⟨some 69, .eq false .ptr (.t 68) (.c .nilPtr), none⟩] []) (.cond (.t 69) (.seq (.reg [gm 70 0, ⟨some 71, .nilck (.t 70), none⟩, ⟨some 72, .fadr 2 (.t 71), none⟩, ⟨some 73, .load false 1 (.t 72), none⟩, ⟨some 74, .bin .add (.t 73) (.c (.int .i64 1)), none⟩, ⟨some 75, .nilck (.t 70), none⟩, ⟨some 76, .fadr 2 (.t 75), none⟩, ⟨none, .store 1 (.t 76) (.t 74), none⟩]) (.dreg [gm 77 0, ⟨some 78, .nilck (.t 77), none⟩, ⟨some 79, .fadr 1 (.t 78), none⟩, ⟨some 80, .load false 1 (.t 79), none⟩, ⟨some 81, .load true 2 (.t 8), none⟩, ⟨some 82, .load true 3 (.t 5), none⟩, gm 84 0, ⟨some 85, .nilck (.t 84), none⟩, ⟨some 86, .fadr 2 (.t 85), none⟩, ⟨some 87, .load false 1 (.t 86), none⟩] [(⟨some 88, .mkmap, none⟩, [⟨some 80, .load false 1 (.t 79), none⟩, ⟨some 81, .load true 2 (.t 8), none⟩, ⟨some 82, .load true 3 (.t 5), none⟩, ⟨some 87, .load false 1 (.t 86), none⟩], []), (⟨some 83, .call (.c (.fn (.func 41) [] [])) [.t 82], none⟩, [⟨some 80, .load false 1 (.t 79), none⟩, ⟨some 81, .load true 2 (.t 8), none⟩, ⟨some 87, .load false 1 (.t 86), none⟩], [⟨some 89, .build [.int .i64 0, .nilSlc, .nilSlc, .int .i64 0, .nilMap] [(0, 3, .t 83), (3, 1, .t 87), (4, 1, .t 88)], none⟩]), (⟨some 90, .box 5 (.t 89), none⟩, [⟨some 80, .load false 1 (.t 79), none⟩, ⟨some 81, .load true 2 (.t 8), none⟩, ⟨some 82, .load true 3 (.t 5), none⟩, ⟨some 87, .load false 1 (.t 86), none⟩], []), (⟨none, .mupd (.st [.int, .str]) (.t 80) (.t 81) (.t 90), none⟩, [], [])])) .skip)
def c10_20 : ACode := .seq c10_21 c10_28
set_option maxRecDepth 100000 in
def c10_13 : ACode := .seq (.dreg [gm 31 0, ⟨some 32, .nilck (.t 31), none⟩, ⟨some 33, .fadr 0 (.t 32), none⟩, ⟨some 34, .load false 1 (.t 33), none⟩, ⟨some 35, .load true 2 (.t 7), none⟩, ⟨some 36, .look (.st [.str, .str]) false .nilPtr (.t 34) (.t 35), none⟩, ⟨some 37, .eq false .ptr (.t 36) (.c .nilPtr), none⟩] []) (.cond (.t 37) (.seq (.reg [gm 38 0, ⟨some 39, .nilck (.t 38), none⟩, ⟨some 40, .fadr 2 (.t 39), none⟩, ⟨some 41, .load false 1 (.t 40), none⟩, ⟨some 42, .bin .add (.t 41) (.c (.int .i64 1)), none⟩, ⟨some 43, .nilck (.t 38), none⟩, ⟨some 44, .fadr 2 (.t 43), none⟩, ⟨none, .store 1 (.t 44) (.t 42), none⟩]) (.dreg [gm 45 0, ⟨some 46, .nilck (.t 45), none⟩, ⟨some 47, .fadr 0 (.t 46), none⟩, ⟨some 48, .load false 1 (.t 47), none⟩, ⟨some 49, .load true 2 (.t 7), none⟩, ⟨some 50, .fadr 0 (.t 4), none⟩, ⟨some 51, .load false 1 (.t 50), none⟩, ⟨some 52, .fadr 1 (.t 4), none⟩, ⟨some 53, .load false 1 (.t 52), none⟩, gm 56 0, ⟨some 57, .nilck (.t 56), none⟩, ⟨some 58, .fadr 2 (.t 57), none⟩, ⟨some 59, .load false 1 (.t 58), none⟩] [(⟨some 60, .mkmap, none⟩, [⟨some 48, .load false 1 (.t 47), none⟩, ⟨some 49, .load true 2 (.t 7), none⟩, ⟨some 51, .load false 1 (.t 50), none⟩, ⟨some 53, .load false 1 (.t 52), none⟩, ⟨some 59, .load false 1 (.t 58), none⟩], []), (⟨some 54, .call (.c (.fn (.func 40) [] [])) [.t 53], none⟩, [⟨some 48, .load false 1 (.t 47), none⟩, ⟨some 49, .load true 2 (.t 7), none⟩, ⟨some 51, .load false 1 (.t 50), none⟩, ⟨some 59, .load false 1 (.t 58), none⟩], [⟨some 55, .build [.str [], .nilSlc] [(0, 1, .t 51), (1, 1, .t 54)], none⟩, ⟨some 61, .build [.str [], .nilSlc, .int .i64 0, .nilMap] [(0, 2, .t 55), (2, 1, .t 59), (3, 1, .t 60)], none⟩]), (⟨some 62, .box 4 (.t 61), none⟩, [⟨some 48, .load false 1 (.t 47), none⟩, ⟨some 49, .load true 2 (.t 7), none⟩, ⟨some 51, .load false 1 (.t 50), none⟩, ⟨some 53, .load false 1 (.t 52), none⟩, ⟨some 59, .load false 1 (.t 58), none⟩], []), (⟨none, .mupd (.st [.str, .str]) (.t 48) (.t 49) (.t 62), none⟩, [], [])])) .skip)
set_option maxRecDepth 100000 in
def c10_0 : ACode := .seq (.reg [⟨some 4, .box 2 (.t 1), none⟩, ⟨some 5, .box 3 (.t 2), none⟩, ⟨some 6, .mv (.c (.int .i64 0)), none⟩]) (.seq (.seq (.reg [⟨some 11, .fadr 0 (.t 4), none⟩, ⟨some 12, .load false 1 (.t 11), none⟩, ⟨some 13, .bin .eql (.t 12) (.c (.str [])), none⟩, gm 14 13, ⟨some 15, .fadr 1 (.t 4), some (14, false)⟩, ⟨some 16, .load false 1 (.t 15), some (14, false)⟩, ⟨some 17, .call (.c (.fn (.func 35) [] [])) [.t 16], some (14, false)⟩, ⟨some 18, .pick (.t 14) (.c (.bool true)) (.t 17), none⟩, gm 19 18, ⟨some 20, .fadr 1 (.t 5), some (19, false)⟩, ⟨some 21, .load false 1 (.t 20), some (19, false)⟩, ⟨some 22, .call (.c (.fn (.func 36) [] [])) [.t 21, .c (.fn (.func 37) [] [])], some (19, false)⟩, ⟨some 23, .pick (.t 19) (.c (.bool true)) (.t 22), none⟩]) (.cond (.t 23) (.seq (.reg [⟨some 6, .mv (.c (.int .i64 1)), none⟩]) .ret) .skip)) (.seq (.dreg [⟨some 24, .load true 2 (.t 4), none⟩, ⟨some 26, .fadr 0 (.t 5), none⟩, ⟨some 27, .load false 1 (.t 26), none⟩, ⟨some 28, .load true 3 (.t 5), none⟩] [(⟨some 7, .alloc [.str [], .str []], none⟩, [⟨some 24, .load true 2 (.t 4), none⟩, ⟨some 27, .load false 1 (.t 26), none⟩, ⟨some 28, .load true 3 (.t 5), none⟩], []), (⟨some 8, .alloc [.int .i64 0, .str []], none⟩, [⟨some 24, .load true 2 (.t 4), none⟩, ⟨some 27, .load false 1 (.t 26), none⟩, ⟨some 28, .load true 3 (.t 5), none⟩], []), (⟨some 25, .call (.c (.fn (.func 38) [] [])) [.t 24], none⟩, [⟨some 27, .load false 1 (.t 26), none⟩, ⟨some 28, .load true 3 (.t 5), none⟩], []), (⟨some 29, .call (.c (.fn (.func 39) [] [])) [.t 28], none⟩, [⟨some 27, .load false 1 (.t 26), none⟩], [⟨some 30, .build [.int .i64 0, .str []] [(0, 1, .t 27), (1, 1, .t 29)], none⟩]), (⟨none, .store 2 (.t 7) (.t 25), none⟩, [⟨some 27, .load false 1 (.t 26), none⟩], []), (⟨none, .store 2 (.t 8) (.t 30), none⟩, [], [])]) (.seq c10_13 c10_20)))
def A10 : AFun := { np := 3, res := [(6, none)], body := c10_0 }
def c13_67 : ACode := .seq (.reg [gm 68 7, ⟨some 69, .load false 1 (.t 2), none⟩, ⟨some 70, .nilck (.t 69), none⟩, ⟨some 71, .fadr 3 (.t 70), none⟩, ⟨some 72, .load false 1 (.t 71), none⟩, ⟨some 73, .bin .sub (.t 68) (.t 72), none⟩, gm 4 73]) .ret
def c13_66 : ACode := .reg [⟨some 67, .bin .add (.t 36) (.c (.int .i64 1)), none⟩, gm 36 67]
def c13_55 : ACode := .seq (.reg [⟨some 59, .nxt (.t 58), none⟩, ⟨some 60, .ext (.t 59) 0, none⟩]) (.seq (.cond (.t 60) .skip (.exit 4)) (.block 5 (.seq (.reg [⟨some 61, .ent (.t 58), none⟩, ⟨some 62, .ext (.t 61) 0, none⟩, ⟨some 11, .alloc [.str [], .str []], none⟩, ⟨none, .store 2 (.t 11) (.t 62), none⟩]) (.reg [⟨some 63, .load false 1 (.t 2), none⟩, ⟨some 64, .load true 2 (.t 11), none⟩, ⟨some 65, .load true 2 (.t 9), none⟩, ⟨some 66, .call (.c (.fn (.func 48) [] [])) [.t 63, .t 64, .t 65], none⟩]))))
def c13_42 : ACode := .seq (.block 3 (.seq (.reg [⟨some 38, .iadr 2 (.t 34) (.t 36), none⟩, ⟨some 39, .load true 2 (.t 38), none⟩, ⟨some 9, .alloc [.int .i64 0, .str []], none⟩, ⟨none, .store 2 (.t 9) (.t 39), none⟩]) (.seq (.dreg [⟨some 40, .load false 1 (.t 2), none⟩, ⟨some 41, .nilck (.t 40), none⟩, ⟨some 42, .fadr 1 (.t 41), none⟩, ⟨some 43, .load false 1 (.t 42), none⟩, ⟨some 44, .load true 2 (.t 9), none⟩, ⟨some 45, .look (.st [.int, .str]) false .nilPtr (.t 43) (.t 44), none⟩, gm 10 45] []) (.seq (.reg [gm 46 1, gm 47 10, ⟨some 48, .nilck (.t 47), none⟩, ⟨some 49, .fadr 0 (.t 48), none⟩, ⟨some 50, .load true 3 (.t 49), none⟩, ⟨some 51, .call (.c (.fn (.func 41) [] [])) [.t 50], none⟩, ⟨some 52, .call (.t 46) [.t 51], none⟩, ⟨some 53, .not (.t 52), none⟩]) (.cond (.t 53) (.seq (.reg [gm 54 10, ⟨some 55, .nilck (.t 54), none⟩, ⟨some 56, .fadr 4 (.t 55), none⟩, ⟨some 57, .load false 1 (.t 56), none⟩, ⟨some 58, .rng (.t 57), none⟩]) (.block 4 (.loop c13_55))) .skip))))) c13_66
def c13_36 : ACode := .seq (.reg [⟨some 37, .bin .lss (.t 36) (.t 35), none⟩]) (.seq (.cond (.t 37) .skip (.exit 2)) c13_42)
def c13_27 : ACode := .seq (.reg [gm 27 5, ⟨some 28, .mkfn 47 [] [.t 2], none⟩, ⟨some 29, .call (.c (.fn (.func 46) [] [])) [.t 27, .t 28], none⟩]) (.seq (.reg [⟨some 30, .load false 1 (.t 2), none⟩, ⟨some 31, .nilck (.t 30), none⟩, ⟨some 32, .fadr 3 (.t 31), none⟩, ⟨some 33, .load false 1 (.t 32), none⟩, gm 7 33]) (.seq (.seq (.reg [gm 34 5, ⟨some 35, .len 1 (.t 34), none⟩, ⟨some 36, .mv (.c (.int .i64 0)), none⟩]) (.block 2 (.loop c13_36))) c13_67))
def c13_17 : ACode := .seq (.reg [⟨some 19, .nxt (.t 18), none⟩, ⟨some 20, .ext (.t 19) 0, none⟩]) (.seq (.cond (.t 20) .skip (.exit 0)) (.block 1 (.seq (.reg [⟨some 21, .ent (.t 18), none⟩, ⟨some 22, .ext (.t 21) 0, none⟩, ⟨some 6, .alloc [.int .i64 0, .str []], none⟩, ⟨none, .store 2 (.t 6) (.t 22), none⟩]) (.reg [gm 23 5, ⟨some 24, .load true 2 (.t 6), none⟩, ⟨some 25, .bslice 1 2 [.int .i64 0, .str []] [(0, .t 24)], none⟩, ⟨some 26, .app 2 24 (.t 23) (.t 25), none⟩, gm 5 26]))))
def c13_10 : ACode := .seq (.reg [⟨some 5, .mv (.c .nilSlc), none⟩]) (.seq (.seq (.reg [⟨some 14, .load false 1 (.t 2), none⟩, ⟨some 15, .nilck (.t 14), none⟩, ⟨some 16, .fadr 1 (.t 15), none⟩, ⟨some 17, .load false 1 (.t 16), none⟩, ⟨some 18, .rng (.t 17), none⟩]) (.block 0 (.loop c13_17))) c13_27)
def c13_0 : ACode := .seq (.reg [⟨some 2, .box 1 (.t 0), none⟩, ⟨some 4, .mv (.c (.int .i64 0)), none⟩]) (.seq (.seq (.reg [gm 12 1, ⟨some 13, .eq false .fn (.t 12) (.c .nilFn), none⟩]) (.cond (.t 13) (.seq (.reg [⟨some 4, .mv (.c (.int .i64 0)), none⟩]) .ret) .skip)) c13_10)
def A13 : AFun := { np := 2, res := [(4, none)], body := c13_0 }
def c19_29 : ACode := .seq (.reg [gm 41 6, gm 4 41]) .ret
def c19_19 : ACode := .seq (.reg [⟨some 32, .nxt (.t 31), none⟩, ⟨some 33, .ext (.t 32) 0, none⟩]) (.seq (.cond (.t 33) .skip (.exit 0)) (.block 1 (.seq (.reg [⟨some 34, .ent (.t 31), none⟩, ⟨some 35, .ext (.t 34) 0, none⟩, ⟨some 7, .alloc [.int .i64 0, .str []], none⟩, ⟨none, .store 2 (.t 7) (.t 35), none⟩]) (.dreg [gm 36 0, ⟨some 37, .load true 2 (.t 3), none⟩, ⟨some 39, .load true 2 (.t 7), none⟩] [(⟨some 38, .call (.c (.fn (.func 38) [] [])) [.t 37], none⟩, [⟨some 39, .load true 2 (.t 7), none⟩], []), (⟨some 40, .call (.c (.fn (.func 48) [] [])) [.t 36, .t 38, .t 39], none⟩, [], [])]))))
def c19_12 : ACode := .seq (.reg [gm 22 5, ⟨some 23, .nilck (.t 22), none⟩, ⟨some 24, .fadr 3 (.t 23), none⟩, ⟨some 25, .load false 1 (.t 24), none⟩, ⟨some 26, .len 2 (.t 25), none⟩, gm 6 26]) (.seq (.seq (.reg [gm 27 5, ⟨some 28, .nilck (.t 27), none⟩, ⟨some 29, .fadr 3 (.t 28), none⟩, ⟨some 30, .load false 1 (.t 29), none⟩, ⟨some 31, .rng (.t 30), none⟩]) (.block 0 (.loop c19_19))) c19_29)
def c19_0 : ACode := .seq (.reg [⟨some 3, .box 2 (.t 1), none⟩, ⟨some 4, .mv (.c (.int .i64 0)), none⟩]) (.seq (.dreg [gm 8 0, ⟨some 9, .nilck (.t 8), none⟩, ⟨some 10, .fadr 0 (.t 9), none⟩, ⟨some 11, .load false 1 (.t 10), none⟩, ⟨some 12, .load true 2 (.t 3), none⟩] [(⟨some 13, .call (.c (.fn (.func 38) [] [])) [.t 12], none⟩, [⟨some 11, .load false 1 (.t 10), none⟩], [⟨some 14, .look (.st [.str, .str]) false .nilPtr (.t 11) (.t 13), none⟩, gm 5 14])]) (.seq (.seq (.reg [gm 15 5, ⟨some 16, .eq false .ptr (.t 15) (.c .nilPtr), none⟩, gm 17 16, ⟨some 18, .fadr 1 (.t 3), some (17, false)⟩, ⟨some 19, .load false 1 (.t 18), some (17, false)⟩, ⟨some 20, .call (.c (.fn (.func 35) [] [])) [.t 19], some (17, false)⟩, ⟨some 21, .pick (.t 17) (.c (.bool true)) (.t 20), none⟩]) (.cond (.t 21) (.seq (.reg [⟨some 4, .mv (.c (.int .i64 0)), none⟩]) .ret) .skip)) c19_12))
def A19 : AFun := { np := 2, res := [(4, none)], body := c19_0 }
def c21_40 : ACode := .seq (.reg [gm 46 6, gm 2 46]) .ret
def c21_28 : ACode := .seq (.reg [⟨some 27, .bin .lss (.t 26) (.t 25), none⟩]) (.seq (.cond (.t 27) .skip (.exit 2)) (.seq (.block 3 (.seq (.reg [⟨some 28, .iadr 1 (.t 24) (.t 26), none⟩, ⟨some 29, .load false 1 (.t 28), none⟩, gm 8 29]) (.dreg [gm 30 6, gm 31 8, ⟨some 32, .nilck (.t 31), none⟩, ⟨some 33, .fadr 0 (.t 32), none⟩, ⟨some 34, .fadr 0 (.t 33), none⟩, ⟨some 35, .load false 1 (.t 34), none⟩, gm 36 8, ⟨some 37, .nilck (.t 36), none⟩, ⟨some 38, .fadr 0 (.t 37), none⟩, ⟨some 39, .fadr 1 (.t 38), none⟩, ⟨some 40, .load false 1 (.t 39), none⟩] [(⟨some 41, .call (.c (.fn (.func 40) [] [])) [.t 40], none⟩, [⟨some 35, .load false 1 (.t 34), none⟩], [⟨some 42, .build [.str [], .nilSlc] [(0, 1, .t 35), (1, 1, .t 41)], none⟩]), (⟨some 43, .bslice 1 2 [.str [], .nilSlc] [(0, .t 42)], none⟩, [], []), (⟨some 44, .app 2 40 (.t 30) (.t 43), none⟩, [], []), (gm 6 44, [], [])]))) (.reg [⟨some 45, .bin .add (.t 26) (.c (.int .i64 1)), none⟩, gm 26 45])))
def c21_19 : ACode := .seq (.reg [gm 22 3, ⟨some 23, .call (.c (.fn (.func 51) [] [])) [.t 22, .c (.fn (.func 52) [] [])], none⟩]) (.seq (.reg [⟨some 6, .mv (.c .nilSlc), none⟩]) (.seq (.seq (.reg [gm 24 3, ⟨some 25, .len 1 (.t 24), none⟩, ⟨some 26, .mv (.c (.int .i64 0)), none⟩]) (.block 2 (.loop c21_28))) c21_40))
def c21_9 : ACode := .seq (.reg [⟨some 14, .nxt (.t 13), none⟩, ⟨some 15, .ext (.t 14) 0, none⟩]) (.seq (.cond (.t 15) .skip (.exit 0)) (.block 1 (.seq (.reg [⟨some 16, .ent (.t 13), none⟩, ⟨some 17, .ext (.t 16) 1, none⟩, gm 5 17]) (.reg [gm 18 3, gm 19 5, ⟨some 20, .bslice 1 1 [.nilPtr] [(0, .t 19)], none⟩, ⟨some 21, .app 1 8 (.t 18) (.t 20), none⟩, gm 3 21]))))
def c21_0 : ACode := .seq (.reg [⟨some 2, .mv (.c .nilSlc), none⟩]) (.seq (.reg [⟨some 3, .mv (.c .nilSlc), none⟩]) (.seq (.seq (.reg [gm 9 0, ⟨some 10, .nilck (.t 9), none⟩, ⟨some 11, .fadr 0 (.t 10), none⟩, ⟨some 12, .load false 1 (.t 11), none⟩, ⟨some 13, .rng (.t 12), none⟩]) (.block 0 (.loop c21_9))) c21_19))
def A21 : AFun := { np := 1, res := [(2, none)], body := c21_0 }
def c23_0 : ACode := .seq (.reg [⟨some 2, .mv (.c (.int .i64 0)), none⟩]) (.seq (.reg [gm 3 0, ⟨some 4, .nilck (.t 3), none⟩, ⟨some 5, .fadr 3 (.t 4), none⟩, ⟨some 6, .load false 1 (.t 5), none⟩, gm 2 6]) .ret)
def A23 : AFun := { np := 1, res := [(2, none)], body := c23_0 }
def c24_0 : ACode := .seq (.reg [⟨some 3, .box 2 (.t 1), none⟩, ⟨some 4, .mv (.c (.int .i64 0)), none⟩]) (.seq (.dreg [gm 6 0, ⟨some 7, .nilck (.t 6), none⟩, ⟨some 8, .fadr 0 (.t 7), none⟩, ⟨some 9, .load false 1 (.t 8), none⟩, ⟨some 10, .load true 2 (.t 3), none⟩] [(⟨some 11, .call (.c (.fn (.func 38) [] [])) [.t 10], none⟩, [⟨some 9, .load false 1 (.t 8), none⟩], [⟨some 12, .look (.st [.str, .str]) false .nilPtr (.t 9) (.t 11), none⟩, gm 5 12])]) (.seq (.seq (.reg [gm 13 5, ⟨some 14, .eq false .ptr (.t 13) (.c .nilPtr), none⟩, gm 15 14, ⟨some 16, .fadr 1 (.t 3), some (15, false)⟩, ⟨some 17, .load false 1 (.t 16), some (15, false)⟩, ⟨some 18, .call (.c (.fn (.func 35) [] [])) [.t 17], some (15, false)⟩, ⟨some 19, .pick (.t 15) (.c (.bool true)) (.t 18), none⟩]) (.cond (.t 19) (.seq (.reg [⟨some 4, .mv (.c (.int .i64 0)), none⟩]) .ret) .skip)) (.seq (.reg [gm 20 5, ⟨some 21, .nilck (.t 20), none⟩, ⟨some 22, .fadr 3 (.t 21), none⟩, ⟨some 23, .load false 1 (.t 22), none⟩, ⟨some 24, .len 2 (.t 23), none⟩, gm 4 24]) .ret)))
def A24 : AFun := { np := 2, res := [(4, none)], body := c24_0 }
def c30_0 : ACode := .seq (.reg [⟨some 1, .box 3 (.t 0), none⟩, ⟨some 2, .mv (.c (.bool false)), none⟩]) (.seq (.reg [⟨some 2, .mv (.c (.bool true)), none⟩]) .ret)
def A30 : AFun := { np := 1, res := [(2, none)], body := c30_0 }
def c31_0 : ACode := .seq (.reg [⟨some 1, .box 3 (.t 0), none⟩, ⟨some 2, .mv (.c (.bool false)), none⟩]) (.seq (.reg [⟨some 2, .mv (.c (.bool false)), none⟩]) .ret)
def A31 : AFun := { np := 1, res := [(2, none)], body := c31_0 }
def c32_0 : ACode := .seq (.reg [⟨some 2, .mv (.c (.int .i64 0)), none⟩]) (.seq (.reg [gm 3 0, ⟨some 4, .call (.c (.fn (.func 54) [] [])) [.t 3, .c (.int .i64 0)], none⟩, gm 2 4]) .ret)
def A32 : AFun := { np := 1, res := [(2, none)], body := c32_0 }
def c35_0 : ACode := .seq (.reg [⟨some 2, .mv (.c (.bool false)), none⟩]) (.seq (.reg [gm 3 0, ⟨some 4, .call (.c (.fn (.func 55) [] [])) [.t 3, .c (.fn (.func 56) [] [])], none⟩, gm 2 4]) .ret)
def A35 : AFun := { np := 1, res := [(2, none)], body := c35_0 }
def c36_0 : ACode := .seq (.reg [⟨some 4, .mv (.c (.bool false)), none⟩]) (.seq (.reg [gm 5 0, gm 6 1, ⟨some 7, .call (.c (.fn (.func 58) [] [])) [.t 5, .t 6], none⟩, ⟨some 8, .bin .geq (.t 7) (.c (.int .i64 0)), none⟩, gm 4 8]) .ret)
def A36 : AFun := { np := 2, res := [(4, none)], body := c36_0 }
def c37_0 : ACode := .seq (.reg [⟨some 1, .box 3 (.t 0), none⟩, ⟨some 2, .mv (.c (.bool false)), none⟩]) (.seq (.reg [⟨some 3, .fadr 2 (.t 1), none⟩, ⟨some 4, .load false 1 (.t 3), none⟩, ⟨some 5, .call (.c (.fn (.func 35) [] [])) [.t 4], none⟩, gm 2 5]) .ret)
def A37 : AFun := { np := 1, res := [(2, none)], body := c37_0 }
def c38_23 : ACode := .seq (.reg [⟨some 24, .fadr 0 (.t 1), none⟩, ⟨some 25, .load false 1 (.t 24), none⟩, gm 26 3, ⟨some 27, .b2s (.t 26), none⟩, ⟨some 28, .build [.str [], .str []] [(0, 1, .t 25), (1, 1, .t 27)], none⟩, ⟨none, .store 2 (.t 2) (.t 28), none⟩]) .ret
def c38_9 : ACode := .seq (.reg [⟨some 12, .bin .lss (.t 11) (.t 10), none⟩]) (.seq (.cond (.t 12) .skip (.exit 0)) (.seq (.block 1 (.seq (.reg [⟨some 13, .iadr 5 (.t 9) (.t 11), none⟩, ⟨some 14, .load true 5 (.t 13), none⟩, ⟨some 5, .alloc [.int .i64 0, .bool false, .int .i64 0, .str [], .nilSlc], none⟩, ⟨none, .store 5 (.t 5) (.t 14), none⟩]) (.seq (.reg [⟨some 16, .load true 5 (.t 5), none⟩, ⟨some 17, .call (.c (.fn (.func 59) [] [])) [.t 16], none⟩, gm 15 17, ⟨some 18, .ext (.t 15) 0, none⟩, ⟨some 19, .ext (.t 15) 1, none⟩, gm 6 18, gm 7 19]) (.reg [gm 20 3, gm 21 6, ⟨some 22, .appb 5 (.t 20) (.t 21), none⟩, gm 3 22])))) (.reg [⟨some 23, .bin .add (.t 11) (.c (.int .i64 1)), none⟩, gm 11 23])))
def c38_0 : ACode := .seq (.reg [⟨some 1, .box 2 (.t 0), none⟩, ⟨some 2, .alloc [.str [], .str []], none⟩]) (.seq (.reg [⟨some 3, .mv (.c .nilSlc), none⟩]) (.seq (.seq (.reg [⟨some 8, .fadr 1 (.t 1), none⟩, ⟨some 9, .load false 1 (.t 8), none⟩, ⟨some 10, .len 1 (.t 9), none⟩, ⟨some 11, .mv (.c (.int .i64 0)), none⟩]) (.block 0 (.loop c38_9))) c38_23))
def A38 : AFun := { np := 1, res := [(2, some (true, 2))], body := c38_0 }
def c39_0 : ACode := .seq (.reg [⟨some 1, .box 3 (.t 0), none⟩, ⟨some 2, .mv (.c (.str [])), none⟩]) (.seq (.reg [⟨some 3, .fadr 1 (.t 1), none⟩, ⟨some 4, .load false 1 (.t 3), none⟩, ⟨some 5, .call (.c (.fn (.func 60) [] [])) [.t 4], none⟩, gm 2 5]) .ret)
def A39 : AFun := { np := 1, res := [(2, none)], body := c39_0 }
def c40_21 : ACode := .seq (.reg [gm 18 3, gm 2 18]) .ret
def c40_9 : ACode := .seq (.reg [⟨some 9, .bin .lss (.t 8) (.t 7), none⟩]) (.seq (.cond (.t 9) .skip (.exit 0)) (.seq (.block 1 (.seq (.reg [⟨some 10, .iadr 5 (.t 6) (.t 8), none⟩, ⟨some 11, .load true 5 (.t 10), none⟩, ⟨some 5, .alloc [.int .i64 0, .bool false, .int .i64 0, .str [], .nilSlc], none⟩, ⟨none, .store 5 (.t 5) (.t 11), none⟩]) (.reg [gm 12 3, ⟨some 13, .load true 5 (.t 5), none⟩, ⟨some 14, .call (.c (.fn (.func 61) [] [])) [.t 13], none⟩, ⟨some 15, .bslice 1 5 [.int .i64 0, .bool false, .int .i64 0, .str [], .nilSlc] [(0, .t 14)], none⟩, ⟨some 16, .app 5 64 (.t 12) (.t 15), none⟩, gm 3 16]))) (.reg [⟨some 17, .bin .add (.t 8) (.c (.int .i64 1)), none⟩, gm 8 17])))
def c40_0 : ACode := .seq (.reg [⟨some 2, .mv (.c .nilSlc), none⟩]) (.seq (.reg [⟨some 3, .mv (.c .nilSlc), none⟩]) (.seq (.seq (.reg [gm 6 0, ⟨some 7, .len 1 (.t 6), none⟩, ⟨some 8, .mv (.c (.int .i64 0)), none⟩]) (.block 0 (.loop c40_9))) c40_21))
def A40 : AFun := { np := 1, res := [(2, none)], body := c40_0 }
def c41_40 : ACode := .seq (.reg [⟨some 48, .load true 3 (.t 3), none⟩, ⟨none, .store 3 (.t 2) (.t 48), none⟩]) .ret
def c41_28 : ACode := .seq (.reg [⟨some 33, .bin .lss (.t 32) (.t 31), none⟩]) (.seq (.cond (.t 33) .skip (.exit 2)) (.seq (.block 3 (.seq (.reg [⟨some 34, .iadr 6 (.t 30) (.t 32), none⟩, ⟨some 35, .load true 6 (.t 34), none⟩, ⟨some 7, .alloc [.str [], .int .i64 0, .bool false, .int .i64 0, .str [], .nilSlc], none⟩, ⟨none, .store 6 (.t 7) (.t 35), none⟩]) (.dreg [⟨some 36, .fadr 2 (.t 3), none⟩, ⟨some 37, .load false 1 (.t 36), none⟩, ⟨some 38, .fadr 0 (.t 7), none⟩, ⟨some 39, .load false 1 (.t 38), none⟩, ⟨some 40, .fadr 1 (.t 7), none⟩, ⟨some 41, .load true 5 (.t 40), none⟩] [(⟨some 42, .call (.c (.fn (.func 61) [] [])) [.t 41], none⟩, [⟨some 37, .load false 1 (.t 36), none⟩, ⟨some 39, .load false 1 (.t 38), none⟩], [⟨some 43, .build [.str [], .int .i64 0, .bool false, .int .i64 0, .str [], .nilSlc] [(0, 1, .t 39), (1, 5, .t 42)], none⟩]), (⟨some 44, .bslice 1 6 [.str [], .int .i64 0, .bool false, .int .i64 0, .str [], .nilSlc] [(0, .t 43)], none⟩, [⟨some 37, .load false 1 (.t 36), none⟩], []), (⟨some 45, .app 6 80 (.t 37) (.t 44), none⟩, [], [⟨some 46, .fadr 2 (.t 3), none⟩]), (⟨none, .store 1 (.t 46) (.t 45), none⟩, [], [])]))) (.reg [⟨some 47, .bin .add (.t 32) (.c (.int .i64 1)), none⟩, gm 32 47])))
def c41_23 : ACode := .seq (.seq (.reg [⟨some 29, .fadr 2 (.t 1), none⟩, ⟨some 30, .load false 1 (.t 29), none⟩, ⟨some 31, .len 1 (.t 30), none⟩, ⟨some 32, .mv (.c (.int .i64 0)), none⟩]) (.block 2 (.loop c41_28))) c41_40
def c41_9 : ACode := .seq (.reg [⟨some 15, .bin .lss (.t 14) (.t 13), none⟩]) (.seq (.cond (.t 15) .skip (.exit 0)) (.seq (.block 1 (.seq (.reg [⟨some 16, .iadr 3 (.t 12) (.t 14), none⟩, ⟨some 17, .load true 3 (.t 16), none⟩, ⟨some 5, .alloc [.int .i64 0, .int .i64 0, .nilSlc], none⟩, ⟨none, .store 3 (.t 5) (.t 17), none⟩]) (.seq (.reg [⟨some 18, .fadr 2 (.t 5), none⟩, ⟨some 19, .load false 1 (.t 18), none⟩, ⟨some 20, .call (.c (.fn (.func 40) [] [])) [.t 19], none⟩, ⟨some 21, .fadr 2 (.t 5), none⟩, ⟨none, .store 1 (.t 21) (.t 20), none⟩]) (.reg [⟨some 22, .fadr 1 (.t 3), none⟩, ⟨some 23, .load false 1 (.t 22), none⟩, ⟨some 24, .load true 3 (.t 5), none⟩, ⟨some 25, .bslice 1 3 [.int .i64 0, .int .i64 0, .nilSlc] [(0, .t 24)], none⟩, ⟨some 26, .app 3 40 (.t 23) (.t 25), none⟩, ⟨some 27, .fadr 1 (.t 3), none⟩, ⟨none, .store 1 (.t 27) (.t 26), none⟩])))) (.reg [⟨some 28, .bin .add (.t 14) (.c (.int .i64 1)), none⟩, gm 14 28])))
def c41_0 : ACode := .seq (.reg [⟨some 1, .box 3 (.t 0), none⟩, ⟨some 2, .alloc [.int .i64 0, .nilSlc, .nilSlc], none⟩]) (.seq (.reg [⟨some 8, .fadr 0 (.t 1), none⟩, ⟨some 9, .load false 1 (.t 8), none⟩, ⟨some 10, .build [.int .i64 0, .nilSlc, .nilSlc] [(0, 1, .t 9)], none⟩, ⟨some 3, .alloc [.int .i64 0, .nilSlc, .nilSlc], none⟩, ⟨none, .store 3 (.t 3) (.t 10), none⟩]) (.seq (.seq (.reg [⟨some 11, .fadr 1 (.t 1), none⟩, ⟨some 12, .load false 1 (.t 11), none⟩, ⟨some 13, .len 1 (.t 12), none⟩, ⟨some 14, .mv (.c (.int .i64 0)), none⟩]) (.block 0 (.loop c41_9))) c41_23))
def A41 : AFun := { np := 1, res := [(2, some (true, 3))], body := c41_0 }
def c47_0 : ACode := .seq (.reg [⟨some 3, .box 2 (.t 0), none⟩, ⟨some 4, .box 2 (.t 1), none⟩, ⟨some 5, .mv (.c (.int .i64 0)), none⟩]) (.seq (.dreg [⟨some 6, .load false 1 (.t 2), none⟩, ⟨some 7, .nilck (.t 6), none⟩, ⟨some 8, .fadr 1 (.t 7), none⟩, ⟨some 9, .load false 1 (.t 8), none⟩, ⟨some 10, .load true 2 (.t 3), none⟩, ⟨some 11, .look (.st [.int, .str]) false .nilPtr (.t 9) (.t 10), none⟩, ⟨some 12, .nilck (.t 11), none⟩, ⟨some 13, .fadr 3 (.t 12), none⟩, ⟨some 14, .load false 1 (.t 13), none⟩, ⟨some 15, .load false 1 (.t 2), none⟩, ⟨some 16, .nilck (.t 15), none⟩, ⟨some 17, .fadr 1 (.t 16), none⟩, ⟨some 18, .load false 1 (.t 17), none⟩, ⟨some 19, .load true 2 (.t 4), none⟩, ⟨some 20, .look (.st [.int, .str]) false .nilPtr (.t 18) (.t 19), none⟩, ⟨some 21, .nilck (.t 20), none⟩, ⟨some 22, .fadr 3 (.t 21), none⟩, ⟨some 23, .load false 1 (.t 22), none⟩, ⟨some 24, .bin .sub (.t 14) (.t 23), none⟩, gm 5 24] []) .ret)
def A47 : AFun := { np := 3, res := [(5, none)], body := c47_0 }
def c48_16 : ACode := .seq (.reg [gm 48 7, ⟨some 49, .nilck (.t 48), none⟩, ⟨some 50, .fadr 4 (.t 49), none⟩, ⟨some 51, .load false 1 (.t 50), none⟩, ⟨some 52, .len 2 (.t 51), none⟩, ⟨some 53, .bin .eql (.t 52) (.c (.int .i64 0)), none⟩]) (.cond (.t 53) (.dreg [gm 54 0, ⟨some 55, .nilck (.t 54), none⟩, ⟨some 56, .fadr 1 (.t 55), none⟩, ⟨some 57, .load false 1 (.t 56), none⟩, ⟨some 58, .load true 2 (.t 5), none⟩] [(⟨none, .del (.st [.int, .str]) (.t 57) (.t 58), none⟩, [], [])]) .skip)
set_option maxRecDepth 100000 in
def c48_2 : ACode := .seq (.dreg [gm 8 0, ⟨some 9, .nilck (.t 8), none⟩, ⟨some 10, .fadr 0 (.t 9), none⟩, ⟨some 11, .load false 1 (.t 10), none⟩, ⟨some 12, .load true 2 (.t 4), none⟩, ⟨some 13, .look (.st [.str, .str]) false .nilPtr (.t 11) (.t 12), none⟩, gm 14 0, ⟨some 15, .nilck (.t 14), none⟩, ⟨some 16, .fadr 1 (.t 15), none⟩, ⟨some 17, .load false 1 (.t 16), none⟩, ⟨some 18, .load true 2 (.t 5), none⟩, ⟨some 19, .look (.st [.int, .str]) false .nilPtr (.t 17) (.t 18), none⟩, gm 6 13, gm 7 19] []) (.seq (.dreg [gm 20 6, ⟨some 21, .nilck (.t 20), none⟩, ⟨some 22, .fadr 3 (.t 21), none⟩, ⟨some 23, .load false 1 (.t 22), none⟩, ⟨some 24, .load true 2 (.t 5), none⟩] [(⟨none, .del (.st [.int, .str]) (.t 23) (.t 24), none⟩, [], [])]) (.seq (.dreg [gm 25 7, ⟨some 26, .nilck (.t 25), none⟩, ⟨some 27, .fadr 4 (.t 26), none⟩, ⟨some 28, .load false 1 (.t 27), none⟩, ⟨some 29, .load true 2 (.t 4), none⟩] [(⟨none, .del (.st [.str, .str]) (.t 28) (.t 29), none⟩, [], [])]) (.seq (.reg [gm 30 0, ⟨some 31, .nilck (.t 30), none⟩, ⟨some 32, .fadr 3 (.t 31), none⟩, ⟨some 33, .load false 1 (.t 32), none⟩, ⟨some 34, .bin .sub (.t 33) (.c (.int .i64 1)), none⟩, ⟨some 35, .nilck (.t 30), none⟩, ⟨some 36, .fadr 3 (.t 35), none⟩, ⟨none, .store 1 (.t 36) (.t 34), none⟩]) (.seq (.seq (.reg [gm 37 6, ⟨some 38, .nilck (.t 37), none⟩, ⟨some 39, .fadr 3 (.t 38), none⟩, ⟨some 40, .load false 1 (.t 39), none⟩, ⟨some 41, .len 2 (.t 40), none⟩, ⟨some 42, .bin .eql (.t 41) (.c (.int .i64 0)), none⟩]) (.cond (.t 42) (.dreg [gm 43 0, ⟨some 44, .nilck (.t 43), none⟩, ⟨some 45, .fadr 0 (.t 44), none⟩, ⟨some 46, .load false 1 (.t 45), none⟩, ⟨some 47, .load true 2 (.t 4), none⟩] [(⟨none, .del (.st [.str, .str]) (.t 46) (.t 47), none⟩, [], [])]) .skip)) c48_16))))
def c48_0 : ACode := .seq (.reg [⟨some 4, .box 2 (.t 1), none⟩, ⟨some 5, .box 2 (.t 2), none⟩]) c48_2
def A48 : AFun := { np := 3, res := [], body := c48_0 }
def c52_0 : ACode := .seq (.reg [⟨some 4, .mv (.c (.int .i64 0)), none⟩]) (.seq (.dreg [gm 5 0, ⟨some 6, .nilck (.t 5), none⟩, ⟨some 7, .fadr 2 (.t 6), none⟩, ⟨some 8, .load false 1 (.t 7), none⟩, gm 9 1, ⟨some 10, .nilck (.t 9), none⟩, ⟨some 11, .fadr 2 (.t 10), none⟩, ⟨some 12, .load false 1 (.t 11), none⟩, ⟨some 13, .bin .sub (.t 8) (.t 12), none⟩, gm 4 13] []) .ret)
def A52 : AFun := { np := 2, res := [(4, none)], body := c52_0 }
def c54_27 : ACode := .seq (.reg [gm 34 5, gm 4 34]) .ret
def c54_17 : ACode := .seq (.seq (.reg [gm 9 6, gm 10 0, ⟨some 11, .len 1 (.t 10), none⟩, ⟨some 12, .bin .lss (.t 9) (.t 11), none⟩]) (.cond (.t 12) .skip (.exit 0))) (.seq (.block 1 (.dreg [gm 15 5, ⟨some 16, .bin .add (.t 15) (.c (.int .i64 1)), none⟩, gm 17 0, gm 18 6, ⟨some 19, .iadr 5 (.t 17) (.t 18), none⟩, ⟨some 20, .fadr 3 (.t 19), none⟩, ⟨some 21, .load false 1 (.t 20), none⟩, ⟨some 22, .len 0 (.t 21), none⟩, ⟨some 23, .bin .quo (.t 22) (.c (.int .i64 64)), none⟩, ⟨some 24, .bin .add (.t 16) (.t 23), none⟩, gm 25 0, gm 26 6, ⟨some 27, .iadr 5 (.t 25) (.t 26), none⟩, ⟨some 28, .fadr 4 (.t 27), none⟩, ⟨some 29, .load false 1 (.t 28), none⟩, gm 30 1, ⟨some 31, .bin .add (.t 30) (.c (.int .i64 1)), none⟩] [(⟨some 32, .call (.c (.fn (.func 54) [] [])) [.t 29, .t 31], none⟩, [⟨some 19, .iadr 5 (.t 17) (.t 18), none⟩, ⟨some 21, .load false 1 (.t 20), none⟩, ⟨some 22, .len 0 (.t 21), none⟩], [⟨some 33, .bin .add (.t 24) (.t 32), none⟩]), (gm 5 33, [], [])])) (.reg [gm 13 6, ⟨some 14, .bin .add (.t 13) (.c (.int .i64 1)), none⟩, gm 6 14]))
def c54_10 : ACode := .seq (.reg [⟨some 5, .mv (.c (.int .i64 0)), none⟩]) (.seq (.seq (.reg [⟨some 6, .mv (.c (.int .i64 0)), none⟩]) (.block 0 (.loop c54_17))) c54_27)
def c54_0 : ACode := .seq (.reg [⟨some 4, .mv (.c (.int .i64 0)), none⟩]) (.seq (.seq (.reg [gm 7 1, ⟨some 8, .bin .gtr (.t 7) (.c (.int .i64 100)), none⟩]) (.cond (.t 8) (.seq (.reg [⟨some 4, .mv (.c (.int .i64 1048576)), none⟩]) .ret) .skip)) c54_10)
def A54 : AFun := { np := 2, res := [(4, none)], body := c54_0 }
def c55_0 : ACode := .seq (.reg [⟨some 4, .mv (.c (.bool false)), none⟩]) (.seq (.reg [gm 5 0, gm 6 1, ⟨some 7, .call (.c (.fn (.func 66) [] [])) [.t 5, .t 6], none⟩, ⟨some 8, .bin .geq (.t 7) (.c (.int .i64 0)), none⟩, gm 4 8]) .ret)
def A55 : AFun := { np := 2, res := [(4, none)], body := c55_0 }
def c56_0 : ACode := .seq (.reg [⟨some 1, .box 5 (.t 0), none⟩, ⟨some 2, .mv (.c (.bool false)), none⟩]) (.seq (.reg [⟨some 3, .load true 5 (.t 1), none⟩, ⟨some 4, .call (.c (.fn (.func 57) [] [])) [.t 3], none⟩, ⟨some 5, .not (.t 4), none⟩, gm 2 5]) .ret)
def A56 : AFun := { np := 1, res := [(2, none)], body := c56_0 }
def c57_0 : ACode := .seq (.reg [⟨some 1, .box 5 (.t 0), none⟩, ⟨some 2, .mv (.c (.bool false)), none⟩]) (.seq (.reg [⟨some 3, .load true 5 (.t 1), none⟩, ⟨some 4, .call (.c (.fn (.func 67) [] [])) [.t 3, .c (.int .i64 0)], none⟩, gm 2 4]) .ret)
def A57 : AFun := { np := 1, res := [(2, none)], body := c57_0 }
def c58_25 : ACode := .seq (.reg [⟨some 4, .mv (.c (.int .i64 (-1))), none⟩]) .ret
def c58_7 : ACode := .seq (.reg [⟨some 9, .bin .lss (.t 8) (.t 7), none⟩]) (.seq (.cond (.t 9) .skip (.exit 0)) (.seq (.block 1 (.seq (.reg [gm 10 8, gm 5 10]) (.seq (.reg [gm 11 1, gm 12 0, gm 13 5, ⟨some 14, .iadr 3 (.t 12) (.t 13), none⟩, ⟨some 15, .load true 3 (.t 14), none⟩, ⟨some 16, .call (.t 11) [.t 15], none⟩]) (.cond (.t 16) (.seq (.reg [gm 17 5, gm 4 17]) .ret) .skip)))) (.reg [⟨some 18, .bin .add (.t 8) (.c (.int .i64 1)), none⟩, gm 8 18])))
def c58_0 : ACode := .seq (.reg [⟨some 4, .mv (.c (.int .i64 0)), none⟩]) (.seq (.seq (.reg [gm 6 0, ⟨some 7, .len 1 (.t 6), none⟩, ⟨some 8, .mv (.c (.int .i64 0)), none⟩]) (.block 0 (.loop c58_7))) c58_25)
def A58 : AFun := { np := 2, res := [(4, none)], body := c58_0 }
def c59_0 : ACode := .seq (.reg [⟨some 1, .box 5 (.t 0), none⟩, ⟨some 2, .mv (.c .nilSlc), none⟩, ⟨some 3, .mv (.c (.int .i64 0)), none⟩]) (.seq (.seq (.reg [⟨some 4, .load true 5 (.t 1), none⟩, ⟨some 5, .call (.c (.fn (.func 57) [] [])) [.t 4], none⟩, ⟨some 6, .not (.t 5), none⟩]) (.cond (.t 6) (.seq (.reg [⟨some 2, .mv (.c .nilSlc), none⟩, ⟨some 3, .mv (.c (.int .i64 1)), none⟩]) .ret) .skip)) (.seq (.reg [⟨some 7, .load true 5 (.t 1), none⟩, ⟨some 8, .call (.c (.fn (.func 68) [] [])) [.c .nilSlc, .t 7], none⟩, gm 2 8, ⟨some 3, .mv (.c (.int .i64 0)), none⟩]) .ret))
def A59 : AFun := { np := 1, res := [(2, none), (3, none)], body := c59_0 }
def c60_46 : ACode := .seq (.reg [⟨some 48, .load false 1 (.t 3), none⟩, ⟨some 49, .b2s (.t 48), none⟩, gm 2 49]) .ret
def c60_45 : ACode := .reg [⟨some 47, .bin .add (.t 14) (.c (.int .i64 1)), none⟩, gm 14 47]
def c60_31 : ACode := .seq (.reg [⟨some 35, .bin .lss (.t 34) (.t 33), none⟩]) (.seq (.cond (.t 35) .skip (.exit 2)) (.seq (.block 3 (.seq (.reg [⟨some 36, .iadr 5 (.t 32) (.t 34), none⟩, ⟨some 37, .load true 5 (.t 36), none⟩, ⟨some 8, .alloc [.int .i64 0, .bool false, .int .i64 0, .str [], .nilSlc], none⟩, ⟨none, .store 5 (.t 8) (.t 37), none⟩]) (.seq (.reg [⟨some 39, .load true 5 (.t 8), none⟩, ⟨some 40, .call (.c (.fn (.func 59) [] [])) [.t 39], none⟩, gm 38 40, ⟨some 41, .ext (.t 38) 0, none⟩, ⟨some 42, .ext (.t 38) 1, none⟩, gm 9 41, gm 10 42]) (.reg [⟨some 43, .load false 1 (.t 3), none⟩, gm 44 9, ⟨some 45, .appb 5 (.t 43) (.t 44), none⟩, ⟨none, .store 1 (.t 3) (.t 45), none⟩])))) (.reg [⟨some 46, .bin .add (.t 34) (.c (.int .i64 1)), none⟩, gm 34 46])))
def c60_17 : ACode := .seq (.block 1 (.seq (.reg [⟨some 16, .iadr 3 (.t 12) (.t 14), none⟩, ⟨some 17, .load true 3 (.t 16), none⟩, ⟨some 6, .alloc [.int .i64 0, .int .i64 0, .nilSlc], none⟩, ⟨none, .store 3 (.t 6) (.t 17), none⟩]) (.seq (.reg [gm 18 4, ⟨some 19, .fadr 0 (.t 6), none⟩, ⟨some 20, .load false 1 (.t 19), none⟩, ⟨some 21, .call (.t 18) [.t 20], none⟩]) (.seq (.reg [gm 22 4, ⟨some 23, .fadr 1 (.t 6), none⟩, ⟨some 24, .load false 1 (.t 23), none⟩, ⟨some 25, .call (.t 22) [.t 24], none⟩]) (.seq (.reg [gm 26 4, ⟨some 27, .fadr 2 (.t 6), none⟩, ⟨some 28, .load false 1 (.t 27), none⟩, ⟨some 29, .len 1 (.t 28), none⟩, ⟨some 30, .call (.t 26) [.t 29], none⟩]) (.seq (.reg [⟨some 31, .fadr 2 (.t 6), none⟩, ⟨some 32, .load false 1 (.t 31), none⟩, ⟨some 33, .len 1 (.t 32), none⟩, ⟨some 34, .mv (.c (.int .i64 0)), none⟩]) (.block 2 (.loop c60_31)))))))) c60_45
def c60_11 : ACode := .seq (.reg [⟨some 15, .bin .lss (.t 14) (.t 13), none⟩]) (.seq (.cond (.t 15) .skip (.exit 0)) c60_17)
def c60_0 : ACode := .seq (.reg [⟨some 2, .mv (.c (.str [])), none⟩]) (.seq (.reg [⟨some 3, .alloc [.nilSlc], none⟩]) (.seq (.reg [⟨some 11, .mkfn 69 [] [.t 3], none⟩, gm 4 11]) (.seq (.seq (.reg [gm 12 0, ⟨some 13, .len 1 (.t 12), none⟩, ⟨some 14, .mv (.c (.int .i64 0)), none⟩]) (.block 0 (.loop c60_11))) c60_46)))
def A60 : AFun := { np := 1, res := [(2, none)], body := c60_0 }
def c61_0 : ACode := .seq (.reg [⟨some 1, .box 5 (.t 0), none⟩, ⟨some 2, .alloc [.int .i64 0, .bool false, .int .i64 0, .str [], .nilSlc], none⟩]) (.seq (.reg [⟨some 3, .fadr 4 (.t 1), none⟩, ⟨some 4, .load false 1 (.t 3), none⟩, ⟨some 5, .call (.c (.fn (.func 40) [] [])) [.t 4], none⟩, ⟨some 6, .fadr 4 (.t 1), none⟩, ⟨none, .store 1 (.t 6) (.t 5), none⟩]) (.seq (.reg [⟨some 7, .load true 5 (.t 1), none⟩, ⟨none, .store 5 (.t 2) (.t 7), none⟩]) .ret))
def A61 : AFun := { np := 1, res := [(2, some (true, 5))], body := c61_0 }
def c66_25 : ACode := .seq (.reg [⟨some 4, .mv (.c (.int .i64 (-1))), none⟩]) .ret
def c66_7 : ACode := .seq (.reg [⟨some 9, .bin .lss (.t 8) (.t 7), none⟩]) (.seq (.cond (.t 9) .skip (.exit 0)) (.seq (.block 1 (.seq (.reg [gm 10 8, gm 5 10]) (.seq (.reg [gm 11 1, gm 12 0, gm 13 5, ⟨some 14, .iadr 5 (.t 12) (.t 13), none⟩, ⟨some 15, .load true 5 (.t 14), none⟩, ⟨some 16, .call (.t 11) [.t 15], none⟩]) (.cond (.t 16) (.seq (.reg [gm 17 5, gm 4 17]) .ret) .skip)))) (.reg [⟨some 18, .bin .add (.t 8) (.c (.int .i64 1)), none⟩, gm 8 18])))
def c66_0 : ACode := .seq (.reg [⟨some 4, .mv (.c (.int .i64 0)), none⟩]) (.seq (.seq (.reg [gm 6 0, ⟨some 7, .len 1 (.t 6), none⟩, ⟨some 8, .mv (.c (.int .i64 0)), none⟩]) (.block 0 (.loop c66_7))) c66_25)
def A66 : AFun := { np := 2, res := [(4, none)], body := c66_0 }
set_option maxRecDepth 100000 in
def c67_64 : ACode := .seq (.reg [⟨some 59, .fadr 1 (.t 2), none⟩, ⟨some 60, .load false 1 (.t 59), none⟩, ⟨some 61, .fadr 1 (.t 5), none⟩, ⟨some 62, .load false 1 (.t 61), none⟩, ⟨some 63, .eq false .bool (.t 60) (.t 62), none⟩, gm 64 63, ⟨some 65, .fadr 2 (.t 2), some (64, true)⟩, ⟨some 66, .load false 1 (.t 65), some (64, true)⟩, ⟨some 67, .fadr 2 (.t 5), some (64, true)⟩, ⟨some 68, .load false 1 (.t 67), some (64, true)⟩, ⟨some 69, .bin .eql (.t 66) (.t 68), some (64, true)⟩, ⟨some 70, .pick (.t 64) (.t 69) (.c (.bool false)), none⟩, gm 71 70, ⟨some 72, .fadr 3 (.t 2), some (71, true)⟩, ⟨some 73, .load false 1 (.t 72), some (71, true)⟩, ⟨some 74, .fadr 3 (.t 5), some (71, true)⟩, ⟨some 75, .load false 1 (.t 74), some (71, true)⟩, ⟨some 76, .bin .eql (.t 73) (.t 75), some (71, true)⟩, ⟨some 77, .pick (.t 71) (.t 76) (.c (.bool false)), none⟩, gm 78 77, ⟨some 79, .fadr 3 (.t 2), some (78, true)⟩, ⟨some 80, .load false 1 (.t 79), some (78, true)⟩, ⟨some 81, .len 0 (.t 80), some (78, true)⟩, ⟨some 82, .bin .leq (.t 81) (.c (.int .i64 65536)), some (78, true)⟩, ⟨some 83, .pick (.t 78) (.t 82) (.c (.bool false)), none⟩, gm 84 83, ⟨some 85, .fadr 4 (.t 2), some (84, true)⟩, ⟨some 86, .load false 1 (.t 85), some (84, true)⟩, ⟨some 87, .len 1 (.t 86), some (84, true)⟩, ⟨some 88, .bin .eql (.t 87) (.c (.int .i64 0)), some (84, true)⟩, ⟨some 89, .mv (.t 88), some (84, true)⟩, ⟨some 90, .fadr 0 (.t 2), some (89, false)⟩, ⟨some 91, .load false 1 (.t 90), some (89, false)⟩, ⟨some 92, .bin .eql (.t 91) (.c (.int .i64 4)), some (89, false)⟩, ⟨some 93, .pick (.t 89) (.c (.bool true)) (.t 92), some (84, true)⟩, ⟨some 94, .pick (.t 84) (.t 93) (.c (.bool false)), none⟩, gm 4 94]) .ret
def c67_43 : ACode := .seq (.reg [⟨some 50, .bin .lss (.t 49) (.t 48), none⟩]) (.seq (.cond (.t 50) .skip (.exit 1)) (.seq (.block 2 (.seq (.reg [⟨some 51, .iadr 5 (.t 47) (.t 49), none⟩, ⟨some 52, .load true 5 (.t 51), none⟩, ⟨some 7, .alloc [.int .i64 0, .bool false, .int .i64 0, .str [], .nilSlc], none⟩, ⟨none, .store 5 (.t 7) (.t 52), none⟩]) (.seq (.reg [⟨some 53, .load true 5 (.t 7), none⟩, gm 54 1, ⟨some 55, .bin .add (.t 54) (.c (.int .i64 1)), none⟩, ⟨some 56, .call (.c (.fn (.func 67) [] [])) [.t 53, .t 55], none⟩, ⟨some 57, .not (.t 56), none⟩]) (.cond (.t 57) (.seq (.reg [⟨some 4, .mv (.c (.bool false)), none⟩]) .ret) .skip)))) (.reg [⟨some 58, .bin .add (.t 49) (.c (.int .i64 1)), none⟩, gm 49 58])))
def c67_39 : ACode := .seq (.reg [⟨some 46, .fadr 4 (.t 2), none⟩, ⟨some 47, .load false 1 (.t 46), none⟩, ⟨some 48, .len 1 (.t 47), none⟩, ⟨some 49, .mv (.c (.int .i64 0)), none⟩]) (.block 1 (.loop c67_43))
set_option maxRecDepth 100000 in
def c67_12 : ACode := .seq (.reg [⟨some 16, .bin .eql (.t 12) (.c (.int .i64 1)), none⟩, gm 15 16]) (.cond (.t 15) (.reg [⟨some 17, .fadr 1 (.t 2), none⟩, ⟨some 18, .load false 1 (.t 17), none⟩, ⟨some 19, .fadr 1 (.t 5), none⟩, ⟨none, .store 1 (.t 19) (.t 18), none⟩]) (.seq (.reg [⟨some 21, .bin .eql (.t 12) (.c (.int .i64 2)), none⟩, gm 20 21]) (.cond (.t 20) (.reg [⟨some 22, .fadr 2 (.t 2), none⟩, ⟨some 23, .load false 1 (.t 22), none⟩, ⟨some 24, .fadr 2 (.t 5), none⟩, ⟨none, .store 1 (.t 24) (.t 23), none⟩]) (.seq (.reg [⟨some 26, .bin .eql (.t 12) (.c (.int .i64 5)), none⟩, gm 25 26]) (.cond (.t 25) (.reg [⟨some 27, .fadr 2 (.t 2), none⟩, ⟨some 28, .load false 1 (.t 27), none⟩, ⟨some 29, .mm true [.t 28, .c (.int .i64 1)], none⟩, ⟨some 30, .fadr 2 (.t 5), none⟩, ⟨none, .store 1 (.t 30) (.t 29), none⟩]) (.seq (.reg [⟨some 32, .bin .eql (.t 12) (.c (.int .i64 3)), none⟩, gm 31 32]) (.cond (.t 31) (.reg [⟨some 33, .fadr 3 (.t 2), none⟩, ⟨some 34, .load false 1 (.t 33), none⟩, ⟨some 35, .fadr 3 (.t 5), none⟩, ⟨none, .store 1 (.t 35) (.t 34), none⟩]) (.seq (.reg [⟨some 37, .bin .eql (.t 12) (.c (.int .i64 4)), none⟩, gm 36 37]) (.cond (.t 36) (.seq (.seq (.reg [gm 38 1, ⟨some 39, .bin .geq (.t 38) (.c (.int .i64 30)), none⟩, gm 40 39, ⟨some 41, .fadr 4 (.t 2), some (40, false)⟩, ⟨some 42, .load false 1 (.t 41), some (40, false)⟩, ⟨some 43, .len 1 (.t 42), some (40, false)⟩, ⟨some 44, .bin .gtr (.t 43) (.c (.int .i64 4096)), some (40, false)⟩, ⟨some 45, .pick (.t 40) (.c (.bool true)) (.t 44), none⟩]) (.cond (.t 45) (.seq (.reg [⟨some 4, .mv (.c (.bool false)), none⟩]) .ret) .skip)) c67_39) (.seq (.reg [⟨some 4, .mv (.c (.bool false)), none⟩]) .ret))))))))))
def c67_0 : ACode := .seq (.reg [⟨some 2, .box 5 (.t 0), none⟩, ⟨some 4, .mv (.c (.bool false)), none⟩]) (.seq (.reg [⟨some 8, .fadr 0 (.t 2), none⟩, ⟨some 9, .load false 1 (.t 8), none⟩, ⟨some 10, .build [.int .i64 0, .bool false, .int .i64 0, .str [], .nilSlc] [(0, 1, .t 9)], none⟩, ⟨some 5, .alloc [.int .i64 0, .bool false, .int .i64 0, .str [], .nilSlc], none⟩, ⟨none, .store 5 (.t 5) (.t 10), none⟩]) (.seq (.seq (.reg [⟨some 11, .fadr 0 (.t 2), none⟩, ⟨some 12, .load false 1 (.t 11), none⟩]) (.block 0 (.seq (.reg [⟨some 14, .bin .eql (.t 12) (.c (.int .i64 0)), none⟩, gm 13 14]) (.cond (.t 13) .skip c67_12)))) c67_64))
def A67 : AFun := { np := 2, res := [(4, none)], body := c67_0 }
def c68_46 : ACode := .seq (.reg [gm 62 0, gm 4 62]) .ret
def c68_33 : ACode := .seq (.reg [⟨some 55, .bin .lss (.t 54) (.t 53), none⟩]) (.seq (.cond (.t 55) .skip (.exit 1)) (.seq (.block 2 (.seq (.reg [⟨some 56, .iadr 5 (.t 52) (.t 54), none⟩, ⟨some 57, .load true 5 (.t 56), none⟩, ⟨some 6, .alloc [.int .i64 0, .bool false, .int .i64 0, .str [], .nilSlc], none⟩, ⟨none, .store 5 (.t 6) (.t 57), none⟩]) (.reg [gm 58 0, ⟨some 59, .load true 5 (.t 6), none⟩, ⟨some 60, .call (.c (.fn (.func 68) [] [])) [.t 58, .t 59], none⟩, gm 0 60]))) (.reg [⟨some 61, .bin .add (.t 54) (.c (.int .i64 1)), none⟩, gm 54 61])))
def c68_18 : ACode := .cond (.t 24) (.reg [gm 27 0, ⟨some 28, .fadr 2 (.t 3), none⟩, ⟨some 29, .load false 1 (.t 28), none⟩, ⟨some 30, .conv .u64 (.t 29), none⟩, ⟨some 31, .call (.c (.fn (.func 89) [] [])) [.t 27, .t 30, .c (.int .i64 8)], none⟩, gm 0 31]) (.seq (.reg [⟨some 33, .bin .eql (.t 14) (.c (.int .i64 3)), none⟩, gm 32 33]) (.cond (.t 32) (.dreg [gm 34 0, ⟨some 35, .fadr 3 (.t 3), none⟩, ⟨some 36, .load false 1 (.t 35), none⟩, ⟨some 37, .len 0 (.t 36), none⟩, ⟨some 38, .conv .u64 (.t 37), none⟩, ⟨some 40, .fadr 3 (.t 3), none⟩, ⟨some 41, .load false 1 (.t 40), none⟩] [(⟨some 39, .call (.c (.fn (.func 89) [] [])) [.t 34, .t 38, .c (.int .i64 4)], none⟩, [⟨some 41, .load false 1 (.t 40), none⟩], []), (⟨some 42, .app 1 1 (.t 39) (.t 41), none⟩, [], []), (gm 0 42, [], [])]) (.seq (.reg [⟨some 44, .bin .eql (.t 14) (.c (.int .i64 4)), none⟩, gm 43 44]) (.cond (.t 43) (.seq (.reg [gm 45 0, ⟨some 46, .fadr 4 (.t 3), none⟩, ⟨some 47, .load false 1 (.t 46), none⟩, ⟨some 48, .len 1 (.t 47), none⟩, ⟨some 49, .conv .u64 (.t 48), none⟩, ⟨some 50, .call (.c (.fn (.func 89) [] [])) [.t 45, .t 49, .c (.int .i64 4)], none⟩, gm 0 50]) (.seq (.reg [⟨some 51, .fadr 4 (.t 3), none⟩, ⟨some 52, .load false 1 (.t 51), none⟩, ⟨some 53, .len 1 (.t 52), none⟩, ⟨some 54, .mv (.c (.int .i64 0)), none⟩]) (.block 1 (.loop c68_33)))) .skip))))
def c68_0 : ACode := .seq (.reg [⟨some 3, .box 5 (.t 1), none⟩, ⟨some 4, .mv (.c .nilSlc), none⟩]) (.seq (.reg [gm 7 0, ⟨some 8, .fadr 0 (.t 3), none⟩, ⟨some 9, .load false 1 (.t 8), none⟩, ⟨some 10, .conv .u8 (.t 9), none⟩, ⟨some 11, .bslice 1 1 [.int .u8 0] [(0, .t 10)], none⟩, ⟨some 12, .appb 5 (.t 7) (.t 11), none⟩, gm 0 12]) (.seq (.seq (.reg [⟨some 13, .fadr 0 (.t 3), none⟩, ⟨some 14, .load false 1 (.t 13), none⟩]) (.block 0 (.seq (.reg [⟨some 16, .bin .eql (.t 14) (.c (.int .i64 1)), none⟩, gm 15 16]) (.cond (.t 15) (.reg [gm 17 0, ⟨some 18, .fadr 1 (.t 3), none⟩, ⟨some 19, .load false 1 (.t 18), none⟩, ⟨some 20, .call (.c (.fn (.func 88) [] [])) [.t 19], none⟩, ⟨some 21, .conv .u8 (.t 20), none⟩, ⟨some 22, .bslice 1 1 [.int .u8 0] [(0, .t 21)], none⟩, ⟨some 23, .appb 5 (.t 17) (.t 22), none⟩, gm 0 23]) (.seq (.seq (.reg [⟨some 25, .bin .eql (.t 14) (.c (.int .i64 2)), none⟩, gm 24 25]) (.cond (.t 24) .skip (.reg [⟨some 26, .bin .eql (.t 14) (.c (.int .i64 5)), none⟩, gm 24 26]))) c68_18))))) c68_46))
def A68 : AFun := { np := 2, res := [(4, none)], body := c68_0 }
def c69_4 : ACode := .seq (.seq (.reg [gm 4 3, ⟨some 5, .bin .geq (.t 4) (.c (.int .i64 0)), none⟩]) (.cond (.t 5) .skip (.exit 0))) (.seq (.block 1 (.dreg [⟨some 8, .load false 1 (.t 1), none⟩, gm 9 0, gm 10 3, ⟨some 11, .bin .mul (.c (.int .i64 8)) (.t 10), none⟩, ⟨some 12, .bin .shr (.t 9) (.t 11), none⟩, ⟨some 13, .conv .u8 (.t 12), none⟩] [(⟨some 14, .bslice 1 1 [.int .u8 0] [(0, .t 13)], none⟩, [⟨some 8, .load false 1 (.t 1), none⟩], []), (⟨some 15, .appb 5 (.t 8) (.t 14), none⟩, [], []), (⟨none, .store 1 (.t 1) (.t 15), none⟩, [], [])])) (.reg [gm 6 3, ⟨some 7, .bin .sub (.t 6) (.c (.int .i64 1)), none⟩, gm 3 7]))
def c69_0 : ACode := .seq (.reg [⟨some 3, .mv (.c (.int .i64 7)), none⟩]) (.block 0 (.loop c69_4))
def A69 : AFun := { np := 2, res := [], body := c69_0 }
def c88_0 : ACode := .seq (.reg [⟨some 2, .mv (.c (.int .i64 0)), none⟩]) (.seq (.seq (.reg [gm 3 0]) (.cond (.t 3) (.seq (.reg [⟨some 2, .mv (.c (.int .i64 1)), none⟩]) .ret) .skip)) (.seq (.reg [⟨some 2, .mv (.c (.int .i64 0)), none⟩]) .ret))
def A88 : AFun := { np := 1, res := [(2, none)], body := c88_0 }
def c89_17 : ACode := .seq (.reg [gm 22 0, gm 6 22]) .ret
def c89_7 : ACode := .seq (.seq (.reg [gm 10 7, ⟨some 11, .bin .geq (.t 10) (.c (.int .i64 0)), none⟩]) (.cond (.t 11) .skip (.exit 0))) (.seq (.block 1 (.reg [gm 14 0, gm 15 1, gm 16 7, ⟨some 17, .bin .mul (.c (.int .i64 8)) (.t 16), none⟩, ⟨some 18, .bin .shr (.t 15) (.t 17), none⟩, ⟨some 19, .conv .u8 (.t 18), none⟩, ⟨some 20, .bslice 1 1 [.int .u8 0] [(0, .t 19)], none⟩, ⟨some 21, .appb 5 (.t 14) (.t 20), none⟩, gm 0 21])) (.reg [gm 12 7, ⟨some 13, .bin .sub (.t 12) (.c (.int .i64 1)), none⟩, gm 7 13]))
def c89_0 : ACode := .seq (.reg [⟨some 6, .mv (.c .nilSlc), none⟩]) (.seq (.seq (.reg [gm 8 2, ⟨some 9, .bin .sub (.t 8) (.c (.int .i64 1)), none⟩, gm 7 9]) (.block 0 (.loop c89_7))) c89_17)
def A89 : AFun := { np := 3, res := [(6, none)], body := c89_0 }
end Go.Proofs.Ytbamgdknkhhikaa
