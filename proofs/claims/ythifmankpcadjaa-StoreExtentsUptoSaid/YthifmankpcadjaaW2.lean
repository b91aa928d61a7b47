/-
  Texts that the claim hangs on, part 3.
-/
import Derived.Test.YthifmankpcadjaaW1
import Derived.ChangeOld
import Derived.ChangeSame
import Derived.Test.YthifmankpcadjaaProg
import Derived.KernelRfl
namespace Go.Ab
set_option linter.unusedSimpArgs false
set_option linter.unusedVariables false
def optB (o : Option AV) (k : AV → Bool) : Bool :=
  match o with
  | some v => k v
  | none => false
def optP (o : Option (AV × AHeap)) (k : Kont) : Bool :=
  match o with
  | some p => match p with | (v, h) => k v h
  | none => false
def condB (c : AV) (a b : Bool) : Bool :=
  match c with
  | .bool x => match x with | true => a | false => b
  | _ => false
def wantV (c : AV) (b : Bool) : Bool :=
  match c with
  | .bool x => x == b
  | _ => false
def grdO (w : Bool) (o : Option AV) : Option AV := bif w then o else some (.tup [])
def grdP (w : Bool) (o : Option (AV × AHeap)) (h : AHeap) : Option (AV × AHeap) := bif w then o else some (.tup [], h)
def grdC (w : Bool) (run : Kont → Bool) (h : AHeap) (K : Kont) : Bool := bif w then run K else K (.tup []) h
def callV (call : CallFn) (f : AV) (args : List AV) (h : AHeap) (K : Kont) : Bool :=
  match f with
  | .fn tgt first cap => call tgt (first ++ args ++ cap) h K
  | _ => false
def sameB (o : Option AV) (u : AV) (r : Bool) : Bool :=
  match o with
  | some v => bif AV.same v u then r else false
  | none => false
def sameG (w : Bool) (o : Option AV) (u : AV) (r : Bool) : Bool := bif w then sameB o u r else r
def pickV (c a b : AV) : Option AV :=
  match c with
  | .bool x => match x with | true => some a | false => some b
  | _ => none
def eqV (h : AHeap) (neg : Bool) (k : EqK) (a b : AV) : Option AV :=
  match eqA h k a b with
  | some r => some (.bool (bif neg then !r else r))
  | none => none
def fillV (cells : List AV) : List (Nat × Nat × AV) → Option (List AV)
  | [] => some cells
  | (off, n, v) :: rest => bif Nat.beq v.cells.length n && Nat.ble (off + n) cells.length && allLeaf v.cells then fillV (lay cells off v.cells) rest else none
def buildV (z : List AV) (ps : List (Nat × Nat × AV)) : Option AV :=
  match fillV z ps with
  | some l => some (.agg l)
  | none => none
def fillRowV (sz : Nat) (es : List (List AV)) : List (Nat × AV) → Option (List (List AV))
  | [] => some es
  | (i, v) :: rest => bif Nat.beq v.cells.length sz && Nat.blt i es.length && allLeaf v.cells then fillRowV sz (setNth es i v.cells) rest else none
def bsliceV (h : AHeap) (n sz : Nat) (z : List AV) (ps : List (Nat × AV)) : Option (AV × AHeap) :=
  bif Nat.beq z.length sz && Nat.blt 0 sz && Nat.ble (n * sz) 16777216 && allLeaf z then
    (match fillRowV sz (repl n z) ps with
    | some es => some (.slc h.sz 0 0 n n true, newRow h es sz)
    | none => none)
  else none
def natV (d : Nat) : Option AV → Option Nat
  | none => some d
  | some v => asNat v
def sliceV (h : AHeap) (sz : Nat) (x : AV) (lo hi mx : Option AV) : Option AV :=
  match x with
  | .slc id g s len cap ex =>
    bif rowSz h id sz then
    match mx with
    | some m => match natV 0 (some m), natV len hi, natV 0 lo with
      | some m, some h, some l => bif Nat.ble l h && Nat.ble h m && Nat.ble m cap && hi.isSome then some (.slc id g (s + l) (h - l) (m - l) true) else none
      | _, _, _ => none
    | none => match natV len hi, natV 0 lo with
      | some h, some l => bif Nat.ble l h && Nat.ble h cap then some (.slc id g (s + l) (h - l) (cap - l) ex) else none
      | _, _ => none
    else none
  | .nilSlc =>
    match natV 0 mx, natV 0 hi, natV 0 lo with
    | some 0, some 0, some 0 => bif mx.isNone || hi.isSome then some .nilSlc else none
    | _, _, _ => none
  | .emp =>
    match natV 0 mx, natV 0 hi, natV 0 lo with
    | some 0, some 0, some 0 => bif mx.isNone || hi.isSome then some .emp else none
    | _, _, _ => none
  | _ => none
def sliceSV (x : AV) (lo hi : Option AV) : Option AV :=
  match x with
  | .str s => match natV s.length hi, natV 0 lo with
    | some h, some l => bif Nat.ble l h && Nat.ble h s.length then some (.str ((s.take h).drop l)) else none
    | _, _ => none
  | _ => none
def allocV (h : AHeap) (z : List AV) : Option (AV × AHeap) := allocA h z
def allotV (h : AHeap) (t : Nat) (z : List AV) : Option (AV × AHeap) := bif Nat.blt 0 z.length && allLeaf z then some (.ptr h.sz 0 0 0, newRow h [z] z.length (some t)) else none
def appbA (h : AHeap) (e : Nat) (s x : AV) : Option (AV × AHeap) := appendA h 1 1 s x (some e)
def mmV (mx : Bool) : List AV → Option AV
  | v :: l => mmA mx v l
  | [] => none
def mkmapV (h : AHeap) : Option (AV × AHeap) := some (.map h.sz, h.push (.map [] 0))
abbrev LEnv := List (Nat × AV)
def LEnv.get : LEnv → Nat → Option AV
  | [], _ => none
  | (k, v) :: l, n => bif Nat.beq n k then some v else LEnv.get l n
def Has (ρ : Regs) (l : LEnv) : Prop := ∀ k v, l.get k = some v → ρ.get k = some v
theorem Has.nil {ρ : Regs} : Has ρ [] := fun _ _ h => by cases h
theorem Has.set {ρ : Regs} {l : LEnv} (H : Has ρ l) (d : Nat) (v : AV) : Has (ρ.set d v) ((d, v) :: l) := by
  intro k u h
  rw [PT.get_set]
  simp only [LEnv.get] at h
  cases hb : Nat.beq k d with
  | true =>
    rw [hb, cond_true] at h
    rw [if_pos (Nat.eq_of_beq_eq_true hb)]
    exact h
  | false =>
    rw [hb, cond_false] at h
    rw [if_neg (nbeq_false.1 hb)]
    exact H k u h
def keepL : List Nat → LEnv → Option LEnv
  | [], _ => some []
  | k :: ks, l => match l.get k with
    | some v => match keepL ks l with
      | some m => some ((k, v) :: m)
      | none => none
    | none => none
def mkR : LEnv → Regs
  | [] => .lf
  | (k, v) :: l => (mkR l).set k v
theorem Has.mk : ∀ {l : LEnv}, Has (mkR l) l
  | [] => Has.nil
  | (k, v) :: l => (Has.mk (l := l)).set k v
theorem keepL_get : ∀ {ks : List Nat} {l m : LEnv}, keepL ks l = some m → ∀ k v, m.get k = some v → l.get k = some v
  | [], l, m, h, k, v, e => by simp only [keepL] at h; cases h; cases e
  | k :: ks, l, m, h, j, v, e => by
    simp only [keepL] at h
    split at h
    · rename_i u hu
      split at h
      · rename_i m' hm
        cases h
        simp only [LEnv.get] at e
        cases hb : Nat.beq j k with
        | true => rw [hb, cond_true] at e; cases e; rw [Nat.eq_of_beq_eq_true hb]; exact hu
        | false => rw [hb, cond_false] at e; exact keepL_get hm j v e
      · cases h
    · cases h
theorem Has.keep {ρ : Regs} {l m : LEnv} (H : Has ρ l) (ks : List Nat) (h : keepL ks l = some m) : Has ρ m := fun k v e => H k v (keepL_get h k v e)
theorem keepR_eq {ρ : Regs} : ∀ {ks : List Nat} {l m : LEnv}, Has ρ l → keepL ks l = some m → keepR ks ρ = mkR m
  | [], l, m, H, h => by simp only [keepL] at h; cases h; rfl
  | k :: ks, l, m, H, h => by
    simp only [keepL] at h
    split at h
    · rename_i u hu
      split at h
      · rename_i m' hm
        cases h
        simp only [keepR, H k u hu, mkR, keepR_eq H hm]
      · cases h
    · cases h
def evL (l : LEnv) : Opd → Option AV
  | .t r => l.get r
  | .c v => some v
def evsL (l : LEnv) : List Opd → Option (List AV)
  | [] => some []
  | x :: xs => match evL l x with
    | some v => match evsL l xs with
      | some vs => some (v :: vs)
      | none => none
    | none => none
def evoL (l : LEnv) : Option Opd → Option (Option AV)
  | none => some none
  | some x => match evL l x with
    | some v => some (some v)
    | none => none
def partsL (l : LEnv) : List (Nat × Nat × Opd) → Option (List (Nat × Nat × AV))
  | [] => some []
  | (a, b, x) :: xs => match evL l x with
    | some v => match partsL l xs with
      | some vs => some ((a, b, v) :: vs)
      | none => none
    | none => none
def slotsL (l : LEnv) : List (Nat × Opd) → Option (List (Nat × AV))
  | [] => some []
  | (a, x) :: xs => match evL l x with
    | some v => match slotsL l xs with
      | some vs => some ((a, v) :: vs)
      | none => none
    | none => none
theorem ev_has {ρ : Regs} {l : LEnv} (H : Has ρ l) {x : Opd} {v : AV} (h : evL l x = some v) : ev ρ x = some v := by
  cases x with
  | t r => exact H r v h
  | c u => exact h
theorem evs_has {ρ : Regs} {l : LEnv} (H : Has ρ l) : ∀ {xs : List Opd} {vs : List AV}, evsL l xs = some vs → evs ρ xs = some vs
  | [], vs, h => by simpa [evsL, evs] using h
  | x :: xs, vs, h => by
    simp only [evsL] at h
    split at h
    · rename_i v hv
      split at h
      · rename_i vs' hvs
        cases h
        simp only [evs, ev_has H hv, evs_has H hvs]
      · cases h
    · cases h
theorem evNat_has {ρ : Regs} {l : LEnv} (H : Has ρ l) {d : Nat} {x : Option Opd} {o : Option AV} (h : evoL l x = some o) : evNat ρ d x = natV d o ∧ x.isSome = o.isSome ∧ x.isNone = o.isNone ∧ (x = none ↔ o = none) := by
  cases x with
  | none => simp only [evoL] at h; cases h; exact ⟨rfl, rfl, rfl, by simp⟩
  | some x =>
    simp only [evoL] at h
    split at h
    · rename_i v hv
      cases h
      exact ⟨by simp only [evNat, ev_has H hv, natV], rfl, rfl, by simp⟩
    · cases h
theorem fill_has {ρ : Regs} {l : LEnv} (H : Has ρ l) : ∀ {ps : List (Nat × Nat × Opd)} {vs : List (Nat × Nat × AV)} {cells : List AV}, partsL l ps = some vs → fillA ρ cells ps = fillV cells vs
  | [], vs, cells, h => by simp only [partsL] at h; cases h; rfl
  | (a, b, x) :: ps, vs, cells, h => by
    simp only [partsL] at h
    split at h
    · rename_i v hv
      split at h
      · rename_i vs' hvs
        cases h
        simp only [fillA, fillV, ev_has H hv]
        rw [fill_has H hvs]
      · cases h
    · cases h
theorem fillRow_has {ρ : Regs} {l : LEnv} (H : Has ρ l) {sz : Nat} : ∀ {ps : List (Nat × Opd)} {vs : List (Nat × AV)} {es : List (List AV)}, slotsL l ps = some vs → fillRow ρ sz es ps = fillRowV sz es vs
  | [], vs, es, h => by simp only [slotsL] at h; cases h; rfl
  | (a, x) :: ps, vs, es, h => by
    simp only [slotsL] at h
    split at h
    · rename_i v hv
      split at h
      · rename_i vs' hvs
        cases h
        simp only [fillRow, fillRowV, ev_has H hv]
        rw [fillRow_has H hvs]
      · cases h
    · cases h
def l1 (l : LEnv) (x : Opd) (f : AV → Option AV) : Option (Option AV) :=
  match evL l x with
  | some v => some (f v)
  | none => none
def l2 (l : LEnv) (x y : Opd) (f : AV → AV → Option AV) : Option (Option AV) :=
  match evL l x with
  | some v => match evL l y with
    | some w => some (f v w)
    | none => none
  | none => none
def pureL (l : LEnv) (h : AHeap) (op : AOp) : Option (Option AV) :=
  match op with
  | .mv x => match evL l x with
    | some v => some (some v)
    | none => none
  | .pick c a b => match evL l c, evL l a, evL l b with
    | some c, some a, some b => some (pickV c a b)
    | _, _, _ => none
  | .build z ps => match partsL l ps with
    | some vs => some (buildV z vs)
    | none => none
  | .load ag n a => l1 l a (loadA h ag n)
  | .nilck x => l1 l x nilckA
  | .bin op x y => l2 l x y (binA op)
  | .eq neg k x y => l2 l x y (eqV h neg k)
  | .not x => l1 l x notA
  | .neg x => l1 l x negA
  | .conv k x => l1 l x (convA k)
  | .b2s x => l1 l x (b2sA h)
  | .cvs x => l1 l x cvsA
  | .mkfn f a b => match evsL l a with
    | some a => match evsL l b with
      | some b => some (some (.fn (.func f) a b))
      | none => none
    | none => none
  | .sl sz x lo hi mx => match evL l x, evoL l lo, evoL l hi, evoL l mx with
    | some v, some lo, some hi, some mx => some (sliceV h sz v lo hi mx)
    | _, _, _, _ => none
  | .sls x lo hi => match evL l x, evoL l lo, evoL l hi with
    | some v, some lo, some hi => some (sliceSV v lo hi)
    | _, _, _ => none
  | .fadr off x => l1 l x (fadrA off)
  | .fld ag off n x => l1 l x (fldA ag off n)
  | .iadr sz x i => l2 l x i (iadrA h sz)
  | .iadra len esz x i => l2 l x i (iadraA len esz)
  | .idxs x i => l2 l x i idxsA
  | .idxa ag len esz x i => l2 l x i (idxaA ag len esz)
  | .look kk ok z m k => l2 l m k (lookA h kk ok z)
  | .ext x i => l1 l x (extA i)
  | .len k x => l1 l x (lenA h k)
  | .cap x => l1 l x capA
  | .mm mx xs => match evsL l xs with
    | some vs => some (mmV mx vs)
    | none => none
  | .ent x => l1 l x (entA h)
  | .uto x => l1 l x (utoA h)
  | .ufr t n x => l1 l x (ufrA h t n)
  | .sdat x => l1 l x sdatA
  | _ => none
def heapL (l : LEnv) (h : AHeap) (op : AOp) : Option (Option (AV × AHeap)) :=
  match op with
  | .alloc z => some (allocV h z)
  | .box n x => match evL l x with
    | some v => some (boxA h n v)
    | none => none
  | .bslice n sz z ps => match slotsL l ps with
    | some vs => some (bsliceV h n sz z vs)
    | none => none
  | .store n a v => match evL l a, evL l v with
    | some a, some v => some (unit (storeA h n a v))
    | _, _ => none
  | .mkmap => some (mkmapV h)
  | .mksl sz bytes z a c => match evL l a, evL l c with
    | some a, some c => some (mkslA h sz bytes z a c)
    | _, _ => none
  | .mupd kk m k v => match evL l m, evL l k, evL l v with
    | some m, some k, some v => some (unit (mupdA h kk m k v))
    | _, _, _ => none
  | .app sz bytes s x => match evL l s, evL l x with
    | some s, some x => some (appendA h sz bytes s x)
    | _, _ => none
  | .appz sz bytes z s x => match evL l s, evL l x with
    | some s, some x => some (appzA h sz bytes z s x)
    | _, _ => none
  | .copy sz d s => match evL l d, evL l s with
    | some d, some s => some (copyA h sz d s)
    | _, _ => none
  | .del kk m k => match evL l m, evL l k with
    | some m, some k => some (unit (delA h kk m k))
    | _, _ => none
  | .clr sz z x => match evL l x with
    | some v => some (unit (clrA h sz z v))
    | none => none
  | .rng x => match evL l x with
    | some v => some (rngA h v)
    | none => none
  | .allot t z => some (allotV h t z)
  | .appb e s x => match evL l s, evL l x with
    | some s, some x => some (appbA h e s x)
    | _, _ => none
  | .ustr e p n => match evL l p, evL l n with
    | some p, some n => some (ustrA h e p n)
    | _, _ => none
  | _ => none
section
variable {ρ : Regs} {l : LEnv} {h : AHeap} {op : AOp}
theorem l1_has (H : Has ρ l) {x : Opd} {f : AV → Option AV} {o : Option AV} (e : l1 l x f = some o) : ev1 ρ x f = o := by
  unfold l1 at e
  split at e
  · rename_i v hv; cases e; simp only [ev1, ev_has H hv]
  · cases e
theorem l2_has (H : Has ρ l) {x y : Opd} {f : AV → AV → Option AV} {o : Option AV} (e : l2 l x y f = some o) : ev2 ρ x y f = o := by
  unfold l2 at e
  split at e
  · rename_i v hv
    split at e
    · rename_i w hw; cases e; simp only [ev2, ev_has H hv, ev_has H hw]
    · cases e
  · cases e
theorem slice_has (H : Has ρ l) {sz : Nat} {v : AV} {lo hi mx : Option Opd} {a b c : Option AV} (h1 : evoL l lo = some a) (h2 : evoL l hi = some b) (h3 : evoL l mx = some c) : sliceA ρ h sz v lo hi mx = sliceV h sz v a b c := by
  have e1 := fun d => evNat_has H (d := d) h1
  have e2 := fun d => evNat_has H (d := d) h2
  have e3 := fun d => evNat_has H (d := d) h3
  unfold sliceA sliceV
  cases v <;> simp only [(e1 0).1, (e2 _).1, (e3 0).1, (e2 0).2.1, (e3 0).2.2.1]
  · cases mx with
    | none =>
      have : c = none := (e3 0).2.2.2.1 rfl
      subst this; rfl
    | some m =>
      cases c with
      | none => have := (e3 0).2.2.2.2 rfl; cases this
      | some c =>
        have := (e3 0).1
        simp only [this]
        rfl
  · rfl
  · rfl
theorem pureL_has (H : Has ρ l) {o : Option AV} (e : pureL l h op = some o) : evalA ρ h op = pureV o h ∧ isCall op = false := by
  unfold pureL at e
  split at e
  case h_1 x =>
    split at e
    · rename_i v hv; cases e; simp only [evalA, ev_has H hv, isCall, and_self]
    · cases e
  case h_2 c a b =>
    split at e
    · rename_i c' a' b' h1 h2 h3
      cases e
      refine ⟨?_, rfl⟩
      simp only [evalA, ev_has H h1, ev_has H h2, ev_has H h3]
      cases c' <;> try rfl
      rename_i x; cases x <;> rfl
    · cases e
  case h_3 z ps =>
    split at e
    · rename_i vs hvs
      cases e
      refine ⟨?_, rfl⟩
      simp only [evalA, fill_has H hvs, buildV]
      cases fillV z vs <;> rfl
    · cases e
  case h_7 neg k x y =>
    unfold l2 at e
    split at e
    · rename_i v hv
      split at e
      · rename_i w hw
        cases e
        refine ⟨?_, rfl⟩
        simp only [evalA, ev_has H hv, ev_has H hw, eqV]
        cases eqA h k v w <;> rfl
      · cases e
    · cases e
  case h_13 f a b =>
    split at e
    · rename_i a' ha
      split at e
      · rename_i b' hb
        cases e
        exact ⟨by simp only [evalA, evs_has H ha, evs_has H hb, pureV], rfl⟩
      · cases e
    · cases e
  case h_14 sz x lo hi mx =>
    split at e
    · rename_i v a b c h0 h1 h2 h3
      cases e
      exact ⟨by simp only [evalA, ev1, ev_has H h0, slice_has H h1 h2 h3], rfl⟩
    · cases e
  case h_15 x lo hi =>
    split at e
    · rename_i v a b h0 h1 h2
      cases e
      refine ⟨?_, rfl⟩
      simp only [evalA, ev1, ev_has H h0]
      congr 1
      unfold sliceS sliceSV
      cases v <;> simp only [(evNat_has H h1).1, (evNat_has H h2).1]
      rfl
    · cases e
  case h_26 mx xs =>
    split at e
    · rename_i vs hvs
      cases e
      refine ⟨?_, rfl⟩
      simp only [evalA, evs_has H hvs]
      cases vs <;> rfl
    · cases e
  all_goals first
    | exact ⟨by simp only [evalA]; rw [l1_has H e], rfl⟩
    | exact ⟨by simp only [evalA]; rw [l2_has H e], rfl⟩
    | cases e
theorem heapL_has (H : Has ρ l) {o : Option (AV × AHeap)} (e : heapL l h op = some o) : evalA ρ h op = o ∧ isCall op = false := by
  unfold heapL at e
  split at e
  case h_1 z => cases e; exact ⟨rfl, rfl⟩
  case h_3 n sz z ps =>
    split at e
    · rename_i vs hvs
      cases e
      refine ⟨?_, rfl⟩
      simp only [evalA, bsliceV, fillRow_has H hvs]
      rfl
    · cases e
  case h_5 => cases e; exact ⟨rfl, rfl⟩
  case h_14 => cases e; exact ⟨rfl, rfl⟩
  case h_15 =>
    split at e
    · rename_i h1 h2
      cases e
      refine ⟨?_, rfl⟩
      simp only [evalA, ev_has H h1, ev_has H h2]
      rfl
    · cases e
  all_goals first
    | cases e; done
    | (split at e
       · cases e
         refine ⟨?_, rfl⟩
         rename_i h1
         simp only [evalA, ev_has H h1]
       · cases e)
    | (split at e
       · cases e
         refine ⟨?_, rfl⟩
         rename_i h1 h2
         simp only [evalA, ev_has H h1, ev_has H h2]
       · cases e)
    | (split at e
       · cases e
         refine ⟨?_, rfl⟩
         rename_i h1 h2 h3
         simp only [evalA, ev_has H h1, ev_has H h2, ev_has H h3]
       · cases e)
def Le (c c' : CallFn) : Prop := ∀ t a h (K K' : Kont), c t a h K = true → (∀ v h', K v h' = true → K' v h' = true) → c' t a h K' = true
theorem optB_true {o : Option AV} {k : AV → Bool} (s : optB o k = true) : ∃ v, o = some v ∧ k v = true := by
  cases o with
  | none => cases s
  | some v => exact ⟨v, rfl, s⟩
theorem optP_true {o : Option (AV × AHeap)} {k : Kont} (s : optP o k = true) : ∃ v h', o = some (v, h') ∧ k v h' = true := by
  cases o with
  | none => cases s
  | some p => exact ⟨p.1, p.2, rfl, s⟩
theorem wanted_has (H : Has ρ l) {d : Nat} {g : AV} {b : Bool} (hg : l.get d = some g) : wantedA ρ (some (d, b)) = some (wantV g b) := by
  simp only [wantedA, H d g hg, wantV]
  cases g <;> rfl
variable {call call' : CallFn} {Ks : KSt} {d : Nat}
theorem step_mv {x : Opd} {v : AV} (H : Has ρ l) (e : evL l x = some v) (k : Has (ρ.set d v) ((d, v) :: l) → Ks v ⟨ρ.set d v, h⟩ = true) : stepA call' ⟨some d, .mv x, none⟩ ⟨ρ, h⟩ Ks = true := by
  simp only [stepA, wantedA, evalK, evalA, ev_has H e, pureV, put]
  exact k (H.set d v)
theorem evalK_of (hn : isCall op = false) {o : Option (AV × AHeap)} (e : evalA ρ h op = o) {K : Kont} : evalK call' ρ h op K = optP o K := by
  rw [evalK_plain hn, e]
  cases o <;> rfl
theorem step_pure {o : Option AV} {k : AV → Bool} (H : Has ρ l) (e : pureL l h op = some o) (s : optB o k = true) (hk : ∀ v, k v = true → Has (ρ.set d v) ((d, v) :: l) → Ks v ⟨ρ.set d v, h⟩ = true) : stepA call' ⟨some d, op, none⟩ ⟨ρ, h⟩ Ks = true := by
  obtain ⟨e1, e2⟩ := pureL_has H e
  obtain ⟨v, rfl, s⟩ := optB_true s
  simp only [stepA, wantedA, evalK_of e2 e1, pureV, optP, put]
  exact hk v s (H.set d v)
theorem step_pure0 {o : Option AV} {k : AV → Bool} (H : Has ρ l) (e : pureL l h op = some o) (s : optB o k = true) (hk : ∀ v, k v = true → Has ρ l → Ks v ⟨ρ, h⟩ = true) : stepA call' ⟨none, op, none⟩ ⟨ρ, h⟩ Ks = true := by
  obtain ⟨e1, e2⟩ := pureL_has H e
  obtain ⟨v, rfl, s⟩ := optB_true s
  simp only [stepA, wantedA, evalK_of e2 e1, pureV, optP, put]
  exact hk v s H
theorem step_heap {o : Option (AV × AHeap)} {k : Kont} (H : Has ρ l) (e : heapL l h op = some o) (s : optP o k = true) (hk : ∀ v h', k v h' = true → Has (ρ.set d v) ((d, v) :: l) → Ks v ⟨ρ.set d v, h'⟩ = true) : stepA call' ⟨some d, op, none⟩ ⟨ρ, h⟩ Ks = true := by
  obtain ⟨e1, e2⟩ := heapL_has H e
  obtain ⟨v, h', rfl, s⟩ := optP_true s
  simp only [stepA, wantedA, evalK_of e2 e1, optP, put]
  exact hk v h' s (H.set d v)
theorem step_heap0 {o : Option (AV × AHeap)} {k : Kont} (H : Has ρ l) (e : heapL l h op = some o) (s : optP o k = true) (hk : ∀ v h', k v h' = true → Has ρ l → Ks v ⟨ρ, h'⟩ = true) : stepA call' ⟨none, op, none⟩ ⟨ρ, h⟩ Ks = true := by
  obtain ⟨e1, e2⟩ := heapL_has H e
  obtain ⟨v, h', rfl, s⟩ := optP_true s
  simp only [stepA, wantedA, evalK_of e2 e1, optP, put]
  exact hk v h' s H
theorem step_call {f : Nat} {xs : List Opd} {vs : List AV} {k : Kont} (hc : Le call call') (H : Has ρ l) (e : evsL l xs = some vs) (s : call (.func f) vs h k = true) (hk : ∀ v h', k v h' = true → Has (ρ.set d v) ((d, v) :: l) → Ks v ⟨ρ.set d v, h'⟩ = true) :
    stepA call' ⟨some d, .call (.c (.fn (.func f) [] [])) xs, none⟩ ⟨ρ, h⟩ Ks = true := by
  simp only [stepA, wantedA, evalK, ev, evs_has H e, put, List.nil_append, List.append_nil]
  exact hc _ _ _ _ _ s fun v h' hv => hk v h' hv (H.set d v)
theorem callV_le (hc : Le call call') {f : AV} {vs : List AV} {k k' : Kont} (s : callV call f vs h k = true) (hk : ∀ v h', k v h' = true → k' v h' = true) : callV call' f vs h k' = true := by
  unfold callV at s ⊢
  cases f <;> first | (cases s; done) | exact hc _ _ _ _ _ s hk
theorem evalK_callV {x : Opd} {f : AV} {xs : List Opd} {vs : List AV} (H : Has ρ l) (ef : evL l x = some f) (e : evsL l xs = some vs) {K : Kont} : evalK call' ρ h (.call x xs) K = callV call' f vs h K := by
  simp only [evalK, ev_has H ef, evs_has H e, callV]
  cases f <;> rfl
theorem step_callv {x : Opd} {f : AV} {xs : List Opd} {vs : List AV} {k : Kont} (hc : Le call call') (H : Has ρ l) (ef : evL l x = some f) (e : evsL l xs = some vs) (s : callV call f vs h k = true) (hk : ∀ v h', k v h' = true → Has (ρ.set d v) ((d, v) :: l) → Ks v ⟨ρ.set d v, h'⟩ = true) :
    stepA call' ⟨some d, .call x xs, none⟩ ⟨ρ, h⟩ Ks = true := by
  simp only [stepA, wantedA, evalK_callV H ef e, put]
  exact callV_le hc s fun v h' hv => hk v h' hv (H.set d v)
theorem nextA_le {v : AV} {k k' : Kont} (s : nextA h v k = true) (hk : ∀ v h', k v h' = true → k' v h' = true) : nextA h v k' = true := by
  unfold nextA at s ⊢
  split at s <;> first | (cases s; done) | skip
  split at s <;> first | (cases s; done) | exact hk _ _ s | skip
  split at s <;> first | (cases s; done) | skip
  rename_i es clock hes
  cases hb : (!List.isEmpty _ && !List.isEmpty es && es.all _) with
  | true => rw [hb, cond_true] at s; cases s
  | false =>
    rw [hb, cond_false] at s
    simp only [cond_false]
    rw [List.all_eq_true] at s ⊢
    intro x hx
    have := s x hx
    cases x with
    | none => exact hk _ _ this
    | some e => exact hk _ _ this
variable {j : Nat} {b : Bool} {g : AV}
theorem gstep_pure {o : Option AV} {k : AV → Bool} (H : Has ρ l) (hg : l.get j = some g) (e : pureL l h op = some o) (s : optB (grdO (wantV g b) o) k = true) (hk : ∀ v, k v = true → Has (ρ.set d v) ((d, v) :: l) → Ks v ⟨ρ.set d v, h⟩ = true) : stepA call' ⟨some d, op, some (j, b)⟩ ⟨ρ, h⟩ Ks = true := by
  obtain ⟨e1, e2⟩ := pureL_has H e
  simp only [stepA, wanted_has H hg]
  cases hw : wantV g b with
  | true =>
    simp only [hw, grdO, cond_true] at s
    obtain ⟨v, rfl, s⟩ := optB_true s
    simp only [evalK_of e2 e1, pureV, optP, put]
    exact hk v s (H.set d v)
  | false =>
    simp only [hw, grdO, cond_false] at s
    exact hk _ s (H.set d _)
theorem gstep_pure0 {o : Option AV} {k : AV → Bool} (H : Has ρ l) (hg : l.get j = some g) (e : pureL l h op = some o) (s : optB (grdO (wantV g b) o) k = true) (hk : ∀ v, k v = true → Has ρ l → Ks v ⟨ρ, h⟩ = true) : stepA call' ⟨none, op, some (j, b)⟩ ⟨ρ, h⟩ Ks = true := by
  obtain ⟨e1, e2⟩ := pureL_has H e
  simp only [stepA, wanted_has H hg]
  cases hw : wantV g b with
  | true =>
    simp only [hw, grdO, cond_true] at s
    obtain ⟨v, rfl, s⟩ := optB_true s
    simp only [evalK_of e2 e1, pureV, optP, put]
    exact hk v s H
  | false =>
    simp only [hw, grdO, cond_false] at s
    exact hk _ s H
theorem gstep_heap {o : Option (AV × AHeap)} {k : Kont} (H : Has ρ l) (hg : l.get j = some g) (e : heapL l h op = some o) (s : optP (grdP (wantV g b) o h) k = true) (hk : ∀ v h', k v h' = true → Has (ρ.set d v) ((d, v) :: l) → Ks v ⟨ρ.set d v, h'⟩ = true) : stepA call' ⟨some d, op, some (j, b)⟩ ⟨ρ, h⟩ Ks = true := by
  obtain ⟨e1, e2⟩ := heapL_has H e
  simp only [stepA, wanted_has H hg]
  cases hw : wantV g b with
  | true =>
    simp only [hw, grdP, cond_true] at s
    obtain ⟨v, h', rfl, s⟩ := optP_true s
    simp only [evalK_of e2 e1, optP, put]
    exact hk v h' s (H.set d v)
  | false =>
    simp only [hw, grdP, cond_false] at s
    exact hk _ _ s (H.set d _)
theorem gstep_heap0 {o : Option (AV × AHeap)} {k : Kont} (H : Has ρ l) (hg : l.get j = some g) (e : heapL l h op = some o) (s : optP (grdP (wantV g b) o h) k = true) (hk : ∀ v h', k v h' = true → Has ρ l → Ks v ⟨ρ, h'⟩ = true) : stepA call' ⟨none, op, some (j, b)⟩ ⟨ρ, h⟩ Ks = true := by
  obtain ⟨e1, e2⟩ := heapL_has H e
  simp only [stepA, wanted_has H hg]
  cases hw : wantV g b with
  | true =>
    simp only [hw, grdP, cond_true] at s
    obtain ⟨v, h', rfl, s⟩ := optP_true s
    simp only [evalK_of e2 e1, optP, put]
    exact hk v h' s H
  | false =>
    simp only [hw, grdP, cond_false] at s
    exact hk _ _ s H
theorem gstep_callv {x : Opd} {f : AV} {xs : List Opd} {vs : List AV} {k : Kont} (hc : Le call call') (H : Has ρ l) (hg : l.get j = some g) (ef : evL l x = some f) (e : evsL l xs = some vs) (s : grdC (wantV g b) (fun k => callV call f vs h k) h k = true) (hk : ∀ v h', k v h' = true → Has (ρ.set d v) ((d, v) :: l) → Ks v ⟨ρ.set d v, h'⟩ = true) :
    stepA call' ⟨some d, .call x xs, some (j, b)⟩ ⟨ρ, h⟩ Ks = true := by
  simp only [stepA, wanted_has H hg]
  cases hw : wantV g b with
  | true =>
    simp only [hw, grdC, cond_true] at s
    simp only [evalK_callV H ef e, put]
    exact callV_le hc s fun v h' hv => hk v h' hv (H.set d v)
  | false =>
    simp only [hw, grdC, cond_false] at s
    exact hk _ _ s (H.set d _)
theorem gstep_call {f : Nat} {xs : List Opd} {vs : List AV} {k : Kont} (hc : Le call call') (H : Has ρ l) (hg : l.get j = some g) (e : evsL l xs = some vs) (s : grdC (wantV g b) (fun k => call (.func f) vs h k) h k = true) (hk : ∀ v h', k v h' = true → Has (ρ.set d v) ((d, v) :: l) → Ks v ⟨ρ.set d v, h'⟩ = true) :
    stepA call' ⟨some d, .call (.c (.fn (.func f) [] [])) xs, some (j, b)⟩ ⟨ρ, h⟩ Ks = true := by
  refine gstep_callv hc H hg (f := .fn (.func f) [] []) rfl e ?_ hk
  simpa only [callV, List.nil_append, List.append_nil] using s
variable {ops : List AOper} {Kr : Regs → Bool}
theorem calc_nil (k : Kr ρ = true) : calcK [] ρ h Kr = true := k
theorem calc_cons_some {o : AOper} {v : AV} (e : (wantedA ρ o.grd = some true ∧ ∃ h', evalA ρ h o.op = some (v, h')) ∨ (wantedA ρ o.grd = some false ∧ v = .tup [])) (k : calcK ops (put ρ o.dst v) h Kr = true) : calcK (o :: ops) ρ h Kr = true := by
  unfold calcK at k ⊢
  simp only [calcA]
  rcases e with ⟨e1, h', e2⟩ | ⟨e1, rfl⟩
  · simp only [e1, e2]; exact k
  · simp only [e1]; exact k
theorem calc_mv {x : Opd} {v : AV} (H : Has ρ l) (e : evL l x = some v) (k : Has (ρ.set d v) ((d, v) :: l) → calcK ops (ρ.set d v) h Kr = true) : calcK (⟨some d, .mv x, none⟩ :: ops) ρ h Kr = true :=
  calc_cons_some (v := v) (.inl ⟨rfl, h, by simp only [evalA, ev_has H e, pureV]⟩) (k (H.set d v))
theorem c_m {x : Opd} {v : AV} (H : Has ρ l) (e : evL l x = some v) (k : Has (ρ.set d v) ((d, v) :: l) → calcK ops (ρ.set d v) h Kr = true) : calcK (⟨some d, .mv x, none⟩ :: ops) ρ h Kr = true :=
  calc_cons_some (v := v) (.inl ⟨rfl, h, by simp only [evalA, ev_has H e, pureV]⟩) (k (H.set d v))
theorem calc_pure {o : Option AV} {k : AV → Bool} (H : Has ρ l) (e : pureL l h op = some o) (s : optB o k = true) (hk : ∀ v, k v = true → Has (ρ.set d v) ((d, v) :: l) → calcK ops (ρ.set d v) h Kr = true) : calcK (⟨some d, op, none⟩ :: ops) ρ h Kr = true := by
  obtain ⟨e1, e2⟩ := pureL_has H e
  obtain ⟨v, rfl, s⟩ := optB_true s
  exact calc_cons_some (v := v) (.inl ⟨rfl, h, e1⟩) (hk v s (H.set d v))
theorem c_p {o : Option AV} {k : AV → Bool} (H : Has ρ l) (e : pureL l h op = some o) (s : optB o k = true) (hk : ∀ v, k v = true → Has (ρ.set d v) ((d, v) :: l) → calcK ops (ρ.set d v) h Kr = true) : calcK (⟨some d, op, none⟩ :: ops) ρ h Kr = true := calc_pure H e s hk
theorem calc_pure0 {o : Option AV} {k : AV → Bool} (H : Has ρ l) (e : pureL l h op = some o) (s : optB o k = true) (hk : ∀ v, k v = true → Has ρ l → calcK ops ρ h Kr = true) : calcK (⟨none, op, none⟩ :: ops) ρ h Kr = true := by
  obtain ⟨e1, e2⟩ := pureL_has H e
  obtain ⟨v, rfl, s⟩ := optB_true s
  exact calc_cons_some (v := v) (.inl ⟨rfl, h, e1⟩) (hk v s H)
theorem gcalc_pure {o : Option AV} {k : AV → Bool} (H : Has ρ l) (hg : l.get j = some g) (e : pureL l h op = some o) (s : optB (grdO (wantV g b) o) k = true) (hk : ∀ v, k v = true → Has (ρ.set d v) ((d, v) :: l) → calcK ops (ρ.set d v) h Kr = true) : calcK (⟨some d, op, some (j, b)⟩ :: ops) ρ h Kr = true := by
  obtain ⟨e1, e2⟩ := pureL_has H e
  cases hw : wantV g b with
  | true =>
    simp only [hw, grdO, cond_true] at s
    obtain ⟨v, rfl, s⟩ := optB_true s
    exact calc_cons_some (v := v) (.inl ⟨by simp only [wanted_has H hg, hw], h, e1⟩) (hk v s (H.set d v))
  | false =>
    simp only [hw, grdO, cond_false] at s
    exact calc_cons_some (v := .tup []) (.inr ⟨by simp only [wanted_has H hg, hw], rfl⟩) (hk _ s (H.set d _))
theorem gcalc_pure0 {o : Option AV} {k : AV → Bool} (H : Has ρ l) (hg : l.get j = some g) (e : pureL l h op = some o) (s : optB (grdO (wantV g b) o) k = true) (hk : ∀ v, k v = true → Has ρ l → calcK ops ρ h Kr = true) : calcK (⟨none, op, some (j, b)⟩ :: ops) ρ h Kr = true := by
  obtain ⟨e1, e2⟩ := pureL_has H e
  cases hw : wantV g b with
  | true =>
    simp only [hw, grdO, cond_true] at s
    obtain ⟨v, rfl, s⟩ := optB_true s
    exact calc_cons_some (v := v) (.inl ⟨by simp only [wanted_has H hg, hw], h, e1⟩) (hk v s H)
  | false =>
    simp only [hw, grdO, cond_false] at s
    exact calc_cons_some (v := .tup []) (.inr ⟨by simp only [wanted_has H hg, hw], rfl⟩) (hk _ s H)
def againB (ρ : Regs) (h : AHeap) (chk : List AOper) (r : Bool) : Bool := bif again ρ h chk then r else false
theorem again_nil {r : Bool} (s : r = true) : againB ρ h [] r = true := s
theorem again_one {o : AOper} {r : Bool} (e : againOne ρ h o = true) (s : againB ρ h ops r = true) : againB ρ h (o :: ops) r = true := by
  unfold againB at s ⊢
  simp only [again, e, cond_true]; exact s
theorem again_same {o : Option AV} {u : AV} {r q : Bool} (H : Has ρ l) (e : pureL l h op = some o) (eu : l.get d = some u) (s : sameB o u q = true) (k : q = true → againB ρ h ops r = true) : againB ρ h (⟨some d, op, none⟩ :: ops) r = true := by
  obtain ⟨e1, e2⟩ := pureL_has H e
  cases o with
  | none => cases s
  | some v =>
    simp only [sameB] at s
    cases hs : AV.same v u with
    | false => rw [hs] at s; cases s
    | true =>
      rw [hs] at s
      refine again_one ?_ (k s)
      simp only [againOne, wantedA, e1, pureV, H d u eu, hs]
theorem gagain_same {o : Option AV} {u : AV} {r q : Bool} (H : Has ρ l) (hg : l.get j = some g) (e : pureL l h op = some o) (eu : l.get d = some u) (s : sameG (wantV g b) o u q = true) (k : q = true → againB ρ h ops r = true) : againB ρ h (⟨some d, op, some (j, b)⟩ :: ops) r = true := by
  obtain ⟨e1, e2⟩ := pureL_has H e
  cases hw : wantV g b with
  | false =>
    simp only [hw, sameG, cond_false] at s
    refine again_one ?_ (k s)
    simp only [againOne, wanted_has H hg, hw]
  | true =>
    simp only [hw, sameG, cond_true] at s
    cases o with
    | none => cases s
    | some v =>
      simp only [sameB] at s
      cases hs : AV.same v u with
      | false => rw [hs] at s; cases s
      | true =>
        rw [hs] at s
        refine again_one ?_ (k s)
        simp only [againOne, wanted_has H hg, hw, e1, pureV, H d u eu, hs]
variable {n : Nat} {KS : KEx} {σ : St}
theorem c_reg {ops : List AOper} (s : runR call ops σ (KS .normal) = true) : runC call n (.reg ops) σ KS = true := s
theorem r_nil (s : KS .normal σ = true) : runR call [] σ (KS .normal) = true := s
theorem r_cons {o : AOper} {K : St → Bool} (s : stepA call o σ (fun _ σ' => runR call ops σ' K) = true) : runR call (o :: ops) σ K = true := s
theorem q_mv {K : St → Bool} {x : Opd} {v : AV} (H : Has ρ l) (e : evL l x = some v) (k : Has (ρ.set d v) ((d, v) :: l) → runR call' ops ⟨ρ.set d v, h⟩ K = true) : runR call' (⟨some d, .mv x, none⟩ :: ops) ⟨ρ, h⟩ K = true := r_cons (step_mv H e k)
theorem q_pure {K : St → Bool} {o : Option AV} {k : AV → Bool} (H : Has ρ l) (e : pureL l h op = some o) (s : optB o k = true) (hk : ∀ v, k v = true → Has (ρ.set d v) ((d, v) :: l) → runR call' ops ⟨ρ.set d v, h⟩ K = true) : runR call' (⟨some d, op, none⟩ :: ops) ⟨ρ, h⟩ K = true := r_cons (step_pure H e s hk)
theorem q_heap {K : St → Bool} {o : Option (AV × AHeap)} {k : Kont} (H : Has ρ l) (e : heapL l h op = some o) (s : optP o k = true) (hk : ∀ v h', k v h' = true → Has (ρ.set d v) ((d, v) :: l) → runR call' ops ⟨ρ.set d v, h'⟩ K = true) : runR call' (⟨some d, op, none⟩ :: ops) ⟨ρ, h⟩ K = true := r_cons (step_heap H e s hk)
theorem q_heap0 {K : St → Bool} {o : Option (AV × AHeap)} {k : Kont} (H : Has ρ l) (e : heapL l h op = some o) (s : optP o k = true) (hk : ∀ v h', k v h' = true → Has ρ l → runR call' ops ⟨ρ, h'⟩ K = true) : runR call' (⟨none, op, none⟩ :: ops) ⟨ρ, h⟩ K = true := r_cons (step_heap0 H e s hk)
theorem q_call {K : St → Bool} {f : Nat} {xs : List Opd} {vs : List AV} {k : Kont} (hc : Le call call') (H : Has ρ l) (e : evsL l xs = some vs) (s : call (.func f) vs h k = true) (hk : ∀ v h', k v h' = true → Has (ρ.set d v) ((d, v) :: l) → runR call' ops ⟨ρ.set d v, h'⟩ K = true) :
    runR call' (⟨some d, .call (.c (.fn (.func f) [] [])) xs, none⟩ :: ops) ⟨ρ, h⟩ K = true := r_cons (step_call hc H e s hk)
theorem q_callv {K : St → Bool} {x : Opd} {f : AV} {xs : List Opd} {vs : List AV} {k : Kont} (hc : Le call call') (H : Has ρ l) (ef : evL l x = some f) (e : evsL l xs = some vs) (s : callV call f vs h k = true) (hk : ∀ v h', k v h' = true → Has (ρ.set d v) ((d, v) :: l) → runR call' ops ⟨ρ.set d v, h'⟩ K = true) :
    runR call' (⟨some d, .call x xs, none⟩ :: ops) ⟨ρ, h⟩ K = true := r_cons (step_callv hc H ef e s hk)
theorem qgstep_pure {K : St → Bool} {o : Option AV} {k : AV → Bool} (H : Has ρ l) (hg : l.get j = some g) (e : pureL l h op = some o) (s : optB (grdO (wantV g b) o) k = true) (hk : ∀ v, k v = true → Has (ρ.set d v) ((d, v) :: l) → runR call' ops ⟨ρ.set d v, h⟩ K = true) : runR call' (⟨some d, op, some (j, b)⟩ :: ops) ⟨ρ, h⟩ K = true := r_cons (gstep_pure H hg e s hk)
theorem qgstep_call {K : St → Bool} {f : Nat} {xs : List Opd} {vs : List AV} {k : Kont} (hc : Le call call') (H : Has ρ l) (hg : l.get j = some g) (e : evsL l xs = some vs) (s : grdC (wantV g b) (fun k => call (.func f) vs h k) h k = true) (hk : ∀ v h', k v h' = true → Has (ρ.set d v) ((d, v) :: l) → runR call' ops ⟨ρ.set d v, h'⟩ K = true) :
    runR call' (⟨some d, .call (.c (.fn (.func f) [] [])) xs, some (j, b)⟩ :: ops) ⟨ρ, h⟩ K = true := r_cons (gstep_call hc H hg e s hk)
theorem c_dreg {n0 : List AOper} {rest : List (AOper × List AOper × List AOper)} (s : calcK n0 ρ h (fun ρ' => runD call rest ⟨ρ', h⟩ (KS .normal)) = true) : runC call n (.dreg n0 rest) ⟨ρ, h⟩ KS = true := s
theorem d_nil (s : KS .normal σ = true) : runD call [] σ (KS .normal) = true := s
def dK (call : CallFn) (chk ns : List AOper) (rest : List (AOper × List AOper × List AOper)) (K : St → Bool) : KSt := fun _ σ =>
  match σ with
  | ⟨ρ, h⟩ => againB ρ h chk (calcK ns ρ h fun ρ => runD call rest ⟨ρ, h⟩ K)
theorem d_cons {act : AOper} {chk ns : List AOper} {rest : List (AOper × List AOper × List AOper)} {K : St → Bool} (s : stepA call act σ (dK call chk ns rest K) = true) : runD call ((act, chk, ns) :: rest) σ K = true := by
  have e : dK call chk ns rest K = fun _ σ' => againB σ'.regs σ'.h chk (calcK ns σ'.regs σ'.h fun ρ => runD call rest ⟨ρ, σ'.h⟩ K) := rfl
  rw [e] at s
  simpa only [runD, againB, calcK] using s
theorem dk {chk ns : List AOper} {rest : List (AOper × List AOper × List AOper)} {K : St → Bool} {v : AV} (s : againB ρ h chk (calcK ns ρ h fun ρ => runD call rest ⟨ρ, h⟩ K) = true) : dK call chk ns rest K v ⟨ρ, h⟩ = true := s
def seqK (call : CallFn) (n : Nat) (b : ACode) (K : KEx) : KEx := fun x σ' =>
  match x with
  | .normal => runC call n b σ' K
  | x => K x σ'
def blockK (id : Nat) (K : KEx) : KEx := fun x σ' =>
  match x with
  | .exit i => bif Nat.beq i id then K .normal σ' else K (.exit i) σ'
  | x => K x σ'
def loopK (call : CallFn) (n : Nat) (c : ACode) (K : KEx) (m : Nat) : KEx := fun x σ' =>
  match x with
  | .normal => iter (runC call n c) K m σ'
  | x => K x σ'
def jumpK (call : CallFn) (n : Nat) (l : Nat) (r : ACode) (K : KEx) (m : Nat) : KEx := fun x σ' =>
  match x with
  | .goto l' => bif Nat.beq l' l then iterG l (runC call n r) K m σ' else false
  | x => K x σ'
def finK (res : List (Nat × Option (Bool × Nat))) (K : Kont) : KEx := fun x σ =>
  match x with
  | .normal => (match resultsA σ.regs σ.h res with
    | some l => K (oneOf l) σ.h
    | none => false)
  | .ret => (match resultsA σ.regs σ.h res with
    | some l => K (oneOf l) σ.h
    | none => false)
  | _ => false
theorem c_seq {x y : ACode} (s : runC call n x σ (seqK call n y KS) = true) : runC call n (.seq x y) σ KS = true := by
  have e : seqK call n y KS = (fun x σ' => match x with | .normal => runC call n y σ' KS | x => KS x σ') := by
    funext x σ'; cases x <;> rfl
  rw [e] at s; exact s
theorem c_cond {c : Opd} {x y : ACode} {v : AV} {p q : Bool} (H : Has ρ l) (e : evL l c = some v) (s : condB v p q = true) (kx : p = true → runC call n x ⟨ρ, h⟩ KS = true) (ky : q = true → runC call n y ⟨ρ, h⟩ KS = true) : runC call n (.cond c x y) ⟨ρ, h⟩ KS = true := by
  simp only [runC, ev_has H e]
  unfold condB at s
  cases v <;> first | (cases s; done) | skip
  rename_i t
  cases t
  · exact ky s
  · exact kx s
theorem c_block {id : Nat} {x : ACode} (s : runC call n x σ (blockK id KS) = true) : runC call n (.block id x) σ KS = true := by
  have e : blockK id KS = (fun x σ' => match x with | .exit i => bif Nat.beq i id then KS .normal σ' else KS (.exit i) σ' | x => KS x σ') := by
    funext x σ'; cases x <;> rfl
  rw [e] at s; exact s
theorem c_loop {x : ACode} (s : iter (runC call n x) KS n σ = true) : runC call n (.loop x) σ KS = true := s
theorem c_round {x : ACode} {m : Nat} (s : runC call n x σ (loopK call n x KS m) = true) : iter (runC call n x) KS (m + 1) σ = true := by
  have e : loopK call n x KS m = (fun y σ' => match y with | .normal => iter (runC call n x) KS m σ' | y => KS y σ') := by
    funext y σ'; cases y <;> rfl
  rw [e] at s; exact s
theorem c_scope {x r : ACode} {l : Nat} (s : runC call n x σ (jumpK call n l r KS n) = true) : runC call n (.scope x l r) σ KS = true := by
  have e : jumpK call n l r KS n = (fun x σ' => match x with | .goto l' => bif Nat.beq l' l then iterG l (runC call n r) KS n σ' else false | x => KS x σ') := by
    funext x σ'; cases x <;> rfl
  rw [e] at s; exact s
theorem c_jump {r : ACode} {l m : Nat} (s : runC call n r σ (jumpK call n l r KS m) = true) : iterG l (runC call n r) KS (m + 1) σ = true := by
  have e : jumpK call n l r KS m = (fun x σ' => match x with | .goto l' => bif Nat.beq l' l then iterG l (runC call n r) KS m σ' else false | x => KS x σ') := by
    funext x σ'; cases x <;> rfl
  rw [e] at s; exact s
theorem c_skip (s : KS .normal σ = true) : runC call n .skip σ KS = true := s
theorem c_exit {id : Nat} (s : KS (.exit id) σ = true) : runC call n (.exit id) σ KS = true := s
theorem c_ret (s : KS .ret σ = true) : runC call n .ret σ KS = true := s
theorem c_keep {ks : List Nat} {x : ACode} {m : LEnv} (H : Has ρ l) (e : keepL ks l = some m) (s : Has (mkR m) m → runC call n x ⟨mkR m, h⟩ KS = true) : runC call n (.keep ks x) ⟨ρ, h⟩ KS = true := by
  simp only [runC, keepR_eq H e]; exact s Has.mk
theorem k_seq {y : ACode} (s : runC call n y σ KS = true) : seqK call n y KS .normal σ = true := s
theorem k_seq_ret {y : ACode} (s : KS .ret σ = true) : seqK call n y KS .ret σ = true := s
theorem k_seq_exit {y : ACode} {i : Nat} (s : KS (.exit i) σ = true) : seqK call n y KS (.exit i) σ = true := s
theorem k_block {id : Nat} (s : KS .normal σ = true) : blockK id KS .normal σ = true := s
theorem k_block_ret {id : Nat} (s : KS .ret σ = true) : blockK id KS .ret σ = true := s
theorem k_block_eq {id : Nat} (s : KS .normal σ = true) : blockK id KS (.exit id) σ = true := by
  simp only [blockK, Nat.beq_refl, cond_true]; exact s
theorem k_loop {c : ACode} {m : Nat} (s : iter (runC call n c) KS m σ = true) : loopK call n c KS m .normal σ = true := s
theorem k_loop_ret {c : ACode} {m : Nat} (s : KS .ret σ = true) : loopK call n c KS m .ret σ = true := s
theorem k_loop_exit {c : ACode} {m i : Nat} (s : KS (.exit i) σ = true) : loopK call n c KS m (.exit i) σ = true := s
def resL (l : LEnv) : List (Nat × Option (Bool × Nat)) → Option (List (AV × Option (Bool × Nat)))
  | [] => some []
  | (t, x) :: r => match l.get t with
    | some v => match resL l r with
      | some vs => some ((v, x) :: vs)
      | none => none
    | none => none
def resV (h : AHeap) : List (AV × Option (Bool × Nat)) → Option (List AV)
  | [] => some []
  | (v, none) :: r => match resV h r with
    | some vs => some (v :: vs)
    | none => none
  | (a, some (ag, n)) :: r => match loadA h ag n a with
    | some v => match resV h r with
      | some vs => some (v :: vs)
      | none => none
    | none => none
def optR (o : Option (List AV)) (h : AHeap) (K : Kont) : Bool :=
  match o with
  | some l => K (oneOf l) h
  | none => false
theorem results_has (H : Has ρ l) : ∀ {res : List (Nat × Option (Bool × Nat))} {m : List (AV × Option (Bool × Nat))}, resL l res = some m → resultsA ρ h res = resV h m
  | [], m, e => by simp only [resL] at e; cases e; rfl
  | (t, x) :: r, m, e => by
    simp only [resL] at e
    split at e
    · rename_i v hv
      split at e
      · rename_i vs hvs
        cases e
        simp only [resultsA]
        rw [results_has H hvs]
        cases x with
        | none => simp only [resultA, H t v hv, resV]; rfl
        | some p =>
          obtain ⟨ag, k⟩ := p
          simp only [resultA, H t v hv, resV]
          rfl
      · cases e
    · cases e
theorem fin_ret {res : List (Nat × Option (Bool × Nat))} {m : List (AV × Option (Bool × Nat))} {K K' : Kont} (H : Has ρ l) (e : resL l res = some m) (hK : ∀ v h', K v h' = true → K' v h' = true) (s : optR (resV h m) h K = true) : finK res K' .ret ⟨ρ, h⟩ = true := by
  simp only [finK, results_has H e]
  cases hr : resV h m with
  | none => rw [hr] at s; cases s
  | some vs => rw [hr] at s; exact hK _ _ s
theorem fin_normal {res : List (Nat × Option (Bool × Nat))} {m : List (AV × Option (Bool × Nat))} {K K' : Kont} (H : Has ρ l) (e : resL l res = some m) (hK : ∀ v h', K v h' = true → K' v h' = true) (s : optR (resV h m) h K = true) : finK res K' .normal ⟨ρ, h⟩ = true := by
  simp only [finK, results_has H e]
  cases hr : resV h m with
  | none => rw [hr] at s; cases s
  | some vs => rw [hr] at s; exact hK _ _ s
def rfS (call : CallFn) (f : AV) (regs : Regs) (ps : List Nat) (asg body : ACode) (h : AHeap) (Kx : AExit → AHeap → Bool) : Bool :=
  match f with
  | .fn (.func fid) first cap =>
    call (.func fid) (first ++ [.fn (.yield h.sz) [] []] ++ cap) (h.push (.loop { regs, ps, asg, body, st := .ready })) fun _ h' =>
      match h'.get h.sz with
      | some (.loop l) => match l.st with
        | .ready => Kx .normal (h'.put h.sz (.loop { l with st := .exh }))
        | .done x => Kx x (h'.put h.sz (.loop { l with st := .exh }))
        | _ => false
      | _ => false
  | _ => false
theorem c_rf {f : Opd} {ps : List Nat} {asg body : ACode} {v : AV} {Kx : AExit → AHeap → Bool} (hc : Le call call') (H : Has (mkR l) l) (e : evL l f = some v) (s : rfS call v (mkR l) ps asg body h Kx = true) (hk : ∀ x h', Kx x h' = true → KS x ⟨mkR l, h'⟩ = true) :
    runC call' n (.rf f ps asg body) ⟨mkR l, h⟩ KS = true := by
  simp only [runC, ev_has H e]
  unfold rfS at s
  split at s
  · rename_i fid first cap
    refine hc _ _ _ _ _ s ?_
    intro u h' hu
    split at hu
    · rename_i lo hlo
      simp only [hlo]
      split at hu
      · rename_i hst; simp only [hst]; exact hk _ _ hu
      · rename_i x hst; simp only [hst]; exact hk _ _ hu
      · cases hu
    · cases hu
  · cases s
def yieldS (call : CallFn) (n id : Nat) (args : List AV) (h : AHeap) (K : Kont) : Bool :=
  match h.get id with
  | some (.loop l) => match l.st with
    | .ready => match setPs l.ps args l.regs with
      | some ρ => runC call n l.asg ⟨ρ, h⟩ fun x σ => match x with
        | .normal => (match σ.h.get id with
          | some (.loop l1) => match l1.st with
            | .ready => runC call n l.body ⟨σ.regs, σ.h.put id (.loop { l1 with st := .busy })⟩ fun x σ2 =>
              match σ2.h.get id with
              | some (.loop l2) => match x with
                | .normal => K (.bool true) (σ2.h.put id (.loop { l2 with st := .ready }))
                | x => K (.bool false) (σ2.h.put id (.loop { l2 with st := .done x }))
              | _ => false
            | _ => false
          | _ => false)
        | _ => false
      | none => false
    | _ => false
  | _ => false
end
section
variable {call call' : CallFn}
theorem evalK_le (hc : Le call call') {ρ : Regs} {h : AHeap} {op : AOp} {k k' : Kont} (s : evalK call ρ h op k = true) (hk : ∀ v h', k v h' = true → k' v h' = true) : evalK call' ρ h op k' = true := by
  cases hi : isCall op with
  | false =>
    rw [evalK_plain hi] at s ⊢
    split at s
    · rename_i v h' e; exact hk _ _ s
    · cases s
  | true =>
    cases op <;> first | (cases hi; done) | skip
    · simp only [evalK] at s ⊢
      split at s
      · exact nextA_le s hk
      · cases s
    · simp only [evalK] at s ⊢
      split at s
      · exact hc _ _ _ _ _ s hk
      · cases s
theorem stepA_le (hc : Le call call') {o : AOper} {σ : St} {k k' : KSt} (s : stepA call o σ k = true) (hk : ∀ v σ', k v σ' = true → k' v σ' = true) : stepA call' o σ k' = true := by
  unfold stepA at s ⊢
  split at s
  · exact evalK_le hc s fun v h' hv => hk _ _ hv
  · exact hk _ _ s
  · cases s
theorem runR_le (hc : Le call call') : ∀ {ops : List AOper} {σ : St} {k k' : St → Bool}, runR call ops σ k = true → (∀ σ', k σ' = true → k' σ' = true) → runR call' ops σ k' = true
  | [], σ, k, k', s, hk => hk _ s
  | o :: ops, σ, k, k', s, hk => stepA_le hc s fun v σ' hv => runR_le hc hv hk
theorem runD_le (hc : Le call call') : ∀ {ops : List (AOper × List AOper × List AOper)} {σ : St} {k k' : St → Bool}, runD call ops σ k = true → (∀ σ', k σ' = true → k' σ' = true) → runD call' ops σ k' = true
  | [], σ, k, k', s, hk => hk _ s
  | (act, chk, ns) :: ops, σ, k, k', s, hk => by
    simp only [runD] at s ⊢
    refine stepA_le hc s fun v σ' hv => ?_
    cases ha : again σ'.regs σ'.h chk with
    | false => rw [ha] at hv; cases hv
    | true =>
      rw [ha] at hv
      simp only [cond_true] at hv ⊢
      split at hv
      · exact runD_le hc hv hk
      · cases hv
theorem iter_le {f f' : St → KEx → Bool} {K K' : KEx} (hf : ∀ σ (k k' : KEx), f σ k = true → (∀ x σ', k x σ' = true → k' x σ' = true) → f' σ k' = true) (hK : ∀ x σ', K x σ' = true → K' x σ' = true) : ∀ (n : Nat) (σ : St), iter f K n σ = true → iter f' K' n σ = true
  | 0, σ, s => by cases s
  | n + 1, σ, s => by
    simp only [iter] at s ⊢
    refine hf _ _ _ s fun x σ' hx => ?_
    cases x with
    | normal => exact iter_le hf hK n σ' hx
    | _ => exact hK _ _ hx
theorem iterG_le {l : Nat} {f f' : St → KEx → Bool} {K K' : KEx} (hf : ∀ σ (k k' : KEx), f σ k = true → (∀ x σ', k x σ' = true → k' x σ' = true) → f' σ k' = true) (hK : ∀ x σ', K x σ' = true → K' x σ' = true) : ∀ (n : Nat) (σ : St), iterG l f K n σ = true → iterG l f' K' n σ = true
  | 0, σ, s => by cases s
  | n + 1, σ, s => by
    simp only [iterG] at s ⊢
    refine hf _ _ _ s fun x σ' hx => ?_
    cases x with
    | goto l' =>
      simp only at hx ⊢
      cases hb : Nat.beq l' l with
      | false => rw [hb] at hx; cases hx
      | true => rw [hb] at hx; exact iterG_le hf hK n σ' hx
    | _ => exact hK _ _ hx
theorem runC_le (hc : Le call call') {n : Nat} : ∀ {c : ACode} {σ : St} {K K' : KEx}, runC call n c σ K = true → (∀ x σ', K x σ' = true → K' x σ' = true) → runC call' n c σ K' = true := by
  intro c
  induction c with
  | skip => intro σ K K' s hk; exact hk _ _ s
  | reg ops => intro σ K K' s hk; exact runR_le hc s fun σ' => hk _ _
  | dreg n0 rest =>
    intro σ K K' s hk
    simp only [runC] at s ⊢
    split at s
    · exact runD_le hc s fun σ' => hk _ _
    · cases s
  | seq a b iha ihb =>
    intro σ K K' s hk
    simp only [runC] at s ⊢
    refine iha s fun x σ' hx => ?_
    cases x with
    | normal => exact ihb hx hk
    | _ => exact hk _ _ hx
  | cond o a b iha ihb =>
    intro σ K K' s hk
    simp only [runC] at s ⊢
    split at s
    · exact iha s hk
    · exact ihb s hk
    · cases s
  | block id a ih =>
    intro σ K K' s hk
    simp only [runC] at s ⊢
    refine ih s fun x σ' hx => ?_
    cases x with
    | exit i =>
      simp only at hx ⊢
      cases hb : Nat.beq i id with
      | true => rw [hb] at hx; exact hk _ _ hx
      | false => rw [hb] at hx; exact hk _ _ hx
    | _ => exact hk _ _ hx
  | loop a ih =>
    intro σ K K' s hk
    exact iter_le (f := runC call n a) (f' := runC call' n a) (fun σ k k' s' hk' => ih s' hk') hk n σ s
  | rf f ps asg body iha ihb =>
    intro σ K K' s hk
    simp only [runC] at s ⊢
    split at s
    · refine hc _ _ _ _ _ s fun v h' hv => ?_
      split at hv
      · rename_i lo hlo
        (try simp only [hlo])
        split at hv
        · rename_i hst; (try simp only [hst]); exact hk _ _ hv
        · rename_i x hst; (try simp only [hst]); exact hk _ _ hv
        · cases hv
      · cases hv
    · cases s
  | exit id => intro σ K K' s hk; exact hk _ _ s
  | scope a l r iha ihr =>
    intro σ K K' s hk
    simp only [runC] at s ⊢
    refine iha s fun x σ' hx => ?_
    cases x with
    | goto l' =>
      simp only at hx ⊢
      cases hb : Nat.beq l' l with
      | false => rw [hb] at hx; cases hx
      | true => rw [hb] at hx; exact iterG_le (f := runC call n r) (f' := runC call' n r) (fun σ k k' s' hk' => ihr s' hk') hk n σ' hx
    | _ => exact hk _ _ hx
  | label l => intro σ K K' s hk; exact hk _ _ s
  | goto l => intro σ K K' s hk; exact hk _ _ s
  | ret => intro σ K K' s hk; exact hk _ _ s
  | refuse => intro σ K K' s hk; cases s
  | keep ks a ih => intro σ K K' s hk; exact ih s hk
theorem yieldS_le (hc : Le call call') {n id : Nat} {args : List AV} {h : AHeap} {K K' : Kont} (s : yieldS call n id args h K = true) (hK : ∀ v h', K v h' = true → K' v h' = true) : yieldS call' n id args h K' = true := by
  unfold yieldS at s ⊢
  split at s
  rotate_left
  · cases s
  rename_i l hl
  (try simp only [hl])
  split at s
  rotate_left
  · cases s
  rename_i hst
  (try simp only [hst])
  split at s
  rotate_left
  · cases s
  rename_i ρ hρ
  (try simp only [hρ])
  refine runC_le hc s fun x σ hx => ?_
  cases x <;> first | (cases hx; done) | skip
  simp only at hx ⊢
  split at hx
  rotate_left
  · cases hx
  rename_i l1 hl1
  (try simp only [hl1])
  split at hx
  rotate_left
  · cases hx
  rename_i hst1
  (try simp only [hst1])
  refine runC_le hc hx fun x σ2 hx2 => ?_
  split at hx2
  rotate_left
  · cases hx2
  rename_i l2 hl2
  (try simp only [hl2])
  cases x <;> exact hK _ _ hx2
def PrimLe (E : Env) : Prop := ∀ f p, E.prim f = some p → ∀ (call call' : CallFn) n args h (K K' : Kont), Le call call' → (∀ v h', K v h' = true → K' v h' = true) → p call n args h K = true → p call' n args h K' = true
theorem callN_le {E : Env} (hp : PrimLe E) : ∀ n, Le (callN E n) (callN E n)
  | 0 => fun _ _ _ _ _ s _ => by cases s
  | n + 1 => by
    intro t a h K K' s hK
    have ih := callN_le hp n
    cases t with
    | yield id => exact yieldS_le ih s hK
    | func f =>
      simp only [callN] at s ⊢
      cases hpf : E.prim f with
      | some p =>
        simp only [hpf] at s ⊢
        exact hp f p hpf _ _ n a h K K' ih hK s
      | none =>
      simp only [hpf] at s ⊢
      split at s
      · cases s
      · rename_i fn hf
        (try simp only [hf])
        cases hb : Nat.beq a.length fn.np with
        | false => rw [hb] at s; cases s
        | true =>
          rw [hb] at s
          simp only [cond_true] at s ⊢
          refine runC_le ih s fun x σ hx => ?_
          cases x <;> first | (cases hx; done) | skip
          all_goals
            simp only at hx ⊢
            split at hx
            · rename_i vs hvs
              (try simp only [hvs])
              exact hK _ _ hx
            · cases hx
end
section
variable {call call' : CallFn} {n id : Nat} {h : AHeap} {σ : St} {K K' : Kont}
def endY (id : Nat) (K : Kont) (x : AExit) (h : AHeap) : Bool :=
  match h.get id with
  | some (.loop l2) => match x with
    | .normal => K (.bool true) (h.put id (.loop { l2 with st := .ready }))
    | x => K (.bool false) (h.put id (.loop { l2 with st := .done x }))
  | _ => false
def busyB (id : Nat) (h : AHeap) (k : AHeap → Bool) : Bool :=
  match h.get id with
  | some (.loop l1) => match l1.st with
    | .ready => k (h.put id (.loop { l1 with st := .busy }))
    | _ => false
  | _ => false
def bodyK (id : Nat) (K : Kont) : KEx := fun x σ2 => endY id K x σ2.h
def asgK (call : CallFn) (n id : Nat) (body : ACode) (K : Kont) : KEx := fun x σ =>
  match x with
  | .normal => busyB id σ.h fun h => runC call n body ⟨σ.regs, h⟩ (bodyK id K)
  | _ => false
theorem endY_le (hK : ∀ v h', K v h' = true → K' v h' = true) {x : AExit} (s : endY id K x h = true) : endY id K' x h = true := by
  unfold endY at s ⊢
  split at s
  · cases x <;> exact hK _ _ s
  · cases s
theorem k_body (hK : ∀ v h', K v h' = true → K' v h' = true) {x : AExit} (s : endY id K x σ.h = true) : bodyK id K' x σ = true := endY_le hK s
theorem k_asg {body : ACode} {ρ : Regs} {k : AHeap → Bool} (s : busyB id h k = true) (hk : ∀ h', k h' = true → runC call n body ⟨ρ, h'⟩ (bodyK id K) = true) : asgK call n id body K .normal ⟨ρ, h⟩ = true := by
  show busyB id h (fun h => runC call n body ⟨ρ, h⟩ (bodyK id K)) = true
  unfold busyB at s ⊢
  split at s
  · split at s
    · exact hk _ s
    · cases s
  · cases s
theorem yieldS_of {regs ρ : Regs} {ps : List Nat} {args : List AV} {asg body : ACode} (hg : h.get id = some (.loop { regs, ps, asg, body, st := .ready })) (hp : setPs ps args regs = some ρ) (s : runC call n asg ⟨ρ, h⟩ (asgK call n id body K) = true) : yieldS call n id args h K = true := by
  unfold yieldS
  simp only [hg, hp]
  have e : asgK call n id body K = (fun x σ => match x with
        | .normal => (match σ.h.get id with
          | some (.loop l1) => match l1.st with
            | .ready => runC call n body ⟨σ.regs, σ.h.put id (.loop { l1 with st := .busy })⟩ fun x σ2 =>
              match σ2.h.get id with
              | some (.loop l2) => match x with
                | .normal => K (.bool true) (σ2.h.put id (.loop { l2 with st := .ready }))
                | x => K (.bool false) (σ2.h.put id (.loop { l2 with st := .done x }))
              | _ => false
            | _ => false
          | _ => false)
        | _ => false) := by
    funext x σ
    cases x <;> rfl
  rw [e] at s
  exact s
end
abbrev Sh := CallFn → Nat → List AV → AHeap → Kont → Bool
def ShOK (E : Env) (k : Nat) (s : Sh) : Prop := ∀ (call call' : CallFn) n args h (K K' : Kont), Le call call' → (∀ v h', K v h' = true → K' v h' = true) → s call n args h K = true →
  ∃ fn, E.code k = some fn ∧ args.length = fn.np ∧ runC call' n fn.body ⟨initR 0 args .lf, h⟩ (finK fn.res K') = true
theorem down {E : Env} (hp : PrimLe E) {k : Nat} (hk : E.prim k = none) {s : Sh} (hs : ShOK E k s) {n : Nat} {args : List AV} {h : AHeap} {K : Kont} (e : s (callN E n) n args h K = true) : callN E (n + 1) (.func k) args h K = true := by
  obtain ⟨fn, h1, h2, h3⟩ := hs (callN E n) (callN E n) n args h K K (callN_le hp n) (fun _ _ h => h) e
  simp only [callN, hk, h1, h2, Nat.beq_refl, cond_true]
  have e : finK fn.res K = (fun x σ => match x with
          | .normal => (match resultsA σ.regs σ.h fn.res with
            | some l => K (oneOf l) σ.h
            | none => false)
          | .ret => (match resultsA σ.regs σ.h fn.res with
            | some l => K (oneOf l) σ.h
            | none => false)
          | _ => false) := by
    funext x σ; cases x <;> rfl
  rw [e] at h3
  exact h3
theorem down_yield {E : Env} {n id : Nat} {regs ρ : Regs} {ps : List Nat} {args : List AV} {asg body : ACode} {h : AHeap} {K : Kont} (hg : h.get id = some (.loop { regs, ps, asg, body, st := .ready })) (hp : setPs ps args regs = some ρ)
    (s : runC (callN E n) n asg ⟨ρ, h⟩ (asgK (callN E n) n id body K) = true) : callN E (n + 1) (.yield id) args h K = true := by
  have e : callN E (n + 1) (.yield id) args h K = yieldS (callN E n) n id args h K := rfl
  rw [e]
  exact yieldS_of hg hp s
abbrev gm (d x : Nat) : AOper := ⟨some d, .mv (.t x), none⟩
abbrev KLe (K K' : Kont) : Prop := ∀ v h', K v h' = true → K' v h' = true
abbrev F0 := AHeap → Bool
abbrev F1 := AV → F0
abbrev F2 := AV → F1
abbrev F3 := AV → F2
abbrev F4 := AV → F3
abbrev F5 := AV → F4
abbrev F6 := AV → F5
abbrev F7 := AV → F6
abbrev F8 := AV → F7
end Go.Ab
namespace Go.Ab
set_option linter.unusedSimpArgs false
set_option linter.unusedVariables false
inductive All2 {α β : Type} (R : α → β → Prop) : List α → List β → Prop
  | nil : All2 R [] []
  | cons {a : α} {b : β} {l : List α} {m : List β} (h : R a b) (t : All2 R l m) : All2 R (a :: l) (b :: m)
theorem All2.length {α β : Type} {R : α → β → Prop} {l : List α} {m : List β} (h : All2 R l m) : l.length = m.length := by
  induction h with
  | nil => rfl
  | cons _ _ ih => simp [ih]
theorem All2.mono {α β : Type} {R S : α → β → Prop} (k : ∀ a b, R a b → S a b) {l : List α} {m : List β} (h : All2 R l m) : All2 S l m := by
  induction h with
  | nil => exact .nil
  | cons h _ ih => exact .cons (k _ _ h) ih
theorem All2.get {α β : Type} {R : α → β → Prop} {l : List α} {m : List β} (h : All2 R l m) : ∀ {i : Nat} {b : β}, m[i]? = some b → ∃ a, l[i]? = some a ∧ R a b := by
  induction h with
  | nil => intro i b e; simp at e
  | cons h _ ih =>
    intro i b e
    cases i with
    | zero => simp at e; subst e; exact ⟨_, by simp, h⟩
    | succ i => simp at e; simpa using ih e
theorem All2.append {α β : Type} {R : α → β → Prop} {l : List α} {m : List β} (h : All2 R l m) {l' : List α} {m' : List β} (h' : All2 R l' m') : All2 R (l ++ l') (m ++ m') := by
  induction h with
  | nil => exact h'
  | cons h _ ih => exact .cons h ih
mutual
def bulk {H : Type} : DataW H → Nat
  | .lit (.string bytes) => bytes.length + 1
  | .lit _ => 1
  | .nil => 1
  | .ptr d => bulk d + 1
  | .slice elems spare => bulkAll elems + bulkAll spare + 1
  | .agg parts => bulkAll parts + 1
  | .iface _ d => bulk d + 1
  | .map entries => bulkEntries entries + 1
  | .held _ => 1
def bulkAll {H : Type} : List (DataW H) → Nat
  | [] => 0
  | d :: r => bulk d + bulkAll r
def bulkEntries {H : Type} : List (Lit × DataW H) → Nat
  | [] => 0
  | x :: r => bulkEntry x + bulkEntries r
def bulkEntry {H : Type} : Lit × DataW H → Nat
  | (.string bytes, d) => bytes.length + bulk d + 1
  | (_, d) => bulk d + 1
end
def szL {α : Type} (sz : α → Nat) : List α → Nat
  | [] => 0
  | x :: l => sz x + szL sz l
theorem szL_length {α : Type} {sz : α → Nat} (h : ∀ x, 1 ≤ sz x) : ∀ (l : List α), l.length ≤ szL sz l
  | [] => Nat.le_refl _
  | x :: l => by have := szL_length h l; have := h x; simp [szL]; omega
theorem szL_take {α : Type} {sz : α → Nat} : ∀ (l : List α) (n : Nat), szL sz (l.take n) ≤ szL sz l
  | [], n => by simp
  | x :: l, 0 => by simp [szL]
  | x :: l, n + 1 => by have := szL_take (sz := sz) l n; simp [szL]; omega
theorem szL_mem {α : Type} {sz : α → Nat} : ∀ {l : List α} {x : α}, x ∈ l → sz x ≤ szL sz l
  | y :: l, x, h => by
    rcases List.mem_cons.1 h with rfl | h
    · simp [szL]
    · have := szL_mem (sz := sz) h; simp [szL]; omega
def Ext (h h' : AHeap) : Prop := h.sz ≤ h'.sz ∧ ∀ id o, h.get id = some o → h'.get id = some o
theorem Ext.refl (h : AHeap) : Ext h h := ⟨Nat.le_refl _, fun _ _ e => e⟩
theorem Ext.trans {a b c : AHeap} (h : Ext a b) (k : Ext b c) : Ext a c := ⟨Nat.le_trans h.1 k.1, fun id o e => k.2 id o (h.2 id o e)⟩
theorem Ext.row {h h' : AHeap} (e : Ext h h') {id : Nat} {r : Row} (hr : h.row id = some r) : h'.row id = some r := AHeap.row_some.2 (e.2 id _ (AHeap.row_some.1 hr))
section
variable {H : Type} {enc : TypeId × Value → H} {P : Program} {W : World} {held : Bool}
abbrev Rd (α : Type) := AHeap → List AV → α → Prop
def Mono {α : Type} (R : Rd α) : Prop := ∀ h h' a x, Ext h h' → R h a x → R h' a x
abbrev InAt (enc : TypeId × Value → H) (P : Program) (W : World) (held : Bool) {α : Type} (t : TypeId) (n : Nat) (sz : α → Nat) (R : Rd α) (fuel : Nat) : Prop :=
  ∀ (cs : List Value) (d : DataW H) (ps : List MemPlace), DataW.trod enc P W 0 (fun _ => true) held fuel t cs = some (d, ps) → ∀ φ h, RelH P (.of W.heap.size) φ h W →
    (∀ (W' : World) (sp' : Nat → Bool), (∀ k : Nat, k < W.heap.size → W'.heap[k]? = W.heap[k]?) → (∀ p ∈ ps, sp' p.block = true) → DataW.trod enc P W' 0 sp' held fuel t cs = some (d, ps)) ∧
    ∃ φ' h' avs x, φ.le φ' ∧ Ext h h' ∧ RelH P (.of W.heap.size) φ' h' W ∧ RelVs φ' avs cs ∧ avs.length = n ∧ allLeaf avs = true ∧ R h' avs x ∧ sz x ≤ bulk d
def In (enc : TypeId × Value → H) (P : Program) (W : World) (held : Bool) {α : Type} (t : TypeId) (n : Nat) (sz : α → Nat) (R : Rd α) : Prop :=
  ∀ (fuel : Nat), InAt enc P W held t n sz R fuel
theorem InAt.zero {α : Type} {t : TypeId} {n : Nat} {sz : α → Nat} {R : Rd α} : InAt enc P W held t n sz R 0 := by
  intro cs d ps ht
  simp [DataW.trod] at ht
theorem InAt.conv {α β : Type} {t : TypeId} {n : Nat} {sz : α → Nat} {R : Rd α} {fuel : Nat} (I : InAt enc P W held t n sz R fuel) {sz' : β → Nat} {S : Rd β} (k : ∀ h a x, R h a x → ∃ y, S h a y ∧ sz' y ≤ sz x) : InAt enc P W held t n sz' S fuel := by
  intro cs d ps ht φ h HH
  obtain ⟨h1, φ', h', avs, x, a1, a2, a3, a4, a5, a6, a7, a8⟩ := I cs d ps ht φ h HH
  obtain ⟨y, b1, b2⟩ := k h' avs x a7
  exact ⟨h1, φ', h', avs, y, a1, a2, a3, a4, a5, a6, b1, Nat.le_trans b2 a8⟩
theorem In.conv {α β : Type} {t : TypeId} {n : Nat} {sz : α → Nat} {R : Rd α} (I : In enc P W held t n sz R) {sz' : β → Nat} {S : Rd β} (k : ∀ h a x, R h a x → ∃ y, S h a y ∧ sz' y ≤ sz x) : In enc P W held t n sz' S := by
  intro fuel cs d ps ht φ h HH
  obtain ⟨h1, φ', h', avs, x, a1, a2, a3, a4, a5, a6, a7, a8⟩ := I fuel cs d ps ht φ h HH
  obtain ⟨y, b1, b2⟩ := k h' avs x a7
  exact ⟨h1, φ', h', avs, y, a1, a2, a3, a4, a5, a6, b1, Nat.le_trans b2 a8⟩
def RBool : Rd Bool := fun _ a b => a = [.bool b]
def RInt (k : IntKind) : Rd Int := fun _ a n => a = [.int k n] ∧ k.min ≤ n ∧ n ≤ k.max
def RStr : Rd (List Nat) := fun _ a s => a = [.str s] ∧ ∀ b ∈ s, b < 256
theorem In.bool {t : TypeId} (hu : P.underlying t = some .bool) : In enc P W held t 1 (fun _ : Bool => 1) RBool := by
  intro fuel cs d ps ht φ h HH
  cases fuel with
  | zero => simp [DataW.trod] at ht
  | succ fuel =>
    unfold DataW.trod at ht
    rw [hu] at ht
    split at ht <;> simp only [reduceCtorEq, Option.some.injEq] at * <;> try (cases ht; done)
    rename_i b h1
    simp only [Prod.mk.injEq] at ht
    obtain ⟨rfl, rfl⟩ := ht
    refine ⟨fun W' sp' _ _ => ?_, φ, h, [.bool b], b, φ.le_refl, Ext.refl h, HH, .cons (.bool _) .nil, rfl, rfl, rfl, by simp [bulk]⟩
    unfold DataW.trod; rw [hu]
theorem In.int {t : TypeId} {k : IntKind} (hu : P.underlying t = some (.int k)) : In enc P W held t 1 (fun _ : Int => 1) (RInt k) := by
  intro fuel cs d ps ht φ h HH
  cases fuel with
  | zero => simp [DataW.trod] at ht
  | succ fuel =>
    have ht0 := ht
    unfold DataW.trod at ht
    rw [hu] at ht
    split at ht <;> simp only [reduceCtorEq, Option.some.injEq, TypeDesc.int.injEq] at * <;> try (cases ht; done)
    rename_i k' k'' n h1
    subst h1
    split at ht
    · rename_i hc
      obtain ⟨rfl, hw⟩ := hc
      simp only [Option.some.injEq, Prod.mk.injEq] at ht
      obtain ⟨rfl, rfl⟩ := ht
      simp only [Lit.wf, Bool.and_eq_true, decide_eq_true_eq] at hw
      refine ⟨fun W' sp' _ _ => ?_, φ, h, [.int _ n], n, φ.le_refl, Ext.refl h, HH, .cons (.int _ _) .nil, rfl, rfl, ⟨rfl, hw⟩, by simp [bulk]⟩
      unfold DataW.trod; rw [hu]; simp [Lit.wf, hw]
    · cases ht
theorem In.str {t : TypeId} (hu : P.underlying t = some .string) : In enc P W held t 1 (fun s : List Nat => s.length + 1) RStr := by
  intro fuel cs d ps ht φ h HH
  cases fuel with
  | zero => simp [DataW.trod] at ht
  | succ fuel =>
    unfold DataW.trod at ht
    rw [hu] at ht
    split at ht <;> simp only [reduceCtorEq, Option.some.injEq] at * <;> try (cases ht; done)
    rename_i s h1
    split at ht
    · rename_i hs
      simp only [Option.some.injEq, Prod.mk.injEq] at ht
      obtain ⟨rfl, rfl⟩ := ht
      refine ⟨fun W' sp' _ _ => ?_, φ, h, [.str (s.data.toList.map UInt8.toNat)], _, φ.le_refl, Ext.refl h, HH, .cons (.str rfl) .nil, rfl, rfl, ⟨rfl, ?_⟩, by simp [bulk]⟩
      · unfold DataW.trod; rw [hu]; simp [hs]
      · intro b hb
        obtain ⟨u, _, rfl⟩ := List.mem_map.1 hb
        exact u.toNat_lt
    · cases ht
def RSl {α : Type} (n : Nat) (R : Rd α) : Rd (List α) := fun h a l =>
  (l = [] ∧ (a = [.nilSlc] ∨ a = [.emp])) ∨ ∃ id cap r, a = [.slc id 0 0 l.length cap true] ∧ h.row id = some r ∧ r.rw = false ∧ r.m = 0 ∧ r.g = 0 ∧ r.sz = n ∧ l.length ≤ cap ∧ cap = r.es.length ∧ All2 (R h) (r.es.take l.length) l
theorem RSl.mono {α : Type} {n : Nat} {R : Rd α} (hR : Mono R) : Mono (RSl n R) := by
  intro h h' a l e hh
  rcases hh with hh | ⟨id, cap, r, h1, h2, h3, h4, h5, h6, h7, h8, h9⟩
  · exact .inl hh
  · exact .inr ⟨id, cap, r, h1, e.row h2, h3, h4, h5, h6, h7, h8, h9.mono fun a b => hR h h' a b e⟩
theorem addr_add_spot {a : Addr} {i : Nat} {W : World} {v : Value} (h : W.cell? (a.add i) = some v) : a.add i = ⟨a.block, a.off + i, none⟩ := by
  have hspot : (a.add i).spot = none := by
    cases hsp : (a.add i).spot with
    | none => rfl
    | some s =>
      simp only [World.cell?] at h
      split at h
      · simp [hsp] at h
      · cases h
  unfold Addr.add at hspot ⊢
  split
  · rename_i h0
    subst h0
    rw [if_pos rfl] at hspot
    cases a
    simp_all
  · rfl
theorem cells_at {a : Addr} {i n : Nat} {cells : List Value} (hn : 0 < n) (h : W.cells? 0 (a.add (i * n)) n = some cells) : cells.length = n ∧ ∀ (j : Nat) v, cells[j]? = some v → W.cell? ⟨a.block, a.off + i * n + j, none⟩ = some v := by
  obtain ⟨_, hl, hc⟩ := World.cells?_some h
  refine ⟨hl, fun j v hj => ?_⟩
  have hjl := (List.getElem?_eq_some_iff.1 hj).1
  have h1 := hc j (by omega)
  rw [hj] at h1
  have h0 := hc 0 hn
  have hcell0 : ∃ v0, cells[0]? = some v0 := ⟨cells[0], by simp⟩
  obtain ⟨v0, hv0⟩ := hcell0
  rw [hv0] at h0
  have e1 : a.add (i * n) = ⟨a.block, a.off + i * n, none⟩ := by
    have : (a.add (i * n)).add 0 = a.add (i * n) := by unfold Addr.add; simp
    rw [this] at h0
    exact addr_add_spot h0
  rw [e1] at h1
  have e2 := addr_add_spot h1
  rw [e2] at h1
  exact h1
theorem elems_flat {φ : Phi} {a : Addr} {n : Nat} (hn : 0 < n) : ∀ {s : Nat} {k : Nat} {es : List (List AV)}, All2 (fun i e => ∃ cells, W.cells? 0 (a.add (i * n)) n = some cells ∧ RelVs φ e cells ∧ e.length = n ∧ allLeaf e = true) (List.range' s k) es →
    ∃ vals, RelVs φ es.flatten vals ∧ ∀ (j : Nat) v, vals[j]? = some v → W.cell? ⟨a.block, a.off + s * n + j, none⟩ = some v
  | s, 0, es, h => by
    cases h
    exact ⟨[], by simp; exact .nil, by simp⟩
  | s, k + 1, es, h => by
    rw [List.range'_succ] at h
    cases h with
    | cons h t =>
      rename_i e es
      obtain ⟨cells, c1, c2, c3, c4⟩ := h
      obtain ⟨vals, v1, v2⟩ := elems_flat hn t
      obtain ⟨q1, q2⟩ := cells_at hn c1
      refine ⟨cells ++ vals, by simpa using c2.append v1, fun j v hj => ?_⟩
      by_cases hjn : j < n
      · rw [List.getElem?_append_left (by omega)] at hj
        exact q2 j v hj
      · rw [List.getElem?_append_right (by omega), q1] at hj
        have := v2 (j - n) v hj
        have e : a.off + s * n + j = a.off + (s + 1) * n + (j - n) := by rw [Nat.add_mul]; omega
        rw [e]; exact this
theorem mapM_cons_some {α β : Type} {f : α → Option β} {x : α} {l : List α} {r : List β} (h : (x :: l).mapM f = some r) : ∃ y m, f x = some y ∧ l.mapM f = some m ∧ r = y :: m := by
  rw [List.mapM_cons] at h
  cases hx : f x with
  | none => simp [hx] at h
  | some y =>
    cases hl : l.mapM f with
    | none => simp [hx, hl] at h
    | some m => simp [hx, hl] at h; exact ⟨y, m, rfl, rfl, h.symm⟩
theorem lay_elems {α : Type} {e : TypeId} {n : Nat} {sz : α → Nat} {R : Rd α} (hR : Mono R) (fuel : Nat) (I : InAt enc P W held e n sz R fuel) (a : Addr) (hn : P.cellsOf e = n) : ∀ (l : List Nat) (xs : List (DataW H × List MemPlace)),
    l.mapM (fun i => (W.cells? 0 (a.add (i * P.cellsOf e)) (P.cellsOf e)).bind (DataW.trod enc P W 0 (fun _ => true) held fuel e)) = some xs → ∀ φ h, RelH P (.of W.heap.size) φ h W →
      (∀ (W' : World) (sp' : Nat → Bool), (∀ k : Nat, k < W.heap.size → W'.heap[k]? = W.heap[k]?) → (∀ p ∈ xs.flatMap (·.2), sp' p.block = true) → 0 < n → l.mapM (fun i => (W'.cells? 0 (a.add (i * P.cellsOf e)) (P.cellsOf e)).bind (DataW.trod enc P W' 0 sp' held fuel e)) = some xs) ∧
      ∃ φ' h' es ys, φ.le φ' ∧ Ext h h' ∧ RelH P (.of W.heap.size) φ' h' W ∧ All2 (fun i e => ∃ cells, W.cells? 0 (a.add (i * n)) n = some cells ∧ RelVs φ' e cells ∧ e.length = n ∧ allLeaf e = true) l es ∧ All2 (R h') es ys ∧ szL sz ys ≤ bulkAll (xs.map (·.1))
  | [], xs, hm, φ, h, HH => by
    simp at hm; subst hm
    exact ⟨fun _ _ _ _ _ => by simp, φ, h, [], [], φ.le_refl, Ext.refl h, HH, .nil, .nil, by simp [szL]⟩
  | i :: l, xs, hm, φ, h, HH => by
    obtain ⟨y, m, hy, hm', rfl⟩ := mapM_cons_some hm
    rw [hn] at hy
    cases hc : W.cells? 0 (a.add (i * n)) n with
    | none => rw [hc] at hy; cases hy
    | some cells =>
      rw [hc] at hy
      simp only [Option.bind_some] at hy
      obtain ⟨y1, y2⟩ := y
      obtain ⟨b1, φ1, h1, avs, x, a1, a2, a3, a4, a5, a6, a7, a8⟩ := I cells y1 y2 hy φ h HH
      obtain ⟨b2, φ2, h2, es, ys, c1, c2, c3, c4, c5, c6⟩ := lay_elems hR fuel I a hn l m hm' φ1 h1 a3
      refine ⟨fun W' sp' hW hp hpos => ?_, φ2, h2, avs :: es, x :: ys, Phi.le_trans a1 c1, a2.trans c2, c3, .cons ⟨cells, hc, a4.mono c1, a5, a6⟩ c4, .cons (hR _ _ _ _ c2 a7) c5, by simp [szL, bulkAll]; omega⟩
      rw [List.mapM_cons]
      have hk := b2 W' sp' hW (fun p hpp => hp p (by simp [List.flatMap_cons]; exact .inr (by simpa using hpp))) hpos
      have hcells : W'.cells? 0 (a.add (i * n)) n = some cells := by
        refine World.cells?_carry hc fun p hpp => ?_
        obtain ⟨k, hk, rfl⟩ := MemPlace.mem_row.1 hpp
        have hblk := World.cells?_block hc (by omega)
        show W'.cell? _ = W.cell? _
        simp only [World.cell?]
        rw [hW _ hblk]
      rw [hn] at hk ⊢
      rw [hcells]
      simp only [Option.bind_some]
      rw [b1 W' sp' hW (fun p hpp => hp p (by simp [List.flatMap_cons]; exact .inl hpp))]
      simp [hk]
theorem RelH.pushRO {φ : Phi} {h : AHeap} (HH : RelH P (.of W.heap.size) φ h W) {r : Row} (hrw : r.rw = false) {L : Loc} (hL : L.blk < W.heap.size) (hnd : ∀ ds : Option (List Deferred), W.heap[L.blk]? ≠ some (Obj.deferred ds)) (ho : RelRow (φ.add h.sz 0 L) h.sz r W) :
    RelH P (.of W.heap.size) (φ.add h.sz 0 L) (h.push (.row r)) W := by
  have hle : φ.le (φ.add h.sz 0 L) := Phi.le_add L (HH.fresh 0)
  have hget : ∀ id o', (h.push (.row r)).get id = some o' → (id = h.sz ∧ o' = .row r) ∨ (id < h.sz ∧ h.get id = some o') := by
    intro id o' e
    rw [AHeap.get_push] at e
    by_cases hi : id = h.sz
    · rw [if_pos hi] at e; cases e; exact .inl ⟨hi, rfl⟩
    · rw [if_neg hi] at e
      refine .inr ⟨?_, e⟩
      rcases Nat.lt_or_ge id h.sz with h1 | h1
      · exact h1
      · rw [HH.gone id h1] at e; cases e
  have hphi : ∀ id g K, φ.add h.sz 0 L id g = some K → (id = h.sz ∧ g = 0 ∧ K = L) ∨ φ id g = some K := by
    intro id g K e
    by_cases hk : id = h.sz ∧ g = 0
    · obtain ⟨rfl, rfl⟩ := hk; rw [Phi.add_same] at e; cases e; exact .inl ⟨rfl, rfl, rfl⟩
    · rw [Phi.add_other _ _ hk] at e; exact .inr e
  refine ⟨HH.base, ?_, ?_, ?_, ?_, ?_, ?_, ?_, ?_, fun id o e => (by cases e)⟩
  · intro id g K e
    rcases hphi id g K e with ⟨rfl, _, _⟩ | e
    · simp
    · have := HH.dom id g K e; simp; omega
  · intro id hid
    simp at hid
    rw [AHeap.get_push]
    by_cases hi : id = h.sz
    · exact ⟨_, by rw [if_pos hi]⟩
    · rw [if_neg hi]; exact HH.there id (by omega)
  · intro id hid
    simp at hid
    rw [AHeap.get_push, if_neg (by omega)]
    exact HH.gone id (by omega)
  · intro id o e _
    rcases hget id o e with ⟨rfl, rfl⟩ | ⟨hid, e⟩
    · exact ho
    · exact (HH.objn id o e rfl).other hle (fun g => Phi.add_other _ _ (by omega)) (fun _ _ _ => rfl)
  · intro id g K e
    rcases hphi id g K e with ⟨_, _, rfl⟩ | e
    · exact hL
    · exact HH.lt id g K e
  · intro id o g K e hK
    rcases hget id o e with ⟨rfl, rfl⟩ | ⟨hid, e⟩
    · rcases hphi _ g K hK with ⟨_, _, rfl⟩ | hK
      · exact ⟨fun h1 => by simp [AObj.own, hrw] at h1, fun _ => hL⟩
      · rw [HH.fresh] at hK; cases hK
    · rcases hphi _ g K hK with ⟨rfl, _, _⟩ | hK
      · omega
      · exact HH.own id o g K e hK
  · intro id o id' g g' K K' e hown hK hK' hb
    rcases hget id o e with ⟨rfl, rfl⟩ | ⟨hid, e⟩
    · simp [AObj.own, hrw] at hown
    · rcases hphi _ g K hK with ⟨rfl, _, _⟩ | hK2
      · omega
      · rcases hphi _ g' K' hK' with ⟨_, _, e3⟩ | hK3
        · have : W.heap.size ≤ K.blk := (HH.own id o g K e hK2).1 hown
          rw [e3] at hb
          omega
        · exact HH.disj id o id' g g' K K' e hown hK2 hK3 hb
  · intro id g K hK ds
    rcases hphi id g K hK with ⟨_, _, rfl⟩ | hK
    · exact hnd ds
    · exact HH.nodef id g K hK ds
theorem InAt.slice {α : Type} {t e : TypeId} {n : Nat} {sz : α → Nat} {R : Rd α} {fuel : Nat} (hu : P.underlying t = some (.slice e)) (hn : P.cellsOf e = n) (hpos : 0 < n) (hR : Mono R) (I : InAt enc P W held e n sz R fuel) :
    InAt enc P W held t 1 (fun l => szL sz l + 1) (RSl n R) (fuel + 1) := by
  intro cs d ps ht φ h HH
  · skip
    unfold DataW.trod at ht
    rw [hu] at ht
    split at ht <;> simp only [reduceCtorEq, Option.some.injEq, TypeDesc.slice.injEq] at * <;> try (cases ht; done)
    · rename_i e' h1
      simp only [Prod.mk.injEq] at ht
      obtain ⟨rfl, rfl⟩ := ht
      refine ⟨fun W' sp' _ _ => ?_, φ, h, [.nilSlc], [], φ.le_refl, Ext.refl h, HH, .cons .nilSlc .nil, rfl, rfl, .inl ⟨rfl, .inl rfl⟩, by simp [bulk, szL]⟩
      unfold DataW.trod; rw [hu]; rfl
    · rename_i e' a len cap h1
      subst h1
      split at ht
      rotate_left
      · cases ht
      rename_i hc
      obtain ⟨c1, c2, c3⟩ := hc
      simp only [if_true] at ht
      cases hel : (List.range len).mapM (fun i => (W.cells? 0 (a.add (i * P.cellsOf e)) (P.cellsOf e)).bind (DataW.trod enc P W 0 (fun _ => true) held fuel e)) with
      | none => rw [hel] at ht; cases ht
      | some elems =>
        rw [hel] at ht
        simp only [Option.bind_some] at ht
        cases hsp : (List.range (cap - len)).mapM (fun j => (W.cells? 0 (a.add ((len + j) * P.cellsOf e)) (P.cellsOf e)).bind (DataW.trod enc P W 0 (fun _ => true) held fuel e)) with
        | none => rw [hsp] at ht; cases ht
        | some rest =>
          rw [hsp] at ht
          simp only [Option.map_some, Option.some.injEq, Prod.mk.injEq] at ht
          obtain ⟨rfl, rfl⟩ := ht
          have hsp' : (List.range' len (cap - len)).mapM (fun i => (W.cells? 0 (a.add (i * P.cellsOf e)) (P.cellsOf e)).bind (DataW.trod enc P W 0 (fun _ => true) held fuel e)) = some rest := by
            rw [← hsp, List.range'_eq_map_range, List.mapM_map]
            rfl
          rw [List.range_eq_range'] at hel
          obtain ⟨b1, φ1, h1, es, ys, p1, p2, p3, p4, p5, p6⟩ := lay_elems hR fuel I a hn _ _ hel φ h HH
          obtain ⟨b2, φ2, h2, es2, ys2, q1, q2, q3, q4, q5, q6⟩ := lay_elems hR fuel I a hn _ _ hsp' φ1 h1 p3
          have hlen : es.length = len := by have := p4.length; simpa using this.symm
          have hlen2 : es2.length = cap - len := by have := q4.length; simpa using this.symm
          have hylen : ys.length = len := by rw [← p5.length, hlen]
          have hread : ∀ (W' : World) (sp' : Nat → Bool), (∀ k : Nat, k < W.heap.size → W'.heap[k]? = W.heap[k]?) → (∀ p ∈ MemPlace.row a ((elems.length + rest.length) * P.cellsOf e) ++ (elems ++ rest).flatMap (·.2), sp' p.block = true) → DataW.trod enc P W' 0 sp' held (fuel + 1) t [.slice (some a) len cap] = some (.slice (elems.map (·.1)) (rest.map (·.1)), MemPlace.row a ((elems.length + rest.length) * P.cellsOf e) ++ (elems ++ rest).flatMap (·.2)) := by
            intro W' sp' hW hp
            have k1 := b1 W' sp' hW (fun p hpp => hp p (by simp only [List.mem_append, List.flatMap_append]; exact .inr (.inl hpp))) hpos
            have k2 := b2 W' sp' hW (fun p hpp => hp p (by simp only [List.mem_append, List.flatMap_append]; exact .inr (.inr hpp))) hpos
            have hl1 : elems.length = len := by
              have := mapM_some_length hel
              simpa using this
            have hl2 : rest.length = cap - len := by
              have := mapM_some_length hsp'
              simpa using this
            unfold DataW.trod
            rw [hu]
            simp only
            rw [if_pos ⟨c1, c2, c3⟩]
            rw [← List.range_eq_range'] at k1
            rw [k1]
            simp only [Option.bind_some]
            by_cases hcap : cap = len
            · have hr0 : rest = [] := List.length_eq_zero_iff.1 (by omega)
              subst hr0
              have e0 : cap - len = 0 := by omega
              rw [e0]
              simp
            · have : sp' a.block = true := hp (.cell a.block a.off) (by
                rw [List.mem_append]
                refine .inl (MemPlace.mem_row.2 ⟨0, ?_, rfl⟩)
                rw [hn, hl1, hl2]
                exact Nat.mul_pos (by omega) hpos)
              rw [if_pos this]
              rw [List.range'_eq_map_range, List.mapM_map] at k2
              have k2' : (List.range (cap - len)).mapM (fun j => (W'.cells? 0 (a.add ((len + j) * P.cellsOf e)) (P.cellsOf e)).bind (DataW.trod enc P W' 0 sp' held fuel e)) = some rest := by
                rw [← k2]; rfl
              rw [k2']
              simp
          by_cases hcap0 : cap = 0
          · subst hcap0
            have hl0 : len = 0 := by omega
            subst hl0
            have : ys = [] := List.length_eq_zero_iff.1 hylen
            refine ⟨hread, φ, h, [.emp], [], φ.le_refl, Ext.refl h, HH, .cons .emp .nil, rfl, rfl, .inl ⟨rfl, .inr rfl⟩, by simp [bulk, szL]⟩
          · have hall : All2 (fun i e => ∃ cells, W.cells? 0 (a.add (i * n)) n = some cells ∧ RelVs φ2 e cells ∧ e.length = n ∧ allLeaf e = true) (List.range' 0 cap) (es ++ es2) := by
              have hr : List.range' 0 cap = List.range' 0 len ++ List.range' len (cap - len) := by
                have := @List.range'_append 0 len (cap - len) 1
                simp only [Nat.one_mul, Nat.zero_add] at this
                rw [this]
                congr 1; omega
              rw [hr]
              refine (p4.mono ?_).append q4
              rintro i e ⟨cells, k1, k2, k3, k4⟩
              exact ⟨cells, k1, k2.mono q1, k3, k4⟩
            obtain ⟨vals, v1, v2⟩ := elems_flat hpos hall
            have hblk : a.block < W.heap.size := by
              obtain ⟨k, hk⟩ : ∃ k, cap = k + 1 := ⟨cap - 1, by omega⟩
              rw [hk, List.range'_succ] at hall
              generalize es ++ es2 = ee at hall
              cases hall with
              | cons hh _ =>
                obtain ⟨cells, k1, _⟩ := hh
                have := World.cells?_block k1 hpos
                unfold Addr.add at this
                split at this <;> exact this
            have hcellsB : ∃ c t f, W.heap[a.block]? = some (.cells c t f) := by
              obtain ⟨k, hk⟩ : ∃ k, cap = k + 1 := ⟨cap - 1, by omega⟩
              rw [hk, List.range'_succ] at hall
              generalize es ++ es2 = ee at hall
              cases hall with
              | cons hh _ =>
                obtain ⟨cells, k1, _⟩ := hh
                obtain ⟨w1, w2⟩ := cells_at hpos k1
                have hv : ∃ v, cells[0]? = some v := ⟨cells[0]'(by omega), by simp⟩
                obtain ⟨v, hv⟩ := hv
                have := w2 0 v hv
                simp only [World.cell?] at this
                split at this
                · rename_i c t f hh; exact ⟨c, t, f, hh⟩
                · cases this
            let L : Loc := ⟨a.block, a.off, n, cap, cap⟩
            let r : Row := { es := es ++ es2, sz := n, g := 0, m := 0, rw := false }
            have hlt : (es ++ es2).length = cap := by simp; omega
            have hfresh := q3.fresh 0
            have hle := Phi.le_add (φ := φ2) (id := h2.sz) (g := 0) L hfresh
            have hkey : ∀ g K, φ2.add h2.sz 0 L h2.sz g = some K → g = 0 ∧ K = L := by
              intro g K e
              by_cases hg : g = 0
              · subst hg; rw [Phi.add_same] at e; cases e; exact ⟨rfl, rfl⟩
              · rw [Phi.add_other _ _ (show ¬ (h2.sz = h2.sz ∧ g = 0) by omega)] at e; rw [q3.fresh] at e; cases e
            have hmem : ∀ x ∈ es ++ es2, x.length = n ∧ allLeaf x = true := by
              intro x hx
              obtain ⟨i, hi⟩ := List.getElem?_of_mem hx
              have key : ∀ {l : List Nat} {m : List (List AV)}, All2 (fun i e => ∃ cells, W.cells? 0 (a.add (i * n)) n = some cells ∧ RelVs φ2 e cells ∧ e.length = n ∧ allLeaf e = true) l m → ∀ {i : Nat} {x}, m[i]? = some x → x.length = n ∧ allLeaf x = true := by
                intro l m hh
                induction hh with
                | nil => intro i x e; simp at e
                | cons hh _ ih =>
                  intro i x e
                  obtain ⟨_, _, _, k3, k4⟩ := hh
                  cases i with
                  | zero => simp at e; subst e; exact ⟨k3, k4⟩
                  | succ i => simp at e; exact ih e
              exact key hall hi
            have hrow : RelRow (φ2.add h2.sz 0 L) h2.sz r W := by
              refine ⟨Nat.le_refl _, hpos, fun x hx => (hmem x hx).1, fun x hx => (hmem x hx).2, ⟨L, Phi.add_same _ _ _ _, hlt.symm⟩, fun g K e => ?_, fun g K _ e => ?_, (fun hh => by cases hh), (fun e he => by cases he)⟩
              · obtain ⟨rfl, rfl⟩ := hkey g K e; exact ⟨Nat.le_refl _, rfl⟩
              · obtain ⟨rfl, rfl⟩ := hkey g K e
                refine ⟨by simp only [L, r]; omega, vals, ?_, fun j v hj => ?_⟩
                · simp only [L, r]
                  rw [List.take_of_length_le (by omega)]
                  exact v1.mono hle
                · have := v2 j v hj
                  simpa using this
            have H3 := RelH.pushRO (L := L) q3 (r := r) rfl hblk (fun ds => by
              obtain ⟨c, t, f, hh⟩ := hcellsB
              show W.heap[a.block]? ≠ _
              rw [hh]; intro e; cases e) hrow
            have hext : Ext h2 (h2.push (.row r)) := by
              refine ⟨by simp, fun id o e => ?_⟩
              rw [AHeap.get_push]
              have : id < h2.sz := by
                rcases Nat.lt_or_ge id h2.sz with h1 | h1
                · exact h1
                · rw [q3.gone id h1] at e; cases e
              rw [if_neg (by omega)]; exact e
            refine ⟨hread, _, _, [.slc h2.sz 0 0 len cap true], ys, Phi.le_trans p1 (Phi.le_trans q1 hle), p2.trans (q2.trans hext), H3, ?_, rfl, rfl, ?_, ?_⟩
            · have hspot : a = ⟨a.block, a.off, none⟩ := by
                obtain ⟨k, hk⟩ : ∃ k, cap = k + 1 := ⟨cap - 1, by omega⟩
                rw [hk, List.range'_succ] at hall
                generalize es ++ es2 = ee at hall
                cases hall with
                | cons hh _ =>
                  obtain ⟨cells, k1, _⟩ := hh
                  obtain ⟨_, hl, hcc⟩ := World.cells?_some k1
                  have h0 := hcc 0 hpos
                  have hv : ∃ v, cells[0]? = some v := ⟨cells[0]'(by omega), by simp⟩
                  obtain ⟨v, hv⟩ := hv
                  rw [hv] at h0
                  have e0 : (a.add (0 * n)).add 0 = a.add 0 := by unfold Addr.add; simp
                  rw [e0] at h0
                  have := addr_add_spot h0
                  unfold Addr.add at this
                  simpa using this
              rw [hspot]
              exact .cons (.slc (L := L) (Phi.add_same _ _ _ _) c2 (by simp [L]) (by simp [L]) (Nat.le_refl _) (fun _ => rfl) (fun _ => by simp [L])) .nil
            · refine .inr ⟨h2.sz, cap, r, by rw [hylen], ?_, rfl, rfl, rfl, rfl, by rw [hylen]; exact c2, hlt.symm, ?_⟩
              · rw [AHeap.row_some, AHeap.get_push, if_pos rfl]
              · show All2 (R _) ((es ++ es2).take ys.length) ys
                rw [hylen, ← hlen, List.take_left]
                exact p5.mono fun x y hxy => hR _ _ _ _ (q2.trans hext) hxy
            · simp only [bulk]
              omega
theorem In.slice {α : Type} {t e : TypeId} {n : Nat} {sz : α → Nat} {R : Rd α} (hu : P.underlying t = some (.slice e)) (hn : P.cellsOf e = n) (hpos : 0 < n) (hR : Mono R) (I : In enc P W held e n sz R) :
    In enc P W held t 1 (fun l => szL sz l + 1) (RSl n R)
  | 0 => InAt.zero
  | fuel + 1 => InAt.slice hu hn hpos hR (I fuel)
abbrev InFAt (enc : TypeId × Value → H) (P : Program) (W : World) (held : Bool) {α : Type} (fs : List (Nat × TypeId)) (off tot : Nat) (sz : α → Nat) (R : Rd α) (fuel : Nat) : Prop :=
  ∀ (cs : List Value) (xs : List (DataW H × List MemPlace)), cs.length = tot → fs.mapM (fun f => DataW.trod enc P W 0 (fun _ => true) held fuel f.2 ((cs.drop f.1).take (P.cellsOf f.2))) = some xs → ∀ φ h, RelH P (.of W.heap.size) φ h W →
    (∀ (W' : World) (sp' : Nat → Bool), (∀ k : Nat, k < W.heap.size → W'.heap[k]? = W.heap[k]?) → (∀ p ∈ xs.flatMap (·.2), sp' p.block = true) → fs.mapM (fun f => DataW.trod enc P W' 0 sp' held fuel f.2 ((cs.drop f.1).take (P.cellsOf f.2))) = some xs) ∧
    ∃ φ' h' avs x, φ.le φ' ∧ Ext h h' ∧ RelH P (.of W.heap.size) φ' h' W ∧ RelVs φ' avs (cs.drop off) ∧ allLeaf avs = true ∧ R h' avs x ∧ sz x ≤ bulkAll (xs.map (·.1))
def InF (enc : TypeId × Value → H) (P : Program) (W : World) (held : Bool) {α : Type} (fs : List (Nat × TypeId)) (off tot : Nat) (sz : α → Nat) (R : Rd α) : Prop := ∀ (fuel : Nat), InFAt enc P W held fs off tot sz R fuel
def RNil : Rd Unit := fun _ a _ => a = []
def RCons {α β : Type} (n : Nat) (R : Rd α) (S : Rd β) : Rd (α × β) := fun h a x => ∃ b c, a = b ++ c ∧ b.length = n ∧ R h b x.1 ∧ S h c x.2
theorem InF.nil {tot : Nat} : InF enc P W held [] tot tot (fun _ : Unit => 0) RNil := by
  intro fuel cs xs hl hm φ h HH
  simp at hm; subst hm
  refine ⟨fun _ _ _ _ => by simp, φ, h, [], (), φ.le_refl, Ext.refl h, HH, ?_, rfl, rfl, by simp [bulkAll]⟩
  rw [List.drop_of_length_le (by omega)]; exact .nil
theorem InFAt.cons {α β : Type} {t : TypeId} {off n tot : Nat} {fs : List (Nat × TypeId)} {sz : α → Nat} {sz' : β → Nat} {R : Rd α} {S : Rd β} {fuel : Nat} (hn : P.cellsOf t = n) (hR : Mono R) (I : InAt enc P W held t n sz R fuel) (J : InFAt enc P W held fs (off + n) tot sz' S fuel) :
    InFAt enc P W held ((off, t) :: fs) off tot (fun x : α × β => sz x.1 + sz' x.2) (RCons n R S) fuel := by
  intro cs xs hl hm φ h HH
  obtain ⟨y, m, hy, hm', rfl⟩ := mapM_cons_some hm
  simp only [hn] at hy
  obtain ⟨y1, y2⟩ := y
  obtain ⟨b1, φ1, h1, avs, x, a1, a2, a3, a4, a5, a6, a7, a8⟩ := I _ y1 y2 hy φ h HH
  obtain ⟨b2, φ2, h2, bvs, z, c1, c2, c3, c4, c5, c6, c7⟩ := J cs m hl hm' φ1 h1 a3
  refine ⟨fun W' sp' hW hp => ?_, φ2, h2, avs ++ bvs, (x, z), Phi.le_trans a1 c1, a2.trans c2, c3, ?_, allLeaf_append a6 c5, ⟨avs, bvs, rfl, a5, hR _ _ _ _ c2 a7, c6⟩, by simp [bulkAll]; omega⟩
  · rw [List.mapM_cons]
    simp only [hn]
    rw [b1 W' sp' hW (fun p hpp => hp p (by simp [List.flatMap_cons]; exact .inl hpp))]
    have k2 := b2 W' sp' hW (fun p hpp => hp p (by simp [List.flatMap_cons]; exact .inr (by simpa using hpp)))
    simp [k2]
  · have e : cs.drop off = (cs.drop off).take n ++ cs.drop (off + n) := by
      rw [← List.drop_drop, List.take_append_drop]
    rw [e]
    exact (a4.mono c1).append c4
theorem InF.cons {α β : Type} {t : TypeId} {off n tot : Nat} {fs : List (Nat × TypeId)} {sz : α → Nat} {sz' : β → Nat} {R : Rd α} {S : Rd β} (hn : P.cellsOf t = n) (hR : Mono R) (I : In enc P W held t n sz R) (J : InF enc P W held fs (off + n) tot sz' S) :
    InF enc P W held ((off, t) :: fs) off tot (fun x : α × β => sz x.1 + sz' x.2) (RCons n R S) := fun fuel => InFAt.cons hn hR (I fuel) (J fuel)
theorem mapM_pairs {β : Type} {g : Nat → TypeId → Option β} : ∀ (fs : List Field), fs.mapM (fun f => g f.offset f.type) = (fs.map fun f => (f.offset, f.type)).mapM (fun p => g p.1 p.2)
  | [] => rfl
  | f :: fs => by rw [List.mapM_cons, List.map_cons, List.mapM_cons, mapM_pairs fs]
theorem InAt.struct {α : Type} {t : TypeId} {fs : Array Field} {l : List (Nat × TypeId)} {tot : Nat} {sz : α → Nat} {R : Rd α} {fuel : Nat} (hu : P.underlying t = some (.struct fs)) (hl : (fs.toList.map fun f => (f.offset, f.type)) = l) (hn : P.cellsOf t = tot) (J : InFAt enc P W held l 0 tot sz R fuel) :
    InAt enc P W held t tot (fun x => sz x + 1) R (fuel + 1) := by
  intro cs d ps ht φ h HH
  · skip
    have hstep : ∀ (W' : World) (sp' : Nat → Bool) (held' : Bool), DataW.trod enc P W' 0 sp' held' (fuel + 1) t cs = if cs.length = P.cellsOf t then (fs.toList.mapM fun f => DataW.trod enc P W' 0 sp' held' fuel f.type ((cs.drop f.offset).take (P.cellsOf f.type))).map fun xs => (.agg (xs.map (·.1)), xs.flatMap (·.2)) else none := by
      intro W' sp' held'
      conv => lhs; unfold DataW.trod
      rw [hu]
    rw [hstep] at ht
    split at ht
    rotate_left
    · cases ht
    rename_i hlen
    rw [mapM_pairs (g := fun o ty => DataW.trod enc P W 0 (fun _ => true) held fuel ty ((cs.drop o).take (P.cellsOf ty))), hl] at ht
    cases hm : l.mapM (fun p => DataW.trod enc P W 0 (fun _ => true) held fuel p.2 ((cs.drop p.1).take (P.cellsOf p.2))) with
    | none => rw [hm] at ht; cases ht
    | some xs =>
      rw [hm] at ht
      simp only [Option.map_some, Option.some.injEq, Prod.mk.injEq] at ht
      obtain ⟨rfl, rfl⟩ := ht
      obtain ⟨b1, φ', h', avs, x, a1, a2, a3, a4, a5, a6, a7⟩ := J cs xs (by rw [hlen, hn]) hm φ h HH
      refine ⟨fun W' sp' hW hp => ?_, φ', h', avs, x, a1, a2, a3, by simpa using a4, ?_, a5, a6, by simp only [bulk]; omega⟩
      · rw [hstep, if_pos hlen, mapM_pairs (g := fun o ty => DataW.trod enc P W' 0 sp' held fuel ty ((cs.drop o).take (P.cellsOf ty))), hl, b1 W' sp' hW hp]
        simp
      · have := a4.length
        simp at this
        omega
theorem In.struct {α : Type} {t : TypeId} {fs : Array Field} {l : List (Nat × TypeId)} {tot : Nat} {sz : α → Nat} {R : Rd α} (hu : P.underlying t = some (.struct fs)) (hl : (fs.toList.map fun f => (f.offset, f.type)) = l) (hn : P.cellsOf t = tot) (J : InF enc P W held l 0 tot sz R) :
    In enc P W held t tot (fun x => sz x + 1) R
  | 0 => InAt.zero
  | fuel + 1 => InAt.struct hu hl hn (J fuel)
end
end Go.Ab
namespace Go.Ab
set_option linter.unusedSimpArgs false
set_option linter.unusedVariables false
@[simp] theorem optB_some (v : AV) (k : AV → Bool) : optB (some v) k = k v := rfl
@[simp] theorem optB_none (k : AV → Bool) : optB none k = false := rfl
@[simp] theorem optP_some (v : AV) (h : AHeap) (k : Kont) : optP (some (v, h)) k = k v h := rfl
@[simp] theorem optP_none (k : Kont) : optP none k = false := rfl
@[simp] theorem condB_true (a b : Bool) : condB (.bool true) a b = a := rfl
@[simp] theorem condB_false (a b : Bool) : condB (.bool false) a b = b := rfl
theorem condB_bool (c a b : Bool) : condB (.bool c) a b = if c = true then a else b := by cases c <;> rfl
theorem condB_t {c a b : Bool} (h : c = true) : condB (.bool c) a b = a := by subst h; rfl
theorem condB_f {c a b : Bool} (h : c = false) : condB (.bool c) a b = b := by subst h; rfl
@[simp] theorem wantV_true (c : Bool) : wantV (.bool c) true = c := by cases c <;> rfl
@[simp] theorem wantV_false (c : Bool) : wantV (.bool c) false = !c := by cases c <;> rfl
@[simp] theorem wantV_tup (l : List AV) (b : Bool) : wantV (.tup l) b = false := rfl
@[simp] theorem grdO_true (o : Option AV) : grdO true o = o := rfl
@[simp] theorem grdO_false (o : Option AV) : grdO false o = some (.tup []) := rfl
@[simp] theorem grdP_true (o : Option (AV × AHeap)) (h : AHeap) : grdP true o h = o := rfl
@[simp] theorem grdP_false (o : Option (AV × AHeap)) (h : AHeap) : grdP false o h = some (.tup [], h) := rfl
@[simp] theorem grdC_true (r : Kont → Bool) (h : AHeap) (K : Kont) : grdC true r h K = r K := rfl
@[simp] theorem grdC_false (r : Kont → Bool) (h : AHeap) (K : Kont) : grdC false r h K = K (.tup []) h := rfl
@[simp] theorem pickV_true (a b : AV) : pickV (.bool true) a b = some a := rfl
@[simp] theorem pickV_false (a b : AV) : pickV (.bool false) a b = some b := rfl
@[simp] theorem notA_bool (b : Bool) : notA (.bool b) = some (.bool (!b)) := rfl
@[simp] theorem nilckA_ptr (a b c d : Nat) : nilckA (.ptr a b c d) = some (.ptr a b c d) := rfl
@[simp] theorem fadrA_ptr (off a b c d : Nat) : fadrA off (.ptr a b c d) = some (.ptr a b c (d + off)) := rfl
@[simp] theorem extA_tup (i : Nat) (l : List AV) : extA i (.tup l) = nth l i := rfl
@[simp] theorem nth_zero {α : Type} (x : α) (l : List α) : nth (x :: l) 0 = some x := rfl
@[simp] theorem nth_succ {α : Type} (x : α) (l : List α) (n : Nat) : nth (x :: l) (n + 1) = nth l n := rfl
@[simp] theorem nth_nil {α : Type} (n : Nat) : nth ([] : List α) n = none := rfl
@[simp] theorem fldA_agg (ag : Bool) (off n : Nat) (l : List AV) : fldA ag off n (.agg l) = partA ag off n l := rfl
@[simp] theorem partA_false (off n : Nat) (l : List AV) : partA false off n l = nth l off := rfl
@[simp] theorem lenA_str (h : AHeap) (s : List Nat) : lenA h 0 (.str s) = some (.int .i64 (s.length : Int)) := rfl
@[simp] theorem callV_fn (call : CallFn) (f : AFn) (a b vs : List AV) (h : AHeap) (K : Kont) : callV call (.fn f a b) vs h K = call f (a ++ vs ++ b) h K := rfl
@[simp] theorem optR_some (l : List AV) (h : AHeap) (K : Kont) : optR (some l) h K = K (oneOf l) h := rfl
@[simp] theorem oneOf_one (v : AV) : oneOf [v] = v := rfl
theorem iltb_dec (a b : Int) : iltb a b = decide (a < b) := iltb_eq a b
theorem ieqb_dec (a b : Int) : ieqb a b = decide (a = b) := by rw [ieqb_eq]; rfl
theorem leqb_dec (a b : List Nat) : leqb a b = decide (a = b) := by
  rw [leqb_eq]
  by_cases e : a = b
  · subst e; simp
  · rw [decide_eq_false e]; exact beq_eq_false_iff_ne.2 e
theorem binA_ints (op : BinOp) (k : IntKind) (a b : Int) (hs : isShift op = false) : binA op (.int k a) (.int k b) = intOp op k a b := by
  simp only [binA, hs, cond_false, Nat.beq_refl, cond_true]
@[simp] theorem binA_lss (k : IntKind) (a b : Int) : binA .lss (.int k a) (.int k b) = some (.bool (decide (a < b))) := by rw [binA_ints _ _ _ _ rfl]; simp only [intOp, iltb_dec]
@[simp] theorem binA_gtr (k : IntKind) (a b : Int) : binA .gtr (.int k a) (.int k b) = some (.bool (decide (b < a))) := by rw [binA_ints _ _ _ _ rfl]; simp only [intOp, iltb_dec]
@[simp] theorem binA_leq (k : IntKind) (a b : Int) : binA .leq (.int k a) (.int k b) = some (.bool (decide (a ≤ b))) := by
  rw [binA_ints _ _ _ _ rfl]; simp only [intOp, iltb_dec]
  by_cases e : b < a
  · rw [decide_eq_true e, decide_eq_false (by omega)]; rfl
  · rw [decide_eq_false e, decide_eq_true (by omega)]; rfl
@[simp] theorem binA_geq (k : IntKind) (a b : Int) : binA .geq (.int k a) (.int k b) = some (.bool (decide (b ≤ a))) := by
  rw [binA_ints _ _ _ _ rfl]; simp only [intOp, iltb_dec]
  by_cases e : a < b
  · rw [decide_eq_true e, decide_eq_false (by omega)]; rfl
  · rw [decide_eq_false e, decide_eq_true (by omega)]; rfl
@[simp] theorem binA_eql (k : IntKind) (a b : Int) : binA .eql (.int k a) (.int k b) = some (.bool (decide (a = b))) := by rw [binA_ints _ _ _ _ rfl]; simp only [intOp, ieqb_dec]
@[simp] theorem binA_neq (k : IntKind) (a b : Int) : binA .neq (.int k a) (.int k b) = some (.bool (!decide (a = b))) := by rw [binA_ints _ _ _ _ rfl]; simp only [intOp, ieqb_dec]
theorem binA_add (k : IntKind) (a b : Int) : binA .add (.int k a) (.int k b) = some (.int k (wrapA k (a + b))) := by rw [binA_ints _ _ _ _ rfl]; rfl
theorem binA_sub (k : IntKind) (a b : Int) : binA .sub (.int k a) (.int k b) = some (.int k (wrapA k (a - b))) := by rw [binA_ints _ _ _ _ rfl]; rfl
theorem binA_mul (k : IntKind) (a b : Int) : binA .mul (.int k a) (.int k b) = some (.int k (wrapA k (a * b))) := by rw [binA_ints _ _ _ _ rfl]; rfl
@[simp] theorem binA_seql (a b : List Nat) : binA .eql (.str a) (.str b) = some (.bool (decide (a = b))) := by simp only [binA, strOp, leqb_dec]
@[simp] theorem binA_sneq (a b : List Nat) : binA .neq (.str a) (.str b) = some (.bool (!decide (a = b))) := by simp only [binA, strOp, leqb_dec]
theorem wrap64 {n : Int} (h1 : -9223372036854775808 ≤ n) (h2 : n ≤ 9223372036854775807) : wrapA .i64 n = n := by
  have : fitsK .i64 n = true := by
    cases n with
    | ofNat m =>
      have e : Int.ofNat m = (m : Int) := rfl
      simp only [fitsK]; exact nble_true.2 (by omega)
    | negSucc m =>
      have e : Int.negSucc m = -((m : Int) + 1) := rfl
      simp only [fitsK]; exact nble_true.2 (by omega)
  simp only [wrapA, this, cond_true]
theorem add64 {a b : Int} (h1 : -9223372036854775808 ≤ a + b) (h2 : a + b ≤ 9223372036854775807) : binA .add (.int .i64 a) (.int .i64 b) = some (.int .i64 (a + b)) := by rw [binA_add, wrap64 h1 h2]
theorem sub64 {a b : Int} (h1 : -9223372036854775808 ≤ a - b) (h2 : a - b ≤ 9223372036854775807) : binA .sub (.int .i64 a) (.int .i64 b) = some (.int .i64 (a - b)) := by rw [binA_sub, wrap64 h1 h2]
def lim : Nat := 4611686018427387904
theorem inc64 {i : Nat} (h0 : i < lim) : binA .add (.int .i64 (i : Int)) (.int .i64 1) = some (.int .i64 ((i + 1 : Nat) : Int)) := by
  have h : i < 4611686018427387904 := h0
  rw [add64 (by omega) (by omega)]; rfl
@[simp] theorem asNat_nat (k : IntKind) (n : Nat) : asNat (.int k (n : Int)) = some n := rfl
theorem idxsA_some {s : List Nat} {k : IntKind} {i b : Nat} (h : s[i]? = some b) : idxsA (.str s) (.int k (i : Int)) = some (.int .u8 (b : Int)) := by
  simp only [idxsA, asNat_nat, nth_eq, h]; rfl
@[simp] theorem lit_le (k b : Nat) : ((@OfNat.ofNat Int k _ : Int) ≤ (b : Int)) = ((@OfNat.ofNat Nat k _ : Nat) ≤ b) := by
  apply propext; show ((k : Nat) : Int) ≤ (b : Int) ↔ k ≤ b; omega
@[simp] theorem le_lit (k b : Nat) : ((b : Int) ≤ (@OfNat.ofNat Int k _ : Int)) = (b ≤ (@OfNat.ofNat Nat k _ : Nat)) := by
  apply propext; show (b : Int) ≤ ((k : Nat) : Int) ↔ b ≤ k; omega
@[simp] theorem lit_lt (k b : Nat) : ((@OfNat.ofNat Int k _ : Int) < (b : Int)) = ((@OfNat.ofNat Nat k _ : Nat) < b) := by
  apply propext; show ((k : Nat) : Int) < (b : Int) ↔ k < b; omega
@[simp] theorem lt_lit (k b : Nat) : ((b : Int) < (@OfNat.ofNat Int k _ : Int)) = (b < (@OfNat.ofNat Nat k _ : Nat)) := by
  apply propext; show (b : Int) < ((k : Nat) : Int) ↔ b < k; omega
@[simp] theorem lit_eq (k b : Nat) : ((@OfNat.ofNat Int k _ : Int) = (b : Int)) = ((@OfNat.ofNat Nat k _ : Nat) = b) := by
  apply propext; show ((k : Nat) : Int) = (b : Int) ↔ k = b; omega
@[simp] theorem eq_lit (k b : Nat) : ((b : Int) = (@OfNat.ofNat Int k _ : Int)) = (b = (@OfNat.ofNat Nat k _ : Nat)) := by
  apply propext; show (b : Int) = ((k : Nat) : Int) ↔ b = k; omega
def View (h : AHeap) (n : Nat) (v : AV) (es : List (List AV)) : Prop :=
  (es = [] ∧ (v = .nilSlc ∨ v = .emp)) ∨ ∃ id g s cap ex r, v = .slc id g s es.length cap ex ∧ h.row id = some r ∧ r.m ≤ g ∧ r.sz = n ∧ (r.es.drop s).take es.length = es ∧ es.length ≤ cap
theorem View.nil (h : AHeap) (n : Nat) : View h n .nilSlc [] := .inl ⟨rfl, .inl rfl⟩
theorem View.ext {h h' : AHeap} {n : Nat} {v : AV} {es : List (List AV)} (V : View h n v es) (e : Ext h h') : View h' n v es := by
  rcases V with V | ⟨id, g, s, cap, ex, r, h1, h2, h3⟩
  · exact .inl V
  · exact .inr ⟨id, g, s, cap, ex, r, h1, e.row h2, h3⟩
theorem View.leaf {h : AHeap} {n : Nat} {v : AV} {es : List (List AV)} (V : View h n v es) : v.leaf = true := by
  rcases V with ⟨rfl, rfl | rfl⟩ | ⟨id, g, s, cap, ex, r, rfl, _⟩ <;> rfl
theorem View.len {h : AHeap} {n : Nat} {v : AV} {es : List (List AV)} (V : View h n v es) : lenA h 1 v = some (.int .i64 (es.length : Int)) := by
  rcases V with ⟨rfl, rfl | rfl⟩ | ⟨id, g, s, cap, ex, r, rfl, _⟩ <;> rfl
theorem View.at {h : AHeap} {n : Nat} {v : AV} {es : List (List AV)} (V : View h n v es) {i : Nat} {e : List AV} (hi : es[i]? = some e) :
    ∃ id g j, (∀ k, iadrA h n v (.int k (i : Int)) = some (.ptr id g j 0)) ∧ ∀ ag off m, loadA h ag m (.ptr id g j off) = partA ag off m e := by
  rcases V with ⟨rfl, _⟩ | ⟨id, g, s, cap, ex, r, rfl, h2, h3, h4, h5, h6⟩
  · simp at hi
  · have hlt : i < es.length := (List.getElem?_eq_some_iff.1 hi).1
    refine ⟨id, g, s + i, fun k => ?_, fun ag off m => ?_⟩
    · have : rowSz h id n = true := by simp only [rowSz, h2, nbeq_true]; exact h4
      simp only [iadrA, asNat_nat, nblt_true.2 hlt, this, Bool.and_self, cond_true]
    · have hn : nth r.es (s + i) = some e := by
        rw [nth_eq]
        rw [← h5, List.getElem?_take] at hi
        simp only [hlt, if_true, List.getElem?_drop] at hi
        exact hi
      simp only [loadA, h2, nble_true.2 h3, cond_true, hn]
theorem View.src {h : AHeap} {n : Nat} {v : AV} {es : List (List AV)} (V : View h n v es) : source h n v = some es := by
  rcases V with ⟨rfl, rfl | rfl⟩ | ⟨id, g, s, cap, ex, r, rfl, h2, h3, h4, h5, h6⟩
  · rfl
  · rfl
  · simp only [source]
    cases hb : Nat.beq es.length 0 with
    | true =>
      rw [cond_true]
      have := nbeq_true.1 hb
      rw [List.length_eq_zero_iff.1 this]
    | false =>
      simp only [cond_false, h2, nble_true.2 h3, nbeq_true.2 h4, Bool.and_self, cond_true, h5, nbeq_true.2 rfl]
def Own (b : Nat) (h : AHeap) (n : Nat) (v : AV) (es : List (List AV)) : Prop :=
  (v = .nilSlc ∧ es = []) ∨ ∃ id r, b ≤ id ∧ v = .slc id r.g 0 es.length es.length false ∧ h.row id = some r ∧ r.rw = true ∧ r.m ≤ r.g ∧ r.sz = n ∧ r.es = es
theorem Own.view {b : Nat} {h : AHeap} {n : Nat} {v : AV} {es : List (List AV)} (O : Own b h n v es) : View h n v es := by
  rcases O with ⟨rfl, rfl⟩ | ⟨id, r, _, rfl, h2, h3, h4, h5, h6⟩
  · exact View.nil h n
  · exact .inr ⟨id, r.g, 0, es.length, false, r, rfl, h2, h4, h5, by simp [h6], Nat.le_refl _⟩
theorem Own.ext {b n : Nat} {h h' : AHeap} {v : AV} {es : List (List AV)} (V : Own b h n v es) (e : Ext h h') : Own b h' n v es := by
  rcases V with V | ⟨id, r, w1, w2, w3, w4, w5, w6, w7⟩
  · exact .inl V
  · exact .inr ⟨id, r, w1, w2, e.row w3, w4, w5, w6, w7⟩
theorem Own.nil (b : Nat) (h : AHeap) (n : Nat) : Own b h n .nilSlc [] := .inl ⟨rfl, rfl⟩
theorem ext_push {h : AHeap} (gone : ∀ id, h.sz ≤ id → h.get id = none) (o : AObj) : Ext h (h.push o) := by
  refine ⟨by simp, fun id x e => ?_⟩
  rw [AHeap.get_push]
  have : id ≠ h.sz := fun hh => by rw [gone id (by omega)] at e; cases e
  rw [if_neg this]; exact e
def AHeap.Ok (h : AHeap) : Prop := ∀ id, h.sz ≤ id → h.get id = none
theorem AHeap.Ok.push {h : AHeap} (k : h.Ok) (o : AObj) : (h.push o).Ok := by
  intro id hid
  simp at hid
  rw [AHeap.get_push, if_neg (by omega)]
  exact k id (by omega)
theorem AHeap.Ok.lt {h : AHeap} (k : h.Ok) {id : Nat} {o : AObj} (e : h.get id = some o) : id < h.sz := by
  rcases Nat.lt_or_ge id h.sz with h1 | h1
  · exact h1
  · rw [k id h1] at e; cases e
theorem AHeap.Ok.put {h : AHeap} (k : h.Ok) {id : Nat} (hid : id < h.sz) (o : AObj) : (h.put id o).Ok := by
  intro j hj
  rw [AHeap.get_put, if_neg (by simp at hj; omega)]
  exact k j (by simpa using hj)
theorem ext_put {h0 h : AHeap} (e : Ext h0 h) (k0 : h0.Ok) {id : Nat} (hid : h0.sz ≤ id) (o : AObj) : Ext h0 (h.put id o) := by
  refine ⟨by simpa using e.1, fun j x hj => ?_⟩
  rw [AHeap.get_put]
  have := k0.lt hj
  rw [if_neg (by omega)]
  exact e.2 j x hj
def TyOf (h : AHeap) (v : AV) (e : Nat) : Prop := ∀ id g s l c ex, v = .slc id g s l c ex → ∃ r, h.row id = some r ∧ r.ty = some e
theorem Own.appT {b : Nat} {h h0 : AHeap} {n bytes : Nat} {v x : AV} {es new : List (List AV)} (nt : Option Nat) (O : Own b h n v es) (hn : 0 < n) (hb : b ≤ h.sz) (k : h.Ok) (k0 : h0.Ok) (e0 : Ext h0 h) (hb0 : h0.sz ≤ b) (hs : source h n x = some new)
    (h1 : (es.length + new.length) * bytes ≤ most) (h2 : es.length + new.length ≤ most) :
    ∃ v' h', appendA h n bytes v x nt = some (v', h') ∧ Own b h' n v' (es ++ new) ∧ h'.Ok ∧ Ext h0 h' ∧ h.sz ≤ h'.sz ∧
      (∀ j o, h.get j = some o → (∀ id g s l c ex, v = .slc id g s l c ex → j ≠ id) → h'.get j = some o) ∧ (∀ k u q, View h k u q → View h' k u q) ∧ (∀ e, nt = some e → TyOf h v e → TyOf h' v' e) := by
  have hn0 : Nat.beq n 0 = false := nbeq_false.2 (by omega)
  simp only [appendA, hn0, cond_false, hs]
  have hrow : ∀ (h : AHeap) (r : Row), (h.push (.row r)).row h.sz = some r := fun h r => by rw [AHeap.row_some, AHeap.get_push, if_pos rfl]
  rcases O with ⟨rfl, rfl⟩ | ⟨id, r, o1, rfl, o2, o3, o4, o5, o6⟩
  · cases new with
    | nil => exact ⟨.nilSlc, h, rfl, .inl ⟨rfl, rfl⟩, k, e0, Nat.le_refl _, fun j o hj _ => hj, fun _ _ _ V => V, fun _ _ T => T⟩
    | cons y new =>
      refine ⟨.slc h.sz 0 0 (y :: new).length (y :: new).length false, newRow h (y :: new) n nt, ?_, .inr ⟨h.sz, { es := y :: new, sz := n, g := 0, m := 0, rw := true, ty := nt }, hb, by simp, hrow _ _, rfl, Nat.le_refl _, rfl, rfl⟩, k.push _, e0.trans (ext_push k _), by simp [newRow], fun j o hj _ => (ext_push k _).2 j o hj, fun _ _ _ V => V.ext (ext_push k _), fun e he _ id g s l c ex hv => ⟨_, by cases hv; exact hrow _ _, he⟩⟩
      simp only [appendNew]
      rw [nble_true.2 (by simpa using h1), nble_true.2 (by simpa using h2)]
      rfl
  · cases new with
    | nil => exact ⟨.slc id r.g 0 es.length es.length false, h, rfl, .inr ⟨id, r, o1, by simp, o2, o3, o4, o5, by simpa using o6⟩, k, e0, Nat.le_refl _, fun j o hj _ => hj, fun _ _ _ V => V, fun _ _ T id g s l c ex hv => T id g s l c ex (by simpa using hv)⟩
    | cons y new =>
      have hid := k.lt (AHeap.row_some.1 o2)
      have hnc : Nat.ble (es.length + (y :: new).length) es.length = false := by
        cases hh : Nat.ble (es.length + (y :: new).length) es.length with
        | false => rfl
        | true => have := nble_true.1 hh; simp at this; omega
      refine ⟨.slc id (r.g + 1) 0 (es.length + (y :: new).length) (es.length + (y :: new).length) false, h.put id (.row { r with es := r.es ++ (y :: new), g := r.g + 1, ty := tyJoin r.ty nt }), ?_, .inr ⟨id, { r with es := r.es ++ (y :: new), g := r.g + 1, ty := tyJoin r.ty nt }, o1, by simp, ?_, o3, by simp only; omega, o5, by simp [o6]⟩, k.put hid _, ext_put e0 k0 (by omega) _, by simp, fun j o hj hne => ?_, fun kk u q V => ?_, fun e he T id' g' s' l' c' ex' hv => ?_⟩
      · simp only [appendNew, o2]
        rw [nble_true.2 h1, nble_true.2 h2, nbeq_true.2 o5]
        simp only [Bool.and_self, cond_true, hnc, cond_false, o3, nbeq_true.2 rfl, nbeq_true.2 (show es.length = r.es.length by rw [o6])]
      · rw [AHeap.row_some, AHeap.get_put, if_pos rfl]
      · rw [AHeap.get_put, if_neg (hne id _ _ _ _ _ rfl)]; exact hj
      · rcases V with V | ⟨i', g', s', cp, ex, rr, w1, w2, w3, w4, w5, w6⟩
        · exact .inl V
        · by_cases hi : i' = id
          · subst hi
            rw [o2] at w2; cases w2
            refine .inr ⟨i', g', s', cp, ex, { r with es := r.es ++ (y :: new), g := r.g + 1, ty := tyJoin r.ty nt }, w1, by rw [AHeap.row_some, AHeap.get_put, if_pos rfl], w3, w4, ?_, w6⟩
            simp only
            by_cases hq : q.length = 0
            · rw [hq, List.take_zero]; exact (List.length_eq_zero_iff.1 hq).symm
            · have hlen : ((r.es.drop s').take q.length).length = q.length := by rw [w5]
              rw [List.length_take, List.length_drop] at hlen
              rw [List.drop_append_of_le_length (by omega), List.take_append_of_le_length (by rw [List.length_drop]; omega)]
              exact w5
          · refine .inr ⟨i', g', s', cp, ex, rr, w1, ?_, w3, w4, w5, w6⟩
            rw [AHeap.row_some] at w2 ⊢
            rw [AHeap.get_put, if_neg hi]; exact w2
      · cases hv
        obtain ⟨r', q1, q2⟩ := T id _ _ _ _ _ rfl
        rw [o2] at q1; cases q1
        refine ⟨_, by rw [AHeap.row_some, AHeap.get_put, if_pos rfl], ?_⟩
        simp [q2, he, tyJoin]
theorem Own.app {b : Nat} {h h0 : AHeap} {n bytes : Nat} {v x : AV} {es new : List (List AV)} (O : Own b h n v es) (hn : 0 < n) (hb : b ≤ h.sz) (k : h.Ok) (k0 : h0.Ok) (e0 : Ext h0 h) (hb0 : h0.sz ≤ b) (hs : source h n x = some new)
    (h1 : (es.length + new.length) * bytes ≤ most) (h2 : es.length + new.length ≤ most) :
    ∃ v' h', appendA h n bytes v x = some (v', h') ∧ Own b h' n v' (es ++ new) ∧ h'.Ok ∧ Ext h0 h' ∧ h.sz ≤ h'.sz ∧
      (∀ j o, h.get j = some o → (∀ id g s l c ex, v = .slc id g s l c ex → j ≠ id) → h'.get j = some o) ∧ (∀ k u q, View h k u q → View h' k u q) := by
  obtain ⟨v', h', a1, a2, a3, a4, a5, a6, a7, _⟩ := O.appT none hn hb k k0 e0 hb0 hs h1 h2
  exact ⟨v', h', a1, a2, a3, a4, a5, a6, a7⟩
theorem Own.appb {b : Nat} {h h0 : AHeap} {e : Nat} {v x : AV} {es new : List (List AV)} (O : Own b h 1 v es) (hb : b ≤ h.sz) (k : h.Ok) (k0 : h0.Ok) (e0 : Ext h0 h) (hb0 : h0.sz ≤ b) (hs : source h 1 x = some new) (h2 : es.length + new.length ≤ most) :
    ∃ v' h', appbA h e v x = some (v', h') ∧ Own b h' 1 v' (es ++ new) ∧ h'.Ok ∧ Ext h0 h' ∧ h.sz ≤ h'.sz ∧
      (∀ j o, h.get j = some o → (∀ id g s l c ex, v = .slc id g s l c ex → j ≠ id) → h'.get j = some o) ∧ (∀ k u q, View h k u q → View h' k u q) ∧ (TyOf h v e → TyOf h' v' e) := by
  obtain ⟨v', h', a1, a2, a3, a4, a5, a6, a7, a8⟩ := O.appT (bytes := 1) (some e) (by decide) hb k k0 e0 hb0 hs (by omega) h2
  exact ⟨v', h', a1, a2, a3, a4, a5, a6, a7, a8 e rfl⟩
end Go.Ab
namespace Go.Ab
set_option linter.unusedSimpArgs false
set_option linter.unusedVariables false
theorem PT.setF_lf_setF {α : Type} : ∀ (f g : Nat) (t : PT α) (n : Nat) (x y : Option α), n < f → n < g → PT.setF g (PT.setF f t n x) n y = PT.setF g t n y
  | 0, _, _, n, _, _, h, _ => absurd h (Nat.not_lt_zero n)
  | _, 0, _, n, _, _, _, h => absurd h (Nat.not_lt_zero n)
  | f + 1, g + 1, t, n, x, y, h1, h2 => by
    cases n with
    | zero => cases t <;> rfl
    | succ k =>
      have d1 : Nat.div k 2 = k / 2 := rfl
      have hf : Nat.div k 2 < f := by omega
      have hg : Nat.div k 2 < g := by omega
      cases t with
      | lf =>
        simp only [PT.setF]
        cases hb : Nat.beq (Nat.mod k 2) 0 <;> simp only [cond_true, cond_false, PT.setF, hb] <;> rw [PT.setF_lf_setF f g _ _ _ _ hf hg]
      | nd l v r =>
        simp only [PT.setF]
        cases hb : Nat.beq (Nat.mod k 2) 0 <;> simp only [cond_true, cond_false, PT.setF, hb] <;> rw [PT.setF_lf_setF f g _ _ _ _ hf hg]
theorem PT.set_set {α : Type} (t : PT α) (n : Nat) (x y : α) : (t.set n x).set n y = t.set n y := PT.setF_lf_setF _ _ _ _ _ _ (Nat.lt_succ_self n) (Nat.lt_succ_self n)
theorem push_put (h : AHeap) (a b : AObj) : (h.push a).put h.sz b = h.push b := by
  simp only [AHeap.push, AHeap.put, PT.set_set]
@[simp] theorem newRow_sz (h : AHeap) (es : List (List AV)) (n : Nat) : (newRow h es n).sz = h.sz + 1 := rfl
def VRow (cells : List AV) : Row := { es := [cells], sz := cells.length, g := 0, m := 0, rw := true }
def Var (h : AHeap) (id : Nat) (cells : List AV) : Prop := h.row id = some (VRow cells)
theorem Var.ext {h h' : AHeap} {id : Nat} {c : List AV} (V : Var h id c) (e : Ext h h') : Var h' id c := e.row V
theorem Var.lt {h : AHeap} {id : Nat} {c : List AV} (V : Var h id c) (k : h.Ok) : id < h.sz := k.lt (AHeap.row_some.1 V)
theorem Var.load {h : AHeap} {id : Nat} {c : List AV} (V : Var h id c) (ag : Bool) (off n : Nat) : loadA h ag n (.ptr id 0 0 off) = partA ag off n c := by
  have V' : h.row id = some (VRow c) := V
  simp only [loadA, V', VRow, Nat.ble_self_eq_true, cond_true, nth_zero]
theorem var_new (h : AHeap) (c : List AV) : Var (newRow h [c] c.length) h.sz c := by
  show AHeap.row _ _ = _
  rw [AHeap.row_some]
  simp only [newRow, AHeap.get_push, if_pos, VRow]
theorem alloc_eq {h : AHeap} {z : List AV} (h1 : 0 < z.length) (h2 : allLeaf z = true) : allocV h z = some (.ptr h.sz 0 0 0, newRow h [z] z.length) := by
  simp only [allocV, allocA, nbeq_false.2 (show z.length ≠ 0 by omega), h2, cond_false, cond_true]
theorem box_eq {h : AHeap} {n : Nat} {v : AV} (h0 : v.cells.length = n) (h1 : 0 < n) (h2 : allLeaf v.cells = true) : boxA h n v = some (.ptr h.sz 0 0 0, newRow h [v.cells] n) := by
  simp only [boxA, nbeq_true.2 h0, nblt_true.2 h1, h2, Bool.and_self, cond_true]
theorem lay_len {α : Type} {l new : List α} {n : Nat} (h : n + new.length ≤ l.length) : (lay l n new).length = l.length := by
  simp [lay]; omega
theorem Var.store {h : AHeap} {id : Nat} {c : List AV} (V : Var h id c) {n off : Nat} {v : AV} (h0 : v.cells.length = n) (h1 : off + n ≤ c.length) (h2 : allLeaf v.cells = true) :
    storeA h n (.ptr id 0 0 off) v = some (h.put id (.row (VRow (lay c off v.cells)))) := by
  have V' : h.row id = some (VRow c) := V
  have e : (lay c off v.cells).length = c.length := lay_len (by omega)
  simp only [storeA, V', VRow, Nat.beq_refl, nbeq_true.2 h0, h2, Bool.and_self, cond_true, nth_zero, nble_true.2 h1, setNth, e]
theorem cells_leaf {v : AV} (h : v.leaf = true) : v.cells = [v] := by cases v <;> first | rfl | cases h
theorem lay_one {α : Type} {l : List α} {n : Nat} {x : α} (h : n < l.length) : lay l n [x] = l.set n x := by
  rw [List.set_eq_take_append_cons_drop]
  simp [lay, h]
theorem Var.set1 {h : AHeap} {id : Nat} {c : List AV} (V : Var h id c) {off : Nat} {v : AV} (h1 : off < c.length) (h2 : v.leaf = true) :
    storeA h 1 (.ptr id 0 0 off) v = some (h.put id (.row (VRow (c.set off v)))) := by
  have hc := cells_leaf h2
  rw [V.store (n := 1) (by rw [hc]; rfl) (by omega) (by rw [hc]; simp [allLeaf, h2]), hc, lay_one h1]
theorem var_put {h : AHeap} (id : Nat) (c : List AV) : Var (h.put id (.row (VRow c))) id c := by
  show AHeap.row _ _ = _
  rw [AHeap.row_some, AHeap.get_put, if_pos rfl]
theorem store_new {h : AHeap} {z : List AV} {n : Nat} {v : AV} (hz : z.length = n) (h0 : v.cells.length = n) (h2 : allLeaf v.cells = true) :
    storeA (newRow h [z] n) n (.ptr h.sz 0 0 0) v = some (newRow h [v.cells] n) := by
  subst hz
  rw [(var_new h z).store h0 (by omega) h2]
  have : lay z 0 v.cells = v.cells := by simp [lay]; omega
  rw [this]
  simp only [newRow, push_put, VRow, h0]
theorem alloc_set {h : AHeap} {z : List AV} {n : Nat} {v : AV} {k : Kont} (hz : z.length = n) (hp : 0 < n) (hl : allLeaf z = true) (h0 : v.cells.length = n) (h2 : allLeaf v.cells = true) :
    (optP (allocV h z) fun p h => optP (unit (storeA h n p v)) fun _ h => k p h) = k (.ptr h.sz 0 0 0) (newRow h [v.cells] n) := by
  rw [alloc_eq (by omega) hl, optP_some, hz, store_new hz h0 h2]
  rfl
def StrMap (h : AHeap) (id : Nat) (f : List Nat → Option AV) : Prop :=
  ∃ es c, h.get id = some (.map es c) ∧ (∀ e ∈ es, ∃ s, e.1 = .str s) ∧ ∀ s, findE (.str s) es = some (f s)
theorem StrMap.ext {h h' : AHeap} {id : Nat} {f : List Nat → Option AV} (M : StrMap h id f) (e : Ext h h') : StrMap h' id f := by
  obtain ⟨es, c, h1, h2⟩ := M
  exact ⟨es, c, e.2 id _ h1, h2⟩
theorem strMap_new (h : AHeap) : mkmapV h = some (.map h.sz, h.push (.map [] 0)) ∧ StrMap (h.push (.map [] 0)) h.sz (fun _ => none) :=
  ⟨rfl, [], 0, by rw [AHeap.get_push, if_pos rfl], by simp, fun _ => rfl⟩
theorem StrMap.look {h : AHeap} {id : Nat} {f : List Nat → Option AV} (M : StrMap h id f) (z : AV) (s : List Nat) : lookA h (.leaf .str) false z (.map id) (.str s) = some ((f s).getD z) := by
  obtain ⟨es, c, h1, h2, h3⟩ := M
  simp only [lookA, fitsKK, fits0, cond_true, mapOf, h1, h3]
  cases f s <;> rfl
theorem StrMap.look2 {h : AHeap} {id : Nat} {f : List Nat → Option AV} (M : StrMap h id f) (z : AV) (s : List Nat) : lookA h (.leaf .str) true z (.map id) (.str s) = some (.tup [(f s).getD z, .bool (f s).isSome]) := by
  obtain ⟨es, c, h1, h2, h3⟩ := M
  simp only [lookA, fitsKK, fits0, cond_true, mapOf, h1, h3]
  cases f s <;> rfl
theorem keyEq_str (a b : List Nat) : keyEq (.str a) (.str b) = some (decide (a = b)) := by
  simp only [keyEq, leafEq, leqb_dec]
theorem findE_append (s t : List Nat) (v : AV) (c : Nat) : ∀ (es : List (AV × AV × Nat)), (∀ e ∈ es, ∃ s, e.1 = .str s) → findE (.str t) es = some none →
    findE (.str s) (es ++ [(.str t, v, c)]) = if s = t then some (some v) else findE (.str s) es
  | [], _, _ => by
    simp only [List.nil_append, findE, keyEq_str]
    by_cases e : s = t <;> simp [e]
  | (k, u, b) :: es, hk, hf => by
    obtain ⟨x, hx⟩ := hk _ List.mem_cons_self
    simp only at hx; subst hx
    simp only [findE, keyEq_str] at hf
    simp only [List.cons_append, findE, keyEq_str]
    by_cases e1 : t = x
    · simp [e1] at hf
    · simp [e1] at hf
      have ih := findE_append s t v c es (fun e he => hk e (List.mem_cons_of_mem _ he)) hf
      by_cases e2 : s = x
      · subst e2
        have : ¬ s = t := fun h => e1 h.symm
        simp [this]
      · simp [e2, ih]
theorem findE_set (s t : List Nat) (v : AV) : ∀ (es : List (AV × AV × Nat)), (∀ e ∈ es, ∃ s, e.1 = .str s) → (∃ u, findE (.str t) es = some (some u)) →
    findE (.str s) (setE (.str t) v es) = (if s = t then some (some v) else findE (.str s) es) ∧ (∀ e ∈ setE (.str t) v es, ∃ s, e.1 = .str s)
  | [], _, hf => by obtain ⟨u, hf⟩ := hf; simp [findE] at hf
  | (k, u, b) :: es, hk, hf => by
    obtain ⟨x, hx⟩ := hk _ List.mem_cons_self
    simp only at hx; subst hx
    obtain ⟨w, hf⟩ := hf
    simp only [findE, keyEq_str] at hf
    simp only [setE, keyEq_str]
    by_cases e1 : t = x
    · subst e1
      simp only [decide_true]
      refine ⟨?_, ?_⟩
      · simp only [findE, keyEq_str]
        by_cases e2 : s = t <;> simp [e2]
      · intro e he
        rcases List.mem_cons.1 he with rfl | he
        · exact ⟨t, rfl⟩
        · exact hk e (List.mem_cons_of_mem _ he)
    · simp [e1] at hf
      obtain ⟨i1, i2⟩ := findE_set s t v es (fun e he => hk e (List.mem_cons_of_mem _ he)) ⟨w, hf⟩
      simp only [e1, decide_false]
      refine ⟨?_, ?_⟩
      · simp only [findE, keyEq_str]
        by_cases e2 : s = x
        · subst e2
          have : ¬ s = t := fun h => e1 h.symm
          simp [this]
        · simp [e2, i1]
      · intro e he
        rcases List.mem_cons.1 he with rfl | he
        · exact ⟨x, rfl⟩
        · exact i2 e he
theorem StrMap.upd {h : AHeap} {id : Nat} {f : List Nat → Option AV} (M : StrMap h id f) (t : List Nat) (v : AV) :
    ∃ o, mupdA h (.leaf .str) (.map id) (.str t) v = some (h.put id o) ∧ StrMap (h.put id o) id (fun s => if s = t then some v else f s) := by
  obtain ⟨es, c, h1, h2, h3⟩ := M
  have h4 := h3 t
  cases hft : f t with
  | none =>
    rw [hft] at h4
    refine ⟨.map (es ++ [(.str t, v, c)]) (c + 1), ?_, es ++ [(.str t, v, c)], c + 1, by rw [AHeap.get_put, if_pos rfl], ?_, fun s => ?_⟩
    · simp only [mupdA, fitsKK, fits0, cond_true, h1, h4]
    · intro e he
      rcases List.mem_append.1 he with he | he
      · exact h2 e he
      · simp at he; subst he; exact ⟨t, rfl⟩
    · rw [findE_append s t v c es h2 h4, h3 s]
      by_cases e : s = t <;> simp [e]
  | some u =>
    rw [hft] at h4
    refine ⟨.map (setE (.str t) v es) c, ?_, setE (.str t) v es, c, by rw [AHeap.get_put, if_pos rfl], (findE_set t t v es h2 ⟨u, h4⟩).2, fun s => ?_⟩
    · simp only [mupdA, fitsKK, fits0, cond_true, h1, h4]
    · rw [(findE_set s t v es h2 ⟨u, h4⟩).1, h3 s]
      by_cases e : s = t <;> simp [e]
theorem StrMap.lt {h : AHeap} {id : Nat} {f : List Nat → Option AV} (M : StrMap h id f) (k : h.Ok) : id < h.sz := by
  obtain ⟨es, c, h1, _⟩ := M; exact k.lt h1
theorem StrMap.other {h : AHeap} {id j : Nat} {f : List Nat → Option AV} (M : StrMap h id f) (e : id ≠ j) (o : AObj) : StrMap (h.put j o) id f := by
  obtain ⟨es, c, h1, h2⟩ := M
  exact ⟨es, c, by rw [AHeap.get_put, if_neg e]; exact h1, h2⟩
theorem Var.other {h : AHeap} {id j : Nat} {c : List AV} (V : Var h id c) (e : id ≠ j) (o : AObj) : Var (h.put j o) id c := by
  show AHeap.row _ _ = _
  rw [AHeap.row_some, AHeap.get_put, if_neg e]
  exact AHeap.row_some.1 V
theorem bslice_view {h : AHeap} {n sz : Nat} {z : List AV} {ps : List (Nat × AV)} {es : List (List AV)} (h1 : z.length = sz) (h2 : 0 < sz) (h3 : n * sz ≤ 16777216) (h4 : allLeaf z = true) (h5 : fillRowV sz (repl n z) ps = some es) (h6 : es.length = n) :
    ∃ v, bsliceV h n sz z ps = some (v, newRow h es sz) ∧ View (newRow h es sz) sz v es := by
  refine ⟨.slc h.sz 0 0 n n true, ?_, .inr ⟨h.sz, 0, 0, n, true, { es, sz, g := 0, m := 0, rw := true }, by rw [h6], ?_, Nat.le_refl _, rfl, by simp, by omega⟩⟩
  · simp only [bsliceV, nbeq_true.2 h1, nblt_true.2 h2, nble_true.2 h3, h4, Bool.and_self, cond_true, h5]
  · rw [AHeap.row_some]; simp only [newRow, AHeap.get_push, if_pos]
theorem ext_newRow {h : AHeap} (k : h.Ok) (es : List (List AV)) (n : Nat) : Ext h (newRow h es n) := ext_push k _
theorem ok_newRow {h : AHeap} (k : h.Ok) (es : List (List AV)) (n : Nat) : (newRow h es n).Ok := k.push _
end Go.Ab
namespace Go.Ab
set_option linter.unusedSimpArgs false
set_option linter.unusedVariables false
theorem ok_of_rel {P : Program} {B : Base} {φ : Phi} {h : AHeap} {w : World} (H : RelH P B φ h w) : h.Ok := fun id hid => H.gone id hid
theorem RStr.mono : Mono RStr := fun _ _ _ _ _ h => h
theorem RInt.mono {k : IntKind} : Mono (RInt k) := fun _ _ _ _ _ h => h
theorem RBool.mono : Mono RBool := fun _ _ _ _ _ h => h
theorem RSl.view {α : Type} {n : Nat} {R : Rd α} {h : AHeap} {a : List AV} {l : List α} (H : RSl n R h a l) : ∃ v es, a = [v] ∧ View h n v es ∧ All2 (R h) es l := by
  rcases H with ⟨rfl, h1 | h1⟩ | ⟨id, cap, r, h1, h2, h3, h4, h5, h6, h7, h8, h9⟩
  · exact ⟨.nilSlc, [], h1, View.nil _ _, .nil⟩
  · exact ⟨.emp, [], h1, .inl ⟨rfl, .inr rfl⟩, .nil⟩
  · have hl := h9.length
    refine ⟨_, r.es.take l.length, h1, .inr ⟨id, 0, 0, cap, true, r, by rw [hl], h2, by omega, h6, ?_, by rw [hl]; exact h7⟩, h9⟩
    rw [hl, List.drop_zero]
theorem hv_agg {cs : Array Value} {n : Nat} : ∀ (φ : Phi) (avs : List AV), RelVs φ avs (Value.agg cs).cells.toList → avs.length = n → RelV φ (.agg avs) (.agg cs) := by
  intro φ avs hr hl
  exact .agg hr
theorem calls_law {H : Type} {enc : TypeId × Value → H} {P : Program} {E : Env} (hmix : P.follows .mixedOrders = true) (hE : EnvOK P E) {f fuel : Nat} {fn : AFun} (hf : E.code f = some fn) {α : Type} {t : TypeId} {n : Nat} {sz : α → Nat} {R : Rd α} {W : World}
    (I : In enc P W true t n sz R) {v : Value} {d : DataW H} {ps : List MemPlace} (ht : DataW.Trod enc P W 0 (fun _ => true) true t v d ps) (mk : List AV → AV) (hv : ∀ (φ : Phi) (avs : List AV), RelVs φ avs v.cells.toList → avs.length = n → RelV φ (mk avs) v)
    (hrun : ∀ h avs x, h.Ok → R h avs x → sz x ≤ bulk d → callN E fuel (.func f) [mk avs] h (fun v _ => isTrue v) = true) :
    Calls P f #[v] W fun e W' => e = .returned (.bool true) ∧ GrownB W W' ∧ ∀ sp' : Nat → Bool, (∀ p ∈ ps, sp' p.block = true) → DataW.Trod enc P W' 0 sp' true t v d ps := by
  obtain ⟨fu, ht⟩ := ht
  obtain ⟨b1, φ, h, avs, x, a1, a2, a3, a4, a5, a6, a7, a8⟩ := I fu _ d ps ht _ _ (relH_empty W)
  have hr := hrun h avs x (ok_of_rel a3) a7 a8
  have h0 := callN_sound hmix hE fuel (.func f) [mk avs] h _ hr (.of W.heap.size) φ W [v] a3 (.cons (hv φ avs a4 a5) .nil)
  simp only at h0
  have h0 := FuncOK.lands h0
  rw [enter_of hE hf] at h0
  have h1 : CallsIn (FW none) 0 P f #[v] W _ := h0 0
  refine (callsIn_wide.1 h1).mono ?_
  rintro e W' ⟨u, h', cv, φ', rfl, hK, hu, _, _, hg⟩
  refine ⟨?_, grown_of hg, fun sp' hsp => ⟨fu, b1 W' sp' (fun k hk => hg.below k hk) hsp⟩⟩
  cases hu <;> first | (cases hK; done) | skip
  rename_i b
  cases b with
  | false => cases hK
  | true => rfl
section
open Go.ChangeShapes
theorem post_same {H : Type} {enc : TypeId × Value → H} {P : Program} {f : Func} {s : ChangeSpec} {apart fresh handsOn again : Bool} {W W' : World} {args : Array Value} {v : Value} {ds gs : List (DataW H)} {before pa pv : List MemPlace}
    (hW : DataW.Whole enc P f.params.toList s.vars apart W args.toList ds gs before)
    (hres : ∀ (b : Nat) (sp : Nat → Bool) (hd : Bool), DataW.TrodAll enc P W' b sp hd f.resultTypes.toList (v.resultList f.resultTypes.size) (s.fn H (ds ++ gs)).results [])
    (hargs : ∀ sp : Nat → Bool, (∀ p ∈ before, sp p.block = true) → DataW.TrodAll enc P W' 0 sp true f.params.toList args.toList (s.fn H (ds ++ gs)).args pa)
    (hvars : ∀ sp : Nat → Bool, (∀ p ∈ before, sp p.block = true) → DataW.TrodVars enc P W' sp s.vars (s.fn H (ds ++ gs)).vars pv)
    (hps : before = pa ++ pv) (hk : W.keptBut W' (· ∈ before)) (hfz : ∀ a : Addr, a.block < W.heap.size → W'.frozen? a = W.frozen? a)
    (hok : ∀ (j : Nat) (t : TypeId) (r : Value), f.resultTypes[j]? = some t → (v.resultList f.resultTypes.size)[j]? = some r → Value.okWide P W' .any 0 t r) :
    s.post enc P f apart fresh handsOn again W args v W' := by
  have hlt := fun p hp => hW.lt p hp
  have hold : ∀ p ∈ before, (fun b => decide (b < W.heap.size)) p.block = true := fun p hp => by simpa using hW.lt p hp
  refine ⟨ds, gs, before, [], pa, pv, hW, hres _ _ _, hargs _ hold, hvars _ hold, World.keptBut_mono (fun p hp => ⟨hp, ?_⟩) hk, fun _ => ?_⟩
  · rw [hps, List.mem_append] at hp
    exact Or.inr hp
  · obtain ⟨_, _, _, _, _, hz, hn⟩ := hW
    refine ⟨hok, _, _, ([] ++ pa) ++ pv, ⟨[] ++ pa, pv, trodAll_append (hargs _ (fun _ _ => rfl)) (hres _ _ _), hvars _ (fun _ _ => rfl), rfl, ?_, ?_⟩, ?_⟩
    · intro b off hp
      have hm : MemPlace.cell b off ∈ before := by rw [hps]; simpa using hp
      rw [hfz ⟨b, off, none⟩ (hlt _ hm)]
      exact hz b off hm
    · intro ha
      have := hn ha
      rw [hps] at this
      simpa using this
    · intro p hp _
      rw [hps]
      simpa using hp
end
end Go.Ab
namespace Go.Ab
set_option linter.unusedSimpArgs false
set_option linter.unusedVariables false
inductive Val where
  | mk (kind : Int) (b : Bool) (n : Int) (t : List Nat) (l : List Val) : Val
mutual
def RV (h : AHeap) : List AV → Val → Prop
  | a, .mk k b n t l => ∃ lv es, a = [.int .i64 k, .bool b, .int .i64 n, .str t, lv] ∧ View h 5 lv es ∧ RVs h es l ∧ (-9223372036854775808 ≤ n ∧ n ≤ 9223372036854775807) ∧ (-9223372036854775808 ≤ k ∧ k ≤ 9223372036854775807) ∧ ∀ x ∈ t, x < 256
def RVs (h : AHeap) : List (List AV) → List Val → Prop
  | es, [] => es = []
  | es, v :: l => ∃ e r, es = e :: r ∧ RV h e v ∧ RVs h r l
end
mutual
def szV : Val → Nat
  | .mk _ _ _ t l => t.length + szVs l + 1
def szVs : List Val → Nat
  | [] => 0
  | v :: l => szV v + szVs l
end
mutual
theorem RV.ext {h h' : AHeap} (e : Ext h h') : ∀ {a : List AV} {v : Val}, RV h a v → RV h' a v
  | a, .mk k b n t l, H => by
    simp only [RV] at H ⊢
    obtain ⟨lv, es, h1, h2, h3, h4⟩ := H
    exact ⟨lv, es, h1, h2.ext e, RVs.ext e h3, h4⟩
theorem RVs.ext {h h' : AHeap} (e : Ext h h') : ∀ {es : List (List AV)} {l : List Val}, RVs h es l → RVs h' es l
  | es, [], H => by simp only [RVs] at H ⊢; exact H
  | es, v :: l, H => by
    simp only [RVs] at H ⊢
    obtain ⟨x, r, h1, h2, h3⟩ := H
    exact ⟨x, r, h1, RV.ext e h2, RVs.ext e h3⟩
end
theorem RVs.all2 {h : AHeap} : ∀ {es : List (List AV)} {l : List Val}, RVs h es l → All2 (RV h) es l
  | es, [], H => by simp only [RVs] at H; subst H; exact .nil
  | es, v :: l, H => by
    simp only [RVs] at H
    obtain ⟨x, r, rfl, h2, h3⟩ := H
    exact .cons h2 h3.all2
theorem RVs.of {h : AHeap} {es : List (List AV)} {l : List Val} (A : All2 (RV h) es l) : RVs h es l := by
  induction A with
  | nil => simp [RVs]
  | cons a _ ih => simp only [RVs]; exact ⟨_, _, rfl, a, ih⟩
theorem szVs_eq : ∀ (l : List Val), szVs l = szL szV l
  | [] => rfl
  | v :: l => by simp only [szVs, szL, szVs_eq l]
theorem RV.mono : Mono RV := fun _ _ _ _ e H => RV.ext e H
section
variable {H : Type} {enc : TypeId × Value → H} {P : Program} {W : World} {held : Bool}
theorem inVal {t tl t0 t1 t2 t3 : TypeId} {fs : Array Field} (hu : P.underlying t = some (.struct fs)) (hl : (fs.toList.map fun f => (f.offset, f.type)) = [(0, t0), (1, t1), (2, t2), (3, t3), (4, tl)]) (hn : P.cellsOf t = 5)
    (h0 : P.underlying t0 = some (.int .i64)) (n0 : P.cellsOf t0 = 1) (h1 : P.underlying t1 = some .bool) (n1 : P.cellsOf t1 = 1) (h2 : P.underlying t2 = some (.int .i64)) (n2 : P.cellsOf t2 = 1) (h3 : P.underlying t3 = some .string) (n3 : P.cellsOf t3 = 1) (h4 : P.underlying tl = some (.slice t)) (n4 : P.cellsOf tl = 1) :
    In enc P W held t 5 szV RV := by
  intro fuel
  induction fuel using Nat.strongRecOn with
  | _ fuel ih =>
    match fuel, ih with
    | 0, _ => exact InAt.zero
    | fuel + 1, ih =>
      have hsl : InAt enc P W held tl 1 (fun l => szL szV l + 1) (RSl 5 RV) fuel := by
        match fuel, ih with
        | 0, _ => exact InAt.zero
        | f + 1, ih => exact InAt.slice h4 hn (by decide) RV.mono (ih f (by omega))
      have I := InAt.struct (enc := enc) (W := W) (held := held) hu hl hn
        (InFAt.cons (off := 0) (n := 1) n0 RInt.mono (In.int h0 fuel) (InFAt.cons (off := 1) (n := 1) n1 RBool.mono (In.bool h1 fuel) (InFAt.cons (off := 2) (n := 1) n2 RInt.mono (In.int h2 fuel) (InFAt.cons (off := 3) (n := 1) n3 RStr.mono (In.str h3 fuel) (InFAt.cons (off := 4) (n := 1) n4 (RSl.mono RV.mono) hsl (InF.nil fuel))))))
      refine I.conv ?_
      rintro h a ⟨k, b, n, s, l, u⟩ ⟨b1, c1, rfl, _, ⟨rfl, hk1, hk2⟩, b2, c2, rfl, _, hb, b3, c3, rfl, _, ⟨rfl, hn1, hn2⟩, b4, c4, rfl, _, ⟨rfl, ht⟩, b5, c5, rfl, _, hs, rfl⟩
      obtain ⟨v, es, rfl, hv, he⟩ := hs.view
      have hb' : b2 = [.bool b] := hb
      subst hb'
      refine ⟨.mk k b n s l, ?_, ?_⟩
      · simp only [RV]
        exact ⟨v, es, rfl, hv, RVs.of he, ⟨hn1, hn2⟩, ⟨hk1, hk2⟩, ht⟩
      · simp only [szV, szVs_eq]; omega
end
def VV (h : AHeap) (v : AV) (l : List Val) : Prop := ∃ es, View h 5 v es ∧ All2 (RV h) es l
theorem VV.ext {h h' : AHeap} {v : AV} {l : List Val} (V : VV h v l) (e : Ext h h') : VV h' v l := let ⟨es, h1, h2⟩ := V; ⟨es, h1.ext e, h2.mono fun _ _ r => RV.ext e r⟩
theorem VV.len {h : AHeap} {v : AV} {l : List Val} (V : VV h v l) : lenA h 1 v = some (.int .i64 (l.length : Int)) := by
  obtain ⟨es, h1, h2⟩ := V; rw [h1.len, h2.length]
theorem RV.cells {h : AHeap} {a : List AV} {k n : Int} {b : Bool} {t : List Nat} {l : List Val} (R : RV h a (.mk k b n t l)) : ∃ lv, a = [.int .i64 k, .bool b, .int .i64 n, .str t, lv] ∧ VV h lv l ∧ (-9223372036854775808 ≤ n ∧ n ≤ 9223372036854775807) ∧ (-9223372036854775808 ≤ k ∧ k ≤ 9223372036854775807) ∧ ∀ x ∈ t, x < 256 := by
  simp only [RV] at R
  obtain ⟨lv, es, h1, h2, h3, h4⟩ := R
  exact ⟨lv, h1, ⟨es, h2, h3.all2⟩, h4⟩
theorem VV.leaf {h : AHeap} {v : AV} {l : List Val} (V : VV h v l) : v.leaf = true := by obtain ⟨es, h1, _⟩ := V; exact h1.leaf
theorem VV.at {h : AHeap} {v : AV} {l : List Val} (V : VV h v l) {i : Nat} {x : Val} (hi : l[i]? = some x) :
    ∃ id g j e, (∀ k, iadrA h 5 v (.int k (i : Int)) = some (.ptr id g j 0)) ∧ (∀ ag off m, loadA h ag m (.ptr id g j off) = partA ag off m e) ∧ RV h e x := by
  obtain ⟨es, h1, h2⟩ := V
  obtain ⟨e, he, hr⟩ := h2.get hi
  obtain ⟨id, g, j, p1, p2⟩ := h1.at he
  exact ⟨id, g, j, e, p1, p2, hr⟩
end Go.Ab
namespace Go.Proofs.Ythifmankpcadjaa
open Go.Ab
set_option linter.unusedVariables false
def p5_112 (call : CallFn) (n : Nat) (B63 : F5) (B80 : F8) (x1 x3 x5 x12 x13 x14 x15 x16 : AV) (h : AHeap) (K : Kont) : Bool :=
  optB (binA .add x16 (.int .i64 1)) fun v127 => B80 x1 x3 x5 x12 x13 x14 x15 v127 h
def p5_120 (call : CallFn) (n : Nat) (B63 : F5) (x1 x3 x5 x12 x13 : AV) (h : AHeap) (K : Kont) : Bool :=
  optB (binA .add x13 (.int .i64 1)) fun v144 => B63 x1 x3 x5 x12 v144 h
def p5_113 (call : CallFn) (n : Nat) (B63 : F5) (x1 x3 x5 x12 x13 x14 x15 : AV) (h : AHeap) (K : Kont) : Bool :=
  optB (lenA h 1 x14) fun v142 => optB (binA .neq x15 v142) fun v143 => condB v143 (K (.bool false) h) (p5_120 call n B63 x1 x3 x5 x12 x13 h K)
set_option maxRecDepth 100000 in
def b5_80 (call : CallFn) (n : Nat) (B63 : F5) (B80 : F8) (x1 x3 x5 x12 x13 x14 x15 x16 : AV) (h : AHeap) (K : Kont) : Bool :=
  optB (lenA h 1 x12) fun v101 => optB (binA .lss x16 v101) fun v102 => condB v102 (optB (binA .gtr x16 (.int .i64 0)) fun v103 => optB (grdO (wantV v103 true) (some x12)) fun v104 => optB (grdO (wantV v103 true) (some x16)) fun v105 => optB (grdO (wantV v103 true) (binA .sub v105 (.int .i64 1))) fun v106 => optB (grdO (wantV v103 true) (iadrA h 6 v104 v106)) fun v107 => optB (grdO (wantV v103 true) (fadrA 0 v107)) fun v108 => optB (grdO (wantV v103 true) (loadA h false 1 v108)) fun v109 => optB (grdO (wantV v103 true) (some x12)) fun v110 => optB (grdO (wantV v103 true) (some x16)) fun v111 => optB (grdO (wantV v103 true) (iadrA h 6 v110 v111)) fun v112 => optB (grdO (wantV v103 true) (fadrA 0 v112)) fun v113 => optB (grdO (wantV v103 true) (loadA h false 1 v113)) fun v114 => optB (grdO (wantV v103 true) (binA .geq v109 v114)) fun v115 => optB (pickV v103 v115 (.bool false)) fun v116 => condB v116 (K (.bool false) h) (optB (iadrA h 6 x12 x16) fun v117 => optB (fadrA 1 v117) fun v118 => optB (loadA h false 1 v118) fun v119 => optB (fadrA 0 x1) fun v120 => optB (loadA h false 1 v120) fun v121 => optB (iadrA h 3 v121 x13) fun v122 => optB (fadrA 0 v122) fun v123 => optB (loadA h false 1 v123) fun v124 => call (.func 23) [x3, v119, v124] h fun v125 h => optB (notA v125) fun v126 => condB v126 (p5_112 call n B63 B80 x1 x3 x5 x12 x13 x14 x15 x16 h K) (optB (lenA h 1 x14) fun v128 => optB (binA .geq x15 v128) fun v129 => optB (grdO (wantV v129 false) (some x14)) fun v130 => optB (grdO (wantV v129 false) (some x15)) fun v131 => optB (grdO (wantV v129 false) (iadrA h 1 v130 v131)) fun v132 => optB (grdO (wantV v129 false) (loadA h false 1 v132)) fun v133 => optB (grdO (wantV v129 false) (some x12)) fun v134 => optB (grdO (wantV v129 false) (some x16)) fun v135 => optB (grdO (wantV v129 false) (iadrA h 6 v134 v135)) fun v136 => optB (grdO (wantV v129 false) (fadrA 0 v136)) fun v137 => optB (grdO (wantV v129 false) (loadA h false 1 v137)) fun v138 => optB (grdO (wantV v129 false) (binA .neq v133 v138)) fun v139 => optB (pickV v129 (.bool true) v139) fun v140 => condB v140 (K (.bool false) h) (optB (binA .add x15 (.int .i64 1)) fun v141 => p5_112 call n B63 B80 x1 x3 x5 x12 x13 x14 v141 x16 h K)))) (p5_113 call n B63 x1 x3 x5 x12 x13 x14 x15 h K)
def l5_80 (call : CallFn) (n : Nat) (B63 : F5) : Nat → AV → AV → AV → AV → AV → AV → AV → AV → AHeap → Kont → Bool
  | 0 => fun _ _ _ _ _ _ _ _ _ _ => false
  | m + 1 => fun x1 x3 x5 x12 x13 x14 x15 x16 h K => b5_80 call n B63 (fun x1 x3 x5 x12 x13 x14 x15 x16 h => l5_80 call n B63 m x1 x3 x5 x12 x13 x14 x15 x16 h K) x1 x3 x5 x12 x13 x14 x15 x16 h K
def p5_70 (call : CallFn) (n : Nat) (B63 : F5) (x1 x3 x5 x12 x13 : AV) (h : AHeap) (K : Kont) : Bool :=
  optB (fadrA 0 x1) fun v95 => optB (loadA h false 1 v95) fun v96 => optB (iadrA h 3 v96 x13) fun v97 => optB (fadrA 0 v97) fun v98 => optB (loadA h false 1 v98) fun v99 => call (.func 22) [x5, v99] h fun v100 h => l5_80 call n B63 n x1 x3 x5 x12 x13 v100 (.int .i64 0) (.int .i64 0) h K
def p5_121 (call : CallFn) (n : Nat) (h : AHeap) (K : Kont) : Bool :=
  call (.func 7) [] h fun v145 h => K v145 h
def b5_63 (call : CallFn) (n : Nat) (B63 : F5) (x1 x3 x5 x12 x13 : AV) (h : AHeap) (K : Kont) : Bool :=
  optB (fadrA 0 x1) fun v88 => optB (loadA h false 1 v88) fun v89 => optB (lenA h 1 v89) fun v90 => optB (binA .lss x13 v90) fun v91 => optB (grdO (wantV v91 true) (some x13)) fun v92 => optB (grdO (wantV v91 true) (binA .lss v92 (.int .i64 20))) fun v93 => optB (pickV v91 v93 (.bool false)) fun v94 => condB v94 (p5_70 call n B63 x1 x3 x5 x12 x13 h K) (p5_121 call n  h K)
def l5_63 (call : CallFn) (n : Nat) : Nat → AV → AV → AV → AV → AV → AHeap → Kont → Bool
  | 0 => fun _ _ _ _ _ _ _ => false
  | m + 1 => fun x1 x3 x5 x12 x13 h K => b5_63 call n (fun x1 x3 x5 x12 x13 h => l5_63 call n m x1 x3 x5 x12 x13 h K) x1 x3 x5 x12 x13 h K
def p5_57 (call : CallFn) (n : Nat) (x1 x3 x5 : AV) (h : AHeap) (K : Kont) : Bool :=
  call (.func 14) [x5] h fun v87 h => l5_63 call n n x1 x3 x5 v87 (.int .i64 0) h K
set_option maxRecDepth 100000 in
def b5_34 (call : CallFn) (n : Nat) (B34 : F4) (x1 x3 x5 x7 : AV) (h : AHeap) (K : Kont) : Bool :=
  optB (fadrA 2 x1) fun v26 => optB (loadA h false 1 v26) fun v27 => optB (lenA h 1 v27) fun v28 => optB (binA .lss x7 v28) fun v29 => optB (grdO (wantV v29 true) (some x7)) fun v30 => optB (grdO (wantV v29 true) (binA .lss v30 (.int .i64 30))) fun v31 => optB (pickV v29 v31 (.bool false)) fun v32 => condB v32 (call (.func 15) [x5] h fun v33 h => call (.func 16) [x5] h fun v34 h => optB (fadrA 2 x1) fun v35 => optB (loadA h false 1 v35) fun v36 => optB (iadrA h 5 v36 x7) fun v37 => optB (fadrA 1 v37) fun v38 => optB (loadA h false 1 v38) fun v39 => optB (fadrA 2 x1) fun v40 => optB (loadA h false 1 v40) fun v41 => optB (iadrA h 5 v41 x7) fun v42 => optB (fadrA 2 v42) fun v43 => optB (loadA h false 1 v43) fun v44 => optB (fadrA 2 x1) fun v45 => optB (loadA h false 1 v45) fun v46 => optB (iadrA h 5 v46 x7) fun v47 => optB (fadrA 4 v47) fun v48 => optB (loadA h false 1 v48) fun v49 => call (.func 10) [x5, v39, v44, v49] h fun v50 h => optB (extA 0 v50) fun v51 => optB (extA 1 v50) fun v52 => optB (binA .neq v52 (.int .i64 0)) fun v53 => optB (grdO (wantV v53 true) (some x5)) fun v54 => grdC (wantV v53 true) (fun k => call (.func 15) [v54] h k) h fun v55 h => optB (grdO (wantV v53 true) (some v33)) fun v56 => optB (grdO (wantV v53 true) (binA .neq v55 v56)) fun v57 => optB (grdO (wantV v53 true) (some v57)) fun v58 => optB (grdO (wantV v58 false) (some x5)) fun v59 => grdC (wantV v58 false) (fun k => call (.func 16) [v59] h k) h fun v60 h => optB (grdO (wantV v58 false) (some v34)) fun v61 => optB (grdO (wantV v58 false) (binA .neq v60 v61)) fun v62 => optB (grdO (wantV v53 true) (pickV v58 (.bool true) v62)) fun v63 => optB (pickV v53 v63 (.bool false)) fun v64 => optB (grdO (wantV v64 false) (some v52)) fun v65 => optB (grdO (wantV v64 false) (binA .eql v65 (.int .i64 0))) fun v66 => optB (grdO (wantV v64 false) (some v66)) fun v67 => optB (grdO (wantV v67 true) (some x5)) fun v68 => grdC (wantV v67 true) (fun k => call (.func 15) [v68] h k) h fun v69 h => optB (grdO (wantV v67 true) (some v33)) fun v70 => optB (grdO (wantV v67 true) (binA .add v70 (.int .i64 1))) fun v71 => optB (grdO (wantV v67 true) (binA .neq v69 v71)) fun v72 => optB (grdO (wantV v67 true) (some v72)) fun v73 => optB (grdO (wantV v73 false) (some x5)) fun v74 => grdC (wantV v73 false) (fun k => call (.func 16) [v74] h k) h fun v75 h => optB (grdO (wantV v73 false) (some v34)) fun v76 => optB (grdO (wantV v73 false) (binA .add v76 (.int .i64 1))) fun v77 => optB (grdO (wantV v73 false) (binA .neq v75 v77)) fun v78 => optB (grdO (wantV v67 true) (pickV v73 (.bool true) v78)) fun v79 => optB (grdO (wantV v67 true) (some v79)) fun v80 => optB (grdO (wantV v80 false) (some v51)) fun v81 => optB (grdO (wantV v80 false) (binA .lss v81 (.int .i64 1))) fun v82 => optB (grdO (wantV v67 true) (pickV v80 (.bool true) v82)) fun v83 => optB (grdO (wantV v64 false) (pickV v67 v83 (.bool false))) fun v84 => optB (pickV v64 (.bool true) v84) fun v85 => condB v85 (K (.bool false) h) (optB (binA .add x7 (.int .i64 1)) fun v86 => B34 x1 x3 x5 v86 h)) (p5_57 call n x1 x3 x5 h K)
def l5_34 (call : CallFn) (n : Nat) : Nat → AV → AV → AV → AV → AHeap → Kont → Bool
  | 0 => fun _ _ _ _ _ _ => false
  | m + 1 => fun x1 x3 x5 x7 h K => b5_34 call n (fun x1 x3 x5 x7 h => l5_34 call n m x1 x3 x5 x7 h K) x1 x3 x5 x7 h K
def p5_30 (call : CallFn) (n : Nat) (x1 x3 x5 : AV) (h : AHeap) (K : Kont) : Bool :=
  l5_34 call n n x1 x3 x5 (.int .i64 0) h K
def p5_20 (call : CallFn) (n : Nat) (x1 x3 : AV) (h : AHeap) (K : Kont) : Bool :=
  optB (fadrA 1 x1) fun v16 => optB (loadA h false 1 v16) fun v17 => call (.func 9) [x3, v17] h fun v18 h => optB (extA 0 v18) fun v19 => optB (extA 1 v18) fun v20 => optB (binA .neq v20 (.int .i64 0)) fun v21 => optB (grdO (wantV v21 false) (some v19)) fun v22 => optB (grdO (wantV v21 false) (eqV h false .ptr v22 .nilPtr)) fun v23 => optB (pickV v21 (.bool true) v23) fun v24 => condB v24 (call (.func 7) [] h fun v25 h => K v25 h) (p5_30 call n x1 x3 v19 h K)
def p5_10 (call : CallFn) (n : Nat) (x1 : AV) (h : AHeap) (K : Kont) : Bool :=
  optB (fadrA 0 x1) fun v6 => optB (loadA h false 1 v6) fun v7 => call (.func 8) [v7] h fun v8 h => optB (extA 0 v8) fun v9 => optB (extA 1 v8) fun v10 => optB (binA .neq v10 (.int .i64 0)) fun v11 => optB (grdO (wantV v11 false) (some v9)) fun v12 => optB (grdO (wantV v11 false) (eqV h false .ptr v12 .nilPtr)) fun v13 => optB (pickV v11 (.bool true) v13) fun v14 => condB v14 (call (.func 7) [] h fun v15 h => K v15 h) (p5_20 call n x1 v9 h K)
def s5 (call : CallFn) (n : Nat) (x0 : AV) (h : AHeap) (K : Kont) : Bool :=
  optP (boxA h 5 x0) fun v1 h => optB (loadA h true 5 v1) fun v2 => call (.func 6) [v2] h fun v3 h => optB (notA v3) fun v4 => condB v4 (call (.func 7) [] h fun v5 h => K v5 h) (p5_10 call n v1 h K)
def p6_46 (call : CallFn) (n : Nat) (B23 : F3) (x1 x3 x5 : AV) (h : AHeap) (K : Kont) : Bool :=
  optB (binA .add x5 (.int .i64 1)) fun v42 => B23 x1 x3 v42 h
def b6_35 (call : CallFn) (n : Nat) (B23 : F3) (B35 : F4) (x1 x3 x5 x6 : AV) (h : AHeap) (K : Kont) : Bool :=
  optB (fadrA 2 x1) fun v22 => optB (loadA h false 1 v22) fun v23 => optB (iadrA h 5 v23 x5) fun v24 => optB (fadrA 2 v24) fun v25 => optB (loadA h false 1 v25) fun v26 => optB (lenA h 1 v26) fun v27 => optB (binA .lss x6 v27) fun v28 => condB v28 (optB (binA .add x3 (.int .i64 1)) fun v29 => optB (fadrA 2 x1) fun v30 => optB (loadA h false 1 v30) fun v31 => optB (iadrA h 5 v31 x5) fun v32 => optB (fadrA 2 v32) fun v33 => optB (loadA h false 1 v33) fun v34 => optB (iadrA h 6 v34 x6) fun v35 => optB (fadrA 1 v35) fun v36 => optB (loadA h true 5 v36) fun v37 => optP (bsliceV h 1 5 [.int .i64 0, .bool false, .int .i64 0, .str [], .nilSlc] [(0, v37)]) fun v38 h => call (.func 24) [v38] h fun v39 h => optB (binA .add v29 v39) fun v40 => optB (binA .add x6 (.int .i64 1)) fun v41 => B35 x1 v40 x5 v41 h) (p6_46 call n B23 x1 x3 x5 h K)
def l6_35 (call : CallFn) (n : Nat) (B23 : F3) : Nat → AV → AV → AV → AV → AHeap → Kont → Bool
  | 0 => fun _ _ _ _ _ _ => false
  | m + 1 => fun x1 x3 x5 x6 h K => b6_35 call n B23 (fun x1 x3 x5 x6 h => l6_35 call n B23 m x1 x3 x5 x6 h K) x1 x3 x5 x6 h K
def p6_30 (call : CallFn) (n : Nat) (B23 : F3) (x1 x3 x5 : AV) (h : AHeap) (K : Kont) : Bool :=
  l6_35 call n B23 n x1 x3 x5 (.int .i64 0) h K
def p6_47 (call : CallFn) (n : Nat) (x3 : AV) (h : AHeap) (K : Kont) : Bool :=
  optB (binA .leq x3 (.int .i64 2000)) fun v43 => K v43 h
def b6_23 (call : CallFn) (n : Nat) (B23 : F3) (x1 x3 x5 : AV) (h : AHeap) (K : Kont) : Bool :=
  optB (fadrA 2 x1) fun v15 => optB (loadA h false 1 v15) fun v16 => optB (lenA h 1 v16) fun v17 => optB (binA .lss x5 v17) fun v18 => optB (grdO (wantV v18 true) (some x5)) fun v19 => optB (grdO (wantV v18 true) (binA .lss v19 (.int .i64 100))) fun v20 => optB (pickV v18 v20 (.bool false)) fun v21 => condB v21 (p6_30 call n B23 x1 x3 x5 h K) (p6_47 call n x3 h K)
def l6_23 (call : CallFn) (n : Nat) : Nat → AV → AV → AV → AHeap → Kont → Bool
  | 0 => fun _ _ _ _ _ => false
  | m + 1 => fun x1 x3 x5 h K => b6_23 call n (fun x1 x3 x5 h => l6_23 call n m x1 x3 x5 h K) x1 x3 x5 h K
def p6_19 (call : CallFn) (n : Nat) (x1 x3 : AV) (h : AHeap) (K : Kont) : Bool :=
  l6_23 call n n x1 x3 (.int .i64 0) h K
def b6_8 (call : CallFn) (n : Nat) (B8 : F3) (x1 x3 x4 : AV) (h : AHeap) (K : Kont) : Bool :=
  optB (fadrA 0 x1) fun v2 => optB (loadA h false 1 v2) fun v3 => optB (lenA h 1 v3) fun v4 => optB (binA .lss x4 v4) fun v5 => condB v5 (optB (binA .add x3 (.int .i64 1)) fun v6 => optB (fadrA 0 x1) fun v7 => optB (loadA h false 1 v7) fun v8 => optB (iadrA h 3 v8 x4) fun v9 => optB (fadrA 2 v9) fun v10 => optB (loadA h false 1 v10) fun v11 => optB (lenA h 1 v11) fun v12 => optB (binA .add v6 v12) fun v13 => optB (binA .add x4 (.int .i64 1)) fun v14 => B8 x1 v13 v14 h) (p6_19 call n x1 x3 h K)
def l6_8 (call : CallFn) (n : Nat) : Nat → AV → AV → AV → AHeap → Kont → Bool
  | 0 => fun _ _ _ _ _ => false
  | m + 1 => fun x1 x3 x4 h K => b6_8 call n (fun x1 x3 x4 h => l6_8 call n m x1 x3 x4 h K) x1 x3 x4 h K
def s6 (call : CallFn) (n : Nat) (x0 : AV) (h : AHeap) (K : Kont) : Bool :=
  optP (boxA h 5 x0) fun v1 h => l6_8 call n n v1 (.int .i64 0) (.int .i64 0) h K
set_option maxRecDepth 100000 in
def b8_16 (call : CallFn) (n : Nat) (B16 : F5) (x0 x4 x13 x14 x15 : AV) (h : AHeap) (K : Kont) : Bool :=
  optB (binA .lss x15 x14) fun v7 => condB v7 (optB (iadrA h 3 x13 x15) fun v8 => optB (loadA h true 3 v8) fun v9 => optP (allocV h [.str [], .str [], .nilSlc]) fun v10 h => optP (unit (storeA h 3 v10 v9)) fun _ h => optB (fadrA 2 v10) fun v12 => optB (loadA h false 1 v12) fun v13 => optB (lenA h 1 v13) fun v14 => optB (binA .gtr v14 (.int .i64 62)) fun v15 => optB (grdO (wantV v15 false) (some x4)) fun v16 => optB (grdO (wantV v15 false) (loadA h true 3 v10)) fun v17 => optB (grdO (wantV v15 false) (some x0)) fun v18 => grdC (wantV v15 false) (fun k => call (.func 25) [v16, v17, v18] h k) h fun v19 h => optB (grdO (wantV v15 false) (notA v19)) fun v20 => optB (pickV v15 (.bool true) v20) fun v21 => condB v21 (K (.tup [.nilPtr, (.int .i64 10)]) h) (optB (nilckA x4) fun v22 => optB (fadrA 1 v22) fun v23 => optB (loadA h false 1 v23) fun v24 => optB (fadrA 0 v10) fun v25 => optB (loadA h false 1 v25) fun v26 => optB (nilckA x4) fun v27 => optB (fadrA 0 v27) fun v28 => optB (loadA h false 1 v28) fun v29 => optB (lenA h 1 v29) fun v30 => optP (unit (mupdA h (.leaf .str) v24 v26 v30)) fun _ h => optB (fadrA 2 v10) fun v32 => optB (loadA h false 1 v32) fun v33 => call (.func 26) [v33] h fun v34 h => optB (fadrA 2 v10) fun v35 => optP (unit (storeA h 1 v35 v34)) fun _ h => optB (nilckA x4) fun v37 => optB (fadrA 0 v37) fun v38 => optB (loadA h false 1 v38) fun v39 => optB (loadA h true 3 v10) fun v40 => optP (bsliceV h 1 3 [.str [], .str [], .nilSlc] [(0, v40)]) fun v41 h => sameB (loadA h false 1 v38) v39 <| optP (appendA h 3 56 v39 v41) fun v42 h => optB (nilckA x4) fun v43 => optB (fadrA 0 v43) fun v44 => optP (unit (storeA h 1 v44 v42)) fun _ h => optB (binA .add x15 (.int .i64 1)) fun v46 => B16 x0 x4 x13 x14 v46 h)) (K (.tup [x4, (.int .i64 0)]) h)
def l8_16 (call : CallFn) (n : Nat) : Nat → AV → AV → AV → AV → AV → AHeap → Kont → Bool
  | 0 => fun _ _ _ _ _ _ _ => false
  | m + 1 => fun x0 x4 x13 x14 x15 h K => b8_16 call n (fun x0 x4 x13 x14 x15 h => l8_16 call n m x0 x4 x13 x14 x15 h K) x0 x4 x13 x14 x15 h K
def p8_12 (call : CallFn) (n : Nat) (x0 x4 : AV) (h : AHeap) (K : Kont) : Bool :=
  optB (lenA h 1 x0) fun v6 => l8_16 call n n x0 x4 x0 v6 (.int .i64 0) h K
def s8 (call : CallFn) (n : Nat) (x0 : AV) (h : AHeap) (K : Kont) : Bool :=
  optP (mkmapV h) fun v1 h => optB (buildV [.nilSlc, .nilMap] [(1, 1, v1)]) fun v2 => optP (boxA h 2 v2) fun v3 h => optB (lenA h 1 x0) fun v4 => optB (binA .gtr v4 (.int .i64 64)) fun v5 => condB v5 (K (.tup [.nilPtr, (.int .i64 10)]) h) (p8_12 call n x0 v3 h K)
def s9 (call : CallFn) (n : Nat) (x0 x1 : AV) (h : AHeap) (K : Kont) : Bool :=
  optB (eqV h false .ptr x0 .nilPtr) fun v1 => optB (grdO (wantV v1 false) (some x1)) fun v2 => optB (grdO (wantV v1 false) (binA .lss v2 (.int .i64 1))) fun v3 => optB (pickV v1 (.bool true) v3) fun v4 => optB (grdO (wantV v4 false) (some x1)) fun v5 => optB (grdO (wantV v4 false) (binA .gtr v5 (.int .i64 65536))) fun v6 => optB (pickV v4 (.bool true) v6) fun v7 => condB v7 (K (.tup [.nilPtr, (.int .i64 1)]) h) (optP (mkmapV h) fun v8 h => call (.func 27) [] h fun v9 h => optP (mkmapV h) fun v10 h => optP (mkmapV h) fun v11 h => optB (buildV [.nilPtr, .int .i64 0, .int .i64 0, .int .i64 0, .nilMap, .nilPtr, .nilMap, .nilMap] [(0, 1, x0), (1, 1, x1), (4, 1, v8), (5, 1, v9), (6, 1, v10), (7, 1, v11)]) fun v12 => optP (boxA h 8 v12) fun v13 h => K (.tup [v13, (.int .i64 0)]) h)
def p10_62 (call : CallFn) (n : Nat) (x0 x1 x12 : AV) (h : AHeap) (K : Kont) : Bool :=
  optB (nilckA x0) fun v91 => optB (fadrA 6 v91) fun v92 => optB (loadA h false 1 v92) fun v93 => optB (lookA h (.leaf .str) false .nilPtr v93 x1) fun v94 => optB (nilckA x12) fun v95 => optB (fadrA 0 v95) fun v96 => optB (loadA h false 1 v96) fun v97 => call (.func 29) [v94, v97] h fun v98 h => call (.func 30) [x0, x12] h fun v99 h => optB (nilckA x12) fun v100 => optB (fadrA 0 v100) fun v101 => optB (loadA h false 1 v101) fun v102 => K (.tup [v102, (.int .i64 0)]) h
def p10_52 (call : CallFn) (n : Nat) (x0 x1 x12 : AV) (h : AHeap) (K : Kont) : Bool :=
  optB (nilckA x0) fun v67 => optB (fadrA 4 v67) fun v68 => optB (loadA h false 1 v68) fun v69 => optB (nilckA x12) fun v70 => optB (fadrA 0 v70) fun v71 => optB (loadA h false 1 v71) fun v72 => optP (unit (mupdA h (.leaf .int) v69 v72 x12)) fun _ h => optB (nilckA x0) fun v74 => optB (fadrA 5 v74) fun v75 => optB (loadA h false 1 v75) fun v76 => optB (nilckA x12) fun v77 => optB (fadrA 0 v77) fun v78 => optB (loadA h false 1 v78) fun v79 => call (.func 29) [v76, v79] h fun v80 h => optB (nilckA x0) fun v81 => optB (fadrA 6 v81) fun v82 => optB (loadA h false 1 v82) fun v83 => optB (lookA h (.leaf .str) false .nilPtr v83 x1) fun v84 => optB (eqV h false .ptr v84 .nilPtr) fun v85 => condB v85 (optB (nilckA x0) fun v86 => optB (fadrA 6 v86) fun v87 => optB (loadA h false 1 v87) fun v88 => call (.func 27) [] h fun v89 h => sameB (loadA h false 1 v87) v88 <| optP (unit (mupdA h (.leaf .str) v88 x1 v89)) fun _ h => p10_62 call n x0 x1 x12 h K) (p10_62 call n x0 x1 x12 h K)
def b10_39 (call : CallFn) (n : Nat) (B39 : F5) (x0 x1 x12 x88 x89 : AV) (h : AHeap) (K : Kont) : Bool :=
  optB (binA .lss x89 x88) fun v57 => condB v57 (optB (nilckA x12) fun v58 => optB (fadrA 5 v58) fun v59 => optB (loadA h false 1 v59) fun v60 => optB (nilckA x0) fun v61 => optB (fadrA 3 v61) fun v62 => optB (loadA h false 1 v62) fun v63 => optB (iadrA h 1 v60 x89) fun v64 => optP (unit (storeA h 1 v64 v63)) fun _ h => optB (binA .add x89 (.int .i64 1)) fun v66 => B39 x0 x1 x12 x88 v66 h) (p10_52 call n x0 x1 x12 h K)
def l10_39 (call : CallFn) (n : Nat) : Nat → AV → AV → AV → AV → AV → AHeap → Kont → Bool
  | 0 => fun _ _ _ _ _ _ _ => false
  | m + 1 => fun x0 x1 x12 x88 x89 h K => b10_39 call n (fun x0 x1 x12 x88 x89 h => l10_39 call n m x0 x1 x12 x88 x89 h K) x0 x1 x12 x88 x89 h K
def p10_29 (call : CallFn) (n : Nat) (x0 x1 x12 : AV) (h : AHeap) (K : Kont) : Bool :=
  optB (nilckA x0) fun v27 => optB (fadrA 3 v27) fun v28 => optB (loadA h false 1 v28) fun v29 => optB (binA .add v29 (.int .i64 1)) fun v30 => optB (nilckA x0) fun v31 => optB (fadrA 3 v31) fun v32 => optP (unit (storeA h 1 v32 v30)) fun _ h => optB (nilckA x0) fun v34 => optB (fadrA 2 v34) fun v35 => optB (loadA h false 1 v35) fun v36 => optB (binA .add v36 (.int .i64 1)) fun v37 => optB (nilckA x0) fun v38 => optB (fadrA 2 v38) fun v39 => optP (unit (storeA h 1 v39 v37)) fun _ h => optB (nilckA x0) fun v41 => optB (fadrA 2 v41) fun v42 => optB (loadA h false 1 v42) fun v43 => optB (nilckA x0) fun v44 => optB (fadrA 3 v44) fun v45 => optB (loadA h false 1 v45) fun v46 => optB (nilckA x12) fun v47 => optB (fadrA 0 v47) fun v48 => optP (unit (storeA h 1 v48 v43)) fun _ h => optB (nilckA x12) fun v50 => optB (fadrA 4 v50) fun v51 => optP (unit (storeA h 1 v51 v46)) fun _ h => optB (nilckA x12) fun v53 => optB (fadrA 5 v53) fun v54 => optB (loadA h false 1 v54) fun v55 => optB (lenA h 1 v55) fun v56 => l10_39 call n n x0 x1 x12 v56 (.int .i64 0) h K
def p10_12 (call : CallFn) (n : Nat) (x0 x1 x2 x3 x10 : AV) (h : AHeap) (K : Kont) : Bool :=
  optB (lenA h 1 x10) fun v8 => optB (lenA h 1 x10) fun v9 => optP (mkslA h 5 64 [.int .i64 0, .bool false, .int .i64 0, .str [], .nilSlc] v8 v8) fun v10 h => sameB (lenA h 1 x10) v8 <| sameB (lenA h 1 x10) v9 <| optP (mkslA h 1 8 [.int .i64 0] v9 v9) fun v11 h => sameB (lenA h 1 x10) v8 <| sameB (lenA h 1 x10) v9 <| optB (buildV [.int .i64 0, .str [], .nilSlc, .bool false, .int .i64 0, .nilSlc] [(1, 1, x1), (3, 1, x3), (2, 1, v10), (5, 1, v11)]) fun v12 => optP (boxA h 6 v12) fun v13 h => sameB (lenA h 1 x10) v8 <| sameB (lenA h 1 x10) v9 <| optB (nilckA v13) fun v14 => optB (fadrA 2 v14) fun v15 => optB (loadA h false 1 v15) fun v16 => call (.func 28) [x0, x1, x2, v16] h fun v17 h => optB (notA v17) fun v18 => condB v18 (K (.tup [(.int .i64 0), (.int .i64 11)]) h) (optB (nilckA x0) fun v19 => optB (fadrA 4 v19) fun v20 => optB (loadA h false 1 v20) fun v21 => optB (lenA h 2 v21) fun v22 => optB (nilckA x0) fun v23 => optB (fadrA 1 v23) fun v24 => optB (loadA h false 1 v24) fun v25 => optB (binA .geq v22 v25) fun v26 => condB v26 (K (.tup [(.int .i64 0), (.int .i64 12)]) h) (p10_29 call n x0 x1 v13 h K))
def s10 (call : CallFn) (n : Nat) (x0 x1 x2 x3 : AV) (h : AHeap) (K : Kont) : Bool :=
  optB (nilckA x0) fun v1 => optB (fadrA 0 v1) fun v2 => optB (loadA h false 1 v2) fun v3 => call (.func 20) [v3, x1] h fun v4 h => optB (extA 0 v4) fun v5 => optB (extA 1 v4) fun v6 => optB (binA .neq v6 (.int .i64 0)) fun v7 => condB v7 (K (.tup [(.int .i64 0), (.int .i64 10)]) h) (p10_12 call n x0 x1 x2 x3 v5 h K)
def b14_8 (call : CallFn) (n : Nat) (B8 : F5) (x0 x3 x12 x13 x14 : AV) (h : AHeap) (K : Kont) : Bool :=
  optB (binA .lss x14 x13) fun v8 => condB v8 (optB (iadrA h 1 x12 x14) fun v9 => optB (loadA h false 1 v9) fun v10 => optB (nilckA x0) fun v11 => optB (fadrA 4 v11) fun v12 => optB (loadA h false 1 v12) fun v13 => optB (lookA h (.leaf .int) false .nilPtr v13 v10) fun v14 => call (.func 36) [v14] h fun v15 h => optP (bsliceV h 1 6 [.int .i64 0, .str [], .nilSlc, .bool false, .int .i64 0, .nilSlc] [(0, v15)]) fun v16 h => optP (appendA h 6 88 x3 v16) fun v17 h => optB (binA .add x14 (.int .i64 1)) fun v18 => B8 x0 v17 x12 x13 v18 h) (K x3 h)
def l14_8 (call : CallFn) (n : Nat) : Nat → AV → AV → AV → AV → AV → AHeap → Kont → Bool
  | 0 => fun _ _ _ _ _ _ _ => false
  | m + 1 => fun x0 x3 x12 x13 x14 h K => b14_8 call n (fun x0 x3 x12 x13 x14 h => l14_8 call n m x0 x3 x12 x13 x14 h K) x0 x3 x12 x13 x14 h K
def s14 (call : CallFn) (n : Nat) (x0 : AV) (h : AHeap) (K : Kont) : Bool :=
  optB (nilckA x0) fun v1 => optB (fadrA 5 v1) fun v2 => optB (loadA h false 1 v2) fun v3 => optB (nilckA v3) fun v4 => optB (fadrA 0 v4) fun v5 => optB (loadA h false 1 v5) fun v6 => optB (lenA h 1 v6) fun v7 => l14_8 call n n x0 .nilSlc v6 v7 (.int .i64 0) h K
def s15 (call : CallFn) (n : Nat) (x0 : AV) (h : AHeap) (K : Kont) : Bool :=
  optB (nilckA x0) fun v1 => optB (fadrA 3 v1) fun v2 => optB (loadA h false 1 v2) fun v3 => K v3 h
def s16 (call : CallFn) (n : Nat) (x0 : AV) (h : AHeap) (K : Kont) : Bool :=
  optB (nilckA x0) fun v1 => optB (fadrA 4 v1) fun v2 => optB (loadA h false 1 v2) fun v3 => optB (lenA h 2 v3) fun v4 => K v4 h
def p22_36 (call : CallFn) (n : Nat) (B18 : F5) (x0 x7 x22 x23 x24 : AV) (h : AHeap) (K : Kont) : Bool :=
  optB (binA .add x24 (.int .i64 1)) fun v21 => B18 x0 x7 x22 x23 v21 h
def p22_37 (call : CallFn) (n : Nat) (x7 : AV) (h : AHeap) (K : Kont) : Bool :=
  call (.func 47) [x7] h fun v22 h => K x7 h
def b22_18 (call : CallFn) (n : Nat) (B18 : F5) (x0 x7 x22 x23 x24 : AV) (h : AHeap) (K : Kont) : Bool :=
  optB (binA .lss x24 x23) fun v9 => condB v9 (optB (iadrA h 1 x22 x24) fun v10 => optB (loadA h false 1 v10) fun v11 => optB (nilckA x0) fun v12 => optB (fadrA 6 v12) fun v13 => optB (loadA h false 1 v13) fun v14 => optB (lookA h (.leaf .str) false .nilPtr v14 v11) fun v15 => optB (eqV h true .ptr v15 .nilPtr) fun v16 => condB v16 (optB (nilckA v15) fun v17 => optB (fadrA 0 v17) fun v18 => optB (loadA h false 1 v18) fun v19 => optP (appendA h 1 8 x7 v19) fun v20 h => p22_36 call n B18 x0 v20 x22 x23 x24 h K) (p22_36 call n B18 x0 x7 x22 x23 x24 h K)) (p22_37 call n x7 h K)
def l22_18 (call : CallFn) (n : Nat) : Nat → AV → AV → AV → AV → AV → AHeap → Kont → Bool
  | 0 => fun _ _ _ _ _ _ _ => false
  | m + 1 => fun x0 x7 x22 x23 x24 h K => b22_18 call n (fun x0 x7 x22 x23 x24 h => l22_18 call n m x0 x7 x22 x23 x24 h K) x0 x7 x22 x23 x24 h K
def p22_12 (call : CallFn) (n : Nat) (x0 x5 : AV) (h : AHeap) (K : Kont) : Bool :=
  optB (lenA h 1 x5) fun v8 => l22_18 call n n x0 .nilSlc x5 v8 (.int .i64 0) h K
def s22 (call : CallFn) (n : Nat) (x0 x1 : AV) (h : AHeap) (K : Kont) : Bool :=
  optB (nilckA x0) fun v1 => optB (fadrA 0 v1) fun v2 => optB (loadA h false 1 v2) fun v3 => call (.func 46) [v3, x1] h fun v4 h => optB (extA 0 v4) fun v5 => optB (extA 1 v4) fun v6 => optB (binA .neq v6 (.int .i64 0)) fun v7 => condB v7 (K .nilSlc h) (p22_12 call n x0 v5 h K)
def s24 (call : CallFn) (n : Nat) (x0 : AV) (h : AHeap) (K : Kont) : Bool :=
  call (.func 48) [x0, (.int .i64 0)] h fun v1 h => K v1 h
def s26 (call : CallFn) (n : Nat) (x0 : AV) (h : AHeap) (K : Kont) : Bool :=
  optB (eqV h false .slc x0 .nilSlc) fun v1 => condB v1 (K .nilSlc h) (optP (bsliceV h 0 3 [.str [], .int .i64 0, .str []] []) fun v2 h => optP (appendA h 3 40 v2 x0) fun v3 h => K v3 h)
def s27 (call : CallFn) (n : Nat) (h : AHeap) (K : Kont) : Bool :=
  optB (buildV [.nilSlc, .nilFn] [(1, 1, (.fn (.func 52) [] []))]) fun v1 => optP (boxA h 2 v1) fun v2 h => K v2 h
set_option maxRecDepth 100000 in
def b28_18 (call : CallFn) (n : Nat) (B18 : F7) (x0 x3 x9 x11 x33 x34 x35 : AV) (h : AHeap) (K : Kont) : Bool :=
  optB (binA .lss x35 x34) fun v15 => condB v15 (optB (iadrA h 6 x33 x35) fun v16 => optB (loadA h true 6 v16) fun v17 => optP (allocV h [.str [], .int .i64 0, .bool false, .int .i64 0, .str [], .nilSlc]) fun v18 h => optP (unit (storeA h 6 v18 v17)) fun _ h => optB (some (.fn (.func 54) [] [v18])) fun v20 => call (.func 53) [x9, v20] h fun v21 h => optB (binA .lss v21 (.int .i64 0)) fun v22 => optB (grdO (wantV v22 false) (some x11)) fun v23 => optB (grdO (wantV v22 false) (some v21)) fun v24 => optB (grdO (wantV v22 false) (binA .shr v23 v24)) fun v25 => optB (grdO (wantV v22 false) (binA .and v25 (.int .u64 1))) fun v26 => optB (grdO (wantV v22 false) (binA .eql v26 (.int .u64 1))) fun v27 => optB (pickV v22 (.bool true) v27) fun v28 => optB (grdO (wantV v28 false) (some x0)) fun v29 => optB (grdO (wantV v28 false) (nilckA v29)) fun v30 => optB (grdO (wantV v28 false) (fadrA 0 v30)) fun v31 => optB (grdO (wantV v28 false) (loadA h false 1 v31)) fun v32 => optB (grdO (wantV v28 false) (some x9)) fun v33 => optB (grdO (wantV v28 false) (some v21)) fun v34 => optB (grdO (wantV v28 false) (iadrA h 3 v33 v34)) fun v35 => optB (grdO (wantV v28 false) (loadA h true 3 v35)) fun v36 => optB (grdO (wantV v28 false) (fadrA 1 v18)) fun v37 => optB (grdO (wantV v28 false) (loadA h true 5 v37)) fun v38 => optB (grdO (wantV v28 false) (some x0)) fun v39 => optB (grdO (wantV v28 false) (some (.fn (.func 56) [v39] []))) fun v40 => grdC (wantV v28 false) (fun k => call (.func 55) [v32, v36, v38, v40] h k) h fun v41 h => optB (grdO (wantV v28 false) (notA v41)) fun v42 => optB (pickV v28 (.bool true) v42) fun v43 => condB v43 (K (.bool false) h) (optB (binA .shl (.int .u64 1) v21) fun v44 => optB (binA .or x11 v44) fun v45 => optB (fadrA 1 v18) fun v46 => optB (loadA h true 5 v46) fun v47 => call (.func 57) [v47] h fun v48 h => optB (iadrA h 5 x3 v21) fun v49 => optP (unit (storeA h 5 v49 v48)) fun _ h => optB (binA .add x35 (.int .i64 1)) fun v51 => B18 x0 x3 x9 v45 x33 x34 v51 h)) (K (.bool true) h)
def l28_18 (call : CallFn) (n : Nat) : Nat → AV → AV → AV → AV → AV → AV → AV → AHeap → Kont → Bool
  | 0 => fun _ _ _ _ _ _ _ _ _ => false
  | m + 1 => fun x0 x3 x9 x11 x33 x34 x35 h K => b28_18 call n (fun x0 x3 x9 x11 x33 x34 x35 h => l28_18 call n m x0 x3 x9 x11 x33 x34 x35 h K) x0 x3 x9 x11 x33 x34 x35 h K
def p28_12 (call : CallFn) (n : Nat) (x0 x2 x3 x9 : AV) (h : AHeap) (K : Kont) : Bool :=
  optB (lenA h 1 x2) fun v14 => l28_18 call n n x0 x3 x9 (.int .u64 0) x2 v14 (.int .i64 0) h K
def s28 (call : CallFn) (n : Nat) (x0 x1 x2 x3 : AV) (h : AHeap) (K : Kont) : Bool :=
  optB (nilckA x0) fun v1 => optB (fadrA 0 v1) fun v2 => optB (loadA h false 1 v2) fun v3 => call (.func 20) [v3, x1] h fun v4 h => optB (extA 0 v4) fun v5 => optB (extA 1 v4) fun v6 => optB (binA .neq v6 (.int .i64 0)) fun v7 => optB (grdO (wantV v7 false) (some x2)) fun v8 => optB (grdO (wantV v7 false) (lenA h 1 v8)) fun v9 => optB (grdO (wantV v7 false) (some v5)) fun v10 => optB (grdO (wantV v7 false) (lenA h 1 v10)) fun v11 => optB (grdO (wantV v7 false) (binA .gtr v9 v11)) fun v12 => optB (pickV v7 (.bool true) v12) fun v13 => condB v13 (K (.bool false) h) (p28_12 call n x0 x2 x3 v5 h K)
def s29 (call : CallFn) (n : Nat) (x0 x1 : AV) (h : AHeap) (K : Kont) : Bool :=
  optB (nilckA x0) fun v1 => optB (fadrA 0 v1) fun v2 => optB (loadA h false 1 v2) fun v3 => optB (nilckA x0) fun v4 => optB (fadrA 1 v4) fun v5 => optB (loadA h false 1 v5) fun v6 => call (.func 58) [v3, x1, v6] h fun v7 h => optB (extA 0 v7) fun v8 => optB (extA 1 v7) fun v9 => optB (nilckA x0) fun v10 => optB (fadrA 0 v10) fun v11 => optB (loadA h false 1 v11) fun v12 => optP (bsliceV h 1 1 [.int .i64 0] [(0, x1)]) fun v13 h => call (.func 59) [v12, v8, v13] h fun v14 h => optB (nilckA x0) fun v15 => optB (fadrA 0 v15) fun v16 => optP (unit (storeA h 1 v16 v14)) fun _ h => K (.tup []) h
def p30_8 (call : CallFn) (n : Nat) (x0 x1 x4 : AV) (h : AHeap) (K : Kont) : Bool :=
  optB (nilckA x0) fun v22 => optB (fadrA 7 v22) fun v23 => optB (loadA h false 1 v23) fun v24 => optB (loadA h true 2 x4) fun v25 => optB (lookA h (.st [.str, .str]) false .nilPtr v24 v25) fun v26 => optB (nilckA x1) fun v27 => optB (fadrA 0 v27) fun v28 => optB (loadA h false 1 v28) fun v29 => call (.func 29) [v26, v29] h fun v30 h => K (.tup []) h
def s30 (call : CallFn) (n : Nat) (x0 x1 : AV) (h : AHeap) (K : Kont) : Bool :=
  optB (nilckA x1) fun v1 => optB (fadrA 1 v1) fun v2 => optB (loadA h false 1 v2) fun v3 => optB (nilckA x1) fun v4 => optB (fadrA 2 v4) fun v5 => optB (loadA h false 1 v5) fun v6 => optP (allocV h [.str [], .str []]) fun v7 h => sameB (loadA h false 1 v2) v3 <| sameB (loadA h false 1 v5) v6 <| call (.func 40) [v3, v6] h fun v8 h => optP (unit (storeA h 2 v7 v8)) fun _ h => optB (nilckA x0) fun v10 => optB (fadrA 7 v10) fun v11 => optB (loadA h false 1 v11) fun v12 => optB (loadA h true 2 v7) fun v13 => optB (lookA h (.st [.str, .str]) false .nilPtr v12 v13) fun v14 => optB (eqV h false .ptr v14 .nilPtr) fun v15 => condB v15 (optB (nilckA x0) fun v16 => optB (fadrA 7 v16) fun v17 => optB (loadA h false 1 v17) fun v18 => optB (loadA h true 2 v7) fun v19 => call (.func 27) [] h fun v20 h => sameB (loadA h false 1 v17) v18 <| sameB (loadA h true 2 v7) v19 <| optP (unit (mupdA h (.st [.str, .str]) v18 v19 v20)) fun _ h => p30_8 call n x0 x1 v7 h K) (p30_8 call n x0 x1 v7 h K)
def s36 (call : CallFn) (n : Nat) (x0 : AV) (h : AHeap) (K : Kont) : Bool :=
  optP (allocV h [.int .i64 0, .str [], .nilSlc, .bool false, .int .i64 0, .nilSlc]) fun v1 h => optB (nilckA x0) fun v2 => optB (loadA h true 6 v2) fun v3 => optP (allocV h [.int .i64 0, .str [], .nilSlc, .bool false, .int .i64 0, .nilSlc]) fun v4 h => optP (unit (storeA h 6 v4 v3)) fun _ h => optB (nilckA x0) fun v6 => optB (fadrA 2 v6) fun v7 => optB (loadA h false 1 v7) fun v8 => optB (nilckA x0) fun v9 => optB (fadrA 5 v9) fun v10 => optB (loadA h false 1 v10) fun v11 => call (.func 62) [v8] h fun v12 h => sameB (loadA h false 1 v10) v11 <| call (.func 41) [v11] h fun v13 h => optB (fadrA 2 v4) fun v14 => optP (unit (storeA h 1 v14 v12)) fun _ h => optB (fadrA 5 v4) fun v16 => optP (unit (storeA h 1 v16 v13)) fun _ h => optB (loadA h true 6 v4) fun v18 => optP (unit (storeA h 6 v1 v18)) fun _ h => optR (resV h [(v1, some (true, 6))]) h K
def s39 (call : CallFn) (n : Nat) (x0 : AV) (h : AHeap) (K : Kont) : Bool :=
  optP (boxA h 5 x0) fun v1 h => optB (loadA h true 5 v1) fun v2 => call (.func 64) [v2, (.int .i64 0)] h fun v3 h => K v3 h
def p40_23 (call : CallFn) (n : Nat) (x0 x4 x5 : AV) (h : AHeap) (K : Kont) : Bool :=
  optB (b2sA h x5) fun v14 => optB (buildV [.str [], .str []] [(0, 1, x0), (1, 1, v14)]) fun v15 => optP (unit (storeA h 2 x4 v15)) fun _ h => optR (resV h [(x4, some (true, 2))]) h K
def b40_8 (call : CallFn) (n : Nat) (B8 : F6) (x0 x4 x5 x10 x11 x12 : AV) (h : AHeap) (K : Kont) : Bool :=
  optB (binA .lss x12 x11) fun v3 => condB v3 (optB (iadrA h 5 x10 x12) fun v4 => optB (loadA h true 5 v4) fun v5 => optP (allocV h [.int .i64 0, .bool false, .int .i64 0, .str [], .nilSlc]) fun v6 h => optP (unit (storeA h 5 v6 v5)) fun _ h => optB (loadA h true 5 v6) fun v8 => call (.func 65) [v8] h fun v9 h => optB (extA 0 v9) fun v10 => optB (extA 1 v9) fun v11 => optP (appbA h 5 x5 v10) fun v12 h => optB (binA .add x12 (.int .i64 1)) fun v13 => B8 x0 x4 v12 x10 x11 v13 h) (p40_23 call n x0 x4 x5 h K)
def l40_8 (call : CallFn) (n : Nat) : Nat → AV → AV → AV → AV → AV → AV → AHeap → Kont → Bool
  | 0 => fun _ _ _ _ _ _ _ _ => false
  | m + 1 => fun x0 x4 x5 x10 x11 x12 h K => b40_8 call n (fun x0 x4 x5 x10 x11 x12 h => l40_8 call n m x0 x4 x5 x10 x11 x12 h K) x0 x4 x5 x10 x11 x12 h K
def s40 (call : CallFn) (n : Nat) (x0 x1 : AV) (h : AHeap) (K : Kont) : Bool :=
  optP (allocV h [.str [], .str []]) fun v1 h => optB (lenA h 1 x1) fun v2 => l40_8 call n n x0 v1 .nilSlc x1 v2 (.int .i64 0) h K
def s41 (call : CallFn) (n : Nat) (x0 : AV) (h : AHeap) (K : Kont) : Bool :=
  optB (eqV h false .slc x0 .nilSlc) fun v1 => condB v1 (K .nilSlc h) (optP (bsliceV h 0 1 [.int .i64 0] []) fun v2 h => optP (appendA h 1 8 v2 x0) fun v3 h => K v3 h)
def s42 (call : CallFn) (n : Nat) (x0 x1 : AV) (h : AHeap) (K : Kont) : Bool :=
  optB (nilckA x0) fun v1 => optB (fadrA 1 v1) fun v2 => optB (loadA h false 1 v2) fun v3 => optB (lookA h (.leaf .str) true (.int .i64 0) v3 x1) fun v4 => optB (extA 0 v4) fun v5 => optB (extA 1 v4) fun v6 => K v6 h
def b44_33 (call : CallFn) (n : Nat) (B33 : F4) (x6 x25 x26 x27 : AV) (h : AHeap) (K : Kont) : Bool :=
  optB (binA .lss x27 x26) fun v11 => condB v11 (optB (iadrA h 1 x25 x27) fun v12 => optB (loadA h false 1 v12) fun v13 => optP (appendA h 3 40 x6 v13) fun v14 h => optB (binA .add x27 (.int .i64 1)) fun v15 => B33 v14 x25 x26 v15 h) (K x6 h)
def l44_33 (call : CallFn) (n : Nat) : Nat → AV → AV → AV → AV → AHeap → Kont → Bool
  | 0 => fun _ _ _ _ _ _ => false
  | m + 1 => fun x6 x25 x26 x27 h K => b44_33 call n (fun x6 x25 x26 x27 h => l44_33 call n m x6 x25 x26 x27 h K) x6 x25 x26 x27 h K
def p44_27 (call : CallFn) (n : Nat) (x0 x3 : AV) (h : AHeap) (K : Kont) : Bool :=
  call (.func 67) [.nilSlc, x3] h fun v9 h => optB (lenA h 1 x0) fun v10 => l44_33 call n n v9 x0 v10 (.int .i64 0) h K
def b44_8 (call : CallFn) (n : Nat) (B8 : F5) (x0 x3 x9 x10 x11 : AV) (h : AHeap) (K : Kont) : Bool :=
  optB (binA .lss x11 x10) fun v2 => condB v2 (optB (iadrA h 1 x9 x11) fun v3 => optB (loadA h false 1 v3) fun v4 => optB (lenA h 1 v4) fun v5 => optB (binA .add x3 v5) fun v6 => optB (binA .lss v6 (.int .i64 0)) fun v7 => condB v7 (false) (optB (binA .add x11 (.int .i64 1)) fun v8 => B8 x0 v6 x9 x10 v8 h)) (p44_27 call n x0 x3 h K)
def l44_8 (call : CallFn) (n : Nat) : Nat → AV → AV → AV → AV → AV → AHeap → Kont → Bool
  | 0 => fun _ _ _ _ _ _ _ => false
  | m + 1 => fun x0 x3 x9 x10 x11 h K => b44_8 call n (fun x0 x3 x9 x10 x11 h => l44_8 call n m x0 x3 x9 x10 x11 h K) x0 x3 x9 x10 x11 h K
def s44 (call : CallFn) (n : Nat) (x0 : AV) (h : AHeap) (K : Kont) : Bool :=
  optB (lenA h 1 x0) fun v1 => l44_8 call n n x0 (.int .i64 0) x0 v1 (.int .i64 0) h K
def p46_32 (call : CallFn) (n : Nat) (B16 : F6) (x0 x1 x6 x16 x17 x18 : AV) (h : AHeap) (K : Kont) : Bool :=
  optB (binA .add x18 (.int .i64 1)) fun v19 => B16 x0 x1 x6 x16 x17 v19 h
def b46_16 (call : CallFn) (n : Nat) (B16 : F6) (x0 x1 x6 x16 x17 x18 : AV) (h : AHeap) (K : Kont) : Bool :=
  optB (binA .lss x18 x17) fun v7 => condB v7 (optB (iadrA h 3 x16 x18) fun v8 => optB (loadA h true 3 v8) fun v9 => optP (allocV h [.str [], .str [], .nilSlc]) fun v10 h => optP (unit (storeA h 3 v10 v9)) fun _ h => optB (fadrA 0 v10) fun v12 => optB (loadA h false 1 v12) fun v13 => call (.func 23) [x0, v13, x1] h fun v14 h => condB v14 (optB (fadrA 0 v10) fun v15 => optB (loadA h false 1 v15) fun v16 => optP (bsliceV h 1 1 [.str []] [(0, v16)]) fun v17 h => optP (appendA h 1 16 x6 v17) fun v18 h => p46_32 call n B16 x0 x1 v18 x16 x17 x18 h K) (p46_32 call n B16 x0 x1 x6 x16 x17 x18 h K)) (K (.tup [x6, (.int .i64 0)]) h)
def l46_16 (call : CallFn) (n : Nat) : Nat → AV → AV → AV → AV → AV → AV → AHeap → Kont → Bool
  | 0 => fun _ _ _ _ _ _ _ _ => false
  | m + 1 => fun x0 x1 x6 x16 x17 x18 h K => b46_16 call n (fun x0 x1 x6 x16 x17 x18 h => l46_16 call n m x0 x1 x6 x16 x17 x18 h K) x0 x1 x6 x16 x17 x18 h K
def p46_10 (call : CallFn) (n : Nat) (x0 x1 : AV) (h : AHeap) (K : Kont) : Bool :=
  optB (nilckA x0) fun v3 => optB (fadrA 0 v3) fun v4 => optB (loadA h false 1 v4) fun v5 => optB (lenA h 1 v5) fun v6 => l46_16 call n n x0 x1 .nilSlc v5 v6 (.int .i64 0) h K
def s46 (call : CallFn) (n : Nat) (x0 x1 : AV) (h : AHeap) (K : Kont) : Bool :=
  call (.func 42) [x0, x1] h fun v1 h => optB (notA v1) fun v2 => condB v2 (K (.tup [.nilSlc, (.int .i64 10)]) h) (p46_10 call n x0 x1 h K)
def b48_16 (call : CallFn) (n : Nat) (B16 : F4) (x0 x1 x5 x6 : AV) (h : AHeap) (K : Kont) : Bool :=
  optB (lenA h 1 x0) fun v2 => optB (binA .lss x6 v2) fun v3 => condB v3 (optB (binA .add x5 (.int .i64 1)) fun v4 => optB (iadrA h 5 x0 x6) fun v5 => optB (fadrA 3 v5) fun v6 => optB (loadA h false 1 v6) fun v7 => optB (lenA h 0 v7) fun v8 => optB (binA .quo v8 (.int .i64 64)) fun v9 => optB (binA .add v4 v9) fun v10 => optB (iadrA h 5 x0 x6) fun v11 => optB (fadrA 4 v11) fun v12 => optB (loadA h false 1 v12) fun v13 => optB (binA .add x1 (.int .i64 1)) fun v14 => call (.func 48) [v13, v14] h fun v15 h => sameB (iadrA h 5 x0 x6) v5 <| sameB (loadA h false 1 v6) v7 <| sameB (lenA h 0 v7) v8 <| optB (binA .add v10 v15) fun v16 => optB (binA .add x6 (.int .i64 1)) fun v17 => B16 x0 x1 v16 v17 h) (K x5 h)
def l48_16 (call : CallFn) (n : Nat) : Nat → AV → AV → AV → AV → AHeap → Kont → Bool
  | 0 => fun _ _ _ _ _ _ => false
  | m + 1 => fun x0 x1 x5 x6 h K => b48_16 call n (fun x0 x1 x5 x6 h => l48_16 call n m x0 x1 x5 x6 h K) x0 x1 x5 x6 h K
def p48_10 (call : CallFn) (n : Nat) (x0 x1 : AV) (h : AHeap) (K : Kont) : Bool :=
  l48_16 call n n x0 x1 (.int .i64 0) (.int .i64 0) h K
def s48 (call : CallFn) (n : Nat) (x0 x1 : AV) (h : AHeap) (K : Kont) : Bool :=
  optB (binA .gtr x1 (.int .i64 100)) fun v1 => condB v1 (K (.int .i64 1048576) h) (p48_10 call n x0 x1 h K)
def p49_29 (call : CallFn) (n : Nat) (x0 : AV) (h : AHeap) (K : Kont) : Bool :=
  optB (lenA h 0 x0) fun v32 => optB (binA .geq v32 (.int .i64 1)) fun v33 => optB (grdO (wantV v33 true) (some x0)) fun v34 => optB (grdO (wantV v33 true) (lenA h 0 v34)) fun v35 => optB (grdO (wantV v33 true) (binA .leq v35 (.int .i64 64))) fun v36 => optB (pickV v33 v36 (.bool false)) fun v37 => optB (grdO (wantV v37 true) (some x0)) fun v38 => grdC (wantV v37 true) (fun k => call (.func 70) [v38] h k) h fun v39 h => optB (grdO (wantV v37 true) (notA v39)) fun v40 => optB (pickV v37 v40 (.bool false)) fun v41 => K v41 h
set_option maxRecDepth 100000 in
def b49_6 (call : CallFn) (n : Nat) (B6 : F3) (x0 x7 x8 : AV) (h : AHeap) (K : Kont) : Bool :=
  optB (binA .lss x8 x7) fun v2 => condB v2 (optB (idxsA x0 x8) fun v3 => optB (binA .geq v3 (.int .u8 97)) fun v4 => optB (grdO (wantV v4 true) (some v3)) fun v5 => optB (grdO (wantV v4 true) (binA .leq v5 (.int .u8 122))) fun v6 => optB (pickV v4 v6 (.bool false)) fun v7 => optB (grdO (wantV v7 false) (some v3)) fun v8 => optB (grdO (wantV v7 false) (binA .geq v8 (.int .u8 65))) fun v9 => optB (grdO (wantV v7 false) (some v9)) fun v10 => optB (grdO (wantV v10 true) (some v3)) fun v11 => optB (grdO (wantV v10 true) (binA .leq v11 (.int .u8 90))) fun v12 => optB (grdO (wantV v7 false) (pickV v10 v12 (.bool false))) fun v13 => optB (pickV v7 (.bool true) v13) fun v14 => optB (notA v14) fun v15 => optB (grdO (wantV v15 true) (some x8)) fun v16 => optB (grdO (wantV v15 true) (binA .eql v16 (.int .i64 0))) fun v17 => optB (grdO (wantV v15 true) (some v17)) fun v18 => optB (grdO (wantV v18 false) (some v3)) fun v19 => optB (grdO (wantV v18 false) (binA .neq v19 (.int .u8 95))) fun v20 => optB (grdO (wantV v18 false) (some v20)) fun v21 => optB (grdO (wantV v21 true) (some v3)) fun v22 => optB (grdO (wantV v21 true) (binA .lss v22 (.int .u8 48))) fun v23 => optB (grdO (wantV v21 true) (some v23)) fun v24 => optB (grdO (wantV v24 false) (some v3)) fun v25 => optB (grdO (wantV v24 false) (binA .gtr v25 (.int .u8 57))) fun v26 => optB (grdO (wantV v21 true) (pickV v24 (.bool true) v26)) fun v27 => optB (grdO (wantV v18 false) (pickV v21 v27 (.bool false))) fun v28 => optB (grdO (wantV v15 true) (pickV v18 (.bool true) v28)) fun v29 => optB (pickV v15 v29 (.bool false)) fun v30 => condB v30 (K (.bool false) h) (optB (binA .add x8 (.int .i64 1)) fun v31 => B6 x0 x7 v31 h)) (p49_29 call n x0 h K)
def l49_6 (call : CallFn) (n : Nat) : Nat → AV → AV → AV → AHeap → Kont → Bool
  | 0 => fun _ _ _ _ _ => false
  | m + 1 => fun x0 x7 x8 h K => b49_6 call n (fun x0 x7 x8 h => l49_6 call n m x0 x7 x8 h K) x0 x7 x8 h K
def s49 (call : CallFn) (n : Nat) (x0 : AV) (h : AHeap) (K : Kont) : Bool :=
  optB (lenA h 0 x0) fun v1 => l49_6 call n n x0 v1 (.int .i64 0) h K
def s50 (call : CallFn) (n : Nat) (x0 x1 : AV) (h : AHeap) (K : Kont) : Bool :=
  call (.func 71) [x0, x1] h fun v1 h => optB (binA .geq v1 (.int .i64 0)) fun v2 => K v2 h
def s51 (call : CallFn) (n : Nat) (x0 x1 : AV) (h : AHeap) (K : Kont) : Bool :=
  optP (boxA h 3 x0) fun v1 h => optB (fadrA 0 v1) fun v2 => optB (loadA h false 1 v2) fun v3 => optB (fadrA 2 x1) fun v4 => optB (loadA h false 1 v4) fun v5 => optB (binA .eql v3 v5) fun v6 => K v6 h
def s52 (call : CallFn) (n : Nat) (x0 x1 : AV) (h : AHeap) (K : Kont) : Bool :=
  optB (binA .sub x0 x1) fun v1 => K v1 h
def b53_6 (call : CallFn) (n : Nat) (B6 : F4) (x0 x1 x7 x8 : AV) (h : AHeap) (K : Kont) : Bool :=
  optB (binA .lss x8 x7) fun v2 => condB v2 (optB (iadrA h 3 x0 x8) fun v3 => optB (loadA h true 3 v3) fun v4 => callV call x1 [v4] h fun v5 h => condB v5 (K x8 h) (optB (binA .add x8 (.int .i64 1)) fun v6 => B6 x0 x1 x7 v6 h)) (K (.int .i64 (-1)) h)
def l53_6 (call : CallFn) (n : Nat) : Nat → AV → AV → AV → AV → AHeap → Kont → Bool
  | 0 => fun _ _ _ _ _ _ => false
  | m + 1 => fun x0 x1 x7 x8 h K => b53_6 call n (fun x0 x1 x7 x8 h => l53_6 call n m x0 x1 x7 x8 h K) x0 x1 x7 x8 h K
def s53 (call : CallFn) (n : Nat) (x0 x1 : AV) (h : AHeap) (K : Kont) : Bool :=
  optB (lenA h 1 x0) fun v1 => l53_6 call n n x0 x1 v1 (.int .i64 0) h K
def s54 (call : CallFn) (n : Nat) (x0 x1 : AV) (h : AHeap) (K : Kont) : Bool :=
  optP (boxA h 3 x0) fun v1 h => optB (fadrA 0 v1) fun v2 => optB (loadA h false 1 v2) fun v3 => optB (fadrA 0 x1) fun v4 => optB (loadA h false 1 v4) fun v5 => optB (binA .eql v3 v5) fun v6 => K v6 h
set_option maxRecDepth 100000 in
def s55 (call : CallFn) (n : Nat) (x0 x1 x2 x3 : AV) (h : AHeap) (K : Kont) : Bool :=
  optP (boxA h 3 x1) fun v1 h => optP (boxA h 5 x2) fun v2 h => optB (loadA h true 5 v2) fun v3 => call (.func 39) [v3] h fun v4 h => optB (notA v4) fun v5 => condB v5 (K (.bool false) h) (optB (fadrA 0 v2) fun v6 => optB (loadA h false 1 v6) fun v7 => optB (binA .eql v7 (.int .i64 0)) fun v8 => condB v8 (K (.bool true) h) (optB (fadrA 1 v1) fun v9 => optB (loadA h false 1 v9) fun v10 => optB (binA .eql v10 (.int .i64 0)) fun v11 => condB v11 (K (.bool true) h) (optB (binA .eql v10 (.int .i64 1)) fun v12 => condB v12 (optB (fadrA 0 v2) fun v13 => optB (loadA h false 1 v13) fun v14 => optB (binA .eql v14 (.int .i64 1)) fun v15 => K v15 h) (optB (binA .eql v10 (.int .i64 2)) fun v16 => condB v16 (optB (fadrA 0 v2) fun v17 => optB (loadA h false 1 v17) fun v18 => optB (binA .eql v18 (.int .i64 2)) fun v19 => K v19 h) (optB (binA .eql v10 (.int .i64 3)) fun v20 => condB v20 (optB (fadrA 0 v2) fun v21 => optB (loadA h false 1 v21) fun v22 => optB (binA .eql v22 (.int .i64 3)) fun v23 => K v23 h) (optB (binA .eql v10 (.int .i64 4)) fun v24 => condB v24 (optB (fadrA 0 v2) fun v25 => optB (loadA h false 1 v25) fun v26 => optB (binA .eql v26 (.int .i64 4)) fun v27 => K v27 h) (optB (binA .eql v10 (.int .i64 5)) fun v28 => condB v28 (optB (fadrA 0 v2) fun v29 => optB (loadA h false 1 v29) fun v30 => optB (binA .neq v30 (.int .i64 5)) fun v31 => optB (grdO (wantV v31 false) (some x3)) fun v32 => optB (grdO (wantV v31 false) (eqV h false .fn v32 .nilFn)) fun v33 => optB (pickV v31 (.bool true) v33) fun v34 => condB v34 (K (.bool false) h) (optB (fadrA 2 v2) fun v35 => optB (loadA h false 1 v35) fun v36 => callV call x3 [v36] h fun v37 h => optB (extA 0 v37) fun v38 => optB (extA 1 v37) fun v39 => optB (grdO (wantV v39 true) (some x0)) fun v40 => optB (grdO (wantV v39 true) (some v38)) fun v41 => optB (grdO (wantV v39 true) (fadrA 2 v1)) fun v42 => optB (grdO (wantV v39 true) (loadA h false 1 v42)) fun v43 => grdC (wantV v39 true) (fun k => call (.func 23) [v40, v41, v43] h k) h fun v44 h => optB (pickV v39 v44 (.bool false)) fun v45 => K v45 h)) (K (.bool false) h))))))))
def s56 (call : CallFn) (n : Nat) (x0 x1 : AV) (h : AHeap) (K : Kont) : Bool :=
  optB (nilckA x0) fun v1 => optB (fadrA 4 v1) fun v2 => optB (loadA h false 1 v2) fun v3 => optB (lookA h (.leaf .int) true .nilPtr v3 x1) fun v4 => optB (extA 0 v4) fun v5 => optB (extA 1 v4) fun v6 => optB (notA v6) fun v7 => condB v7 (K (.tup [(.str []), (.bool false)]) h) (optB (nilckA v5) fun v8 => optB (fadrA 1 v8) fun v9 => optB (loadA h false 1 v9) fun v10 => K (.tup [v10, (.bool true)]) h)
def p57_23 (call : CallFn) (n : Nat) (x1 x2 : AV) (h : AHeap) (K : Kont) : Bool :=
  optB (loadA h true 5 x1) fun v22 => optP (unit (storeA h 5 x2 v22)) fun _ h => optR (resV h [(x2, some (true, 5))]) h K
def b57_10 (call : CallFn) (n : Nat) (B10 : F5) (x1 x2 x9 x10 x11 : AV) (h : AHeap) (K : Kont) : Bool :=
  optB (binA .lss x11 x10) fun v8 => condB v8 (optB (iadrA h 5 x9 x11) fun v9 => optB (loadA h true 5 v9) fun v10 => optP (allocV h [.int .i64 0, .bool false, .int .i64 0, .str [], .nilSlc]) fun v11 h => optP (unit (storeA h 5 v11 v10)) fun _ h => optB (fadrA 4 x1) fun v13 => optB (loadA h false 1 v13) fun v14 => optB (loadA h true 5 v11) fun v15 => call (.func 57) [v15] h fun v16 h => sameB (loadA h false 1 v13) v14 <| optP (bsliceV h 1 5 [.int .i64 0, .bool false, .int .i64 0, .str [], .nilSlc] [(0, v16)]) fun v17 h => sameB (loadA h false 1 v13) v14 <| optP (appendA h 5 64 v14 v17) fun v18 h => optB (fadrA 4 x1) fun v19 => optP (unit (storeA h 1 v19 v18)) fun _ h => optB (binA .add x11 (.int .i64 1)) fun v21 => B10 x1 x2 x9 x10 v21 h) (p57_23 call n x1 x2 h K)
def l57_10 (call : CallFn) (n : Nat) : Nat → AV → AV → AV → AV → AV → AHeap → Kont → Bool
  | 0 => fun _ _ _ _ _ _ _ => false
  | m + 1 => fun x1 x2 x9 x10 x11 h K => b57_10 call n (fun x1 x2 x9 x10 x11 h => l57_10 call n m x1 x2 x9 x10 x11 h K) x1 x2 x9 x10 x11 h K
def s57 (call : CallFn) (n : Nat) (x0 : AV) (h : AHeap) (K : Kont) : Bool :=
  optP (boxA h 5 x0) fun v1 h => optP (allocV h [.int .i64 0, .bool false, .int .i64 0, .str [], .nilSlc]) fun v2 h => optB (fadrA 4 v1) fun v3 => optB (loadA h false 1 v3) fun v4 => optB (fadrA 4 v1) fun v5 => optP (unit (storeA h 1 v5 .nilSlc)) fun _ h => optB (lenA h 1 v4) fun v7 => l57_10 call n n v1 v2 v4 v7 (.int .i64 0) h K
def p58_23 (call : CallFn) (n : Nat) (x0 x1 x2 x8 x9 : AV) (h : AHeap) (K : Kont) : Bool :=
  optB (binA .lss x9 x8) fun v12 => optB (grdO (wantV v12 true) (some x2)) fun v13 => optB (grdO (wantV v12 true) (some x0)) fun v14 => optB (grdO (wantV v12 true) (some x9)) fun v15 => optB (grdO (wantV v12 true) (iadrA h 1 v14 v15)) fun v16 => optB (grdO (wantV v12 true) (loadA h false 1 v16)) fun v17 => optB (grdO (wantV v12 true) (some x1)) fun v18 => grdC (wantV v12 true) (fun k => callV call v13 [v17, v18] h k) h fun v19 h => optB (grdO (wantV v12 true) (binA .eql v19 (.int .i64 0))) fun v20 => optB (pickV v12 v20 (.bool false)) fun v21 => K (.tup [x9, v21]) h
def b58_8 (call : CallFn) (n : Nat) (B8 : F6) (x0 x1 x2 x8 x9 x10 : AV) (h : AHeap) (K : Kont) : Bool :=
  optB (binA .lss x9 x10) fun v2 => condB v2 (optB (binA .add x9 x10) fun v3 => optB (convA .u64 v3) fun v4 => optB (binA .shr v4 (.int .u64 1)) fun v5 => optB (convA .i64 v5) fun v6 => optB (iadrA h 1 x0 v6) fun v7 => optB (loadA h false 1 v7) fun v8 => callV call x2 [v8, x1] h fun v9 h => optB (binA .lss v9 (.int .i64 0)) fun v10 => condB v10 (optB (binA .add v6 (.int .i64 1)) fun v11 => B8 x0 x1 x2 x8 v11 x10 h) (B8 x0 x1 x2 x8 x9 v6 h)) (p58_23 call n x0 x1 x2 x8 x9 h K)
def l58_8 (call : CallFn) (n : Nat) : Nat → AV → AV → AV → AV → AV → AV → AHeap → Kont → Bool
  | 0 => fun _ _ _ _ _ _ _ _ => false
  | m + 1 => fun x0 x1 x2 x8 x9 x10 h K => b58_8 call n (fun x0 x1 x2 x8 x9 x10 h => l58_8 call n m x0 x1 x2 x8 x9 x10 h K) x0 x1 x2 x8 x9 x10 h K
def s58 (call : CallFn) (n : Nat) (x0 x1 x2 : AV) (h : AHeap) (K : Kont) : Bool :=
  optB (lenA h 1 x0) fun v1 => l58_8 call n n x0 x1 x2 v1 (.int .i64 0) v1 h K
def b62_8 (call : CallFn) (n : Nat) (B8 : F4) (x3 x6 x7 x8 : AV) (h : AHeap) (K : Kont) : Bool :=
  optB (binA .lss x8 x7) fun v2 => condB v2 (optB (iadrA h 5 x6 x8) fun v3 => optB (loadA h true 5 v3) fun v4 => optP (allocV h [.int .i64 0, .bool false, .int .i64 0, .str [], .nilSlc]) fun v5 h => optP (unit (storeA h 5 v5 v4)) fun _ h => optB (loadA h true 5 v5) fun v7 => call (.func 57) [v7] h fun v8 h => optP (bsliceV h 1 5 [.int .i64 0, .bool false, .int .i64 0, .str [], .nilSlc] [(0, v8)]) fun v9 h => optP (appendA h 5 64 x3 v9) fun v10 h => optB (binA .add x8 (.int .i64 1)) fun v11 => B8 v10 x6 x7 v11 h) (K x3 h)
def l62_8 (call : CallFn) (n : Nat) : Nat → AV → AV → AV → AV → AHeap → Kont → Bool
  | 0 => fun _ _ _ _ _ _ => false
  | m + 1 => fun x3 x6 x7 x8 h K => b62_8 call n (fun x3 x6 x7 x8 h => l62_8 call n m x3 x6 x7 x8 h K) x3 x6 x7 x8 h K
def s62 (call : CallFn) (n : Nat) (x0 : AV) (h : AHeap) (K : Kont) : Bool :=
  optB (lenA h 1 x0) fun v1 => l62_8 call n n .nilSlc x0 v1 (.int .i64 0) h K
set_option maxRecDepth 100000 in
def p64_64 (call : CallFn) (n : Nat) (x2 x5 : AV) (h : AHeap) (K : Kont) : Bool :=
  optB (fadrA 1 x2) fun v10 => optB (loadA h false 1 v10) fun v11 => optB (fadrA 1 x5) fun v12 => optB (loadA h false 1 v12) fun v13 => optB (eqV h false .bool v11 v13) fun v14 => optB (grdO (wantV v14 true) (fadrA 2 x2)) fun v15 => optB (grdO (wantV v14 true) (loadA h false 1 v15)) fun v16 => optB (grdO (wantV v14 true) (fadrA 2 x5)) fun v17 => optB (grdO (wantV v14 true) (loadA h false 1 v17)) fun v18 => optB (grdO (wantV v14 true) (binA .eql v16 v18)) fun v19 => optB (pickV v14 v19 (.bool false)) fun v20 => optB (grdO (wantV v20 true) (fadrA 3 x2)) fun v21 => optB (grdO (wantV v20 true) (loadA h false 1 v21)) fun v22 => optB (grdO (wantV v20 true) (fadrA 3 x5)) fun v23 => optB (grdO (wantV v20 true) (loadA h false 1 v23)) fun v24 => optB (grdO (wantV v20 true) (binA .eql v22 v24)) fun v25 => optB (pickV v20 v25 (.bool false)) fun v26 => optB (grdO (wantV v26 true) (fadrA 3 x2)) fun v27 => optB (grdO (wantV v26 true) (loadA h false 1 v27)) fun v28 => optB (grdO (wantV v26 true) (lenA h 0 v28)) fun v29 => optB (grdO (wantV v26 true) (binA .leq v29 (.int .i64 65536))) fun v30 => optB (pickV v26 v30 (.bool false)) fun v31 => optB (grdO (wantV v31 true) (fadrA 4 x2)) fun v32 => optB (grdO (wantV v31 true) (loadA h false 1 v32)) fun v33 => optB (grdO (wantV v31 true) (lenA h 1 v33)) fun v34 => optB (grdO (wantV v31 true) (binA .eql v34 (.int .i64 0))) fun v35 => optB (grdO (wantV v31 true) (some v35)) fun v36 => optB (grdO (wantV v36 false) (fadrA 0 x2)) fun v37 => optB (grdO (wantV v36 false) (loadA h false 1 v37)) fun v38 => optB (grdO (wantV v36 false) (binA .eql v38 (.int .i64 4))) fun v39 => optB (grdO (wantV v31 true) (pickV v36 (.bool true) v39)) fun v40 => optB (pickV v31 v40 (.bool false)) fun v41 => K v41 h
def b64_42 (call : CallFn) (n : Nat) (B42 : F6) (x1 x2 x5 x47 x48 x49 : AV) (h : AHeap) (K : Kont) : Bool :=
  optB (binA .lss x49 x48) fun v73 => condB v73 (optB (iadrA h 5 x47 x49) fun v74 => optB (loadA h true 5 v74) fun v75 => optP (allocV h [.int .i64 0, .bool false, .int .i64 0, .str [], .nilSlc]) fun v76 h => optP (unit (storeA h 5 v76 v75)) fun _ h => optB (loadA h true 5 v76) fun v78 => optB (binA .add x1 (.int .i64 1)) fun v79 => call (.func 64) [v78, v79] h fun v80 h => optB (notA v80) fun v81 => condB v81 (K (.bool false) h) (optB (binA .add x49 (.int .i64 1)) fun v82 => B42 x1 x2 x5 x47 x48 v82 h)) (p64_64 call n x2 x5 h K)
def l64_42 (call : CallFn) (n : Nat) : Nat → AV → AV → AV → AV → AV → AV → AHeap → Kont → Bool
  | 0 => fun _ _ _ _ _ _ _ _ => false
  | m + 1 => fun x1 x2 x5 x47 x48 x49 h K => b64_42 call n (fun x1 x2 x5 x47 x48 x49 h => l64_42 call n m x1 x2 x5 x47 x48 x49 h K) x1 x2 x5 x47 x48 x49 h K
def p64_39 (call : CallFn) (n : Nat) (x1 x2 x5 : AV) (h : AHeap) (K : Kont) : Bool :=
  optB (fadrA 4 x2) fun v70 => optB (loadA h false 1 v70) fun v71 => optB (lenA h 1 v71) fun v72 => l64_42 call n n x1 x2 x5 v71 v72 (.int .i64 0) h K
set_option maxRecDepth 100000 in
def s64 (call : CallFn) (n : Nat) (x0 x1 : AV) (h : AHeap) (K : Kont) : Bool :=
  optP (boxA h 5 x0) fun v1 h => optB (fadrA 0 v1) fun v2 => optB (loadA h false 1 v2) fun v3 => optB (buildV [.int .i64 0, .bool false, .int .i64 0, .str [], .nilSlc] [(0, 1, v3)]) fun v4 => optP (allocV h [.int .i64 0, .bool false, .int .i64 0, .str [], .nilSlc]) fun v5 h => optP (unit (storeA h 5 v5 v4)) fun _ h => optB (fadrA 0 v1) fun v7 => optB (loadA h false 1 v7) fun v8 => optB (binA .eql v8 (.int .i64 0)) fun v9 => condB v9 (p64_64 call n v1 v5 h K) (optB (binA .eql v8 (.int .i64 1)) fun v42 => condB v42 (optB (fadrA 1 v1) fun v43 => optB (loadA h false 1 v43) fun v44 => optB (fadrA 1 v5) fun v45 => optP (unit (storeA h 1 v45 v44)) fun _ h => p64_64 call n v1 v5 h K) (optB (binA .eql v8 (.int .i64 2)) fun v47 => condB v47 (optB (fadrA 2 v1) fun v48 => optB (loadA h false 1 v48) fun v49 => optB (fadrA 2 v5) fun v50 => optP (unit (storeA h 1 v50 v49)) fun _ h => p64_64 call n v1 v5 h K) (optB (binA .eql v8 (.int .i64 5)) fun v52 => condB v52 (optB (fadrA 2 v1) fun v53 => optB (loadA h false 1 v53) fun v54 => optB (mmV true [v54, (.int .i64 1)]) fun v55 => optB (fadrA 2 v5) fun v56 => optP (unit (storeA h 1 v56 v55)) fun _ h => p64_64 call n v1 v5 h K) (optB (binA .eql v8 (.int .i64 3)) fun v58 => condB v58 (optB (fadrA 3 v1) fun v59 => optB (loadA h false 1 v59) fun v60 => optB (fadrA 3 v5) fun v61 => optP (unit (storeA h 1 v61 v60)) fun _ h => p64_64 call n v1 v5 h K) (optB (binA .eql v8 (.int .i64 4)) fun v63 => condB v63 (optB (binA .geq x1 (.int .i64 30)) fun v64 => optB (grdO (wantV v64 false) (fadrA 4 v1)) fun v65 => optB (grdO (wantV v64 false) (loadA h false 1 v65)) fun v66 => optB (grdO (wantV v64 false) (lenA h 1 v66)) fun v67 => optB (grdO (wantV v64 false) (binA .gtr v67 (.int .i64 4096))) fun v68 => optB (pickV v64 (.bool true) v68) fun v69 => condB v69 (K (.bool false) h) (p64_39 call n x1 v1 v5 h K)) (K (.bool false) h))))))
def s65 (call : CallFn) (n : Nat) (x0 : AV) (h : AHeap) (K : Kont) : Bool :=
  optP (boxA h 5 x0) fun v1 h => optB (loadA h true 5 v1) fun v2 => call (.func 39) [v2] h fun v3 h => optB (notA v3) fun v4 => condB v4 (K (.tup [.nilSlc, (.int .i64 1)]) h) (optB (loadA h true 5 v1) fun v5 => call (.func 74) [.nilSlc, v5] h fun v6 h => K (.tup [v6, (.int .i64 0)]) h)
def s67 (call : CallFn) (n : Nat) (x0 x1 : AV) (h : AHeap) (K : Kont) : Bool :=
  optB (binA .lss x1 (.int .i64 0)) fun v1 => condB v1 (false) (optB (capA x0) fun v2 => optB (lenA h 1 x0) fun v3 => optB (binA .sub v2 v3) fun v4 => optB (binA .sub x1 v4) fun v5 => optB (binA .gtr v5 (.int .i64 0)) fun v6 => condB v6 (optB (capA x0) fun v7 => optB (sliceV h 3 x0 none (some v7) none) fun v8 => optP (appzA h 3 40 [.str [], .int .i64 0, .str []] v8 v5) fun v9 h => optB (lenA h 1 x0) fun v10 => optB (sliceV h 3 v9 none (some v10) none) fun v11 => K v11 h) (K x0 h))
def p70_156 (call : CallFn) (n : Nat) (x4 : AV) (h : AHeap) (K : Kont) : Bool :=
  condB x4 (K (.bool true) h) (K (.bool false) h)
set_option maxRecDepth 100000 in
def s70 (call : CallFn) (n : Nat) (x0 : AV) (h : AHeap) (K : Kont) : Bool :=
  optB (binA .eql x0 (.str [99, 108, 97, 115, 115])) fun v1 => condB v1 (p70_156 call n v1 h K) (optB (binA .eql x0 (.str [101, 120, 116, 101, 110, 100, 115])) fun v2 => condB v2 (p70_156 call n v2 h K) (optB (binA .eql x0 (.str [114, 117, 108, 101])) fun v3 => condB v3 (p70_156 call n v3 h K) (optB (binA .eql x0 (.str [113, 117, 101, 114, 121])) fun v4 => condB v4 (p70_156 call n v4 h K) (optB (binA .eql x0 (.str [119, 104, 101, 110])) fun v5 => condB v5 (p70_156 call n v5 h K) (optB (binA .eql x0 (.str [116, 104, 101, 110])) fun v6 => condB v6 (p70_156 call n v6 h K) (optB (binA .eql x0 (.str [101, 110, 100])) fun v7 => condB v7 (p70_156 call n v7 h K) (optB (binA .eql x0 (.str [115, 97, 108, 105, 101, 110, 99, 101])) fun v8 => condB v8 (p70_156 call n v8 h K) (optB (binA .eql x0 (.str [103, 114, 111, 117, 112])) fun v9 => condB v9 (p70_156 call n v9 h K) (optB (binA .eql x0 (.str [102, 108, 111, 119])) fun v10 => condB v10 (p70_156 call n v10 h K) (optB (binA .eql x0 (.str [110, 111, 108, 111, 111, 112])) fun v11 => condB v11 (p70_156 call n v11 h K) (optB (binA .eql x0 (.str [108, 111, 99, 107])) fun v12 => condB v12 (p70_156 call n v12 h K) (optB (binA .eql x0 (.str [110, 111, 116])) fun v13 => condB v13 (p70_156 call n v13 h K) (optB (binA .eql x0 (.str [101, 120, 105, 115, 116, 115])) fun v14 => condB v14 (p70_156 call n v14 h K) (optB (binA .eql x0 (.str [102, 111, 114, 97, 108, 108])) fun v15 => condB v15 (p70_156 call n v15 h K) (optB (binA .eql x0 (.str [111, 114])) fun v16 => condB v16 (p70_156 call n v16 h K) (optB (binA .eql x0 (.str [102, 114, 111, 109])) fun v17 => condB v17 (p70_156 call n v17 h K) (optB (binA .eql x0 (.str [101, 118, 97, 108])) fun v18 => condB v18 (p70_156 call n v18 h K) (optB (binA .eql x0 (.str [97, 99, 99])) fun v19 => condB v19 (p70_156 call n v19 h K) (optB (binA .eql x0 (.str [111, 118, 101, 114])) fun v20 => condB v20 (p70_156 call n v20 h K) (optB (binA .eql x0 (.str [105, 110, 115, 101, 114, 116])) fun v21 => condB v21 (p70_156 call n v21 h K) (optB (binA .eql x0 (.str [108, 111, 103, 105, 99, 97, 108])) fun v22 => condB v22 (p70_156 call n v22 h K) (optB (binA .eql x0 (.str [117, 112, 100, 97, 116, 101])) fun v23 => condB v23 (p70_156 call n v23 h K) (optB (binA .eql x0 (.str [100, 101, 108, 101, 116, 101])) fun v24 => condB v24 (p70_156 call n v24 h K) (optB (binA .eql x0 (.str [102, 111, 99, 117, 115])) fun v25 => condB v25 (p70_156 call n v25 h K) (optB (binA .eql x0 (.str [112, 114, 105, 110, 116])) fun v26 => condB v26 (p70_156 call n v26 h K) (optB (binA .eql x0 (.str [104, 97, 108, 116])) fun v27 => condB v27 (p70_156 call n v27 h K) (optB (binA .eql x0 (.str [116, 114, 117, 101])) fun v28 => condB v28 (p70_156 call n v28 h K) (optB (binA .eql x0 (.str [102, 97, 108, 115, 101])) fun v29 => condB v29 (p70_156 call n v29 h K) (optB (binA .eql x0 (.str [110, 117, 108, 108])) fun v30 => condB v30 (p70_156 call n v30 h K) (optB (binA .eql x0 (.str [115, 105, 122, 101])) fun v31 => condB v31 (p70_156 call n v31 h K) (optB (binA .eql x0 (.str [104, 97, 115])) fun v32 => condB v32 (p70_156 call n v32 h K) (optB (binA .eql x0 (.str [105, 110, 116])) fun v33 => condB v33 (p70_156 call n v33 h K) (optB (binA .eql x0 (.str [98, 111, 111, 108])) fun v34 => condB v34 (p70_156 call n v34 h K) (optB (binA .eql x0 (.str [116, 101, 120, 116])) fun v35 => condB v35 (p70_156 call n v35 h K) (optB (binA .eql x0 (.str [108, 105, 115, 116])) fun v36 => condB v36 (p70_156 call n v36 h K) (optB (binA .eql x0 (.str [97, 110, 121])) fun v37 => condB v37 (p70_156 call n v37 h K) (optB (binA .eql x0 (.str [114, 101, 102])) fun v38 => p70_156 call n v38 h K)))))))))))))))))))))))))))))))))))))
def b71_6 (call : CallFn) (n : Nat) (B6 : F4) (x0 x1 x7 x8 : AV) (h : AHeap) (K : Kont) : Bool :=
  optB (binA .lss x8 x7) fun v2 => condB v2 (optB (iadrA h 3 x0 x8) fun v3 => optB (loadA h true 3 v3) fun v4 => callV call x1 [v4] h fun v5 h => condB v5 (K x8 h) (optB (binA .add x8 (.int .i64 1)) fun v6 => B6 x0 x1 x7 v6 h)) (K (.int .i64 (-1)) h)
def l71_6 (call : CallFn) (n : Nat) : Nat → AV → AV → AV → AV → AHeap → Kont → Bool
  | 0 => fun _ _ _ _ _ _ => false
  | m + 1 => fun x0 x1 x7 x8 h K => b71_6 call n (fun x0 x1 x7 x8 h => l71_6 call n m x0 x1 x7 x8 h K) x0 x1 x7 x8 h K
def s71 (call : CallFn) (n : Nat) (x0 x1 : AV) (h : AHeap) (K : Kont) : Bool :=
  optB (lenA h 1 x0) fun v1 => l71_6 call n n x0 x1 v1 (.int .i64 0) h K
def b74_32 (call : CallFn) (n : Nat) (B32 : F4) (x0 x52 x53 x54 : AV) (h : AHeap) (K : Kont) : Bool :=
  optB (binA .lss x54 x53) fun v39 => condB v39 (optB (iadrA h 5 x52 x54) fun v40 => optB (loadA h true 5 v40) fun v41 => optP (allocV h [.int .i64 0, .bool false, .int .i64 0, .str [], .nilSlc]) fun v42 h => optP (unit (storeA h 5 v42 v41)) fun _ h => optB (loadA h true 5 v42) fun v44 => call (.func 74) [x0, v44] h fun v45 h => optB (binA .add x54 (.int .i64 1)) fun v46 => B32 v45 x52 x53 v46 h) (K x0 h)
def l74_32 (call : CallFn) (n : Nat) : Nat → AV → AV → AV → AV → AHeap → Kont → Bool
  | 0 => fun _ _ _ _ _ _ => false
  | m + 1 => fun x0 x52 x53 x54 h K => b74_32 call n (fun x0 x52 x53 x54 h => l74_32 call n m x0 x52 x53 x54 h K) x0 x52 x53 x54 h K
def p74_18 (call : CallFn) (n : Nat) (x0 x3 x14 x24 : AV) (h : AHeap) (K : Kont) : Bool :=
  condB x24 (optB (fadrA 2 x3) fun v17 => optB (loadA h false 1 v17) fun v18 => optB (convA .u64 v18) fun v19 => call (.func 88) [x0, v19, (.int .i64 8)] h fun v20 h => K v20 h) (optB (binA .eql x14 (.int .i64 3)) fun v21 => condB v21 (optB (fadrA 3 x3) fun v22 => optB (loadA h false 1 v22) fun v23 => optB (lenA h 0 v23) fun v24 => optB (convA .u64 v24) fun v25 => optB (fadrA 3 x3) fun v26 => optB (loadA h false 1 v26) fun v27 => call (.func 88) [x0, v25, (.int .i64 4)] h fun v28 h => sameB (loadA h false 1 v26) v27 <| optP (appendA h 1 1 v28 v27) fun v29 h => K v29 h) (optB (binA .eql x14 (.int .i64 4)) fun v30 => condB v30 (optB (fadrA 4 x3) fun v31 => optB (loadA h false 1 v31) fun v32 => optB (lenA h 1 v32) fun v33 => optB (convA .u64 v33) fun v34 => call (.func 88) [x0, v34, (.int .i64 4)] h fun v35 h => optB (fadrA 4 x3) fun v36 => optB (loadA h false 1 v36) fun v37 => optB (lenA h 1 v37) fun v38 => l74_32 call n n v35 v37 v38 (.int .i64 0) h K) (K x0 h)))
def s74 (call : CallFn) (n : Nat) (x0 x1 : AV) (h : AHeap) (K : Kont) : Bool :=
  optP (boxA h 5 x1) fun v1 h => optB (fadrA 0 v1) fun v2 => optB (loadA h false 1 v2) fun v3 => optB (convA .u8 v3) fun v4 => optP (bsliceV h 1 1 [.int .u8 0] [(0, v4)]) fun v5 h => optP (appbA h 5 x0 v5) fun v6 h => optB (fadrA 0 v1) fun v7 => optB (loadA h false 1 v7) fun v8 => optB (binA .eql v8 (.int .i64 1)) fun v9 => condB v9 (optB (fadrA 1 v1) fun v10 => optB (loadA h false 1 v10) fun v11 => call (.func 87) [v11] h fun v12 h => optB (convA .u8 v12) fun v13 => optP (bsliceV h 1 1 [.int .u8 0] [(0, v13)]) fun v14 h => optP (appbA h 5 v6 v14) fun v15 h => K v15 h) (optB (binA .eql v8 (.int .i64 2)) fun v16 => condB v16 (p74_18 call n v6 v1 v8 v16 h K) (optB (binA .eql v8 (.int .i64 5)) fun v47 => p74_18 call n v6 v1 v8 v47 h K))
def s87 (call : CallFn) (n : Nat) (x0 : AV) (h : AHeap) (K : Kont) : Bool :=
  condB x0 (K (.int .i64 1) h) (K (.int .i64 0) h)
def b88_6 (call : CallFn) (n : Nat) (B6 : F3) (x0 x1 x7 : AV) (h : AHeap) (K : Kont) : Bool :=
  optB (binA .geq x7 (.int .i64 0)) fun v2 => condB v2 (optB (binA .mul (.int .i64 8) x7) fun v3 => optB (binA .shr x1 v3) fun v4 => optB (convA .u8 v4) fun v5 => optP (bsliceV h 1 1 [.int .u8 0] [(0, v5)]) fun v6 h => optP (appbA h 5 x0 v6) fun v7 h => optB (binA .sub x7 (.int .i64 1)) fun v8 => B6 v7 x1 v8 h) (K x0 h)
def l88_6 (call : CallFn) (n : Nat) : Nat → AV → AV → AV → AHeap → Kont → Bool
  | 0 => fun _ _ _ _ _ => false
  | m + 1 => fun x0 x1 x7 h K => b88_6 call n (fun x0 x1 x7 h => l88_6 call n m x0 x1 x7 h K) x0 x1 x7 h K
def s88 (call : CallFn) (n : Nat) (x0 x1 x2 : AV) (h : AHeap) (K : Kont) : Bool :=
  optB (binA .sub x2 (.int .i64 1)) fun v1 => l88_6 call n n x0 x1 v1 h K
end Go.Proofs.Ythifmankpcadjaa
namespace Go.Ab
set_option linter.unusedSimpArgs false
set_option linter.unusedVariables false
abbrev KL := AExit → LEnv → AHeap → Bool
abbrev Pv := List AV → AHeap → Bool
abbrev Bt := List Pv
def putL (l : LEnv) (dst : Option Nat) (v : AV) : LEnv :=
  match dst with
  | some d => (d, v) :: l
  | none => l
theorem Has.putL {ρ : Regs} {l : LEnv} (H : Has ρ l) (dst : Option Nat) (v : AV) : Has (put ρ dst v) (putL l dst v) := by
  cases dst with
  | none => exact H
  | some d => exact H.set d v
def dnCall (call : CallFn) (l : LEnv) (f : Opd) (vs : List AV) (h : AHeap) (k : Kont) : Bool :=
  match f with
  | .c (.fn (.func g) [] []) => call (.func g) vs h k
  | f => match evL l f with
    | some fv => callV call fv vs h k
    | none => false
def dnP (l : LEnv) (h : AHeap) (op : AOp) (g : Option Bool) (k : Kont) : Bool :=
  match pureL l h op with
  | some o => (match g with
    | none => optB o fun v => k v h
    | some w => optB (grdO w o) fun v => k v h)
  | none => match heapL l h op with
    | some o => (match g with
      | none => optP o k
      | some w => optP (grdP w o h) k)
    | none => false
def dnO (call : CallFn) (o : AOper) (l : LEnv) (h : AHeap) (k : LEnv → AHeap → Bool) : Bool :=
  match o with
  | ⟨dst, op, none⟩ => (match op with
    | .fail => false
    | .nxt x => (match evL l x with
      | some v => nextA h v fun v h => k (putL l dst v) h
      | none => false)
    | .call f xs => (match evsL l xs with
      | some vs => dnCall call l f vs h fun v h => k (putL l dst v) h
      | none => false)
    | .mv x => (match dst with
      | some d => (match evL l x with
        | some v => k ((d, v) :: l) h
        | none => false)
      | none => dnP l h (.mv x) none fun _ h => k l h)
    | op => dnP l h op none fun v h => k (putL l dst v) h)
  | ⟨dst, op, some (j, b)⟩ => match l.get j with
    | none => false
    | some g => (match op with
      | .fail => false
      | .nxt _ => false
      | .call f xs => (match evsL l xs with
        | some vs => grdC (wantV g b) (fun k => dnCall call l f vs h k) h fun v h => k (putL l dst v) h
        | none => false)
      | op => dnP l h op (some (wantV g b)) fun v h => k (putL l dst v) h)
def dnR (call : CallFn) : List AOper → LEnv → AHeap → (LEnv → AHeap → Bool) → Bool
  | [], l, h, k => k l h
  | o :: ops, l, h, k => dnO call o l h fun l h => dnR call ops l h k
def dnK : List AOper → LEnv → AHeap → (LEnv → Bool) → Bool
  | [], l, _, k => k l
  | ⟨some d, .mv x, none⟩ :: ops, l, h, k => (match evL l x with
    | some v => dnK ops ((d, v) :: l) h k
    | none => false)
  | ⟨dst, op, none⟩ :: ops, l, h, k => (match pureL l h op with
    | some o => optB o fun v => dnK ops (putL l dst v) h k
    | none => false)
  | ⟨dst, op, some (j, b)⟩ :: ops, l, h, k => (match l.get j with
    | none => false
    | some g => match pureL l h op with
      | some o => optB (grdO (wantV g b) o) fun v => dnK ops (putL l dst v) h k
      | none => false)
def dnA : List AOper → LEnv → AHeap → Bool → Bool
  | [], _, _, r => r
  | ⟨none, _, _⟩ :: _, _, _, _ => false
  | ⟨some d, op, none⟩ :: ops, l, h, r => (match pureL l h op with
    | some o => (match l.get d with
      | some u => sameB o u (dnA ops l h r)
      | none => false)
    | none => false)
  | ⟨some d, op, some (j, b)⟩ :: ops, l, h, r => (match l.get j with
    | some g => (match pureL l h op with
      | some o => (match l.get d with
        | some u => sameG (wantV g b) o u (dnA ops l h r)
        | none => false)
      | none => false)
    | none => false)
def dnD (call : CallFn) : List (AOper × List AOper × List AOper) → LEnv → AHeap → (LEnv → AHeap → Bool) → Bool
  | [], l, h, k => k l h
  | (act, chk, ns) :: rest, l, h, k => dnO call act l h fun l h => dnA chk l h (dnK ns l h fun l => dnD call rest l h k)
inductive BCode where
  | skip
  | reg (ops : List AOper)
  | dreg (n0 : List AOper) (rest : List (AOper × List AOper × List AOper))
  | seq (a b : BCode)
  | cond (c : Opd) (a b : BCode)
  | block (id : Nat) (c : BCode)
  | loop (j : Nat) (ks : List Nat) (c : BCode)
  | exit (id : Nat)
  | scope (j : Nat) (ks : List Nat) (fks : List Nat) (c : BCode) (l : Nat) (r : BCode)
  | label (l : Nat)
  | goto (l : Nat)
  | ret
  | refuse
  | pt (j : Nat) (ks : List Nat) (c : BCode)
  | stop (c : ACode)
def BCode.erase : BCode → ACode
  | .skip => .skip
  | .reg ops => .reg ops
  | .dreg n0 rest => .dreg n0 rest
  | .seq a b => .seq a.erase b.erase
  | .cond c a b => .cond c a.erase b.erase
  | .block id c => .block id c.erase
  | .loop _ _ c => .loop c.erase
  | .exit id => .exit id
  | .scope _ _ _ c l r => .scope c.erase l r.erase
  | .label l => .label l
  | .goto l => .goto l
  | .ret => .ret
  | .refuse => .refuse
  | .pt _ _ c => c.erase
  | .stop c => c
structure Ann where
  pts : List (Nat × List Nat)
  lps : List (Nat × List Nat)
  scs : List (Nat × List Nat) := []
def annG : List (Nat × List Nat) → Nat → Option (List Nat)
  | [], _ => none
  | (k, v) :: l, n => bif Nat.beq n k then some v else annG l n
def wrapB (A : Ann) (i : Nat) (c : BCode) : BCode :=
  match annG A.pts i with
  | some ks => .pt i ks c
  | none => c
def toB (A : Ann) : ACode → Nat → BCode × Nat
  | .skip, i => (wrapB A i .skip, i + 1)
  | .reg ops, i => (wrapB A i (.reg ops), i + 1)
  | .dreg n0 rest, i => (wrapB A i (.dreg n0 rest), i + 1)
  | .seq a b, i => match toB A a (i + 1) with
    | (a', i1) => match toB A b i1 with
      | (b', i2) => (wrapB A i (.seq a' b'), i2)
  | .cond c a b, i => match toB A a (i + 1) with
    | (a', i1) => match toB A b i1 with
      | (b', i2) => (wrapB A i (.cond c a' b'), i2)
  | .block id a, i => match toB A a (i + 1) with
    | (a', i1) => (wrapB A i (.block id a'), i1)
  | .loop a, i => match toB A a (i + 1) with
    | (a', i1) => (match annG A.lps i with
      | some ks => (wrapB A i (.loop i ks a'), i1)
      | none => (.stop (.loop a), i1))
  | .exit id, i => (wrapB A i (.exit id), i + 1)
  | .scope a l b, i => match toB A a (i + 1) with
    | (a', i1) => match toB A b i1 with
      | (b', i2) => (match annG A.lps i with
        | some ks => (match annG A.scs i with
          | some fks => (wrapB A i (.scope i ks fks a' l b'), i2)
          | none => (.stop (.scope a l b), i2))
        | none => (.stop (.scope a l b), i2))
  | .label l, i => (wrapB A i (.label l), i + 1)
  | .goto l, i => (wrapB A i (.goto l), i + 1)
  | .ret, i => (wrapB A i .ret, i + 1)
  | .refuse, i => (wrapB A i .refuse, i + 1)
  | .rf f ps a b, i => (.stop (.rf f ps a b), i + 1)
  | .keep ks c, i => (.stop (.keep ks c), i + 1)
theorem erase_wrap (A : Ann) (i : Nat) (c : BCode) : (wrapB A i c).erase = c.erase := by
  unfold wrapB; split <;> rfl
theorem erase_toB (A : Ann) : ∀ (c : ACode) (i : Nat), (toB A c i).1.erase = c := by
  intro c
  induction c with
  | seq a b iha ihb => intro i; simp only [toB, erase_wrap, BCode.erase, iha, ihb]
  | cond o a b iha ihb => intro i; simp only [toB, erase_wrap, BCode.erase, iha, ihb]
  | block id a ih => intro i; simp only [toB, erase_wrap, BCode.erase, ih]
  | loop a ih =>
    intro i
    simp only [toB]
    split
    · simp only [erase_wrap, BCode.erase, ih]
    · rfl
  | scope a l b iha ihb =>
    intro i
    simp only [toB]
    split
    · split
      · simp only [erase_wrap, BCode.erase, iha, ihb]
      · rfl
    · rfl
  | _ => intro i; simp only [toB, erase_wrap, BCode.erase]
structure Sp where
  pt : Bt → Nat → Pv
  fs : Bt → Nat → Pv
  rd : Bt → Nat → Pv
  lp : Bt → Nat → Nat → Pv
def vals : LEnv → List AV
  | [] => []
  | (_, v) :: l => v :: vals l
def blockL (id : Nat) (K : KL) : KL := fun x l h =>
  match x with
  | .exit i => bif Nat.beq i id then K .normal l h else K (.exit i) l h
  | x => K x l h
def goL (B : Pv) (ks : List Nat) (l : LEnv) (h : AHeap) : Bool :=
  match keepL ks l with
  | some l' => B (vals l') h
  | none => false
def loopL (B : Pv) (ks : List Nat) (K : KL) : KL := fun x l h =>
  match x with
  | .normal => goL B ks l h
  | x => K x l h
def jumpL (lb : Nat) (B : Pv) (ks : List Nat) (K : KL) : KL := fun x l h =>
  match x with
  | .goto l' => bif Nat.beq l' lb then goL B ks l h else false
  | x => K x l h
def dnB (call : CallFn) (n : Nat) (S : Sp) (β : Bt) : BCode → LEnv → AHeap → KL → Bool
  | .skip, l, h, K => K .normal l h
  | .reg ops, l, h, K => dnR call ops l h (K .normal)
  | .dreg n0 rest, l, h, K => dnK n0 l h fun l => dnD call rest l h (K .normal)
  | .seq a b, l, h, K => dnB call n S β a l h fun x l h => match x with
    | .normal => dnB call n S β b l h K
    | x => K x l h
  | .cond c a b, l, h, K => (match evL l c with
    | some v => condB v (dnB call n S β a l h K) (dnB call n S β b l h K)
    | none => false)
  | .block id a, l, h, K => dnB call n S β a l h (blockL id K)
  | .loop j ks _, l, h, _ => goL (S.lp β j n) ks l h
  | .pt j ks _, l, h, _ => goL (S.pt β j) ks l h
  | .scope j _ fks _ _ _, l, h, _ => goL (S.fs (S.lp β j n :: β) j) fks l h
  | .exit id, l, h, K => K (.exit id) l h
  | .label _, l, h, K => K .normal l h
  | .goto lb, l, h, K => K (.goto lb) l h
  | .ret, l, h, K => K .ret l h
  | .refuse, _, _, _ => false
  | .stop _, _, _, _ => false
abbrev Fn := (Nat → Pv) → Nat → (Nat → AV) → AHeap → Bool
def stk : Nat → Nat → (Nat → Pv) → Bt
  | 0, _, _ => []
  | d + 1, i, τ => τ i :: stk d (i + 1) τ
def tabE : List Nat → Nat → (Nat → AV) → LEnv
  | [], _, _ => []
  | k :: ks, i, σ => (k, σ i) :: tabE ks (i + 1) σ
def tabV : Nat → Nat → (Nat → AV) → List AV
  | 0, _, _ => []
  | n + 1, i, σ => σ i :: tabV n (i + 1) σ
def tailK (f : Pv → KL → KL) (K : Bt → KL) : Bt → KL
  | B :: β => f B (K β)
  | [] => fun _ _ _ => false
def prs (call : CallFn) (n : Nat) (S : Sp) : Nat → BCode → (Bt → KL) → List (Fn × Fn)
  | d, .pt j ks a, K => (fun τ _ σ h => S.pt (stk d 0 τ) j (vals (tabE ks 0 σ)) h, fun τ _ σ h => dnB call n S (stk d 0 τ) a (tabE ks 0 σ) h (K (stk d 0 τ))) :: prs call n S d a K
  | d, .loop j ks a, K =>
    (fun τ _ σ h => S.rd (stk (d + 1) 0 τ) j (vals (tabE ks 0 σ)) h, fun τ _ σ h => dnB call n S (stk (d + 1) 0 τ) a (tabE ks 0 σ) h (tailK (fun B => loopL B ks) K (stk (d + 1) 0 τ))) ::
    (fun τ _ σ h => S.lp (stk d 0 τ) j 0 (vals (tabE ks 0 σ)) h, fun _ _ _ _ => false) ::
    (fun τ m σ h => S.lp (stk d 0 τ) j (m + 1) (vals (tabE ks 0 σ)) h, fun τ m σ h => S.rd (S.lp (stk d 0 τ) j m :: stk d 0 τ) j (vals (tabE ks 0 σ)) h) ::
    prs call n S (d + 1) a (tailK (fun B => loopL B ks) K)
  | d, .seq a b, K => prs call n S d a (fun β x l h => match x with
      | .normal => dnB call n S β b l h (K β)
      | x => K β x l h) ++ prs call n S d b K
  | d, .cond _ a b, K => prs call n S d a K ++ prs call n S d b K
  | d, .block id a, K => prs call n S d a (fun β => blockL id (K β))
  | d, .scope j ks fks a lb r, K =>
    (fun τ _ σ h => S.fs (stk (d + 1) 0 τ) j (vals (tabE fks 0 σ)) h, fun τ _ σ h => dnB call n S (stk (d + 1) 0 τ) a (tabE fks 0 σ) h (tailK (fun B => jumpL lb B ks) K (stk (d + 1) 0 τ))) ::
    (fun τ _ σ h => S.rd (stk (d + 1) 0 τ) j (vals (tabE ks 0 σ)) h, fun τ _ σ h => dnB call n S (stk (d + 1) 0 τ) r (tabE ks 0 σ) h (tailK (fun B => jumpL lb B ks) K (stk (d + 1) 0 τ))) ::
    (fun τ _ σ h => S.lp (stk d 0 τ) j 0 (vals (tabE ks 0 σ)) h, fun _ _ _ _ => false) ::
    (fun τ m σ h => S.lp (stk d 0 τ) j (m + 1) (vals (tabE ks 0 σ)) h, fun τ m σ h => S.rd (S.lp (stk d 0 τ) j m :: stk d 0 τ) j (vals (tabE ks 0 σ)) h) ::
    (prs call n S (d + 1) a (tailK (fun B => jumpL lb B ks) K) ++ prs call n S (d + 1) r (tailK (fun B => jumpL lb B ks) K))
  | _, _, _ => []
noncomputable abbrev ifF (j k : Nat) (v r : Pv) : Pv := @Bool.rec (fun _ => Pv) r v (Nat.beq j k)
noncomputable abbrev ifL (j k : Nat) (v r : Pv) : Pv := @Bool.rec (fun _ => Pv) r v (Nat.beq j k)
abbrev noP : Pv := fun _ _ => false
abbrev noS : CallFn → Nat → Kont → Sp := fun _ _ _ => { pt := fun _ _ => noP, fs := fun _ _ => noP, rd := fun _ _ => noP, lp := fun _ _ _ => noP }
def pB : Nat → Bt → Pv
  | _, [] => fun _ _ => false
  | 0, B :: _ => B
  | i + 1, _ :: β => pB i β
def pA0 (f : AHeap → Kont → Bool) (K : Kont) : Pv := fun vs h => match vs with
  | [] => f h K
  | _ => false
def pA1 (f : AV → AHeap → Kont → Bool) (K : Kont) : Pv := fun vs h => match vs with
  | [x0] => f x0 h K
  | _ => false
def pA2 (f : AV → AV → AHeap → Kont → Bool) (K : Kont) : Pv := fun vs h => match vs with
  | [x0, x1] => f x0 x1 h K
  | _ => false
def pF3 (B : Pv) : F3 := fun x0 x1 x2 h => B [x0, x1, x2] h
def pA3 (f : AV → AV → AV → AHeap → Kont → Bool) (K : Kont) : Pv := fun vs h => match vs with
  | [x0, x1, x2] => f x0 x1 x2 h K
  | _ => false
def pC3 (f : AV → AV → AV → AHeap → Kont → Bool) (K : Kont) : Pv := fun vs h => match vs with
  | [x0, x1, x2] => f x0 x1 x2 h K
  | _ => false
def pF4 (B : Pv) : F4 := fun x0 x1 x2 x3 h => B [x0, x1, x2, x3] h
def pA4 (f : AV → AV → AV → AV → AHeap → Kont → Bool) (K : Kont) : Pv := fun vs h => match vs with
  | [x0, x1, x2, x3] => f x0 x1 x2 x3 h K
  | _ => false
def pC4 (f : AV → AV → AV → AV → AHeap → Kont → Bool) (K : Kont) : Pv := fun vs h => match vs with
  | [x0, x1, x2, x3] => f x0 x1 x2 x3 h K
  | _ => false
def pF5 (B : Pv) : F5 := fun x0 x1 x2 x3 x4 h => B [x0, x1, x2, x3, x4] h
def pA5 (f : AV → AV → AV → AV → AV → AHeap → Kont → Bool) (K : Kont) : Pv := fun vs h => match vs with
  | [x0, x1, x2, x3, x4] => f x0 x1 x2 x3 x4 h K
  | _ => false
def pC5 (f : AV → AV → AV → AV → AV → AHeap → Kont → Bool) (K : Kont) : Pv := fun vs h => match vs with
  | [x0, x1, x2, x3, x4] => f x0 x1 x2 x3 x4 h K
  | _ => false
def pF6 (B : Pv) : F6 := fun x0 x1 x2 x3 x4 x5 h => B [x0, x1, x2, x3, x4, x5] h
def pA6 (f : AV → AV → AV → AV → AV → AV → AHeap → Kont → Bool) (K : Kont) : Pv := fun vs h => match vs with
  | [x0, x1, x2, x3, x4, x5] => f x0 x1 x2 x3 x4 x5 h K
  | _ => false
def pC6 (f : AV → AV → AV → AV → AV → AV → AHeap → Kont → Bool) (K : Kont) : Pv := fun vs h => match vs with
  | [x0, x1, x2, x3, x4, x5] => f x0 x1 x2 x3 x4 x5 h K
  | _ => false
def pF7 (B : Pv) : F7 := fun x0 x1 x2 x3 x4 x5 x6 h => B [x0, x1, x2, x3, x4, x5, x6] h
def pA7 (f : AV → AV → AV → AV → AV → AV → AV → AHeap → Kont → Bool) (K : Kont) : Pv := fun vs h => match vs with
  | [x0, x1, x2, x3, x4, x5, x6] => f x0 x1 x2 x3 x4 x5 x6 h K
  | _ => false
def pC7 (f : AV → AV → AV → AV → AV → AV → AV → AHeap → Kont → Bool) (K : Kont) : Pv := fun vs h => match vs with
  | [x0, x1, x2, x3, x4, x5, x6] => f x0 x1 x2 x3 x4 x5 x6 h K
  | _ => false
def pF8 (B : Pv) : F8 := fun x0 x1 x2 x3 x4 x5 x6 x7 h => B [x0, x1, x2, x3, x4, x5, x6, x7] h
def pA8 (f : AV → AV → AV → AV → AV → AV → AV → AV → AHeap → Kont → Bool) (K : Kont) : Pv := fun vs h => match vs with
  | [x0, x1, x2, x3, x4, x5, x6, x7] => f x0 x1 x2 x3 x4 x5 x6 x7 h K
  | _ => false
def pC8 (f : AV → AV → AV → AV → AV → AV → AV → AV → AHeap → Kont → Bool) (K : Kont) : Pv := fun vs h => match vs with
  | [x0, x1, x2, x3, x4, x5, x6, x7] => f x0 x1 x2 x3 x4 x5 x6 x7 h K
  | _ => false
def finB (res : List (Nat × Option (Bool × Nat))) (l : LEnv) (h : AHeap) (K : Kont) : Bool :=
  match resL l res with
  | some m => bif res.any (fun x => x.2.isSome) then optR (resV h m) h K else K (oneOf (m.map fun x => x.1)) h
  | none => false
def finL (res : List (Nat × Option (Bool × Nat))) (K : Kont) : KL := fun x l h =>
  match x with
  | .normal => finB res l h K
  | .ret => finB res l h K
  | _ => false
def initL : Nat → List AV → LEnv → LEnv
  | _, [], l => l
  | i, v :: vs, l => initL (i + 1) vs ((i, v) :: l)
def prsF (call : CallFn) (n : Nat) (K : Kont) (S : Sp) (top : Pv) (A : Ann) (fn : AFun) : List (Fn × Fn) :=
  (fun _ _ σ h => top (tabV fn.np 0 σ) h, fun _ _ σ h => dnB call n S [] (toB A fn.body 0).1 (initL 0 (tabV fn.np 0 σ) []) h (finL fn.res K)) :: prs call n S 0 (toB A fn.body 0).1 fun _ => finL fn.res K
section
variable {call call' : CallFn} {n : Nat} {ρ : Regs} {l : LEnv} {h : AHeap}
theorem dnCall_ok {f : Opd} {vs : List AV} {k : Kont} (s : dnCall call l f vs h k = true) : ∃ fv, evL l f = some fv ∧ callV call fv vs h k = true := by
  unfold dnCall at s
  split at s
  · rename_i g
    exact ⟨.fn (.func g) [] [], rfl, by simpa only [callV, List.nil_append, List.append_nil] using s⟩
  · split at s
    · rename_i fv hf
      exact ⟨fv, hf, s⟩
    · cases s
theorem stepA_call {f : Opd} {fv : AV} {xs : List Opd} {vs : List AV} {k : Kont} {dst : Option Nat} {Ks : KSt} (hc : Le call call') (H : Has ρ l) (ef : evL l f = some fv) (e : evsL l xs = some vs) (s : callV call fv vs h k = true) (hk : ∀ v h', k v h' = true → Has (put ρ dst v) (putL l dst v) → Ks v ⟨put ρ dst v, h'⟩ = true) :
    stepA call' ⟨dst, .call f xs, none⟩ ⟨ρ, h⟩ Ks = true := by
  simp only [stepA, wantedA, evalK_callV H ef e]
  exact callV_le hc s fun v h' hv => hk v h' hv (H.putL dst v)
theorem gstepA_call {f : Opd} {xs : List Opd} {vs : List AV} {k : Kont} {dst : Option Nat} {Ks : KSt} {j : Nat} {g : AV} {b : Bool} (hc : Le call call') (H : Has ρ l) (hg : l.get j = some g) (e : evsL l xs = some vs) (s : grdC (wantV g b) (fun k => dnCall call l f vs h k) h k = true) (hk : ∀ v h', k v h' = true → Has (put ρ dst v) (putL l dst v) → Ks v ⟨put ρ dst v, h'⟩ = true) :
    stepA call' ⟨dst, .call f xs, some (j, b)⟩ ⟨ρ, h⟩ Ks = true := by
  simp only [stepA, wanted_has H hg]
  cases hw : wantV g b with
  | true =>
    simp only [hw, grdC, cond_true] at s
    obtain ⟨fv, ef, s⟩ := dnCall_ok s
    simp only [evalK_callV H ef e]
    exact callV_le hc s fun v h' hv => hk v h' hv (H.putL dst v)
  | false =>
    simp only [hw, grdC, cond_false] at s
    exact hk _ _ s (H.putL dst _)
theorem dnP_ok {op : AOp} {dst : Option Nat} {k : Kont} {Ks : KSt} (H : Has ρ l) (s : dnP l h op none k = true) (hk : ∀ v h', k v h' = true → Has (put ρ dst v) (putL l dst v) → Ks v ⟨put ρ dst v, h'⟩ = true) : stepA call' ⟨dst, op, none⟩ ⟨ρ, h⟩ Ks = true := by
  unfold dnP at s
  cases hp : pureL l h op with
  | some o =>
    rw [hp] at s
    cases dst with
    | none => exact step_pure0 H hp s fun v hv H' => hk v h hv H'
    | some d => exact step_pure H hp s fun v hv H' => hk v h hv H'
  | none =>
    rw [hp] at s
    simp only at s
    cases hh : heapL l h op with
    | none => rw [hh] at s; cases s
    | some o =>
      rw [hh] at s
      cases dst with
      | none => exact step_heap0 H hh s fun v h' hv H' => hk v h' hv H'
      | some d => exact step_heap H hh s fun v h' hv H' => hk v h' hv H'
theorem dnPg_ok {op : AOp} {dst : Option Nat} {k : Kont} {Ks : KSt} {j : Nat} {g : AV} {b : Bool} (H : Has ρ l) (hg : l.get j = some g) (s : dnP l h op (some (wantV g b)) k = true) (hk : ∀ v h', k v h' = true → Has (put ρ dst v) (putL l dst v) → Ks v ⟨put ρ dst v, h'⟩ = true) : stepA call' ⟨dst, op, some (j, b)⟩ ⟨ρ, h⟩ Ks = true := by
  unfold dnP at s
  cases hp : pureL l h op with
  | some o =>
    rw [hp] at s
    cases dst with
    | none => exact gstep_pure0 H hg hp s fun v hv H' => hk v h hv H'
    | some d => exact gstep_pure H hg hp s fun v hv H' => hk v h hv H'
  | none =>
    rw [hp] at s
    simp only at s
    cases hh : heapL l h op with
    | none => rw [hh] at s; cases s
    | some o =>
      rw [hh] at s
      cases dst with
      | none => exact gstep_heap0 H hg hh s fun v h' hv H' => hk v h' hv H'
      | some d => exact gstep_heap H hg hh s fun v h' hv H' => hk v h' hv H'
theorem dnO_ok {o : AOper} {k : LEnv → AHeap → Bool} {K : St → Bool} (hc : Le call call') (H : Has ρ l) (s : dnO call o l h k = true) (hk : ∀ l' ρ' h', Has ρ' l' → k l' h' = true → K ⟨ρ', h'⟩ = true) : stepA call' o ⟨ρ, h⟩ (fun _ σ => K σ) = true := by
  obtain ⟨dst, op, grd⟩ := o
  cases grd with
  | none =>
    unfold dnO at s
    simp only at s
    split at s
    · cases s
    · rename_i x
      split at s
      · rename_i v hv
        simp only [stepA, wantedA, evalK, ev_has H hv]
        exact nextA_le s fun v h' hv => hk _ _ _ (H.putL dst v) hv
      · cases s
    · rename_i f xs
      split at s
      · rename_i vs hvs
        obtain ⟨fv, ef, s⟩ := dnCall_ok s
        exact stepA_call hc H ef hvs s fun v h' hv H' => hk _ _ _ H' hv
      · cases s
    · rename_i x
      split at s
      · rename_i d
        split at s
        · rename_i v hv
          exact step_mv H hv fun H' => hk _ _ _ H' s
        · cases s
      · exact dnP_ok (dst := none) H s fun v h' hv H' => hk _ _ _ H' hv
    · exact dnP_ok H s fun v h' hv H' => hk _ _ _ H' hv
  | some p =>
    obtain ⟨j, b⟩ := p
    unfold dnO at s
    simp only at s
    split at s
    · cases s
    · rename_i g hg
      split at s
      · cases s
      · cases s
      · rename_i f xs
        split at s
        · rename_i vs hvs
          exact gstepA_call hc H hg hvs s fun v h' hv H' => hk _ _ _ H' hv
        · cases s
      · exact dnPg_ok H hg s fun v h' hv H' => hk _ _ _ H' hv
theorem dnR_ok (hc : Le call call') : ∀ {ops : List AOper} {ρ : Regs} {l : LEnv} {h : AHeap} {k : LEnv → AHeap → Bool} {K : St → Bool}, Has ρ l → dnR call ops l h k = true → (∀ l' ρ' h', Has ρ' l' → k l' h' = true → K ⟨ρ', h'⟩ = true) → runR call' ops ⟨ρ, h⟩ K = true
  | [], ρ, l, h, k, K, H, s, hk => hk _ _ _ H s
  | o :: ops, ρ, l, h, k, K, H, s, hk => dnO_ok (K := fun σ => runR call' ops σ K) hc H s fun l' ρ' h' H' s' => dnR_ok hc H' s' hk
theorem dnK_ok : ∀ {ops : List AOper} {ρ : Regs} {l : LEnv} {h : AHeap} {k : LEnv → Bool} {Kr : Regs → Bool}, Has ρ l → dnK ops l h k = true → (∀ l' ρ', Has ρ' l' → k l' = true → Kr ρ' = true) → calcK ops ρ h Kr = true := by
  intro ops
  induction ops with
  | nil => intro ρ l h k Kr H s hk; exact hk _ _ H s
  | cons o ops ih =>
    intro ρ l h k Kr H s hk
    obtain ⟨dst, op, grd⟩ := o
    unfold dnK at s
    split at s
    · rename_i heq; cases heq
    · rename_i d x ops' heq
      cases heq
      split at s
      · rename_i v hv
        exact calc_mv H hv fun H' => ih H' s hk
      · cases s
    · rename_i dst' op' ops' hne heq
      cases heq
      split at s
      · rename_i o hp
        cases dst with
        | none => exact calc_pure0 H hp s fun v hv H' => ih H' hv hk
        | some d => exact calc_pure H hp s fun v hv H' => ih H' hv hk
      · cases s
    · rename_i dst' op' j b ops' heq
      cases heq
      split at s
      · cases s
      · rename_i g hg
        split at s
        · rename_i o hp
          cases dst with
          | none => exact gcalc_pure0 H hg hp s fun v hv H' => ih H' hv hk
          | some d => exact gcalc_pure H hg hp s fun v hv H' => ih H' hv hk
        · cases s
theorem dnA_ok {r q : Bool} (H : Has ρ l) (hq : q = true → r = true) : ∀ {ops : List AOper}, dnA ops l h q = true → againB ρ h ops r = true
  | [], s => again_nil (hq s)
  | ⟨none, _, _⟩ :: _, s => by unfold dnA at s; cases s
  | ⟨some d, op, none⟩ :: ops, s => by
    unfold dnA at s
    split at s
    · rename_i o hp
      split at s
      · rename_i u hu
        exact again_same H hp hu s fun s' => dnA_ok H hq s'
      · cases s
    · cases s
  | ⟨some d, op, some (j, b)⟩ :: ops, s => by
    unfold dnA at s
    split at s
    · rename_i g hg
      split at s
      · rename_i o hp
        split at s
        · rename_i u hu
          exact gagain_same H hg hp hu s fun s' => dnA_ok H hq s'
        · cases s
      · cases s
    · cases s
theorem dnD_ok (hc : Le call call') : ∀ {rest : List (AOper × List AOper × List AOper)} {ρ : Regs} {l : LEnv} {h : AHeap} {k : LEnv → AHeap → Bool} {K : St → Bool}, Has ρ l → dnD call rest l h k = true → (∀ l' ρ' h', Has ρ' l' → k l' h' = true → K ⟨ρ', h'⟩ = true) → runD call' rest ⟨ρ, h⟩ K = true
  | [], ρ, l, h, k, K, H, s, hk => hk _ _ _ H s
  | (act, chk, ns) :: rest, ρ, l, h, k, K, H, s, hk => by
    refine d_cons ?_
    have : dK call' chk ns rest K = fun _ σ => (match σ with | ⟨ρ, h⟩ => againB ρ h chk (calcK ns ρ h fun ρ => runD call' rest ⟨ρ, h⟩ K)) := rfl
    rw [this]
    refine dnO_ok (K := fun σ => (match σ with | ⟨ρ, h⟩ => againB ρ h chk (calcK ns ρ h fun ρ => runD call' rest ⟨ρ, h⟩ K))) hc H s fun l' ρ' h' H' s' => ?_
    exact dnA_ok H' (fun s2 => dnK_ok H' s2 fun l2 ρ2 H2 s3 => dnD_ok hc H2 s3 hk) s'
def zipL : List Nat → List AV → LEnv
  | k :: ks, v :: vs => (k, v) :: zipL ks vs
  | _, _ => []
theorem keepL_zip : ∀ {ks : List Nat} {l m : LEnv}, keepL ks l = some m → m = zipL ks (vals m) ∧ (vals m).length = ks.length
  | [], l, m, e => by simp only [keepL] at e; cases e; exact ⟨rfl, rfl⟩
  | k :: ks, l, m, e => by
    simp only [keepL] at e
    split at e
    · split at e
      · rename_i v hv m' hm
        cases e
        have := keepL_zip hm
        exact ⟨by simp only [vals, zipL]; rw [← this.1], by simp only [vals, List.length_cons, this.2]⟩
      · cases e
    · cases e
theorem tabE_vals (σ : Nat → AV) : ∀ (ks : List Nat) (vs : List AV) (i : Nat), vs.length = ks.length → (∀ j, j < vs.length → vs[j]? = some (σ (i + j))) → tabE ks i σ = zipL ks vs ∧ vals (zipL ks vs) = vs
  | [], [], i, _, _ => ⟨rfl, rfl⟩
  | [], _ :: _, _, e, _ => by cases e
  | _ :: _, [], _, e, _ => by cases e
  | k :: ks, v :: vs, i, e, hv => by
    have h0 := hv 0 (Nat.succ_pos _)
    simp only [List.getElem?_cons_zero, Nat.add_zero, Option.some.injEq] at h0
    have := tabE_vals σ ks vs (i + 1) (by simpa using e) (fun j hj => by
      have := hv (j + 1) (by simpa using hj)
      simpa [Nat.add_assoc, Nat.add_comm 1 j] using this)
    simp only [tabE, zipL, vals, ← h0, this.1, this.2]
    exact ⟨trivial, trivial⟩
def pickA : List AV → Nat → AV
  | [], _ => .bool true
  | v :: _, 0 => v
  | _ :: l, n + 1 => pickA l n
theorem pickA_get : ∀ (vs : List AV) (j : Nat), j < vs.length → vs[j]? = some (pickA vs j)
  | [], _, h => by cases h
  | v :: vs, 0, _ => rfl
  | v :: vs, j + 1, h => by simpa [pickA] using pickA_get vs j (by simpa using h)
theorem tabE_zip {ks : List Nat} {vs : List AV} (e : vs.length = ks.length) : tabE ks 0 (pickA vs) = zipL ks vs ∧ vals (zipL ks vs) = vs :=
  tabE_vals _ ks vs 0 e fun j hj => by rw [Nat.zero_add]; exact pickA_get vs j hj
def pickP : Bt → Nat → Pv
  | [], _ => fun _ _ => false
  | v :: _, 0 => v
  | _ :: l, n + 1 => pickP l n
theorem stk_pick (τ : Nat → Pv) : ∀ (β : Bt) (i : Nat), (∀ j, j < β.length → β[j]? = some (τ (i + j))) → stk β.length i τ = β
  | [], _, _ => rfl
  | B :: β, i, h => by
    have h0 := h 0 (Nat.succ_pos _)
    simp only [List.getElem?_cons_zero, Nat.add_zero, Option.some.injEq] at h0
    have := stk_pick τ β (i + 1) (fun j hj => by
      have := h (j + 1) (by simpa using hj)
      simpa [Nat.add_assoc, Nat.add_comm 1 j] using this)
    simp only [List.length_cons, stk, ← h0, this]
theorem pickP_get : ∀ (vs : Bt) (j : Nat), j < vs.length → vs[j]? = some (pickP vs j)
  | [], _, h => by cases h
  | v :: vs, 0, _ => rfl
  | v :: vs, j + 1, h => by simpa [pickP] using pickP_get vs j (by simpa using h)
theorem stk_is (β : Bt) : stk β.length 0 (pickP β) = β :=
  stk_pick _ β 0 fun j hj => by rw [Nat.zero_add]; exact pickP_get β j hj
def SKd (K : KL) (KS : KEx) : Prop := ∀ x (l : LEnv) (ρ : Regs) (h : AHeap), Has ρ l → K x l h = true → KS x ⟨ρ, h⟩ = true
def SVd (V : Pv) (ks : List Nat) (R : St → Bool) : Prop := ∀ (vs : List AV) (ρ : Regs) (h : AHeap), vs.length = ks.length → Has ρ (zipL ks vs) → V vs h = true → R ⟨ρ, h⟩ = true
theorem SVd.go {V : Pv} {ks : List Nat} {R : St → Bool} (hv : SVd V ks R) {ρ : Regs} {l : LEnv} {h : AHeap} (H : Has ρ l) (s : goL V ks l h = true) : R ⟨ρ, h⟩ = true := by
  unfold goL at s
  split at s
  · rename_i l' hl
    have hz := keepL_zip hl
    have H' := H.keep ks hl
    rw [hz.1] at H'
    exact hv _ _ _ hz.2 H' s
  · cases s
def SPd (call' : CallFn) (n : Nat) (S : Sp) : Bt → BCode → KEx → Prop
  | β, .pt j ks a, KS => SVd (S.pt β j) ks fun σ => runC call' n a.erase σ KS
  | β, .loop j ks a, KS => SVd (S.lp β j n) ks (iter (runC call' n a.erase) KS n)
  | β, .scope j _ fks a lb r, KS => SVd (S.fs (S.lp β j n :: β) j) fks fun σ => runC call' n a.erase σ (jumpK call' n lb r.erase KS n)
  | β, .seq a b, KS => SPd call' n S β a (seqK call' n b.erase KS) ∧ SPd call' n S β b KS
  | β, .cond _ a b, KS => SPd call' n S β a KS ∧ SPd call' n S β b KS
  | β, .block id a, KS => SPd call' n S β a (blockK id KS)
  | _, _, _ => True
theorem SKd.block {id : Nat} {K : KL} {KS : KEx} (hk : SKd K KS) : SKd (blockL id K) (blockK id KS) := by
  intro x l ρ h H s
  cases x with
  | exit i =>
    simp only [blockL, blockK] at s ⊢
    cases hb : Nat.beq i id with
    | true => rw [hb] at s; exact hk _ _ _ _ H s
    | false => rw [hb] at s; exact hk _ _ _ _ H s
  | _ => exact hk _ _ _ _ H s
theorem SKd.loop {c : ACode} {n m : Nat} {call' : CallFn} {B : Pv} {ks : List Nat} {K : KL} {KS : KEx} (hk : SKd K KS) (hB : SVd B ks (iter (runC call' n c) KS m)) : SKd (loopL B ks K) (loopK call' n c KS m) := by
  intro x l ρ h H s
  cases x with
  | normal => exact hB.go H s
  | _ => exact hk _ _ _ _ H s
theorem SKd.jump {r : ACode} {n m lb : Nat} {call' : CallFn} {B : Pv} {ks : List Nat} {K : KL} {KS : KEx} (hk : SKd K KS) (hB : SVd B ks (iterG lb (runC call' n r) KS m)) : SKd (jumpL lb B ks K) (jumpK call' n lb r KS m) := by
  intro x l ρ h H s
  cases x with
  | goto i =>
    simp only [jumpL, jumpK] at s ⊢
    cases hb : Nat.beq i lb with
    | true => rw [hb] at s; exact hB.go H s
    | false => rw [hb] at s; cases s
  | _ => exact hk _ _ _ _ H s
theorem dn_main {S : Sp} {call call' : CallFn} {n : Nat} (hc : Le call call') : ∀ (c : BCode) (β : Bt) (ρ : Regs) (l : LEnv) (h : AHeap) (K : KL) (KS : KEx), SPd call' n S β c KS → SKd K KS → Has ρ l → dnB call n S β c l h K = true → runC call' n c.erase ⟨ρ, h⟩ KS = true := by
  intro c
  induction c with
  | skip => intro β ρ l h K KS sp hk H s; exact hk _ _ _ _ H s
  | label _ => intro β ρ l h K KS sp hk H s; exact hk _ _ _ _ H s
  | exit _ => intro β ρ l h K KS sp hk H s; exact hk _ _ _ _ H s
  | goto _ => intro β ρ l h K KS sp hk H s; exact hk _ _ _ _ H s
  | ret => intro β ρ l h K KS sp hk H s; exact hk _ _ _ _ H s
  | refuse => intro β ρ l h K KS sp hk H s; cases s
  | stop _ => intro β ρ l h K KS sp hk H s; cases s
  | reg ops =>
    intro β ρ l h K KS sp hk H s
    exact c_reg (dnR_ok hc H s fun l' ρ' h' H' s' => hk _ _ _ _ H' s')
  | dreg n0 rest =>
    intro β ρ l h K KS sp hk H s
    exact c_dreg (dnK_ok H s fun l' ρ' H' s' => dnD_ok hc H' s' fun l2 ρ2 h2 H2 s2 => hk _ _ _ _ H2 s2)
  | seq a b iha ihb =>
    intro β ρ l h K KS sp hk H s
    refine c_seq (iha β ρ l h _ _ sp.1 ?_ H s)
    intro x l' ρ' h' H' s'
    cases x with
    | normal => exact ihb β _ _ _ _ _ sp.2 hk H' s'
    | _ => exact hk _ _ _ _ H' s'
  | cond o a b iha ihb =>
    intro β ρ l h K KS sp hk H s
    simp only [dnB] at s
    split at s
    · rename_i v hv
      exact c_cond H hv s (fun s => iha β _ _ _ _ _ sp.1 hk H s) (fun s => ihb β _ _ _ _ _ sp.2 hk H s)
    · cases s
  | block id a ih =>
    intro β ρ l h K KS sp hk H s
    exact c_block (ih β _ _ _ _ _ sp hk.block H s)
  | loop j ks a ih => intro β ρ l h K KS sp hk H s; exact c_loop (SVd.go sp H s)
  | pt j ks a ih => intro β ρ l h K KS sp hk H s; exact SVd.go sp H s
  | scope j ks fks a lb r iha ihr => intro β ρ l h K KS sp hk H s; exact c_scope (SVd.go sp H s)
theorem sp_of {S : Sp} {call call' : CallFn} {n : Nat} (hc : Le call call') : ∀ (c : BCode) (β : Bt) (K : Bt → KL) (KS : KEx), (∀ p ∈ prs call n S β.length c K, p.1 = p.2) → SKd (K β) KS → SPd call' n S β c KS := by
  intro c
  induction c with
  | pt j ks a ih =>
    intro β K KS hp hk vs ρ h hl H s
    have e := congrFun (congrFun (congrFun (congrFun (hp _ (List.mem_cons_self ..)) (pickP β)) 0) (pickA vs)) h
    simp only [stk_is, tabE_zip hl] at e
    rw [e] at s
    exact dn_main hc a β ρ _ h _ KS (ih β K KS (fun p h => hp p (List.mem_cons_of_mem _ h)) hk) hk H s
  | loop j ks a ih =>
    intro β K KS hp hk
    have e1 := hp _ (List.mem_cons_self ..)
    have e2 := hp _ (List.mem_cons_of_mem _ (List.mem_cons_self ..))
    have e3 := hp _ (List.mem_cons_of_mem _ (List.mem_cons_of_mem _ (List.mem_cons_self ..)))
    have hr : ∀ p ∈ prs call n S (β.length + 1) a (tailK (fun B => loopL B ks) K), p.1 = p.2 := fun p h => hp p (List.mem_cons_of_mem _ (List.mem_cons_of_mem _ (List.mem_cons_of_mem _ h)))
    have main : ∀ m, SVd (S.lp β j m) ks (iter (runC call' n a.erase) KS m) := by
      intro m
      induction m with
      | zero =>
        intro vs ρ h hl H s
        have e := congrFun (congrFun (congrFun (congrFun e2 (pickP β)) 0) (pickA vs)) h
        simp only [stk_is, tabE_zip hl] at e
        rw [e] at s; cases s
      | succ m ihm =>
        intro vs ρ h hl H s
        have e := congrFun (congrFun (congrFun (congrFun e3 (pickP β)) m) (pickA vs)) h
        simp only [stk_is, tabE_zip hl] at e
        have e' := congrFun (congrFun (congrFun (congrFun e1 (pickP (S.lp β j m :: β))) 0) (pickA vs)) h
        have hs : stk (β.length + 1) 0 (pickP (S.lp β j m :: β)) = S.lp β j m :: β := stk_is (S.lp β j m :: β)
        simp only [hs, tabE_zip hl] at e'
        rw [e, e'] at s
        have hk' : SKd (loopL (S.lp β j m) ks (K β)) (loopK call' n a.erase KS m) := hk.loop ihm
        exact c_round (dn_main hc a (S.lp β j m :: β) ρ _ h _ _ (ih (S.lp β j m :: β) (tailK (fun B => loopL B ks) K) _ hr hk') hk' H s)
    exact main n
  | seq a b iha ihb =>
    intro β K KS hp hk
    have hb : SPd call' n S β b KS := ihb β K KS (fun p h => hp p (List.mem_append_right _ h)) hk
    refine ⟨iha β _ _ (fun p h => hp p (List.mem_append_left _ h)) ?_, hb⟩
    intro x l ρ h H s
    cases x with
    | normal => exact dn_main hc b β ρ l h _ KS hb hk H s
    | _ => exact hk _ _ _ _ H s
  | cond o a b iha ihb =>
    intro β K KS hp hk
    exact ⟨iha β K KS (fun p h => hp p (List.mem_append_left _ h)) hk, ihb β K KS (fun p h => hp p (List.mem_append_right _ h)) hk⟩
  | block id a ih =>
    intro β K KS hp hk
    exact ih β (fun β => blockL id (K β)) _ hp hk.block
  | scope j ks fks a lb r iha ihr =>
    intro β K KS hp hk
    have e0 := hp _ (List.mem_cons_self ..)
    have e1 := hp _ (List.mem_cons_of_mem _ (List.mem_cons_self ..))
    have e2 := hp _ (List.mem_cons_of_mem _ (List.mem_cons_of_mem _ (List.mem_cons_self ..)))
    have e3 := hp _ (List.mem_cons_of_mem _ (List.mem_cons_of_mem _ (List.mem_cons_of_mem _ (List.mem_cons_self ..))))
    have hr : ∀ p ∈ prs call n S (β.length + 1) a (tailK (fun B => jumpL lb B ks) K) ++ prs call n S (β.length + 1) r (tailK (fun B => jumpL lb B ks) K), p.1 = p.2 := fun p h => hp p (List.mem_cons_of_mem _ (List.mem_cons_of_mem _ (List.mem_cons_of_mem _ (List.mem_cons_of_mem _ h))))
    have main : ∀ m, SVd (S.lp β j m) ks (iterG lb (runC call' n r.erase) KS m) := by
      intro m
      induction m with
      | zero =>
        intro vs ρ h hl H s
        have e := congrFun (congrFun (congrFun (congrFun e2 (pickP β)) 0) (pickA vs)) h
        simp only [stk_is, tabE_zip hl] at e
        rw [e] at s; cases s
      | succ m ihm =>
        intro vs ρ h hl H s
        have e := congrFun (congrFun (congrFun (congrFun e3 (pickP β)) m) (pickA vs)) h
        simp only [stk_is, tabE_zip hl] at e
        have e' := congrFun (congrFun (congrFun (congrFun e1 (pickP (S.lp β j m :: β))) 0) (pickA vs)) h
        have hs : stk (β.length + 1) 0 (pickP (S.lp β j m :: β)) = S.lp β j m :: β := stk_is (S.lp β j m :: β)
        simp only [hs, tabE_zip hl] at e'
        rw [e, e'] at s
        have hk' : SKd (jumpL lb (S.lp β j m) ks (K β)) (jumpK call' n lb r.erase KS m) := hk.jump ihm
        exact c_jump (dn_main hc r (S.lp β j m :: β) ρ _ h _ _ (ihr (S.lp β j m :: β) (tailK (fun B => jumpL lb B ks) K) _ (fun p h => hr p (List.mem_append_right _ h)) hk') hk' H s)
    intro vs ρ h hl H s
    have e := congrFun (congrFun (congrFun (congrFun e0 (pickP (S.lp β j n :: β))) 0) (pickA vs)) h
    have hs : stk (β.length + 1) 0 (pickP (S.lp β j n :: β)) = S.lp β j n :: β := stk_is (S.lp β j n :: β)
    simp only [hs, tabE_zip hl] at e
    rw [e] at s
    have hk' : SKd (jumpL lb (S.lp β j n) ks (K β)) (jumpK call' n lb r.erase KS n) := hk.jump (main n)
    exact dn_main hc a (S.lp β j n :: β) ρ _ h _ _ (iha (S.lp β j n :: β) (tailK (fun B => jumpL lb B ks) K) _ (fun p h => hr p (List.mem_append_left _ h)) hk') hk' H s
  | _ => intro β K KS hp hk; trivial
theorem res_plain {h : AHeap} : ∀ {res : List (Nat × Option (Bool × Nat))} {l : LEnv} {m : List (AV × Option (Bool × Nat))}, resL l res = some m → (res.any fun x => x.2.isSome) = false → resV h m = some (m.map fun x => x.1)
  | [], l, m, e, _ => by simp only [resL] at e; cases e; rfl
  | (t, x) :: r, l, m, e, ha => by
    simp only [resL] at e
    split at e
    · split at e
      · rename_i v hv vs hvs
        cases e
        simp only [List.any_cons, Bool.or_eq_false_iff] at ha
        cases x with
        | some p => cases ha.1
        | none => simp only [resV, res_plain hvs ha.2, List.map]
      · cases e
    · cases e
theorem finB_ok {res : List (Nat × Option (Bool × Nat))} {K : Kont} {ρ : Regs} {l : LEnv} {h : AHeap} (H : Has ρ l) (s : finB res l h K = true) : ∃ m, resL l res = some m ∧ optR (resV h m) h K = true := by
  unfold finB at s
  split at s
  · rename_i m hm
    refine ⟨m, hm, ?_⟩
    cases ha : res.any fun x => x.2.isSome with
    | true => rw [ha] at s; exact s
    | false => rw [ha] at s; rw [res_plain hm ha]; exact s
  · cases s
theorem SKd.fin {res : List (Nat × Option (Bool × Nat))} {K K' : Kont} (hK : ∀ v h', K v h' = true → K' v h' = true) : SKd (finL res K) (finK res K') := by
  intro x l ρ h H s
  cases x with
  | normal => obtain ⟨m, e, s⟩ := finB_ok H s; exact fin_normal H e hK s
  | ret => obtain ⟨m, e, s⟩ := finB_ok H s; exact fin_ret H e hK s
  | _ => cases s
theorem Has.init : ∀ {vs : List AV} {i : Nat} {ρ : Regs} {l : LEnv}, Has ρ l → Has (initR i vs ρ) (initL i vs l)
  | [], i, ρ, l, H => H
  | v :: vs, i, ρ, l, H => Has.init (vs := vs) (H.set i v)
theorem tabV_pick (σ : Nat → AV) : ∀ (vs : List AV) (i : Nat), (∀ j, j < vs.length → vs[j]? = some (σ (i + j))) → tabV vs.length i σ = vs
  | [], _, _ => rfl
  | v :: vs, i, h => by
    have h0 := h 0 (Nat.succ_pos _)
    simp only [List.getElem?_cons_zero, Nat.add_zero, Option.some.injEq] at h0
    have := tabV_pick σ vs (i + 1) (fun j hj => by
      have := h (j + 1) (by simpa using hj)
      simpa [Nat.add_assoc, Nat.add_comm 1 j] using this)
    simp only [List.length_cons, tabV, ← h0, this]
theorem tabV_is (vs : List AV) : tabV vs.length 0 (pickA vs) = vs := tabV_pick _ vs 0 fun j hj => by rw [Nat.zero_add]; exact pickA_get vs j hj
theorem pairs_eq {α : Type} : ∀ {l : List (α × α)}, l.map Prod.fst = l.map Prod.snd → ∀ p ∈ l, p.1 = p.2
  | [], _, p, h => by cases h
  | q :: l, e, p, h => by
    simp only [List.map_cons, List.cons.injEq] at e
    cases h with
    | head => exact e.1
    | tail _ h => exact pairs_eq e.2 p h
def shW (np : Nat) (top : CallFn → Nat → Kont → Pv) : Sh := fun call n args h K => bif Nat.beq args.length np then top call n K args h else false
theorem shW_ok {E : Env} {k np : Nat} {A : Ann} {fn : AFun} {S : CallFn → Nat → Kont → Sp} {top : CallFn → Nat → Kont → Pv} (hk : E.code k = some fn) (hn : fn.np = np)
    (e : (fun call n K => (prsF call n K (S call n K) (top call n K) A fn).map Prod.fst) = fun call n K => (prsF call n K (S call n K) (top call n K) A fn).map Prod.snd) : ShOK E k (shW np top) := by
  intro call call' n args h K K' hc hK s
  subst hn
  unfold shW at s
  cases hb : Nat.beq args.length fn.np with
  | false => rw [hb] at s; cases s
  | true =>
    rw [hb] at s
    have hl := Nat.eq_of_beq_eq_true hb
    refine ⟨fn, hk, hl, ?_⟩
    have ep := pairs_eq (congrFun (congrFun (congrFun e call) n) K)
    have e0 := congrFun (congrFun (congrFun (congrFun (ep _ (List.mem_cons_self ..)) (fun _ _ _ => false)) 0) (pickA args)) h
    simp only [← hl, tabV_is] at e0
    rw [cond_true, e0] at s
    have hk : SKd (finL fn.res K) (finK fn.res K') := SKd.fin hK
    have sp : SPd call' n (S call n K) [] (toB A fn.body 0).1 (finK fn.res K') := sp_of hc _ [] (fun _ => finL fn.res K) _ (fun p h => ep p (List.mem_cons_of_mem _ h)) hk
    have := dn_main hc (toB A fn.body 0).1 [] (initR 0 args .lf) (initL 0 args []) h _ _ sp hk (Has.init Has.nil) s
    rwa [erase_toB] at this
end
end Go.Ab
namespace Go.Proofs.Ythifmankpcadjaa
open Go.Ab
set_option linter.unusedVariables false
@[irreducible] noncomputable def A3 : AFun := (compFn Try.prog Try.f3).getD ⟨0, [], .skip⟩
@[irreducible] noncomputable def A4 : AFun := (compFn Try.prog Try.f4).getD ⟨0, [], .skip⟩
noncomputable def T5 (call : CallFn) (n : Nat) (K : Kont) : Sp := {
  pt := fun β j => ifF j 10 (pA1 (p5_10 call n) K) <| ifF j 20 (pA2 (p5_20 call n) K) <| ifF j 30 (pA3 (p5_30 call n) K) <| ifF j 57 (pA3 (p5_57 call n) K) <| ifF j 70 (pA5 (p5_70 call n (pF5 (pB 0 β))) K) <| ifF j 112 (pA8 (p5_112 call n (pF5 (pB 1 β)) (pF8 (pB 0 β))) K) <| ifF j 113 (pA7 (p5_113 call n (pF5 (pB 0 β))) K) <| ifF j 120 (pA5 (p5_120 call n (pF5 (pB 0 β))) K) <| ifF j 121 (pA0 (p5_121 call n) K) <| noP
  fs := fun β j => noP
  rd := fun β j => ifF j 34 (pA4 (b5_34 call n (pF4 (pB 0 β))) K) <| ifF j 63 (pA5 (b5_63 call n (pF5 (pB 0 β))) K) <| ifF j 80 (pA8 (b5_80 call n (pF5 (pB 1 β)) (pF8 (pB 0 β))) K) <| noP
  lp := fun β j m => ifL j 34 (pC4 (l5_34 call n m) K) <| ifL j 63 (pC5 (l5_63 call n m) K) <| ifL j 80 (pC8 (l5_80 call n (pF5 (pB 0 β)) m) K) <| noP }
@[irreducible] noncomputable def A5 : AFun := (compFn Try.prog Try.f5).getD ⟨0, [], .skip⟩
def w5 : Sh := shW 1 fun call n K => pA1 (s5 call n) K
theorem w5_ok {E : Env} (e : E.code 5 = some A5) : ShOK E 5 w5 := shW_ok (A := { pts := [(10, [1]), (20, [1, 3]), (30, [1, 3, 5]), (57, [1, 3, 5]), (70, [1, 3, 5, 12, 13]), (112, [1, 3, 5, 12, 13, 14, 15, 16]), (113, [1, 3, 5, 12, 13, 14, 15]), (120, [1, 3, 5, 12, 13]), (121, [])], lps := [(34, [1, 3, 5, 7]), (63, [1, 3, 5, 12, 13]), (80, [1, 3, 5, 12, 13, 14, 15, 16])] }) (S := T5) e (by kernel_rfl) (by kernel_rfl)
noncomputable def T6 (call : CallFn) (n : Nat) (K : Kont) : Sp := {
  pt := fun β j => ifF j 19 (pA2 (p6_19 call n) K) <| ifF j 30 (pA3 (p6_30 call n (pF3 (pB 0 β))) K) <| ifF j 46 (pA3 (p6_46 call n (pF3 (pB 0 β))) K) <| ifF j 47 (pA1 (p6_47 call n) K) <| noP
  fs := fun β j => noP
  rd := fun β j => ifF j 8 (pA3 (b6_8 call n (pF3 (pB 0 β))) K) <| ifF j 23 (pA3 (b6_23 call n (pF3 (pB 0 β))) K) <| ifF j 35 (pA4 (b6_35 call n (pF3 (pB 1 β)) (pF4 (pB 0 β))) K) <| noP
  lp := fun β j m => ifL j 8 (pC3 (l6_8 call n m) K) <| ifL j 23 (pC3 (l6_23 call n m) K) <| ifL j 35 (pC4 (l6_35 call n (pF3 (pB 0 β)) m) K) <| noP }
@[irreducible] noncomputable def A6 : AFun := (compFn Try.prog Try.f6).getD ⟨0, [], .skip⟩
def w6 : Sh := shW 1 fun call n K => pA1 (s6 call n) K
theorem w6_ok {E : Env} (e : E.code 6 = some A6) : ShOK E 6 w6 := shW_ok (A := { pts := [(19, [1, 3]), (30, [1, 3, 5]), (46, [1, 3, 5]), (47, [3])], lps := [(8, [1, 3, 4]), (23, [1, 3, 5]), (35, [1, 3, 5, 6])] }) (S := T6) e (by kernel_rfl) (by kernel_rfl)
noncomputable def T8 (call : CallFn) (n : Nat) (K : Kont) : Sp := {
  pt := fun β j => ifF j 12 (pA2 (p8_12 call n) K) <| noP
  fs := fun β j => noP
  rd := fun β j => ifF j 16 (pA5 (b8_16 call n (pF5 (pB 0 β))) K) <| noP
  lp := fun β j m => ifL j 16 (pC5 (l8_16 call n m) K) <| noP }
@[irreducible] noncomputable def A8 : AFun := (compFn Try.prog Try.f8).getD ⟨0, [], .skip⟩
def w8 : Sh := shW 1 fun call n K => pA1 (s8 call n) K
theorem w8_ok {E : Env} (e : E.code 8 = some A8) : ShOK E 8 w8 := shW_ok (A := { pts := [(12, [0, 4])], lps := [(16, [0, 4, 13, 14, 15])] }) (S := T8) e (by kernel_rfl) (by kernel_rfl)
@[irreducible] noncomputable def A9 : AFun := (compFn Try.prog Try.f9).getD ⟨0, [], .skip⟩
def w9 : Sh := shW 2 fun call n K => pA2 (s9 call n) K
theorem w9_ok {E : Env} (e : E.code 9 = some A9) : ShOK E 9 w9 := shW_ok (A := { pts := [], lps := [] }) (S := noS) e (by kernel_rfl) (by kernel_rfl)
noncomputable def T10 (call : CallFn) (n : Nat) (K : Kont) : Sp := {
  pt := fun β j => ifF j 12 (pA5 (p10_12 call n) K) <| ifF j 29 (pA3 (p10_29 call n) K) <| ifF j 52 (pA3 (p10_52 call n) K) <| ifF j 62 (pA3 (p10_62 call n) K) <| noP
  fs := fun β j => noP
  rd := fun β j => ifF j 39 (pA5 (b10_39 call n (pF5 (pB 0 β))) K) <| noP
  lp := fun β j m => ifL j 39 (pC5 (l10_39 call n m) K) <| noP }
@[irreducible] noncomputable def A10 : AFun := (compFn Try.prog Try.f10).getD ⟨0, [], .skip⟩
def w10 : Sh := shW 4 fun call n K => pA4 (s10 call n) K
theorem w10_ok {E : Env} (e : E.code 10 = some A10) : ShOK E 10 w10 := shW_ok (A := { pts := [(12, [0, 1, 2, 3, 10]), (29, [0, 1, 12]), (52, [0, 1, 12]), (62, [0, 1, 12])], lps := [(39, [0, 1, 12, 88, 89])] }) (S := T10) e (by kernel_rfl) (by kernel_rfl)
@[irreducible] noncomputable def A11 : AFun := (compFn Try.prog Try.f11).getD ⟨0, [], .skip⟩
@[irreducible] noncomputable def A12 : AFun := (compFn Try.prog Try.f12).getD ⟨0, [], .skip⟩
@[irreducible] noncomputable def A13 : AFun := (compFn Try.prog Try.f13).getD ⟨0, [], .skip⟩
noncomputable def T14 (call : CallFn) (n : Nat) (K : Kont) : Sp := {
  pt := fun β j => noP
  fs := fun β j => noP
  rd := fun β j => ifF j 8 (pA5 (b14_8 call n (pF5 (pB 0 β))) K) <| noP
  lp := fun β j m => ifL j 8 (pC5 (l14_8 call n m) K) <| noP }
@[irreducible] noncomputable def A14 : AFun := (compFn Try.prog Try.f14).getD ⟨0, [], .skip⟩
def w14 : Sh := shW 1 fun call n K => pA1 (s14 call n) K
theorem w14_ok {E : Env} (e : E.code 14 = some A14) : ShOK E 14 w14 := shW_ok (A := { pts := [], lps := [(8, [0, 3, 12, 13, 14])] }) (S := T14) e (by kernel_rfl) (by kernel_rfl)
@[irreducible] noncomputable def A15 : AFun := (compFn Try.prog Try.f15).getD ⟨0, [], .skip⟩
def w15 : Sh := shW 1 fun call n K => pA1 (s15 call n) K
theorem w15_ok {E : Env} (e : E.code 15 = some A15) : ShOK E 15 w15 := shW_ok (A := { pts := [], lps := [] }) (S := noS) e (by kernel_rfl) (by kernel_rfl)
@[irreducible] noncomputable def A16 : AFun := (compFn Try.prog Try.f16).getD ⟨0, [], .skip⟩
def w16 : Sh := shW 1 fun call n K => pA1 (s16 call n) K
theorem w16_ok {E : Env} (e : E.code 16 = some A16) : ShOK E 16 w16 := shW_ok (A := { pts := [], lps := [] }) (S := noS) e (by kernel_rfl) (by kernel_rfl)
@[irreducible] noncomputable def A17 : AFun := (compFn Try.prog Try.f17).getD ⟨0, [], .skip⟩
@[irreducible] noncomputable def A18 : AFun := (compFn Try.prog Try.f18).getD ⟨0, [], .skip⟩
@[irreducible] noncomputable def A19 : AFun := (compFn Try.prog Try.f19).getD ⟨0, [], .skip⟩
@[irreducible] noncomputable def A21 : AFun := (compFn Try.prog Try.f21).getD ⟨0, [], .skip⟩
noncomputable def T22 (call : CallFn) (n : Nat) (K : Kont) : Sp := {
  pt := fun β j => ifF j 12 (pA2 (p22_12 call n) K) <| ifF j 36 (pA5 (p22_36 call n (pF5 (pB 0 β))) K) <| ifF j 37 (pA1 (p22_37 call n) K) <| noP
  fs := fun β j => noP
  rd := fun β j => ifF j 18 (pA5 (b22_18 call n (pF5 (pB 0 β))) K) <| noP
  lp := fun β j m => ifL j 18 (pC5 (l22_18 call n m) K) <| noP }
@[irreducible] noncomputable def A22 : AFun := (compFn Try.prog Try.f22).getD ⟨0, [], .skip⟩
def w22 : Sh := shW 2 fun call n K => pA2 (s22 call n) K
theorem w22_ok {E : Env} (e : E.code 22 = some A22) : ShOK E 22 w22 := shW_ok (A := { pts := [(12, [0, 5]), (36, [0, 7, 22, 23, 24]), (37, [7])], lps := [(18, [0, 7, 22, 23, 24])] }) (S := T22) e (by kernel_rfl) (by kernel_rfl)
@[irreducible] noncomputable def A24 : AFun := (compFn Try.prog Try.f24).getD ⟨0, [], .skip⟩
def w24 : Sh := shW 1 fun call n K => pA1 (s24 call n) K
theorem w24_ok {E : Env} (e : E.code 24 = some A24) : ShOK E 24 w24 := shW_ok (A := { pts := [], lps := [] }) (S := noS) e (by kernel_rfl) (by kernel_rfl)
@[irreducible] noncomputable def A26 : AFun := (compFn Try.prog Try.f26).getD ⟨0, [], .skip⟩
def w26 : Sh := shW 1 fun call n K => pA1 (s26 call n) K
theorem w26_ok {E : Env} (e : E.code 26 = some A26) : ShOK E 26 w26 := shW_ok (A := { pts := [], lps := [] }) (S := noS) e (by kernel_rfl) (by kernel_rfl)
@[irreducible] noncomputable def A27 : AFun := (compFn Try.prog Try.f27).getD ⟨0, [], .skip⟩
def w27 : Sh := shW 0 fun call n K => pA0 (s27 call n) K
theorem w27_ok {E : Env} (e : E.code 27 = some A27) : ShOK E 27 w27 := shW_ok (A := { pts := [], lps := [] }) (S := noS) e (by kernel_rfl) (by kernel_rfl)
noncomputable def T28 (call : CallFn) (n : Nat) (K : Kont) : Sp := {
  pt := fun β j => ifF j 12 (pA4 (p28_12 call n) K) <| noP
  fs := fun β j => noP
  rd := fun β j => ifF j 18 (pA7 (b28_18 call n (pF7 (pB 0 β))) K) <| noP
  lp := fun β j m => ifL j 18 (pC7 (l28_18 call n m) K) <| noP }
@[irreducible] noncomputable def A28 : AFun := (compFn Try.prog Try.f28).getD ⟨0, [], .skip⟩
def w28 : Sh := shW 4 fun call n K => pA4 (s28 call n) K
theorem w28_ok {E : Env} (e : E.code 28 = some A28) : ShOK E 28 w28 := shW_ok (A := { pts := [(12, [0, 2, 3, 9])], lps := [(18, [0, 3, 9, 11, 33, 34, 35])] }) (S := T28) e (by kernel_rfl) (by kernel_rfl)
@[irreducible] noncomputable def A29 : AFun := (compFn Try.prog Try.f29).getD ⟨0, [], .skip⟩
def w29 : Sh := shW 2 fun call n K => pA2 (s29 call n) K
theorem w29_ok {E : Env} (e : E.code 29 = some A29) : ShOK E 29 w29 := shW_ok (A := { pts := [], lps := [] }) (S := noS) e (by kernel_rfl) (by kernel_rfl)
noncomputable def T30 (call : CallFn) (n : Nat) (K : Kont) : Sp := {
  pt := fun β j => ifF j 8 (pA3 (p30_8 call n) K) <| noP
  fs := fun β j => noP
  rd := fun β j => noP
  lp := fun β j m => noP }
@[irreducible] noncomputable def A30 : AFun := (compFn Try.prog Try.f30).getD ⟨0, [], .skip⟩
def w30 : Sh := shW 2 fun call n K => pA2 (s30 call n) K
theorem w30_ok {E : Env} (e : E.code 30 = some A30) : ShOK E 30 w30 := shW_ok (A := { pts := [(8, [0, 1, 4])], lps := [] }) (S := T30) e (by kernel_rfl) (by kernel_rfl)
@[irreducible] noncomputable def A31 : AFun := (compFn Try.prog Try.f31).getD ⟨0, [], .skip⟩
@[irreducible] noncomputable def A32 : AFun := (compFn Try.prog Try.f32).getD ⟨0, [], .skip⟩
@[irreducible] noncomputable def A33 : AFun := (compFn Try.prog Try.f33).getD ⟨0, [], .skip⟩
@[irreducible] noncomputable def A34 : AFun := (compFn Try.prog Try.f34).getD ⟨0, [], .skip⟩
@[irreducible] noncomputable def A35 : AFun := (compFn Try.prog Try.f35).getD ⟨0, [], .skip⟩
@[irreducible] noncomputable def A36 : AFun := (compFn Try.prog Try.f36).getD ⟨0, [], .skip⟩
def w36 : Sh := shW 1 fun call n K => pA1 (s36 call n) K
theorem w36_ok {E : Env} (e : E.code 36 = some A36) : ShOK E 36 w36 := shW_ok (A := { pts := [], lps := [] }) (S := noS) e (by kernel_rfl) (by kernel_rfl)
@[irreducible] noncomputable def A37 : AFun := (compFn Try.prog Try.f37).getD ⟨0, [], .skip⟩
@[irreducible] noncomputable def A38 : AFun := (compFn Try.prog Try.f38).getD ⟨0, [], .skip⟩
@[irreducible] noncomputable def A39 : AFun := (compFn Try.prog Try.f39).getD ⟨0, [], .skip⟩
def w39 : Sh := shW 1 fun call n K => pA1 (s39 call n) K
theorem w39_ok {E : Env} (e : E.code 39 = some A39) : ShOK E 39 w39 := shW_ok (A := { pts := [], lps := [] }) (S := noS) e (by kernel_rfl) (by kernel_rfl)
noncomputable def T40 (call : CallFn) (n : Nat) (K : Kont) : Sp := {
  pt := fun β j => ifF j 23 (pA3 (p40_23 call n) K) <| noP
  fs := fun β j => noP
  rd := fun β j => ifF j 8 (pA6 (b40_8 call n (pF6 (pB 0 β))) K) <| noP
  lp := fun β j m => ifL j 8 (pC6 (l40_8 call n m) K) <| noP }
@[irreducible] noncomputable def A40 : AFun := (compFn Try.prog Try.f40).getD ⟨0, [], .skip⟩
def w40 : Sh := shW 2 fun call n K => pA2 (s40 call n) K
theorem w40_ok {E : Env} (e : E.code 40 = some A40) : ShOK E 40 w40 := shW_ok (A := { pts := [(23, [0, 4, 5])], lps := [(8, [0, 4, 5, 10, 11, 12])] }) (S := T40) e (by kernel_rfl) (by kernel_rfl)
@[irreducible] noncomputable def A41 : AFun := (compFn Try.prog Try.f41).getD ⟨0, [], .skip⟩
def w41 : Sh := shW 1 fun call n K => pA1 (s41 call n) K
theorem w41_ok {E : Env} (e : E.code 41 = some A41) : ShOK E 41 w41 := shW_ok (A := { pts := [], lps := [] }) (S := noS) e (by kernel_rfl) (by kernel_rfl)
@[irreducible] noncomputable def A42 : AFun := (compFn Try.prog Try.f42).getD ⟨0, [], .skip⟩
def w42 : Sh := shW 2 fun call n K => pA2 (s42 call n) K
theorem w42_ok {E : Env} (e : E.code 42 = some A42) : ShOK E 42 w42 := shW_ok (A := { pts := [], lps := [] }) (S := noS) e (by kernel_rfl) (by kernel_rfl)
noncomputable def T44 (call : CallFn) (n : Nat) (K : Kont) : Sp := {
  pt := fun β j => ifF j 27 (pA2 (p44_27 call n) K) <| noP
  fs := fun β j => noP
  rd := fun β j => ifF j 8 (pA5 (b44_8 call n (pF5 (pB 0 β))) K) <| ifF j 33 (pA4 (b44_33 call n (pF4 (pB 0 β))) K) <| noP
  lp := fun β j m => ifL j 8 (pC5 (l44_8 call n m) K) <| ifL j 33 (pC4 (l44_33 call n m) K) <| noP }
@[irreducible] noncomputable def A44 : AFun := (compFn Try.prog Try.f44).getD ⟨0, [], .skip⟩
def w44 : Sh := shW 1 fun call n K => pA1 (s44 call n) K
theorem w44_ok {E : Env} (e : E.code 44 = some A44) : ShOK E 44 w44 := shW_ok (A := { pts := [(27, [0, 3])], lps := [(8, [0, 3, 9, 10, 11]), (33, [6, 25, 26, 27])] }) (S := T44) e (by kernel_rfl) (by kernel_rfl)
@[irreducible] noncomputable def A45 : AFun := (compFn Try.prog Try.f45).getD ⟨0, [], .skip⟩
noncomputable def T46 (call : CallFn) (n : Nat) (K : Kont) : Sp := {
  pt := fun β j => ifF j 10 (pA2 (p46_10 call n) K) <| ifF j 32 (pA6 (p46_32 call n (pF6 (pB 0 β))) K) <| noP
  fs := fun β j => noP
  rd := fun β j => ifF j 16 (pA6 (b46_16 call n (pF6 (pB 0 β))) K) <| noP
  lp := fun β j m => ifL j 16 (pC6 (l46_16 call n m) K) <| noP }
@[irreducible] noncomputable def A46 : AFun := (compFn Try.prog Try.f46).getD ⟨0, [], .skip⟩
def w46 : Sh := shW 2 fun call n K => pA2 (s46 call n) K
theorem w46_ok {E : Env} (e : E.code 46 = some A46) : ShOK E 46 w46 := shW_ok (A := { pts := [(10, [0, 1]), (32, [0, 1, 6, 16, 17, 18])], lps := [(16, [0, 1, 6, 16, 17, 18])] }) (S := T46) e (by kernel_rfl) (by kernel_rfl)
noncomputable def T48 (call : CallFn) (n : Nat) (K : Kont) : Sp := {
  pt := fun β j => ifF j 10 (pA2 (p48_10 call n) K) <| noP
  fs := fun β j => noP
  rd := fun β j => ifF j 16 (pA4 (b48_16 call n (pF4 (pB 0 β))) K) <| noP
  lp := fun β j m => ifL j 16 (pC4 (l48_16 call n m) K) <| noP }
@[irreducible] noncomputable def A48 : AFun := (compFn Try.prog Try.f48).getD ⟨0, [], .skip⟩
def w48 : Sh := shW 2 fun call n K => pA2 (s48 call n) K
theorem w48_ok {E : Env} (e : E.code 48 = some A48) : ShOK E 48 w48 := shW_ok (A := { pts := [(10, [0, 1])], lps := [(16, [0, 1, 5, 6])] }) (S := T48) e (by kernel_rfl) (by kernel_rfl)
noncomputable def T49 (call : CallFn) (n : Nat) (K : Kont) : Sp := {
  pt := fun β j => ifF j 29 (pA1 (p49_29 call n) K) <| noP
  fs := fun β j => noP
  rd := fun β j => ifF j 6 (pA3 (b49_6 call n (pF3 (pB 0 β))) K) <| noP
  lp := fun β j m => ifL j 6 (pC3 (l49_6 call n m) K) <| noP }
@[irreducible] noncomputable def A49 : AFun := (compFn Try.prog Try.f49).getD ⟨0, [], .skip⟩
def w49 : Sh := shW 1 fun call n K => pA1 (s49 call n) K
theorem w49_ok {E : Env} (e : E.code 49 = some A49) : ShOK E 49 w49 := shW_ok (A := { pts := [(29, [0])], lps := [(6, [0, 7, 8])] }) (S := T49) e (by kernel_rfl) (by kernel_rfl)
@[irreducible] noncomputable def A50 : AFun := (compFn Try.prog Try.f50).getD ⟨0, [], .skip⟩
def w50 : Sh := shW 2 fun call n K => pA2 (s50 call n) K
theorem w50_ok {E : Env} (e : E.code 50 = some A50) : ShOK E 50 w50 := shW_ok (A := { pts := [], lps := [] }) (S := noS) e (by kernel_rfl) (by kernel_rfl)
@[irreducible] noncomputable def A51 : AFun := (compFn Try.prog Try.f51).getD ⟨0, [], .skip⟩
def w51 : Sh := shW 2 fun call n K => pA2 (s51 call n) K
theorem w51_ok {E : Env} (e : E.code 51 = some A51) : ShOK E 51 w51 := shW_ok (A := { pts := [], lps := [] }) (S := noS) e (by kernel_rfl) (by kernel_rfl)
@[irreducible] noncomputable def A52 : AFun := (compFn Try.prog Try.f52).getD ⟨0, [], .skip⟩
def w52 : Sh := shW 2 fun call n K => pA2 (s52 call n) K
theorem w52_ok {E : Env} (e : E.code 52 = some A52) : ShOK E 52 w52 := shW_ok (A := { pts := [], lps := [] }) (S := noS) e (by kernel_rfl) (by kernel_rfl)
noncomputable def T53 (call : CallFn) (n : Nat) (K : Kont) : Sp := {
  pt := fun β j => noP
  fs := fun β j => noP
  rd := fun β j => ifF j 6 (pA4 (b53_6 call n (pF4 (pB 0 β))) K) <| noP
  lp := fun β j m => ifL j 6 (pC4 (l53_6 call n m) K) <| noP }
@[irreducible] noncomputable def A53 : AFun := (compFn Try.prog Try.f53).getD ⟨0, [], .skip⟩
def w53 : Sh := shW 2 fun call n K => pA2 (s53 call n) K
theorem w53_ok {E : Env} (e : E.code 53 = some A53) : ShOK E 53 w53 := shW_ok (A := { pts := [], lps := [(6, [0, 1, 7, 8])] }) (S := T53) e (by kernel_rfl) (by kernel_rfl)
@[irreducible] noncomputable def A54 : AFun := (compFn Try.prog Try.f54).getD ⟨0, [], .skip⟩
def w54 : Sh := shW 2 fun call n K => pA2 (s54 call n) K
theorem w54_ok {E : Env} (e : E.code 54 = some A54) : ShOK E 54 w54 := shW_ok (A := { pts := [], lps := [] }) (S := noS) e (by kernel_rfl) (by kernel_rfl)
@[irreducible] noncomputable def A55 : AFun := (compFn Try.prog Try.f55).getD ⟨0, [], .skip⟩
def w55 : Sh := shW 4 fun call n K => pA4 (s55 call n) K
theorem w55_ok {E : Env} (e : E.code 55 = some A55) : ShOK E 55 w55 := shW_ok (A := { pts := [], lps := [] }) (S := noS) e (by kernel_rfl) (by kernel_rfl)
@[irreducible] noncomputable def A56 : AFun := (compFn Try.prog Try.f56).getD ⟨0, [], .skip⟩
def w56 : Sh := shW 2 fun call n K => pA2 (s56 call n) K
theorem w56_ok {E : Env} (e : E.code 56 = some A56) : ShOK E 56 w56 := shW_ok (A := { pts := [], lps := [] }) (S := noS) e (by kernel_rfl) (by kernel_rfl)
noncomputable def T57 (call : CallFn) (n : Nat) (K : Kont) : Sp := {
  pt := fun β j => ifF j 23 (pA2 (p57_23 call n) K) <| noP
  fs := fun β j => noP
  rd := fun β j => ifF j 10 (pA5 (b57_10 call n (pF5 (pB 0 β))) K) <| noP
  lp := fun β j m => ifL j 10 (pC5 (l57_10 call n m) K) <| noP }
@[irreducible] noncomputable def A57 : AFun := (compFn Try.prog Try.f57).getD ⟨0, [], .skip⟩
def w57 : Sh := shW 1 fun call n K => pA1 (s57 call n) K
theorem w57_ok {E : Env} (e : E.code 57 = some A57) : ShOK E 57 w57 := shW_ok (A := { pts := [(23, [1, 2])], lps := [(10, [1, 2, 9, 10, 11])] }) (S := T57) e (by kernel_rfl) (by kernel_rfl)
noncomputable def T58 (call : CallFn) (n : Nat) (K : Kont) : Sp := {
  pt := fun β j => ifF j 23 (pA5 (p58_23 call n) K) <| noP
  fs := fun β j => noP
  rd := fun β j => ifF j 8 (pA6 (b58_8 call n (pF6 (pB 0 β))) K) <| noP
  lp := fun β j m => ifL j 8 (pC6 (l58_8 call n m) K) <| noP }
@[irreducible] noncomputable def A58 : AFun := (compFn Try.prog Try.f58).getD ⟨0, [], .skip⟩
def w58 : Sh := shW 3 fun call n K => pA3 (s58 call n) K
theorem w58_ok {E : Env} (e : E.code 58 = some A58) : ShOK E 58 w58 := shW_ok (A := { pts := [(23, [0, 1, 2, 8, 9])], lps := [(8, [0, 1, 2, 8, 9, 10])] }) (S := T58) e (by kernel_rfl) (by kernel_rfl)
@[irreducible] noncomputable def A60 : AFun := (compFn Try.prog Try.f60).getD ⟨0, [], .skip⟩
@[irreducible] noncomputable def A61 : AFun := (compFn Try.prog Try.f61).getD ⟨0, [], .skip⟩
noncomputable def T62 (call : CallFn) (n : Nat) (K : Kont) : Sp := {
  pt := fun β j => noP
  fs := fun β j => noP
  rd := fun β j => ifF j 8 (pA4 (b62_8 call n (pF4 (pB 0 β))) K) <| noP
  lp := fun β j m => ifL j 8 (pC4 (l62_8 call n m) K) <| noP }
@[irreducible] noncomputable def A62 : AFun := (compFn Try.prog Try.f62).getD ⟨0, [], .skip⟩
def w62 : Sh := shW 1 fun call n K => pA1 (s62 call n) K
theorem w62_ok {E : Env} (e : E.code 62 = some A62) : ShOK E 62 w62 := shW_ok (A := { pts := [], lps := [(8, [3, 6, 7, 8])] }) (S := T62) e (by kernel_rfl) (by kernel_rfl)
@[irreducible] noncomputable def A63 : AFun := (compFn Try.prog Try.f63).getD ⟨0, [], .skip⟩
noncomputable def T64 (call : CallFn) (n : Nat) (K : Kont) : Sp := {
  pt := fun β j => ifF j 39 (pA3 (p64_39 call n) K) <| ifF j 64 (pA2 (p64_64 call n) K) <| noP
  fs := fun β j => noP
  rd := fun β j => ifF j 42 (pA6 (b64_42 call n (pF6 (pB 0 β))) K) <| noP
  lp := fun β j m => ifL j 42 (pC6 (l64_42 call n m) K) <| noP }
@[irreducible] noncomputable def A64 : AFun := (compFn Try.prog Try.f64).getD ⟨0, [], .skip⟩
def w64 : Sh := shW 2 fun call n K => pA2 (s64 call n) K
theorem w64_ok {E : Env} (e : E.code 64 = some A64) : ShOK E 64 w64 := shW_ok (A := { pts := [(39, [1, 2, 5]), (64, [2, 5])], lps := [(42, [1, 2, 5, 47, 48, 49])] }) (S := T64) e (by kernel_rfl) (by kernel_rfl)
@[irreducible] noncomputable def A65 : AFun := (compFn Try.prog Try.f65).getD ⟨0, [], .skip⟩
def w65 : Sh := shW 1 fun call n K => pA1 (s65 call n) K
theorem w65_ok {E : Env} (e : E.code 65 = some A65) : ShOK E 65 w65 := shW_ok (A := { pts := [], lps := [] }) (S := noS) e (by kernel_rfl) (by kernel_rfl)
@[irreducible] noncomputable def A67 : AFun := (compFn Try.prog Try.f67).getD ⟨0, [], .skip⟩
def w67 : Sh := shW 2 fun call n K => pA2 (s67 call n) K
theorem w67_ok {E : Env} (e : E.code 67 = some A67) : ShOK E 67 w67 := shW_ok (A := { pts := [], lps := [] }) (S := noS) e (by kernel_rfl) (by kernel_rfl)
noncomputable def T70 (call : CallFn) (n : Nat) (K : Kont) : Sp := {
  pt := fun β j => ifF j 156 (pA1 (p70_156 call n) K) <| noP
  fs := fun β j => noP
  rd := fun β j => noP
  lp := fun β j m => noP }
@[irreducible] noncomputable def A70 : AFun := (compFn Try.prog Try.f70).getD ⟨0, [], .skip⟩
def w70 : Sh := shW 1 fun call n K => pA1 (s70 call n) K
theorem w70_ok {E : Env} (e : E.code 70 = some A70) : ShOK E 70 w70 := shW_ok (A := { pts := [(156, [4])], lps := [] }) (S := T70) e (by kernel_rfl) (by kernel_rfl)
noncomputable def T71 (call : CallFn) (n : Nat) (K : Kont) : Sp := {
  pt := fun β j => noP
  fs := fun β j => noP
  rd := fun β j => ifF j 6 (pA4 (b71_6 call n (pF4 (pB 0 β))) K) <| noP
  lp := fun β j m => ifL j 6 (pC4 (l71_6 call n m) K) <| noP }
@[irreducible] noncomputable def A71 : AFun := (compFn Try.prog Try.f71).getD ⟨0, [], .skip⟩
def w71 : Sh := shW 2 fun call n K => pA2 (s71 call n) K
theorem w71_ok {E : Env} (e : E.code 71 = some A71) : ShOK E 71 w71 := shW_ok (A := { pts := [], lps := [(6, [0, 1, 7, 8])] }) (S := T71) e (by kernel_rfl) (by kernel_rfl)
noncomputable def T74 (call : CallFn) (n : Nat) (K : Kont) : Sp := {
  pt := fun β j => ifF j 18 (pA4 (p74_18 call n) K) <| noP
  fs := fun β j => noP
  rd := fun β j => ifF j 32 (pA4 (b74_32 call n (pF4 (pB 0 β))) K) <| noP
  lp := fun β j m => ifL j 32 (pC4 (l74_32 call n m) K) <| noP }
@[irreducible] noncomputable def A74 : AFun := (compFn Try.prog Try.f74).getD ⟨0, [], .skip⟩
def w74 : Sh := shW 2 fun call n K => pA2 (s74 call n) K
theorem w74_ok {E : Env} (e : E.code 74 = some A74) : ShOK E 74 w74 := shW_ok (A := { pts := [(18, [0, 3, 14, 24])], lps := [(32, [0, 52, 53, 54])] }) (S := T74) e (by kernel_rfl) (by kernel_rfl)
@[irreducible] noncomputable def A87 : AFun := (compFn Try.prog Try.f87).getD ⟨0, [], .skip⟩
def w87 : Sh := shW 1 fun call n K => pA1 (s87 call n) K
theorem w87_ok {E : Env} (e : E.code 87 = some A87) : ShOK E 87 w87 := shW_ok (A := { pts := [], lps := [] }) (S := noS) e (by kernel_rfl) (by kernel_rfl)
noncomputable def T88 (call : CallFn) (n : Nat) (K : Kont) : Sp := {
  pt := fun β j => noP
  fs := fun β j => noP
  rd := fun β j => ifF j 6 (pA3 (b88_6 call n (pF3 (pB 0 β))) K) <| noP
  lp := fun β j m => ifL j 6 (pC3 (l88_6 call n m) K) <| noP }
@[irreducible] noncomputable def A88 : AFun := (compFn Try.prog Try.f88).getD ⟨0, [], .skip⟩
def w88 : Sh := shW 3 fun call n K => pA3 (s88 call n) K
theorem w88_ok {E : Env} (e : E.code 88 = some A88) : ShOK E 88 w88 := shW_ok (A := { pts := [], lps := [(6, [0, 1, 7])] }) (S := T88) e (by kernel_rfl) (by kernel_rfl)
end Go.Proofs.Ythifmankpcadjaa
