/-
  Justifications, as they lie on the heap: contents and matches, each with what it hangs on.
-/
import Derived.Test.YtbamgdknkhhikaaT0
import Derived.Test.YtbamgdknkhhikaaXD
namespace Go.Proofs.Ytbamgdknkhhikaa
open Go.Ab
set_option linter.unusedSimpArgs false
set_option linter.unusedVariables false

structure CD where
  id : Nat
  m : Nat
  cls : Str
  vals : AV
  came : Nat
  bys : List (BK × Unit)
structure RD where
  id : Nat
  m : Nat
  core : Int
  els : AV
  env : AV
  came : Nat
  ofs : List (SK × Unit)
structure TD where
  p : Nat
  cm : Nat
  rm : Nat
  cs : List (SK × CD)
  rs : List (BK × RD)
  came : Nat
  n : Nat

/-- What a place on the heap is for. -/
inductive Tag where
  | out | dat | p | cm | rm
  | c (k : SK)
  | b (k : SK)
  | r (k : BK)
  | o (k : BK)
/-- The object's own places, which are written. -/
def Tag.own : Tag → Prop
  | .out => False
  | .dat => False
  | _ => True

abbrev W8 (τ : Nat → Tag) : Nat → Prop := fun j => (τ j).own

def one {κ : Type} (l : List (κ × Unit)) : List (κ × AV) := mp (fun _ => .agg []) l

structure CO (τ : Nat → Tag) (h : AHeap) (k : SK) (x : CD) : Prop where
  tid : τ x.id = .c k
  tm : τ x.m = .b k
  row : Var h x.id [.str x.cls, x.vals, .int .i64 (x.came : Int), .map x.m]
  map : KMap bk2 h x.m (one x.bys)
  sm : AV.same x.vals x.vals = true
structure RO (τ : Nat → Tag) (h : AHeap) (k : BK) (x : RD) : Prop where
  tid : τ x.id = .r k
  tm : τ x.m = .o k
  row : Var h x.id [.int .i64 x.core, x.els, x.env, .int .i64 (x.came : Int), .map x.m]
  map : KMap sk h x.m (one x.ofs)

structure TO (τ : Nat → Tag) (h : AHeap) (T : TD) : Prop where
  ok : h.Ok
  hi : ∀ j, h.sz ≤ j → τ j = .out
  tp : τ T.p = .p
  tc : τ T.cm = .cm
  tr : τ T.rm = .rm
  var : Var h T.p [.map T.cm, .map T.rm, .int .i64 (T.came : Int), .int .i64 (T.n : Int)]
  cs : KMap sk h T.cm (mp (fun x => .ptr x.id 0 0 0) T.cs)
  rs : KMap bk2 h T.rm (mp (fun x => .ptr x.id 0 0 0) T.rs)
  c : ∀ k x, (k, x) ∈ T.cs → CO τ h k x
  r : ∀ k x, (k, x) ∈ T.rs → RO τ h k x

section
variable {τ τ' : Nat → Tag} {h h' : AHeap} {T : TD} {X : Nat → Prop}
theorem TO.ck (O : TO τ h T) : (T.cs.map fun p => p.1).Nodup := by have := O.cs.keys; rwa [mp_keys] at this
theorem TO.rk (O : TO τ h T) : (T.rs.map fun p => p.1).Nodup := by have := O.rs.keys; rwa [mp_keys] at this
theorem CO.fr {k : SK} {x : CD} (C : CO τ h k x) (f : Fr X h h') (h1 : ∀ j, X j → τ j ≠ .c k) (h2 : ∀ j, X j → τ j ≠ .b k) (ht : ∀ j, τ j ≠ .out → τ' j = τ j) : CO τ' h' k x :=
  ⟨by rw [ht _ (by rw [C.tid]; exact fun e => by cases e)]; exact C.tid, by rw [ht _ (by rw [C.tm]; exact fun e => by cases e)]; exact C.tm, f.var C.row fun e => h1 _ e C.tid, f.kmap C.map fun e => h2 _ e C.tm, C.sm⟩
theorem RO.fr {k : BK} {x : RD} (C : RO τ h k x) (f : Fr X h h') (h1 : ∀ j, X j → τ j ≠ .r k) (h2 : ∀ j, X j → τ j ≠ .o k) (ht : ∀ j, τ j ≠ .out → τ' j = τ j) : RO τ' h' k x :=
  ⟨by rw [ht _ (by rw [C.tid]; exact fun e => by cases e)]; exact C.tid, by rw [ht _ (by rw [C.tm]; exact fun e => by cases e)]; exact C.tm, f.var C.row fun e => h1 _ e C.tid, f.kmap C.map fun e => h2 _ e C.tm⟩

/-- What is written lies outside. -/
theorem TO.fr (O : TO τ h T) (f : Fr X h h') (o : h'.Ok) (hx : ∀ j, X j → ¬ (τ j).own) : TO τ h' T := by
  have no : ∀ {j t}, τ j = t → t.own → ¬ X j := fun e w x => hx _ x (by rw [e]; exact w)
  have no' : ∀ {t : Tag}, t.own → ∀ j, X j → τ j ≠ t := fun w j x e => hx j x (by rw [e]; exact w)
  exact ⟨o, fun j hj => O.hi j (Nat.le_trans f.sz hj), O.tp, O.tc, O.tr, f.var O.var (no O.tp trivial), f.kmap O.cs (no O.tc trivial), f.kmap O.rs (no O.tr trivial),
    fun k x hx => (O.c k x hx).fr f (no' trivial) (no' trivial) fun _ _ => rfl, fun k x hx => (O.r k x hx).fr f (no' trivial) (no' trivial) fun _ _ => rfl⟩
theorem TO.ext (O : TO τ h T) (e : Ext h h') (o : h'.Ok) : TO τ h' T := O.fr (Fr.of_ext (X := fun _ => False) e) o fun _ x => x.elim
theorem TO.plt (O : TO τ h T) : T.p < h.sz := O.var.lt O.ok

/-- The object's own cells. -/
theorem TO.put (O : TO τ h T) {ca n : Nat} (f : Fr (fun j => j = T.p) h h') (o : h'.Ok) (V : Var h' T.p [.map T.cm, .map T.rm, .int .i64 (ca : Int), .int .i64 (n : Int)]) : TO τ h' { T with came := ca, n := n } := by
  have no : ∀ {j t}, τ j = t → t ≠ .p → ¬ j = T.p := fun e w x => w (by rw [← e, x]; exact O.tp)
  have no' : ∀ {t : Tag}, t ≠ .p → ∀ j, j = T.p → τ j ≠ t := fun w j x e => w (by rw [← e, x]; exact O.tp)
  exact ⟨o, fun j hj => O.hi j (Nat.le_trans f.sz hj), O.tp, O.tc, O.tr, V, f.kmap O.cs (no O.tc fun e => by cases e), f.kmap O.rs (no O.tr fun e => by cases e),
    fun k x hx => (O.c k x hx).fr f (no' fun e => by cases e) (no' fun e => by cases e) fun _ _ => rfl, fun k x hx => (O.r k x hx).fr f (no' fun e => by cases e) (no' fun e => by cases e) fun _ _ => rfl⟩

/-- A content's map, written. -/
theorem TO.bys (O : TO τ h T) {k : SK} {x : CD} {l : List (BK × Unit)} (hx : lkG T.cs k = some x) (f : Fr (fun j => j = x.m) h h') (o : h'.Ok) (M : KMap bk2 h' x.m (one l)) : TO τ h' { T with cs := upG T.cs k { x with bys := l } } := by
  have C := O.c k x (lkG_mem hx)
  have no : ∀ {j t}, τ j = t → t ≠ .b k → ¬ j = x.m := fun e w y => w (by rw [← e, y]; exact C.tm)
  have no' : ∀ {t : Tag}, t ≠ .b k → ∀ j, j = x.m → τ j ≠ t := fun w j y e => w (by rw [← e, y]; exact C.tm)
  refine ⟨o, fun j hj => O.hi j (Nat.le_trans f.sz hj), O.tp, O.tc, O.tr, f.var O.var (no O.tp fun e => by cases e), ?_, f.kmap O.rs (no O.tr fun e => by cases e), fun k' y hy => ?_, fun k y hx => (O.r k y hx).fr f (no' fun e => by cases e) (no' fun e => by cases e) fun _ _ => rfl⟩
  · have := f.kmap O.cs (no O.tc fun e => by cases e)
    have e : mp (fun x : CD => AV.ptr x.id 0 0 0) (upG T.cs k { x with bys := l }) = mp (fun x : CD => AV.ptr x.id 0 0 0) T.cs := by
      rw [upG_mp, upG_same]
      rw [lkG_mp, hx]; rfl
    show KMap sk h' T.cm (mp (fun x : CD => AV.ptr x.id 0 0 0) (upG T.cs k { x with bys := l }))
    rw [e]; exact this
  · by_cases ek : k' = k
    · subst ek
      have := lkG_of_mem (upG_nodup O.ck) hy
      rw [lkG_up, if_pos rfl] at this
      cases this
      exact ⟨C.tid, C.tm, f.var C.row (no C.tid fun e => by cases e), M, C.sm⟩
    · rcases upG_mem hy with e | hy
      · cases e; exact absurd rfl ek
      · exact (O.c k' y hy).fr f (no' fun e => by cases e) (no' fun e => by cases e; exact ek rfl) fun _ _ => rfl
/-- A match's map, written. -/
theorem TO.ofs (O : TO τ h T) {k : BK} {x : RD} {l : List (SK × Unit)} (hx : lkG T.rs k = some x) (f : Fr (fun j => j = x.m) h h') (o : h'.Ok) (M : KMap sk h' x.m (one l)) : TO τ h' { T with rs := upG T.rs k { x with ofs := l } } := by
  have C := O.r k x (lkG_mem hx)
  have no : ∀ {j t}, τ j = t → t ≠ .o k → ¬ j = x.m := fun e w y => w (by rw [← e, y]; exact C.tm)
  have no' : ∀ {t : Tag}, t ≠ .o k → ∀ j, j = x.m → τ j ≠ t := fun w j y e => w (by rw [← e, y]; exact C.tm)
  refine ⟨o, fun j hj => O.hi j (Nat.le_trans f.sz hj), O.tp, O.tc, O.tr, f.var O.var (no O.tp fun e => by cases e), f.kmap O.cs (no O.tc fun e => by cases e), ?_, fun k y hx => (O.c k y hx).fr f (no' fun e => by cases e) (no' fun e => by cases e) fun _ _ => rfl, fun k' y hy => ?_⟩
  · have := f.kmap O.rs (no O.tr fun e => by cases e)
    have e : mp (fun x : RD => AV.ptr x.id 0 0 0) (upG T.rs k { x with ofs := l }) = mp (fun x : RD => AV.ptr x.id 0 0 0) T.rs := by
      rw [upG_mp, upG_same]
      rw [lkG_mp, hx]; rfl
    show KMap bk2 h' T.rm (mp (fun x : RD => AV.ptr x.id 0 0 0) (upG T.rs k { x with ofs := l }))
    rw [e]; exact this
  · by_cases ek : k' = k
    · subst ek
      have := lkG_of_mem (upG_nodup O.rk) hy
      rw [lkG_up, if_pos rfl] at this
      cases this
      exact ⟨C.tid, C.tm, f.var C.row (no C.tid fun e => by cases e), M⟩
    · rcases upG_mem hy with e | hy
      · cases e; exact absurd rfl ek
      · exact (O.r k' y hy).fr f (no' fun e => by cases e) (no' fun e => by cases e; exact ek rfl) fun _ _ => rfl
/-- A content goes. -/
theorem TO.delc (O : TO τ h T) {k : SK} (f : Fr (fun j => j = T.cm) h h') (o : h'.Ok) (M : KMap sk h' T.cm (dl (mp (fun x => .ptr x.id 0 0 0) T.cs) k)) : TO τ h' { T with cs := dlG T.cs k } := by
  have no : ∀ {j t}, τ j = t → t ≠ .cm → ¬ j = T.cm := fun e w x => w (by rw [← e, x]; exact O.tc)
  have no' : ∀ {t : Tag}, t ≠ .cm → ∀ j, j = T.cm → τ j ≠ t := fun w j x e => w (by rw [← e, x]; exact O.tc)
  refine ⟨o, fun j hj => O.hi j (Nat.le_trans f.sz hj), O.tp, O.tc, O.tr, f.var O.var (no O.tp fun e => by cases e), ?_, f.kmap O.rs (no O.tr fun e => by cases e),
    fun k' x hx => (O.c k' x (dlG_sub.subset hx)).fr f (no' fun e => by cases e) (no' fun e => by cases e) fun _ _ => rfl, fun k x hx => (O.r k x hx).fr f (no' fun e => by cases e) (no' fun e => by cases e) fun _ _ => rfl⟩
  rw [dl_G, ← dlG_mp] at M; exact M
theorem TO.delr (O : TO τ h T) {k : BK} (f : Fr (fun j => j = T.rm) h h') (o : h'.Ok) (M : KMap bk2 h' T.rm (dl (mp (fun x => .ptr x.id 0 0 0) T.rs) k)) : TO τ h' { T with rs := dlG T.rs k } := by
  have no : ∀ {j t}, τ j = t → t ≠ .rm → ¬ j = T.rm := fun e w x => w (by rw [← e, x]; exact O.tr)
  have no' : ∀ {t : Tag}, t ≠ .rm → ∀ j, j = T.rm → τ j ≠ t := fun w j x e => w (by rw [← e, x]; exact O.tr)
  refine ⟨o, fun j hj => O.hi j (Nat.le_trans f.sz hj), O.tp, O.tc, O.tr, f.var O.var (no O.tp fun e => by cases e), f.kmap O.cs (no O.tc fun e => by cases e), ?_, 
    fun k x hx => (O.c k x hx).fr f (no' fun e => by cases e) (no' fun e => by cases e) fun _ _ => rfl, fun k' x hx => (O.r k' x (dlG_sub.subset hx)).fr f (no' fun e => by cases e) (no' fun e => by cases e) fun _ _ => rfl⟩
  rw [dl_G, ← dlG_mp] at M; exact M

/-! ### What is read -/
theorem TO.l0 (O : TO τ h T) : loadA h false 1 (.ptr T.p 0 0 0) = some (.map T.cm) := O.var.get rfl
theorem TO.l1 (O : TO τ h T) : loadA h false 1 (.ptr T.p 0 0 1) = some (.map T.rm) := O.var.get rfl
theorem TO.l2 (O : TO τ h T) : loadA h false 1 (.ptr T.p 0 0 2) = some (.int .i64 (T.came : Int)) := O.var.get rfl
theorem TO.l3 (O : TO τ h T) : loadA h false 1 (.ptr T.p 0 0 3) = some (.int .i64 (T.n : Int)) := O.var.get rfl
theorem TO.lkc (O : TO τ h T) {k : SK} {x : CD} (e : lkG T.cs k = some x) : lookA h (.st [.str, .str]) false .nilPtr (.map T.cm) (sk k) = some (.ptr x.id 0 0 0) := by
  rw [O.cs.look sks, lk_G, lkG_mp, e]; rfl
theorem TO.lkc0 (O : TO τ h T) {k : SK} (e : lkG T.cs k = none) : lookA h (.st [.str, .str]) false .nilPtr (.map T.cm) (sk k) = some .nilPtr := by
  rw [O.cs.look sks, lk_G, lkG_mp, e]; rfl
theorem TO.lkr (O : TO τ h T) {k : BK} {x : RD} (e : lkG T.rs k = some x) : lookA h (.st [.int, .str]) false .nilPtr (.map T.rm) (bk2 k) = some (.ptr x.id 0 0 0) := by
  rw [O.rs.look bks, lk_G, lkG_mp, e]; rfl
theorem TO.lkr0 (O : TO τ h T) {k : BK} (e : lkG T.rs k = none) : lookA h (.st [.int, .str]) false .nilPtr (.map T.rm) (bk2 k) = some .nilPtr := by
  rw [O.rs.look bks, lk_G, lkG_mp, e]; rfl
theorem CO.l3 {k : SK} {x : CD} (C : CO τ h k x) : loadA h false 1 (.ptr x.id 0 0 3) = some (.map x.m) := C.row.get rfl
theorem CO.l2 {k : SK} {x : CD} (C : CO τ h k x) : loadA h false 1 (.ptr x.id 0 0 2) = some (.int .i64 (x.came : Int)) := C.row.get rfl
theorem CO.l1 {k : SK} {x : CD} (C : CO τ h k x) : loadA h false 1 (.ptr x.id 0 0 1) = some x.vals := C.row.get rfl
theorem CO.l0 {k : SK} {x : CD} (C : CO τ h k x) : loadA h false 1 (.ptr x.id 0 0 0) = some (.str x.cls) := C.row.get rfl
theorem RO.l4 {k : BK} {x : RD} (C : RO τ h k x) : loadA h false 1 (.ptr x.id 0 0 4) = some (.map x.m) := C.row.get rfl
theorem RO.l3 {k : BK} {x : RD} (C : RO τ h k x) : loadA h false 1 (.ptr x.id 0 0 3) = some (.int .i64 (x.came : Int)) := C.row.get rfl
end
end Go.Proofs.Ytbamgdknkhhikaa
