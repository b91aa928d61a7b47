/-
  Functions of the model's own that are not walked: abi.NoEscape, bytealg.IndexByteString.
-/
import Derived.Test.YtgmdelacokkenaaGreatDoorAbSim
import Derived.Laws.Externs
import GoSem.Extern.MapsClone
import Derived.Lib.Builder
namespace Go.Ab
noncomputable section
set_option linter.unusedSimpArgs false
set_option linter.unusedVariables false

abbrev Prim := CallFn → Nat → List AV → AHeap → Kont → Bool

def lookP : List (Nat × Prim) → Nat → Option Prim
  | [], _ => none
  | (k, p) :: l, f => bif Nat.beq k f then some p else lookP l f

def envP (tbl : List (Nat × AFun)) (ps : List (Nat × Prim)) : Env := { code := lookT tbl, prim := lookP ps }

theorem lookP_mem {f : Nat} {p : Prim} : ∀ {l : List (Nat × Prim)}, lookP l f = some p → (f, p) ∈ l
  | [], h => by cases h
  | (k, x) :: l, h => by
    simp only [lookP] at h
    cases hb : Nat.beq k f with
    | true =>
      rw [hb, cond_true] at h
      cases h
      rw [Nat.eq_of_beq_eq_true hb]
      exact List.mem_cons_self
    | false =>
      rw [hb, cond_false] at h
      exact List.mem_cons_of_mem _ (lookP_mem h)

def MonoP (p : Prim) : Prop := ∀ (call call' : CallFn) n args h (K K' : Kont), Le call call' → (∀ v h', K v h' = true → K' v h' = true) → p call n args h K = true → p call' n args h K' = true
def AllMono : List (Nat × Prim) → Prop
  | [] => True
  | (_, p) :: l => MonoP p ∧ AllMono l
theorem AllMono.mem : ∀ {l : List (Nat × Prim)}, AllMono l → ∀ k p, (k, p) ∈ l → MonoP p
  | [], _, _, _, h => by cases h
  | (k, q) :: l, ⟨h1, h2⟩, k', p, h => by
    rcases List.mem_cons.1 h with e | h
    · cases e; exact h1
    · exact AllMono.mem h2 k' p h
theorem envP_le {tbl : List (Nat × AFun)} {ps : List (Nat × Prim)} (h : AllMono ps) : PrimLe (envP tbl ps) := fun f p hp => h.mem f p (lookP_mem hp)

def AllPrim (P : Program) : List (Nat × Prim) → Prop
  | [] => True
  | (k, p) :: l => PrimOK P k p ∧ AllPrim P l
theorem AllPrim.mem {P : Program} : ∀ {l : List (Nat × Prim)}, AllPrim P l → ∀ k p, (k, p) ∈ l → PrimOK P k p
  | [], _, _, _, h => by cases h
  | (k, q) :: l, ⟨h1, h2⟩, k', p, h => by
    rcases List.mem_cons.1 h with e | h
    · cases e; exact h1
    · exact AllPrim.mem h2 k' p h
theorem envP_ok {P : Program} {tbl : List (Nat × AFun)} {ps : List (Nat × Prim)} (h : AllOK P tbl) (hp : AllPrim P ps) : EnvOK P (envP tbl ps) :=
  ⟨fun f p e => hp.mem f p (lookP_mem e), fun f fn hf => h.mem f fn (lookT_mem hf)⟩

/-! ### abi.NoEscape -/
def noEsc : Prim := fun _ _ args h K => match args with
  | [.ptr a b c d] => K (.ptr a b c d) h
  | _ => false
theorem noEsc_mono : MonoP noEsc := by
  intro call call' n args h K K' _ hK s
  unfold noEsc at s ⊢
  split at s
  · exact hK _ _ s
  · cases s

/-- A function without a body that the model answers. -/
theorem lands_extern {P : Program} {f : Nat} {fn : Func} {e : Array Value → Sem Value} {B : Base} {φ : Phi} {w : World} {K : Kont} {h : AHeap} {v : AV} {cv : Value} {args : List Value} (hf : P.funcs[f]? = some fn) (hname : (fn.name == "runtime.NumGoroutine") = false) (hb : fn.body.isNone = true) (hn : Extern.findNext fn = none) (he : Extern.find fn = some e)
    (hrun : (e ⟨args⟩).run P w = .ok cv w) (H : RelH P B φ h w) (hv : RelV φ v cv) (hK : K v h = true) : Lands P B φ w K ((callFunc f ⟨args⟩).run P w) := by
  rw [run_callFunc_extern hf hname hb hn he, hrun]
  exact .inl ⟨v, h, cv, φ, rfl, hK, hv, H, φ.le_refl, Gw.refl B w⟩

theorem noEsc_ok {P : Program} {f : Nat} {fn : Func} (hf : P.funcs[f]? = some fn) (hname : (fn.name == "runtime.NumGoroutine") = false) (hb : fn.body.isNone = true) (hn : Extern.findNext fn = none) (he : Extern.find fn = some Extern.AbiNoEscape.same) : PrimOK P f noEsc := by
  intro call n _ args h K hK
  unfold noEsc at hK
  split at hK
  · rename_i a b c d
    refine ⟨fun v hv id e => ?_, fun B φ w cargs H hA => ?_⟩
    · simp only [List.mem_singleton] at hv; subst hv; cases e
    · cases hA with
      | cons h1 h2 =>
        cases h2
        rename_i cv _
        exact lands_extern (v := .ptr a b c d) hf hname hb hn he (Lib.run_noEscape w _) H h1 hK
  · cases hK

/-! ### bytealg.IndexByteString -/
def idxB (c : Nat) : List Nat → Nat → Int
  | [], _ => -1
  | b :: l, i => bif Nat.beq b c then (i : Int) else idxB c l (i + 1)
def idxByte : Prim := fun _ _ args h K => match args with
  | [.str s, .int .u8 (.ofNat c)] => bif Nat.blt c 256 then K (.int .i64 (idxB c s 0)) h else false
  | _ => false
theorem idxByte_mono : MonoP idxByte := by
  intro call call' n args h K K' _ hK s
  unfold idxByte at s ⊢
  split at s
  · rename_i s' c
    cases hb : Nat.blt c 256 with
    | false => rw [hb] at s; cases s
    | true => rw [hb] at s; exact hK _ _ s
  · cases s

theorem idxB_find {bs : List UInt8} {c : UInt8} {g : Nat → UInt8} (hg : ∀ j (h : j < bs.length), g j = bs[j]) : ∀ (m i : Nat), m + i = bs.length → (match (List.range' i m).find? (fun j => g j == c) with | some j => (j : Int) | none => -1) = idxB c.toNat ((bs.drop i).map UInt8.toNat) i
  | 0, i, h => by
    rw [List.drop_of_length_le (by omega)]; rfl
  | m + 1, i, h => by
    have hlt : i < bs.length := by omega
    rw [List.range'_succ, List.find?_cons, List.drop_eq_getElem_cons hlt, List.map_cons, idxB, hg i hlt]
    by_cases hc : bs[i] = c
    · have : Nat.beq (bs[i]).toNat c.toNat = true := by rw [hc]; exact nbeq_true.2 rfl
      rw [this, cond_true]
      simp [hc]
    · have : Nat.beq (bs[i]).toNat c.toNat = false := nbeq_false.2 (fun e => hc (UInt8.toNat_inj.1 e))
      have h2 : (bs[i] == c) = false := by simpa using hc
      rw [this, cond_false, h2]
      exact idxB_find hg m (i + 1) (by omega)

theorem firstIdx_eq (bs : ByteArray) (c : UInt8) : firstIdx bs c = idxB c.toNat (bs.data.toList.map UInt8.toNat) 0 := by
  have hl : bs.data.toList.length = bs.size := Array.length_toList
  have := idxB_find (bs := bs.data.toList) (c := c) (g := fun j => bs[j]!) (fun j h => by
    have hj : j < bs.size := by omega
    rw [getElem!_pos bs j hj]
    rfl) bs.size 0 (by omega)
  rw [List.drop_zero] at this
  rw [← this]
  unfold firstIdx
  rw [List.range_eq_range']
  cases List.find? (fun i => bs[i]! == c) (List.range' 0 bs.size) <;> rfl

theorem idxByte_ok {P : Program} {f : Nat} {fn : Func} (hf : P.funcs[f]? = some fn) (hname : (fn.name == "runtime.NumGoroutine") = false) (hb : fn.body.isNone = true) (hn : Extern.findNext fn = none) (he : Extern.find fn = some Extern.BytealgIndexByte.indexByte) : PrimOK P f idxByte := by
  intro call n _ args h K hK
  unfold idxByte at hK
  split at hK
  · rename_i s c
    cases hc : Nat.blt c 256 with
    | false => rw [hc] at hK; cases hK
    | true =>
      rw [hc, cond_true] at hK
      have hc := nblt_true.1 hc
      refine ⟨fun v hv id e => ?_, fun B φ w cargs H hA => ?_⟩
      · simp only [List.mem_cons, List.not_mem_nil, or_false] at hv
        rcases hv with rfl | rfl <;> cases e
      · cases hA with
        | cons h1 h2 =>
          cases h2 with
          | cons h2 h3 =>
            cases h3
            cases h1 with
            | str hs =>
              rename_i bs
              cases h2
              have hcc : (Int.ofNat c).toNat.toUInt8.toNat = c := by
                show (UInt8.ofNat c).toNat = c
                rw [UInt8.toNat_ofNat', Nat.mod_eq_of_lt hc]
              have he2 := firstIdx_eq bs (Int.ofNat c).toNat.toUInt8
              rw [hcc, hs] at he2
              refine lands_extern (v := .int .i64 (idxB c s 0)) (cv := .int .i64 (idxB c s 0)) hf hname hb hn he ?_ H (.int _ _) hK
              rw [← he2]
              exact run_indexByte_string bs (Int.ofNat c) w
  · cases hK
/-! ### maps.clone -/
def cloneP : Prim := fun _ _ args h K => match args with
  | [.ifc t (.map id)] => match h.get id with
    | some (.map es c) => K (.ifc t (.map h.sz)) (h.push (.map es c))
    | _ => false
  | _ => false
theorem cloneP_mono : MonoP cloneP := by
  intro call call' n args h K K' _ hK s
  unfold cloneP at s ⊢
  split at s
  · split at s
    · exact hK _ _ s
    · cases s
  · cases s

theorem cloneP_ok {P : Program} {f : Nat} {fn : Func} (hf : P.funcs[f]? = some fn) (hname : (fn.name == "runtime.NumGoroutine") = false) (hb : fn.body.isNone = true) (hn : Extern.findNext fn = none) (he : Extern.find fn = some Extern.MapsClone.clone) : PrimOK P f cloneP := by
  intro call n _ args h K hK
  unfold cloneP at hK
  split at hK
  rotate_left
  · cases hK
  rename_i t id
  split at hK
  rotate_left
  · cases hK
  rename_i es c hg
  refine ⟨fun v hv id e => ?_, fun B φ w cargs H hA => ?_⟩
  · simp only [List.mem_singleton] at hv; subst hv; cases e
  · cases hA with
    | cons h1 h2 =>
      cases h2
      cases h1 with
      | ifc h1 =>
        cases h1 with
        | map hL =>
          rename_i L
          have ho := H.obj id _ hg
          obtain ⟨L', cs, q1, q2, q3⟩ := ho
          rw [hL] at q1
          cases q1
          have hnone : ∀ g, φ h.sz g = none := fun g => by
            cases e : φ h.sz g with
            | none => rfl
            | some L2 => exact absurd (H.dom _ _ _ e) (Nat.lt_irrefl _)
          have hle := Phi.le_add (φ := φ) (id := h.sz) (g := 0) ⟨w.heap.size, 0, 0, 0, 0⟩ (hnone 0)
          have hp := H.push (o := .map es c) (L := ⟨w.heap.size, 0, 0, 0, 0⟩) (ob := .map cs c) rfl rfl (fun ds e => by cases e) ⟨_, cs, Phi.add_same _ _ _ _, heap_alloc_new w _, q3.mono hle⟩
          rw [run_callFunc_extern hf hname hb hn he]
          have hrun : (Extern.MapsClone.clone ⟨[.iface t (.map (some L.blk))]⟩).run P w = .ok (.iface t (.map (some w.heap.size))) (w.alloc (.map cs c)) := by
            have e : Extern.MapsClone.clone ⟨[.iface t (.map (some L.blk))]⟩ = (getObj L.blk >>= fun o => match o with
              | .map entries clock => (do pure (.iface t (.map (some (← newObj (.map entries clock))))))
              | _ => stuck "maps.clone: a map expected") := rfl
            rw [e]
            simp only [Sem.run_bind, run_getObj_map q2, Result.andThen_ok]
            rfl
          rw [hrun]
          exact .inl ⟨_, _, _, _, rfl, hK, .ifc (.map (Phi.add_same _ _ _ _)), hp, hle, Gw.alloc H.base (fun _ _ _ e => by cases e)⟩

end
end Go.Ab
