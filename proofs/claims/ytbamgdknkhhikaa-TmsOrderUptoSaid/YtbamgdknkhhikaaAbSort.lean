/-
  slices.SortFunc, which is not walked: by the library's contract; what is compared is told by the machine's own calls, on a heap that is only read.
-/
import Derived.Test.YtbamgdknkhhikaaAbFrz
import Derived.Test.YtbamgdknkhhikaaAbPrim
import Derived.Shelf.SlSortCmp.NoneTotal
import Derived.Lib.SortBridge
namespace Go.Ab
set_option linter.unusedSimpArgs false
set_option linter.unusedVariables false
open Go.Shelf Go.Sort
open Go.Proofs (SlLaysF.n6 AnyF.slices_SortFunc_none Any.slices_SortFunc CmpLays1 OneCell ltOf sortWorld)

def isI64 (z : Int) : AV → Bool
  | .int .i64 n => ieqb n z
  | _ => false

/-- The heap, the row's part holding these. -/
def putSeg (h : AHeap) (id : Nat) (r : Row) (s : Nat) (us : List AV) : AHeap := h.put id (.row { r with es := lay r.es s (us.map fun v => [v]), m := r.g })

/-- The elements are compared by c, which orders them; of each order of theirs the rest is well. -/
structure SortOK (call : CallFn) (f : Nat) (cap : List AV) (h : AHeap) (id : Nat) (r : Row) (s : Nat) (vs : List AV) (K : Kont) (c : AV → AV → Int) : Prop where
  row : h.get id = some (.row r)
  rw : r.rw = true
  sz : r.sz = 1
  es : (r.es.drop s).take vs.length = vs.map fun v => [v]
  lt : vs.length < 4611686018427387904
  irr : ∀ x ∈ vs, ¬ c x x < 0
  trs : ∀ x ∈ vs, ∀ y ∈ vs, ∀ z ∈ vs, c x y < 0 → c y z < 0 → c x z < 0
  ntr : ∀ x ∈ vs, ∀ y ∈ vs, ∀ z ∈ vs, ¬ c x y < 0 → ¬ c y z < 0 → ¬ c x z < 0
  cmp : ∀ us : List AV, us.length = vs.length → (∀ u ∈ us, u ∈ vs) → ∀ x ∈ vs, ∀ y ∈ vs, call (.func f) ([x, y] ++ cap) (putSeg h id r s us).frz (fun v _ => isI64 (c x y) v) = true
  fin : ∀ us : List AV, us.Perm vs → (us.Pairwise fun a b => ¬ c b a < 0) → K (.tup []) (putSeg h id r s us) = true

noncomputable def cdec (p : Prop) : Bool := @decide p (Classical.propDecidable p)
theorem cdec_true {p : Prop} : cdec p = true ↔ p := by
  unfold cdec
  exact @decide_eq_true_iff p (Classical.propDecidable p)

noncomputable def sortP (fs : List Nat) : Prim := fun call n args h K => match args with
  | [.nilSlc, .fn (.func f) [] cap] => K (.tup []) h
  | [.emp, .fn (.func f) [] cap] => K (.tup []) h
  | [.slc id g s len c ex, .fn (.func f) [] cap] => bif Nat.beq len 0 then K (.tup []) h
      else cdec (f ∈ fs ∧ ∃ r vs cf, g = r.g ∧ vs.length = len ∧ SortOK call f cap h id r s vs K cf)
  | _ => false

theorem sortP_mono (fs : List Nat) : MonoP (sortP fs) := by
  intro call call' n args h K K' hle hK hs
  unfold sortP at hs ⊢
  split at hs
  · exact hK _ _ hs
  · exact hK _ _ hs
  · rename_i id g s len c ex f cap
    cases hl : Nat.beq len 0 with
    | true => rw [hl, cond_true] at hs; exact hK _ _ hs
    | false =>
      rw [hl, cond_false] at hs
      have hs := cdec_true.1 hs
      obtain ⟨h1, r, vs, cf, h2, h3, S⟩ := hs
      rw [cond_false]
      exact cdec_true.2 ⟨h1, r, vs, cf, h2, h3, ⟨S.row, S.rw, S.sz, S.es, S.lt, S.irr, S.trs, S.ntr, fun us h1 h2 x hx y hy => hle _ _ _ _ _ (S.cmp us h1 h2 x hx y hy) (fun _ _ e => e), fun us h1 h2 => hK _ _ (S.fin us h1 h2)⟩⟩
  · cases hs

theorem drop_flat1 : ∀ {es : List (List AV)}, (∀ e ∈ es, e.length = 1) → ∀ n, es.flatten.drop n = (es.drop n).flatten
  | [], _, n => by simp
  | e :: l, h, 0 => rfl
  | e :: l, h, n + 1 => by
    have h1 := h e (by simp)
    match e, h1 with
    | [a], _ => exact drop_flat1 (fun x hx => h x (List.mem_cons_of_mem _ hx)) n
theorem take_flat1 : ∀ {es : List (List AV)}, (∀ e ∈ es, e.length = 1) → ∀ n, es.flatten.take n = (es.take n).flatten
  | [], _, n => by simp
  | e :: l, h, 0 => by simp
  | e :: l, h, n + 1 => by
    have h1 := h e (by simp)
    match e, h1 with
    | [a], _ =>
      show a :: (l.flatten.take n) = a :: (l.take n).flatten
      rw [take_flat1 (fun x hx => h x (List.mem_cons_of_mem _ hx)) n]

theorem extract_all {α : Type} (x : Array α) {n : Nat} (h : x.size = n) : x.extract 0 n = x := by subst h; simp

section
variable {P : Program} {B : Base} {φ : Phi} {h : AHeap} {w : World}

/-- The world behind the sort, or in its midst. -/
theorem seg_world (H : RelH P B φ h w) {id : Nat} {r : Row} (hr : h.get id = some (.row r)) (hrw : r.rw = true) (hsz : r.sz = 1) {L : Loc} (hL : φ id r.g = some L) {s : Nat}
    {α : Type} [Inhabited α] {enc : α → Value} {av : α → AV} (hrel : ∀ x, RelV φ (av x) (enc x)) (hone : ∀ x, (enc x).oneCell' = true) (hleaf : ∀ x, (av x).leaf = true) (d dk : Array α) (hH : Holds enc w L.blk (L.base + s) d) (hk : dk.size = d.size) (hfit : s + d.size ≤ r.es.length) (m : Nat) (os : Array Obj) :
    RelH P B φ (putSeg h id r s (dk.toList.map av)) (sortWorld enc w L.blk (L.base + s) m dk os) ∧ Gw B w (sortWorld enc w L.blk (L.base + s) m dk os) := by
  have HA : RelH P B φ h (w.drewN m) := H.heap rfl
  have hrow : RelRow φ id r w := H.obj id _ hr
  have hLs : L.sz = 1 := by rw [(hrow.gen _ L hL).2, hsz]
  have hnv : RelVs φ ((dk.toList.map av).map fun v => [v]).flatten (dk.toList.map enc) := by
    rw [flatten_single]
    induction dk.toList with
    | nil => exact .nil
    | cons x l ih => exact .cons (hrel x) ih
  have hlen : ((dk.toList.map av).map fun v => [v]).length = d.size := by simp [hk]
  have he : storeRow h 1 id r.g s ((dk.toList.map av).map fun v => [v]) = some (putSeg h id r s (dk.toList.map av)) := by
    unfold storeRow putSeg
    rw [AHeap.row_some.2 hr]
    have : (r.rw && Nat.beq r.g r.g && Nat.beq r.sz 1 && Nat.ble (s + ((dk.toList.map av).map fun v => [v]).length) r.es.length) = true := by
      rw [hrw, hsz, hlen]
      simp only [Nat.beq_refl, Bool.and_self, Bool.true_and]
      exact nble_true.2 hfit
    simp only [this, cond_true]
  obtain ⟨w', s1, s2, s3, _⟩ := storeRow_sound HA (fun x hx => by
      obtain ⟨v, _, rfl⟩ := List.mem_map.1 hx; rfl) (fun x hx => by
      obtain ⟨v, hv, rfl⟩ := List.mem_map.1 hx
      obtain ⟨a, _, rfl⟩ := List.mem_map.1 hv
      show allLeaf [av a] = true
      simp [allLeaf, hleaf a]) hnv hL he
  rw [hLs, Nat.mul_one] at s1
  have hst := Go.run_storeCells_cells (P := P) L.blk (L.base + s) (dk.toList.map enc) 0 (w.drewN m)
    (fun j hj => by
      have := (hH j (by simpa [hk] using hj)).1
      rw [World.cell?_drewN, Nat.add_zero, this]; rfl)
    (fun j hj => by
      have := (hH j (by simpa [hk] using hj)).2
      rw [Nat.add_zero]; exact this)
    (fun v hv => by
      obtain ⟨a, _, rfl⟩ := List.mem_map.1 hv
      exact hone a)
  rw [hst] at s1
  have hw' : (w.drewN m).setCells L.blk (L.base + s + 0) (dk.toList.map enc) = w' := by injection s1
  have hput := Go.Lib.putRow_eq_setCells enc w L.blk (L.base + s) d dk.toList m hH (by simpa using hk)
  have hw : sortWorld enc w L.blk (L.base + s) m dk os = grow w' os := by
    unfold sortWorld
    have : dk.toList.toArray = dk := by simp
    rw [this] at hput
    rw [hput, ← hw', Nat.add_zero]
  rw [hw]
  have g1 : Gw B w (w.drewN m) := Gw.ahead B w m
  exact ⟨s2.grow os, (g1.trans s3).trans (Gw.grow s2.base os)⟩

theorem i64_rel {z : Int} {v : AV} {cv : Value} (hi : isI64 z v = true) (hv : RelV φ v cv) : cv = .int .i64 z := by
  cases hv <;> try (cases hi; done)
  rename_i k n
  cases k <;> try (cases hi; done)
  simp only [isI64] at hi
  rw [ieqb_dec] at hi
  rw [of_decide_eq_true hi]

variable {ρ : Ren}

theorem sortP_ok {f : Nat} {fs : List Nat} (L6 : SlLaysF.n6 P ρ) (hf : ρ.f 6 = f) (hmix : ∀ args w, (callFunc f args).run P w = .ok (.enter f args) w) (hen : ∀ g ∈ fs, ∀ args w, (callFunc g args).run P w = .ok (.enter g args) w) : PrimOK P f (sortP fs) := by
  intro call n hcall args h K hK
  subst hf
  have none : ∀ (B : Base) (φ : Phi) (w : World) (p : Option Addr) (c : Nat) (fv : Value), RelH P B φ h w → K (.tup []) h = true → Lands P B φ w K ((callFunc (ρ.f 6) ⟨[.slice p 0 c, fv]⟩).run P w) := by
    intro B φ w p c fv H hk
    rw [hmix]
    intro n
    have hS := AnyF.slices_SortFunc_none (P := P) (ρ := ρ) { L6 with } p c fv w
    refine ((callsIn_wide (n := n)).2 hS).mono ?_
    rintro e w' ⟨rfl, rfl⟩
    exact ⟨.tup [], h, .tuple #[], φ, rfl, hk, .tup .nil, H, φ.le_refl, Gw.refl B w'⟩
  unfold sortP at hK
  split at hK
  · rename_i g cap
    refine ⟨fun v hv id e => ?_, fun B φ w cargs H hA => ?_⟩
    · simp only [List.mem_cons, List.not_mem_nil, or_false] at hv
      rcases hv with rfl | rfl <;> cases e
    · cases hA with
      | cons h1 h2 =>
        cases h2 with
        | cons h2 h3 =>
          cases h3
          cases h1
          exact none B φ w _ _ _ H hK
  · rename_i g cap
    refine ⟨fun v hv id e => ?_, fun B φ w cargs H hA => ?_⟩
    · simp only [List.mem_cons, List.not_mem_nil, or_false] at hv
      rcases hv with rfl | rfl <;> cases e
    · cases hA with
      | cons h1 h2 =>
        cases h2 with
        | cons h2 h3 =>
          cases h3
          cases h1
          exact none B φ w _ _ _ H hK
  · rename_i id g s len c ex f cap
    refine ⟨fun v hv id e => ?_, fun B φ w cargs H hA => ?_⟩
    · simp only [List.mem_cons, List.not_mem_nil, or_false] at hv
      rcases hv with rfl | rfl <;> cases e
    · cases hA with
      | cons h1 h2 =>
        cases h2 with
        | cons h2 h3 =>
          cases h3
          cases h1 with
          | slc hL a1 a2 a3 a4 a5 a6 =>
            rename_i c0 off L
            cases hl : Nat.beq len 0 with
            | true =>
              rw [hl, cond_true] at hK
              have := nbeq_true.1 hl
              subst this
              exact none B φ w _ _ _ H hK
            | false =>
              rw [hl, cond_false] at hK
              have hlen := nbeq_false.1 hl
              obtain ⟨hfs, r, vs, cf, hg, hvl, S⟩ := cdec_true.1 hK
              subst hg
              cases h2 with
              | func hfa hcb =>
                cases hfa
                rename_i cb
                have eg := hen f hfs
                have hrow : RelRow φ id r w := H.obj id _ S.row
                have hLs : L.sz = 1 := by rw [(hrow.gen _ L hL).2, S.sz]
                obtain ⟨hbase, cs, ct, hcs, hcsz, hext⟩ := hrow.own S.rw r.g L hrow.mg hL
                obtain ⟨L', hL', hext'⟩ := hrow.cur
                have : L' = L := by rw [hL] at hL'; cases hL'; rfl
                subst this
                have hoff : off = L'.base + s := by rw [a6 (by omega), hLs, Nat.mul_one]
                subst hoff
                have hes1 : ∀ e ∈ r.es, e.length = 1 := fun e he => by rw [hrow.es e he, S.sz]
                have hfit : s + len ≤ r.es.length := by omega
                -- the cells
                obtain ⟨nv, n1, n2, n3⟩ := row_flat hrow hL hrow.mg (p := s) (n := len) (by rw [S.sz]; omega)
                have hfl : (r.es.flatten.drop s).take len = vs := by
                  rw [drop_flat1 hes1, take_flat1 (fun e he => hes1 e (List.mem_of_mem_drop he)), ← hvl, S.es, flatten_single]
                rw [hfl] at n1
                obtain ⟨k, rfl⟩ : ∃ k, len = k + 1 := ⟨len - 1, by omega⟩
                have hleafs : ∀ v ∈ vs, v.leaf = true := by
                  intro v hv
                  have hm : [v] ∈ (r.es.drop s).take vs.length := by rw [S.es]; exact List.mem_map.2 ⟨v, hv, rfl⟩
                  have := hrow.leaf [v] (List.mem_of_mem_drop (List.mem_of_mem_take hm))
                  simpa [allLeaf] using this
                let av : Fin (k + 1) → AV := fun i => vs[i.1]'(by omega)
                let enc : Fin (k + 1) → Value := fun i => nv[i.1]'(by omega)
                have hrel : ∀ x, RelV φ (av x) (enc x) := by
                  intro x
                  obtain ⟨v, q1, q2⟩ := n1.get (i := x.1) (a := av x) (List.getElem?_eq_getElem _)
                  rw [List.getElem?_eq_getElem (by omega)] at q1
                  cases q1; exact q2
                have hmem : ∀ x, av x ∈ vs := fun x => List.getElem_mem _
                have hleaf : ∀ x, (av x).leaf = true := fun x => hleafs _ (hmem x)
                have hone : OneCell enc := fun x => (hrel x).leaf (hleaf x)
                let d : Array (Fin (k + 1)) := Array.ofFn fun i => i
                have hds : d.size = k + 1 := by simp [d]
                have hdj : ∀ j (hj : j < k + 1), d[j]! = ⟨j, hj⟩ := by
                  intro j hj
                  rw [getElem!_pos d j (by omega)]
                  simp [d]
                have hH : Holds enc w L'.blk (L'.base + s) d := by
                  intro j hj
                  rw [hds] at hj
                  refine ⟨?_, ?_⟩
                  · rw [hdj j hj]
                    have := n3 j _ (List.getElem?_eq_getElem (by omega))
                    have ha : (⟨L'.blk, L'.base + s, Option.none⟩ : Addr).add j = ⟨L'.blk, L'.base + s + j, Option.none⟩ := by
                      simp only [Addr.add]
                      split
                      · rename_i h0; subst h0; rfl
                      · rfl
                    rw [ha] at this
                    exact this
                  · simp only [World.frozen?, hcs]
                    simp
                let cfn : Fin (k + 1) → Fin (k + 1) → Int := fun i j => cf (av i) (av j)
                have hO : SWO (ltOf cfn) := by
                  refine ⟨fun x => ?_, fun x y z h1 h2 => ?_, fun x y z h1 h2 => ?_⟩
                  · exact decide_eq_false (S.irr _ (hmem x))
                  · exact decide_eq_true (S.trs _ (hmem x) _ (hmem y) _ (hmem z) (of_decide_eq_true h1) (of_decide_eq_true h2))
                  · exact decide_eq_false (S.ntr _ (hmem x) _ (hmem y) _ (hmem z) (of_decide_eq_false h1) (of_decide_eq_false h2))
                have hmap : ∀ dk : Array (Fin (k + 1)), dk.size = d.size → (dk.toList.map av).length = vs.length := by
                  intro dk hdk
                  rw [List.length_map, Array.length_toList, hdk, hds, hvl]
                have hcmp : CmpLays1 P f ⟨cb⟩ enc cfn L'.blk (L'.base + s) d.size w := by
                  intro m os dk hdk x y
                  obtain ⟨H2, _⟩ := seg_world H S.row S.rw S.sz hL hrel hone hleaf d dk hH hdk (by omega) m os
                  have law := S.cmp (dk.toList.map av) (hmap dk hdk) (fun u hu => by
                    obtain ⟨i, _, rfl⟩ := List.mem_map.1 hu
                    exact hmem i) (av x) (hmem x) (av y) (hmem y)
                  have hc := hcall (.func f) _ _ _ law _ φ _ ([enc x, enc y] ++ cb) H2.frz (.cons (hrel x) (.cons (hrel y) hcb))
                  simp only at hc
                  have hc := FuncOK.lands hc
                  rw [eg] at hc
                  have h0 : CallsIn (FW Option.none) 0 P f ⟨[enc x, enc y] ++ cb⟩ _ _ := hc 0
                  have h1 := callsIn_wide.1 h0
                  have harr : (#[enc x, enc y] ++ ⟨cb⟩ : Array Value) = ⟨[enc x, enc y] ++ cb⟩ := by simp
                  rw [harr]
                  refine h1.mono ?_
                  rintro e w' ⟨v, h', cv, φ', rfl, hi, hv, _, _, hg⟩
                  refine ⟨?_, ?_⟩
                  · rw [i64_rel hi hv]
                  · exact hg.grown
                have hblk : L'.blk < w.heap.size := H.lt id r.g L' hL
                have hS := Any.slices_SortFunc L6 enc hone cfn hO f ⟨cb⟩ L'.blk (L'.base + s) c0 d w eg hcmp hH hblk (by rw [hds]; have := S.lt; omega)
                rw [hmix]
                intro n
                rw [hds] at hS
                refine ((callsIn_wide (n := n)).2 hS).mono ?_
                rintro e w' ⟨rfl, d', m, os, hp, hs, rfl⟩
                obtain ⟨p1, p2, p3⟩ := hp
                obtain ⟨H2, G2⟩ := seg_world H S.row S.rw S.sz hL hrel hone hleaf d d' hH p1 (by omega) m os
                refine ⟨.tup [], _, .tuple #[], φ, rfl, S.fin (d'.toList.map av) ?_ ?_, .tup .nil, H2, φ.le_refl, G2⟩
                · rw [extract_all _ (by rw [p1, hds]), extract_all _ hds] at p3
                  refine (p3.map av).trans ?_
                  have : d.toList.map av = vs := by
                    apply List.ext_getElem
                    · rw [List.length_map, Array.length_toList, hds, hvl]
                    · intro i h1 h2
                      rw [List.getElem_map]
                      have : d.toList[i]'(by simpa using h1) = (⟨i, by rw [hvl] at h2; exact h2⟩ : Fin (k + 1)) := by simp only [d, Array.toList_ofFn, List.getElem_ofFn]
                      rw [this]
                  rw [this]
                · rw [List.pairwise_map, List.pairwise_iff_getElem]
                  intro i j hi hj hij
                  have hj' : j < k + 1 := by rw [Array.length_toList, p1, hds] at hj; exact hj
                  have := hs i j (Nat.zero_le _) hij hj'
                  rw [getElem!_pos d' i (by rw [p1, hds]; omega), getElem!_pos d' j (by rw [p1, hds]; omega)] at this
                  exact of_decide_eq_false this
  · cases hK
end
end Go.Ab
