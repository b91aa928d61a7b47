/-
  'Take', 'Merge'; what wakes; 'same'.
-/
import Derived.Test.YtflpfelalockgaaS4
namespace Go.Proofs.Ytflpfelalockgaa
open Go.Ab
set_option linter.unusedSimpArgs false
set_option linter.unusedVariables false

section
variable {n p m c : Nat} {h : AHeap} {l : Ls} {K : Kont}

theorem c9 (S : SetO h p m c l) (o : h.Ok) (hc : c < 1000000) (hn : l.length < n) (hn4 : 4 < n)
    (k : ∀ h' f m', SetO h' p m' c [] → Fr (fun j => j = p) h h' → h'.Ok → Outs h.sz h' f (keysOf (bk l)) → h.sz ≤ m' → (∀ i, i < 4 → ¬ inRow (f i) m') → K (.tup [f 1, f 2, f 3]) h' = true) : callN E (n + 4) (.func 9) [.ptr p 0 0 0] h K = true := by
  apply d9
  unfold s9
  refine c23 (n := n) S o hc hn hn4 fun h1 f e1 o1 U1 => ?_
  have S1 := S.ext e1
  have A : allocV h1 [AV.nilSlc, .nilSlc, .nilSlc, .nilSlc] = some (.ptr h1.sz 0 0 0, Ab.newRow h1 [[AV.nilSlc, .nilSlc, .nilSlc, .nilSlc]] 4) := alloc_eq (by decide) rfl
  rw [p_of A]
  have lf : ∀ i, i < 4 → (f i).leaf = true := fun i hi => (U1.own i hi).view.leaf
  have al : allLeaf (fn4 f) = true := by simp only [fn4, allLeaf, lf 0 (by omega), lf 1 (by omega), lf 2 (by omega), lf 3 (by omega), cond_true]
  rw [u_of (show storeA (Ab.newRow h1 [[AV.nilSlc, .nilSlc, .nilSlc, .nilSlc]] 4) 4 (.ptr h1.sz 0 0 0) (.agg (fn4 f)) = some (Ab.newRow h1 [fn4 f] 4) from store_new rfl rfl al)]
  have e2 := ext_newRow o1 [fn4 f] 4
  have o2 := ok_newRow o1 [fn4 f] 4
  have W2 : Var (Ab.newRow h1 [fn4 f] 4) h1.sz (fn4 f) := var_new h1 _
  have S2 := S1.ext e2
  have U2 := U1.fr (Fr.of_ext (X := fun _ => False) e2) fun _ _ _ _ => id
  have z2 : (Ab.newRow h1 [fn4 f] 4).sz = h1.sz + 1 := rfl
  generalize Ab.newRow h1 [fn4 f] 4 = h2 at *
  obtain ⟨q1, q2⟩ := kmap_new (ek := strKey) h2
  rw [p_of q1]
  have e3 := ext_push o2 (.map [] 0)
  have o3 := o2.push (.map [] 0)
  have S3 := S2.ext e3
  have W3 := W2.ext e3
  have U3 := U2.fr (Fr.of_ext (X := fun _ => False) e3) fun _ _ _ _ => id
  generalize h2.push (.map [] 0) = h3 at *
  rw [o_nilck, o_fadr0]
  rw [u_of (S3.var.set1 (off := 0) (v := .map h2.sz) (show 0 < 2 by omega) rfl)]
  have f4 := Fr.put (X := fun j => j = p) rfl h3 (.row (VRow ([AV.map m, .int .i64 (c : Int)].set 0 (.map h2.sz))))
  have o4 := o3.put (S3.plt o3) (.row (VRow ([AV.map m, .int .i64 (c : Int)].set 0 (.map h2.sz))))
  have V4 : Var (h3.put p (.row (VRow ([AV.map m, .int .i64 (c : Int)].set 0 (.map h2.sz))))) p [.map h2.sz, .int .i64 (c : Int)] := var_put p _
  generalize h3.put p (.row (VRow ([AV.map m, .int .i64 (c : Int)].set 0 (.map h2.sz)))) = h4 at *
  have hp := S.plt o
  have zz := e1.1
  have W4 := f4.var W3 (show ¬ h1.sz = p by omega)
  have U4 := U3.fr f4 fun i hi j q q' => by have := U3.hi i hi j q; omega
  have g : ∀ i, i < 4 → loadA h4 false 1 (.ptr h1.sz 0 0 i) = some (f i) := fun i hi => by
    rw [W4.load, partA_false, nth_eq]; exact fn4_at f hi
  have q1 : iadraA 4 1 (.ptr h1.sz 0 0 0) (.int .i64 1) = some (.ptr h1.sz 0 0 1) := rfl
  have q2' : iadraA 4 1 (.ptr h1.sz 0 0 0) (.int .i64 2) = some (.ptr h1.sz 0 0 2) := rfl
  have q3 : iadraA 4 1 (.ptr h1.sz 0 0 0) (.int .i64 3) = some (.ptr h1.sz 0 0 3) := rfl
  rw [o_of q1, o_of (g 1 (by decide)), o_of q2', o_of (g 2 (by decide)), o_of q3, o_of (g 3 (by decide))]
  refine k h4 f h2.sz ⟨V4, f4.kmap q2 (by omega), by omega, .nil, by simp, Nat.zero_le _⟩ ((Fr.of_ext ((e1.trans e2).trans e3)).trans f4) o4 U4 (by omega) fun i hi q => ?_
  have := own_lt (U1.own i hi) o1 q
  omega

/-! ### Taken into another -/
def putAll (b : Bk) (ks : List Str) (d : Nat) : Bk := ks.foldl (fun b k => (doR b k d).2) b
def putK (b b' : Bk) (ds : List Nat) : Bk := ds.foldl (fun b d => putAll b (keysOf b' d) d) b
def mergeB (b b' : Bk) : Bk := putK b b' [1, 2, 3]
def mergeOk (b b' : Bk) : Prop := ∀ x ∈ b', bec (kindB b x.1) x.2 ≠ none

theorem c16nil (k : K (.int .i64 1) h = true) : callN E (n + 1) (.func 16) [.ptr p 0 0 0, .nilPtr] h K = true := by
  apply d16
  exact k
theorem c16self (S : SetO h p m c l) (k : K (.int .i64 1) h = true) : callN E (n + 1) (.func 16) [.ptr p 0 0 0, .ptr p 0 0 0] h K = true := by
  apply d16
  unfold s16
  have V : h.row p = some (VRow [.map m, .int .i64 (c : Int)]) := S.var
  have e : eqV h false .ptr (.ptr p 0 0 0) (.ptr p 0 0 0) = some (.bool true) := by
    simp only [eqV, eqA, eqPtr, Nat.beq_refl, cond_true, V, VRow]; rfl
  rw [o_of (show eqV h false .ptr (.ptr p 0 0 0) .nilPtr = some (.bool false) from rfl), g_ff, o_some, g_ff, o_some, g_ff, o_of e, k_f, condB_true]
  exact k

theorem l16a {m' c' p' : Nat} {l' : Ls} {h0 : AHeap} (S : SetO h0 p m c l) (S' : SetO h0 p' m' c' l') (k0 : h0.Ok)
    (kB : ¬ mergeOk (bk l) (bk l') → ∀ h, Ext h0 h → h.Ok → K (.int .i64 33) h = true) (kG : mergeOk (bk l) (bk l') → ∀ h, Ext h0 h → h.Ok → p16_31 (callN E (n + 1)) (n + 1) (.ptr p 0 0 0) (.ptr p' 0 0 0) h K = true) :
    ∀ mm h (done : Ls), KIter strKey h h0.sz m' (mp enc2 l') (mp enc2 done) → Ext h0 h → h.Ok → (∀ x ∈ done, bec (kindB (bk l) x.1) x.2.1 ≠ none) → done.length ≤ l'.length → l'.length - done.length < mm →
      l16_14 (callN E (n + 1)) (n + 1) mm (.ptr p 0 0 0) (.ptr p' 0 0 0) (.itr h0.sz) h K = true := by
  intro mm
  induction mm with
  | zero => intro h done _ _ _ _ _ hm; omega
  | succ mm ih =>
    intro h done IT e o hgood hdl hm
    unfold l16_14 b16_14
    have ml := S'.mlt k0
    refine IT.next strKeys o (by omega) (fun hP => ?_) (fun key v h1 hv hnd B1 o1 z1 IT1 ent => ?_)
    · rw [o_ext0, condB_false]
      refine kG (fun x hx => ?_) h e o
      have hp := hP.map dec2
      rw [dec_mp, dec_mp] at hp
      obtain ⟨y, hy, rfl⟩ := List.mem_map.1 hx
      exact hgood y (hp.mem_iff.2 hy)
    · obtain ⟨x, hx, hxe⟩ := List.mem_map.1 hv
      obtain ⟨xk, xd, xc⟩ := x
      simp only [Prod.mk.injEq] at hxe
      obtain ⟨rfl, rfl⟩ := hxe
      have htop := S'.top _ hx
      simp only at htop
      have e1 : Ext h0 h1 := B1.ext e k0 (Nat.le_refl _)
      rw [o_ext0, condB_true, o_of ent, o_ext0, o_ext1]
      have A : allocV h1 [AV.int .i64 0, .int .i64 0] = some (.ptr h1.sz 0 0 0, Ab.newRow h1 [[AV.int .i64 0, .int .i64 0]] 2) := alloc_eq (by decide) rfl
      rw [p_of A]
      rw [u_of (show storeA (Ab.newRow h1 [[AV.int .i64 0, .int .i64 0]] 2) 2 (.ptr h1.sz 0 0 0) (enc2 (xd, xc)) = some (Ab.newRow h1 [[AV.int .i64 (xd : Int), .int .i64 (xc : Int)]] 2) from store_new rfl rfl rfl)]
      have g2 := ext_newRow o1 [[AV.int .i64 (xd : Int), .int .i64 (xc : Int)]] 2
      have o2 := ok_newRow o1 [[AV.int .i64 (xd : Int), .int .i64 (xc : Int)]] 2
      have W2 : Var (Ab.newRow h1 [[AV.int .i64 (xd : Int), .int .i64 (xc : Int)]] 2) h1.sz [.int .i64 (xd : Int), .int .i64 (xc : Int)] := var_new h1 _
      have IT2 := (Fr.of_ext (X := fun _ => False) g2).kiter IT1 id id
      generalize Ab.newRow h1 [[AV.int .i64 (xd : Int), .int .i64 (xc : Int)]] 2 = h2 at *
      have S2 := S.ext (e1.trans g2)
      have f : ∀ x : Nat × Nat, fldA false 0 1 (enc2 x) = some (.int .i64 (x.1 : Int)) := fun x => rfl
      have lk2 : lookA h2 (.leaf .str) false (.agg [.int .i64 0, .int .i64 0]) (.map m) (strKey xk) = some (enc2 ((lkG l xk).getD (0, 0))) := S2.look xk
      rw [o_nilck, o_fadr0, o_of (l0 S2.var), o_of lk2, o_of (f _), o_fadr0, o_of (show loadA h2 false 1 (.ptr h1.sz 0 0 0) = some (.int .i64 (xd : Int)) by rw [W2.load]; rfl)]
      rw [kind_cur]
      refine c25 (S.cur xk) (by omega) (by omega) (fun hN => ?_) (fun j hS => ?_)
      · rw [o_of (show binA .lss (.int .i64 (-1)) (.int .i64 0) = some (.bool true) from rfl), condB_true]
        exact kB (fun hall => hall (xk, xd) (List.mem_map.2 ⟨_, hx, rfl⟩) hN) h2 (e1.trans g2) o2
      · rw [o_lss, condB_f (decide_eq_false (by omega))]
        have IT3 : KIter strKey h2 h0.sz m' (mp enc2 l') (mp enc2 (done ++ [(xk, xd, xc)])) := by
          have : mp enc2 (done ++ [(xk, xd, xc)]) = mp enc2 done ++ [(xk, enc2 (xd, xc))] := by simp [mp]
          rw [this]; exact IT2
        have hsub : (done ++ [(xk, xd, xc)]).length ≤ l'.length := by
          have hsub : (mp enc2 (done ++ [(xk, xd, xc)])).length ≤ (mp enc2 l').length := by
            obtain ⟨es, c', de, q1, q2, q3, q4, q5⟩ := IT3
            have hn1 : de.Nodup := by
              rw [List.nodup_iff_pairwise_ne] at q4 ⊢
              rw [List.pairwise_map] at q4
              exact q4.imp fun q e => q (by rw [e])
            have := hn1.length_le_of_subset (fun x hx => q3 x hx)
            rw [q2.length, q1.ents.length] at this
            exact this
          simpa [mp] using hsub
        refine ih h2 _ IT3 (e1.trans g2) o2 (fun x hx => ?_) hsub ?_
        · rcases List.mem_append.1 hx with hx | hx
          · exact hgood x hx
          · simp only [List.mem_singleton] at hx
            subst hx
            exact fun q => by simp only at q; rw [hS] at q; cases q
        · simp only [List.length_append, List.length_cons, List.length_nil] at hsub ⊢
          omega

theorem l16b {d : Nat} {hb : AHeap} {ks : List Str} {v x1 x7 x42 x43 x44 : AV} {B37 : AV → AV → AV → AV → AV → AV → AHeap → Bool} (hd1 : 1 ≤ d) (hd : d ≤ 3) (hks : ks.length < 1000000) (V : View hb 1 v (enc1 ks)) (hv : ∀ j, inRow v j → ¬ (j = p ∨ j = m)) :
    ∀ mm i h l c, SetO h p m c l → Fr (fun j => j = p ∨ j = m) hb h → h.Ok → i ≤ ks.length → ks.length - i < mm → c + ks.length < 1000000 + i →
      (∀ h l'' c'', SetO h p m c'' l'' → c'' ≤ c + (ks.length - i) → Fr (fun j => j = p ∨ j = m) hb h → h.Ok → bk l'' = putAll (bk l) (ks.drop i) d → p16_64 (callN E (n + 3)) (n + 3) B37 (.ptr p 0 0 0) x1 x7 x42 x43 x44 h K = true) →
      l16_51 (callN E (n + 3)) (n + 3) B37 mm (.ptr p 0 0 0) x1 x7 (.int .i64 (d : Int)) x42 x43 x44 v (.int .i64 (ks.length : Int)) (.int .i64 (i : Int)) h K = true := by
  have hlim : lim = 4611686018427387904 := rfl
  intro mm
  induction mm with
  | zero => intro i h l c _ _ _ _ hm; omega
  | succ mm ih =>
    intro i h l c S F o hi hm hc k
    unfold l16_51 b16_51
    rw [o_lss]
    by_cases hlt : i < ks.length
    · rw [condB_t (decide_eq_true (by omega))]
      have V' : View h 1 v (enc1 ks) := F.view V fun id g s l c ex e => hv id ⟨_, _, _, _, _, e⟩
      have hki := List.getElem?_eq_getElem hlt
      generalize hkk : ks[i] = key at hki
      obtain ⟨pp, p1, p2⟩ := view_read V' hki
      rw [o_of p1, o_of p2]
      refine c26 (n := n + 1) S o (by omega) hd1 hd fun h' l' c' hc' S' F' o' hbk => ?_
      rw [o_of (inc64 (show i < lim by omega))]
      refine ih (i + 1) h' l' c' S' (F.trans F') o' (by omega) (by omega) (by omega) fun h'' l'' c'' S'' hc'' F'' o'' hbk'' => ?_
      refine k h'' l'' c'' S'' (by omega) F'' o'' ?_
      rw [List.drop_eq_getElem_cons hlt, hkk]
      show _ = putAll (doR (bk l) key d).2 (ks.drop (i + 1)) d
      rw [hbk'', hbk]
    · rw [condB_f (decide_eq_false (by omega))]
      refine k h l c S (by omega) F o ?_
      rw [List.drop_of_length_le (by omega)]; rfl

theorem c16 {m' c' p' : Nat} {l' : Ls} (S : SetO h p m c l) (S' : SetO h p' m' c' l') (o : h.Ok) (h1 : p ≠ p') (h2 : m ≠ m') (h3 : p ≠ m') (h4 : p' ≠ m) (hc : c + 3 * l'.length < 1000000) (hc' : c' < 1000000) (hn : l'.length < n) (hn4 : 4 < n)
    (kB : ¬ mergeOk (bk l) (bk l') → ∀ h', Ext h h' → h'.Ok → K (.int .i64 33) h' = true)
    (kG : mergeOk (bk l) (bk l') → ∀ h' l'' c'' m'', SetO h' p m c'' l'' → bk l'' = mergeB (bk l) (bk l') → c'' ≤ c + 3 * l'.length → SetO h' p' m'' c' [] → Fr (fun j => (j = p ∨ j = m) ∨ j = p') h h' → h'.Ok → h.sz ≤ m'' → K (.int .i64 0) h' = true) :
    callN E (n + 4) (.func 16) [.ptr p 0 0 0, .ptr p' 0 0 0] h K = true := by
  have hlim : lim = 4611686018427387904 := rfl
  apply d16
  unfold s16
  have V : h.row p = some (VRow [.map m, .int .i64 (c : Int)]) := S.var
  have V' : h.row p' = some (VRow [.map m', .int .i64 (c' : Int)]) := S'.var
  have e : eqV h false .ptr (.ptr p' 0 0 0) (.ptr p 0 0 0) = some (.bool false) := by
    simp only [eqV, eqA, eqPtr, nbeq_false.2 (fun q : p' = p => h1 q.symm), cond_false, V, V', VRow]; rfl
  rw [o_of (show eqV h false .ptr (.ptr p' 0 0 0) .nilPtr = some (.bool false) from rfl), g_ff, o_some, g_ff, o_some, g_ff, o_of e, k_f, condB_false]
  unfold p16_10
  rw [o_nilck, o_fadr0, o_of (l0 S'.var)]
  obtain ⟨ha, r1, r2, r3, r4, r5⟩ := S'.map.range' o
  rw [p_of r1]
  refine l16a (n := n + 2) S S' o kB (fun hG hb eb ob => ?_) (n + 3) ha [] r5 r2 r3 (fun x hx => by cases hx) (Nat.zero_le _) (by simp; omega)
  have kG := kG hG
  unfold p16_31
  refine c23 (n := n) (S'.ext eb) ob hc' hn hn4 fun hd f ed od U => ?_
  have A : allocV hd [AV.nilSlc, .nilSlc, .nilSlc, .nilSlc] = some (.ptr hd.sz 0 0 0, Ab.newRow hd [[AV.nilSlc, .nilSlc, .nilSlc, .nilSlc]] 4) := alloc_eq (by decide) rfl
  rw [p_of A]
  have lf : ∀ i, i < 4 → (f i).leaf = true := fun i hi => (U.own i hi).view.leaf
  have al : allLeaf (fn4 f) = true := by simp only [fn4, allLeaf, lf 0 (by omega), lf 1 (by omega), lf 2 (by omega), lf 3 (by omega), cond_true]
  rw [u_of (show storeA (Ab.newRow hd [[AV.nilSlc, .nilSlc, .nilSlc, .nilSlc]] 4) 4 (.ptr hd.sz 0 0 0) (.agg (fn4 f)) = some (Ab.newRow hd [fn4 f] 4) from store_new rfl rfl al)]
  have ee := ext_newRow od [fn4 f] 4
  have oe := ok_newRow od [fn4 f] 4
  have We : Var (Ab.newRow hd [fn4 f] 4) hd.sz (fn4 f) := var_new hd _
  generalize Ab.newRow hd [fn4 f] 4 = he at *
  obtain ⟨kv, b1, b2⟩ := bslice_view (h := he) (n := 3) (sz := 1) (z := [AV.int .i64 0]) (ps := [(0, .int .i64 1), (1, .int .i64 2), (2, .int .i64 3)]) (es := [[.int .i64 1], [.int .i64 2], [.int .i64 3]]) rfl (by decide) (by decide) rfl rfl rfl
  rw [p_of b1]
  have eg := ext_newRow oe [[AV.int .i64 1], [.int .i64 2], [.int .i64 3]] 1
  have og := ok_newRow oe [[AV.int .i64 1], [.int .i64 2], [.int .i64 3]] 1
  have Wg := We.ext eg
  have kvr : ∀ j, inRow kv j → he.sz ≤ j := fun j q => by
    have : kv = .slc he.sz 0 0 3 3 true := by
      have e1 : bsliceV he 3 1 [AV.int .i64 0] [(0, .int .i64 1), (1, .int .i64 2), (2, .int .i64 3)] = some (.slc he.sz 0 0 3 3 true, Ab.newRow he [[.int .i64 1], [.int .i64 2], [.int .i64 3]] 1) := rfl
      rw [e1] at b1
      exact ((Prod.mk.inj (Option.some.inj b1)).1).symm
    rw [this] at q
    have := inRow_slc.1 q; omega
  have EE := ((eb.trans ed).trans ee).trans eg
  have Ug : ∀ i, i < 4 → View (Ab.newRow he [[AV.int .i64 1], [.int .i64 2], [.int .i64 3]] 1) 1 (f i) (enc1 (keysOf (bk l') i)) := fun i hi => (U.own i hi).view.ext (ee.trans eg)
  generalize Ab.newRow he [[AV.int .i64 1], [.int .i64 2], [.int .i64 3]] 1 = hg at *
  rw [o_of b2.len]
  have Sg := S.ext EE
  have Sg' := S'.ext EE
  have pl := S.plt o
  have ml := S.mlt o
  have pl' := S'.plt o
  have ml' := S'.mlt o
  have z1 := eb.1
  have z2 := ed.1
  have z3 := ee.1
  have kl : ∀ i, (keysOf (bk l') i).length ≤ l'.length := fun i => by have := keys_len (bk l') i; simpa [bk, mp] using this
  suffices H : ∀ mm t h' l'' c'', t ≤ 3 → 3 - t < mm → SetO h' p m c'' l'' → Fr (fun j => j = p ∨ j = m) hg h' → h'.Ok → c'' ≤ c + t * l'.length → putK (bk l'') (bk l') ([1, 2, 3].drop t) = mergeB (bk l) (bk l') →
      l16_37 (callN E (n + 3)) (n + 3) mm (.ptr p 0 0 0) (.ptr p' 0 0 0) (.ptr hd.sz 0 0 0) kv (.int .i64 3) (.int .i64 (t : Int)) h' K = true from
    H (n + 3) 0 hg l c (by omega) (by omega) Sg (Fr.refl _ _) og (by omega) rfl
  intro mm
  induction mm with
  | zero => intro t h' l'' c'' _ hm; omega
  | succ mm ih =>
    intro t h' l'' c'' ht hm Sx Fx ox hcx hr
    unfold l16_37 b16_37
    rw [o_lss]
    by_cases hlt : t < 3
    · rw [condB_t (decide_eq_true (by omega))]
      unfold p16_44
      have e3 : ([[AV.int .i64 1], [.int .i64 2], [.int .i64 3]] : List (List AV))[t]? = some [.int .i64 ((t + 1 : Nat) : Int)] := by
        have : t = 0 ∨ t = 1 ∨ t = 2 := by omega
        rcases this with rfl | rfl | rfl <;> rfl
      have kv' : View h' 1 kv [[AV.int .i64 1], [.int .i64 2], [.int .i64 3]] := Fx.view b2 fun id g s l c ex e q => by
        have := kvr id ⟨_, _, _, _, _, e⟩; omega
      obtain ⟨id, g, j, w⟩ := View.atE kv' e3
      rw [o_of ((w h' (Ext.refl _)).1 _), o_of (show loadA h' false 1 (.ptr id g j 0) = some (.int .i64 ((t + 1 : Nat) : Int)) from (w h' (Ext.refl _)).2 false 0 1)]
      have P2 : iadraA 4 1 (.ptr hd.sz 0 0 0) (.int .i64 ((t + 1 : Nat) : Int)) = some (.ptr hd.sz 0 0 (t + 1)) := by
        simp only [iadraA, asNat_nat, nblt_true.2 (show t + 1 < 4 by omega), cond_true, Nat.mul_one, Nat.zero_add]
      have Wx := Fx.var Wg (show ¬ (hd.sz = p ∨ hd.sz = m) by omega)
      rw [o_of P2, o_of (show loadA h' false 1 (.ptr hd.sz 0 0 (t + 1)) = some (f (t + 1)) by rw [Wx.load, partA_false, nth_eq]; exact fn4_at f (by omega))]
      have Vt := Ug (t + 1) (by omega)
      rw [o_of (show lenA h' 1 (f (t + 1)) = some (.int .i64 ((keysOf (bk l') (t + 1)).length : Int)) by
        have := Vt.len
        rw [enc1_len] at this
        rw [← this]; cases f (t + 1) <;> rfl)]
      have klt := kl (t + 1)
      have hrow : ∀ j, inRow (f (t + 1)) j → ¬ (j = p ∨ j = m) := fun j q => by have := U.hi (t + 1) (by omega) j q; omega
      have tm : t * l'.length ≤ 2 * l'.length := Nat.mul_le_mul_right _ (by omega)
      refine l16b (n := n) (by omega) (by omega) (by omega) Vt hrow (n + 3) 0 h' l'' c'' Sx Fx ox (Nat.zero_le _) (by omega) (by omega) fun h5 l5 c5 S5 hc5 F5 o5 hb5 => ?_
      unfold p16_64
      rw [o_of (inc64 (show t < lim by omega))]
      refine ih (t + 1) h5 l5 c5 (by omega) (by omega) S5 F5 o5 ?_ ?_
      · rw [Nat.succ_mul]; omega
      · rw [hb5, ← hr]
        have : t = 0 ∨ t = 1 ∨ t = 2 := by omega
        rcases this with rfl | rfl | rfl <;> rfl
    · rw [condB_f (decide_eq_false (by omega))]
      have : t = 3 := by omega
      subst this
      unfold p16_65
      obtain ⟨q1, q2⟩ := kmap_new (ek := strKey) h'
      rw [p_of q1]
      have e3 := ext_push ox (.map [] 0)
      have o3 := ox.push (.map [] 0)
      have S3 := Sx.ext e3
      have S3' := (Sg'.fr Fx (by omega) (by omega)).ext e3
      generalize h'.push (.map [] 0) = h3 at *
      rw [o_nilck, o_fadr0]
      rw [u_of (S3'.var.set1 (off := 0) (v := .map h'.sz) (show 0 < 2 by omega) rfl)]
      have f4 := Fr.put (X := fun j => j = p') rfl h3 (.row (VRow ([AV.map m', .int .i64 (c' : Int)].set 0 (.map h'.sz))))
      have o4 := o3.put (S3'.plt o3) (.row (VRow ([AV.map m', .int .i64 (c' : Int)].set 0 (.map h'.sz))))
      have V4 : Var (h3.put p' (.row (VRow ([AV.map m', .int .i64 (c' : Int)].set 0 (.map h'.sz))))) p' [.map h'.sz, .int .i64 (c' : Int)] := var_put p' _
      have zx := Fx.sz
      have zg := eg.1
      refine kG _ l'' c'' h'.sz (S3.fr f4 h1 (fun q => h4 q.symm)) hr hcx ⟨V4, f4.kmap q2 (by omega), by omega, .nil, by simp, Nat.zero_le _⟩ ?_ o4 (by omega)
      exact ((Fr.of_ext EE).trans (Fx.mono fun j q => .inl q)).trans ((Fr.of_ext e3).trans (f4.mono fun j q => .inr q))
end
end Go.Proofs.Ytflpfelalockgaa
