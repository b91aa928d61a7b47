/-
  Sets of staged changes: 'becomes', 'put', 'Insert', 'Update', 'Delete', 'Kind', 'Len', 'New'.
-/
import Derived.Test.YtflpfelalockgaaS0
import Derived.Test.YtflpfelalockgaaXD
namespace Go.Proofs.Ytflpfelalockgaa
open Go.Ab
set_option linter.unusedSimpArgs false
set_option linter.unusedVariables false

def enc2 (x : Nat × Nat) : AV := .agg [.int .i64 (x.1 : Int), .int .i64 (x.2 : Int)]

abbrev Ls := List (Str × Nat × Nat)
def bk (l : Ls) : Bk := mp (fun x => x.1) l

structure SetO (h : AHeap) (p m c : Nat) (l : Ls) : Prop where
  var : Var h p [.map m, .int .i64 (c : Int)]
  map : KMap strKey h m (mp enc2 l)
  ne : m ≠ p
  srt : (l.map fun x => x.2.2).Pairwise fun a b => a < b
  top : ∀ x ∈ l, x.2.2 ≤ c ∧ 1 ≤ x.2.1 ∧ x.2.1 ≤ 3
  len : l.length ≤ c

section
variable {h h' : AHeap} {p m c : Nat} {l : Ls}
theorem SetO.fr {X : Nat → Prop} (S : SetO h p m c l) (f : Fr X h h') (hp : ¬ X p) (hm : ¬ X m) : SetO h' p m c l :=
  ⟨f.var S.var hp, f.kmap S.map hm, S.ne, S.srt, S.top, S.len⟩
theorem SetO.ext (S : SetO h p m c l) (e : Ext h h') : SetO h' p m c l := S.fr (Fr.of_ext (X := fun _ => False) e) id id
theorem SetO.keys (S : SetO h p m c l) : (l.map fun p => p.1).Nodup := by
  have := S.map.keys
  simpa [mp, List.map_map, Function.comp_def] using this
theorem SetO.mlt (S : SetO h p m c l) (o : h.Ok) : m < h.sz := S.map.lt o
theorem SetO.plt (S : SetO h p m c l) (o : h.Ok) : p < h.sz := S.var.lt o
theorem SetO.look (S : SetO h p m c l) (k : Str) : lookA h (.leaf .str) false (.agg [.int .i64 0, .int .i64 0]) (.map m) (.str k) = some (enc2 ((lkG l k).getD (0, 0))) := by
  have := S.map.look strKeys (.agg [.int .i64 0, .int .i64 0]) k
  rw [lk_G, lkG_mp] at this
  refine Eq.trans this ?_
  cases lkG l k <;> rfl
theorem kind_cur (l : Ls) (k : Str) : ((lkG l k).getD (0, 0)).1 = kindB (bk l) k := by
  unfold kindB bk
  rw [lkG_mp]
  cases lkG l k <;> rfl
theorem SetO.cur (S : SetO h p m c l) (k : Str) : kindB (bk l) k ≤ 3 := by
  rw [← kind_cur]
  cases e : lkG l k with
  | none => exact Nat.zero_le _
  | some u => exact (S.top _ (lkG_mem e)).2.2
theorem SetO.cur0 (S : SetO h p m c l) {k : Str} (e : kindB (bk l) k = 0) : lkG l k = none := by
  rw [← kind_cur] at e
  cases e' : lkG l k with
  | none => rfl
  | some u =>
    rw [e'] at e
    have := (S.top _ (lkG_mem e')).2.1
    have e : u.1 = 0 := e
    have this : 1 ≤ u.1 := this
    omega
theorem l0 (V : Var h p [.map m, .int .i64 (c : Int)]) : loadA h false 1 (.ptr p 0 0 0) = some (.map m) := by rw [V.load]; rfl
theorem l1 (V : Var h p [.map m, .int .i64 (c : Int)]) : loadA h false 1 (.ptr p 0 0 1) = some (.int .i64 (c : Int)) := by rw [V.load]; rfl
end

theorem c25 {n a d : Nat} {h : AHeap} {K : Kont} (ha : a ≤ 3) (hd1 : 1 ≤ d) (hd : d ≤ 3) (kN : bec a d = none → K (.int .i64 (-1)) h = true) (kS : ∀ j : Nat, bec a d = some j → K (.int .i64 (j : Int)) h = true) :
    callN E (n + 1) (.func 25) [.int .i64 (a : Int), .int .i64 (d : Int)] h K = true := by
  apply d25
  have e1 : a = 0 ∨ a = 1 ∨ a = 2 ∨ a = 3 := by omega
  have e2 : d = 1 ∨ d = 2 ∨ d = 3 := by omega
  rcases e1 with rfl | rfl | rfl | rfl <;> rcases e2 with rfl | rfl | rfl <;> first | exact kN rfl | exact kS _ rfl

theorem p29 {n : Nat} {h : AHeap} {p m c w : Nat} {L : List (Str × AV)} {key : Str} {x y j : Int} {K : Kont} (o : h.Ok) (V : Var h p [.map m, .int .i64 (c : Int)]) (M : KMap strKey h m L) (W : Var h w [.int .i64 x, .int .i64 y]) (e1 : p ≠ w) (e2 : m ≠ w) (e3 : m ≠ p)
    (k : ∀ h', Fr (fun i => i = m ∨ i = w) h h' → h'.Ok → KMap strKey h' m (up L key (.agg [.int .i64 j, .int .i64 y])) → K (.int .i64 0) h' = true) :
    p26_29 (callN E n) n (.ptr p 0 0 0) (.str key) (.ptr w 0 0 0) (.int .i64 j) h K = true := by
  unfold p26_29
  rw [o_fadr0]
  rw [u_of (W.set1 (off := 0) (v := .int .i64 j) (show 0 < 2 by omega) rfl)]
  have f1 := Fr.put (X := fun i => i = w) rfl h (.row (VRow ([AV.int .i64 x, .int .i64 y].set 0 (.int .i64 j))))
  have o1 := o.put (W.lt o) (.row (VRow ([AV.int .i64 x, .int .i64 y].set 0 (.int .i64 j))))
  have W1 : Var (h.put w (.row (VRow ([AV.int .i64 x, .int .i64 y].set 0 (.int .i64 j))))) w [.int .i64 j, .int .i64 y] := var_put w _
  have V1 := f1.var V e1
  have M1 := f1.kmap M e2
  generalize h.put w (.row (VRow ([AV.int .i64 x, .int .i64 y].set 0 (.int .i64 j)))) = h1 at *
  have LA : loadA h1 true 2 (.ptr w 0 0 0) = some (.agg [.int .i64 j, .int .i64 y]) := by rw [W1.load]; rfl
  rw [o_nilck, o_fadr0, o_of (l0 V1), o_of LA]
  obtain ⟨h2, q1, q2, q3, q4, q5⟩ := M1.upd strKeys key (.agg [.int .i64 j, .int .i64 y])
  have q1 : mupdA h1 (.leaf .str) (.map m) (.str key) (.agg [.int .i64 j, .int .i64 y]) = some h2 := q1
  rw [u_of q1]
  exact k h2 ((f1.mono fun i h => .inr h).trans (Fr.of_but (.inl rfl) q2)) (q4 o1) q5

theorem c26 {n : Nat} {h : AHeap} {p m c d : Nat} {l : Ls} {k : Str} {K : Kont} (S : SetO h p m c l) (o : h.Ok) (hc : c < 1000000) (hd1 : 1 ≤ d) (hd : d ≤ 3)
    (kk : ∀ h' l' c', c' ≤ c + 1 → SetO h' p m c' l' → Fr (fun j => j = p ∨ j = m) h h' → h'.Ok → bk l' = (doR (bk l) k d).2 → K (.int .i64 ((doR (bk l) k d).1 : Int)) h' = true) :
    callN E (n + 2) (.func 26) [.ptr p 0 0 0, .str k, .int .i64 (d : Int)] h K = true := by
  have hlim : lim = 4611686018427387904 := rfl
  apply d26
  unfold s26
  rw [o_nilck, o_fadr0, o_of (l0 S.var), o_of (S.look k)]
  obtain ⟨a, cm, hcur⟩ : ∃ a cm, (lkG l k).getD (0, 0) = (a, cm) := ⟨_, _, rfl⟩
  have ha : kindB (bk l) k = a := by rw [← kind_cur, hcur]
  have ha3 := S.cur k
  rw [ha] at ha3
  rw [hcur]
  have A : allocV h [AV.int .i64 0, .int .i64 0] = some (.ptr h.sz 0 0 0, Ab.newRow h [[AV.int .i64 0, .int .i64 0]] 2) := alloc_eq (by decide) rfl
  rw [p_of A]
  have e1 := ext_newRow o [[AV.int .i64 (a : Int), .int .i64 (cm : Int)]] 2
  have o1 := ok_newRow o [[AV.int .i64 (a : Int), .int .i64 (cm : Int)]] 2
  have W1 : Var (Ab.newRow h [[AV.int .i64 (a : Int), .int .i64 (cm : Int)]] 2) h.sz [.int .i64 (a : Int), .int .i64 (cm : Int)] := var_new h _
  rw [u_of (show storeA (Ab.newRow h [[AV.int .i64 0, .int .i64 0]] 2) 2 (.ptr h.sz 0 0 0) (enc2 (a, cm)) = some (Ab.newRow h [[AV.int .i64 (a : Int), .int .i64 (cm : Int)]] 2) from store_new rfl rfl rfl)]
  have hpl := S.plt o
  have hml := S.mlt o
  have S1 := S.ext e1
  have sz1 : (Ab.newRow h [[AV.int .i64 (a : Int), .int .i64 (cm : Int)]] 2).sz = h.sz + 1 := rfl
  generalize Ab.newRow h [[AV.int .i64 (a : Int), .int .i64 (cm : Int)]] 2 = h1 at *
  have LA : loadA h1 false 1 (.ptr h.sz 0 0 0) = some (.int .i64 (a : Int)) := by rw [W1.load]; rfl
  rw [o_fadr0, o_of LA]
  have fX : ∀ {h2 : AHeap}, Fr (fun j => (j = p ∨ j = m) ∨ h.sz ≤ j) h1 h2 → Fr (fun j => j = p ∨ j = m) h h2 := fun f => (Fr.of_ext e1).new f o
  refine c25 ha3 hd1 hd (fun hN => ?_) (fun j hS => ?_)
  · rw [o_of (show binA .lss (.int .i64 (-1)) (.int .i64 0) = some (.bool true) from rfl), condB_true]
    have hr : doR (bk l) k d = (33, bk l) := by unfold doR; rw [ha, hN]; rfl
    rw [hr] at kk
    exact kk h1 l c (Nat.le_succ _) S1 (Fr.of_ext e1) o1 rfl
  · have hr : doR (bk l) k d = (0, putB (bk l) k j) := by unfold doR; rw [ha, hS]; rfl
    rw [hr] at kk
    rw [o_lss, condB_f (decide_eq_false (by omega)), o_eql]
    cases j with
    | zero =>
      rw [condB_t (by decide), o_nilck, o_fadr0, o_of (l0 S1.var)]
      obtain ⟨h2, q1, q2, q3, q4, q5⟩ := S1.map.del strKeys k
      have q1 : delA h1 (.leaf .str) (.map m) (.str k) = some h2 := q1
      rw [u_of q1]
      have f2 := Fr.of_but (X := fun j => (j = p ∨ j = m) ∨ h.sz ≤ j) (.inl (.inr rfl)) q2
      have f2' := Fr.of_but (X := fun j => j = m) rfl q2
      refine kk h2 (dlG l k) c (Nat.le_succ _) ⟨f2'.var S1.var (fun e => S.ne e.symm), ?_, S.ne, S.srt.sublist (dlG_sub.map _), fun x hx => S.top x (dlG_sub.subset hx), Nat.le_trans dlG_sub.length_le S.len⟩ (fX f2) (q4 o1) ?_
      · rw [dl_G, ← dlG_mp] at q5; exact q5
      · unfold bk; rw [dlG_mp]; rfl
    | succ j =>
      have hj3 := bec_le hS
      rw [condB_f (decide_eq_false (by omega)), o_fadr0, o_of LA, o_eql]
      by_cases ha0 : a = 0
      · subst ha0
        have hno := S.cur0 ha
        have hc0 : cm = 0 := by rw [hno] at hcur; cases hcur; rfl
        rw [condB_t (by decide), o_nilck]
        have L1 := l1 S1.var
        have ef : ∀ k : AV → Bool, optB (fadrA 1 (.ptr p 0 0 0)) k = k (.ptr p 0 0 1) := fun k => rfl
        rw [ef, o_of L1, o_of (inc64 (show c < lim by omega)), o_nilck, ef]
        rw [u_of (S1.var.set1 (off := 1) (v := .int .i64 ((c + 1 : Nat) : Int)) (show 1 < 2 by omega) rfl)]
        have f2 := Fr.put (X := fun i => i = p) rfl h1 (.row (VRow ([AV.map m, .int .i64 (c : Int)].set 1 (.int .i64 ((c + 1 : Nat) : Int)))))
        have o2 := o1.put (S1.plt o1) (.row (VRow ([AV.map m, .int .i64 (c : Int)].set 1 (.int .i64 ((c + 1 : Nat) : Int)))))
        have V2 : Var (h1.put p (.row (VRow ([AV.map m, .int .i64 (c : Int)].set 1 (.int .i64 ((c + 1 : Nat) : Int)))))) p [.map m, .int .i64 ((c + 1 : Nat) : Int)] := var_put p _
        have M2 := f2.kmap S1.map S.ne
        have W2 := f2.var W1 (show ¬ h.sz = p by omega)
        generalize h1.put p (.row (VRow ([AV.map m, .int .i64 (c : Int)].set 1 (.int .i64 ((c + 1 : Nat) : Int))))) = h2 at *
        have eg : ∀ k : AV → Bool, optB (fadrA 1 (.ptr h.sz 0 0 0)) k = k (.ptr h.sz 0 0 1) := fun k => rfl
        rw [o_nilck, ef, o_of (l1 V2), eg]
        rw [u_of (W2.set1 (off := 1) (v := .int .i64 ((c + 1 : Nat) : Int)) (show 1 < 2 by omega) rfl)]
        have f3 := Fr.put (X := fun i => i = h.sz) rfl h2 (.row (VRow ([AV.int .i64 ((0 : Nat) : Int), .int .i64 (cm : Int)].set 1 (.int .i64 ((c + 1 : Nat) : Int)))))
        have o3 := o2.put (W2.lt o2) (.row (VRow ([AV.int .i64 ((0 : Nat) : Int), .int .i64 (cm : Int)].set 1 (.int .i64 ((c + 1 : Nat) : Int)))))
        have W3 : Var (h2.put h.sz (.row (VRow ([AV.int .i64 ((0 : Nat) : Int), .int .i64 (cm : Int)].set 1 (.int .i64 ((c + 1 : Nat) : Int)))))) h.sz [.int .i64 ((0 : Nat) : Int), .int .i64 ((c + 1 : Nat) : Int)] := var_put h.sz _
        have V3 := f3.var V2 (show ¬ p = h.sz by omega)
        have M3 := f3.kmap M2 (show ¬ m = h.sz by omega)
        generalize h2.put h.sz (.row (VRow ([AV.int .i64 ((0 : Nat) : Int), .int .i64 (cm : Int)].set 1 (.int .i64 ((c + 1 : Nat) : Int))))) = h3 at *
        refine p29 (n := n + 1) o3 V3 M3 W3 (by omega) (by omega) S.ne fun h4 f4 o4 M4 => ?_
        have F : Fr (fun i => (i = p ∨ i = m) ∨ h.sz ≤ i) h1 h4 := ((f2.mono fun i e => .inl (.inl e)).trans (f3.mono fun i e => .inr (by omega))).trans (f4.mono fun i e => by rcases e with e | e; exact .inl (.inr e); exact .inr (by omega))
        have hup : upG l k (j + 1, c + 1) = l ++ [(k, j + 1, c + 1)] := upG_none hno
        refine kk h4 (upG l k (j + 1, c + 1)) (c + 1) (Nat.le_refl _) ⟨f4.var V3 (fun e => by rcases e with e | e; exact S.ne e.symm; omega), ?_, S.ne, ?_, ?_, ?_⟩ (fX F) o4 ?_
        · rw [up_G] at M4
          rw [upG_mp]; exact M4
        · rw [hup, List.map_append, List.pairwise_append]
          refine ⟨S.srt, by simp, fun a ha b hb => ?_⟩
          obtain ⟨x, hx, rfl⟩ := List.mem_map.1 ha
          simp only [List.map_cons, List.map_nil, List.mem_singleton] at hb
          have := (S.top x hx).1
          omega
        · intro x hx
          rcases upG_mem hx with rfl | hx
          · exact ⟨Nat.le_refl _, by simp, hj3⟩
          · have := S.top x hx; omega
        · rw [hup, List.length_append]
          have := S.len
          simp; omega
        · unfold bk; rw [upG_mp]; rfl
      · have hsome : lkG l k = some (a, cm) := by
          cases e : lkG l k with
          | none => rw [e] at hcur; cases hcur; exact absurd rfl ha0
          | some u => rw [e] at hcur; simp at hcur; rw [hcur]
        rw [condB_f (decide_eq_false (by omega))]
        refine p29 (n := n + 1) o1 S1.var S1.map W1 (by omega) (by omega) S.ne fun h4 f4 o4 M4 => ?_
        have F : Fr (fun i => (i = p ∨ i = m) ∨ h.sz ≤ i) h1 h4 := f4.mono fun i e => by rcases e with e | e; exact .inl (.inr e); exact .inr (by omega)
        refine kk h4 (upG l k (j + 1, cm)) c (Nat.le_succ _) ⟨f4.var S1.var (fun e => by rcases e with e | e; exact S.ne e.symm; omega), ?_, S.ne, ?_, ?_, ?_⟩ (fX F) o4 ?_
        · rw [up_G] at M4
          rw [upG_mp]; exact M4
        · have := upG_some (fun x : Nat × Nat => x.2) (v := (j + 1, cm)) (u := (a, cm)) rfl hsome
          rw [this]; exact S.srt
        · intro x hx
          rcases upG_mem hx with rfl | hx
          · exact ⟨(S.top _ (lkG_mem hsome)).1, by simp, hj3⟩
          · exact S.top x hx
        · have := upG_keys (v := (j + 1, cm)) hsome
          have := congrArg List.length this
          simp only [List.length_map] at this
          rw [this]; exact S.len
        · unfold bk; rw [upG_mp]; rfl
end Go.Proofs.Ytflpfelalockgaa
