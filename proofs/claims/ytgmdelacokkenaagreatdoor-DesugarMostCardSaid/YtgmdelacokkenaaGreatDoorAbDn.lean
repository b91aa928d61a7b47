/-
  Functions as they are printed against the code itself, for runs in the kernel: what the code says over lists of temporaries, each operation handed what comes next; a function's points, loops and rounds as they are printed say no more, where the kernel finds each the same as what the code says there.
-/
import Derived.Test.YtgmdelacokkenaaGreatDoorAbSim
namespace Go.Ab
set_option linter.unusedSimpArgs false
set_option linter.unusedVariables false

abbrev KL := AExit → LEnv → AHeap → Bool
abbrev Pv := List AV → AHeap → Bool
/-- What the loops around may go on with, the innermost first. -/
abbrev Bt := List Pv

def putL (l : LEnv) (dst : Option Nat) (v : AV) : LEnv :=
  match dst with
  | some d => (d, v) :: l
  | none => l
theorem Has.putL {ρ : Regs} {l : LEnv} (H : Has ρ l) (dst : Option Nat) (v : AV) : Has (put ρ dst v) (putL l dst v) := by
  cases dst with
  | none => exact H
  | some d => exact H.set d v

noncomputable section
/-! ### Operations, handed what comes next -/
def m1 {α : Type} (l : LEnv) (x : Opd) (f : AV → α) : Option α :=
  match evL l x with
  | some v => some (f v)
  | none => none
def m2 {α : Type} (l : LEnv) (x y : Opd) (f : AV → AV → α) : Option α :=
  match evL l x with
  | some v => match evL l y with
    | some w => some (f v w)
    | none => none
  | none => none
def m3 {α : Type} (l : LEnv) (x y z : Opd) (f : AV → AV → AV → α) : Option α :=
  match evL l x with
  | some v => match evL l y with
    | some w => match evL l z with
      | some u => some (f v w u)
      | none => none
    | none => none
  | none => none

abbrev PF := (AV → Bool) → Bool
abbrev HF := Kont → Bool

def pureF (l : LEnv) (h : AHeap) (op : AOp) : Option PF :=
  match op with
  | .fadr off x => m1 l x fun v => fadrK off v
  | .load false _ x => m1 l x fun v => loadK h v
  | .load true n x => m1 l x fun v => loadGK h n v
  | .bin .eql x y => m2 l x y eqlK
  | .bin .neq x y => m2 l x y neqK
  | .bin .lss x y => m2 l x y lssK
  | .bin .leq x y => m2 l x y leqK
  | .bin .gtr x y => m2 l x y gtrK
  | .bin .geq x y => m2 l x y geqK
  | .bin .add x y => m2 l x y addK
  | .bin .sub x y => m2 l x y subK
  | .pick c a b => m3 l c a b pickK
  | .not x => m1 l x notK
  | .nilck x => m1 l x nilckK
  | .ext x i => m1 l x fun v => extK i v
  | .len 0 x => m1 l x lenSK
  | .len 1 x => m1 l x lenK
  | .iadr sz x y => m2 l x y (iadrK h sz)
  | .idxs x y => m2 l x y idxsK
  | .fld false off _ x => m1 l x fun v => fldK off v
  | .sls x lo hi => (match evL l x, evoL l lo, evoL l hi with
    | some v, some lo, some hi => some (slsK v lo hi)
    | _, _, _ => none)
  | .build z ps => (match partsL l ps with
    | some vs => some (buildK z vs)
    | none => none)
  | op => match pureL l h op with
    | some o => some (optK o)
    | none => none

def heapF (l : LEnv) (h : AHeap) (op : AOp) : Option HF :=
  match op with
  | .store 1 a v => m2 l a v fun a v k => storeK h a v fun h => k (.tup []) h
  | .store (n + 2) a v => m2 l a v fun a v k => storeNK h (n + 2) a v fun h => k (.tup []) h
  | .alloc z => (match Nat.beq z.length 0 with
    | false => (match allLeaf z with
      | true => some (allocK h z z.length)
      | false => some (optPK (allocA h z)))
    | true => some (optPK (allocA h z)))
  | .box none 1 x => m1 l x fun v => boxK h v
  | .app (n + 1) bytes s x => m2 l s x fun s x => appK h (n + 1) bytes s x
  | op => match heapL l h op with
    | some o => some (optPK o)
    | none => none

/-! ### What the code says -/
def dnCall (call : CallFn) (l : LEnv) (f : Opd) (vs : List AV) (h : AHeap) (k : Kont) : Bool :=
  match f with
  | .c (.fn (.func g) [] []) => call (.func g) vs h k
  | f => match evL l f with
    | some fv => callV call fv vs h k
    | none => false

def dnP (l : LEnv) (h : AHeap) (op : AOp) (g : Option (AV × Bool)) (k : Kont) : Bool :=
  match pureF l h op with
  | some F => (match g with
    | none => F fun v => k v h
    | some (w, b) => gK w b F fun v => k v h)
  | none => match heapF l h op with
    | some F => (match g with
      | none => F k
      | some (w, b) => gP w b F h k)
    | none => false

def pncK (Q : Kont) (v : AV) (h : AHeap) : Bool :=
  match v with
  | .ifc t u => Q (.pan (.ifc t u)) h
  | _ => false

def dnO (call : CallFn) (Q : Kont) (o : AOper) (l : LEnv) (h : AHeap) (k : LEnv → AHeap → Bool) : Bool :=
  match o with
  | ⟨dst, op, none⟩ => (match op with
    | .fail => false
    | .nxt x => (match evL l x with
      | some v => nextA h v fun v h => k (putL l dst v) h
      | none => false)
    | .pnc x => (match evL l x with
      | some v => pncK Q v h
      | none => false)
    | .call f xs => (match evsL l xs with
      | some vs => dnCall call l f vs h (pz Q fun v h => k (putL l dst v) h)
      | none => false)
    | .mv x => (match dst with
      | some d => (match evL l x with
        | some v => k ((d, v) :: l) h
        | none => false)
      | none => dnP l h (.mv x) none fun _ h => k l h)
    | op => dnP l h op none fun v h => k (putL l dst v) h)
  | ⟨dst, op, some (j, b)⟩ => match l.get j with
    | none => false
    | some g => (match op with
      | .fail => false
      | .nxt _ => false
      | .pnc x => (match evL l x with
        | some v => gP g b (fun _ => pncK Q v h) h fun v h => k (putL l dst v) h
        | none => false)
      | .call f xs => (match evsL l xs with
        | some vs => gP g b (fun k => dnCall call l f vs h (pz Q k)) h fun v h => k (putL l dst v) h
        | none => false)
      | op => dnP l h op (some (g, b)) fun v h => k (putL l dst v) h)

def dnR (call : CallFn) (Q : Kont) : List AOper → LEnv → AHeap → (LEnv → AHeap → Bool) → Bool
  | [], l, h, k => k l h
  | o :: ops, l, h, k => dnO call Q o l h fun l h => dnR call Q ops l h k

def dnK : List AOper → LEnv → AHeap → (LEnv → Bool) → Bool
  | [], l, _, k => k l
  | ⟨some d, .mv x, none⟩ :: ops, l, h, k => (match evL l x with
    | some v => dnK ops ((d, v) :: l) h k
    | none => false)
  | ⟨dst, op, none⟩ :: ops, l, h, k => (match pureF l h op with
    | some F => F fun v => dnK ops (putL l dst v) h k
    | none => false)
  | ⟨dst, op, some (j, b)⟩ :: ops, l, h, k => (match l.get j with
    | none => false
    | some g => match pureF l h op with
      | some F => gK g b F fun v => dnK ops (putL l dst v) h k
      | none => false)

def sameK (u : AV) (r : Bool) (v : AV) : Bool := ifR (AV.same v u) r false
def gS (g : AV) (b : Bool) (run : Bool → Bool) (r : Bool) : Bool :=
  match g with
  | .bool x => bif x == b then run r else r
  | _ => r

def dnA : List AOper → LEnv → AHeap → Bool → Bool
  | [], _, _, r => r
  | ⟨none, _, _⟩ :: _, _, _, _ => false
  | ⟨some d, op, none⟩ :: ops, l, h, r => (match pureF l h op with
    | some F => (match l.get d with
      | some u => F (sameK u (dnA ops l h r))
      | none => false)
    | none => false)
  | ⟨some d, op, some (j, b)⟩ :: ops, l, h, r => (match l.get j with
    | some g => (match pureF l h op with
      | some F => (match l.get d with
        | some u => gS g b (fun r => F (sameK u r)) (dnA ops l h r)
        | none => false)
      | none => false)
    | none => false)

def idOf : AV → Nat
  | .ptr id _ _ _ => id
  | .slc id _ _ _ _ _ => id
  | .map id => id
  | _ => 0
/-- A panic behind what came up early. -/
def goneQ (es : List AV) (Q : Kont) : Kont :=
  match es with
  | [] => Q
  | e :: es => fun v h => match goneAll (idOf e :: es.map idOf) h with
    | some h => Q v h
    | none => false
def earlyV (o : AOper) (l : LEnv) : Option (List AV) :=
  bif isEarlyA o then (match o.dst with
    | some d => (match l.get d with
      | some v => some [v]
      | none => none)
    | none => none) else some []

def dnD (call : CallFn) (Q : Kont) : List (AOper × List AOper × List AOper) → List AV → LEnv → AHeap → (LEnv → AHeap → Bool) → Bool
  | [], _, l, h, k => k l h
  | (act, chk, ns) :: rest, es, l, h, k => dnO call (goneQ es Q) act l h fun l h => match earlyV act l with
    | none => false
    | some e => dnA chk l h (dnK ns l h fun l => dnD call Q rest (e ++ es) l h k)

/-! ### The code with its named points -/
inductive BCode where
  | skip
  | reg (ops : List AOper)
  /-- A region in pieces. -/
  | rseq (ops : List AOper) (b : BCode)
  | dreg (n0 : List AOper) (rest : List (AOper × List AOper × List AOper))
  | seq (a b : BCode)
  | cond (c : Opd) (a b : BCode)
  | block (id : Nat) (c : BCode)
  | loop (j : Nat) (ks : List Nat) (c : BCode)
  | exit (id : Nat)
  | scope (j : Nat) (ks : List Nat) (fks : List Nat) (c : BCode) (l : Nat) (r : BCode)
  | label (l : Nat)
  | goto (l : Nat)
  | ret
  | refuse
  | pt (j : Nat) (ks : List Nat) (c : BCode)
  | stop (c : ACode)

def BCode.ops : BCode → List AOper
  | .reg l => l
  | .rseq l b => l ++ b.ops
  | .pt _ _ b => b.ops
  | _ => []
def BCode.isReg : BCode → Bool
  | .reg _ => true
  | .rseq _ b => b.isReg
  | .pt _ _ b => b.isReg
  | _ => false

def BCode.erase : BCode → ACode
  | .skip => .skip
  | .reg ops => .reg ops
  | .rseq ops b => .reg (ops ++ b.ops)
  | .dreg n0 rest => .dreg n0 rest
  | .seq a b => .seq a.erase b.erase
  | .cond c a b => .cond c a.erase b.erase
  | .block id c => .block id c.erase
  | .loop _ _ c => .loop c.erase
  | .exit id => .exit id
  | .scope _ _ _ c l r => .scope c.erase l r.erase
  | .label l => .label l
  | .goto l => .goto l
  | .ret => .ret
  | .refuse => .refuse
  | .pt _ _ c => c.erase
  | .stop c => c

/-- The places: points, loops (and scopes), each with its temporaries; of scopes those of the first part, too; regions in pieces: so many operations, then a point. -/
structure Ann where
  pts : List (Nat × List Nat)
  lps : List (Nat × List Nat)
  scs : List (Nat × List Nat) := []
  cuts : List (Nat × List (Nat × Nat × List Nat)) := []

def annG {α : Type} : List (Nat × α) → Nat → Option α
  | [], _ => none
  | (k, v) :: l, n => bif Nat.beq n k then some v else annG l n

def wrapB (A : Ann) (i : Nat) (c : BCode) : BCode :=
  match annG A.pts i with
  | some ks => .pt i ks c
  | none => c

def splitB : List (Nat × Nat × List Nat) → List AOper → BCode
  | [], ops => .reg ops
  | (m, j, ks) :: l, ops => .rseq (ops.take m) (.pt j ks (splitB l (ops.drop m)))
def regB (A : Ann) (i : Nat) (ops : List AOper) : BCode :=
  match annG A.cuts i with
  | some l => splitB l ops
  | none => .reg ops

def toB (A : Ann) : ACode → Nat → BCode × Nat
  | .skip, i => (wrapB A i .skip, i + 1)
  | .reg ops, i => (wrapB A i (regB A i ops), i + 1)
  | .dreg n0 rest, i => (wrapB A i (.dreg n0 rest), i + 1)
  | .seq a b, i => match toB A a (i + 1) with
    | (a', i1) => match toB A b i1 with
      | (b', i2) => (wrapB A i (.seq a' b'), i2)
  | .cond c a b, i => match toB A a (i + 1) with
    | (a', i1) => match toB A b i1 with
      | (b', i2) => (wrapB A i (.cond c a' b'), i2)
  | .block id a, i => match toB A a (i + 1) with
    | (a', i1) => (wrapB A i (.block id a'), i1)
  | .loop a, i => match toB A a (i + 1) with
    | (a', i1) => (match annG A.lps i with
      | some ks => (wrapB A i (.loop i ks a'), i1)
      | none => (.stop (.loop a), i1))
  | .exit id, i => (wrapB A i (.exit id), i + 1)
  | .scope a l b, i => match toB A a (i + 1) with
    | (a', i1) => match toB A b i1 with
      | (b', i2) => (match annG A.lps i with
        | some ks => (match annG A.scs i with
          | some fks => (wrapB A i (.scope i ks fks a' l b'), i2)
          | none => (.stop (.scope a l b), i2))
        | none => (.stop (.scope a l b), i2))
  | .label l, i => (wrapB A i (.label l), i + 1)
  | .goto l, i => (wrapB A i (.goto l), i + 1)
  | .ret, i => (wrapB A i .ret, i + 1)
  | .refuse, i => (wrapB A i .refuse, i + 1)
  | .rf f ps a b, i => (.stop (.rf f ps a b), i + 1)
  | .keep ks c, i => (.stop (.keep ks c), i + 1)
  | .cut cs c, i => (.stop (.cut cs c), i + 1)

theorem splitB_ops : ∀ (l : List (Nat × Nat × List Nat)) (ops : List AOper), (splitB l ops).ops = ops ∧ (splitB l ops).isReg = true ∧ (splitB l ops).erase = .reg ops
  | [], ops => ⟨rfl, rfl, rfl⟩
  | (m, j, ks) :: l, ops => by
    obtain ⟨h1, h2, h3⟩ := splitB_ops l (ops.drop m)
    simp only [splitB, BCode.ops, BCode.isReg, BCode.erase, h1, h2, List.take_append_drop, and_self]
theorem regB_erase (A : Ann) (i : Nat) (ops : List AOper) : (regB A i ops).erase = .reg ops := by
  unfold regB
  split
  · exact (splitB_ops _ _).2.2
  · rfl
theorem erase_wrap (A : Ann) (i : Nat) (c : BCode) : (wrapB A i c).erase = c.erase := by
  unfold wrapB; split <;> rfl
theorem erase_toB (A : Ann) : ∀ (c : ACode) (i : Nat), (toB A c i).1.erase = c := by
  intro c
  induction c with
  | seq a b iha ihb => intro i; simp only [toB, erase_wrap, BCode.erase, iha, ihb]
  | cond o a b iha ihb => intro i; simp only [toB, erase_wrap, BCode.erase, iha, ihb]
  | block id a ih => intro i; simp only [toB, erase_wrap, BCode.erase, ih]
  | loop a ih =>
    intro i
    simp only [toB]
    split
    · simp only [erase_wrap, BCode.erase, ih]
    · rfl
  | scope a l b iha ihb =>
    intro i
    simp only [toB]
    split
    · split
      · simp only [erase_wrap, BCode.erase, iha, ihb]
      · rfl
    · rfl
  | reg ops => intro i; simp only [toB, erase_wrap, regB_erase]
  | _ => intro i; simp only [toB, erase_wrap, BCode.erase]

/-- A function as it is printed: points, rounds, loops with so many rounds left. -/
structure Sp where
  pt : Bt → Nat → Pv
  fs : Bt → Nat → Pv
  rd : Bt → Nat → Pv
  lp : Bt → Nat → Nat → Pv

def vals : LEnv → List AV
  | [] => []
  | (_, v) :: l => v :: vals l

def blockL (id : Nat) (K : KL) : KL := fun x l h =>
  match x with
  | .exit i => bif Nat.beq i id then K .normal l h else K (.exit i) l h
  | x => K x l h
def goL (B : Pv) (ks : List Nat) (l : LEnv) (h : AHeap) : Bool :=
  match keepL ks l with
  | some l' => B (vals l') h
  | none => false
def loopL (B : Pv) (ks : List Nat) (K : KL) : KL := fun x l h =>
  match x with
  | .normal => goL B ks l h
  | x => K x l h
def jumpL (lb : Nat) (B : Pv) (ks : List Nat) (K : KL) : KL := fun x l h =>
  match x with
  | .goto l' => bif Nat.beq l' lb then goL B ks l h else false
  | x => K x l h

def dnB (call : CallFn) (n : Nat) (Q : Kont) (S : Sp) (β : Bt) : BCode → LEnv → AHeap → KL → Bool
  | .skip, l, h, K => K .normal l h
  | .reg ops, l, h, K => dnR call Q ops l h (K .normal)
  | .rseq ops b, l, h, K => (match b.isReg with
    | true => dnR call Q ops l h fun l h => dnB call n Q S β b l h K
    | false => false)
  | .dreg n0 rest, l, h, K => dnK n0 l h fun l => dnD call Q rest [] l h (K .normal)
  | .seq a b, l, h, K => dnB call n Q S β a l h fun x l h => match x with
    | .normal => dnB call n Q S β b l h K
    | x => K x l h
  | .cond c a b, l, h, K => (match evL l c with
    | some v => condK v (dnB call n Q S β a l h K) (dnB call n Q S β b l h K)
    | none => false)
  | .block id a, l, h, K => dnB call n Q S β a l h (blockL id K)
  | .loop j ks _, l, h, _ => goL (S.lp β j n) ks l h
  | .pt j ks _, l, h, _ => goL (S.pt β j) ks l h
  | .scope j _ fks _ _ _, l, h, _ => goL (S.fs (S.lp β j n :: β) j) fks l h
  | .exit id, l, h, K => K (.exit id) l h
  | .label _, l, h, K => K .normal l h
  | .goto lb, l, h, K => K (.goto lb) l h
  | .ret, l, h, K => K .ret l h
  | .refuse, _, _, _ => false
  | .stop _, _, _, _ => false

abbrev F0 := AHeap → Bool
abbrev F1 := AV → F0
abbrev F2 := AV → F1
abbrev F3 := AV → F2
abbrev F4 := AV → F3
abbrev F5 := AV → F4
abbrev F6 := AV → F5
abbrev F7 := AV → F6
abbrev F8 := AV → F7
abbrev F9 := AV → F8
abbrev F10 := AV → F9
abbrev F11 := AV → F10
abbrev F12 := AV → F11
abbrev F13 := AV → F12
abbrev F14 := AV → F13
abbrev F15 := AV → F14
abbrev F16 := AV → F15
abbrev F17 := AV → F16
abbrev F18 := AV → F17
abbrev F19 := AV → F18
abbrev F20 := AV → F19
/-! ### What is asked of the kernel -/
/-- Loops around, a number of rounds, values. -/
abbrev Fn := (Nat → Pv) → Nat → (Nat → AV) → AHeap → Bool
def stk : Nat → Nat → (Nat → Pv) → Bt
  | 0, _, _ => []
  | d + 1, i, τ => τ i :: stk d (i + 1) τ
def tabE : List Nat → Nat → (Nat → AV) → LEnv
  | [], _, _ => []
  | k :: ks, i, σ => (k, σ i) :: tabE ks (i + 1) σ
def tabV : Nat → Nat → (Nat → AV) → List AV
  | 0, _, _ => []
  | n + 1, i, σ => σ i :: tabV n (i + 1) σ
def tailK (f : Pv → KL → KL) (K : Bt → KL) : Bt → KL
  | B :: β => f B (K β)
  | [] => fun _ _ _ => false

def prs (call : CallFn) (n : Nat) (Q : Kont) (S : Sp) : Nat → BCode → (Bt → KL) → List (Fn × Fn)
  | d, .pt j ks a, K => (fun τ _ σ h => S.pt (stk d 0 τ) j (vals (tabE ks 0 σ)) h, fun τ _ σ h => dnB call n Q S (stk d 0 τ) a (tabE ks 0 σ) h (K (stk d 0 τ))) :: prs call n Q S d a K
  | d, .loop j ks a, K =>
    (fun τ _ σ h => S.rd (stk (d + 1) 0 τ) j (vals (tabE ks 0 σ)) h, fun τ _ σ h => dnB call n Q S (stk (d + 1) 0 τ) a (tabE ks 0 σ) h (tailK (fun B => loopL B ks) K (stk (d + 1) 0 τ))) ::
    (fun τ _ σ h => S.lp (stk d 0 τ) j 0 (vals (tabE ks 0 σ)) h, fun _ _ _ _ => false) ::
    (fun τ m σ h => S.lp (stk d 0 τ) j (m + 1) (vals (tabE ks 0 σ)) h, fun τ m σ h => S.rd (S.lp (stk d 0 τ) j m :: stk d 0 τ) j (vals (tabE ks 0 σ)) h) ::
    prs call n Q S (d + 1) a (tailK (fun B => loopL B ks) K)
  | d, .rseq _ b, K => prs call n Q S d b K
  | d, .seq a b, K => prs call n Q S d a (fun β x l h => match x with
      | .normal => dnB call n Q S β b l h (K β)
      | x => K β x l h) ++ prs call n Q S d b K
  | d, .cond _ a b, K => prs call n Q S d a K ++ prs call n Q S d b K
  | d, .block id a, K => prs call n Q S d a (fun β => blockL id (K β))
  | d, .scope j ks fks a lb r, K =>
    (fun τ _ σ h => S.fs (stk (d + 1) 0 τ) j (vals (tabE fks 0 σ)) h, fun τ _ σ h => dnB call n Q S (stk (d + 1) 0 τ) a (tabE fks 0 σ) h (tailK (fun B => jumpL lb B ks) K (stk (d + 1) 0 τ))) ::
    (fun τ _ σ h => S.rd (stk (d + 1) 0 τ) j (vals (tabE ks 0 σ)) h, fun τ _ σ h => dnB call n Q S (stk (d + 1) 0 τ) r (tabE ks 0 σ) h (tailK (fun B => jumpL lb B ks) K (stk (d + 1) 0 τ))) ::
    (fun τ _ σ h => S.lp (stk d 0 τ) j 0 (vals (tabE ks 0 σ)) h, fun _ _ _ _ => false) ::
    (fun τ m σ h => S.lp (stk d 0 τ) j (m + 1) (vals (tabE ks 0 σ)) h, fun τ m σ h => S.rd (S.lp (stk d 0 τ) j m :: stk d 0 τ) j (vals (tabE ks 0 σ)) h) ::
    (prs call n Q S (d + 1) a (tailK (fun B => jumpL lb B ks) K) ++ prs call n Q S (d + 1) r (tailK (fun B => jumpL lb B ks) K))
  | _, _, _ => []

/-! ### Tables of what is printed -/
abbrev ifF (j k : Nat) (v r : Pv) : Pv := @Bool.rec (fun _ => Pv) r v (Nat.beq j k)
abbrev ifL (j k : Nat) (v r : Pv) : Pv := @Bool.rec (fun _ => Pv) r v (Nat.beq j k)
abbrev noP : Pv := fun _ _ => false
/-- No points at all. -/
abbrev noS : CallFn → Nat → Kont → Sp := fun _ _ _ => { pt := fun _ _ => noP, fs := fun _ _ => noP, rd := fun _ _ => noP, lp := fun _ _ _ => noP }
def pB : Nat → Bt → Pv
  | _, [] => fun _ _ => false
  | 0, B :: _ => B
  | i + 1, _ :: β => pB i β
def pF0 (B : Pv) : F0 := fun h => B [] h
def pA0 (f : AHeap → Kont → Bool) (K : Kont) : Pv := let _ := @dnB; fun t0 h => @List.rec AV (fun _ => Bool) (f h K) (fun _ _ _ => false) t0
def pC0 (f : AHeap → Kont → Bool) (K : Kont) : Pv := let _ := @dnB; fun t0 h => @List.rec AV (fun _ => Bool) (f h K) (fun _ _ _ => false) t0
def pF1 (B : Pv) : F1 := fun x0 h => B [x0] h
def pA1 (f : AV → AHeap → Kont → Bool) (K : Kont) : Pv := let _ := @dnB; fun t0 h => @List.rec AV (fun _ => Bool) false (fun x0 t1 _ => @List.rec AV (fun _ => Bool) (f x0 h K) (fun _ _ _ => false) t1) t0
def pC1 (f : AV → AHeap → Kont → Bool) (K : Kont) : Pv := let _ := @dnB; fun t0 h => @List.rec AV (fun _ => Bool) false (fun x0 t1 _ => @List.rec AV (fun _ => Bool) (f x0 h K) (fun _ _ _ => false) t1) t0
def pF2 (B : Pv) : F2 := fun x0 x1 h => B [x0, x1] h
def pA2 (f : AV → AV → AHeap → Kont → Bool) (K : Kont) : Pv := let _ := @dnB; fun t0 h => @List.rec AV (fun _ => Bool) false (fun x0 t1 _ => @List.rec AV (fun _ => Bool) false (fun x1 t2 _ => @List.rec AV (fun _ => Bool) (f x0 x1 h K) (fun _ _ _ => false) t2) t1) t0
def pC2 (f : AV → AV → AHeap → Kont → Bool) (K : Kont) : Pv := let _ := @dnB; fun t0 h => @List.rec AV (fun _ => Bool) false (fun x0 t1 _ => @List.rec AV (fun _ => Bool) false (fun x1 t2 _ => @List.rec AV (fun _ => Bool) (f x0 x1 h K) (fun _ _ _ => false) t2) t1) t0
def pF3 (B : Pv) : F3 := fun x0 x1 x2 h => B [x0, x1, x2] h
def pA3 (f : AV → AV → AV → AHeap → Kont → Bool) (K : Kont) : Pv := let _ := @dnB; fun t0 h => @List.rec AV (fun _ => Bool) false (fun x0 t1 _ => @List.rec AV (fun _ => Bool) false (fun x1 t2 _ => @List.rec AV (fun _ => Bool) false (fun x2 t3 _ => @List.rec AV (fun _ => Bool) (f x0 x1 x2 h K) (fun _ _ _ => false) t3) t2) t1) t0
def pC3 (f : AV → AV → AV → AHeap → Kont → Bool) (K : Kont) : Pv := let _ := @dnB; fun t0 h => @List.rec AV (fun _ => Bool) false (fun x0 t1 _ => @List.rec AV (fun _ => Bool) false (fun x1 t2 _ => @List.rec AV (fun _ => Bool) false (fun x2 t3 _ => @List.rec AV (fun _ => Bool) (f x0 x1 x2 h K) (fun _ _ _ => false) t3) t2) t1) t0
def pF4 (B : Pv) : F4 := fun x0 x1 x2 x3 h => B [x0, x1, x2, x3] h
def pA4 (f : AV → AV → AV → AV → AHeap → Kont → Bool) (K : Kont) : Pv := let _ := @dnB; fun t0 h => @List.rec AV (fun _ => Bool) false (fun x0 t1 _ => @List.rec AV (fun _ => Bool) false (fun x1 t2 _ => @List.rec AV (fun _ => Bool) false (fun x2 t3 _ => @List.rec AV (fun _ => Bool) false (fun x3 t4 _ => @List.rec AV (fun _ => Bool) (f x0 x1 x2 x3 h K) (fun _ _ _ => false) t4) t3) t2) t1) t0
def pC4 (f : AV → AV → AV → AV → AHeap → Kont → Bool) (K : Kont) : Pv := let _ := @dnB; fun t0 h => @List.rec AV (fun _ => Bool) false (fun x0 t1 _ => @List.rec AV (fun _ => Bool) false (fun x1 t2 _ => @List.rec AV (fun _ => Bool) false (fun x2 t3 _ => @List.rec AV (fun _ => Bool) false (fun x3 t4 _ => @List.rec AV (fun _ => Bool) (f x0 x1 x2 x3 h K) (fun _ _ _ => false) t4) t3) t2) t1) t0
def pF5 (B : Pv) : F5 := fun x0 x1 x2 x3 x4 h => B [x0, x1, x2, x3, x4] h
def pA5 (f : AV → AV → AV → AV → AV → AHeap → Kont → Bool) (K : Kont) : Pv := let _ := @dnB; fun t0 h => @List.rec AV (fun _ => Bool) false (fun x0 t1 _ => @List.rec AV (fun _ => Bool) false (fun x1 t2 _ => @List.rec AV (fun _ => Bool) false (fun x2 t3 _ => @List.rec AV (fun _ => Bool) false (fun x3 t4 _ => @List.rec AV (fun _ => Bool) false (fun x4 t5 _ => @List.rec AV (fun _ => Bool) (f x0 x1 x2 x3 x4 h K) (fun _ _ _ => false) t5) t4) t3) t2) t1) t0
def pC5 (f : AV → AV → AV → AV → AV → AHeap → Kont → Bool) (K : Kont) : Pv := let _ := @dnB; fun t0 h => @List.rec AV (fun _ => Bool) false (fun x0 t1 _ => @List.rec AV (fun _ => Bool) false (fun x1 t2 _ => @List.rec AV (fun _ => Bool) false (fun x2 t3 _ => @List.rec AV (fun _ => Bool) false (fun x3 t4 _ => @List.rec AV (fun _ => Bool) false (fun x4 t5 _ => @List.rec AV (fun _ => Bool) (f x0 x1 x2 x3 x4 h K) (fun _ _ _ => false) t5) t4) t3) t2) t1) t0
def pF6 (B : Pv) : F6 := fun x0 x1 x2 x3 x4 x5 h => B [x0, x1, x2, x3, x4, x5] h
def pA6 (f : AV → AV → AV → AV → AV → AV → AHeap → Kont → Bool) (K : Kont) : Pv := let _ := @dnB; fun t0 h => @List.rec AV (fun _ => Bool) false (fun x0 t1 _ => @List.rec AV (fun _ => Bool) false (fun x1 t2 _ => @List.rec AV (fun _ => Bool) false (fun x2 t3 _ => @List.rec AV (fun _ => Bool) false (fun x3 t4 _ => @List.rec AV (fun _ => Bool) false (fun x4 t5 _ => @List.rec AV (fun _ => Bool) false (fun x5 t6 _ => @List.rec AV (fun _ => Bool) (f x0 x1 x2 x3 x4 x5 h K) (fun _ _ _ => false) t6) t5) t4) t3) t2) t1) t0
def pC6 (f : AV → AV → AV → AV → AV → AV → AHeap → Kont → Bool) (K : Kont) : Pv := let _ := @dnB; fun t0 h => @List.rec AV (fun _ => Bool) false (fun x0 t1 _ => @List.rec AV (fun _ => Bool) false (fun x1 t2 _ => @List.rec AV (fun _ => Bool) false (fun x2 t3 _ => @List.rec AV (fun _ => Bool) false (fun x3 t4 _ => @List.rec AV (fun _ => Bool) false (fun x4 t5 _ => @List.rec AV (fun _ => Bool) false (fun x5 t6 _ => @List.rec AV (fun _ => Bool) (f x0 x1 x2 x3 x4 x5 h K) (fun _ _ _ => false) t6) t5) t4) t3) t2) t1) t0
def pF7 (B : Pv) : F7 := fun x0 x1 x2 x3 x4 x5 x6 h => B [x0, x1, x2, x3, x4, x5, x6] h
def pA7 (f : AV → AV → AV → AV → AV → AV → AV → AHeap → Kont → Bool) (K : Kont) : Pv := let _ := @dnB; fun t0 h => @List.rec AV (fun _ => Bool) false (fun x0 t1 _ => @List.rec AV (fun _ => Bool) false (fun x1 t2 _ => @List.rec AV (fun _ => Bool) false (fun x2 t3 _ => @List.rec AV (fun _ => Bool) false (fun x3 t4 _ => @List.rec AV (fun _ => Bool) false (fun x4 t5 _ => @List.rec AV (fun _ => Bool) false (fun x5 t6 _ => @List.rec AV (fun _ => Bool) false (fun x6 t7 _ => @List.rec AV (fun _ => Bool) (f x0 x1 x2 x3 x4 x5 x6 h K) (fun _ _ _ => false) t7) t6) t5) t4) t3) t2) t1) t0
def pC7 (f : AV → AV → AV → AV → AV → AV → AV → AHeap → Kont → Bool) (K : Kont) : Pv := let _ := @dnB; fun t0 h => @List.rec AV (fun _ => Bool) false (fun x0 t1 _ => @List.rec AV (fun _ => Bool) false (fun x1 t2 _ => @List.rec AV (fun _ => Bool) false (fun x2 t3 _ => @List.rec AV (fun _ => Bool) false (fun x3 t4 _ => @List.rec AV (fun _ => Bool) false (fun x4 t5 _ => @List.rec AV (fun _ => Bool) false (fun x5 t6 _ => @List.rec AV (fun _ => Bool) false (fun x6 t7 _ => @List.rec AV (fun _ => Bool) (f x0 x1 x2 x3 x4 x5 x6 h K) (fun _ _ _ => false) t7) t6) t5) t4) t3) t2) t1) t0
def pF8 (B : Pv) : F8 := fun x0 x1 x2 x3 x4 x5 x6 x7 h => B [x0, x1, x2, x3, x4, x5, x6, x7] h
def pA8 (f : AV → AV → AV → AV → AV → AV → AV → AV → AHeap → Kont → Bool) (K : Kont) : Pv := let _ := @dnB; fun t0 h => @List.rec AV (fun _ => Bool) false (fun x0 t1 _ => @List.rec AV (fun _ => Bool) false (fun x1 t2 _ => @List.rec AV (fun _ => Bool) false (fun x2 t3 _ => @List.rec AV (fun _ => Bool) false (fun x3 t4 _ => @List.rec AV (fun _ => Bool) false (fun x4 t5 _ => @List.rec AV (fun _ => Bool) false (fun x5 t6 _ => @List.rec AV (fun _ => Bool) false (fun x6 t7 _ => @List.rec AV (fun _ => Bool) false (fun x7 t8 _ => @List.rec AV (fun _ => Bool) (f x0 x1 x2 x3 x4 x5 x6 x7 h K) (fun _ _ _ => false) t8) t7) t6) t5) t4) t3) t2) t1) t0
def pC8 (f : AV → AV → AV → AV → AV → AV → AV → AV → AHeap → Kont → Bool) (K : Kont) : Pv := let _ := @dnB; fun t0 h => @List.rec AV (fun _ => Bool) false (fun x0 t1 _ => @List.rec AV (fun _ => Bool) false (fun x1 t2 _ => @List.rec AV (fun _ => Bool) false (fun x2 t3 _ => @List.rec AV (fun _ => Bool) false (fun x3 t4 _ => @List.rec AV (fun _ => Bool) false (fun x4 t5 _ => @List.rec AV (fun _ => Bool) false (fun x5 t6 _ => @List.rec AV (fun _ => Bool) false (fun x6 t7 _ => @List.rec AV (fun _ => Bool) false (fun x7 t8 _ => @List.rec AV (fun _ => Bool) (f x0 x1 x2 x3 x4 x5 x6 x7 h K) (fun _ _ _ => false) t8) t7) t6) t5) t4) t3) t2) t1) t0
def pF9 (B : Pv) : F9 := fun x0 x1 x2 x3 x4 x5 x6 x7 x8 h => B [x0, x1, x2, x3, x4, x5, x6, x7, x8] h
def pA9 (f : AV → AV → AV → AV → AV → AV → AV → AV → AV → AHeap → Kont → Bool) (K : Kont) : Pv := let _ := @dnB; fun t0 h => @List.rec AV (fun _ => Bool) false (fun x0 t1 _ => @List.rec AV (fun _ => Bool) false (fun x1 t2 _ => @List.rec AV (fun _ => Bool) false (fun x2 t3 _ => @List.rec AV (fun _ => Bool) false (fun x3 t4 _ => @List.rec AV (fun _ => Bool) false (fun x4 t5 _ => @List.rec AV (fun _ => Bool) false (fun x5 t6 _ => @List.rec AV (fun _ => Bool) false (fun x6 t7 _ => @List.rec AV (fun _ => Bool) false (fun x7 t8 _ => @List.rec AV (fun _ => Bool) false (fun x8 t9 _ => @List.rec AV (fun _ => Bool) (f x0 x1 x2 x3 x4 x5 x6 x7 x8 h K) (fun _ _ _ => false) t9) t8) t7) t6) t5) t4) t3) t2) t1) t0
def pC9 (f : AV → AV → AV → AV → AV → AV → AV → AV → AV → AHeap → Kont → Bool) (K : Kont) : Pv := let _ := @dnB; fun t0 h => @List.rec AV (fun _ => Bool) false (fun x0 t1 _ => @List.rec AV (fun _ => Bool) false (fun x1 t2 _ => @List.rec AV (fun _ => Bool) false (fun x2 t3 _ => @List.rec AV (fun _ => Bool) false (fun x3 t4 _ => @List.rec AV (fun _ => Bool) false (fun x4 t5 _ => @List.rec AV (fun _ => Bool) false (fun x5 t6 _ => @List.rec AV (fun _ => Bool) false (fun x6 t7 _ => @List.rec AV (fun _ => Bool) false (fun x7 t8 _ => @List.rec AV (fun _ => Bool) false (fun x8 t9 _ => @List.rec AV (fun _ => Bool) (f x0 x1 x2 x3 x4 x5 x6 x7 x8 h K) (fun _ _ _ => false) t9) t8) t7) t6) t5) t4) t3) t2) t1) t0
def pF10 (B : Pv) : F10 := fun x0 x1 x2 x3 x4 x5 x6 x7 x8 x9 h => B [x0, x1, x2, x3, x4, x5, x6, x7, x8, x9] h
def pA10 (f : AV → AV → AV → AV → AV → AV → AV → AV → AV → AV → AHeap → Kont → Bool) (K : Kont) : Pv := let _ := @dnB; fun t0 h => @List.rec AV (fun _ => Bool) false (fun x0 t1 _ => @List.rec AV (fun _ => Bool) false (fun x1 t2 _ => @List.rec AV (fun _ => Bool) false (fun x2 t3 _ => @List.rec AV (fun _ => Bool) false (fun x3 t4 _ => @List.rec AV (fun _ => Bool) false (fun x4 t5 _ => @List.rec AV (fun _ => Bool) false (fun x5 t6 _ => @List.rec AV (fun _ => Bool) false (fun x6 t7 _ => @List.rec AV (fun _ => Bool) false (fun x7 t8 _ => @List.rec AV (fun _ => Bool) false (fun x8 t9 _ => @List.rec AV (fun _ => Bool) false (fun x9 t10 _ => @List.rec AV (fun _ => Bool) (f x0 x1 x2 x3 x4 x5 x6 x7 x8 x9 h K) (fun _ _ _ => false) t10) t9) t8) t7) t6) t5) t4) t3) t2) t1) t0
def pC10 (f : AV → AV → AV → AV → AV → AV → AV → AV → AV → AV → AHeap → Kont → Bool) (K : Kont) : Pv := let _ := @dnB; fun t0 h => @List.rec AV (fun _ => Bool) false (fun x0 t1 _ => @List.rec AV (fun _ => Bool) false (fun x1 t2 _ => @List.rec AV (fun _ => Bool) false (fun x2 t3 _ => @List.rec AV (fun _ => Bool) false (fun x3 t4 _ => @List.rec AV (fun _ => Bool) false (fun x4 t5 _ => @List.rec AV (fun _ => Bool) false (fun x5 t6 _ => @List.rec AV (fun _ => Bool) false (fun x6 t7 _ => @List.rec AV (fun _ => Bool) false (fun x7 t8 _ => @List.rec AV (fun _ => Bool) false (fun x8 t9 _ => @List.rec AV (fun _ => Bool) false (fun x9 t10 _ => @List.rec AV (fun _ => Bool) (f x0 x1 x2 x3 x4 x5 x6 x7 x8 x9 h K) (fun _ _ _ => false) t10) t9) t8) t7) t6) t5) t4) t3) t2) t1) t0
def pF11 (B : Pv) : F11 := fun x0 x1 x2 x3 x4 x5 x6 x7 x8 x9 x10 h => B [x0, x1, x2, x3, x4, x5, x6, x7, x8, x9, x10] h
def pA11 (f : AV → AV → AV → AV → AV → AV → AV → AV → AV → AV → AV → AHeap → Kont → Bool) (K : Kont) : Pv := let _ := @dnB; fun t0 h => @List.rec AV (fun _ => Bool) false (fun x0 t1 _ => @List.rec AV (fun _ => Bool) false (fun x1 t2 _ => @List.rec AV (fun _ => Bool) false (fun x2 t3 _ => @List.rec AV (fun _ => Bool) false (fun x3 t4 _ => @List.rec AV (fun _ => Bool) false (fun x4 t5 _ => @List.rec AV (fun _ => Bool) false (fun x5 t6 _ => @List.rec AV (fun _ => Bool) false (fun x6 t7 _ => @List.rec AV (fun _ => Bool) false (fun x7 t8 _ => @List.rec AV (fun _ => Bool) false (fun x8 t9 _ => @List.rec AV (fun _ => Bool) false (fun x9 t10 _ => @List.rec AV (fun _ => Bool) false (fun x10 t11 _ => @List.rec AV (fun _ => Bool) (f x0 x1 x2 x3 x4 x5 x6 x7 x8 x9 x10 h K) (fun _ _ _ => false) t11) t10) t9) t8) t7) t6) t5) t4) t3) t2) t1) t0
def pC11 (f : AV → AV → AV → AV → AV → AV → AV → AV → AV → AV → AV → AHeap → Kont → Bool) (K : Kont) : Pv := let _ := @dnB; fun t0 h => @List.rec AV (fun _ => Bool) false (fun x0 t1 _ => @List.rec AV (fun _ => Bool) false (fun x1 t2 _ => @List.rec AV (fun _ => Bool) false (fun x2 t3 _ => @List.rec AV (fun _ => Bool) false (fun x3 t4 _ => @List.rec AV (fun _ => Bool) false (fun x4 t5 _ => @List.rec AV (fun _ => Bool) false (fun x5 t6 _ => @List.rec AV (fun _ => Bool) false (fun x6 t7 _ => @List.rec AV (fun _ => Bool) false (fun x7 t8 _ => @List.rec AV (fun _ => Bool) false (fun x8 t9 _ => @List.rec AV (fun _ => Bool) false (fun x9 t10 _ => @List.rec AV (fun _ => Bool) false (fun x10 t11 _ => @List.rec AV (fun _ => Bool) (f x0 x1 x2 x3 x4 x5 x6 x7 x8 x9 x10 h K) (fun _ _ _ => false) t11) t10) t9) t8) t7) t6) t5) t4) t3) t2) t1) t0
def pF12 (B : Pv) : F12 := fun x0 x1 x2 x3 x4 x5 x6 x7 x8 x9 x10 x11 h => B [x0, x1, x2, x3, x4, x5, x6, x7, x8, x9, x10, x11] h
def pA12 (f : AV → AV → AV → AV → AV → AV → AV → AV → AV → AV → AV → AV → AHeap → Kont → Bool) (K : Kont) : Pv := let _ := @dnB; fun t0 h => @List.rec AV (fun _ => Bool) false (fun x0 t1 _ => @List.rec AV (fun _ => Bool) false (fun x1 t2 _ => @List.rec AV (fun _ => Bool) false (fun x2 t3 _ => @List.rec AV (fun _ => Bool) false (fun x3 t4 _ => @List.rec AV (fun _ => Bool) false (fun x4 t5 _ => @List.rec AV (fun _ => Bool) false (fun x5 t6 _ => @List.rec AV (fun _ => Bool) false (fun x6 t7 _ => @List.rec AV (fun _ => Bool) false (fun x7 t8 _ => @List.rec AV (fun _ => Bool) false (fun x8 t9 _ => @List.rec AV (fun _ => Bool) false (fun x9 t10 _ => @List.rec AV (fun _ => Bool) false (fun x10 t11 _ => @List.rec AV (fun _ => Bool) false (fun x11 t12 _ => @List.rec AV (fun _ => Bool) (f x0 x1 x2 x3 x4 x5 x6 x7 x8 x9 x10 x11 h K) (fun _ _ _ => false) t12) t11) t10) t9) t8) t7) t6) t5) t4) t3) t2) t1) t0
def pC12 (f : AV → AV → AV → AV → AV → AV → AV → AV → AV → AV → AV → AV → AHeap → Kont → Bool) (K : Kont) : Pv := let _ := @dnB; fun t0 h => @List.rec AV (fun _ => Bool) false (fun x0 t1 _ => @List.rec AV (fun _ => Bool) false (fun x1 t2 _ => @List.rec AV (fun _ => Bool) false (fun x2 t3 _ => @List.rec AV (fun _ => Bool) false (fun x3 t4 _ => @List.rec AV (fun _ => Bool) false (fun x4 t5 _ => @List.rec AV (fun _ => Bool) false (fun x5 t6 _ => @List.rec AV (fun _ => Bool) false (fun x6 t7 _ => @List.rec AV (fun _ => Bool) false (fun x7 t8 _ => @List.rec AV (fun _ => Bool) false (fun x8 t9 _ => @List.rec AV (fun _ => Bool) false (fun x9 t10 _ => @List.rec AV (fun _ => Bool) false (fun x10 t11 _ => @List.rec AV (fun _ => Bool) false (fun x11 t12 _ => @List.rec AV (fun _ => Bool) (f x0 x1 x2 x3 x4 x5 x6 x7 x8 x9 x10 x11 h K) (fun _ _ _ => false) t12) t11) t10) t9) t8) t7) t6) t5) t4) t3) t2) t1) t0
def pF13 (B : Pv) : F13 := fun x0 x1 x2 x3 x4 x5 x6 x7 x8 x9 x10 x11 x12 h => B [x0, x1, x2, x3, x4, x5, x6, x7, x8, x9, x10, x11, x12] h
def pA13 (f : AV → AV → AV → AV → AV → AV → AV → AV → AV → AV → AV → AV → AV → AHeap → Kont → Bool) (K : Kont) : Pv := let _ := @dnB; fun t0 h => @List.rec AV (fun _ => Bool) false (fun x0 t1 _ => @List.rec AV (fun _ => Bool) false (fun x1 t2 _ => @List.rec AV (fun _ => Bool) false (fun x2 t3 _ => @List.rec AV (fun _ => Bool) false (fun x3 t4 _ => @List.rec AV (fun _ => Bool) false (fun x4 t5 _ => @List.rec AV (fun _ => Bool) false (fun x5 t6 _ => @List.rec AV (fun _ => Bool) false (fun x6 t7 _ => @List.rec AV (fun _ => Bool) false (fun x7 t8 _ => @List.rec AV (fun _ => Bool) false (fun x8 t9 _ => @List.rec AV (fun _ => Bool) false (fun x9 t10 _ => @List.rec AV (fun _ => Bool) false (fun x10 t11 _ => @List.rec AV (fun _ => Bool) false (fun x11 t12 _ => @List.rec AV (fun _ => Bool) false (fun x12 t13 _ => @List.rec AV (fun _ => Bool) (f x0 x1 x2 x3 x4 x5 x6 x7 x8 x9 x10 x11 x12 h K) (fun _ _ _ => false) t13) t12) t11) t10) t9) t8) t7) t6) t5) t4) t3) t2) t1) t0
def pC13 (f : AV → AV → AV → AV → AV → AV → AV → AV → AV → AV → AV → AV → AV → AHeap → Kont → Bool) (K : Kont) : Pv := let _ := @dnB; fun t0 h => @List.rec AV (fun _ => Bool) false (fun x0 t1 _ => @List.rec AV (fun _ => Bool) false (fun x1 t2 _ => @List.rec AV (fun _ => Bool) false (fun x2 t3 _ => @List.rec AV (fun _ => Bool) false (fun x3 t4 _ => @List.rec AV (fun _ => Bool) false (fun x4 t5 _ => @List.rec AV (fun _ => Bool) false (fun x5 t6 _ => @List.rec AV (fun _ => Bool) false (fun x6 t7 _ => @List.rec AV (fun _ => Bool) false (fun x7 t8 _ => @List.rec AV (fun _ => Bool) false (fun x8 t9 _ => @List.rec AV (fun _ => Bool) false (fun x9 t10 _ => @List.rec AV (fun _ => Bool) false (fun x10 t11 _ => @List.rec AV (fun _ => Bool) false (fun x11 t12 _ => @List.rec AV (fun _ => Bool) false (fun x12 t13 _ => @List.rec AV (fun _ => Bool) (f x0 x1 x2 x3 x4 x5 x6 x7 x8 x9 x10 x11 x12 h K) (fun _ _ _ => false) t13) t12) t11) t10) t9) t8) t7) t6) t5) t4) t3) t2) t1) t0
def pF14 (B : Pv) : F14 := fun x0 x1 x2 x3 x4 x5 x6 x7 x8 x9 x10 x11 x12 x13 h => B [x0, x1, x2, x3, x4, x5, x6, x7, x8, x9, x10, x11, x12, x13] h
def pA14 (f : AV → AV → AV → AV → AV → AV → AV → AV → AV → AV → AV → AV → AV → AV → AHeap → Kont → Bool) (K : Kont) : Pv := let _ := @dnB; fun t0 h => @List.rec AV (fun _ => Bool) false (fun x0 t1 _ => @List.rec AV (fun _ => Bool) false (fun x1 t2 _ => @List.rec AV (fun _ => Bool) false (fun x2 t3 _ => @List.rec AV (fun _ => Bool) false (fun x3 t4 _ => @List.rec AV (fun _ => Bool) false (fun x4 t5 _ => @List.rec AV (fun _ => Bool) false (fun x5 t6 _ => @List.rec AV (fun _ => Bool) false (fun x6 t7 _ => @List.rec AV (fun _ => Bool) false (fun x7 t8 _ => @List.rec AV (fun _ => Bool) false (fun x8 t9 _ => @List.rec AV (fun _ => Bool) false (fun x9 t10 _ => @List.rec AV (fun _ => Bool) false (fun x10 t11 _ => @List.rec AV (fun _ => Bool) false (fun x11 t12 _ => @List.rec AV (fun _ => Bool) false (fun x12 t13 _ => @List.rec AV (fun _ => Bool) false (fun x13 t14 _ => @List.rec AV (fun _ => Bool) (f x0 x1 x2 x3 x4 x5 x6 x7 x8 x9 x10 x11 x12 x13 h K) (fun _ _ _ => false) t14) t13) t12) t11) t10) t9) t8) t7) t6) t5) t4) t3) t2) t1) t0
def pC14 (f : AV → AV → AV → AV → AV → AV → AV → AV → AV → AV → AV → AV → AV → AV → AHeap → Kont → Bool) (K : Kont) : Pv := let _ := @dnB; fun t0 h => @List.rec AV (fun _ => Bool) false (fun x0 t1 _ => @List.rec AV (fun _ => Bool) false (fun x1 t2 _ => @List.rec AV (fun _ => Bool) false (fun x2 t3 _ => @List.rec AV (fun _ => Bool) false (fun x3 t4 _ => @List.rec AV (fun _ => Bool) false (fun x4 t5 _ => @List.rec AV (fun _ => Bool) false (fun x5 t6 _ => @List.rec AV (fun _ => Bool) false (fun x6 t7 _ => @List.rec AV (fun _ => Bool) false (fun x7 t8 _ => @List.rec AV (fun _ => Bool) false (fun x8 t9 _ => @List.rec AV (fun _ => Bool) false (fun x9 t10 _ => @List.rec AV (fun _ => Bool) false (fun x10 t11 _ => @List.rec AV (fun _ => Bool) false (fun x11 t12 _ => @List.rec AV (fun _ => Bool) false (fun x12 t13 _ => @List.rec AV (fun _ => Bool) false (fun x13 t14 _ => @List.rec AV (fun _ => Bool) (f x0 x1 x2 x3 x4 x5 x6 x7 x8 x9 x10 x11 x12 x13 h K) (fun _ _ _ => false) t14) t13) t12) t11) t10) t9) t8) t7) t6) t5) t4) t3) t2) t1) t0
def pF15 (B : Pv) : F15 := fun x0 x1 x2 x3 x4 x5 x6 x7 x8 x9 x10 x11 x12 x13 x14 h => B [x0, x1, x2, x3, x4, x5, x6, x7, x8, x9, x10, x11, x12, x13, x14] h
def pA15 (f : AV → AV → AV → AV → AV → AV → AV → AV → AV → AV → AV → AV → AV → AV → AV → AHeap → Kont → Bool) (K : Kont) : Pv := let _ := @dnB; fun t0 h => @List.rec AV (fun _ => Bool) false (fun x0 t1 _ => @List.rec AV (fun _ => Bool) false (fun x1 t2 _ => @List.rec AV (fun _ => Bool) false (fun x2 t3 _ => @List.rec AV (fun _ => Bool) false (fun x3 t4 _ => @List.rec AV (fun _ => Bool) false (fun x4 t5 _ => @List.rec AV (fun _ => Bool) false (fun x5 t6 _ => @List.rec AV (fun _ => Bool) false (fun x6 t7 _ => @List.rec AV (fun _ => Bool) false (fun x7 t8 _ => @List.rec AV (fun _ => Bool) false (fun x8 t9 _ => @List.rec AV (fun _ => Bool) false (fun x9 t10 _ => @List.rec AV (fun _ => Bool) false (fun x10 t11 _ => @List.rec AV (fun _ => Bool) false (fun x11 t12 _ => @List.rec AV (fun _ => Bool) false (fun x12 t13 _ => @List.rec AV (fun _ => Bool) false (fun x13 t14 _ => @List.rec AV (fun _ => Bool) false (fun x14 t15 _ => @List.rec AV (fun _ => Bool) (f x0 x1 x2 x3 x4 x5 x6 x7 x8 x9 x10 x11 x12 x13 x14 h K) (fun _ _ _ => false) t15) t14) t13) t12) t11) t10) t9) t8) t7) t6) t5) t4) t3) t2) t1) t0
def pC15 (f : AV → AV → AV → AV → AV → AV → AV → AV → AV → AV → AV → AV → AV → AV → AV → AHeap → Kont → Bool) (K : Kont) : Pv := let _ := @dnB; fun t0 h => @List.rec AV (fun _ => Bool) false (fun x0 t1 _ => @List.rec AV (fun _ => Bool) false (fun x1 t2 _ => @List.rec AV (fun _ => Bool) false (fun x2 t3 _ => @List.rec AV (fun _ => Bool) false (fun x3 t4 _ => @List.rec AV (fun _ => Bool) false (fun x4 t5 _ => @List.rec AV (fun _ => Bool) false (fun x5 t6 _ => @List.rec AV (fun _ => Bool) false (fun x6 t7 _ => @List.rec AV (fun _ => Bool) false (fun x7 t8 _ => @List.rec AV (fun _ => Bool) false (fun x8 t9 _ => @List.rec AV (fun _ => Bool) false (fun x9 t10 _ => @List.rec AV (fun _ => Bool) false (fun x10 t11 _ => @List.rec AV (fun _ => Bool) false (fun x11 t12 _ => @List.rec AV (fun _ => Bool) false (fun x12 t13 _ => @List.rec AV (fun _ => Bool) false (fun x13 t14 _ => @List.rec AV (fun _ => Bool) false (fun x14 t15 _ => @List.rec AV (fun _ => Bool) (f x0 x1 x2 x3 x4 x5 x6 x7 x8 x9 x10 x11 x12 x13 x14 h K) (fun _ _ _ => false) t15) t14) t13) t12) t11) t10) t9) t8) t7) t6) t5) t4) t3) t2) t1) t0
def pF16 (B : Pv) : F16 := fun x0 x1 x2 x3 x4 x5 x6 x7 x8 x9 x10 x11 x12 x13 x14 x15 h => B [x0, x1, x2, x3, x4, x5, x6, x7, x8, x9, x10, x11, x12, x13, x14, x15] h
def pA16 (f : AV → AV → AV → AV → AV → AV → AV → AV → AV → AV → AV → AV → AV → AV → AV → AV → AHeap → Kont → Bool) (K : Kont) : Pv := let _ := @dnB; fun t0 h => @List.rec AV (fun _ => Bool) false (fun x0 t1 _ => @List.rec AV (fun _ => Bool) false (fun x1 t2 _ => @List.rec AV (fun _ => Bool) false (fun x2 t3 _ => @List.rec AV (fun _ => Bool) false (fun x3 t4 _ => @List.rec AV (fun _ => Bool) false (fun x4 t5 _ => @List.rec AV (fun _ => Bool) false (fun x5 t6 _ => @List.rec AV (fun _ => Bool) false (fun x6 t7 _ => @List.rec AV (fun _ => Bool) false (fun x7 t8 _ => @List.rec AV (fun _ => Bool) false (fun x8 t9 _ => @List.rec AV (fun _ => Bool) false (fun x9 t10 _ => @List.rec AV (fun _ => Bool) false (fun x10 t11 _ => @List.rec AV (fun _ => Bool) false (fun x11 t12 _ => @List.rec AV (fun _ => Bool) false (fun x12 t13 _ => @List.rec AV (fun _ => Bool) false (fun x13 t14 _ => @List.rec AV (fun _ => Bool) false (fun x14 t15 _ => @List.rec AV (fun _ => Bool) false (fun x15 t16 _ => @List.rec AV (fun _ => Bool) (f x0 x1 x2 x3 x4 x5 x6 x7 x8 x9 x10 x11 x12 x13 x14 x15 h K) (fun _ _ _ => false) t16) t15) t14) t13) t12) t11) t10) t9) t8) t7) t6) t5) t4) t3) t2) t1) t0
def pC16 (f : AV → AV → AV → AV → AV → AV → AV → AV → AV → AV → AV → AV → AV → AV → AV → AV → AHeap → Kont → Bool) (K : Kont) : Pv := let _ := @dnB; fun t0 h => @List.rec AV (fun _ => Bool) false (fun x0 t1 _ => @List.rec AV (fun _ => Bool) false (fun x1 t2 _ => @List.rec AV (fun _ => Bool) false (fun x2 t3 _ => @List.rec AV (fun _ => Bool) false (fun x3 t4 _ => @List.rec AV (fun _ => Bool) false (fun x4 t5 _ => @List.rec AV (fun _ => Bool) false (fun x5 t6 _ => @List.rec AV (fun _ => Bool) false (fun x6 t7 _ => @List.rec AV (fun _ => Bool) false (fun x7 t8 _ => @List.rec AV (fun _ => Bool) false (fun x8 t9 _ => @List.rec AV (fun _ => Bool) false (fun x9 t10 _ => @List.rec AV (fun _ => Bool) false (fun x10 t11 _ => @List.rec AV (fun _ => Bool) false (fun x11 t12 _ => @List.rec AV (fun _ => Bool) false (fun x12 t13 _ => @List.rec AV (fun _ => Bool) false (fun x13 t14 _ => @List.rec AV (fun _ => Bool) false (fun x14 t15 _ => @List.rec AV (fun _ => Bool) false (fun x15 t16 _ => @List.rec AV (fun _ => Bool) (f x0 x1 x2 x3 x4 x5 x6 x7 x8 x9 x10 x11 x12 x13 x14 x15 h K) (fun _ _ _ => false) t16) t15) t14) t13) t12) t11) t10) t9) t8) t7) t6) t5) t4) t3) t2) t1) t0
def pF17 (B : Pv) : F17 := fun x0 x1 x2 x3 x4 x5 x6 x7 x8 x9 x10 x11 x12 x13 x14 x15 x16 h => B [x0, x1, x2, x3, x4, x5, x6, x7, x8, x9, x10, x11, x12, x13, x14, x15, x16] h
def pA17 (f : AV → AV → AV → AV → AV → AV → AV → AV → AV → AV → AV → AV → AV → AV → AV → AV → AV → AHeap → Kont → Bool) (K : Kont) : Pv := let _ := @dnB; fun t0 h => @List.rec AV (fun _ => Bool) false (fun x0 t1 _ => @List.rec AV (fun _ => Bool) false (fun x1 t2 _ => @List.rec AV (fun _ => Bool) false (fun x2 t3 _ => @List.rec AV (fun _ => Bool) false (fun x3 t4 _ => @List.rec AV (fun _ => Bool) false (fun x4 t5 _ => @List.rec AV (fun _ => Bool) false (fun x5 t6 _ => @List.rec AV (fun _ => Bool) false (fun x6 t7 _ => @List.rec AV (fun _ => Bool) false (fun x7 t8 _ => @List.rec AV (fun _ => Bool) false (fun x8 t9 _ => @List.rec AV (fun _ => Bool) false (fun x9 t10 _ => @List.rec AV (fun _ => Bool) false (fun x10 t11 _ => @List.rec AV (fun _ => Bool) false (fun x11 t12 _ => @List.rec AV (fun _ => Bool) false (fun x12 t13 _ => @List.rec AV (fun _ => Bool) false (fun x13 t14 _ => @List.rec AV (fun _ => Bool) false (fun x14 t15 _ => @List.rec AV (fun _ => Bool) false (fun x15 t16 _ => @List.rec AV (fun _ => Bool) false (fun x16 t17 _ => @List.rec AV (fun _ => Bool) (f x0 x1 x2 x3 x4 x5 x6 x7 x8 x9 x10 x11 x12 x13 x14 x15 x16 h K) (fun _ _ _ => false) t17) t16) t15) t14) t13) t12) t11) t10) t9) t8) t7) t6) t5) t4) t3) t2) t1) t0
def pC17 (f : AV → AV → AV → AV → AV → AV → AV → AV → AV → AV → AV → AV → AV → AV → AV → AV → AV → AHeap → Kont → Bool) (K : Kont) : Pv := let _ := @dnB; fun t0 h => @List.rec AV (fun _ => Bool) false (fun x0 t1 _ => @List.rec AV (fun _ => Bool) false (fun x1 t2 _ => @List.rec AV (fun _ => Bool) false (fun x2 t3 _ => @List.rec AV (fun _ => Bool) false (fun x3 t4 _ => @List.rec AV (fun _ => Bool) false (fun x4 t5 _ => @List.rec AV (fun _ => Bool) false (fun x5 t6 _ => @List.rec AV (fun _ => Bool) false (fun x6 t7 _ => @List.rec AV (fun _ => Bool) false (fun x7 t8 _ => @List.rec AV (fun _ => Bool) false (fun x8 t9 _ => @List.rec AV (fun _ => Bool) false (fun x9 t10 _ => @List.rec AV (fun _ => Bool) false (fun x10 t11 _ => @List.rec AV (fun _ => Bool) false (fun x11 t12 _ => @List.rec AV (fun _ => Bool) false (fun x12 t13 _ => @List.rec AV (fun _ => Bool) false (fun x13 t14 _ => @List.rec AV (fun _ => Bool) false (fun x14 t15 _ => @List.rec AV (fun _ => Bool) false (fun x15 t16 _ => @List.rec AV (fun _ => Bool) false (fun x16 t17 _ => @List.rec AV (fun _ => Bool) (f x0 x1 x2 x3 x4 x5 x6 x7 x8 x9 x10 x11 x12 x13 x14 x15 x16 h K) (fun _ _ _ => false) t17) t16) t15) t14) t13) t12) t11) t10) t9) t8) t7) t6) t5) t4) t3) t2) t1) t0
def pF18 (B : Pv) : F18 := fun x0 x1 x2 x3 x4 x5 x6 x7 x8 x9 x10 x11 x12 x13 x14 x15 x16 x17 h => B [x0, x1, x2, x3, x4, x5, x6, x7, x8, x9, x10, x11, x12, x13, x14, x15, x16, x17] h
def pA18 (f : AV → AV → AV → AV → AV → AV → AV → AV → AV → AV → AV → AV → AV → AV → AV → AV → AV → AV → AHeap → Kont → Bool) (K : Kont) : Pv := let _ := @dnB; fun t0 h => @List.rec AV (fun _ => Bool) false (fun x0 t1 _ => @List.rec AV (fun _ => Bool) false (fun x1 t2 _ => @List.rec AV (fun _ => Bool) false (fun x2 t3 _ => @List.rec AV (fun _ => Bool) false (fun x3 t4 _ => @List.rec AV (fun _ => Bool) false (fun x4 t5 _ => @List.rec AV (fun _ => Bool) false (fun x5 t6 _ => @List.rec AV (fun _ => Bool) false (fun x6 t7 _ => @List.rec AV (fun _ => Bool) false (fun x7 t8 _ => @List.rec AV (fun _ => Bool) false (fun x8 t9 _ => @List.rec AV (fun _ => Bool) false (fun x9 t10 _ => @List.rec AV (fun _ => Bool) false (fun x10 t11 _ => @List.rec AV (fun _ => Bool) false (fun x11 t12 _ => @List.rec AV (fun _ => Bool) false (fun x12 t13 _ => @List.rec AV (fun _ => Bool) false (fun x13 t14 _ => @List.rec AV (fun _ => Bool) false (fun x14 t15 _ => @List.rec AV (fun _ => Bool) false (fun x15 t16 _ => @List.rec AV (fun _ => Bool) false (fun x16 t17 _ => @List.rec AV (fun _ => Bool) false (fun x17 t18 _ => @List.rec AV (fun _ => Bool) (f x0 x1 x2 x3 x4 x5 x6 x7 x8 x9 x10 x11 x12 x13 x14 x15 x16 x17 h K) (fun _ _ _ => false) t18) t17) t16) t15) t14) t13) t12) t11) t10) t9) t8) t7) t6) t5) t4) t3) t2) t1) t0
def pC18 (f : AV → AV → AV → AV → AV → AV → AV → AV → AV → AV → AV → AV → AV → AV → AV → AV → AV → AV → AHeap → Kont → Bool) (K : Kont) : Pv := let _ := @dnB; fun t0 h => @List.rec AV (fun _ => Bool) false (fun x0 t1 _ => @List.rec AV (fun _ => Bool) false (fun x1 t2 _ => @List.rec AV (fun _ => Bool) false (fun x2 t3 _ => @List.rec AV (fun _ => Bool) false (fun x3 t4 _ => @List.rec AV (fun _ => Bool) false (fun x4 t5 _ => @List.rec AV (fun _ => Bool) false (fun x5 t6 _ => @List.rec AV (fun _ => Bool) false (fun x6 t7 _ => @List.rec AV (fun _ => Bool) false (fun x7 t8 _ => @List.rec AV (fun _ => Bool) false (fun x8 t9 _ => @List.rec AV (fun _ => Bool) false (fun x9 t10 _ => @List.rec AV (fun _ => Bool) false (fun x10 t11 _ => @List.rec AV (fun _ => Bool) false (fun x11 t12 _ => @List.rec AV (fun _ => Bool) false (fun x12 t13 _ => @List.rec AV (fun _ => Bool) false (fun x13 t14 _ => @List.rec AV (fun _ => Bool) false (fun x14 t15 _ => @List.rec AV (fun _ => Bool) false (fun x15 t16 _ => @List.rec AV (fun _ => Bool) false (fun x16 t17 _ => @List.rec AV (fun _ => Bool) false (fun x17 t18 _ => @List.rec AV (fun _ => Bool) (f x0 x1 x2 x3 x4 x5 x6 x7 x8 x9 x10 x11 x12 x13 x14 x15 x16 x17 h K) (fun _ _ _ => false) t18) t17) t16) t15) t14) t13) t12) t11) t10) t9) t8) t7) t6) t5) t4) t3) t2) t1) t0
def pF19 (B : Pv) : F19 := fun x0 x1 x2 x3 x4 x5 x6 x7 x8 x9 x10 x11 x12 x13 x14 x15 x16 x17 x18 h => B [x0, x1, x2, x3, x4, x5, x6, x7, x8, x9, x10, x11, x12, x13, x14, x15, x16, x17, x18] h
def pA19 (f : AV → AV → AV → AV → AV → AV → AV → AV → AV → AV → AV → AV → AV → AV → AV → AV → AV → AV → AV → AHeap → Kont → Bool) (K : Kont) : Pv := let _ := @dnB; fun t0 h => @List.rec AV (fun _ => Bool) false (fun x0 t1 _ => @List.rec AV (fun _ => Bool) false (fun x1 t2 _ => @List.rec AV (fun _ => Bool) false (fun x2 t3 _ => @List.rec AV (fun _ => Bool) false (fun x3 t4 _ => @List.rec AV (fun _ => Bool) false (fun x4 t5 _ => @List.rec AV (fun _ => Bool) false (fun x5 t6 _ => @List.rec AV (fun _ => Bool) false (fun x6 t7 _ => @List.rec AV (fun _ => Bool) false (fun x7 t8 _ => @List.rec AV (fun _ => Bool) false (fun x8 t9 _ => @List.rec AV (fun _ => Bool) false (fun x9 t10 _ => @List.rec AV (fun _ => Bool) false (fun x10 t11 _ => @List.rec AV (fun _ => Bool) false (fun x11 t12 _ => @List.rec AV (fun _ => Bool) false (fun x12 t13 _ => @List.rec AV (fun _ => Bool) false (fun x13 t14 _ => @List.rec AV (fun _ => Bool) false (fun x14 t15 _ => @List.rec AV (fun _ => Bool) false (fun x15 t16 _ => @List.rec AV (fun _ => Bool) false (fun x16 t17 _ => @List.rec AV (fun _ => Bool) false (fun x17 t18 _ => @List.rec AV (fun _ => Bool) false (fun x18 t19 _ => @List.rec AV (fun _ => Bool) (f x0 x1 x2 x3 x4 x5 x6 x7 x8 x9 x10 x11 x12 x13 x14 x15 x16 x17 x18 h K) (fun _ _ _ => false) t19) t18) t17) t16) t15) t14) t13) t12) t11) t10) t9) t8) t7) t6) t5) t4) t3) t2) t1) t0
def pC19 (f : AV → AV → AV → AV → AV → AV → AV → AV → AV → AV → AV → AV → AV → AV → AV → AV → AV → AV → AV → AHeap → Kont → Bool) (K : Kont) : Pv := let _ := @dnB; fun t0 h => @List.rec AV (fun _ => Bool) false (fun x0 t1 _ => @List.rec AV (fun _ => Bool) false (fun x1 t2 _ => @List.rec AV (fun _ => Bool) false (fun x2 t3 _ => @List.rec AV (fun _ => Bool) false (fun x3 t4 _ => @List.rec AV (fun _ => Bool) false (fun x4 t5 _ => @List.rec AV (fun _ => Bool) false (fun x5 t6 _ => @List.rec AV (fun _ => Bool) false (fun x6 t7 _ => @List.rec AV (fun _ => Bool) false (fun x7 t8 _ => @List.rec AV (fun _ => Bool) false (fun x8 t9 _ => @List.rec AV (fun _ => Bool) false (fun x9 t10 _ => @List.rec AV (fun _ => Bool) false (fun x10 t11 _ => @List.rec AV (fun _ => Bool) false (fun x11 t12 _ => @List.rec AV (fun _ => Bool) false (fun x12 t13 _ => @List.rec AV (fun _ => Bool) false (fun x13 t14 _ => @List.rec AV (fun _ => Bool) false (fun x14 t15 _ => @List.rec AV (fun _ => Bool) false (fun x15 t16 _ => @List.rec AV (fun _ => Bool) false (fun x16 t17 _ => @List.rec AV (fun _ => Bool) false (fun x17 t18 _ => @List.rec AV (fun _ => Bool) false (fun x18 t19 _ => @List.rec AV (fun _ => Bool) (f x0 x1 x2 x3 x4 x5 x6 x7 x8 x9 x10 x11 x12 x13 x14 x15 x16 x17 x18 h K) (fun _ _ _ => false) t19) t18) t17) t16) t15) t14) t13) t12) t11) t10) t9) t8) t7) t6) t5) t4) t3) t2) t1) t0
def pF20 (B : Pv) : F20 := fun x0 x1 x2 x3 x4 x5 x6 x7 x8 x9 x10 x11 x12 x13 x14 x15 x16 x17 x18 x19 h => B [x0, x1, x2, x3, x4, x5, x6, x7, x8, x9, x10, x11, x12, x13, x14, x15, x16, x17, x18, x19] h
def pA20 (f : AV → AV → AV → AV → AV → AV → AV → AV → AV → AV → AV → AV → AV → AV → AV → AV → AV → AV → AV → AV → AHeap → Kont → Bool) (K : Kont) : Pv := let _ := @dnB; fun t0 h => @List.rec AV (fun _ => Bool) false (fun x0 t1 _ => @List.rec AV (fun _ => Bool) false (fun x1 t2 _ => @List.rec AV (fun _ => Bool) false (fun x2 t3 _ => @List.rec AV (fun _ => Bool) false (fun x3 t4 _ => @List.rec AV (fun _ => Bool) false (fun x4 t5 _ => @List.rec AV (fun _ => Bool) false (fun x5 t6 _ => @List.rec AV (fun _ => Bool) false (fun x6 t7 _ => @List.rec AV (fun _ => Bool) false (fun x7 t8 _ => @List.rec AV (fun _ => Bool) false (fun x8 t9 _ => @List.rec AV (fun _ => Bool) false (fun x9 t10 _ => @List.rec AV (fun _ => Bool) false (fun x10 t11 _ => @List.rec AV (fun _ => Bool) false (fun x11 t12 _ => @List.rec AV (fun _ => Bool) false (fun x12 t13 _ => @List.rec AV (fun _ => Bool) false (fun x13 t14 _ => @List.rec AV (fun _ => Bool) false (fun x14 t15 _ => @List.rec AV (fun _ => Bool) false (fun x15 t16 _ => @List.rec AV (fun _ => Bool) false (fun x16 t17 _ => @List.rec AV (fun _ => Bool) false (fun x17 t18 _ => @List.rec AV (fun _ => Bool) false (fun x18 t19 _ => @List.rec AV (fun _ => Bool) false (fun x19 t20 _ => @List.rec AV (fun _ => Bool) (f x0 x1 x2 x3 x4 x5 x6 x7 x8 x9 x10 x11 x12 x13 x14 x15 x16 x17 x18 x19 h K) (fun _ _ _ => false) t20) t19) t18) t17) t16) t15) t14) t13) t12) t11) t10) t9) t8) t7) t6) t5) t4) t3) t2) t1) t0
def pC20 (f : AV → AV → AV → AV → AV → AV → AV → AV → AV → AV → AV → AV → AV → AV → AV → AV → AV → AV → AV → AV → AHeap → Kont → Bool) (K : Kont) : Pv := let _ := @dnB; fun t0 h => @List.rec AV (fun _ => Bool) false (fun x0 t1 _ => @List.rec AV (fun _ => Bool) false (fun x1 t2 _ => @List.rec AV (fun _ => Bool) false (fun x2 t3 _ => @List.rec AV (fun _ => Bool) false (fun x3 t4 _ => @List.rec AV (fun _ => Bool) false (fun x4 t5 _ => @List.rec AV (fun _ => Bool) false (fun x5 t6 _ => @List.rec AV (fun _ => Bool) false (fun x6 t7 _ => @List.rec AV (fun _ => Bool) false (fun x7 t8 _ => @List.rec AV (fun _ => Bool) false (fun x8 t9 _ => @List.rec AV (fun _ => Bool) false (fun x9 t10 _ => @List.rec AV (fun _ => Bool) false (fun x10 t11 _ => @List.rec AV (fun _ => Bool) false (fun x11 t12 _ => @List.rec AV (fun _ => Bool) false (fun x12 t13 _ => @List.rec AV (fun _ => Bool) false (fun x13 t14 _ => @List.rec AV (fun _ => Bool) false (fun x14 t15 _ => @List.rec AV (fun _ => Bool) false (fun x15 t16 _ => @List.rec AV (fun _ => Bool) false (fun x16 t17 _ => @List.rec AV (fun _ => Bool) false (fun x17 t18 _ => @List.rec AV (fun _ => Bool) false (fun x18 t19 _ => @List.rec AV (fun _ => Bool) false (fun x19 t20 _ => @List.rec AV (fun _ => Bool) (f x0 x1 x2 x3 x4 x5 x6 x7 x8 x9 x10 x11 x12 x13 x14 x15 x16 x17 x18 x19 h K) (fun _ _ _ => false) t20) t19) t18) t17) t16) t15) t14) t13) t12) t11) t10) t9) t8) t7) t6) t5) t4) t3) t2) t1) t0
def resL (l : LEnv) : List (Nat × Option (Bool × Nat)) → Option (List (AV × Option (Bool × Nat)))
  | [] => some []
  | (t, x) :: r => match l.get t with
    | some v => match resL l r with
      | some vs => some ((v, x) :: vs)
      | none => none
    | none => none

def resV (h : AHeap) : List (AV × Option (Bool × Nat)) → Option (List AV)
  | [] => some []
  | (v, none) :: r => match resV h r with
    | some vs => some (v :: vs)
    | none => none
  | (a, some (ag, n)) :: r => match loadA h ag n a with
    | some v => match resV h r with
      | some vs => some (v :: vs)
      | none => none
    | none => none

def optR (o : Option (List AV)) (h : AHeap) (K : Kont) : Bool :=
  match o with
  | some l => K (oneOf l) h
  | none => false

def finB (res : List (Nat × Option (Bool × Nat))) (l : LEnv) (h : AHeap) (K : Kont) : Bool :=
  match resL l res with
  | some m => bif res.any (fun x => x.2.isSome) then optR (resV h m) h K else K (oneOf (m.map fun x => x.1)) h
  | none => false
def finL (res : List (Nat × Option (Bool × Nat))) (K : Kont) : KL := fun x l h =>
  match x with
  | .normal => finB res l h K
  | .ret => finB res l h K
  | _ => false
def initL : Nat → List AV → LEnv → LEnv
  | _, [], l => l
  | i, v :: vs, l => initL (i + 1) vs ((i, v) :: l)

def prsF (call : CallFn) (n : Nat) (K : Kont) (S : Sp) (top : Pv) (A : Ann) (fn : AFun) : List (Fn × Fn) :=
  (fun _ _ σ h => top (tabV fn.np 0 σ) h, fun _ _ σ h => dnB call n K S [] (toB A fn.body 0).1 (initL 0 (tabV fn.np 0 σ) []) h (finL fn.res K)) :: prs call n K S 0 (toB A fn.body 0).1 fun _ => finL fn.res K

end
/-! ### That is enough -/
section
variable {call call' : CallFn} {n : Nat} {ρ : Regs} {l : LEnv} {h : AHeap} {op : AOp}

theorem optK_true {α : Type} {o : Option α} {k : α → Bool} (s : optK o k = true) : ∃ v, o = some v ∧ k v = true := by
  cases o with
  | none => cases s
  | some v => exact ⟨v, rfl, s⟩
theorem optPK_true {o : Option (AV × AHeap)} {k : Kont} (s : optPK o k = true) : ∃ v h', o = some (v, h') ∧ k v h' = true := by
  cases o with
  | none => cases s
  | some p => exact ⟨p.1, p.2, rfl, s⟩
theorem m1_some {α : Type} {x : Opd} {f : AV → α} {y : α} (e : m1 l x f = some y) : ∃ v, evL l x = some v ∧ y = f v := by
  unfold m1 at e
  split at e
  · rename_i v hv; cases e; exact ⟨v, hv, rfl⟩
  · cases e
theorem m2_some {α : Type} {x z : Opd} {f : AV → AV → α} {y : α} (e : m2 l x z f = some y) : ∃ v w, evL l x = some v ∧ evL l z = some w ∧ y = f v w := by
  unfold m2 at e
  split at e
  · rename_i v hv
    split at e
    · rename_i w hw; cases e; exact ⟨v, w, hv, hw, rfl⟩
    · cases e
  · cases e
theorem m3_some {α : Type} {x z t : Opd} {f : AV → AV → AV → α} {y : α} (e : m3 l x z t f = some y) : ∃ v w u, evL l x = some v ∧ evL l z = some w ∧ evL l t = some u ∧ y = f v w u := by
  unfold m3 at e
  split at e
  · rename_i v hv
    split at e
    · rename_i w hw
      split at e
      · rename_i u hu; cases e; exact ⟨v, w, u, hv, hw, hu, rfl⟩
      · cases e
    · cases e
  · cases e

theorem pickK_eq (c a b : AV) (k : AV → Bool) : pickK c a b k = optK (pickV c a b) k := by
  cases c <;> try rfl
  rename_i x; cases x <;> rfl

theorem pureF_ok {F : PF} (e : pureF l h op = some F) : ∃ o, pureL l h op = some o ∧ ∀ k, F k = optK o k := by
  unfold pureF at e
  split at e
  case h_1 => obtain ⟨v, hv, rfl⟩ := m1_some e; exact ⟨_, by simp only [pureL, l1, hv] <;> rfl, fun k => fadrK_eq _ _ _⟩
  case h_2 => obtain ⟨v, hv, rfl⟩ := m1_some e; exact ⟨_, by simp only [pureL, l1, hv] <;> rfl, fun k => loadK_eq _ _ _ _⟩
  case h_3 => obtain ⟨v, hv, rfl⟩ := m1_some e; exact ⟨_, by simp only [pureL, l1, hv] <;> rfl, fun k => loadGK_eq _ _ _ _⟩
  case h_4 => obtain ⟨v, w, hv, hw, rfl⟩ := m2_some e; exact ⟨_, by simp only [pureL, l2, hv, hw] <;> rfl, fun k => eqlK_eq _ _ _⟩
  case h_5 => obtain ⟨v, w, hv, hw, rfl⟩ := m2_some e; exact ⟨_, by simp only [pureL, l2, hv, hw] <;> rfl, fun k => neqK_eq _ _ _⟩
  case h_6 => obtain ⟨v, w, hv, hw, rfl⟩ := m2_some e; exact ⟨_, by simp only [pureL, l2, hv, hw] <;> rfl, fun k => lssK_eq _ _ _⟩
  case h_7 => obtain ⟨v, w, hv, hw, rfl⟩ := m2_some e; exact ⟨_, by simp only [pureL, l2, hv, hw] <;> rfl, fun k => leqK_eq _ _ _⟩
  case h_8 => obtain ⟨v, w, hv, hw, rfl⟩ := m2_some e; exact ⟨_, by simp only [pureL, l2, hv, hw] <;> rfl, fun k => gtrK_eq _ _ _⟩
  case h_9 => obtain ⟨v, w, hv, hw, rfl⟩ := m2_some e; exact ⟨_, by simp only [pureL, l2, hv, hw] <;> rfl, fun k => geqK_eq _ _ _⟩
  case h_10 => obtain ⟨v, w, hv, hw, rfl⟩ := m2_some e; exact ⟨_, by simp only [pureL, l2, hv, hw] <;> rfl, fun k => addK_eq _ _ _⟩
  case h_11 => obtain ⟨v, w, hv, hw, rfl⟩ := m2_some e; exact ⟨_, by simp only [pureL, l2, hv, hw] <;> rfl, fun k => subK_eq _ _ _⟩
  case h_12 => obtain ⟨v, w, u, hv, hw, hu, rfl⟩ := m3_some e; exact ⟨_, by simp only [pureL, hv, hw, hu] <;> rfl, fun k => pickK_eq _ _ _ _⟩
  case h_13 => obtain ⟨v, hv, rfl⟩ := m1_some e; exact ⟨_, by simp only [pureL, l1, hv] <;> rfl, fun k => notK_eq _ _⟩
  case h_14 => obtain ⟨v, hv, rfl⟩ := m1_some e; exact ⟨_, by simp only [pureL, l1, hv] <;> rfl, fun k => nilckK_eq _ _⟩
  case h_15 => obtain ⟨v, hv, rfl⟩ := m1_some e; exact ⟨_, by simp only [pureL, l1, hv] <;> rfl, fun k => extK_eq _ _ _⟩
  case h_16 => obtain ⟨v, hv, rfl⟩ := m1_some e; exact ⟨_, by simp only [pureL, l1, hv] <;> rfl, fun k => lenSK_eq _ _ _⟩
  case h_17 => obtain ⟨v, hv, rfl⟩ := m1_some e; exact ⟨_, by simp only [pureL, l1, hv] <;> rfl, fun k => lenK_eq _ _ _⟩
  case h_18 => obtain ⟨v, w, hv, hw, rfl⟩ := m2_some e; exact ⟨_, by simp only [pureL, l2, hv, hw] <;> rfl, fun k => iadrK_eq _ _ _ _ _⟩
  case h_19 => obtain ⟨v, w, hv, hw, rfl⟩ := m2_some e; exact ⟨_, by simp only [pureL, l2, hv, hw] <;> rfl, fun k => idxsK_eq _ _ _⟩
  case h_20 => obtain ⟨v, hv, rfl⟩ := m1_some e; exact ⟨_, by simp only [pureL, l1, hv] <;> rfl, fun k => fldK_eq _ _ _ _⟩
  case h_21 =>
    split at e
    · rename_i v lo hi h1 h2 h3; cases e; exact ⟨_, by simp only [pureL, h1, h2, h3] <;> rfl, fun k => slsK_eq _ _ _ _⟩
    · cases e
  case h_22 =>
    split at e
    · rename_i vs h1; cases e; exact ⟨_, by simp only [pureL, h1] <;> rfl, fun k => buildK_eq _ _ _⟩
    · cases e
  case h_23 =>
    split at e
    · rename_i o ho; cases e; exact ⟨o, ho, fun k => rfl⟩
    · cases e

theorem heapF_ok {F : HF} (e : heapF l h op = some F) : ∃ o, heapL l h op = some o ∧ ∀ k, F k = optPK o k := by
  unfold heapF at e
  split at e
  case h_1 =>
    obtain ⟨v, w, hv, hw, rfl⟩ := m2_some e
    refine ⟨_, by simp only [heapL, hv, hw] <;> rfl, fun k => ?_⟩
    simp only [storeK_eq]
    cases storeA h 1 v w <;> rfl
  case h_2 n x y =>
    obtain ⟨v, w, hv, hw, rfl⟩ := m2_some e
    refine ⟨_, by simp only [heapL, hv, hw] <;> rfl, fun k => ?_⟩
    simp only [storeNK_eq h (n + 2) v w _ rfl]
    cases storeA h (n + 2) v w <;> rfl
  case h_3 z =>
    split at e
    · rename_i h0
      split at e
      · rename_i hl; cases e; exact ⟨_, rfl, fun k => allocK_eq _ _ _ h0 hl⟩
      · cases e; exact ⟨_, rfl, fun k => rfl⟩
    · cases e; exact ⟨_, rfl, fun k => rfl⟩
  case h_4 => obtain ⟨v, hv, rfl⟩ := m1_some e; exact ⟨_, by simp only [heapL, hv] <;> rfl, fun k => boxK_eq _ _ _⟩
  case h_5 n b x y =>
    obtain ⟨v, w, hv, hw, rfl⟩ := m2_some e
    exact ⟨_, by simp only [heapL, hv, hw] <;> rfl, fun k => appK_eq _ _ _ _ _ _ rfl⟩
  case h_6 =>
    split at e
    · rename_i o ho; cases e; exact ⟨o, ho, fun k => rfl⟩
    · cases e

def wantG (g : AV) (b : Bool) : Bool :=
  match g with
  | .bool x => x == b
  | _ => false
theorem wanted_has (H : Has ρ l) {d : Nat} {g : AV} {b : Bool} (hg : l.get d = some g) : wantedA ρ (some (d, b)) = some (wantG g b) := by
  simp only [wantedA, H d g hg, wantG]
  cases g <;> rfl
theorem gK_spec {g : AV} {b : Bool} {run : (AV → Bool) → Bool} {k : AV → Bool} (s : gK g b run k = true) : (wantG g b = true ∧ run k = true) ∨ (wantG g b = false ∧ k (.tup []) = true) := by
  cases g <;> try exact .inr ⟨rfl, s⟩
  rename_i x
  cases x <;> cases b <;> first | exact .inl ⟨rfl, s⟩ | exact .inr ⟨rfl, s⟩
theorem gP_spec {g : AV} {b : Bool} {run : Kont → Bool} {k : Kont} (s : gP g b run h k = true) : (wantG g b = true ∧ run k = true) ∨ (wantG g b = false ∧ k (.tup []) h = true) := by
  cases g <;> try exact .inr ⟨rfl, s⟩
  rename_i x
  cases x <;> cases b <;> first | exact .inl ⟨rfl, s⟩ | exact .inr ⟨rfl, s⟩
theorem gS_spec {g : AV} {b : Bool} {run : Bool → Bool} {r : Bool} (s : gS g b run r = true) : (wantG g b = true ∧ run r = true) ∨ (wantG g b = false ∧ r = true) := by
  cases g <;> try exact .inr ⟨rfl, s⟩
  rename_i x
  cases x <;> cases b <;> first | exact .inl ⟨rfl, s⟩ | exact .inr ⟨rfl, s⟩

theorem dnCall_ok {f : Opd} {vs : List AV} {k : Kont} (s : dnCall call l f vs h k = true) : ∃ fv, evL l f = some fv ∧ callV call fv vs h k = true := by
  unfold dnCall at s
  split at s
  · rename_i g
    exact ⟨.fn (.func g) [] [], rfl, by simpa only [callV, List.nil_append, List.append_nil] using s⟩
  · split at s
    · rename_i fv hf
      exact ⟨fv, hf, s⟩
    · cases s

theorem evalK_callV {x : Opd} {f : AV} {xs : List Opd} {vs : List AV} (H : Has ρ l) (ef : evL l x = some f) (e : evsL l xs = some vs) {K : Kont} : evalK call' ρ h (.call x xs) K = callV call' f vs h K := by
  simp only [evalK, ev_has H ef, evs_has H e, callV]
  cases f <;> rfl

variable {Ks : KSt}
theorem evalK_one {v : AV} {h' : AHeap} {dst : Option Nat} (hn : isCall op = false) (e : evalA ρ h op = some (v, h')) (s : Ks v ⟨put ρ dst v, h'⟩ = true) : evalK call' ρ h op (fun v h' => Ks v ⟨putP ρ (isCall op) dst v, h'⟩) = true := by
  rw [evalK_plain hn, e]
  simp only [putP, panO, hn, cond_false]
  exact s

theorem evalK_call {dst : Option Nat} {Q k : Kont} {f : Opd} {xs : List Opd} {vs : List AV} (hc : Le call call') (H : Has ρ l) (e : evsL l xs = some vs) (s : dnCall call l f vs h (pz Q k) = true)
    (hk : ∀ v h', k v h' = true → isPan v = none → Ks v ⟨put ρ dst v, h'⟩ = true) (hq : ∀ x h', Q (.pan x) h' = true → Ks (.pan x) ⟨ρ, h'⟩ = true) : evalK call' ρ h (.call f xs) (fun v h' => Ks v ⟨putP ρ true dst v, h'⟩) = true := by
  obtain ⟨fv, ef, s⟩ := dnCall_ok s
  rw [evalK_callV H ef e]
  refine callV_le hc s fun v h' hv => ?_
  rw [pz_eq] at hv
  simp only [putP, panO, cond_true]
  cases hp : isPan v with
  | none => rw [hp] at hv; exact hk v h' hv hp
  | some x =>
    rw [hp] at hv
    cases v <;> first | (cases hp; done) | skip
    cases hp
    exact hq _ _ hv

theorem pncK_true {Q : Kont} {v : AV} (s : pncK Q v h = true) : ∃ t u, v = .ifc t u ∧ Q (.pan (.ifc t u)) h = true := by
  unfold pncK at s
  split at s
  · exact ⟨_, _, rfl, s⟩
  · cases s

theorem dnP_ok {k : Kont} (H : Has ρ l) (s : dnP l h op none k = true) : isCall op = false ∧ ∃ v h', evalA ρ h op = some (v, h') ∧ k v h' = true := by
  unfold dnP at s
  cases hp : pureF l h op with
  | some F =>
    rw [hp] at s
    obtain ⟨o, ho, hF⟩ := pureF_ok hp
    obtain ⟨e1, e2⟩ := pureL_has H ho
    simp only [hF] at s
    obtain ⟨v, rfl, s⟩ := optK_true s
    exact ⟨e2, v, h, e1, s⟩
  | none =>
    rw [hp] at s
    simp only at s
    cases hh : heapF l h op with
    | none => rw [hh] at s; cases s
    | some F =>
      rw [hh] at s
      obtain ⟨o, ho, hF⟩ := heapF_ok hh
      obtain ⟨e1, e2⟩ := heapL_has H ho
      simp only [hF] at s
      obtain ⟨v, h', rfl, s⟩ := optPK_true s
      exact ⟨e2, v, h', e1, s⟩

theorem dnPg_ok {k : Kont} {g : AV} {b : Bool} (H : Has ρ l) (s : dnP l h op (some (g, b)) k = true) : isCall op = false ∧ ((wantG g b = true ∧ ∃ v h', evalA ρ h op = some (v, h') ∧ k v h' = true) ∨ (wantG g b = false ∧ k (.tup []) h = true)) := by
  unfold dnP at s
  cases hp : pureF l h op with
  | some F =>
    rw [hp] at s
    obtain ⟨o, ho, hF⟩ := pureF_ok hp
    obtain ⟨e1, e2⟩ := pureL_has H ho
    refine ⟨e2, ?_⟩
    rcases gK_spec s with ⟨hw, s⟩ | ⟨hw, s⟩
    · rw [hF] at s
      obtain ⟨v, rfl, s⟩ := optK_true s
      exact .inl ⟨hw, v, h, e1, s⟩
    · exact .inr ⟨hw, s⟩
  | none =>
    rw [hp] at s
    simp only at s
    cases hh : heapF l h op with
    | none => rw [hh] at s; cases s
    | some F =>
      rw [hh] at s
      obtain ⟨o, ho, hF⟩ := heapF_ok hh
      obtain ⟨e1, e2⟩ := heapL_has H ho
      refine ⟨e2, ?_⟩
      rcases gP_spec s with ⟨hw, s⟩ | ⟨hw, s⟩
      · rw [hF] at s
        obtain ⟨v, h', rfl, s⟩ := optPK_true s
        exact .inl ⟨hw, v, h', e1, s⟩
      · exact .inr ⟨hw, s⟩

theorem dnO_ok {Q : Kont} {o : AOper} {k : LEnv → AHeap → Bool} (hc : Le call call') (H : Has ρ l) (s : dnO call Q o l h k = true)
    (hk : ∀ v h', k (putL l o.dst v) h' = true → panO (isCall o.op) v = none → (o.grd = none → isCall o.op = false → evalA ρ h o.op = some (v, h')) → Ks v ⟨put ρ o.dst v, h'⟩ = true)
    (hq : isCall o.op = true → ∀ x h', Q (.pan x) h' = true → Ks (.pan x) ⟨ρ, h'⟩ = true) : stepA call' o ⟨ρ, h⟩ Ks = true := by
  obtain ⟨dst, op, grd⟩ := o
  cases grd with
  | none =>
    unfold dnO at s
    simp only at s hk hq
    simp only [stepA, wantedA]
    split at s
    · cases s
    · rename_i x
      split at s
      · rename_i v hv
        simp only [evalK, ev_has H hv]
        exact nextA_tup s fun ls h' hv => hk _ _ hv rfl (fun _ e => by cases e)
      · cases s
    · rename_i x
      split at s
      · rename_i v hv
        obtain ⟨t, u, rfl, s⟩ := pncK_true s
        simp only [evalK, ev_has H hv]
        exact hq rfl _ _ s
      · cases s
    · rename_i f xs
      split at s
      · rename_i vs hvs
        exact evalK_call hc H hvs s (fun v h' hv hp => hk v h' hv (panO_none hp) (fun _ e => by cases e)) (hq rfl)
      · cases s
    · rename_i x
      split at s
      · rename_i d
        split at s
        · rename_i v hv
          have e : evalA ρ h (.mv x) = some (v, h) := by simp only [evalA, ev_has H hv, pureV]
          exact evalK_one rfl e (hk v h s rfl fun _ _ => e)
        · cases s
      · obtain ⟨_, v, h', e, s⟩ := dnP_ok H s
        exact evalK_one rfl e (hk v h' s rfl fun _ _ => e)
    · obtain ⟨hn, v, h', e, s⟩ := dnP_ok H s
      exact evalK_one hn e (hk v h' s (by simp only [panO, hn, cond_false]) fun _ _ => e)
  | some p =>
    obtain ⟨j, b⟩ := p
    unfold dnO at s
    simp only at s hk hq
    split at s
    · cases s
    · rename_i g hg
      simp only [stepA, wanted_has H hg]
      have hno : ∀ {P : Prop}, ((some (j, b) : Option (Nat × Bool)) = none → P) := fun e => by cases e
      split at s
      · cases s
      · cases s
      · rename_i x
        split at s
        · rename_i v hv
          rcases gP_spec s with ⟨hw, s⟩ | ⟨hw, s⟩
          · obtain ⟨t, u, rfl, s⟩ := pncK_true s
            simp only [hw, evalK, ev_has H hv]
            exact hq rfl _ _ s
          · simp only [hw]
            exact hk _ _ s rfl hno
        · cases s
      · rename_i f xs
        split at s
        · rename_i vs hvs
          rcases gP_spec s with ⟨hw, s⟩ | ⟨hw, s⟩
          · simp only [hw]
            exact evalK_call hc H hvs s (fun v h' hv hp => hk v h' hv (panO_none hp) hno) (hq rfl)
          · simp only [hw]
            exact hk _ _ s rfl hno
        · cases s
      · obtain ⟨hn, hs⟩ := dnPg_ok H s
        rcases hs with ⟨hw, v, h', e, s⟩ | ⟨hw, s⟩
        · simp only [hw]
          exact evalK_one hn e (hk v h' s (by simp only [panO, hn, cond_false]) hno)
        · simp only [hw]
          exact hk _ _ s (by simp only [panO, hn, cond_false]) hno

/-- Where a panic goes. -/
def QOK (Q : Kont) (KS : KEx) : Prop := ∀ x ρ h, Q (.pan x) h = true → KS (.panic x) ⟨ρ, h⟩ = true

theorem dnR_ok (hc : Le call call') {Q : Kont} : ∀ {ops : List AOper} {ρ : Regs} {l : LEnv} {h : AHeap} {k : LEnv → AHeap → Bool} {KS : KEx}, Has ρ l → dnR call Q ops l h k = true → (∀ l' ρ' h', Has ρ' l' → k l' h' = true → KS .normal ⟨ρ', h'⟩ = true) → QOK Q KS → runR call' ops ⟨ρ, h⟩ KS = true
  | [], ρ, l, h, k, KS, H, s, hk, hq => hk _ _ _ H s
  | o :: ops, ρ, l, h, k, KS, H, s, hk, hq => by
    simp only [runR]
    refine dnO_ok hc H s (fun v h' hv hp _ => ?_) (fun hcl x h' hx => ?_)
    · simp only [hp]
      exact dnR_ok hc (H.putL o.dst v) hv hk hq
    · simp only [hcl, panO, cond_true, isPan]
      exact hq _ _ _ hx

theorem dnK_ok : ∀ {ops : List AOper} {ρ : Regs} {l : LEnv} {h : AHeap} {k : LEnv → Bool}, Has ρ l → dnK ops l h k = true → ∃ ρ' l', calcA ops ρ h = some ρ' ∧ Has ρ' l' ∧ k l' = true := by
  intro ops
  induction ops with
  | nil => intro ρ l h k H s; exact ⟨ρ, l, rfl, H, s⟩
  | cons o ops ih =>
    intro ρ l h k H s
    obtain ⟨dst, op, grd⟩ := o
    unfold dnK at s
    simp only [calcA]
    split at s
    · rename_i heq; cases heq
    · rename_i d x ops' heq
      cases heq
      split at s
      · rename_i v hv
        obtain ⟨ρ', l', h1, h2, h3⟩ := ih (H.set d v) s
        refine ⟨ρ', l', ?_, h2, h3⟩
        simp only [wantedA, evalA, ev_has H hv, pureV]
        exact h1
      · cases s
    · rename_i dst' op' ops' hne heq
      cases heq
      split at s
      · rename_i F hp
        obtain ⟨o, ho, hF⟩ := pureF_ok hp
        obtain ⟨e1, e2⟩ := pureL_has H ho
        rw [hF] at s
        obtain ⟨v, rfl, s⟩ := optK_true s
        obtain ⟨ρ', l', h1, h2, h3⟩ := ih (H.putL dst v) s
        refine ⟨ρ', l', ?_, h2, h3⟩
        simp only [wantedA, e1, pureV]
        exact h1
      · cases s
    · rename_i dst' op' j b ops' heq
      cases heq
      split at s
      · cases s
      · rename_i g hg
        split at s
        · rename_i F hp
          obtain ⟨o, ho, hF⟩ := pureF_ok hp
          obtain ⟨e1, e2⟩ := pureL_has H ho
          simp only [wanted_has H hg]
          rcases gK_spec s with ⟨hw, s⟩ | ⟨hw, s⟩
          · rw [hF] at s
            obtain ⟨v, rfl, s⟩ := optK_true s
            obtain ⟨ρ', l', h1, h2, h3⟩ := ih (H.putL dst v) s
            refine ⟨ρ', l', ?_, h2, h3⟩
            simp only [hw, e1, pureV]
            exact h1
          · obtain ⟨ρ', l', h1, h2, h3⟩ := ih (H.putL dst _) s
            refine ⟨ρ', l', ?_, h2, h3⟩
            simp only [hw]
            exact h1
        · cases s

theorem sameK_true {u v : AV} {r : Bool} (s : sameK u r v = true) : AV.same v u = true ∧ r = true := by
  unfold sameK at s
  rw [ifR_eq] at s
  exact bif_true s

theorem dnA_ok {q : Bool} (H : Has ρ l) : ∀ {ops : List AOper}, dnA ops l h q = true → again ρ h ops = true ∧ q = true
  | [], s => ⟨rfl, s⟩
  | ⟨none, _, _⟩ :: _, s => by unfold dnA at s; cases s
  | ⟨some d, op, none⟩ :: ops, s => by
    unfold dnA at s
    split at s
    · rename_i F hp
      obtain ⟨o, ho, hF⟩ := pureF_ok hp
      obtain ⟨e1, e2⟩ := pureL_has H ho
      split at s
      · rename_i u hu
        rw [hF] at s
        obtain ⟨v, rfl, s⟩ := optK_true s
        obtain ⟨hs, s⟩ := sameK_true s
        obtain ⟨h1, h2⟩ := dnA_ok H s
        refine ⟨?_, h2⟩
        simp only [again, againOne, wantedA, e1, pureV, H d u hu, hs, cond_true]
        exact h1
      · cases s
    · cases s
  | ⟨some d, op, some (j, b)⟩ :: ops, s => by
    unfold dnA at s
    split at s
    · rename_i g hg
      split at s
      · rename_i F hp
        obtain ⟨o, ho, hF⟩ := pureF_ok hp
        obtain ⟨e1, e2⟩ := pureL_has H ho
        split at s
        · rename_i u hu
          simp only [again, againOne, wanted_has H hg]
          rcases gS_spec s with ⟨hw, s⟩ | ⟨hw, s⟩
          · rw [hF] at s
            obtain ⟨v, rfl, s⟩ := optK_true s
            obtain ⟨hs, s⟩ := sameK_true s
            obtain ⟨h1, h2⟩ := dnA_ok H s
            refine ⟨?_, h2⟩
            simp only [hw, e1, pureV, H d u hu, hs, cond_true]
            exact h1
          · obtain ⟨h1, h2⟩ := dnA_ok H s
            refine ⟨?_, h2⟩
            simp only [hw, cond_true]
            exact h1
        · cases s
      · cases s
    · cases s

theorem early_idOf {o : AOper} {v : AV} {h' : AHeap} (he : isEarlyA o = true) (hv : evalA ρ h o.op = some (v, h')) : idOf v = h.sz ∧ o.grd = none ∧ isCall o.op = false := by
  obtain ⟨dst, op, grd⟩ := o
  unfold isEarlyA at he
  split at he
  · cases he
  · rename_i hg
    split at he <;> first | (cases he; done) | skip
    all_goals
      rename_i ho
      simp only at ho hg hv
      subst ho
      subst hg
      refine ⟨?_, rfl, rfl⟩
    · simp only [evalA, allocA] at hv
      cases hb : Nat.beq _ 0 with
      | true => rw [hb] at hv; cases hv; rfl
      | false =>
        rw [hb, cond_false] at hv
        obtain ⟨_, hv⟩ := cond_some hv
        cases hv; rfl
    · simp only [evalA] at hv
      obtain ⟨_, hv⟩ := cond_some hv
      cases hv; rfl
    · simp only [evalA] at hv
      split at hv
      · unfold boxA at hv
        obtain ⟨_, hv⟩ := cond_some hv
        cases hv; rfl
      · cases hv
    · simp only [evalA] at hv
      cases hv; rfl
    · simp only [evalA] at hv
      split at hv
      · unfold mkslA at hv
        split at hv
        · obtain ⟨_, hv⟩ := cond_some hv
          cases hv; rfl
        · cases hv
      · cases hv
    · simp only [evalA] at hv
      obtain ⟨_, hv⟩ := cond_some hv
      split at hv
      · cases hv; rfl
      · cases hv

theorem goneQ_spec {es : List AV} {Q : Kont} {v : AV} (s : goneQ es Q v h = true) : ∃ h', goneAll (es.map idOf) h = some h' ∧ Q v h' = true := by
  cases es with
  | nil => exact ⟨h, rfl, s⟩
  | cons e es =>
    simp only [goneQ] at s
    split at s
    · rename_i h2 hh; exact ⟨h2, hh, s⟩
    · cases s

theorem dnD_ok (hc : Le call call') {Q : Kont} {ρ0 : Regs} : ∀ {rest : List (AOper × List AOper × List AOper)} {es : List AV} {ρ : Regs} {l : LEnv} {h : AHeap} {k : LEnv → AHeap → Bool} {KS : KEx}, Has ρ l → dnD call Q rest es l h k = true → (∀ l' ρ' h', Has ρ' l' → k l' h' = true → KS .normal ⟨ρ', h'⟩ = true) → QOK Q KS → runD call' ρ0 (es.map idOf) rest ⟨ρ, h⟩ KS = true
  | [], es, ρ, l, h, k, KS, H, s, hk, hq => hk _ _ _ H s
  | (act, chk, ns) :: rest, es, ρ, l, h, k, KS, H, s, hk, hq => by
    unfold dnD at s
    simp only [runD]
    refine dnO_ok hc H s (fun v h' hv hp hev => ?_) (fun hcl x h' hx => ?_)
    · simp only [hp]
      split at hv
      · cases hv
      · rename_i e he
        have H' := H.putL act.dst v
        obtain ⟨ha, hv⟩ := dnA_ok H' hv
        obtain ⟨ρ', l', h1, h2, h3⟩ := dnK_ok H' hv
        rw [ha, cond_true, h1]
        simp only
        have hes : (bif isEarlyA act then h.sz :: es.map idOf else es.map idOf) = (e ++ es).map idOf := by
          unfold earlyV at he
          cases hie : isEarlyA act with
          | false => rw [hie, cond_false] at he; cases he; rfl
          | true =>
            rw [hie, cond_true] at he
            have hg : act.grd = none ∧ isCall act.op = false := by
              unfold isEarlyA at hie
              split at hie
              · cases hie
              · rename_i hg
                refine ⟨hg, ?_⟩
                split at hie <;> first | (cases hie; done) | (rename_i ho; rw [ho]; rfl)
            have hev := hev hg.1 hg.2
            split at he
            · rename_i d hd
              split at he
              · rename_i v' hv'
                cases he
                rw [hd] at hv'
                simp only [putL, LEnv.get, Nat.beq_refl, cond_true, Option.some.injEq] at hv'
                subst hv'
                simp only [cond_true, List.cons_append, List.nil_append, List.map_cons, (early_idOf hie hev).1]
              · cases he
            · cases he
        rw [hes]
        exact dnD_ok hc h2 h3 hk hq
    · simp only [hcl, panO, cond_true, isPan]
      obtain ⟨h2, hh, hx⟩ := goneQ_spec hx
      rw [hh]
      exact hq _ _ _ hx

/-! ### Code -/
noncomputable def seqK (call : CallFn) (n : Nat) (b : ACode) (K : KEx) : KEx := fun x σ' =>
  match x with
  | .normal => runC call n b σ' K
  | x => K x σ'
noncomputable def blockK (id : Nat) (K : KEx) : KEx := fun x σ' =>
  match x with
  | .exit i => bif Nat.beq i id then K .normal σ' else K (.exit i) σ'
  | x => K x σ'
noncomputable def loopK (call : CallFn) (n : Nat) (c : ACode) (K : KEx) (m : Nat) : KEx := fun x σ' =>
  match x with
  | .normal => iter (runC call n c) K m σ'
  | x => K x σ'
noncomputable def jumpK (call : CallFn) (n : Nat) (l : Nat) (r : ACode) (K : KEx) (m : Nat) : KEx := fun x σ' =>
  match x with
  | .goto l' => bif Nat.beq l' l then iterG l (runC call n r) K m σ' else false
  | x => K x σ'
noncomputable def finK (res : List (Nat × Option (Bool × Nat))) (K : Kont) : KEx := fun x σ =>
  match x with
  | .normal => (match resultsA σ.regs σ.h res with
    | some l => K (oneOf l) σ.h
    | none => false)
  | .ret => (match resultsA σ.regs σ.h res with
    | some l => K (oneOf l) σ.h
    | none => false)
  | .panic v => K (.pan v) σ.h
  | _ => false

variable {σ : St} {KS : KEx}
theorem c_seq {x y : ACode} (s : runC call n x σ (seqK call n y KS) = true) : runC call n (.seq x y) σ KS = true := by
  have e : seqK call n y KS = (fun x σ' => match x with | .normal => runC call n y σ' KS | x => KS x σ') := by
    funext x σ'; cases x <;> rfl
  rw [e] at s; exact s
theorem c_cond {c : Opd} {x y : ACode} {v : AV} {p q : Bool} {KS : KEx} (H : Has ρ l) (e : evL l c = some v) (s : condK v p q = true) (kx : p = true → runC call n x ⟨ρ, h⟩ KS = true) (ky : q = true → runC call n y ⟨ρ, h⟩ KS = true) : runC call n (.cond c x y) ⟨ρ, h⟩ KS = true := by
  simp only [runC, ev_has H e]
  cases v <;> first | (cases s; done) | skip
  rename_i t
  cases t
  · exact ky s
  · exact kx s
theorem c_block {id : Nat} {x : ACode} (s : runC call n x σ (blockK id KS) = true) : runC call n (.block id x) σ KS = true := by
  have e : blockK id KS = (fun x σ' => match x with | .exit i => bif Nat.beq i id then KS .normal σ' else KS (.exit i) σ' | x => KS x σ') := by
    funext x σ'; cases x <;> rfl
  rw [e] at s; exact s
theorem c_loop {x : ACode} (s : iter (runC call n x) KS n σ = true) : runC call n (.loop x) σ KS = true := s
theorem c_round {x : ACode} {m : Nat} (s : runC call n x σ (loopK call n x KS m) = true) : iter (runC call n x) KS (m + 1) σ = true := by
  have e : loopK call n x KS m = (fun y σ' => match y with | .normal => iter (runC call n x) KS m σ' | y => KS y σ') := by
    funext y σ'; cases y <;> rfl
  rw [e] at s; exact s
theorem c_scope {x r : ACode} {l : Nat} (s : runC call n x σ (jumpK call n l r KS n) = true) : runC call n (.scope x l r) σ KS = true := by
  have e : jumpK call n l r KS n = (fun x σ' => match x with | .goto l' => bif Nat.beq l' l then iterG l (runC call n r) KS n σ' else false | x => KS x σ') := by
    funext x σ'; cases x <;> rfl
  rw [e] at s; exact s
theorem c_jump {r : ACode} {l m : Nat} (s : runC call n r σ (jumpK call n l r KS m) = true) : iterG l (runC call n r) KS (m + 1) σ = true := by
  have e : jumpK call n l r KS m = (fun x σ' => match x with | .goto l' => bif Nat.beq l' l then iterG l (runC call n r) KS m σ' else false | x => KS x σ') := by
    funext x σ'; cases x <;> rfl
  rw [e] at s; exact s
theorem results_has (H : Has ρ l) : ∀ {res : List (Nat × Option (Bool × Nat))} {m : List (AV × Option (Bool × Nat))}, resL l res = some m → resultsA ρ h res = resV h m
  | [], m, e => by simp only [resL] at e; cases e; rfl
  | (t, x) :: r, m, e => by
    simp only [resL] at e
    split at e
    · rename_i v hv
      split at e
      · rename_i vs hvs
        cases e
        simp only [resultsA]
        rw [results_has H hvs]
        cases x with
        | none => simp only [resultA, H t v hv, resV]; rfl
        | some p =>
          obtain ⟨ag, k⟩ := p
          simp only [resultA, H t v hv, resV]
          rfl
      · cases e
    · cases e

theorem fin_ret {res : List (Nat × Option (Bool × Nat))} {m : List (AV × Option (Bool × Nat))} {K K' : Kont} (H : Has ρ l) (e : resL l res = some m) (hK : ∀ v h', K v h' = true → K' v h' = true) (s : optR (resV h m) h K = true) : finK res K' .ret ⟨ρ, h⟩ = true := by
  simp only [finK, results_has H e]
  cases hr : resV h m with
  | none => rw [hr] at s; cases s
  | some vs => rw [hr] at s; exact hK _ _ s

theorem fin_normal {res : List (Nat × Option (Bool × Nat))} {m : List (AV × Option (Bool × Nat))} {K K' : Kont} (H : Has ρ l) (e : resL l res = some m) (hK : ∀ v h', K v h' = true → K' v h' = true) (s : optR (resV h m) h K = true) : finK res K' .normal ⟨ρ, h⟩ = true := by
  simp only [finK, results_has H e]
  cases hr : resV h m with
  | none => rw [hr] at s; cases s
  | some vs => rw [hr] at s; exact hK _ _ s

theorem runR_append {KS : KEx} : ∀ {a b : List AOper} {σ : St}, runR call (a ++ b) σ KS = runR call a σ (fun x σ' => match x with | .normal => runR call b σ' KS | x => KS x σ')
  | [], b, σ => rfl
  | o :: a, b, σ => by
    simp only [List.cons_append, runR]
    congr 1
    funext v σ'
    cases panO (isCall o.op) v with
    | none => exact runR_append
    | some x => rfl
theorem isReg_run {KS : KEx} : ∀ {b : BCode} {σ : St}, b.isReg = true → runC call n b.erase σ KS = runR call b.ops σ KS
  | .reg _, σ, _ => rfl
  | .rseq l b, σ, _ => rfl
  | .pt _ _ b, σ, h => isReg_run (b := b) h

theorem QOK.seq {Q : Kont} {KS : KEx} {b : ACode} (hq : QOK Q KS) : QOK Q (seqK call n b KS) := fun x ρ h s => hq x ρ h s
theorem QOK.block {Q : Kont} {KS : KEx} {id : Nat} (hq : QOK Q KS) : QOK Q (blockK id KS) := fun x ρ h s => hq x ρ h s
theorem QOK.loop {Q : Kont} {KS : KEx} {c : ACode} {m : Nat} (hq : QOK Q KS) : QOK Q (loopK call n c KS m) := fun x ρ h s => hq x ρ h s
theorem QOK.jump {Q : Kont} {KS : KEx} {c : ACode} {lb m : Nat} (hq : QOK Q KS) : QOK Q (jumpK call n lb c KS m) := fun x ρ h s => hq x ρ h s

/-- Lists of temporaries and values. -/
def zipL : List Nat → List AV → LEnv
  | k :: ks, v :: vs => (k, v) :: zipL ks vs
  | _, _ => []

theorem keepL_zip : ∀ {ks : List Nat} {l m : LEnv}, keepL ks l = some m → m = zipL ks (vals m) ∧ (vals m).length = ks.length
  | [], l, m, e => by simp only [keepL] at e; cases e; exact ⟨rfl, rfl⟩
  | k :: ks, l, m, e => by
    simp only [keepL] at e
    split at e
    · split at e
      · rename_i v hv m' hm
        cases e
        have := keepL_zip hm
        exact ⟨by simp only [vals, zipL]; rw [← this.1], by simp only [vals, List.length_cons, this.2]⟩
      · cases e
    · cases e

theorem tabE_vals (σ : Nat → AV) : ∀ (ks : List Nat) (vs : List AV) (i : Nat), vs.length = ks.length → (∀ j, j < vs.length → vs[j]? = some (σ (i + j))) → tabE ks i σ = zipL ks vs ∧ vals (zipL ks vs) = vs
  | [], [], i, _, _ => ⟨rfl, rfl⟩
  | [], _ :: _, _, e, _ => by cases e
  | _ :: _, [], _, e, _ => by cases e
  | k :: ks, v :: vs, i, e, hv => by
    have h0 := hv 0 (Nat.succ_pos _)
    simp only [List.getElem?_cons_zero, Nat.add_zero, Option.some.injEq] at h0
    have := tabE_vals σ ks vs (i + 1) (by simpa using e) (fun j hj => by
      have := hv (j + 1) (by simpa using hj)
      simpa [Nat.add_assoc, Nat.add_comm 1 j] using this)
    simp only [tabE, zipL, vals, ← h0, this.1, this.2]
    exact ⟨trivial, trivial⟩

def pickA : List AV → Nat → AV
  | [], _ => .bool true
  | v :: _, 0 => v
  | _ :: l, n + 1 => pickA l n
theorem pickA_get : ∀ (vs : List AV) (j : Nat), j < vs.length → vs[j]? = some (pickA vs j)
  | [], _, h => by cases h
  | v :: vs, 0, _ => rfl
  | v :: vs, j + 1, h => by simpa [pickA] using pickA_get vs j (by simpa using h)

theorem tabE_zip {ks : List Nat} {vs : List AV} (e : vs.length = ks.length) : tabE ks 0 (pickA vs) = zipL ks vs ∧ vals (zipL ks vs) = vs :=
  tabE_vals _ ks vs 0 e fun j hj => by rw [Nat.zero_add]; exact pickA_get vs j hj

def pickP : Bt → Nat → Pv
  | [], _ => fun _ _ => false
  | v :: _, 0 => v
  | _ :: l, n + 1 => pickP l n
theorem stk_pick (τ : Nat → Pv) : ∀ (β : Bt) (i : Nat), (∀ j, j < β.length → β[j]? = some (τ (i + j))) → stk β.length i τ = β
  | [], _, _ => rfl
  | B :: β, i, h => by
    have h0 := h 0 (Nat.succ_pos _)
    simp only [List.getElem?_cons_zero, Nat.add_zero, Option.some.injEq] at h0
    have := stk_pick τ β (i + 1) (fun j hj => by
      have := h (j + 1) (by simpa using hj)
      simpa [Nat.add_assoc, Nat.add_comm 1 j] using this)
    simp only [List.length_cons, stk, ← h0, this]
theorem pickP_get : ∀ (vs : Bt) (j : Nat), j < vs.length → vs[j]? = some (pickP vs j)
  | [], _, h => by cases h
  | v :: vs, 0, _ => rfl
  | v :: vs, j + 1, h => by simpa [pickP] using pickP_get vs j (by simpa using h)
theorem stk_is (β : Bt) : stk β.length 0 (pickP β) = β :=
  stk_pick _ β 0 fun j hj => by rw [Nat.zero_add]; exact pickP_get β j hj

/-- What is asked where a piece is done holds. -/
def SKd (K : KL) (KS : KEx) : Prop := ∀ x (l : LEnv) (ρ : Regs) (h : AHeap), Has ρ l → K x l h = true → KS x ⟨ρ, h⟩ = true
/-- Values for some temporaries: what is said of them is enough. -/
def SVd (V : Pv) (ks : List Nat) (R : St → Bool) : Prop := ∀ (vs : List AV) (ρ : Regs) (h : AHeap), vs.length = ks.length → Has ρ (zipL ks vs) → V vs h = true → R ⟨ρ, h⟩ = true

theorem SVd.go {V : Pv} {ks : List Nat} {R : St → Bool} (hv : SVd V ks R) {ρ : Regs} {l : LEnv} {h : AHeap} (H : Has ρ l) (s : goL V ks l h = true) : R ⟨ρ, h⟩ = true := by
  unfold goL at s
  split at s
  · rename_i l' hl
    have hz := keepL_zip hl
    have H' := H.keep ks hl
    rw [hz.1] at H'
    exact hv _ _ _ hz.2 H' s
  · cases s

def SPd (call' : CallFn) (n : Nat) (S : Sp) : Bt → BCode → KEx → Prop
  | β, .pt j ks a, KS => SVd (S.pt β j) ks fun σ => runC call' n a.erase σ KS
  | β, .loop j ks a, KS => SVd (S.lp β j n) ks (iter (runC call' n a.erase) KS n)
  | β, .scope j _ fks a lb r, KS => SVd (S.fs (S.lp β j n :: β) j) fks fun σ => runC call' n a.erase σ (jumpK call' n lb r.erase KS n)
  | β, .rseq _ b, KS => SPd call' n S β b KS
  | β, .seq a b, KS => SPd call' n S β a (seqK call' n b.erase KS) ∧ SPd call' n S β b KS
  | β, .cond _ a b, KS => SPd call' n S β a KS ∧ SPd call' n S β b KS
  | β, .block id a, KS => SPd call' n S β a (blockK id KS)
  | _, _, _ => True

theorem SKd.block {id : Nat} {K : KL} {KS : KEx} (hk : SKd K KS) : SKd (blockL id K) (blockK id KS) := by
  intro x l ρ h H s
  cases x with
  | exit i =>
    simp only [blockL, blockK] at s ⊢
    cases hb : Nat.beq i id with
    | true => rw [hb] at s; exact hk _ _ _ _ H s
    | false => rw [hb] at s; exact hk _ _ _ _ H s
  | _ => exact hk _ _ _ _ H s
theorem SKd.loop {c : ACode} {n m : Nat} {call' : CallFn} {B : Pv} {ks : List Nat} {K : KL} {KS : KEx} (hk : SKd K KS) (hB : SVd B ks (iter (runC call' n c) KS m)) : SKd (loopL B ks K) (loopK call' n c KS m) := by
  intro x l ρ h H s
  cases x with
  | normal => exact hB.go H s
  | _ => exact hk _ _ _ _ H s
theorem SKd.jump {r : ACode} {n m lb : Nat} {call' : CallFn} {B : Pv} {ks : List Nat} {K : KL} {KS : KEx} (hk : SKd K KS) (hB : SVd B ks (iterG lb (runC call' n r) KS m)) : SKd (jumpL lb B ks K) (jumpK call' n lb r KS m) := by
  intro x l ρ h H s
  cases x with
  | goto i =>
    simp only [jumpL, jumpK] at s ⊢
    cases hb : Nat.beq i lb with
    | true => rw [hb] at s; exact hB.go H s
    | false => rw [hb] at s; cases s
  | _ => exact hk _ _ _ _ H s

theorem dn_main {S : Sp} {call call' : CallFn} {n : Nat} {Q : Kont} (hc : Le call call') : ∀ (c : BCode) (β : Bt) (ρ : Regs) (l : LEnv) (h : AHeap) (K : KL) (KS : KEx), SPd call' n S β c KS → SKd K KS → QOK Q KS → Has ρ l → dnB call n Q S β c l h K = true → runC call' n c.erase ⟨ρ, h⟩ KS = true := by
  intro c
  induction c with
  | skip => intro β ρ l h K KS sp hk hq H s; exact hk _ _ _ _ H s
  | label _ => intro β ρ l h K KS sp hk hq H s; exact hk _ _ _ _ H s
  | exit _ => intro β ρ l h K KS sp hk hq H s; exact hk _ _ _ _ H s
  | goto _ => intro β ρ l h K KS sp hk hq H s; exact hk _ _ _ _ H s
  | ret => intro β ρ l h K KS sp hk hq H s; exact hk _ _ _ _ H s
  | refuse => intro β ρ l h K KS sp hk hq H s; cases s
  | stop _ => intro β ρ l h K KS sp hk hq H s; cases s
  | reg ops =>
    intro β ρ l h K KS sp hk hq H s
    exact dnR_ok hc H s (fun l' ρ' h' H' s' => hk _ _ _ _ H' s') hq
  | dreg n0 rest =>
    intro β ρ l h K KS sp hk hq H s
    obtain ⟨ρ', l', h1, h2, h3⟩ := dnK_ok H s
    simp only [BCode.erase, runC, h1]
    exact dnD_ok (es := []) hc h2 h3 (fun l2 ρ2 h2 H2 s2 => hk _ _ _ _ H2 s2) hq
  | rseq ops b ih =>
    intro β ρ l h K KS sp hk hq H s
    simp only [dnB] at s
    split at s
    · rename_i hr
      show runR call' (ops ++ b.ops) ⟨ρ, h⟩ KS = true
      rw [runR_append]
      refine dnR_ok hc H s (fun l' ρ' h' H' s' => ?_) (fun x ρ h s => hq x ρ h s)
      have := ih β _ _ _ _ _ sp hk hq H' s'
      rw [isReg_run hr] at this
      exact this
    · cases s
  | seq a b iha ihb =>
    intro β ρ l h K KS sp hk hq H s
    refine c_seq (iha β ρ l h _ _ sp.1 ?_ hq.seq H s)
    intro x l' ρ' h' H' s'
    cases x with
    | normal => exact ihb β _ _ _ _ _ sp.2 hk hq H' s'
    | _ => exact hk _ _ _ _ H' s'
  | cond o a b iha ihb =>
    intro β ρ l h K KS sp hk hq H s
    simp only [dnB] at s
    split at s
    · rename_i v hv
      exact c_cond H hv s (fun s => iha β _ _ _ _ _ sp.1 hk hq H s) (fun s => ihb β _ _ _ _ _ sp.2 hk hq H s)
    · cases s
  | block id a ih =>
    intro β ρ l h K KS sp hk hq H s
    exact c_block (ih β _ _ _ _ _ sp hk.block hq.block H s)
  | loop j ks a ih => intro β ρ l h K KS sp hk hq H s; exact c_loop (SVd.go sp H s)
  | pt j ks a ih => intro β ρ l h K KS sp hk hq H s; exact SVd.go sp H s
  | scope j ks fks a lb r iha ihr => intro β ρ l h K KS sp hk hq H s; exact c_scope (SVd.go sp H s)

theorem sp_of {S : Sp} {call call' : CallFn} {n : Nat} {Q : Kont} (hc : Le call call') : ∀ (c : BCode) (β : Bt) (K : Bt → KL) (KS : KEx), (∀ p ∈ prs call n Q S β.length c K, p.1 = p.2) → SKd (K β) KS → QOK Q KS → SPd call' n S β c KS := by
  intro c
  induction c with
  | pt j ks a ih =>
    intro β K KS hp hk hq vs ρ h hl H s
    have e := congrFun (congrFun (congrFun (congrFun (hp _ (List.mem_cons_self ..)) (pickP β)) 0) (pickA vs)) h
    simp only [stk_is, tabE_zip hl] at e
    rw [e] at s
    exact dn_main hc a β ρ _ h _ KS (ih β K KS (fun p h => hp p (List.mem_cons_of_mem _ h)) hk hq) hk hq H s
  | loop j ks a ih =>
    intro β K KS hp hk hq
    have e1 := hp _ (List.mem_cons_self ..)
    have e2 := hp _ (List.mem_cons_of_mem _ (List.mem_cons_self ..))
    have e3 := hp _ (List.mem_cons_of_mem _ (List.mem_cons_of_mem _ (List.mem_cons_self ..)))
    have hr : ∀ p ∈ prs call n Q S (β.length + 1) a (tailK (fun B => loopL B ks) K), p.1 = p.2 := fun p h => hp p (List.mem_cons_of_mem _ (List.mem_cons_of_mem _ (List.mem_cons_of_mem _ h)))
    have main : ∀ m, SVd (S.lp β j m) ks (iter (runC call' n a.erase) KS m) := by
      intro m
      induction m with
      | zero =>
        intro vs ρ h hl H s
        have e := congrFun (congrFun (congrFun (congrFun e2 (pickP β)) 0) (pickA vs)) h
        simp only [stk_is, tabE_zip hl] at e
        rw [e] at s; cases s
      | succ m ihm =>
        intro vs ρ h hl H s
        have e := congrFun (congrFun (congrFun (congrFun e3 (pickP β)) m) (pickA vs)) h
        simp only [stk_is, tabE_zip hl] at e
        have e' := congrFun (congrFun (congrFun (congrFun e1 (pickP (S.lp β j m :: β))) 0) (pickA vs)) h
        have hs : stk (β.length + 1) 0 (pickP (S.lp β j m :: β)) = S.lp β j m :: β := stk_is (S.lp β j m :: β)
        simp only [hs, tabE_zip hl] at e'
        rw [e, e'] at s
        have hk' : SKd (loopL (S.lp β j m) ks (K β)) (loopK call' n a.erase KS m) := hk.loop ihm
        exact c_round (dn_main hc a (S.lp β j m :: β) ρ _ h _ _ (ih (S.lp β j m :: β) (tailK (fun B => loopL B ks) K) _ hr hk' hq.loop) hk' hq.loop H s)
    exact main n
  | seq a b iha ihb =>
    intro β K KS hp hk hq
    have hb : SPd call' n S β b KS := ihb β K KS (fun p h => hp p (List.mem_append_right _ h)) hk hq
    refine ⟨iha β _ _ (fun p h => hp p (List.mem_append_left _ h)) ?_ hq.seq, hb⟩
    intro x l ρ h H s
    cases x with
    | normal => exact dn_main hc b β ρ l h _ KS hb hk hq H s
    | _ => exact hk _ _ _ _ H s
  | cond o a b iha ihb =>
    intro β K KS hp hk hq
    exact ⟨iha β K KS (fun p h => hp p (List.mem_append_left _ h)) hk hq, ihb β K KS (fun p h => hp p (List.mem_append_right _ h)) hk hq⟩
  | block id a ih =>
    intro β K KS hp hk hq
    exact ih β (fun β => blockL id (K β)) _ hp hk.block hq.block
  | rseq ops b ih =>
    intro β K KS hp hk hq
    exact ih β K KS hp hk hq
  | scope j ks fks a lb r iha ihr =>
    intro β K KS hp hk hq
    have e0 := hp _ (List.mem_cons_self ..)
    have e1 := hp _ (List.mem_cons_of_mem _ (List.mem_cons_self ..))
    have e2 := hp _ (List.mem_cons_of_mem _ (List.mem_cons_of_mem _ (List.mem_cons_self ..)))
    have e3 := hp _ (List.mem_cons_of_mem _ (List.mem_cons_of_mem _ (List.mem_cons_of_mem _ (List.mem_cons_self ..))))
    have hr : ∀ p ∈ prs call n Q S (β.length + 1) a (tailK (fun B => jumpL lb B ks) K) ++ prs call n Q S (β.length + 1) r (tailK (fun B => jumpL lb B ks) K), p.1 = p.2 := fun p h => hp p (List.mem_cons_of_mem _ (List.mem_cons_of_mem _ (List.mem_cons_of_mem _ (List.mem_cons_of_mem _ h))))
    have main : ∀ m, SVd (S.lp β j m) ks (iterG lb (runC call' n r.erase) KS m) := by
      intro m
      induction m with
      | zero =>
        intro vs ρ h hl H s
        have e := congrFun (congrFun (congrFun (congrFun e2 (pickP β)) 0) (pickA vs)) h
        simp only [stk_is, tabE_zip hl] at e
        rw [e] at s; cases s
      | succ m ihm =>
        intro vs ρ h hl H s
        have e := congrFun (congrFun (congrFun (congrFun e3 (pickP β)) m) (pickA vs)) h
        simp only [stk_is, tabE_zip hl] at e
        have e' := congrFun (congrFun (congrFun (congrFun e1 (pickP (S.lp β j m :: β))) 0) (pickA vs)) h
        have hs : stk (β.length + 1) 0 (pickP (S.lp β j m :: β)) = S.lp β j m :: β := stk_is (S.lp β j m :: β)
        simp only [hs, tabE_zip hl] at e'
        rw [e, e'] at s
        have hk' : SKd (jumpL lb (S.lp β j m) ks (K β)) (jumpK call' n lb r.erase KS m) := hk.jump ihm
        exact c_jump (dn_main hc r (S.lp β j m :: β) ρ _ h _ _ (ihr (S.lp β j m :: β) (tailK (fun B => jumpL lb B ks) K) _ (fun p h => hr p (List.mem_append_right _ h)) hk' hq.jump) hk' hq.jump H s)
    intro vs ρ h hl H s
    have e := congrFun (congrFun (congrFun (congrFun e0 (pickP (S.lp β j n :: β))) 0) (pickA vs)) h
    have hs : stk (β.length + 1) 0 (pickP (S.lp β j n :: β)) = S.lp β j n :: β := stk_is (S.lp β j n :: β)
    simp only [hs, tabE_zip hl] at e
    rw [e] at s
    have hk' : SKd (jumpL lb (S.lp β j n) ks (K β)) (jumpK call' n lb r.erase KS n) := hk.jump (main n)
    exact dn_main hc a (S.lp β j n :: β) ρ _ h _ _ (iha (S.lp β j n :: β) (tailK (fun B => jumpL lb B ks) K) _ (fun p h => hr p (List.mem_append_left _ h)) hk' hq.jump) hk' hq.jump H s
  | _ => intro β K KS hp hk hq; trivial

theorem res_plain {h : AHeap} : ∀ {res : List (Nat × Option (Bool × Nat))} {l : LEnv} {m : List (AV × Option (Bool × Nat))}, resL l res = some m → (res.any fun x => x.2.isSome) = false → resV h m = some (m.map fun x => x.1)
  | [], l, m, e, _ => by simp only [resL] at e; cases e; rfl
  | (t, x) :: r, l, m, e, ha => by
    simp only [resL] at e
    split at e
    · split at e
      · rename_i v hv vs hvs
        cases e
        simp only [List.any_cons, Bool.or_eq_false_iff] at ha
        cases x with
        | some p => cases ha.1
        | none => simp only [resV, res_plain hvs ha.2, List.map]
      · cases e
    · cases e

theorem finB_ok {res : List (Nat × Option (Bool × Nat))} {K : Kont} {ρ : Regs} {l : LEnv} {h : AHeap} (H : Has ρ l) (s : finB res l h K = true) : ∃ m, resL l res = some m ∧ optR (resV h m) h K = true := by
  unfold finB at s
  split at s
  · rename_i m hm
    refine ⟨m, hm, ?_⟩
    cases ha : res.any fun x => x.2.isSome with
    | true => rw [ha] at s; exact s
    | false => rw [ha] at s; rw [res_plain hm ha]; exact s
  · cases s

theorem SKd.fin {res : List (Nat × Option (Bool × Nat))} {K K' : Kont} (hK : ∀ v h', K v h' = true → K' v h' = true) : SKd (finL res K) (finK res K') := by
  intro x l ρ h H s
  cases x with
  | normal => obtain ⟨m, e, s⟩ := finB_ok H s; exact fin_normal H e hK s
  | ret => obtain ⟨m, e, s⟩ := finB_ok H s; exact fin_ret H e hK s
  | _ => cases s

theorem QOK.fin {res : List (Nat × Option (Bool × Nat))} {K K' : Kont} (hK : KLe K K') : QOK K (finK res K') := fun x ρ h s => hK _ _ s

/-- A function without deferred calls. -/
def plainT : ACode → Bool
  | .seq (.reg ops) b => (match splitDfr ops with
    | some _ => false
    | none => plainT b)
  | .seq _ b => plainT b
  | _ => true

theorem atEnd_fin {df : DefFn} {res : List (Nat × Option (Bool × Nat))} {K : Kont} {x : AExit} {σ : St} (s : finK res K x σ = true) : atEnd df [] x σ (fnEnd res K) = true := by
  cases x <;> first | (cases s; done) | exact s

theorem seq_run {a b : ACode} {σ : St} {K : KEx} (s : runC call n (.seq a b) σ K = true) : runC call n a σ (fun x σ' => match x with | .normal => runC call n b σ' K | x => K x σ') = true := s

theorem runT_plain (hm : Le call call) {df : DefFn} {res : List (Nat × Option (Bool × Nat))} {K : Kont} : ∀ {c : ACode} {σ : St}, plainT c = true → runC call n c σ (finK res K) = true → runT call df n c [] σ (fnEnd res K) = true := by
  intro c
  induction c with
  | seq a b iha ihb =>
    intro σ hp s
    cases a with
    | reg ops =>
      unfold plainT at hp
      unfold runT
      cases hs : splitDfr ops with
      | some p => rw [hs] at hp; cases hp
      | none =>
        rw [hs] at hp
        simp only
        refine runC_le hm (seq_run s) fun x σ' hx => ?_
        cases x with
        | normal => exact ihb hp hx
        | _ => exact atEnd_fin hx
    | _ =>
      unfold plainT at hp
      simp only [runT]
      have s' := seq_run s
      refine runC_le hm s' fun x σ' hx => ?_
      cases x with
      | normal => exact ihb hp hx
      | _ => exact atEnd_fin hx
  | _ => intro σ hp s; simp only [runT]; exact runC_le hm s fun x σ' hx => atEnd_fin hx

theorem Has.init : ∀ {vs : List AV} {i : Nat} {ρ : Regs} {l : LEnv}, Has ρ l → Has (initR i vs ρ) (initL i vs l)
  | [], i, ρ, l, H => H
  | v :: vs, i, ρ, l, H => Has.init (vs := vs) (H.set i v)

theorem tabV_pick (σ : Nat → AV) : ∀ (vs : List AV) (i : Nat), (∀ j, j < vs.length → vs[j]? = some (σ (i + j))) → tabV vs.length i σ = vs
  | [], _, _ => rfl
  | v :: vs, i, h => by
    have h0 := h 0 (Nat.succ_pos _)
    simp only [List.getElem?_cons_zero, Nat.add_zero, Option.some.injEq] at h0
    have := tabV_pick σ vs (i + 1) (fun j hj => by
      have := h (j + 1) (by simpa using hj)
      simpa [Nat.add_assoc, Nat.add_comm 1 j] using this)
    simp only [List.length_cons, tabV, ← h0, this]
theorem tabV_is (vs : List AV) : tabV vs.length 0 (pickA vs) = vs := tabV_pick _ vs 0 fun j hj => by rw [Nat.zero_add]; exact pickA_get vs j hj

theorem pairs_eq {α : Type} : ∀ {l : List (α × α)}, l.map Prod.fst = l.map Prod.snd → ∀ p ∈ l, p.1 = p.2
  | [], _, p, h => by cases h
  | q :: l, e, p, h => by
    simp only [List.map_cons, List.cons.injEq] at e
    cases h with
    | head => exact e.1
    | tail _ h => exact pairs_eq e.2 p h

/-- A function as it is printed: what is handed to it at all, its points. -/
noncomputable def shW (np : Nat) (top : CallFn → Nat → Kont → Pv) : Sh := fun call n args h K => ifR (Nat.beq (lenR args) np) (top call n K args h) false

theorem shW_ok {E : Env} {k np : Nat} {A : Ann} {fn : AFun} {S : CallFn → Nat → Kont → Sp} {top : CallFn → Nat → Kont → Pv} (hk : E.code k = some fn) (hpr : E.prim k = none) (hn : fn.np = np) (hpl : plainT fn.body = true)
    (e : (fun call n K => (prsF call n K (S call n K) (top call n K) A fn).map Prod.fst) = fun call n K => (prsF call n K (S call n K) (top call n K) A fn).map Prod.snd) : ShOK E k (shW np top) := by
  intro call call' n args h K K' hc hm hK s
  subst hn
  unfold shW at s
  rw [ifR_eq, lenR_eq] at s
  cases hb : Nat.beq args.length fn.np with
  | false => rw [hb] at s; cases s
  | true =>
    rw [hb] at s
    have hl := Nat.eq_of_beq_eq_true hb
    refine ⟨fn, hk, hpr, hl, fun df => runT_plain hm hpl ?_⟩
    have ep := pairs_eq (congrFun (congrFun (congrFun e call) n) K)
    have e0 := congrFun (congrFun (congrFun (congrFun (ep _ (List.mem_cons_self ..)) (fun _ _ _ => false)) 0) (pickA args)) h
    simp only [← hl, tabV_is] at e0
    rw [cond_true, e0] at s
    have hk : SKd (finL fn.res K) (finK fn.res K') := SKd.fin hK
    have sp : SPd call' n (S call n K) [] (toB A fn.body 0).1 (finK fn.res K') := sp_of hc _ [] (fun _ => finL fn.res K) _ (fun p h => ep p (List.mem_cons_of_mem _ h)) hk (QOK.fin hK)
    have := dn_main hc (toB A fn.body 0).1 [] (initR 0 args .lf) (initL 0 args []) h _ _ sp hk (QOK.fin hK) (Has.init Has.nil) s
    rwa [erase_toB] at this
end
end Go.Ab
