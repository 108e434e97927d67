import Derived.Test.YtbpmbofinoinmaaAvE1
namespace Go.Av

/-! The layer run as the kernel runs it best: small bodies, plain recursors, no order that must be looked at twice. -/

section
variable {α : Type}

noncomputable def lgetK (l : List α) : Nat → Option α :=
  List.rec (motive := fun _ => Nat → Option α) (fun _ => none) (fun a _ ih n => Nat.rec (motive := fun _ => Option α) (some a) (fun m _ => ih m) n) l

theorem lgetK_eq (l : List α) : ∀ n, lgetK l n = l[n]? := by
  induction l with
  | nil => intro n; rfl
  | cons a l ih =>
    intro n
    cases n with
    | zero => rfl
    | succ n => exact ih n

noncomputable def dropK (l : List α) : Nat → List α :=
  List.rec (motive := fun _ => Nat → List α) (fun _ => []) (fun a t ih n => Nat.rec (motive := fun _ => List α) (a :: t) (fun m _ => ih m) n) l

theorem dropK_eq (l : List α) : ∀ n, dropK l n = l.drop n := by
  induction l with
  | nil => intro n; cases n <;> rfl
  | cons a l ih =>
    intro n
    cases n with
    | zero => rfl
    | succ n => exact ih n

def consO (a : α) : Option (List α) → Option (List α)
  | some l => some (a :: l)
  | none => none

noncomputable def takeK (n : Nat) : List α → Option (List α) :=
  Nat.rec (motive := fun _ => List α → Option (List α)) (fun _ => some []) (fun _ ih l => List.rec (motive := fun _ => Option (List α)) none (fun a t _ => consO a (ih t)) l) n

theorem takeK_eq : ∀ (n : Nat) (l q : List α), takeK n l = some q → n ≤ l.length ∧ l.take n = q := by
  intro n
  induction n with
  | zero => intro l q h; injection h with h; subst h; exact ⟨Nat.zero_le _, rfl⟩
  | succ n ih =>
    intro l q h
    cases l with
    | nil => cases h
    | cons a t =>
      replace h : consO a (takeK n t) = some q := h
      cases e : takeK n t with
      | none => rw [e] at h; cases h
      | some q' =>
        rw [e] at h
        injection h with h
        subst h
        obtain ⟨h1, h2⟩ := ih t q' e
        exact ⟨by simp; omega, by simp [h2]⟩

noncomputable def setK (l : List α) : Nat → α → Option (List α) :=
  List.rec (motive := fun _ => Nat → α → Option (List α)) (fun _ _ => none) (fun a t ih n x => Nat.rec (motive := fun _ => Option (List α)) (some (x :: t)) (fun m _ => consO a (ih m x)) n) l

theorem setK_eq (l : List α) : ∀ n x q, setK l n x = some q → n < l.length ∧ l.set n x = q := by
  induction l with
  | nil => intro n x q h; cases h
  | cons a t ih =>
    intro n x q h
    cases n with
    | zero => injection h with h; subst h; exact ⟨by simp, rfl⟩
    | succ n =>
      replace h : consO a (setK t n x) = some q := h
      cases e : setK t n x with
      | none => rw [e] at h; cases h
      | some q' =>
        rw [e] at h
        injection h with h
        subst h
        obtain ⟨h1, h2⟩ := ih n x q' e
        exact ⟨by simp; omega, by simp [h2]⟩

noncomputable def replK (vs : List α) : List α → Option (List α) :=
  List.rec (motive := fun _ => List α → Option (List α)) (fun l => some l) (fun v _ ih l => List.rec (motive := fun _ => Option (List α)) none (fun _ t _ => consO v (ih t)) l) vs

theorem replK_eq (vs : List α) : ∀ l q, replK vs l = some q → vs.length ≤ l.length ∧ lsplice l 0 vs = q := by
  induction vs with
  | nil => intro l q h; injection h with h; subst h; exact ⟨Nat.zero_le _, lsplice_nil l 0⟩
  | cons v vs ih =>
    intro l q h
    cases l with
    | nil => cases h
    | cons a t =>
      replace h : consO v (replK vs t) = some q := h
      cases e : replK vs t with
      | none => rw [e] at h; cases h
      | some q' =>
        rw [e] at h
        injection h with h
        subst h
        obtain ⟨h1, h2⟩ := ih t q' e
        exact ⟨by simp; omega, by simp [lsplice, h2]⟩

noncomputable def spliceK (l : List α) (vs : List α) : Nat → Option (List α) :=
  List.rec (motive := fun _ => Nat → Option (List α)) (fun n => Nat.rec (motive := fun _ => Option (List α)) (replK vs []) (fun _ _ => none) n) (fun a t ih n => Nat.rec (motive := fun _ => Option (List α)) (replK vs (a :: t)) (fun m _ => consO a (ih m)) n) l

theorem spliceK_eq (l vs : List α) : ∀ n q, spliceK l vs n = some q → n + vs.length ≤ l.length ∧ lsplice l n vs = q := by
  induction l with
  | nil =>
    intro n q h
    cases n with
    | zero =>
      have := replK_eq vs [] q h
      exact ⟨by have := this.1; simp at this; simp [this], this.2⟩
    | succ n => cases h
  | cons a t ih =>
    intro n q h
    cases n with
    | zero => have := replK_eq vs (a :: t) q h; exact ⟨by omega, this.2⟩
    | succ n =>
      replace h : consO a (spliceK t vs n) = some q := h
      cases e : spliceK t vs n with
      | none => rw [e] at h; cases h
      | some q' =>
        rw [e] at h
        injection h with h
        subst h
        obtain ⟨h1, h2⟩ := ih n q' e
        exact ⟨by simp; omega, by cases vs <;> simp [lsplice, h2]⟩

end

noncomputable def hgetK (H : Heap) (g i : Nat) : Option Blk :=
  match lgetK H g with
  | some f => lgetK f i
  | none => none

theorem hgetK_eq (H : Heap) (g i : Nat) : hgetK H g i = hget H g i := by
  unfold hgetK hget
  rw [lgetK_eq]
  cases H[g]? with
  | none => rfl
  | some f => exact lgetK_eq f i

noncomputable def lenK {α : Type} (l : List α) : Nat := List.rec (motive := fun _ => Nat) 0 (fun _ _ ih => Nat.succ ih) l
theorem lenK_eq {α : Type} (l : List α) : lenK l = l.length := by
  induction l with
  | nil => rfl
  | cons a l ih => show Nat.succ (lenK l) = _; rw [ih]; rfl

noncomputable def setH (f : List Blk) (r : Heap) (i : Nat) (x : Blk) : Option Heap :=
  match setK f i x with
  | some f' => some (f' :: r)
  | none => none

noncomputable def consH (f : List Blk) : Option Heap → Option Heap
  | some r => some (f :: r)
  | none => none

/-- The block set, all of the way laid open. -/
noncomputable def hsetK (H : Heap) : Nat → Nat → Blk → Option Heap :=
  List.rec (motive := fun _ => Nat → Nat → Blk → Option Heap) (fun g i x => Nat.rec (motive := fun _ => Option Heap) (Nat.rec (motive := fun _ => Option Heap) (some [[x]]) (fun _ _ => none) i) (fun _ _ => none) g)
    (fun f r ih g i x => Nat.rec (motive := fun _ => Option Heap) (setH f r i x) (fun m _ => consH f (ih m i x)) g) H

theorem hsetK_eq (H : Heap) : ∀ g i x H', hsetK H g i x = some H' → hset H g i x = H' := by
  induction H with
  | nil =>
    intro g i x H' h
    cases g with
    | zero => cases i with
      | zero => injection h
      | succ i => cases h
    | succ g => cases h
  | cons f r ih =>
    intro g i x H' h
    cases g with
    | zero =>
      replace h : setH f r i x = some H' := h
      unfold setH at h
      split at h
      · rename_i f' e
        injection h with h
        subst h
        have := (setK_eq f i x f' e).2
        simp [hset, this]
      · cases h
    | succ g =>
      replace h : consH f (hsetK r g i x) = some H' := h
      cases e : hsetK r g i x with
      | none => rw [e] at h; cases h
      | some r' =>
        rw [e] at h
        injection h with h
        subst h
        simp [hset, ih g i x r' e]

inductive SR where
  | no
  | yes (v : AV) (H : Heap)

def SR.of : Option (AV × Heap) → SR
  | some (v, H) => .yes v H
  | none => .no

noncomputable def kSet (v : AV) (H : Heap) (g i : Nat) (x : Blk) : SR :=
  match hsetK H g i x with
  | some H' => .yes v H'
  | none => .no

def kFz (a : AV) (H : Heap) : SR :=
  match a with
  | .undef => .yes .undef H
  | .sc v => .yes (.sc v) H
  | .agg c => .yes (.agg c) H
  | .tup c => .yes (.tup c) H
  | .list s r => .yes (.list s r) H
  | .cptr c => .yes (.cptr c) H
  | .tmap e => .yes (.tmap e) H
  | .ptr g i r o => .yes (.ptr g i r o) H
  | .hsl g i s l => .yes (.hsl g i s l) H
  | .mref g i => .yes (.mref g i) H
  | .clo f a b => .yes (.clo f a b) H

def kPick (c a b : AV) (H : Heap) : SR :=
  match c with
  | .sc (.bool true) => kFz a H
  | .sc (.bool false) => kFz b H
  | _ => .no

/-- Small integers stay. -/
def wrapK (n : Int) : Int :=
  match n with
  | .ofNat m => match Nat.blt m 9223372036854775808 with
    | true => .ofNat m
    | false => IntKind.i64.wrap (.ofNat m)
  | .negSucc m => match Nat.blt m 9223372036854775808 with
    | true => .negSucc m
    | false => IntKind.i64.wrap (.negSucc m)

theorem wrapK_eq (n : Int) : wrapK n = IntKind.i64.wrap n := by
  cases n with
  | ofNat m =>
    simp only [wrapK]
    split
    · rename_i h
      have : m + 1 ≤ 9223372036854775808 := Nat.le_of_ble_eq_true h
      rw [wrap_small (by show _ ≤ (m : Int); omega) (by show (m : Int) ≤ _; omega)]
    · rfl
  | negSucc m =>
    simp only [wrapK]
    split
    · rename_i h
      have : m + 1 ≤ 9223372036854775808 := Nat.le_of_ble_eq_true h
      rw [wrap_small (by omega) (by omega)]
    · rfl

def ltK (a b : Int) : Bool :=
  match a with
  | .ofNat m => match b with
    | .ofNat n => Nat.blt m n
    | .negSucc _ => false
  | .negSucc m => match b with
    | .ofNat _ => true
    | .negSucc n => Nat.blt n m

theorem ltK_eq (a b : Int) : ltK a b = decide (a < b) := by
  cases a <;> cases b <;> simp only [ltK] <;> rw [Bool.eq_iff_iff] <;> simp [Nat.blt_eq] <;> omega

def eqK (a b : Int) : Bool :=
  match a with
  | .ofNat m => match b with
    | .ofNat n => Nat.beq m n
    | .negSucc _ => false
  | .negSucc m => match b with
    | .ofNat _ => false
    | .negSucc n => Nat.beq m n

theorem eqK_eq (a b : Int) : eqK a b = (a == b) := by
  cases a <;> cases b <;> simp only [eqK] <;> rw [Bool.eq_iff_iff] <;> simp [Nat.beq_eq]
  all_goals (try omega)

def kInt (n : Int) (H : Heap) : SR :=
  match n with
  | .ofNat m => .yes (.sc (.int .i64 (.ofNat m))) H
  | .negSucc m => .yes (.sc (.int .i64 (.negSucc m))) H

theorem kInt_eq (n : Int) (H : Heap) : kInt n H = .yes (.sc (.int .i64 n)) H := by cases n <;> rfl

def kBool (b : Bool) (H : Heap) : SR :=
  match b with
  | true => .yes (.sc (.bool true)) H
  | false => .yes (.sc (.bool false)) H

theorem kBool_eq (b : Bool) (H : Heap) : kBool b H = .yes (.sc (.bool b)) H := by cases b <;> rfl

/-- Plain arithmetic; .no: another way. -/
def kBin64 (op : BinOp) : Int → Int → Heap → SR :=
  match op with
  | .add => fun a b H => kInt (wrapK (a + b)) H
  | .sub => fun a b H => kInt (wrapK (a - b)) H
  | .mul => fun a b H => kInt (wrapK (a * b)) H
  | .eql => fun a b H => kBool (eqK a b) H
  | .neq => fun a b H => kBool (!(eqK a b)) H
  | .lss => fun a b H => kBool (ltK a b) H
  | .leq => fun a b H => kBool (!(ltK b a)) H
  | .gtr => fun a b H => kBool (ltK b a) H
  | .geq => fun a b H => kBool (!(ltK a b)) H
  | _ => fun _ _ _ => .no

def kBinGen (op : BinOp) (t : TypeId) (x y : Operand) (a b : Value) (H : Heap) : SR :=
  match Sem.pure? (do eqGuard op t x y a b; binOp op t a b) with
  | some v => .yes (.sc v) H
  | none => .no

def SR.or : SR → SR → SR
  | .no => fun s => s
  | .yes v H => fun _ => .yes v H

def kBinV (op : BinOp) (t : TypeId) (x y : Operand) (a b : Value) (H : Heap) : SR :=
  match a with
  | .int .i64 m => match b with
    | .int .i64 n => (kBin64 op m n H).or (kBinGen op t x y (.int .i64 m) (.int .i64 n) H)
    | b => kBinGen op t x y (.int .i64 m) b H
  | a => kBinGen op t x y a b H

def kBin (op : BinOp) (t : TypeId) (x y : Operand) (a b : AV) (H : Heap) : SR :=
  match a with
  | .sc u => match b with
    | .sc v => kBinV op t x y u v H
    | _ => .no
  | _ => .no

noncomputable def kLd (sz : Nat) (agg : Bool) (r : List AV) (off : Nat) (H : Heap) : SR :=
  match agg with
  | false => match lgetK r off with
    | some c => .yes c H
    | none => .no
  | true => match takeK sz (dropK r off) with
    | some cs => .yes (.agg cs) H
    | none => .no

noncomputable def kLoad (sz : Nat) (agg : Bool) (a : AV) (H : Heap) : SR :=
  match a with
  | .cptr cells => kLd sz agg cells 0 H
  | .ptr g i row off => match hgetK H g i with
    | some (.cells _ rows) => match lgetK rows row with
      | some r => kLd sz agg r off H
      | none => .no
    | _ => .no
  | _ => .no

noncomputable def kStoreAt (g i row s : Nat) (rows : List (List AV)) (H : Heap) : Option (List AV) → SR
  | some r' => match setK rows row r' with
    | some rows' => kSet .undef H g i (.cells s rows')
    | none => .no
  | none => .no

noncomputable def kStore (sz : Nat) (a x : AV) (H : Heap) : SR :=
  match a with
  | .ptr g i row off => match x.cs with
    | some cs => match hgetK H g i with
      | some (.cells s rows) => match lgetK rows row with
        | some r => match Nat.beq (lenK cs) sz with
          | true => match cs.all AV.cell1 with
            | true => kStoreAt g i row s rows H (spliceK r cs off)
            | false => .no
          | false => .no
        | none => .no
      | _ => .no
    | none => .no
  | _ => .no

noncomputable def kIdxSl (sz : Nat) (x ix : AV) (H : Heap) : SR :=
  match ix with
  | .sc (.int _ (.ofNat q)) => match x with
    | .list s rows => match Nat.beq s sz with
      | true => match lgetK rows q with
        | some r => .yes (.cptr r) H
        | none => .no
      | false => .no
    | .hsl g i start len => match hgetK H g i with
      | some (.cells s rows) => match Nat.beq s sz with
        | true => match Nat.blt q len with
          | true => match Nat.ble (Nat.add start len) (lenK rows) with
            | true => .yes (.ptr g i (Nat.add start q) 0) H
            | false => .no
          | false => .no
        | false => .no
      | _ => .no
    | _ => .no
  | _ => .no

noncomputable def kIdxArr (n sz : Nat) (x ix : AV) (H : Heap) : SR :=
  match ix with
  | .sc (.int _ (.ofNat q)) => match Nat.blt q n with
    | true => match x with
      | .cptr cells => .yes (.cptr (dropK cells (Nat.mul q sz))) H
      | .ptr g i row o => .yes (.ptr g i row (Nat.add o (Nat.mul q sz))) H
      | _ => .no
    | false => .no
  | _ => .no

noncomputable def kIdxVal (n sz : Nat) (agg : Bool) (x ix : AV) (H : Heap) : SR :=
  match ix with
  | .sc (.int _ (.ofNat q)) => match Nat.blt q n with
    | true => match x with
      | .agg cells => kLd sz agg cells (Nat.mul q sz) H
      | _ => .no
    | false => .no
  | _ => .no

noncomputable def kFieldAddr (off : Nat) (x : AV) (H : Heap) : SR :=
  match x with
  | .cptr cells => .yes (.cptr (dropK cells off)) H
  | .ptr g i row o => .yes (.ptr g i row (Nat.add o off)) H
  | _ => .no

noncomputable def kField (off sz : Nat) (agg : Bool) (x : AV) (H : Heap) : SR :=
  match x with
  | .agg cells => kLd sz agg cells off H
  | _ => .no

noncomputable def kLen (x : AV) (H : Heap) : SR :=
  match x with
  | .list _ rows => .yes (.sc (.int .i64 (.ofNat (lenK rows)))) H
  | .hsl _ _ _ len => .yes (.sc (.int .i64 (.ofNat len))) H
  | .sc (.slice none 0 0) => .yes (.sc (.int .i64 (.ofNat 0))) H
  | _ => .no

noncomputable def kExtract (x : AV) (i : Nat) (H : Heap) : SR :=
  match x with
  | .tup vs => match lgetK vs i with
    | some v => kFz v H
    | none => .no
  | _ => .no

noncomputable def kAlloc (z : List (Nat × Value)) (g i : Nat) (H : Heap) : SR :=
  kSet (.ptr g i 0 0) H g i (.cells (lenK (zrow z)) [zrow z])

noncomputable def kBox (a : AV) (g i : Nat) (H : Heap) : SR :=
  match a.cs with
  | some cs => match cs.all AV.cell1 with
    | true => kSet (.ptr g i 0 0) H g i (.cells (lenK cs) [cs])
    | false => .no
  | none => .no

def kNot (a : AV) (H : Heap) : SR :=
  match a with
  | .sc (.bool true) => .yes (.sc (.bool false)) H
  | .sc (.bool false) => .yes (.sc (.bool true)) H
  | _ => .no

def kUn (op : UnOp) (a : AV) (H : Heap) : SR :=
  match op with
  | .not => kNot a H
  | op => match a with
    | .sc v => match Sem.pure? (Op.unary op v) with
      | some u => .yes (.sc u) H
      | none => .no
    | _ => .no

/-- One operation. -/
noncomputable def dstepK (o : IOp) : (Operand → AV) → Nat → Nat → Heap → SR :=
  match o with
  | .move x => fun e _ _ H => kFz (e x) H
  | .pick c a b => fun e _ _ H => kPick (e c) (e a) (e b) H
  | .alloc z => fun _ g i H => kAlloc z g i H
  | .box x => fun e g i H => kBox (e x) g i H
  | .load sz agg a => fun e _ _ H => kLoad sz agg (e a) H
  | .store sz a x => fun e _ _ H => kStore sz (e a) (e x) H
  | .bin op t x y => fun e _ _ H => kBin op t x y (e x) (e y) H
  | .un op x => fun e _ _ H => kUn op (e x) H
  | .idxSl sz x ix => fun e _ _ H => kIdxSl sz (e x) (e ix) H
  | .idxArr n sz x ix => fun e _ _ H => kIdxArr n sz (e x) (e ix) H
  | .idxVal n sz agg x ix => fun e _ _ H => kIdxVal n sz agg (e x) (e ix) H
  | .fieldAddr off x => fun e _ _ H => kFieldAddr off (e x) H
  | .field off sz agg x => fun e _ _ H => kField off sz agg (e x) H
  | .len x => fun e _ _ H => kLen (e x) H
  | .extract x i => fun e _ _ H => kExtract (e x) i H
  | o => fun e g i H => SR.of (dstepE e g i o H)

theorem SR.of_yes {r : Option (AV × Heap)} {v : AV} {H : Heap} (h : SR.of r = .yes v H) : r = some (v, H) := by
  cases r with
  | none => cases h
  | some p => obtain ⟨a, b⟩ := p; injection h with h1 h2; subst h1; subst h2; rfl

theorem kFz_eq {a v : AV} {H H' : Heap} (h : kFz a H = .yes v H') : a = v ∧ H = H' := by
  cases a <;> injection h with h1 h2 <;> exact ⟨h1, h2⟩

theorem kSet_eq {v u : AV} {H H' : Heap} {g i : Nat} {x : Blk} (h : kSet v H g i x = .yes u H') : v = u ∧ hset H g i x = H' := by
  unfold kSet at h
  split at h
  · rename_i H1 e
    injection h with h1 h2
    subst h1; subst h2
    exact ⟨rfl, hsetK_eq _ _ _ _ _ e⟩
  · cases h

theorem kLd_eq {sz : Nat} {agg : Bool} {r : List AV} {off : Nat} {H H' : Heap} {v : AV} (h : kLd sz agg r off H = .yes v H') : ldAV sz agg (r.drop off) = some v ∧ H = H' := by
  unfold kLd at h
  split at h
  · split at h
    · rename_i c e
      injection h with h1 h2
      subst h1
      rw [lgetK_eq] at e
      obtain ⟨hl, he⟩ := List.getElem?_eq_some_iff.1 e
      refine ⟨?_, h2⟩
      rw [List.drop_eq_getElem_cons hl, he]
      rfl
    · cases h
  · split at h
    · rename_i cs e
      injection h with h1 h2
      subst h1
      rw [dropK_eq] at e
      obtain ⟨e1, e2⟩ := takeK_eq _ _ _ e
      have : Nat.ble sz (r.drop off).length = true := by simpa using e1
      refine ⟨?_, h2⟩
      simp only [ldAV, this, e2]
    · cases h

theorem kBin64_eq {op : BinOp} {t : TypeId} {x y : Operand} {a b : Int} {H H' : Heap} {v : AV} (h : kBin64 op a b H = .yes v H') :
    ∃ u, Sem.pure? (do eqGuard op t x y (.int .i64 a) (.int .i64 b); binOp op t (.int .i64 a) (.int .i64 b)) = some u ∧ v = .sc u ∧ H = H' := by
  cases op <;> simp only [kBin64, kInt_eq, kBool_eq, wrapK_eq, eqK_eq, ltK_eq] at h
  all_goals first
    | (cases h; done)
    | (injection h with h1 h2
       subst h1
       first
         | exact ⟨_, rfl, rfl, h2⟩
         | (refine ⟨.bool _, ?_, rfl, h2⟩
            simp only [eqGuard, binOp, Op.intCmp]
            first
              | rfl
              | (show some _ = some _; congr 2; rw [Bool.eq_iff_iff]; simp)))

theorem kBinGen_eq {op : BinOp} {t : TypeId} {x y : Operand} {a b : Value} {H H' : Heap} {v : AV} (h : kBinGen op t x y a b H = .yes v H') :
    ∃ u, Sem.pure? (do eqGuard op t x y a b; binOp op t a b) = some u ∧ v = .sc u ∧ H = H' := by
  unfold kBinGen at h
  split at h
  · rename_i u e
    injection h with h1 h2
    exact ⟨u, e, h1.symm, h2⟩
  · cases h

theorem SR.or_eq {a b : SR} {v : AV} {H : Heap} (h : a.or b = .yes v H) : a = .yes v H ∨ b = .yes v H := by
  cases a with
  | no => exact .inr h
  | yes u H' => exact .inl h

theorem kBinV_eq {op : BinOp} {t : TypeId} {x y : Operand} {a b : Value} {H H' : Heap} {v : AV} (h : kBinV op t x y a b H = .yes v H') :
    ∃ u, Sem.pure? (do eqGuard op t x y a b; binOp op t a b) = some u ∧ v = .sc u ∧ H = H' := by
  unfold kBinV at h
  split at h
  · split at h
    · rcases SR.or_eq h with h | h
      · exact kBin64_eq h
      · exact kBinGen_eq h
    · exact kBinGen_eq h
  · exact kBinGen_eq h

theorem dstepK_sound {o : IOp} {fr : Fr} {g i : Nat} {H H' : Heap} {v : AV} (h : dstepK o (ev fr) g i H = .yes v H') : dstep g i o fr H = some (v, H') := by
  cases o with
  | move x =>
    obtain ⟨h1, h2⟩ := kFz_eq h
    subst h1; subst h2
    simp only [dstep, fz_eq]
  | pick c a b =>
    simp only [dstepK, kPick] at h
    simp only [dstep]
    split at h
    · rename_i e
      obtain ⟨h1, h2⟩ := kFz_eq h
      subst h1; subst h2
      rw [e]
      simp only [fz_eq]
    · rename_i e
      obtain ⟨h1, h2⟩ := kFz_eq h
      subst h1; subst h2
      rw [e]
      simp only [fz_eq]
    · cases h
  | alloc z =>
    simp only [dstepK, kAlloc] at h
    obtain ⟨h1, h2⟩ := kSet_eq h
    subst h1; subst h2
    simp only [dstep, lenK_eq]
  | box x =>
    simp only [dstepK, kBox] at h
    simp only [dstep]
    split at h
    · rename_i cs e
      split at h
      · rename_i e2
        obtain ⟨h1, h2⟩ := kSet_eq h
        subst h1; subst h2
        simp only [e, e2, lenK_eq]
      · cases h
    · cases h
  | load sz agg a =>
    simp only [dstepK, kLoad] at h
    simp only [dstep]
    split at h
    · rename_i cells e
      obtain ⟨h1, h2⟩ := kLd_eq h
      subst h2
      rw [List.drop_zero] at h1
      simp only [e, h1]
    · rename_i g' i' row off e
      rw [hgetK_eq] at h
      split at h
      · rename_i s rows e2
        rw [lgetK_eq] at h
        split at h
        · rename_i r e3
          obtain ⟨h1, h2⟩ := kLd_eq h
          subst h2
          simp only [e, e2, e3, h1]
        · cases h
      · cases h
    · cases h
  | store sz a x =>
    simp only [dstepK, kStore] at h
    simp only [dstep]
    split at h
    · rename_i g' i' row off e
      split at h
      · rename_i cs e1
        rw [hgetK_eq] at h
        split at h
        · rename_i s rows e2
          rw [lgetK_eq] at h
          split at h
          · rename_i r e3
            rw [lenK_eq] at h
            split at h
            · rename_i e4
              split at h
              · rename_i e5
                unfold kStoreAt at h
                split at h
                · rename_i r' e6
                  split at h
                  · rename_i rows' e7
                    obtain ⟨h1, h2⟩ := kSet_eq h
                    subst h1; subst h2
                    obtain ⟨q1, q2⟩ := spliceK_eq _ _ _ _ e6
                    obtain ⟨q3, q4⟩ := setK_eq _ _ _ _ e7
                    have e8 : cs.length = sz := Nat.eq_of_beq_eq_true e4
                    have e9 : Nat.ble (off + sz) r.length = true := by rw [← e8]; simpa using q1
                    simp only [e, e1, e2, e3, e4, e5, e9, Bool.and_self, q2, q4]
                  · cases h
                · cases h
              · cases h
            · cases h
          · cases h
        · cases h
      · cases h
    · cases h
  | bin op t x y =>
    simp only [dstepK, kBin] at h
    simp only [dstep]
    split at h
    · rename_i u e1
      split at h
      · rename_i v' e2
        obtain ⟨r, h1, h2, h3⟩ := kBinV_eq h
        subst h2; subst h3
        simp only [e1, e2, h1]
      · cases h
    · cases h
  | un op x =>
    simp only [dstepK, kUn] at h
    simp only [dstep]
    split at h
    · unfold kNot at h
      split at h
      · rename_i e
        injection h with h1 h2
        subst h1; subst h2
        simp only [e]
        rfl
      · rename_i e
        injection h with h1 h2
        subst h1; subst h2
        simp only [e]
        rfl
      · cases h
    · split at h
      · rename_i e
        split at h
        · rename_i u e2
          injection h with h1 h2
          subst h1; subst h2
          simp only [e, e2]
        · cases h
      · cases h
  | idxSl sz x ix =>
    simp only [dstepK, kIdxSl] at h
    simp only [dstep]
    split at h
    · rename_i k q e
      split at h
      · rename_i s rows e1
        split at h
        · rename_i e2
          rw [lgetK_eq] at h
          split at h
          · rename_i r e3
            injection h with h1 h2
            subst h1; subst h2
            have : rowIx rows (Int.ofNat q) = some r := e3
            simp only [e, e1, e2, this]
          · cases h
        · cases h
      · rename_i g' i' start len e1
        rw [hgetK_eq] at h
        split at h
        · rename_i s rows e2
          split at h
          · rename_i e3
            split at h
            · rename_i e4
              rw [lenK_eq] at h
              split at h
              · rename_i e5
                injection h with h1 h2
                subst h1; subst h2
                have e5' : Nat.ble (start + len) rows.length = true := e5
                simp only [e, e1, e2, e3, e4, e5', Bool.and_self]
                rfl
              · cases h
            · cases h
          · cases h
        · cases h
      · cases h
    · cases h
  | idxArr n sz x ix =>
    simp only [dstepK, kIdxArr] at h
    simp only [dstep]
    split at h
    · rename_i k q e
      split at h
      · rename_i e1
        split at h
        · rename_i cells e2
          injection h with h1 h2
          subst h1; subst h2
          rw [dropK_eq]
          simp only [e, e1, e2]
          rfl
        · rename_i e2
          injection h with h1 h2
          subst h1; subst h2
          simp only [e, e1, e2]
          rfl
        · cases h
      · cases h
    · cases h
  | idxVal n sz agg x ix =>
    simp only [dstepK, kIdxVal] at h
    simp only [dstep]
    split at h
    · rename_i k q e
      split at h
      · rename_i e1
        split at h
        · rename_i cells e2
          obtain ⟨h1, h2⟩ := kLd_eq h
          subst h2
          have h1' : ldAV sz agg (List.drop (q * sz) cells) = some v := h1
          simp only [e, e1, e2, h1']
        · cases h
      · cases h
    · cases h
  | fieldAddr off x =>
    simp only [dstepK, kFieldAddr] at h
    simp only [dstep]
    split at h
    · rename_i cells e
      injection h with h1 h2
      subst h1; subst h2
      rw [dropK_eq]
      simp only [e]
    · rename_i e
      injection h with h1 h2
      subst h1; subst h2
      simp only [e]
      rfl
    · cases h
  | field off sz agg x =>
    simp only [dstepK, kField] at h
    simp only [dstep]
    split at h
    · rename_i cells e
      obtain ⟨h1, h2⟩ := kLd_eq h
      subst h2
      simp only [e, h1]
    · cases h
  | len x =>
    simp only [dstepK, kLen] at h
    simp only [dstep]
    split at h
    · rename_i e
      injection h with h1 h2
      subst h1; subst h2
      rw [lenK_eq]
      simp only [e]
      rfl
    · rename_i e
      injection h with h1 h2
      subst h1; subst h2
      simp only [e]
      rfl
    · rename_i e
      injection h with h1 h2
      subst h1; subst h2
      simp only [e]
      rfl
    · cases h
  | extract x ix =>
    simp only [dstepK, kExtract] at h
    simp only [dstep]
    split at h
    · rename_i vs e
      rw [lgetK_eq] at h
      split at h
      · rename_i u e1
        obtain ⟨h1, h2⟩ := kFz_eq h
        subst h1; subst h2
        simp only [e, e1]
      · cases h
    · cases h
  | _ =>
    rw [dstepE_eq]
    exact SR.of_yes h

end Go.Av
