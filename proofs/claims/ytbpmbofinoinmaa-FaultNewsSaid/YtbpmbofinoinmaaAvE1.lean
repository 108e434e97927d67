import Derived.Test.YtbpmbofinoinmaaAv25
namespace Go.Av

/-! The layer's code, run: what is reckoned holds of every run of the program. -/

/-- Frames as trees. -/
inductive FT where
  | leaf
  | node (v : AV) (l r : FT)

def FT.get : FT → Nat → AV
  | .leaf, _ => .undef
  | .node v l r, n => match n with
    | 0 => v
    | m + 1 => match Nat.beq (Nat.mod m 2) 0 with
      | true => l.get (Nat.div m 2)
      | false => r.get (Nat.div m 2)

def FT.put : FT → Nat → AV → Option FT
  | .leaf, _, _ => none
  | .node v l r, n, x => match n with
    | 0 => some (.node x l r)
    | m + 1 => match Nat.beq (Nat.mod m 2) 0 with
      | true => match l.put (Nat.div m 2) x with
        | some l' => some (.node v l' r)
        | none => none
      | false => match r.put (Nat.div m 2) x with
        | some r' => some (.node v l r')
        | none => none

def FT.full : Nat → FT
  | 0 => .leaf
  | d + 1 => .node .undef (FT.full d) (FT.full d)

theorem FT.get_put : ∀ (T T' : FT) (d : Nat) (v : AV), T.put d v = some T' → ∀ t, T'.get t = match Nat.beq d t with | true => v | false => T.get t := by
  intro T
  induction T with
  | leaf => intro T' d v h; cases h
  | node u l r ihl ihr =>
    intro T' d v h t
    cases d with
    | zero =>
      simp only [FT.put, Option.some.injEq] at h
      subst h
      cases t with
      | zero => rfl
      | succ t => rfl
    | succ m =>
      simp only [FT.put] at h
      split at h
      · rename_i e
        split at h
        · rename_i l' hl
          injection h with h
          subst h
          cases t with
          | zero => rfl
          | succ t =>
            have := ihl l' _ _ hl
            simp only [FT.get]
            split
            · rename_i e'
              rw [this]
              have e1 : m % 2 = 0 := Nat.eq_of_beq_eq_true e
              have e2 : t % 2 = 0 := Nat.eq_of_beq_eq_true e'
              have : Nat.beq (Nat.div m 2) (Nat.div t 2) = Nat.beq (m + 1) (t + 1) := by
                rw [Bool.eq_iff_iff]
                simp only [Nat.beq_eq]
                show m / 2 = t / 2 ↔ m + 1 = t + 1
                omega
              rw [this]
            · rename_i e'
              have e1 : m % 2 = 0 := Nat.eq_of_beq_eq_true e
              have e2 : ¬ t % 2 = 0 := fun h => by
                have : Nat.beq (Nat.mod t 2) 0 = true := by
                  show Nat.beq (t % 2) 0 = true
                  rw [h]; rfl
                rw [this] at e'; cases e'
              have : Nat.beq (m + 1) (t + 1) = false := by
                rw [Bool.eq_false_iff]
                simp only [ne_eq, Nat.beq_eq]
                omega
              rw [this]
        · cases h
      · rename_i e
        split at h
        · rename_i l' hl
          injection h with h
          subst h
          cases t with
          | zero => rfl
          | succ t =>
            have := ihr l' _ _ hl
            have e1 : ¬ m % 2 = 0 := fun h => by
              have : Nat.beq (Nat.mod m 2) 0 = true := by
                show Nat.beq (m % 2) 0 = true
                rw [h]; rfl
              rw [this] at e; cases e
            simp only [FT.get]
            split
            · rename_i e'
              have e2 : t % 2 = 0 := Nat.eq_of_beq_eq_true e'
              have : Nat.beq (m + 1) (t + 1) = false := by
                rw [Bool.eq_false_iff]
                simp only [ne_eq, Nat.beq_eq]
                omega
              rw [this]
            · rename_i e'
              rw [this]
              have e2 : ¬ t % 2 = 0 := fun h => by
                have : Nat.beq (Nat.mod t 2) 0 = true := by
                  show Nat.beq (t % 2) 0 = true
                  rw [h]; rfl
                rw [this] at e'; cases e'
              have : Nat.beq (Nat.div m 2) (Nat.div t 2) = Nat.beq (m + 1) (t + 1) := by
                rw [Bool.eq_iff_iff]
                simp only [Nat.beq_eq]
                show m / 2 = t / 2 ↔ m + 1 = t + 1
                omega
              rw [this]
        · cases h

def FT.putO (T : FT) (d : Option Nat) (v : AV) : Option FT :=
  match d with
  | some d => T.put d v
  | none => some T

/-- The frame and the tree say the same. -/
def AgT (fr : Fr) (T : FT) : Prop := ∀ t, fr.get t = T.get t

theorem AgT.put {fr : Fr} {T T' : FT} {d : Option Nat} {v : AV} (h : AgT fr T) (hp : T.putO d v = some T') : AgT (fr.put d v) T' := by
  cases d with
  | none => injection hp with hp; subst hp; exact h
  | some d =>
    intro t
    rw [FT.get_put _ _ _ _ hp t]
    show (match Nat.beq d t with | true => v | false => Fr.get fr t) = _
    rw [h t]

def FT.ev (T : FT) : Operand → AV
  | .tmp t => T.get t
  | .const v => .sc v
  | .global g => .sc (.pointer (some ⟨g, 0, none⟩))
  | .func f => .sc (.func (.func f) #[] #[])

theorem AgT.ev {fr : Fr} {T : FT} (h : AgT fr T) : Av.ev fr = T.ev := by
  funext x
  cases x with
  | tmp t => exact h t
  | _ => rfl

theorem AgT.avals {fr : Fr} {T : FT} (h : AgT fr T) (l : List Operand) : Av.avals fr l = l.map T.ev := by unfold Av.avals; rw [h.ev]

def sbndE (e : Operand → AV) (d : Nat) : Option Operand → Option Nat
  | none => some d
  | some x => match e x with
    | .sc (.int _ (.ofNat q)) => some q
    | _ => none

def sboundsE (e : Operand → AV) (d : Nat) (lo hi mx : Option Operand) : Option (Nat × Nat) :=
  match sbndE e 0 lo, sbndE e d hi, sbndE e d mx with
  | some l, some h, some m => match Nat.ble l h && (Nat.ble h m && Nat.ble m d) && (mx.isNone || hi.isSome) with
    | true => some (l, h)
    | false => none
  | _, _, _ => none

def dstepE (e : Operand → AV) (g i : Nat) (o : IOp) (H : Heap) : Option (AV × Heap) :=
  match o with
  | .move x => fz (e x) H
  | .pick c a b => match e c with
    | .sc (.bool true) => fz (e a) H
    | .sc (.bool false) => fz (e b) H
    | _ => none
  | .alloc z => some (.ptr g i 0 0, hset H g i (.cells (zrow z).length [zrow z]))
  | .box x => match (e x).cs with
    | some cs => match cs.all AV.cell1 with
      | true => some (.ptr g i 0 0, hset H g i (.cells cs.length [cs]))
      | false => none
    | none => none
  | .build z parts => match lay (zrow z) (parts.map fun p => (p.1, p.2.1, e p.2.2)) with
    | some cs => some (.agg cs, H)
    | none => none
  | .buildSlice sz z n parts => match layRows sz (List.replicate n (zrow z)) (parts.map fun p => (p.1, e p.2)) with
    | some rows => some (.hsl g i 0 n, hset H g i (.cells sz rows))
    | none => none
  | .load sz agg a => match e a with
    | .cptr cells => match ldAV sz agg cells with
      | some v => some (v, H)
      | none => none
    | .ptr g' i' row off => match hget H g' i' with
      | some (.cells _ rows) => match rows[row]? with
        | some r => match ldAV sz agg (r.drop off) with
          | some v => some (v, H)
          | none => none
        | none => none
      | _ => none
    | _ => none
  | .store sz a x => match e a with
    | .ptr g' i' row off => match (e x).cs with
      | some cs => match hget H g' i' with
        | some (.cells s rows) => match rows[row]? with
          | some r => match Nat.beq cs.length sz && (Nat.ble (off + sz) r.length && cs.all AV.cell1) with
            | true => some (.undef, hset H g' i' (.cells s (rows.set row (lsplice r off cs))))
            | false => none
          | none => none
        | _ => none
      | none => none
    | _ => none
  | .nilCheck x => match e x with
    | .ptr g' i' row off => some (.ptr g' i' row off, H)
    | .cptr cells => some (.cptr cells, H)
    | _ => none
  | .bin op t x y => match e x, e y with
    | .sc a, .sc b => match Sem.pure? (do eqGuard op t x y a b; binOp op t a b) with
      | some v => some (.sc v, H)
      | none => none
    | _, _ => none
  | .eqBool neg x y => match e x, e y with
    | .sc (.bool a), .sc (.bool b) => match neg with
      | true => some (.sc (.bool (!(a == b))), H)
      | false => some (.sc (.bool (a == b)), H)
    | _, _ => none
  | .eqNil neg x => match e x with
    | .ptr _ _ _ _ => some (.sc (.bool neg), H)
    | .cptr _ => some (.sc (.bool neg), H)
    | .sc (.pointer none) => some (.sc (.bool (!neg)), H)
    | _ => none
  | .eqNilM neg x => match e x with
    | .mref _ _ => some (.sc (.bool neg), H)
    | .tmap _ => some (.sc (.bool neg), H)
    | .sc (.map none) => some (.sc (.bool (!neg)), H)
    | _ => none
  | .eqNilS neg x => match e x with
    | .list _ (_ :: _) => some (.sc (.bool neg), H)
    | .hsl g' i' _ len => match len with
      | _ + 1 => some (.sc (.bool neg), H)
      | 0 => match hget H g' i' with
        | some (.cells _ (_ :: _)) => some (.sc (.bool neg), H)
        | _ => none
    | .sc (.slice none 0 0) => some (.sc (.bool (!neg)), H)
    | _ => none
  | .eqArr neg n x y => match e x, e y with
    | .agg xs, .agg ys => match bools xs, bools ys with
      | some a, some b => match Nat.beq a.length n && Nat.beq b.length n with
        | true => match neg with
          | true => some (.sc (.bool (!(a == b))), H)
          | false => some (.sc (.bool (a == b)), H)
        | false => none
      | _, _ => none
    | _, _ => none
  | .un op x => match e x with
    | .sc a => match Sem.pure? (Op.unary op a) with
      | some v => some (.sc v, H)
      | none => none
    | _ => none
  | .conv k x => match e x with
    | .sc (.int _ n) => some (.sc (.int k (k.wrap n)), H)
    | _ => none
  | .makeFunc fn first captured => match fzl (first.map e), fzl (captured.map e) with
    | some a, some b => some (.clo fn a b, H)
    | _, _ => none
  | .makeMap => some (.mref g i, hset H g i (.map []))
  | .makeSlice sz bytes z l => match e l with
    | .sc (.int .i64 (.ofNat n)) => match Nat.ble (bytes * n) 70368744177664 && Nat.ble n 1073741824 with
      | true => some (.hsl g i 0 n, hset H g i (.cells sz (List.replicate n (zrow z))))
      | false => none
    | _ => none
  | .slice sz x lo hi mx => match e x with
    | .list s rows => match Nat.beq s sz with
      | true => match sboundsE e rows.length lo hi mx with
        | some (l, h) => some (.list sz ((rows.drop l).take (h - l)), H)
        | none => none
      | false => none
    | .hsl g' i' start len => match hget H g' i' with
      | some (.cells s _) => match Nat.beq s sz with
        | true => match sboundsE e len lo hi mx with
          | some (l, h) => match Nat.beq l 0 with
            | true => some (.hsl g' i' start h, H)
            | false => match Nat.beq l h with
              | true => some (.list sz [], H)
              | false => some (.hsl g' i' (start + l) (h - l), H)
          | none => none
        | false => none
      | _ => none
    | .sc (.slice none 0 0) => match sboundsE e 0 lo hi mx with
      | some _ => some (.sc (.slice none 0 0), H)
      | none => none
    | _ => none
  | .fieldAddr off x => match e x with
    | .cptr cells => some (.cptr (cells.drop off), H)
    | .ptr g' i' row o => some (.ptr g' i' row (o + off), H)
    | _ => none
  | .field off sz agg x => match (e x) with
    | .agg cells => match ldAV sz agg (cells.drop off) with
      | some v => some (v, H)
      | none => none
    | _ => none
  | .idxSl sz x ix => match e ix with
    | .sc (.int _ n) => match e x with
      | .list s rows => match Nat.beq s sz, rowIx rows n with
        | true, some r => some (.cptr r, H)
        | _, _ => none
      | .hsl g' i' start len => match n with
        | .ofNat q => match hget H g' i' with
          | some (.cells s rows) => match Nat.beq s sz && (Nat.blt q len && Nat.ble (start + len) rows.length) with
            | true => some (.ptr g' i' (start + q) 0, H)
            | false => none
          | _ => none
        | .negSucc _ => none
      | _ => none
    | _ => none
  | .idxArr n sz x ix => match e ix with
    | .sc (.int _ (.ofNat q)) => match Nat.blt q n with
      | true => match e x with
        | .cptr cells => some (.cptr (cells.drop (q * sz)), H)
        | .ptr g' i' row o => some (.ptr g' i' row (o + q * sz), H)
        | _ => none
      | false => none
    | _ => none
  | .idxVal n sz agg x ix => match e ix with
    | .sc (.int _ (.ofNat q)) => match Nat.blt q n with
      | true => match e x with
        | .agg cells => match ldAV sz agg (cells.drop (q * sz)) with
          | some v => some (v, H)
          | none => none
        | _ => none
      | false => none
    | _ => none
  | .lookup z k x ix ok => match e ix with
    | .sc (.int k' n) => match decide (k = k') with
      | true => lres z ok H (mlook H k n (e x))
      | false => none
    | _ => none
  | .mapUpdate k m ix x => match e m, e ix with
    | .mref g' i', .sc (.int k' n) => match decide (k = k') with
      | true => match hget H g' i' with
        | some (.map es) => match mfind k n es with
          | some none => some (.undef, hset H g' i' (.map (es ++ [(.int k n, e x)])))
          | some (some _) => some (.undef, hset H g' i' (.map (mput n (e x) es)))
          | none => none
        | _ => none
      | false => none
    | _, _ => none
  | .extract x ix => match e x with
    | .tup vs => match vs[ix]? with
      | some v => some (v, H)
      | none => none
    | _ => none
  | .len x => match e x with
    | .list _ rows => some (.sc (.int .i64 rows.length), H)
    | .hsl _ _ _ len => some (.sc (.int .i64 len), H)
    | .sc (.slice none 0 0) => some (.sc (.int .i64 (0 : Nat)), H)
    | _ => none
  | .lenM x => match e x with
    | .tmap es => some (.sc (.int .i64 es.length), H)
    | .mref g' i' => match hget H g' i' with
      | some (.map es) => some (.sc (.int .i64 es.length), H)
      | _ => none
    | .sc (.map none) => some (.sc (.int .i64 (0 : Nat)), H)
    | _ => none
  | .append sz bytes s x => match rowsX sz H (e x) with
    | some (s2, rows2) => match Nat.beq s2 sz with
      | true => match e s with
        | .hsl g' i' 0 len => match hget H g' i' with
          | some (.cells s1 rows1) => match Nat.beq s1 sz && (Nat.beq rows1.length len && Nat.ble ((len + rows2.length) * (bytes + 1)) 70368744177664) with
            | true => match Nat.beq g g' && Nat.beq i i' with
              | true => none
              | false => some (.hsl g i 0 (len + rows2.length), hset (hset H g' i' .dead) g i (.cells sz (rows1 ++ rows2)))
            | false => none
          | _ => none
        | .sc (.slice none 0 0) => match Nat.ble (rows2.length * (bytes + 1)) 70368744177664 with
          | true => some (.hsl g i 0 rows2.length, hset H g i (.cells sz rows2))
          | false => none
        | _ => none
      | false => none
    | none => none
  | .max args => match scs (args.map e) with
    | some vs => match Sem.pure? (Builtin.max_ #[] 0 vs.toArray) with
      | some v => some (.sc v, H)
      | none => none
    | none => none
  | .min args => match scs (args.map e) with
    | some vs => match Sem.pure? (Builtin.min_ #[] 0 vs.toArray) with
      | some v => some (.sc v, H)
      | none => none
    | none => none



theorem sbounds_eq (fr : Fr) (d : Nat) (lo hi mx : Option Operand) : sbounds fr d lo hi mx = sboundsE (ev fr) d lo hi mx := by
  cases lo <;> cases hi <;> cases mx <;> rfl

theorem dstepE_eq (g i : Nat) (o : IOp) (fr : Fr) (H : Heap) : dstep g i o fr H = dstepE (ev fr) g i o H := by
  cases o <;> first | rfl | (simp only [dstep, dstepE, sbounds_eq]; rfl)

def gokE (T : FT) : Option (Nat × Bool) → Option Bool
  | none => some true
  | some (t, b) => match T.get t with
    | .sc (.bool c) => match b with
      | true => some c
      | false => some (!c)
    | .sc (.tuple _) => some false
    | _ => none

theorem gokE_eq {fr : Fr} {T : FT} (h : AgT fr T) (g : Option (Nat × Bool)) : gok fr g = gokE T g := by
  cases g with
  | none => rfl
  | some p =>
    obtain ⟨t, b⟩ := p
    simp only [gok, gokE, h t]
    rfl

def drdE (e : Operand → AV) : IOp → List (Nat × Nat)
  | .load _ _ a => refs (e a)
  | .store _ a _ => refs (e a)
  | .idxSl _ x _ => refs (e x)
  | .slice _ x _ _ _ => refs (e x)
  | .lenM x => refs (e x)
  | .eqNilS _ x => refs (e x)
  | .lookup _ _ x _ _ => refs (e x)
  | .mapUpdate _ m _ _ => refs (e m)
  | .append _ _ s x => refs (e s) ++ refs (e x)
  | _ => []

def dwrE (e : Operand → AV) (g i : Nat) : IOp → List (Nat × Nat)
  | .alloc _ => [(g, i)]
  | .box _ => [(g, i)]
  | .buildSlice _ _ _ _ => [(g, i)]
  | .makeMap => [(g, i)]
  | .makeSlice _ _ _ _ => [(g, i)]
  | .store _ a _ => refs (e a)
  | .mapUpdate _ m _ _ => refs (e m)
  | .append _ _ s _ => (g, i) :: refs (e s)
  | _ => []

theorem drdE_eq (fr : Fr) (o : IOp) : drd fr o = drdE (ev fr) o := by cases o <;> rfl
theorem dwrE_eq (fr : Fr) (g i : Nat) (o : IOp) : dwr g i fr o = dwrE (ev fr) g i o := by cases o <;> rfl

abbrev Caller := FuncId → List AV → Heap → Option (AV × Heap)

mutual
/-- A value that holds no number of a block from the family k on. -/
def lowV (k : Nat) : AV → Bool
  | .undef => true
  | .sc _ => true
  | .agg c => lowL k c
  | .tup c => lowL k c
  | .list _ r => lowR k r
  | .cptr c => lowL k c
  | .tmap e => lowM k e
  | .ptr g _ _ _ => Nat.blt g k
  | .hsl g _ _ _ => Nat.blt g k
  | .mref g _ => Nat.blt g k
  | .clo _ a b => lowL k a && lowL k b
def lowL (k : Nat) : List AV → Bool
  | [] => true
  | a :: l => lowV k a && lowL k l
def lowR (k : Nat) : List (List AV) → Bool
  | [] => true
  | a :: l => lowL k a && lowR k l
def lowM (k : Nat) : List (Value × AV) → Bool
  | [] => true
  | (_, a) :: l => lowV k a && lowM k l
end

def lowB' (k : Nat) : Blk → Bool
  | .dead => true
  | .cells _ rows => lowR k rows
  | .map es => lowM k es

def lowF (k : Nat) : List Blk → Bool
  | [] => true
  | x :: l => lowB' k x && lowF k l

/-- The first n families. -/
def lowH (k : Nat) : Nat → Heap → Bool
  | 0, _ => true
  | _ + 1, [] => true
  | n + 1, f :: r => lowF k f && lowH k n r

mutual
/-- A result whose blocks are its own, frozen. -/
def fzV (H : Heap) : AV → Option AV
  | .hsl g i s l => match hget H g i with
    | some (.cells sz rows) => match Nat.ble (s + l) rows.length with
      | true => some (.list sz ((rows.drop s).take l))
      | false => none
    | _ => none
  | .ptr g i row 0 => match hget H g i with
    | some (.cells _ rows) => match rows[row]? with
      | some r => some (.cptr r)
      | none => none
    | _ => none
  | .mref g i => match hget H g i with
    | some (.map es) => some (.tmap es)
    | _ => none
  | .tup vs => match fzVs H vs with
    | some us => some (.tup us)
    | none => none
  | .agg vs => match fzVs H vs with
    | some us => some (.agg us)
    | none => none
  | a => some a
def fzVs (H : Heap) : List AV → Option (List AV)
  | [] => some []
  | a :: l => match fzV H a, fzVs H l with
    | some b, some q => some (b :: q)
    | _, _ => none
end

/-- A region's operations. -/
inductive RR where
  | stuck
  | out (T : FT) (H : Heap)

def regE (call : Caller) (k : Nat) : List IOper → FT → Heap → RR
  | [], T, H => .out T H
  | ⟨d, gd, a⟩ :: xs, T, H => match gokE T gd with
    | some true => match a with
      | .op o => match dstepE T.ev H.length 0 o H with
        | some (v, H') => match T.putO d v with
          | some T' => regE call k xs T' H'
          | none => .stuck
        | none => .stuck
      | .call f args => match Nat.ble k H.length with
        | true => match call f (args.map T.ev) H with
          | some (v, H') => match T.putO d v with
            | some T' => regE call k xs T' H'
            | none => .stuck
          | none => .stuck
        | false => .stuck
      | .callV f args => match Nat.ble k H.length with
        | true => match T.ev f with
          | .clo (.func g) fs cs => match call g (fs ++ args.map T.ev ++ cs) H with
            | some (v, H') => match T.putO d v with
              | some T' => regE call k xs T' H'
              | none => .stuck
            | none => .stuck
          | _ => .stuck
        | false => .stuck
    | some false => match T.putO d (.sc Go.undef) with
      | some T' => regE call k xs T' H
      | none => .stuck
    | none => .stuck

/-- .. whose order is open. -/
inductive DR where
  | stuck
  | out (R : List RRec) (T : FT) (H : Heap)

def DR.cons (r : RRec) : DR → DR
  | .stuck => .stuck
  | .out R T H => .out (r :: R) T H

def drawE (call : Caller) (base : Nat) : Nat → List IOper → FT → Heap → DR
  | _, [], T, H => .out [] T H
  | j, ⟨d, gd, a⟩ :: xs, T, H => match gokE T gd with
    | some true => match a with
      | .op o => match dstepE T.ev base j o H with
        | some (v, H') => match T.putO d v with
          | some T' => (drawE call base (j + 1) xs T' H').cons ⟨⟨d, gd, a⟩, (base, j), v, drdE T.ev o, dwrE T.ev base j o⟩
          | none => .stuck
        | none => .stuck
      | .call f args => match lowL 0 (args.map T.ev) with
        | true => match call f (args.map T.ev) [] with
          | some (v0, H0) => match fzV H0 v0 with
            | some v => match lowV 0 v with
              | true => match T.putO d v with
                | some T' => (drawE call base (j + 1) xs T' H).cons ⟨⟨d, gd, a⟩, (base, j), v, [], []⟩
                | none => .stuck
              | false => .stuck
            | none => .stuck
          | none => .stuck
        | false => .stuck
      | .callV _ _ => .stuck
    | some false => match T.putO d (.sc Go.undef) with
      | some T' => (drawE call base (j + 1) xs T' H).cons ⟨⟨d, gd, a⟩, (base, j), .sc Go.undef, [], []⟩
      | none => .stuck
    | none => .stuck

inductive XR where
  | stuck
  | out (e : Exit) (T : FT) (H : Heap)

def XR.block (id : Nat) : XR → XR
  | .out (.exit id') T H => match Nat.beq id' id with
    | true => .out .normal T H
    | false => .out (.exit id') T H
  | r => r

def iterE (f : FT → Heap → XR) : Nat → FT → Heap → XR
  | 0, _, _ => .stuck
  | n + 1, T, H => match f T H with
    | .out .normal T' H' => iterE f n T' H'
    | r => r

def RR.x : RR → XR
  | .stuck => .stuck
  | .out T H => .out .normal T H

/-- Is the last operation a call with effects? -/
def lastCall (xs : List IOper) : Bool := match splitLast xs with
  | some (_, ⟨_, _, .callV _ _⟩) => true
  | some (_, ⟨_, _, .call _ _⟩) => true
  | _ => false

def splitCallE : List IOper → Option (List IOper × IOper × List IOper)
  | [] => none
  | x :: l => match x.act with
    | .op _ => match splitCallE l with
      | some (a, y, b) => some (x :: a, y, b)
      | none => none
    | _ => some ([], x, l)

def execE (call : Caller) (k fuel : Nat) : ICode → FT → Heap → XR
  | .skip, T, H => .out .normal T H
  | .region xs, T, H => (regE call k xs T H).x
  | .draw xs af, T, H => match drawE call H.length 0 xs T (H ++ [List.replicate xs.length .dead]) with
    | .out R T' H' => match chk af R with
      | true => .out .normal T' H'
      | false => .stuck
    | .stuck => match splitCallE xs with
      | some (ys, y, zs) => match drawE call H.length 0 ys T (H ++ [List.replicate ys.length .dead]) with
        | .out R T' H' => match chk (af.take ys.length) R with
          | true => match regE call k [y] T' H' with
            | .out T2 H2 => match drawE call H2.length 0 zs T2 (H2 ++ [List.replicate zs.length .dead]) with
              | .out _ T3 H3 => .out .normal T3 H3
              | .stuck => .stuck
            | .stuck => .stuck
          | false => .stuck
        | .stuck => .stuck
      | none => .stuck
  | .seq a b, T, H => match execE call k fuel a T H with
    | .out .normal T' H' => execE call k fuel b T' H'
    | r => r
  | .cond c a b, T, H => match T.ev c with
    | .sc (.bool true) => execE call k fuel a T H
    | .sc (.bool false) => execE call k fuel b T H
    | _ => .stuck
  | .block id b, T, H => (execE call k fuel b T H).block id
  | .loop b, T, H => iterE (execE call k fuel b) fuel T H
  | .exit id, T, H => .out (.exit id) T H
  | .ret, T, H => .out .ret T H
  | .bad, _, _ => .stuck

def resOneE (T : FT) (H : Heap) : IRes → Option AV
  | .tmp t => match fz (T.get t) [] with
    | some (v, _) => some v
    | none => none
  | .cell a sz agg => match T.get a with
    | .ptr g i row off => match hget H g i with
      | some (.cells _ rows) => match rows[row]? with
        | some r => ldAV sz agg (r.drop off)
        | none => none
      | _ => none
    | _ => none

def resAllE (T : FT) (H : Heap) : List IRes → Option (List AV)
  | [] => some []
  | r :: l => match resOneE T H r, resAllE T H l with
    | some x, some xs => some (x :: xs)
    | _, _ => none

def resOfE (T : FT) (H : Heap) (rs : List IRes) : Option AV :=
  match resAllE T H rs with
  | some [x] => some x
  | some xs => some (.tup xs)
  | none => none

theorem resOfE_eq {fr : Fr} {T : FT} (h : AgT fr T) (H : Heap) (rs : List IRes) : resOf fr H rs = resOfE T H rs := by
  have h1 : ∀ r, resOne fr H r = resOneE T H r := fun r => by
    cases r with
    | tmp t => simp only [resOne, resOneE, h t]; rfl
    | cell a sz agg => simp only [resOne, resOneE, h a]; rfl
  have h2 : ∀ rs, resAll fr H rs = resAllE T H rs := fun rs => by
    induction rs with
    | nil => rfl
    | cons r rs ih => simp only [resAll, resAllE, h1, ih]; rfl
  simp only [resOf, resOfE, h2]
  rfl

def argsT : Nat → List AV → FT → Option FT
  | _, [], T => some T
  | i, a :: r, T => match T.put i a with
    | some T' => argsT (i + 1) r T'
    | none => none

/-- The end of a call: the callee's own blocks are forgotten, where nothing speaks of them. -/
def endE (k : Nat) (res : AV) (H : Heap) : AV × Heap :=
  match lowV k res && lowH k k H with
  | true => (res, H.take k)
  | false => (res, H)

def tabL : List (Nat × IFun) → FuncId → Option IFun
  | [], _ => none
  | (n, F) :: l, f => match Nat.beq n f with
    | true => some F
    | false => tabL l f

def runE (sum : Caller) (tab : FuncId → Option IFun) (fuel : Nat) : Nat → Caller
  | 0, _, _, _ => none
  | d + 1, f, args, H => match sum f args H with
    | some r => some r
    | none => match tab f with
      | none => none
      | some F => match Nat.ble args.length F.n with
        | true => match argsT 0 args (FT.full 12) with
          | some T => match execE (runE sum tab fuel d) H.length fuel F.code T H with
            | .out .normal T' H' => match resOfE T' H' F.res with
              | some res => some (endE H.length res H')
              | none => none
            | .out .ret T' H' => match resOfE T' H' F.res with
              | some res => some (endE H.length res H')
              | none => none
            | _ => none
          | none => none
        | false => none

end Go.Av
