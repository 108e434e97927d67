import Derived.Test.YtbpmbofinoinmaaAv3
import Derived.MapKept
import Derived.Laws.MakeOwn
import Derived.Laws.AppendOwn
import Derived.Laws.Entries
namespace Go.Av

/-! Operations with all that the program's tables say of their types written out. -/

inductive IOp where
  | move (x : Operand)
  | pick (c a b : Operand)
  | alloc (z : List (Nat × Value))
  | box (x : Operand)
  | build (z : List (Nat × Value)) (parts : List (Nat × Nat × Operand))
  | buildSlice (sz : Nat) (z : List (Nat × Value)) (n : Nat) (parts : List (Nat × Operand))
  | load (sz : Nat) (agg : Bool) (a : Operand)
  | store (sz : Nat) (a x : Operand)
  | nilCheck (x : Operand)
  | bin (op : BinOp) (t : TypeId) (x y : Operand)
  | eqBool (neg : Bool) (x y : Operand)
  | eqNil (neg : Bool) (x : Operand)
  | eqNilM (neg : Bool) (x : Operand)
  | eqNilS (neg : Bool) (x : Operand)
  | eqArr (neg : Bool) (n : Nat) (x y : Operand)
  | un (op : UnOp) (x : Operand)
  | conv (k : IntKind) (x : Operand)
  | makeFunc (fn : Fn) (first captured : List Operand)
  | makeMap
  | makeSlice (sz bytes : Nat) (z : List (Nat × Value)) (l : Operand)
  | slice (sz : Nat) (x : Operand) (lo hi mx : Option Operand)
  | fieldAddr (off : Nat) (x : Operand)
  | field (off sz : Nat) (agg : Bool) (x : Operand)
  | idxSl (sz : Nat) (x i : Operand)
  | idxArr (n sz : Nat) (x i : Operand)
  | idxVal (n sz : Nat) (agg : Bool) (x i : Operand)
  | lookup (z : AV) (k : IntKind) (x i : Operand) (ok : Bool)
  | mapUpdate (k : IntKind) (m i x : Operand)
  | extract (x : Operand) (i : Nat)
  | len (x : Operand)
  | lenM (x : Operand)
  | append (sz bytes : Nat) (s x : Operand)
  | max (args : List Operand)
  | min (args : List Operand)

def zrow (z : List (Nat × Value)) : List AV := z.flatMap fun p => List.replicate p.1 (.sc p.2)
def unrle (z : List (Nat × Value)) : List Value := z.flatMap fun p => List.replicate p.1 p.2

def veq : Value → Value → Bool
  | .bool a, .bool b => a == b
  | .int k a, .int k' b => decide (k = k') && decide (a = b)
  | .pointer none, .pointer none => true
  | .slice none a b, .slice none c d => a == c && b == d
  | .map none, .map none => true
  | .nilFunc, .nilFunc => true
  | .nilIface, .nilIface => true
  | _, _ => false

theorem veq_eq {a b : Value} (h : veq a b = true) : a = b := by
  unfold veq at h
  split at h <;> simp_all

def rle : List Value → List (Nat × Value)
  | [] => []
  | v :: r => match rle r with
    | (n, u) :: q => match veq v u with
      | true => (n + 1, u) :: q
      | false => (1, v) :: (n, u) :: q
    | [] => [(1, v)]

theorem unrle_rle (l : List Value) : unrle (rle l) = l := by
  induction l with
  | nil => rfl
  | cons v r ih =>
    unfold rle
    generalize hr : rle r = q at ih
    cases q with
    | nil =>
      simp [unrle] at ih
      simp [unrle, ih]
    | cons p q =>
      obtain ⟨n, u⟩ := p
      simp only
      split
      · rename_i e
        have := veq_eq e
        subst this
        rw [← ih]
        simp [unrle, List.replicate_succ]
      · rw [← ih]
        simp [unrle]

theorem zrow_eq (z : List (Nat × Value)) : zrow z = (unrle z).map .sc := by
  induction z with
  | nil => rfl
  | cons p z ih => simp only [zrow, unrle, List.flatMap_cons, List.map_append, List.map_replicate] at *; rw [ih]

def ev (fr : Fr) : Operand → AV
  | .tmp t => fr.get t
  | .const v => .sc v
  | .global g => .sc (.pointer (some ⟨g, 0, none⟩))
  | .func f => .sc (.func (.func f) #[] #[])

theorem ev_rep {N M J fr tmps ds} (h : FRep N M J fr tmps) (x : Operand) : Rep M J (ev fr x) (Act.eval ⟨tmps, ds⟩ x) := by
  cases x with
  | tmp t => exact h.2 t
  | const v => exact .sc v
  | global g => exact .sc _
  | func f => exact .sc _

/-- The cells of a value. -/
def AV.cs : AV → Option (List AV)
  | .undef => none
  | .tup _ => none
  | .agg cs => some cs
  | .sc (.agg cs) => some (cs.toList.map .sc)
  | .sc (.tuple _) => none
  | x => some [x]

theorem Rep.cs {M J a v l} (h : Rep M J a v) (hc : a.cs = some l) : l.length = v.cells.size ∧ ∀ (j : Nat) c x, l[j]? = some c → v.cells[j]? = some x → Rep M J c x := by
  have one : ∀ {a : AV} {v : Value}, Rep M J a v → v.cells = #[v] → some [a] = some l → l.length = v.cells.size ∧ ∀ (j : Nat) c x, l[j]? = some c → v.cells[j]? = some x → Rep M J c x := by
    intro a v h hv hl
    injection hl with hl
    subst hl
    rw [hv]
    refine ⟨rfl, fun j c x h1 h2 => ?_⟩
    cases j with
    | zero => simp at h1 h2; subst h1; subst h2; exact h
    | succ j => simp at h1
  cases h with
  | undef => cases hc
  | sc v =>
    cases v with
    | agg cs =>
      simp only [AV.cs] at hc
      injection hc with hc
      subst hc
      refine ⟨by simp [Value.cells], fun j c x h1 h2 => ?_⟩
      simp only [Value.cells] at h2
      rw [List.getElem?_map, Array.getElem?_toList, h2] at h1
      simp at h1
      subst h1
      exact .sc x
    | tuple => cases hc
    | _ => exact one (.sc _) rfl hc
  | agg cells cvs hl h =>
    injection hc with hc
    subst hc
    exact ⟨hl, h⟩
  | tup => cases hc
  | nilList => exact one (.nilList ..) rfl hc
  | list sz rows β off cap n cs e fr hn hM hsz hle ho h => exact one (.list sz rows β off cap n cs e fr hn hM hsz hle ho h) rfl hc
  | cptr cells β off cs e fr hM hle h => exact one (.cptr cells β off cs e fr hM hle h) rfl hc
  | tmap es β clock ces hM hl hk h => exact one (.tmap es β clock ces hM hl hk h) rfl hc
  | ptr g i row off β l hJ hb => exact one (.ptr g i row off β l hJ hb) rfl hc
  | hsl g i start len cap β l hJ hb hc' hlc => exact one (.hsl g i start len cap β l hJ hb hc' hlc) rfl hc
  | hslNil g i l hJ hb => exact one (.hslNil g i l hJ hb) rfl hc
  | mref g i β l hJ hb => exact one (.mref g i β l hJ hb) rfl hc
  | clo fn fs cs cfs ccs hf hc' h1 h2 => exact one (.clo fn fs cs cfs ccs hf hc' h1 h2) rfl hc

def AV.cell1 : AV → Bool
  | .undef => false
  | .agg _ => false
  | .tup _ => false
  | .sc v => v.oneCell'
  | _ => true

theorem Rep.cell1 {M J a v} (h : Rep M J a v) (hc : a.cell1 = true) : v.oneCell' = true := by
  cases h <;> first | rfl | exact hc | cases hc

/-- A variable of sz cells, read off cells. -/
def ldAV (sz : Nat) (agg : Bool) (cells : List AV) : Option AV :=
  match agg with
  | true => match Nat.ble sz cells.length with
    | true => some (.agg (cells.take sz))
    | false => none
  | false => match cells with
    | c :: _ => some c
    | [] => none

def rowIx (rows : List (List AV)) : Int → Option (List AV)
  | .ofNat k => rows[k]?
  | .negSucc _ => none

theorem rowIx_some {rows : List (List AV)} {i : Int} {r : List AV} (h : rowIx rows i = some r) : 0 ≤ i ∧ i < rows.length ∧ rows[i.toNat]? = some r := by
  cases i with
  | ofNat k =>
    have := (List.getElem?_eq_some_iff.1 (show rows[k]? = some r from h)).1
    exact ⟨Int.natCast_nonneg _, by simpa using this, h⟩
  | negSucc k => cases h

theorem rowIx_nat (rows : List (List AV)) (k : Nat) : rowIx rows (k : Int) = rows[k]? := rfl

/-- The rows of a slice. -/
def rowsOf (H : Heap) : AV → Option (Nat × List (List AV))
  | .list sz rows => some (sz, rows)
  | .hsl g i start len => match hget H g i with
    | some (.cells sz rows) => match Nat.ble (start + len) rows.length with
      | true => some (sz, (rows.drop start).take len)
      | false => none
    | _ => none
  | _ => none

def avals (fr : Fr) (xs : List Operand) : List AV := xs.map (ev fr)

def allCs : List AV → Option (List (List AV))
  | [] => some []
  | a :: r => match a.cs, allCs r with
    | some c, some q => some (c :: q)
    | _, _ => none

/-- Parts laid into a row of cells. -/
def lay (cells : List AV) : List (Nat × Nat × AV) → Option (List AV)
  | [] => some cells
  | (off, sz, v) :: r => match v.cs with
    | some c => match Nat.beq c.length sz && Nat.ble (off + sz) cells.length with
      | true => lay (lsplice cells off c) r
      | false => none
    | none => none

def layRows (sz : Nat) (rows : List (List AV)) : List (Nat × AV) → Option (List (List AV))
  | [] => some rows
  | (i, v) :: r => match v.cs with
    | some c => match Nat.beq c.length sz && (Nat.blt i rows.length && c.all AV.cell1) with
      | true => layRows sz (rows.set i c) r
      | false => none
    | none => none

def Sem.pure? {α : Type} : Sem α → Option α
  | .pure a => some a
  | _ => none

theorem Sem.pure?_run {α : Type} {s : Sem α} {a : α} (h : Sem.pure? s = some a) (P : Program) (w : World) : s.run P w = .ok a w := by
  cases s <;> simp [Sem.pure?] at h
  subst h; rfl

def scs : List AV → Option (List Value)
  | [] => some []
  | .sc v :: r => match scs r with
    | some q => some (v :: q)
    | none => none
  | _ :: _ => none

/-- What a map (its entries in the order of their making) has at an integer key. -/
def mfind (k : IntKind) (i : Int) : List (Value × AV) → Option (Option AV)
  | [] => some none
  | (.int k' j, x) :: r => match decide (k = k') with
    | true => match decide (i = j) with
      | true => some (some x)
      | false => mfind k i r
    | false => none
  | _ :: _ => none

def mput (i : Int) (x : AV) : List (Value × AV) → List (Value × AV)
  | [] => []
  | (.int k' j, y) :: r => match decide (i = j) with
    | true => (.int k' j, x) :: r
    | false => (.int k' j, y) :: mput i x r
  | p :: r => p :: mput i x r

/-- The same, its head laid open. -/
def fz (a : AV) (H : Heap) : Option (AV × Heap) :=
  match a with
  | .undef => some (.undef, H)
  | .sc v => some (.sc v, H)
  | .agg c => some (.agg c, H)
  | .tup c => some (.tup c, H)
  | .list s r => some (.list s r, H)
  | .cptr c => some (.cptr c, H)
  | .tmap e => some (.tmap e, H)
  | .ptr g i r o => some (.ptr g i r o, H)
  | .hsl g i s l => some (.hsl g i s l, H)
  | .mref g i => some (.mref g i, H)
  | .clo f a b => some (.clo f a b, H)

theorem fz_eq (a : AV) (H : Heap) : fz a H = some (a, H) := by cases a <;> rfl

def fzl : List AV → Option (List AV)
  | [] => some []
  | a :: r => match fz a [], fzl r with
    | some (b, _), some q => some (b :: q)
    | _, _ => none

theorem fzl_eq (l : List AV) : fzl l = some l := by
  induction l with
  | nil => rfl
  | cons a r ih => simp [fzl, fz_eq, ih]

/-- What a map value has at a key. -/
def mlook (H : Heap) (k : IntKind) (n : Int) : AV → Option (Option AV)
  | .tmap es => mfind k n es
  | .mref g i => match hget H g i with
    | some (.map es) => mfind k n es
    | _ => none
  | .sc (.map none) => some none
  | _ => none

def lres (z : AV) (ok : Bool) (H : Heap) : Option (Option AV) → Option (AV × Heap)
  | some (some v) => match ok with
    | true => some (.tup [v, .sc (.bool true)], H)
    | false => some (v, H)
  | some none => match ok with
    | true => some (.tup [z, .sc (.bool false)], H)
    | false => some (z, H)
  | none => none

/-- Cells that are all truth values. -/
def bools : List AV → Option (List Bool)
  | [] => some []
  | .sc (.bool b) :: r => match bools r with
    | some q => some (b :: q)
    | none => none
  | _ :: _ => none

/-- .. of a slice of whose cells each element takes sz; nil is one. -/
def rowsX (sz : Nat) (H : Heap) (a : AV) : Option (Nat × List (List AV)) :=
  match a with
  | .sc (.slice none 0 0) => some (sz, [])
  | _ => rowsOf H a

/-- A bound of a slice expression. -/
def sbnd (fr : Fr) (d : Nat) : Option Operand → Option Nat
  | none => some d
  | some x => match ev fr x with
    | .sc (.int _ (.ofNat q)) => some q
    | _ => none

def sbounds (fr : Fr) (d : Nat) (lo hi mx : Option Operand) : Option (Nat × Nat) :=
  match sbnd fr 0 lo, sbnd fr d hi, sbnd fr d mx with
  | some l, some h, some m => match Nat.ble l h && (Nat.ble h m && Nat.ble m d) && (mx.isNone || hi.isSome) with
    | true => some (l, h)
    | false => none
  | _, _, _ => none

/-- One operation: what it gives, and the heap behind it. (g, i): the number that a new block takes. -/
def dstep (g i : Nat) (o : IOp) (fr : Fr) (H : Heap) : Option (AV × Heap) :=
  match o with
  | .move x => fz (ev fr x) H
  | .pick c a b => match ev fr c with
    | .sc (.bool true) => fz (ev fr a) H
    | .sc (.bool false) => fz (ev fr b) H
    | _ => none
  | .alloc z => some (.ptr g i 0 0, hset H g i (.cells (zrow z).length [zrow z]))
  | .box x => match (ev fr x).cs with
    | some cs => match cs.all AV.cell1 with
      | true => some (.ptr g i 0 0, hset H g i (.cells cs.length [cs]))
      | false => none
    | none => none
  | .build z parts => match lay (zrow z) (parts.map fun p => (p.1, p.2.1, ev fr p.2.2)) with
    | some cs => some (.agg cs, H)
    | none => none
  | .buildSlice sz z n parts => match layRows sz (List.replicate n (zrow z)) (parts.map fun p => (p.1, ev fr p.2)) with
    | some rows => some (.hsl g i 0 n, hset H g i (.cells sz rows))
    | none => none
  | .load sz agg a => match ev fr a with
    | .cptr cells => match ldAV sz agg cells with
      | some v => some (v, H)
      | none => none
    | .ptr g' i' row off => match hget H g' i' with
      | some (.cells _ rows) => match rows[row]? with
        | some r => match ldAV sz agg (r.drop off) with
          | some v => some (v, H)
          | none => none
        | none => none
      | _ => none
    | _ => none
  | .store sz a x => match ev fr a with
    | .ptr g' i' row off => match (ev fr x).cs with
      | some cs => match hget H g' i' with
        | some (.cells s rows) => match rows[row]? with
          | some r => match Nat.beq cs.length sz && (Nat.ble (off + sz) r.length && cs.all AV.cell1) with
            | true => some (.undef, hset H g' i' (.cells s (rows.set row (lsplice r off cs))))
            | false => none
          | none => none
        | _ => none
      | none => none
    | _ => none
  | .nilCheck x => match ev fr x with
    | .ptr g' i' row off => some (.ptr g' i' row off, H)
    | .cptr cells => some (.cptr cells, H)
    | _ => none
  | .bin op t x y => match ev fr x, ev fr y with
    | .sc a, .sc b => match Sem.pure? (do eqGuard op t x y a b; binOp op t a b) with
      | some v => some (.sc v, H)
      | none => none
    | _, _ => none
  | .eqBool neg x y => match ev fr x, ev fr y with
    | .sc (.bool a), .sc (.bool b) => match neg with
      | true => some (.sc (.bool (!(a == b))), H)
      | false => some (.sc (.bool (a == b)), H)
    | _, _ => none
  | .eqNil neg x => match ev fr x with
    | .ptr _ _ _ _ => some (.sc (.bool neg), H)
    | .cptr _ => some (.sc (.bool neg), H)
    | .sc (.pointer none) => some (.sc (.bool (!neg)), H)
    | _ => none
  | .eqNilM neg x => match ev fr x with
    | .mref _ _ => some (.sc (.bool neg), H)
    | .tmap _ => some (.sc (.bool neg), H)
    | .sc (.map none) => some (.sc (.bool (!neg)), H)
    | _ => none
  | .eqNilS neg x => match ev fr x with
    | .list _ (_ :: _) => some (.sc (.bool neg), H)
    | .hsl g' i' _ len => match len with
      | _ + 1 => some (.sc (.bool neg), H)
      | 0 => match hget H g' i' with
        | some (.cells _ (_ :: _)) => some (.sc (.bool neg), H)
        | _ => none
    | .sc (.slice none 0 0) => some (.sc (.bool (!neg)), H)
    | _ => none
  | .eqArr neg n x y => match ev fr x, ev fr y with
    | .agg xs, .agg ys => match bools xs, bools ys with
      | some a, some b => match Nat.beq a.length n && Nat.beq b.length n with
        | true => match neg with
          | true => some (.sc (.bool (!(a == b))), H)
          | false => some (.sc (.bool (a == b)), H)
        | false => none
      | _, _ => none
    | _, _ => none
  | .un op x => match ev fr x with
    | .sc a => match Sem.pure? (Op.unary op a) with
      | some v => some (.sc v, H)
      | none => none
    | _ => none
  | .conv k x => match ev fr x with
    | .sc (.int _ n) => some (.sc (.int k (k.wrap n)), H)
    | _ => none
  | .makeFunc fn first captured => match fzl (avals fr first), fzl (avals fr captured) with
    | some a, some b => some (.clo fn a b, H)
    | _, _ => none
  | .makeMap => some (.mref g i, hset H g i (.map []))
  | .makeSlice sz bytes z l => match ev fr l with
    | .sc (.int .i64 (.ofNat n)) => match Nat.ble (bytes * n) 70368744177664 && Nat.ble n 1073741824 with
      | true => some (.hsl g i 0 n, hset H g i (.cells sz (List.replicate n (zrow z))))
      | false => none
    | _ => none
  | .slice sz x lo hi mx => match ev fr x with
    | .list s rows => match Nat.beq s sz with
      | true => match sbounds fr rows.length lo hi mx with
        | some (l, h) => some (.list sz ((rows.drop l).take (h - l)), H)
        | none => none
      | false => none
    | .hsl g' i' start len => match hget H g' i' with
      | some (.cells s _) => match Nat.beq s sz with
        | true => match sbounds fr len lo hi mx with
          | some (l, h) => match Nat.beq l 0 with
            | true => some (.hsl g' i' start h, H)
            | false => match Nat.beq l h with
              | true => some (.list sz [], H)
              | false => some (.hsl g' i' (start + l) (h - l), H)
          | none => none
        | false => none
      | _ => none
    | .sc (.slice none 0 0) => match sbounds fr 0 lo hi mx with
      | some _ => some (.sc (.slice none 0 0), H)
      | none => none
    | _ => none
  | .fieldAddr off x => match ev fr x with
    | .cptr cells => some (.cptr (cells.drop off), H)
    | .ptr g' i' row o => some (.ptr g' i' row (o + off), H)
    | _ => none
  | .field off sz agg x => match (ev fr x) with
    | .agg cells => match ldAV sz agg (cells.drop off) with
      | some v => some (v, H)
      | none => none
    | _ => none
  | .idxSl sz x ix => match ev fr ix with
    | .sc (.int _ n) => match ev fr x with
      | .list s rows => match Nat.beq s sz, rowIx rows n with
        | true, some r => some (.cptr r, H)
        | _, _ => none
      | .hsl g' i' start len => match n with
        | .ofNat q => match hget H g' i' with
          | some (.cells s rows) => match Nat.beq s sz && (Nat.blt q len && Nat.ble (start + len) rows.length) with
            | true => some (.ptr g' i' (start + q) 0, H)
            | false => none
          | _ => none
        | .negSucc _ => none
      | _ => none
    | _ => none
  | .idxArr n sz x ix => match ev fr ix with
    | .sc (.int _ (.ofNat q)) => match Nat.blt q n with
      | true => match ev fr x with
        | .cptr cells => some (.cptr (cells.drop (q * sz)), H)
        | .ptr g' i' row o => some (.ptr g' i' row (o + q * sz), H)
        | _ => none
      | false => none
    | _ => none
  | .idxVal n sz agg x ix => match ev fr ix with
    | .sc (.int _ (.ofNat q)) => match Nat.blt q n with
      | true => match ev fr x with
        | .agg cells => match ldAV sz agg (cells.drop (q * sz)) with
          | some v => some (v, H)
          | none => none
        | _ => none
      | false => none
    | _ => none
  | .lookup z k x ix ok => match ev fr ix with
    | .sc (.int k' n) => match decide (k = k') with
      | true => lres z ok H (mlook H k n (ev fr x))
      | false => none
    | _ => none
  | .mapUpdate k m ix x => match ev fr m, ev fr ix with
    | .mref g' i', .sc (.int k' n) => match decide (k = k') with
      | true => match hget H g' i' with
        | some (.map es) => match mfind k n es with
          | some none => some (.undef, hset H g' i' (.map (es ++ [(.int k n, ev fr x)])))
          | some (some _) => some (.undef, hset H g' i' (.map (mput n (ev fr x) es)))
          | none => none
        | _ => none
      | false => none
    | _, _ => none
  | .extract x ix => match ev fr x with
    | .tup vs => match vs[ix]? with
      | some v => some (v, H)
      | none => none
    | _ => none
  | .len x => match ev fr x with
    | .list _ rows => some (.sc (.int .i64 rows.length), H)
    | .hsl _ _ _ len => some (.sc (.int .i64 len), H)
    | .sc (.slice none 0 0) => some (.sc (.int .i64 (0 : Nat)), H)
    | _ => none
  | .lenM x => match ev fr x with
    | .tmap es => some (.sc (.int .i64 es.length), H)
    | .mref g' i' => match hget H g' i' with
      | some (.map es) => some (.sc (.int .i64 es.length), H)
      | _ => none
    | .sc (.map none) => some (.sc (.int .i64 (0 : Nat)), H)
    | _ => none
  | .append sz bytes s x => match rowsX sz H (ev fr x) with
    | some (s2, rows2) => match Nat.beq s2 sz with
      | true => match ev fr s with
        | .hsl g' i' 0 len => match hget H g' i' with
          | some (.cells s1 rows1) => match Nat.beq s1 sz && (Nat.beq rows1.length len && Nat.ble ((len + rows2.length) * (bytes + 1)) 70368744177664) with
            | true => match Nat.beq g g' && Nat.beq i i' with
              | true => none
              | false => some (.hsl g i 0 (len + rows2.length), hset (hset H g' i' .dead) g i (.cells sz (rows1 ++ rows2)))
            | false => none
          | _ => none
        | .sc (.slice none 0 0) => match Nat.ble (rows2.length * (bytes + 1)) 70368744177664 with
          | true => some (.hsl g i 0 rows2.length, hset H g i (.cells sz rows2))
          | false => none
        | _ => none
      | false => none
    | none => none
  | .max args => match scs (avals fr args) with
    | some vs => match Sem.pure? (Builtin.max_ #[] 0 vs.toArray) with
      | some v => some (.sc v, H)
      | none => none
    | none => none
  | .min args => match scs (avals fr args) with
    | some vs => match Sem.pure? (Builtin.min_ #[] 0 vs.toArray) with
      | some v => some (.sc v, H)
      | none => none
    | none => none

/-! From the model's operations. -/

def zOf (P : Program) (t : TypeId) : Option (List (Nat × Value)) :=
  match P.info? t with
  | some i => match i.zero with
    | some z => match Nat.beq z.cells.size i.size && z.cells.all Value.oneCell' with
      | true => some (rle z.cells.toList)
      | false => none
    | none => none
  | none => none

/-- A type's zero value. -/
def zvOf (P : Program) (t : TypeId) : Option AV :=
  match P.info? t with
  | some i => match i.zero with
    | some (.agg cs) => some (.agg (zrow (rle cs.toList)))
    | some v => some (.sc v)
    | none => none
  | none => none

def aggOf (P : Program) (t : TypeId) : Option Bool :=
  match P.underlying t with
  | some (.struct _) => some true
  | some (.array _ _) => some true
  | some _ => some false
  | none => none

def szOf (P : Program) (t : TypeId) : Option Nat := (P.info? t).map (·.size)

/-- A variable's shape: its cells, and whether it is an aggregate; a plain one has one cell. -/
def varOf (P : Program) (t : TypeId) : Option (Nat × Bool) :=
  match szOf P t, aggOf P t with
  | some (n + 1), some true => some (n + 1, true)
  | some 1, some false => some (1, false)
  | _, _ => none

def partOf (P : Program) (fs : Array Field) : List (Nat × Operand) → Option (List (Nat × Nat × Operand))
  | [] => some []
  | (i, x) :: r => match fs[i]?, partOf P fs r with
    | some f, some q => match szOf P f.type with
      | some n => some ((f.offset, n, x) :: q)
      | none => none
    | _, _ => none

def cop (P : Program) : Op → Option IOp
  | .move x | .assign x => some (.move x)
  | .pick c a b => some (.pick c a b)
  | .alloc t => (zOf P t).map .alloc
  | .box _ x => some (.box x)
  | .build t parts => match P.underlying t, zOf P t with
    | some (.struct fs), some z => match fs.all (fun f => (szOf P f.type).isSome) with
      | true => (partOf P fs parts.toList).map (.build z)
      | false => none
    | _, _ => none
  | .buildSlice t n parts => match P.underlying t with
    | some (.slice e) => match szOf P e, zOf P e with
      | some sz, some z => match Nat.ble (n * sz) 16777216 && Nat.blt 0 sz with
        | true => some (.buildSlice sz z n parts.toList)
        | false => none
      | _, _ => none
    | _ => none
  | .load t a => (varOf P t).map fun p => .load p.1 p.2 a
  | .store t a x => (szOf P t).map fun n => .store n a x
  | .nilCheck x => some (.nilCheck x)
  | .binOp op t x y _ => match op, P.underlying t with
    | .eql, some .bool => some (.eqBool false x y)
    | .neq, some .bool => some (.eqBool true x y)
    | .eql, some (.pointer _) => match y with | .const (.pointer none) => some (.eqNil false x) | _ => none
    | .neq, some (.pointer _) => match y with | .const (.pointer none) => some (.eqNil true x) | _ => none
    | .eql, some (.map _ _) => match y with | .const (.map none) => some (.eqNilM false x) | _ => none
    | .neq, some (.map _ _) => match y with | .const (.map none) => some (.eqNilM true x) | _ => none
    | .eql, some (.slice _) => match y with | .const (.slice none 0 0) => some (.eqNilS false x) | _ => none
    | .neq, some (.slice _) => match y with | .const (.slice none 0 0) => some (.eqNilS true x) | _ => none
    | .eql, some (.array n e) => match P.underlying e, szOf P e, P.eqGuardType P.depth t with | some .bool, some 1, false => some (.eqArr false n x y) | _, _, _ => none
    | .neq, some (.array n e) => match P.underlying e, szOf P e, P.eqGuardType P.depth t with | some .bool, some 1, false => some (.eqArr true n x y) | _, _, _ => none
    | _, _ => some (.bin op t x y)
  | .unOp op _ x => some (.un op x)
  | .convert src dst x => match P.underlying src, P.underlying dst with
    | some (.int _), some (.int k) => some (.conv k x)
    | _, _ => none
  | .makeFunc fn a b => some (.makeFunc fn a.toList b.toList)
  | .makeMap _ none => some .makeMap
  | .makeSlice t l c => match P.underlying t with
    | some (.slice e) => match P.info? e, zOf P e with
      | some i, some z => match l, c with
        | .tmp a, .tmp b => match Nat.beq a b && Nat.blt 0 i.size with
          | true => some (.makeSlice i.size i.bytes z l)
          | false => none
        | .const (.int .i64 a), .const (.int .i64 b) => match decide (a = b) && Nat.blt 0 i.size with
          | true => some (.makeSlice i.size i.bytes z l)
          | false => none
        | _, _ => none
      | _, _ => none
    | _ => none
  | .fieldAddr t x f => match P.underlying t with
    | some (.struct fs) => match fs[f]? with
      | some f => match szOf P f.type with
        | some (_ + 1) => some (.fieldAddr f.offset x)
        | _ => none
      | none => none
    | _ => none
  | .field t x f => match P.underlying t with
    | some (.struct fs) => match fs[f]? with
      | some f => (varOf P f.type).map fun p => .field f.offset p.1 p.2 x
      | none => none
    | _ => none
  | .indexAddr t x i => match P.underlying t with
    | some (.slice e) => (szOf P e).map fun n => .idxSl n x i
    | some (.array n e) => (szOf P e).map fun s => .idxArr n s x i
    | _ => none
  | .index t x i => match P.underlying t with
    | some (.array n e) => (varOf P e).map fun p => .idxVal n p.1 p.2 x i
    | _ => none
  | .lookup t x i ok => match P.underlying t with
    | some (.map kt e) => match P.underlying kt, zvOf P e with
      | some (.int k), some z => some (.lookup z k x i ok)
      | _, _ => none
    | _ => none
  | .mapUpdate t m i x => match P.underlying t with
    | some (.map kt _) => match P.underlying kt with
      | some (.int k) => some (.mapUpdate k m i x)
      | _ => none
    | _ => none
  | .insert t m i x => match P.underlying t with
    | some (.map kt _) => match P.underlying kt with
      | some (.int k) => some (.mapUpdate k m i x)
      | _ => none
    | _ => none
  | .extract x i => some (.extract x i)
  | .slice t x lo hi mx => match P.underlying t with
    | some (.slice e) => (szOf P e).map fun n => .slice n x lo hi mx
    | _ => none
  | .call ⟨.builtin .len, args, ts⟩ => match args.toList, ts.toList with
    | [x], [t] => match P.underlying t with
      | some (.slice _) => some (.len x)
      | some (.map _ _) => some (.lenM x)
      | _ => none
    | _, _ => none
  | .call ⟨.builtin .append, args, ts⟩ => match args.toList, ts.toList with
    | [s, x], [t, u] => match P.underlying t with
      | some (.slice e) => match P.info? e, zOf P e with
        | some i, some _ => match decide (t = u) && Nat.blt 0 i.size with
          | true => some (.append i.size i.bytes s x)
          | false => none
        | _, _ => none
      | _ => none
    | _, _ => none
  | .call ⟨.builtin .max, args, _⟩ => some (.max args.toList)
  | .call ⟨.builtin .min, args, _⟩ => some (.min args.toList)
  | _ => none

end Go.Av
