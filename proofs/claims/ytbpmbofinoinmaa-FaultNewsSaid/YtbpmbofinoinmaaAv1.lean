import Derived.Calls
import Derived.Laws.World
import Derived.Laws.Sem
import Derived.Laws.Cells
namespace Go.Av

/-- Abstract values: what a slot holds, with no address in frozen memory. A mutable block has a number: a family g, and i in it. -/
inductive AV where
  | undef
  | sc (v : Value)
  | agg (cells : List AV)
  | tup (vs : List AV)
  | list (sz : Nat) (rows : List (List AV))
  | cptr (cells : List AV)
  | tmap (es : List (Value × AV))
  | ptr (g i row off : Nat)
  | hsl (g i start len : Nat)
  | mref (g i : Nat)
  | clo (fn : Fn) (first captured : List AV)
  deriving Inhabited

/-- A frame: the slots that matter. -/
abbrev Fr := List (Nat × AV)

def Fr.get : Fr → Nat → AV
  | [], _ => .undef
  | (d, v) :: r, t => match Nat.beq d t with
    | true => v
    | false => Fr.get r t

def Fr.put (fr : Fr) : Option Nat → AV → Fr
  | some d, v => (d, v) :: fr
  | none, _ => fr

inductive Blk where
  | dead
  | cells (sz : Nat) (rows : List (List AV))
  | map (es : List (Value × AV))
  deriving Inhabited

abbrev Heap := List (List Blk)

def hget (H : Heap) (g i : Nat) : Option Blk :=
  match H[g]? with
  | some f => f[i]?
  | none => none

structure Loc where
  blk : Option Nat
  sz : Nat
  tot : Nat

abbrev Mem := Nat → Option Obj
abbrev Inj := Nat → Nat → Option Loc

inductive Rep (M : Mem) (J : Inj) : AV → Value → Prop
  | undef (v : Value) : Rep M J .undef v
  | sc (v : Value) : Rep M J (.sc v) v
  | agg (cells : List AV) (cvs : Array Value) (hl : cells.length = cvs.size)
      (h : ∀ (j : Nat) c v, cells[j]? = some c → cvs[j]? = some v → Rep M J c v) : Rep M J (.agg cells) (.agg cvs)
  | tup (vs : List AV) (cvs : Array Value) (hl : vs.length = cvs.size)
      (h : ∀ (j : Nat) c v, vs[j]? = some c → cvs[j]? = some v → Rep M J c v) : Rep M J (.tup vs) (.tuple cvs)
  | nilList (sz : Nat) (a : Option Addr) (cap : Nat) : Rep M J (.list sz []) (.slice a 0 cap)
  | list (sz : Nat) (rows : List (List AV)) (β off cap n : Nat) (cs : Array Value) (e : TypeId) (fr : Nat × Nat)
      (hn : n = rows.length ∧ n ≤ cap)
      (hM : M β = some (.cells cs e fr)) (hsz : ∀ (i : Nat) (r : List AV), rows[i]? = some r → r.length = sz)
      (hle : off + rows.length * sz ≤ cs.size) (h1 : ∀ (j : Nat) v, j < rows.length * sz → cs[off + j]? = some v → v.oneCell' = true)
      (h : ∀ (i : Nat) (r : List AV) (j : Nat) c v, rows[i]? = some r → r[j]? = some c → cs[off + i * sz + j]? = some v → Rep M J c v) :
      Rep M J (.list sz rows) (.slice (some ⟨β, off, none⟩) n cap)
  | cptr (cells : List AV) (β off : Nat) (cs : Array Value) (e : TypeId) (fr : Nat × Nat)
      (hM : M β = some (.cells cs e fr)) (hle : cells = [] ∨ off + cells.length ≤ cs.size)
      (h : ∀ (j : Nat) c v, cells[j]? = some c → cs[off + j]? = some v → Rep M J c v) :
      Rep M J (.cptr cells) (.pointer (some ⟨β, off, none⟩))
  | tmap (es : List (Value × AV)) (β clock : Nat) (ces : Array MapEntry)
      (hM : M β = some (.map ces clock)) (hl : es.length = ces.size)
      (hk : ∀ (j : Nat) x y, es[j]? = some x → ces[j]? = some y → x.1 = y.key)
      (h : ∀ (j : Nat) x y, es[j]? = some x → ces[j]? = some y → Rep M J x.2 y.val) : Rep M J (.tmap es) (.map (some β))
  | ptr (g i row off β : Nat) (l : Loc) (hJ : J g i = some l) (hb : l.blk = some β) :
      Rep M J (.ptr g i row off) (.pointer (some ⟨β, row * l.sz + off, none⟩))
  | hsl (g i start len cap β : Nat) (l : Loc) (hJ : J g i = some l) (hb : l.blk = some β) (hc : (start + cap) * l.sz ≤ l.tot) (hlc : len ≤ cap) :
      Rep M J (.hsl g i start len) (.slice (some ⟨β, start * l.sz, none⟩) len cap)
  | hslNil (g i : Nat) (l : Loc) (hJ : J g i = some l) (hb : l.blk = none) : Rep M J (.hsl g i 0 0) (.slice none 0 0)
  | mref (g i β : Nat) (l : Loc) (hJ : J g i = some l) (hb : l.blk = some β) : Rep M J (.mref g i) (.map (some β))
  | clo (fn : Fn) (fs cs : List AV) (cfs ccs : Array Value) (hf : fs.length = cfs.size) (hc : cs.length = ccs.size)
      (h1 : ∀ (j : Nat) c v, fs[j]? = some c → cfs[j]? = some v → Rep M J c v)
      (h2 : ∀ (j : Nat) c v, cs[j]? = some c → ccs[j]? = some v → Rep M J c v) : Rep M J (.clo fn fs cs) (.func fn cfs ccs)

theorem or2 {a b c d : Prop} (h : a ∨ b) (f : a → c) (g : b → d) : c ∨ d := h.elim (fun x => .inl (f x)) (fun x => .inr (g x))

/-- More memory is frozen, more blocks are known. -/
structure Ext (M : Mem) (J : Inj) (M' : Mem) (J' : Inj) : Prop where
  m : ∀ β o, M β = some o → M' β = some o
  j : ∀ g i l, J g i = some l → J' g i = some l

theorem Ext.refl (M : Mem) (J : Inj) : Ext M J M J := ⟨fun _ _ h => h, fun _ _ _ h => h⟩
theorem Ext.trans {M J M' J' M'' J''} (h : Ext M J M' J') (h' : Ext M' J' M'' J'') : Ext M J M'' J'' :=
  ⟨fun β o x => h'.m β o (h.m β o x), fun g i l x => h'.j g i l (h.j g i l x)⟩

/-- One value is another under a new numbering of the blocks: ρ gives the old number. -/
inductive Ren (ρ : Nat → Nat → Option (Nat × Nat)) : AV → AV → Prop
  | undef (a : AV) : Ren ρ a .undef
  | sc (v : Value) : Ren ρ (.sc v) (.sc v)
  | agg (xs ys : List AV) (hl : xs.length = ys.length) (h : ∀ (j : Nat) x y, xs[j]? = some x → ys[j]? = some y → Ren ρ x y) : Ren ρ (.agg xs) (.agg ys)
  | tup (xs ys : List AV) (hl : xs.length = ys.length) (h : ∀ (j : Nat) x y, xs[j]? = some x → ys[j]? = some y → Ren ρ x y) : Ren ρ (.tup xs) (.tup ys)
  | list (sz : Nat) (rows rows' : List (List AV)) (hl : rows.length = rows'.length) (hr : ∀ (i : Nat) (r r' : List AV), rows[i]? = some r → rows'[i]? = some r' → r.length = r'.length)
      (h : ∀ (i : Nat) (r r' : List AV) (j : Nat) x y, rows[i]? = some r → rows'[i]? = some r' → r[j]? = some x → r'[j]? = some y → Ren ρ x y) : Ren ρ (.list sz rows) (.list sz rows')
  | cptr (xs ys : List AV) (hl : xs.length = ys.length) (h : ∀ (j : Nat) x y, xs[j]? = some x → ys[j]? = some y → Ren ρ x y) : Ren ρ (.cptr xs) (.cptr ys)
  | tmap (es es' : List (Value × AV)) (hl : es.length = es'.length) (hk : ∀ (j : Nat) x y, es[j]? = some x → es'[j]? = some y → x.1 = y.1)
      (h : ∀ (j : Nat) x y, es[j]? = some x → es'[j]? = some y → Ren ρ x.2 y.2) : Ren ρ (.tmap es) (.tmap es')
  | ptr (g i g' i' row off : Nat) (h : ρ g i = some (g', i')) : Ren ρ (.ptr g' i' row off) (.ptr g i row off)
  | hsl (g i g' i' start len : Nat) (h : ρ g i = some (g', i')) : Ren ρ (.hsl g' i' start len) (.hsl g i start len)
  | mref (g i g' i' : Nat) (h : ρ g i = some (g', i')) : Ren ρ (.mref g' i') (.mref g i)
  | clo (fn : Fn) (fs cs fs' cs' : List AV) (h1 : fs.length = fs'.length) (h2 : cs.length = cs'.length)
      (h3 : ∀ (j : Nat) x y, fs[j]? = some x → fs'[j]? = some y → Ren ρ x y) (h4 : ∀ (j : Nat) x y, cs[j]? = some x → cs'[j]? = some y → Ren ρ x y) :
      Ren ρ (.clo fn fs cs) (.clo fn fs' cs')

def Inj.via (J : Inj) (ρ : Nat → Nat → Option (Nat × Nat)) : Inj := fun g i =>
  match ρ g i with
  | some (g', i') => J g' i'
  | none => none

theorem Inj.via_some {J : Inj} {ρ : Nat → Nat → Option (Nat × Nat)} {g i g' i' : Nat} (h : ρ g i = some (g', i')) : J.via ρ g i = J g' i' := by simp [Inj.via, h]

theorem Rep.ren {M J} {ρ : Nat → Nat → Option (Nat × Nat)} {a a' : AV} {v : Value} (h : Rep M J a v) (hr : Ren ρ a a') : Rep M (J.via ρ) a' v := by
  have get2 : ∀ {xs ys : List AV} (_ : xs.length = ys.length) {j : Nat} {y : AV}, ys[j]? = some y → ∃ x, xs[j]? = some x := by
    intro xs ys hl j y hy
    have := (List.getElem?_eq_some_iff.1 hy).1
    exact ⟨xs[j], List.getElem?_eq_getElem (by omega)⟩
  induction h generalizing a' with
  | undef v => cases hr; exact .undef v
  | sc v => cases hr <;> first | exact .undef v | exact .sc v
  | agg cells cvs hl _ ih =>
    cases hr with
    | undef => exact .undef _
    | agg _ ys hl' hr =>
      exact .agg ys cvs (by omega) fun j c v a b => by
        obtain ⟨x, hx⟩ := get2 hl' a
        exact ih j x v hx b (hr j x c hx a)
  | tup cells cvs hl _ ih =>
    cases hr with
    | undef => exact .undef _
    | tup _ ys hl' hr =>
      exact .tup ys cvs (by omega) fun j c v a b => by
        obtain ⟨x, hx⟩ := get2 hl' a
        exact ih j x v hx b (hr j x c hx a)
  | nilList sz a cap =>
    cases hr with
    | undef => exact .undef _
    | list _ _ rows' hl' hr' hr =>
      have : rows' = [] := by cases rows' with | nil => rfl | cons _ _ => simp at hl'
      subst this
      exact .nilList sz a cap
  | list sz rows β off cap n cs e fr hn hM hsz hle ho _ ih =>
    cases hr with
    | undef => exact .undef _
    | list _ _ rows' hl' hr' hr =>
      have getr : ∀ {i : Nat} {r' : List AV}, rows'[i]? = some r' → ∃ r, rows[i]? = some r := by
        intro i r' hy
        have := (List.getElem?_eq_some_iff.1 hy).1
        exact ⟨rows[i], List.getElem?_eq_getElem (by omega)⟩
      refine .list sz rows' β off cap n cs e fr (by omega) hM (fun i r' h => ?_) (by rw [← hl']; exact hle) (by rw [← hl']; exact ho) fun i r' j c v a b d => ?_
      · obtain ⟨r, h'⟩ := getr h
        rw [← hr' i r r' h' h]
        exact hsz i r h'
      · obtain ⟨r, h'⟩ := getr a
        obtain ⟨x, hx⟩ := get2 (hr' i r r' h' a) b
        exact ih i r j x v h' hx d (hr i r r' j x c h' a hx b)
  | cptr cells β off cs e fr hM hle _ ih =>
    cases hr with
    | undef => exact .undef _
    | cptr _ ys hl' hr =>
      refine .cptr ys β off cs e fr hM ?_ fun j c v a b => ?_
      · rcases hle with rfl | hle
        · left
          cases ys with | nil => rfl | cons _ _ => simp at hl'
        · right; omega
      · obtain ⟨x, hx⟩ := get2 hl' a
        exact ih j x v hx b (hr j x c hx a)
  | tmap es β clock ces hM hl hk _ ih =>
    cases hr with
    | undef => exact .undef _
    | tmap _ es' hl' hk' hr =>
      have gete : ∀ {j : Nat} {y : Value × AV}, es'[j]? = some y → ∃ x, es[j]? = some x := by
        intro j y hy
        have := (List.getElem?_eq_some_iff.1 hy).1
        exact ⟨es[j], List.getElem?_eq_getElem (by omega)⟩
      refine .tmap es' β clock ces hM (by omega) (fun j x y a b => ?_) fun j x y a b => ?_
      · obtain ⟨z, hz⟩ := gete a
        rw [← hk' j z x hz a]
        exact hk j z y hz b
      · obtain ⟨z, hz⟩ := gete a
        exact ih j z y hz b (hr j z x hz a)
  | ptr g i row off β l hJ hb =>
    cases hr with
    | undef => exact .undef _
    | ptr g' i' _ _ _ _ h => exact .ptr g' i' row off β l (by rw [Inj.via_some h, hJ]) hb
  | hsl g i start len cap β l hJ hb h1 h2 =>
    cases hr with
    | undef => exact .undef _
    | hsl g' i' _ _ _ _ h => exact .hsl g' i' start len cap β l (by rw [Inj.via_some h, hJ]) hb h1 h2
  | hslNil g i l hJ hb =>
    cases hr with
    | undef => exact .undef _
    | hsl g' i' _ _ _ _ h => exact .hslNil g' i' l (by rw [Inj.via_some h, hJ]) hb
  | mref g i β l hJ hb =>
    cases hr with
    | undef => exact .undef _
    | mref g' i' _ _ h => exact .mref g' i' β l (by rw [Inj.via_some h, hJ]) hb
  | clo fn fs cs cfs ccs hf hc _ _ ih1 ih2 =>
    cases hr with
    | undef => exact .undef _
    | clo _ _ _ fs' cs' g1 g2 g3 g4 =>
      refine .clo fn fs' cs' cfs ccs (by omega) (by omega) (fun j c v a b => ?_) (fun j c v a b => ?_)
      · obtain ⟨x, hx⟩ := get2 g1 a
        exact ih1 j x v hx b (g3 j x c hx a)
      · obtain ⟨x, hx⟩ := get2 g2 a
        exact ih2 j x v hx b (g4 j x c hx a)

theorem Rep.ext {M J M' J'} (hx : Ext M J M' J') {a : AV} {v : Value} (h : Rep M J a v) : Rep M' J' a v := by
  induction h with
  | undef v => exact .undef v
  | sc v => exact .sc v
  | agg cells cvs hl _ ih => exact .agg cells cvs hl ih
  | tup cells cvs hl _ ih => exact .tup cells cvs hl ih
  | nilList sz a cap => exact .nilList sz a cap
  | list sz rows β off cap n cs e fr hn hM hsz hle ho _ ih => exact .list sz rows β off cap n cs e fr hn (hx.m _ _ hM) hsz hle ho ih
  | cptr cells β off cs e fr hM hle _ ih => exact .cptr cells β off cs e fr (hx.m _ _ hM) hle ih
  | tmap es β clock ces hM hl hk _ ih => exact .tmap es β clock ces (hx.m _ _ hM) hl hk ih
  | ptr g i row off β l hJ hb => exact .ptr g i row off β l (hx.j _ _ _ hJ) hb
  | hsl g i start len cap β l hJ hb hc hlc => exact .hsl g i start len cap β l (hx.j _ _ _ hJ) hb hc hlc
  | hslNil g i l hJ hb => exact .hslNil g i l (hx.j _ _ _ hJ) hb
  | mref g i β l hJ hb => exact .mref g i β l (hx.j _ _ _ hJ) hb
  | clo fn fs cs cfs ccs hf hc _ _ ih1 ih2 => exact .clo fn fs cs cfs ccs hf hc ih1 ih2

def Blk.live : Blk → Bool
  | .dead => false
  | _ => true

def liveAt (H : Heap) (g i : Nat) : Prop := ∃ x, hget H g i = some x ∧ x.live = true

/-- What an abstract block says of a concrete one. -/
def BRep (M : Mem) (J : Inj) (l : Loc) (h : Array Obj) : Blk → Prop
  | .dead => True
  | .cells sz rows => l.sz = sz ∧ (∀ (i : Nat) (r : List AV), rows[i]? = some r → r.length = sz) ∧
      match l.blk with
      | none => rows = []
      | some β => ∃ cs e, h[β]? = some (.cells cs e (0, 0)) ∧ cs.size = l.tot ∧ rows.length * sz ≤ l.tot ∧ (∀ (j : Nat) v, j < rows.length * sz → cs[j]? = some v → v.oneCell' = true) ∧
        ∀ (i : Nat) (r : List AV) (j : Nat) c v, rows[i]? = some r → r[j]? = some c → cs[i * sz + j]? = some v → Rep M J c v
  | .map es => ∃ β ces clock, l.blk = some β ∧ h[β]? = some (.map ces clock) ∧ es.length = ces.size ∧
      (∀ (j : Nat) x y, es[j]? = some x → ces[j]? = some y → x.1 = y.key) ∧
      (∀ (j : Nat) x y, es[j]? = some x → ces[j]? = some y → Rep M J x.2 y.val)

theorem BRep.ext {M J M' J'} (hx : Ext M J M' J') {l : Loc} {h h' : Array Obj} {b : Blk} (hh : ∀ β, l.blk = some β → h'[β]? = h[β]?) (hb : BRep M J l h b) : BRep M' J' l h' b := by
  cases b with
  | dead => trivial
  | cells sz rows =>
    obtain ⟨h1, h2, h3⟩ := hb
    refine ⟨h1, h2, ?_⟩
    cases e : l.blk with
    | none => rw [e] at h3; exact h3
    | some β =>
      rw [e] at h3
      obtain ⟨cs, t, a, b, c, o, d⟩ := h3
      exact ⟨cs, t, by rw [hh β e]; exact a, b, c, o, fun i r j c v x y z => (d i r j c v x y z).ext hx⟩
  | map es =>
    obtain ⟨β, ces, clock, h0, h1, h2, h3, h4⟩ := hb
    exact ⟨β, ces, clock, h0, by rw [hh β h0]; exact h1, h2, h3, fun j x y a b => (h4 j x y a b).ext hx⟩

structure HRep (M : Mem) (J : Inj) (H : Heap) (h : Array Obj) : Prop where
  blk : ∀ (g i : Nat) x, hget H g i = some x → x.live = true → ∃ l, J g i = some l ∧ BRep M J l h x
  inj : ∀ g i g' i' l l' β, liveAt H g i → liveAt H g' i' → J g i = some l → J g' i' = some l' → l.blk = some β → l'.blk = some β → g = g' ∧ i = i'
  out : ∀ g i l β, liveAt H g i → J g i = some l → l.blk = some β → M β = none
  dom : ∀ g i l, J g i = some l → (hget H g i).isSome ∧ ∀ β, l.blk = some β → β < h.size

def MRep (M : Mem) (h : Array Obj) : Prop := ∀ β o, M β = some o → h[β]? = some o

def FRep (N : Nat) (M : Mem) (J : Inj) (fr : Fr) (tmps : Array Value) : Prop :=
  tmps.size = N ∧ ∀ t, Rep M J (fr.get t) (tmps.getD t Go.undef)

/-- One step of memory, as far as others care: families below k keep their numbers. -/
structure Step (k : Nat) (M : Mem) (J : Inj) (H : Heap) (w : World) (M' : Mem) (J' : Inj) (H' : Heap) (w' : World) : Prop where
  m : ∀ β o, M β = some o → M' β = some o
  j : ∀ g i l, g < k → J g i = some l → J' g i = some l
  hrep : HRep M' J' H' w'.heap
  mrep : MRep M' w'.heap
  os : w'.os = w.os
  tape : w'.tape = w.tape
  output : w'.output = w.output
  size : w.heap.size ≤ w'.heap.size
  frame : ∀ (β : Nat) o, w.heap[β]? = some o → (∀ g i l, liveAt H g i → J g i = some l → l.blk ≠ some β) → w'.heap[β]? = some o
  fresh : ∀ β o, M' β = some o → M β = some o ∨ w.heap.size ≤ β ∨ ∃ g i l, liveAt H g i ∧ J g i = some l ∧ l.blk = some β
  live : ∀ g i l β, liveAt H' g i → J' g i = some l → l.blk = some β → (∃ g0 i0 l0, liveAt H g0 i0 ∧ J g0 i0 = some l0 ∧ l0.blk = some β) ∨ w.heap.size ≤ β

end Go.Av
