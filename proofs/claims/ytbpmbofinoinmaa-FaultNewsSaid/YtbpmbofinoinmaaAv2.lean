import Derived.Test.YtbpmbofinoinmaaAv1
namespace Go.Av

/-- One block of memory is replaced. -/
def wset (w : World) (β : Nat) (o : Obj) : World := { w with heap := w.heap.setIfInBounds β o }

@[simp] theorem size_wset (w : World) (β : Nat) (o : Obj) : (wset w β o).heap.size = w.heap.size := by simp [wset]
theorem heap_wset_same (w : World) (β : Nat) (o : Obj) (h : β < w.heap.size) : (wset w β o).heap[β]? = some o := by simp [wset, h]
theorem heap_wset_other (w : World) (β γ : Nat) (o : Obj) (h : γ ≠ β) : (wset w β o).heap[γ]? = w.heap[γ]? := by
  simp only [wset, Array.getElem?_setIfInBounds]
  rw [if_neg (fun e => h e.symm)]
theorem lt_of_heap {w : World} {β : Nat} {o : Obj} (h : w.heap[β]? = some o) : β < w.heap.size := by
  rcases Nat.lt_or_ge β w.heap.size with h' | h'
  · exact h'
  · simp [Array.getElem?_eq_none h'] at h

def splice (cs : Array Value) (k : Nat) : List Value → Array Value
  | [] => cs
  | v :: vs => splice (cs.setIfInBounds k v) (k + 1) vs

@[simp] theorem size_splice (cs : Array Value) (k : Nat) (vs : List Value) : (splice cs k vs).size = cs.size := by
  induction vs generalizing cs k with
  | nil => rfl
  | cons v vs ih => simp [splice, ih]

theorem get_splice (vs : List Value) : ∀ (cs : Array Value) (k j : Nat),
    (splice cs k vs)[j]? = if k ≤ j ∧ j < k + vs.length ∧ j < cs.size then vs[j - k]? else cs[j]? := by
  induction vs with
  | nil =>
    intro cs k j
    simp only [splice, List.length_nil]
    rw [if_neg (by omega)]
  | cons v vs ih =>
    intro cs k j
    simp only [splice, ih, Array.size_setIfInBounds, List.length_cons]
    by_cases h : k + 1 ≤ j ∧ j < k + 1 + vs.length ∧ j < cs.size
    · rw [if_pos h, if_pos (by omega)]
      have : j - k = (j - (k + 1)) + 1 := by omega
      rw [this]; rfl
    · rw [if_neg h]
      by_cases hk : k = j
      · subst hk
        by_cases hs : k < cs.size
        · rw [if_pos (by omega)]; simp [hs]
        · rw [if_neg (by omega)]
          simp [hs]
      · rw [if_neg (by omega), Array.getElem?_setIfInBounds, if_neg hk]

def lsplice {α : Type} : List α → Nat → List α → List α
  | [], _, _ => []
  | x :: xs, 0, [] => x :: xs
  | _ :: xs, 0, v :: vs => v :: lsplice xs 0 vs
  | x :: xs, k + 1, vs => x :: lsplice xs k vs

@[simp] theorem length_lsplice {α : Type} (l : List α) : ∀ (k : Nat) (vs : List α), (lsplice l k vs).length = l.length := by
  induction l with
  | nil => intro k vs; cases k <;> cases vs <;> rfl
  | cons x xs ih => intro k vs; cases k <;> cases vs <;> simp [lsplice, ih]

theorem lsplice_nil {α : Type} (l : List α) : ∀ (k : Nat), lsplice l k [] = l := by
  induction l with
  | nil => intro k; cases k <;> rfl
  | cons x xs ih => intro k; cases k <;> simp [lsplice, ih]

theorem get_lsplice {α : Type} (l : List α) : ∀ (k : Nat) (vs : List α) (j : Nat),
    (lsplice l k vs)[j]? = if k ≤ j ∧ j < k + vs.length ∧ j < l.length then vs[j - k]? else l[j]? := by
  induction l with
  | nil => intro k vs j; cases k <;> cases vs <;> simp [lsplice]
  | cons x xs ih =>
    intro k vs j
    cases k with
    | zero =>
      cases vs with
      | nil => simp [lsplice]
      | cons v vs =>
        cases j with
        | zero => simp [lsplice]
        | succ j =>
          simp only [lsplice, List.getElem?_cons_succ, ih, List.length_cons, Nat.zero_add, Nat.zero_le, true_and, Nat.add_lt_add_iff_right, Nat.sub_zero]
    | succ k =>
      cases j with
      | zero => simp [lsplice]
      | succ j =>
        simp only [lsplice, List.getElem?_cons_succ, ih, List.length_cons, Nat.add_le_add_iff_right, Nat.add_lt_add_iff_right, Nat.succ_sub_succ]
        have : k + 1 + vs.length = k + vs.length + 1 := by omega
        simp only [this, Nat.add_lt_add_iff_right]

theorem addr_add (β off j : Nat) : (⟨β, off, none⟩ : Addr).add j = ⟨β, off + j, none⟩ := by
  unfold Addr.add
  split
  · rename_i h; subst h; rfl
  · rfl

theorem cell_block {w : World} {β : Nat} {cs : Array Value} {e : TypeId} {fr : Nat × Nat} (h : w.heap[β]? = some (.cells cs e fr)) (off : Nat) :
    w.cell? ⟨β, off, none⟩ = cs[off]? := by simp [World.cell?, h]

theorem frozen_block {w : World} {β : Nat} {cs : Array Value} {e : TypeId} (h : w.heap[β]? = some (.cells cs e (0, 0))) (off : Nat) :
    w.frozen? ⟨β, off, none⟩ = false := by simp [World.frozen?, h]

theorem setCell_block {w : World} {β : Nat} {cs : Array Value} {e : TypeId} {fr : Nat × Nat} (h : w.heap[β]? = some (.cells cs e fr)) (off : Nat) (v : Value) :
    w.setCell ⟨β, off, none⟩ v = wset w β (.cells (cs.setIfInBounds off v) e fr) := by
  have hlt := lt_of_heap h
  have hx : w.heap[β] = .cells cs e fr := by
    have := h; rw [Array.getElem?_eq_getElem hlt] at this; injection this
  have key : (w.heap.modify β fun
      | .cells c elem frozen => .cells (c.setIfInBounds off v) elem frozen
      | o => o) = w.heap.setIfInBounds β (.cells (cs.setIfInBounds off v) e fr) := by
    apply Array.ext_getElem?
    intro i
    rw [Array.getElem?_modify, Array.getElem?_setIfInBounds]
    by_cases hi : β = i
    · subst hi
      simp only [if_true, hlt, Array.getElem?_eq_getElem, hx, Option.map_some]
    · simp [hi]
  unfold World.setCell wset
  simp only [Option.isSome_none, Bool.false_eq_true, if_false]
  exact congrArg (fun h => ({ w with heap := h } : World)) key

theorem wset_wset (w : World) (β : Nat) (o o' : Obj) : wset (wset w β o) β o' = wset w β o' := by simp [wset]

theorem wset_self {w : World} {β : Nat} {o : Obj} (h : w.heap[β]? = some o) : wset w β o = w := by
  have hlt := lt_of_heap h
  have : w.heap.setIfInBounds β o = w.heap := by
    apply Array.ext_getElem?
    intro i
    rw [Array.getElem?_setIfInBounds]
    by_cases hi : β = i
    · subst hi; simp only [if_true, hlt, h]
    · simp [hi]
  unfold wset
  rw [this]

theorem run_storeCells (P : Program) (β off : Nat) (e : TypeId) (vs : List Value) : ∀ (w : World) (cs : Array Value) (i : Nat),
    w.heap[β]? = some (.cells cs e (0, 0)) → off + i + vs.length ≤ cs.size → (∀ v ∈ vs, v.oneCell' = true) →
    (storeCells ⟨β, off, none⟩ vs i).run P w = .ok () (wset w β (.cells (splice cs (off + i) vs) e (0, 0))) := by
  induction vs with
  | nil => intro w cs i h _ _; simp only [storeCells, splice, Sem.run_pure, wset_self h]
  | cons v vs ih =>
    intro w cs i h hle hv
    have h1 := hv v (List.mem_cons_self ..)
    simp only [List.length_cons] at hle
    have hlt : off + i < cs.size := by omega
    have hc : w.cell? ⟨β, off + i, none⟩ = some cs[off + i] := by rw [cell_block h]; simp [hlt]
    simp only [storeCells, Sem.run_bind, addr_add, run_store P w _ v .plain h1, hc, frozen_block h, Bool.false_eq_true, if_false, Result.andThen_ok, setCell_block h]
    rw [ih (wset w β (.cells (cs.setIfInBounds (off + i) v) e (0, 0))) (cs.setIfInBounds (off + i) v) (i + 1) (heap_wset_same _ _ _ (lt_of_heap h)) (by simp; omega) (fun x hx => hv x (List.mem_cons_of_mem _ hx))]
    rw [wset_wset]
    rfl

theorem run_loadCells_block (P : Program) {w : World} {β off n : Nat} {cs : Array Value} {e : TypeId} {fr : Nat × Nat} (h : w.heap[β]? = some (.cells cs e fr)) (hle : off + n ≤ cs.size) :
    (loadCells ⟨β, off, none⟩ n).run P w = .ok (cs.extract off (off + n)) w := by
  have hl : ((cs.extract off (off + n)).toList).length = n := by simp; omega
  have := run_loadCells_list (P := P) (w := w) ⟨β, off, none⟩ (cs.extract off (off + n)).toList (fun j v hv => by
    rw [addr_add, cell_block h]
    simp only [Array.getElem?_toList, Array.getElem?_extract] at hv
    split at hv
    · exact hv
    · simp at hv)
  rw [hl, Array.toArray_toList] at this
  exact this

end Go.Av
