import Derived.Test.YtbpmbofinoinmaaAv25
namespace Go.Av

/-! A contract over a few blocks, used ahead of others. -/

def lowS (k g i : Nat) : Option (Nat × Nat) := match Nat.blt g k && Nat.beq i 0 with
  | true => some (g, i)
  | false => none

theorem lowS_spec {k g i : Nat} {p : Nat × Nat} (h : lowS k g i = some p) : g < k ∧ i = 0 ∧ p = (g, i) := by
  unfold lowS at h
  split at h
  · rename_i e
    simp only [Bool.and_eq_true] at e
    injection h with h
    exact ⟨Nat.le_of_ble_eq_true e.1, Nat.eq_of_beq_eq_true e.2, h.symm⟩
  · cases h

theorem lowS_lt {k g : Nat} (h : g < k) : lowS k g 0 = some (g, 0) := by
  unfold lowS
  have : Nat.blt g k = true := by simpa [Nat.blt_eq] using h
  rw [this]
  rfl

def heap1 (xs : List Blk) : Heap := xs.map fun x => [x]

/-- A block that speaks of none but the first k. -/
def LoB (k : Nat) (x : Blk) : Prop := x.live = true ∧ RenB (lowS k) x x

theorem LoB.pure {k : Nat} {x : Blk} (h : PureB x) : LoB k x := ⟨h.live, h.ren⟩

theorem hget_heap1 {xs : List Blk} {X : Heap} {g i : Nat} (hg : g < xs.length) : hget (heap1 xs ++ X) g i = if i = 0 then xs[g]? else none := by
  unfold hget heap1
  rw [List.getElem?_append_left (by simpa using hg), List.getElem?_map, List.getElem?_eq_getElem hg]
  simp only [Option.map_some]
  cases i with
  | zero => rfl
  | succ i => simp

theorem hget_heap1_ge {xs : List Blk} {X : Heap} {g i : Nat} (hg : xs.length ≤ g) : hget (heap1 xs ++ X) g i = hget X (g - xs.length) i := by
  unfold hget heap1
  rw [List.getElem?_append_right (by simpa using hg)]
  simp

theorem CallOK.heads {P : Program} {f : FuncId} {args : List AV} {xs : List Blk} {X : Heap} {k : Nat} (hk : xs.length = k) {R : AV → List Blk → Prop}
    (h : CallOK P f args (heap1 xs) fun res H' => ∃ ys, ys.length = k ∧ H' = heap1 ys ∧ Ren (lowS k) res res ∧ (∀ y ∈ ys, LoB k y) ∧ R res ys) (hx : ∀ x ∈ xs, LoB k x) (hargs : RenArgs (lowS k) args args) :
    CallOK P f args (heap1 xs ++ X) fun res H' => ∃ ys, ys.length = k ∧ H' = heap1 ys ++ X ∧ (∀ y ∈ ys, LoB k y) ∧ R res ys := by
  have hh : ∀ (zs : List Blk) g i x, zs.length = k → hget (heap1 zs) g i = some x → g < k ∧ i = 0 ∧ zs[g]? = some x := by
    intro zs g i x hz e
    have e' : hget (heap1 zs ++ []) g i = some x := by rw [List.append_nil]; exact e
    rcases Nat.lt_or_ge g k with hg | hg
    · rw [hget_heap1 (by omega)] at e'
      split at e'
      · rename_i hi; exact ⟨hg, hi, e'⟩
      · cases e'
    · rw [hget_heap1_ge (by omega)] at e'
      simp [hget] at e'
  have hh2 : ∀ (zs : List Blk) g, zs.length = k → g < k → hget (heap1 zs) g 0 = zs[g]? := by
    intro zs g hz hg
    have := hget_heap1 (X := []) (i := 0) (show g < zs.length by omega)
    rw [List.append_nil, if_pos rfl] at this
    exact this
  refine CallOK.via (lowS k) (lowS k) h rfl hargs.spec.2 (fun g i p e => ?_) (fun g i p e => ?_) (fun g i x e => ?_) (fun g i p e => ?_) fun res H' hr => ?_
  · obtain ⟨h1, h2, rfl⟩ := lowS_spec e
    exact e
  · obtain ⟨h1, h2, rfl⟩ := lowS_spec e
    exact e
  · obtain ⟨h1, rfl, h3⟩ := hh xs g i x hk e
    obtain ⟨q1, q2⟩ := hx x (List.mem_of_getElem? h3)
    exact ⟨q1, (g, 0), x, lowS_lt h1, by rw [hget_heap1 (by omega), if_pos rfl, h3], q2⟩
  · obtain ⟨h1, rfl, rfl⟩ := lowS_spec e
    rw [hh2 xs g hk h1, List.getElem?_eq_getElem (by omega)]
    rfl
  · obtain ⟨ys, hy, rfl, h1, h2, h3⟩ := hr
    refine ⟨fun g i e => ?_, res, heap1 ys ++ X, h1, fun g i x hx' hxl => ?_, fun g i e => ?_, ys, hy, rfl, h2, h3⟩
    · obtain ⟨x, hx'⟩ := Option.isSome_iff_exists.1 e
      obtain ⟨p1, rfl, _⟩ := hh ys g i x hy hx'
      rw [hh2 xs g hk p1, List.getElem?_eq_getElem (by omega)]
      rfl
    · rcases Nat.lt_or_ge g k with hg | hg
      · rw [hget_heap1 (by omega)] at hx'
        split at hx'
        · rename_i hi
          subst hi
          left
          exact ⟨(g, 0), x, lowS_lt hg, by rw [hh2 ys g hy hg, hx'], (h2 x (List.mem_of_getElem? hx')).2⟩
        · cases hx'
      · right
        refine ⟨?_, ?_⟩
        · cases e : lowS k g i with
          | none => rfl
          | some p => exact absurd (lowS_spec e).1 (by omega)
        · rw [hget_heap1_ge (by omega)] at hx' ⊢
          rw [hk, ← hy]
          exact hx'
    · rcases Nat.lt_or_ge g k with hg | hg
      · rw [hget_heap1 (by omega)] at e ⊢
        split at e
        · rename_i hi
          rw [if_pos hi, List.getElem?_eq_getElem (by omega)]
          rfl
        · cases e
      · rw [hget_heap1_ge (by omega)] at e ⊢
        rw [hy, ← hk]
        exact e

end Go.Av
