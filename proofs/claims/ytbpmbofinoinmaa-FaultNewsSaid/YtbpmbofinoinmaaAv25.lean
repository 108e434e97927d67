import Derived.Test.YtbpmbofinoinmaaAv24
namespace Go.Av

theorem dstep_idxArr {g i : Nat} {fr : Fr} {H : Heap} {n sz : Nat} {x ix : Operand} {k : IntKind} {m : Int} {q g' i' row o : Nat} (hx : ev fr x = .ptr g' i' row o) (hi : ev fr ix = .sc (.int k m)) (hm : m = (q : Int)) (hq : q < n) :
    dstep g i (.idxArr n sz x ix) fr H = some (.ptr g' i' row (o + q * sz), H) := by
  subst hm
  have e1 : Nat.blt q n = true := by simpa [Nat.blt_eq] using hq
  simp only [dstep, hi, hx]
  show (match Nat.blt q n with
    | true => some (AV.ptr g' i' row (o + q * sz), H)
    | false => none) = _
  rw [e1]

theorem dstep_idxArrC {g i : Nat} {fr : Fr} {H : Heap} {n sz : Nat} {x ix : Operand} {k : IntKind} {m : Int} {q : Nat} {cells : List AV} (hx : ev fr x = .cptr cells) (hi : ev fr ix = .sc (.int k m)) (hm : m = (q : Int)) (hq : q < n) :
    dstep g i (.idxArr n sz x ix) fr H = some (.cptr (cells.drop (q * sz)), H) := by
  subst hm
  have e1 : Nat.blt q n = true := by simpa [Nat.blt_eq] using hq
  simp only [dstep, hi, hx]
  show (match Nat.blt q n with
    | true => some (AV.cptr (cells.drop (q * sz)), H)
    | false => none) = _
  rw [e1]

theorem dstep_idxVal {g i : Nat} {fr : Fr} {H : Heap} {n : Nat} {x ix : Operand} {k : IntKind} {m : Int} {q : Nat} {cells : List AV} {c : AV} (hx : ev fr x = .agg cells) (hi : ev fr ix = .sc (.int k m)) (hm : m = (q : Int)) (hq : q < n) (hc : cells[q]? = some c) :
    dstep g i (.idxVal n 1 false x ix) fr H = some (c, H) := by
  subst hm
  have e1 : Nat.blt q n = true := by simpa [Nat.blt_eq] using hq
  have e2 : ldAV 1 false (cells.drop (q * 1)) = some c := by
    rw [Nat.mul_one]
    obtain ⟨hl, he⟩ := List.getElem?_eq_some_iff.1 hc
    rw [List.drop_eq_getElem_cons hl, he]
    rfl
  simp only [dstep, hi, hx]
  show (match Nat.blt q n with
    | true => match ldAV 1 false (cells.drop (q * 1)) with
      | some v => some (v, H)
      | none => none
    | false => none) = _
  rw [e1, e2]

/-- A cell is read. -/
theorem dstep_ld1 {g i : Nat} {fr : Fr} {H : Heap} {a : Operand} {g' i' row off s : Nat} {rows : List (List AV)} {r : List AV} {c : AV} (ha : ev fr a = .ptr g' i' row off) (hh : hget H g' i' = some (.cells s rows)) (hr : rows[row]? = some r) (hc : r[off]? = some c) :
    dstep g i (.load 1 false a) fr H = some (c, H) := by
  have e2 : ldAV 1 false (r.drop off) = some c := by
    obtain ⟨hl, he⟩ := List.getElem?_eq_some_iff.1 hc
    rw [List.drop_eq_getElem_cons hl, he]
    rfl
  simp only [dstep, ha, hh, hr, e2]

theorem dstep_ld1C {g i : Nat} {fr : Fr} {H : Heap} {a : Operand} {cells : List AV} {c : AV} {rest : List AV} (ha : ev fr a = .cptr cells) (hc : cells = c :: rest) :
    dstep g i (.load 1 false a) fr H = some (c, H) := by
  subst hc
  simp only [dstep, ha, ldAV]

/-- A variable of more cells is read. -/
theorem dstep_ldN {g i : Nat} {fr : Fr} {H : Heap} {a : Operand} {sz g' i' row off s : Nat} {rows : List (List AV)} {r cs : List AV} (ha : ev fr a = .ptr g' i' row off) (hh : hget H g' i' = some (.cells s rows)) (hr : rows[row]? = some r) (hl : off + sz ≤ r.length) (hc : (r.drop off).take sz = cs) :
    dstep g i (.load sz true a) fr H = some (.agg cs, H) := by
  have e2 : ldAV sz true (r.drop off) = some (.agg cs) := by
    have : Nat.ble sz (r.drop off).length = true := by simp; omega
    simp only [ldAV, this, hc]
  simp only [dstep, ha, hh, hr, e2]

theorem dstep_ldNC {g i : Nat} {fr : Fr} {H : Heap} {a : Operand} {sz : Nat} {cells cs : List AV} (ha : ev fr a = .cptr cells) (hl : sz ≤ cells.length) (hc : cells.take sz = cs) :
    dstep g i (.load sz true a) fr H = some (.agg cs, H) := by
  have e2 : ldAV sz true cells = some (.agg cs) := by
    have : Nat.ble sz cells.length = true := by simpa using hl
    simp only [ldAV, this, hc]
  simp only [dstep, ha, e2]

/-- Cells are written. -/
theorem dstep_stN {g i : Nat} {fr : Fr} {H : Heap} {a x : Operand} {sz g' i' row off s : Nat} {rows : List (List AV)} {r cs : List AV} (ha : ev fr a = .ptr g' i' row off) (hx : (ev fr x).cs = some cs) (hh : hget H g' i' = some (.cells s rows)) (hr : rows[row]? = some r)
    (hs : cs.length = sz) (hl : off + sz ≤ r.length) (h1 : cs.all AV.cell1 = true) :
    dstep g i (.store sz a x) fr H = some (.undef, hset H g' i' (.cells s (rows.set row (lsplice r off cs)))) := by
  have e1 : Nat.beq cs.length sz = true := by simp [hs]
  have e2 : Nat.ble (off + sz) r.length = true := by simpa using hl
  simp only [dstep, ha, hx, hh, hr, e1, e2, h1, Bool.and_self]

theorem dstep_eqArr {g i : Nat} {fr : Fr} {H : Heap} {neg : Bool} {n : Nat} {x y : Operand} {a b : List Bool} (hx : ev fr x = .agg (a.map fun b => .sc (.bool b))) (hy : ev fr y = .agg (b.map fun b => .sc (.bool b))) (ha : a.length = n) (hb : b.length = n) :
    dstep g i (.eqArr neg n x y) fr H = some (.sc (.bool (neg != (a == b))), H) := by
  have hbools : ∀ l : List Bool, bools (l.map fun b => AV.sc (.bool b)) = some l := by
    intro l
    induction l with
    | nil => rfl
    | cons c l ih => simp [bools, ih]
  have e1 : Nat.beq a.length n = true := by simp [ha]
  have e2 : Nat.beq b.length n = true := by simp [hb]
  simp only [dstep, hx, hy, hbools, e1, e2, Bool.and_self]
  cases neg <;> cases (a == b) <;> rfl

theorem lsplice_one {α : Type} (l : List α) : ∀ (k : Nat) (v : α), lsplice l k [v] = l.set k v := by
  induction l with
  | nil => intro k v; rfl
  | cons x l ih =>
    intro k v
    cases k with
    | zero => simp [lsplice, lsplice_nil]
    | succ k => simp [lsplice, ih]

theorem lsplice_all {α : Type} : ∀ (l vs : List α), vs.length = l.length → lsplice l 0 vs = vs
  | [], [], _ => rfl
  | [], _ :: _, h => by simp at h
  | _ :: _, [], h => by simp at h
  | x :: l, v :: vs, h => by
    show v :: lsplice l 0 vs = v :: vs
    rw [lsplice_all l vs (by simpa using h)]

theorem take_drop0 {α : Type} {l : List α} {n : Nat} (h : l.length = n) : List.take n (List.drop 0 l) = l := by
  rw [List.drop_zero, List.take_of_length_le (by omega)]

/-- A set of the numbers below n, as an array of truth values. -/
def bset (n : Nat) (s : Nat → Bool) : List AV := (List.range n).map fun i => .sc (.bool (s i))

theorem bset_len (n : Nat) (s : Nat → Bool) : (bset n s).length = n := by simp [bset]
theorem bset_get {n : Nat} {s : Nat → Bool} {q : Nat} (h : q < n) : (bset n s)[q]? = some (.sc (.bool (s q))) := by simp [bset, h]
theorem bset_set (n : Nat) (s : Nat → Bool) (q : Nat) (b : Bool) : (bset n s).set q (.sc (.bool b)) = bset n fun i => if i = q then b else s i := by
  apply List.ext_getElem?
  intro j
  rw [List.getElem?_set]
  by_cases hj : j < n
  · by_cases e : q = j
    · subst e
      simp [bset, hj]
    · rw [if_neg e, bset_get hj, bset_get hj, if_neg (fun h => e h.symm)]
  · have h1 : ∀ s, (bset n s)[j]? = none := fun s => List.getElem?_eq_none (by rw [bset_len]; omega)
    rw [h1, h1]
    split
    · rw [bset_len, if_neg (by omega)]
    · rfl
theorem bset_splice (n : Nat) (s : Nat → Bool) (q : Nat) (b : Bool) : lsplice (bset n s) q [.sc (.bool b)] = bset n fun i => if i = q then b else s i := by rw [lsplice_one, bset_set]
theorem pure_bset (n : Nat) (s : Nat → Bool) : ∀ c ∈ bset n s, Pure c := fun c hc => by
  obtain ⟨a, _, rfl⟩ := List.mem_map.1 hc
  exact .sc _
theorem bset_cell1 (n : Nat) (s : Nat → Bool) : (bset n s).all AV.cell1 = true := by
  rw [List.all_eq_true]
  intro c hc
  obtain ⟨a, _, rfl⟩ := List.mem_map.1 hc
  rfl
theorem bset_congr {n : Nat} {s t : Nat → Bool} (h : ∀ i, i < n → s i = t i) : bset n s = bset n t := List.map_congr_left fun i hi => by rw [h i (List.mem_range.1 hi)]
theorem bset_bools (n : Nat) (s : Nat → Bool) : bset n s = ((List.range n).map s).map fun b => .sc (.bool b) := by simp [bset]

/-- One block, one row, told otherwise. -/
theorem RenB.row {ρ : Nat → Nat → Option (Nat × Nat)} {sz : Nat} {r r' : List AV} (e : r = r') (h : ∀ c ∈ r', Pure c) : RenB ρ (.cells sz [r]) (.cells sz [r']) := by
  subst e
  exact .pure sz [r] (allPure_cons' h)
where
  allPure_cons' {r : List AV} (h : ∀ c ∈ r, Pure c) : ∀ x ∈ [r], ∀ c ∈ x, Pure c := fun x hx => by
    have : x = r := by simpa using hx
    subst this
    exact h

theorem RenB.rows {ρ : Nat → Nat → Option (Nat × Nat)} {sz : Nat} {rows rows' : List (List AV)} (e : rows = rows') (h : ∀ r ∈ rows', ∀ c ∈ r, Pure c) : RenB ρ (.cells sz rows) (.cells sz rows') := by
  subst e
  exact .pure sz rows h

end Go.Av
