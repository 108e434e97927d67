import Derived.Test.YtbpmbofinoinmaaAvN
namespace Go.Av

/-! More rules: numberings that say more, slices built of one row, guards in open regions. -/

theorem Ren.weaken {ρ ρ' : Nat → Nat → Option (Nat × Nat)} {a b : AV} (h : Ren ρ a b) (hw : ∀ g i p, ρ g i = some p → ρ' g i = some p) : Ren ρ' a b := by
  induction h with
  | undef a => exact .undef a
  | sc v => exact .sc v
  | agg xs ys hl _ ih => exact .agg xs ys hl ih
  | tup xs ys hl _ ih => exact .tup xs ys hl ih
  | list sz rows rows' hl hr _ ih => exact .list sz rows rows' hl hr ih
  | cptr xs ys hl _ ih => exact .cptr xs ys hl ih
  | tmap es es' hl hk _ ih => exact .tmap es es' hl hk ih
  | ptr g i g' i' row off h => exact .ptr g i g' i' row off (hw _ _ _ h)
  | hsl g i g' i' start len h => exact .hsl g i g' i' start len (hw _ _ _ h)
  | mref g i g' i' h => exact .mref g i g' i' (hw _ _ _ h)
  | clo fn fs cs fs' cs' h1 h2 _ _ ih1 ih2 => exact .clo fn fs cs fs' cs' h1 h2 ih1 ih2

theorem RenB.weaken {ρ ρ' : Nat → Nat → Option (Nat × Nat)} {x y : Blk} (h : RenB ρ x y) (hw : ∀ g i p, ρ g i = some p → ρ' g i = some p) : RenB ρ' x y := by
  cases h with
  | dead => exact .dead _
  | cells sz rows rows' hl hr h => exact .cells sz rows rows' hl hr fun i r r' j x y a b c d => (h i r r' j x y a b c d).weaken hw
  | map es es' hl hk h => exact .map es es' hl hk fun j x y a b => (h j x y a b).weaken hw

theorem dstep_build1 {g i : Nat} {fr : Fr} {H : Heap} {sz : Nat} {z : List (Nat × Value)} {x : Operand} {cs : List AV} (hx : (ev fr x).cs = some cs) (hl : cs.length = sz) (h1 : cs.all AV.cell1 = true) :
    dstep g i (.buildSlice sz z 1 [(0, x)]) fr H = some (.hsl g i 0 1, hset H g i (.cells sz [cs])) := by
  have e1 : Nat.beq cs.length sz = true := by simp [hl]
  have e2 : Nat.blt 0 (List.replicate 1 (zrow z)).length = true := rfl
  simp only [dstep, List.map_cons, List.map_nil, layRows, hx, e1, e2, h1, Bool.and_self]
  rfl

/-- The two ways of a guard in a region whose order is open. -/
theorem DK.gs {P : Program} {base j : Nat} {xs : List IOper} {fr : Fr} {H : Heap} {acc : List RRec} {K : List RRec → Fr → Heap → Prop} {c : Bool} (h1 : c = true → DK P base j xs fr H acc K) (h2 : c = false → DK P base j xs fr H acc K) : DK P base j xs fr H acc K := by
  cases c with
  | true => exact h1 rfl
  | false => exact h2 rfl

theorem dstep_mk {g i : Nat} {fr : Fr} {H : Heap} {sz bytes : Nat} {z : List (Nat × Value)} {x : Operand} {n : Nat} (hx : ev fr x = .sc (.int .i64 (n : Int))) (h1 : bytes * n ≤ 70368744177664) (h2 : n ≤ 1073741824) :
    dstep g i (.makeSlice sz bytes z x) fr H = some (.hsl g i 0 n, hset H g i (.cells sz (List.replicate n (zrow z)))) := by
  have e1 : Nat.ble (bytes * n) 70368744177664 = true := by simpa using h1
  have e2 : Nat.ble n 1073741824 = true := by simpa using h2
  simp only [dstep, hx]
  show (match Nat.ble (bytes * n) 70368744177664 && Nat.ble n 1073741824 with
    | true => some (AV.hsl g i 0 n, hset H g i (.cells sz (List.replicate n (zrow z))))
    | false => none) = _
  rw [e1, e2]
  rfl

theorem Reg.cv {P : Program} {N k : Nat} {xs : List IOper} {fr : Fr} {H : Heap} {K : Fr → Heap → Prop} {d : Nat} {gd : Option (Nat × Bool)} {f : Operand} {args : List Operand} {g : FuncId} {fs cs : List AV} (hk : k ≤ H.length) (hg : gok fr gd = some true) (hf : ev fr f = .clo (.func g) fs cs)
    (h : CallOK P g (fs ++ avals fr args ++ cs) H fun res H' => Reg P N k xs ((d, res) :: fr) H' K) : Reg P N k (⟨some d, gd, .callV f args⟩ :: xs) fr H K :=
  Reg.callV (x := ⟨some d, gd, .callV f args⟩) hk hg rfl hf h

theorem renArgs_of {ρ : Nat → Nat → Option (Nat × Nat)} : ∀ {l : List AV}, (∀ (j : Nat) x, l[j]? = some x → Ren ρ x x) → RenArgs ρ l l
  | [], _ => trivial
  | a :: l, h => ⟨h 0 a rfl, renArgs_of fun j x hj => h (j + 1) x (by simpa using hj)⟩

theorem Ren.cloArgs {ρ : Nat → Nat → Option (Nat × Nat)} {fn : Fn} {fs cs : List AV} (h : Ren ρ (.clo fn fs cs) (.clo fn fs cs)) : RenArgs ρ cs cs := by
  cases h with
  | clo _ _ _ _ _ h1 h2 h3 h4 => exact renArgs_of fun j x hj => h4 j x x hj hj

/-- A family of blocks, by a function. -/
def fam (n : Nat) (f : Nat → Blk) : List Blk := (List.range n).map f

theorem fam_get {n k : Nat} {f : Nat → Blk} (h : k < n) : (fam n f)[k]? = some (f k) := by simp [fam, h]
theorem fam_len (n : Nat) (f : Nat → Blk) : (fam n f).length = n := by simp [fam]
theorem fam_some {n k : Nat} {f : Nat → Blk} {x : Blk} (h : (fam n f)[k]? = some x) : k < n ∧ x = f k := by
  have hk := (List.getElem?_eq_some_iff.1 h).1
  rw [fam_len] at hk
  rw [fam_get hk] at h
  exact ⟨hk, by injection h with h; exact h.symm⟩

/-- Rows of one cell each, by a function. -/
def row1 (n : Nat) (f : Nat → AV) : List (List AV) := (List.range n).map fun k => [f k]
theorem row1_get {n k : Nat} {f : Nat → AV} (h : k < n) : (row1 n f)[k]? = some [f k] := by simp [row1, h]
theorem row1_len (n : Nat) (f : Nat → AV) : (row1 n f).length = n := by simp [row1]
theorem row1_some {n k : Nat} {f : Nat → AV} {r : List AV} (h : (row1 n f)[k]? = some r) : k < n ∧ r = [f k] := by
  have hk := (List.getElem?_eq_some_iff.1 h).1
  rw [row1_len] at hk
  rw [row1_get hk] at h
  exact ⟨hk, by injection h with h; exact h.symm⟩
theorem row1_set {n k : Nat} {f : Nat → AV} {v : AV} : (row1 n f).set k [v] = row1 n fun j => if j = k then v else f j := by
  apply List.ext_getElem?
  intro j
  rw [List.getElem?_set]
  by_cases hj : j < n
  · by_cases e : k = j
    · subst e; rw [if_pos rfl, if_pos (by rw [row1_len]; exact hj), row1_get hj, if_pos rfl]
    · rw [if_neg e, row1_get hj, row1_get hj, if_neg (fun h => e h.symm)]
  · rw [List.getElem?_eq_none (by rw [row1_len]; omega)]
    split
    · rw [if_neg (by rw [row1_len]; omega), List.getElem?_eq_none (by rw [row1_len]; omega)]
    · rw [List.getElem?_eq_none (by rw [row1_len]; omega)]

theorem row1_rep (n : Nat) (v : AV) : List.replicate n [v] = row1 n fun _ => v := by simp [row1, List.map_const']

theorem RenB.row1 {ρ : Nat → Nat → Option (Nat × Nat)} {n : Nat} {f f' : Nat → AV} (h : ∀ k, k < n → Ren ρ (f k) (f' k)) : RenB ρ (.cells 1 (row1 n f)) (.cells 1 (row1 n f')) := by
  refine .cells 1 _ _ (by rw [row1_len, row1_len]) (fun i r r' a b => ?_) fun i r r' j x y a b c d => ?_
  · obtain ⟨_, rfl⟩ := row1_some a
    obtain ⟨_, rfl⟩ := row1_some b
    rfl
  · obtain ⟨h1, rfl⟩ := row1_some a
    obtain ⟨_, rfl⟩ := row1_some b
    cases j with
    | zero => simp at c d; subst c; subst d; exact h i h1
    | succ j => simp at c

theorem CongB.row1 {T : AV → AV → Prop} {n : Nat} {f f' : Nat → AV} (h : ∀ k, k < n → Cong T (f k) (f' k)) : CongB T (.cells 1 (row1 n f)) (.cells 1 (row1 n f')) := by
  refine .cells 1 _ _ (by rw [row1_len, row1_len]) (fun i r r' a b => ?_) fun i r r' j x y a b c d => ?_
  · obtain ⟨_, rfl⟩ := row1_some a
    obtain ⟨_, rfl⟩ := row1_some b
    rfl
  · obtain ⟨h1, rfl⟩ := row1_some a
    obtain ⟨_, rfl⟩ := row1_some b
    cases j with
    | zero => simp at c d; subst c; subst d; exact h i h1
    | succ j => simp at c

end Go.Av
