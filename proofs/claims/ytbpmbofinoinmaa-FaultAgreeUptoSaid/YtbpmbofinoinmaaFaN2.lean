import Derived.Test.YtbpmbofinoinmaaFaN1
namespace Go.Proofs.Ytbpmbofinoinmaa
open Go.Av Go.Proofs

/-! What Check's OK says. -/

structure GoodC (n : Int) (c : C) : Prop where
  r0 : 0 ≤ c.rank
  r1 : c.rank < n
  t0 : 0 ≤ c.round
  t1 : c.round ≤ 100
  s0 : 0 ≤ c.sent
  s1 : c.sent < n

theorem checkGo_zero (n : Int) : ∀ (l : List C) (s : Nat → Bool), checkGo n s l = 0 → (∀ c ∈ l, GoodC n c ∧ s c.rank.toNat = false) ∧ Dist l
  | [], s, _ => ⟨fun c h => (by cases h), fun k c h => (by simp at h)⟩
  | c :: r, s, h => by
    unfold checkGo at h
    split at h
    · cases h
    · rename_i h1
      split at h
      · cases h
      · rename_i h2
        split at h
        · cases h
        · rename_i h3
          obtain ⟨ih1, ih2⟩ := checkGo_zero n r _ h
          have hg : GoodC n c := by
            simp [badRank] at h1
            simp [badTime] at h2
            exact ⟨by omega, by omega, by omega, by omega, by omega, by omega⟩
          refine ⟨fun c' hc' => ?_, fun k c' hk => ?_⟩
          · rcases List.mem_cons.1 hc' with e | e
            · subst e; exact ⟨hg, by simpa using h3⟩
            · obtain ⟨k1, k2⟩ := ih1 c' e
              refine ⟨k1, ?_⟩
              split at k2
              · cases k2
              · exact k2
          · cases k with
            | zero => rfl
            | succ k =>
              have hk' : r[k]? = some c' := by simpa using hk
              obtain ⟨k1, k2⟩ := ih1 c' (List.mem_of_getElem? hk')
              have hne : ¬ c'.rank.toNat = c.rank.toNat := by
                intro e
                rw [if_pos e] at k2
                cases k2
              have h4 := k1.r0
              have h5 := hg.r0
              show findC (c :: r.take k) c'.rank = none
              unfold findC
              rw [List.find?_cons]
              have : decide (c'.rank = c.rank) = false := by simp; omega
              rw [this]
              exact ih2 k c' hk'

theorem check_zero {n : Int} {l : List C} (h : checkS n l = 0) : (1 ≤ n ∧ n ≤ 64) ∧ (∀ c ∈ l, GoodC n c) ∧ Dist l := by
  unfold checkS at h
  split at h
  · cases h
  · rename_i h1
    obtain ⟨h2, h3⟩ := checkGo_zero n l _ h
    refine ⟨by simp at h1; omega, fun c hc => (h2 c hc).1, h3⟩

theorem findC_mem {l : List C} {i : Int} {c : C} (h : findC l i = some c) : c ∈ l ∧ c.rank = i := by
  unfold findC at h
  have h1 := List.find?_some h
  exact ⟨List.mem_of_find?_eq_some h, by simpa using (of_decide_eq_true h1).symm⟩

theorem reach_bounds {n : Nat} {l : List C} (hl : ∀ c ∈ l, GoodC n c) (h1 : 1 ≤ n) (i r : Int) : 0 ≤ reachS n l i r ∧ reachS n l i r ≤ n - 1 := by
  unfold reachS
  split
  · omega
  · rename_i c e
    have := hl c (findC_mem e).1
    have := this.s0
    have := (hl c (findC_mem e).1).s1
    split
    · omega
    · split <;> omega

/-! The news, plainly. -/

def hearF (n : Nat) (l : List C) (r : Int) (out : List Int) (k : Nat) : List Nat := X51.from' n l r (newsS r out) n k
def outI (l : List C) (r : Int) (F : Nat → List Nat) (out : List Int) : Nat → List Int
  | 0 => out
  | i + 1 => if livesS l i r = true then newsT r (outI l r F out i) i (F i) else outI l r F out i
def stepN (n : Nat) (l : List C) (r : Int) (out : List Int) : List Int := outI l r (hearF n l r out) out n
def sentN (n : Nat) (l : List C) (r : Int) (out : List Int) : Bool := X51.sent l r (newsS r out) n
def newsGo (n : Nat) (l : List C) : Nat → Int → List Int → List Int × Int
  | 0, r, out => (out, r - 1)
  | f + 1, r, out => if sentN n l r out = true then newsGo n l f (r + 1) (stepN n l r out) else (out, r - 1)
def news0 (n : Nat) (src : Nat) : List Int := (List.replicate n (-1)).set src 0

theorem newsT_len (r : Int) (out : List Int) (j : Nat) (F : List Nat) : (newsT r out j F).length = out.length := by
  unfold newsT
  split <;> simp

theorem outI_len (l : List C) (r : Int) (F : Nat → List Nat) (out : List Int) : ∀ i, (outI l r F out i).length = out.length
  | 0 => rfl
  | i + 1 => by
    unfold outI
    split
    · rw [newsT_len, outI_len l r F out i]
    · exact outI_len l r F out i

def cnt (out : List Int) : Nat := (out.filter fun v => decide (v < 0)).length

theorem cnt_set : ∀ (out : List Int) (j : Nat) (r : Int), 0 ≤ r → (∃ v, out[j]? = some v ∧ v < 0) → cnt (out.set j r) + 1 = cnt out
  | [], j, r, _, ⟨v, h, _⟩ => by simp at h
  | a :: out, 0, r, hr, ⟨v, h, hv⟩ => by
    simp at h
    subst h
    unfold cnt
    rw [List.set_cons_zero, List.filter_cons, List.filter_cons, if_neg (by simp; omega), if_pos (by simp; omega)]
    rfl
  | a :: out, j + 1, r, hr, ⟨v, h, hv⟩ => by
    have ih := cnt_set out j r hr ⟨v, by simpa using h, hv⟩
    unfold cnt at ih ⊢
    rw [List.set_cons_succ, List.filter_cons, List.filter_cons]
    split
    · simp only [List.length_cons]; omega
    · exact ih

theorem newsT_cnt (r : Int) (hr : 0 ≤ r) (out : List Int) (j : Nat) (F : List Nat) : newsT r out j F = out ∨ cnt (newsT r out j F) + 1 = cnt out := by
  unfold newsT
  split
  · exact .inl rfl
  · rename_i h
    right
    simp only [not_or] at h
    cases e : out[j]? with
    | none => exact absurd e h.1
    | some v =>
      rw [e] at h
      exact cnt_set out j r hr ⟨v, e, by simp at h; omega⟩

theorem outI_cnt (l : List C) (r : Int) (hr : 0 ≤ r) (F : Nat → List Nat) (out : List Int) : ∀ i, outI l r F out i = out ∨ cnt (outI l r F out i) + 1 ≤ cnt out
  | 0 => .inl rfl
  | i + 1 => by
    unfold outI
    split
    · rcases newsT_cnt r hr (outI l r F out i) i (F i) with h | h
      · rw [h]; exact outI_cnt l r hr F out i
      · rcases outI_cnt l r hr F out i with h2 | h2
        · right; rw [h2] at h ⊢; omega
        · right; omega
    · exact outI_cnt l r hr F out i

theorem newsT_mem {r : Int} {out : List Int} {j : Nat} {F : List Nat} {v : Int} (h : v ∈ newsT r out j F) : v ∈ out ∨ v = r := by
  unfold newsT at h
  split at h
  · exact .inl h
  · exact (List.mem_or_eq_of_mem_set h)

theorem outI_mem {l : List C} {r : Int} {F : Nat → List Nat} {out : List Int} {v : Int} : ∀ i, v ∈ outI l r F out i → v ∈ out ∨ v = r
  | 0, h => .inl h
  | i + 1, h => by
    unfold outI at h
    split at h
    · rcases newsT_mem h with h | h
      · exact outI_mem i h
      · exact .inr h
    · exact outI_mem i h

def flg (r : Int) (out : List Int) : Nat := if (r - 1) ∈ out then 1 else 0

theorem flg_of_sent {n : Nat} {l : List C} {r : Int} {out : List Int} (h : sentN n l r out = true) : flg r out = 1 := by
  unfold sentN X51.sent at h
  rw [List.any_eq_true] at h
  obtain ⟨j, _, hj⟩ := h
  simp only [Bool.and_eq_true] at hj
  have h1 := hj.1
  unfold newsS at h1
  split at h1
  · rename_i e
    unfold flg
    rw [if_pos (List.mem_of_getElem? e)]
  · cases h1

theorem next_less {n : Nat} {l : List C} {r : Int} {out : List Int} (hr : 1 ≤ r) (hv : ∀ v ∈ out, v < r) : cnt (stepN n l r out) + flg (r + 1) (stepN n l r out) ≤ cnt out ∧ ∀ v ∈ stepN n l r out, v < r + 1 := by
  refine ⟨?_, fun v h => ?_⟩
  · rcases outI_cnt l r (by omega) (hearF n l r out) out n with h | h
    · show cnt (outI l r (hearF n l r out) out n) + flg (r + 1) (outI l r (hearF n l r out) out n) ≤ _
      rw [h]
      unfold flg
      rw [if_neg (fun h => by have := hv _ h; omega)]
      omega
    · have : flg (r + 1) (stepN n l r out) ≤ 1 := by unfold flg; split <;> omega
      show cnt (outI l r (hearF n l r out) out n) + _ ≤ _
      omega
  · rcases outI_mem n h with h | h
    · have := hv v h; omega
    · omega

end Go.Proofs.Ytbpmbofinoinmaa
