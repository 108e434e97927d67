import Derived.Test.YtbpmbofinoinmaaFaG1
namespace Go.Proofs.Ytbpmbofinoinmaa
open Go.Av Go.Proofs

/-! Flags, bit by bit. -/

def bv (x : Int) : BitVec 64 := BitVec.ofInt 64 x
theorem wrap64 (n : Int) : -9223372036854775808 ≤ IntKind.i64.wrap n ∧ IntKind.i64.wrap n ≤ 9223372036854775807 := by rw [IntKind.wrap_i64]; omega
theorem bv_wrap (n : Int) : bv (IntKind.i64.wrap n) = bv n := by
  unfold bv
  rw [IntKind.wrap_i64]
  apply BitVec.eq_of_toNat_eq
  rw [BitVec.toNat_ofInt, BitVec.toNat_ofInt]
  omega
theorem bv_nat (v : BitVec 64) : bv (v.toNat : Int) = v := by
  unfold bv
  apply BitVec.eq_of_toNat_eq
  rw [BitVec.toNat_ofInt]
  have := v.isLt
  omega
theorem bv_inj {a b : Int} (ha : -9223372036854775808 ≤ a ∧ a ≤ 9223372036854775807) (hb : -9223372036854775808 ≤ b ∧ b ≤ 9223372036854775807) (h : bv a = bv b) : a = b := by
  have h := congrArg BitVec.toNat h
  unfold bv at h
  rw [BitVec.toNat_ofInt, BitVec.toNat_ofInt] at h
  omega
theorem bv_and (a b : Int) : bv (andI a b) = bv a &&& bv b := by
  unfold andI
  rw [bv_wrap]
  exact bv_nat _
theorem and_range (a b : Int) : -9223372036854775808 ≤ andI a b ∧ andI a b ≤ 9223372036854775807 := wrap64 _

theorem flagK_range (w : Nat → Bool) (fl : List Int) : ∀ k, -9223372036854775808 ≤ flagK w fl k ∧ flagK w fl k ≤ 9223372036854775807
  | 0 => by simp [flagK]
  | k + 1 => by
    unfold flagK
    split
    · exact and_range _ _
    · exact flagK_range w fl k

theorem flagK_bit (w : Nat → Bool) (fl : List Int) (b : Nat) (hb : b < 64) : ∀ k, (bv (flagK w fl k)).getLsbD b = (List.range k).all fun i => !w i || (bv ((fl[i]?).getD 0)).getLsbD b
  | 0 => by
    show (bv (-1)).getLsbD b = true
    have : bv (-1) = BitVec.allOnes 64 := by decide
    rw [this, BitVec.getLsbD_allOnes]
    exact decide_eq_true hb
  | k + 1 => by
    have ih := flagK_bit w fl b hb k
    rw [List.range_succ, List.all_append]
    unfold flagK
    split
    · rename_i h
      rw [bv_and, BitVec.getLsbD_and, ih]
      simp [h]
    · rename_i h
      rw [ih]
      simp [h]

theorem flag_none {w s : Nat → Bool} {fl : List Int} {n : Nat} (h : ∀ i, i < n → s i = true → w i = true) : IntKind.i64.wrap ((bv (flagK w fl n) &&& ~~~ bv (flagK s fl n)).toNat : Int) = 0 := by
  have h0 : bv (flagK w fl n) &&& ~~~ bv (flagK s fl n) = 0#64 := by
    apply BitVec.eq_of_getLsbD_eq
    intro b hb
    rw [BitVec.getLsbD_and, BitVec.getLsbD_not, flagK_bit w fl b hb, flagK_bit s fl b hb]
    cases e : (List.range n).all fun i => !w i || (bv ((fl[i]?).getD 0)).getLsbD b with
    | false => simp
    | true =>
      have : ((List.range n).all fun i => !s i || (bv ((fl[i]?).getD 0)).getLsbD b) = true := by
        rw [List.all_eq_true] at e ⊢
        intro i hi
        have := e i hi
        cases es : s i with
        | false => rfl
        | true =>
          rw [h i (List.mem_range.1 hi) es] at this
          simpa using this
      rw [this]
      simp
  rw [h0]
  decide

theorem flag_every {w : Nat → Bool} {fl : List Int} {n : Nat} : andI (flagK w fl n) (flagK (fun _ => true) fl n) = flagK (fun _ => true) fl n := by
  refine bv_inj (and_range _ _) (flagK_range _ _ _) ?_
  rw [bv_and]
  apply BitVec.eq_of_getLsbD_eq
  intro b hb
  rw [BitVec.getLsbD_and, flagK_bit w fl b hb, flagK_bit _ fl b hb]
  cases e : (List.range n).all fun i => !(fun _ => true) i || (bv ((fl[i]?).getD 0)).getLsbD b with
  | false => simp
  | true =>
    have : ((List.range n).all fun i => !w i || (bv ((fl[i]?).getD 0)).getLsbD b) = true := by
      rw [List.all_eq_true] at e ⊢
      intro i hi
      have := e i hi
      simp at this
      simp [this]
    rw [this]
    simp

/-! What Agree gives to survivors. -/

theorem agreeGo_inv {n : Nat} {l : List C} (hn64 : n ≤ 64) : ∀ (f : Nat) (r : Int) (ps : List Pr), 0 ≤ r → AInv n l r ps → BInv n l r ps → (f : Int) + r = l.length + 2 →
    ∃ r' : Int, (agreeGo n l f r ps).2 = r' ∧ 0 ≤ r' ∧ r' ≤ l.length + 2 ∧ AInv n l r' (agreeGo n l f r ps).1 ∧ BInv n l r' (agreeGo n l f r ps).1 ∧ busyS l r' (agreeGo n l f r ps).1 n = false
  | 0, r, ps, hr, ha, hb, hf => by
    refine ⟨r, rfl, hr, by omega, ha, hb, ?_⟩
    cases e : busyS l r ps n with
    | false => exact e
    | true => have := ha.busy e; omega
  | f + 1, r, ps, hr, ha, hb, hf => by
    unfold agreeGo
    split
    · exact agreeGo_inv hn64 f (r + 1) _ (by omega) (ha.step hr) (hb.step hn64 hr ha) (by omega)
    · rename_i e
      exact ⟨r, rfl, hr, by omega, ha, hb, by simpa using e⟩

theorem knownGo_any2 (b : Bool) : ∀ (ks : List Int) (s : Nat → Bool) (j : Nat), knownGo b ks s j = (s j || (b && ks.any fun x => decide (x.toNat = j)))
  | [], s, j => by simp [knownGo]
  | x :: ks, s, j => by
    show knownGo b ks (orW s x.toNat b) j = _
    rw [knownGo_any2 b ks]
    unfold orW
    by_cases e : j = x.toNat
    · subst e; simp [Bool.or_assoc]; cases b <;> simp
    · have e' : ¬ x.toNat = j := fun h => e h.symm
      simp [e, e']

theorem knownAll_any2 (w : Nat → Bool) : ∀ (L : List (List Int)) (i : Nat) (s : Nat → Bool) (j : Nat), knownAll w i L s j = (s j || (List.range L.length).any fun q => w (i + q) && ((L[q]?).getD []).any fun x => decide (x.toNat = j))
  | [], i, s, j => by simp [knownAll]
  | ks :: L, i, s, j => by
    show knownAll w (i + 1) L (knownGo (w i) ks s) j = _
    rw [knownAll_any2 w L, knownGo_any2, List.length_cons, List.range_succ_eq_map, List.any_cons, List.any_map, Bool.or_assoc]
    congr 2
    simp only [Function.comp_def, List.getElem?_cons_succ, Nat.succ_eq_add_one]
    have e : ∀ q, i + 1 + q = i + (q + 1) := fun q => by omega
    simp only [e]

theorem elems_mem {n : Nat} {s : Nat → Bool} {k : Nat} : (k : Int) ∈ elems n s ↔ k < n ∧ s k = true := by
  unfold elems
  rw [List.mem_map]
  constructor
  · rintro ⟨q, hq, e⟩
    have : q = k := by omega
    subst this
    obtain ⟨h1, h2⟩ := List.mem_filter.1 hq
    exact ⟨List.mem_range.1 h1, h2⟩
  · rintro ⟨h1, h2⟩
    exact ⟨k, List.mem_filter.2 ⟨List.mem_range.2 h1, h2⟩, rfl⟩

end Go.Proofs.Ytbpmbofinoinmaa
