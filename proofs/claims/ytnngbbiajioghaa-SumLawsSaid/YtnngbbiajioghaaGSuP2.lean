import Derived.Test.YtnngbbiajioghaaGSuE3
namespace Go.Proofs.Ytnngbbiajioghaa
open Go.Av Go.Proofs
set_option exponentiation.threshold 4000
set_option maxRecDepth 20000

/-! Operations are commutative and associative. -/

theorem sg_cases {b : Nat} (h : b < 18446744073709551616) : sg b = if b < 9223372036854775808 then (b : Int) else (b : Int) - 18446744073709551616 := by
  have hb : IntKind.i64.bits = 64 := rfl
  have hs : IntKind.i64.signed = true := rfl
  unfold sg
  simp only [IntKind.wrap, hb, hs]
  simp
  split <;> split <;> omega
theorem sg_inj {a b : Nat} (ha : a < 18446744073709551616) (hb : b < 18446744073709551616) (h : sg a = sg b) : a = b := by
  rw [sg_cases ha, sg_cases hb] at h
  split at h <;> split at h <;> omega

theorem cmpI_neg (x y : Int) : cmpI x y < 0 ↔ x < y := cmpI_lt x y
theorem cmpI_zero (x y : Int) : cmpI x y = 0 ↔ x = y := by
  unfold cmpI
  split
  · omega
  · split <;> omega
theorem cmpI_pos (x y : Int) : 0 < cmpI x y ↔ y < x := by
  unfold cmpI
  split
  · omega
  · split <;> omega

/-- The one that comes first, by a number that tells all apart. -/
def minBy (f : Vl → Int) (a b : Vl) : Vl := if f b < f a then b else a
theorem minBy_comm {f : Vl → Int} {a b : Vl} (h : f a = f b → a = b) : minBy f a b = minBy f b a := by
  unfold minBy
  split <;> split
  · omega
  · rfl
  · rfl
  · exact h (by omega)
theorem minBy_assoc {f : Vl → Int} {a b c : Vl} : minBy f (minBy f a b) c = minBy f a (minBy f b c) := by
  unfold minBy
  repeat' split
  all_goals first | rfl | omega

/-- .. by two numbers. -/
def lexBy (f g : Vl → Int) (a b : Vl) : Vl := if f b < f a ∨ (f b = f a ∧ g b < g a) then b else a
theorem lexBy_comm {f g : Vl → Int} {a b : Vl} (h : f a = f b → g a = g b → a = b) : lexBy f g a b = lexBy f g b a := by
  unfold lexBy
  split <;> split
  · omega
  · rfl
  · rfl
  · exact h (by omega) (by omega)
theorem lexBy_assoc {f g : Vl → Int} {a b c : Vl} : lexBy f g (lexBy f g a b) c = lexBy f g a (lexBy f g b c) := by
  unfold lexBy
  repeat' split
  all_goals first | rfl | omega

theorem ordN_inj {a b : Nat} (ha : a < 18446744073709551616) (hb : b < 18446744073709551616) (h : ordN a = ordN b) : a = b := by
  unfold ordN at h
  split at h <;> split at h <;> omega
theorem quiet_id {a : Nat} (h : ¬ infN < a % 9223372036854775808) : quiet a = a := if_neg h

def fInt (v : Vl) : Int := sg v.1
def fIntN (v : Vl) : Int := - sg v.1
def fReal (v : Vl) : Int := (ordN v.1 : Int)
def fRealN (v : Vl) : Int := - (ordN v.1 : Int)
def fPl (v : Vl) : Int := v.2
abbrev nanV (v : Vl) : Prop := infN < v.1 % 9223372036854775808

theorem opR_min (a b : Vl) : opR 3 1 a b = minBy fInt a b := by
  unfold opR minBy fInt
  simp only [if_true, show ¬ (3 : Int) = 1 by decide, show ¬ (3 : Int) = 2 by decide, if_false, cmpI_neg]
theorem opR_max (a b : Vl) : opR 4 1 a b = minBy fIntN a b := by
  unfold opR minBy fIntN
  simp only [if_true, show ¬ (4 : Int) = 1 by decide, show ¬ (4 : Int) = 2 by decide, show ¬ (4 : Int) = 3 by decide, if_false, cmpI_neg]
  congr 1
  simp
theorem compareS_neg {a b : Nat} (ha : ¬ infN < a % 9223372036854775808) (hb : ¬ infN < b % 9223372036854775808) : compareS a b < 0 ↔ (ordN a : Int) < ordN b := by
  unfold compareS
  rw [quiet_id ha, quiet_id hb, cmpI_neg]
theorem opR_rmin {a b : Vl} (ha : ¬ nanV a) (hb : ¬ nanV b) : opR 3 2 a b = minBy fReal a b := by
  rw [opR_real3, if_neg (fun h => h.elim ha hb)]
  unfold minBy fReal
  simp only [compareS_neg hb ha]
theorem opR_rmax {a b : Vl} (ha : ¬ nanV a) (hb : ¬ nanV b) : opR 4 2 a b = minBy fRealN a b := by
  rw [opR_real4, if_neg (fun h => h.elim ha hb)]
  unfold minBy fRealN
  simp only [compareS_neg ha hb]
  congr 1
  simp
theorem opR_rnan {op : Int} (ho : op = 3 ∨ op = 4) {a b : Vl} (h : nanV a ∨ nanV b) : opR op 2 a b = (nanN, 0) := by
  rcases ho with rfl | rfl
  · rw [opR_real3, if_pos h]
  · rw [opR_real4, if_pos h]
theorem nanV_nan : nanV (nanN, 0) := by unfold nanV; decide
theorem minBy_or (f : Vl → Int) (a b : Vl) : minBy f a b = a ∨ minBy f a b = b := by
  unfold minBy
  split
  · exact .inr rfl
  · exact .inl rfl
theorem opR_minloc (a b : Vl) : opR 10 3 a b = lexBy fInt fPl a b := by
  unfold opR lexBy fInt fPl
  simp only [show ¬ (3 : Int) = 1 by decide, show ¬ (3 : Int) = 2 by decide, if_false, if_true]
  congr 1
  rw [locS_lt (.inl rfl)]
  refine propext ⟨fun h => ?_, fun h => ?_⟩ <;> omega
theorem opR_maxloc (a b : Vl) : opR 11 3 a b = lexBy fIntN fPl a b := by
  unfold opR lexBy fIntN fPl
  simp only [show ¬ (3 : Int) = 1 by decide, show ¬ (3 : Int) = 2 by decide, show ¬ (11 : Int) = 10 by decide, if_false]
  congr 1
  rw [locS_lt (.inr rfl)]
  refine propext ⟨fun h => ?_, fun h => ?_⟩ <;> omega

/-- What two sums know together. -/
def comb (a s : St) : St := ⟨(a.n + s.n) % big, a.nan || s.nan, a.plus || s.plus, a.minus || s.minus, max a.zero s.zero⟩
theorem comb_comm (a b : St) : comb a b = comb b a := by
  unfold comb
  rw [Nat.add_comm, Bool.or_comm, Bool.or_comm a.plus, Bool.or_comm a.minus, Nat.max_comm]
theorem comb_assoc (a b c : St) : comb (comb a b) c = comb a (comb b c) := by
  unfold comb
  simp only [Bool.or_assoc, Nat.max_assoc, Nat.add_assoc, Nat.mod_add_mod, Nat.add_mod_mod]
theorem comb_zero {a : St} (h : a.n < big) : comb s0 a = a := by
  unfold comb s0
  simp only [Bool.false_or, Nat.zero_max, Nat.zero_add, Nat.mod_eq_of_lt h]

/-- A number near 0, in two's complement. -/
def Sml (K : Nat) (s : St) : Prop := s.n < big ∧ (s.n ≤ K ∨ big ≤ s.n + K)
theorem Sml.comb {K L : Nat} {a b : St} (ha : Sml K a) (hb : Sml L b) : Sml (K + L) (comb a b) := by
  have := big_pos
  unfold Sml Go.Proofs.Ytnngbbiajioghaa.comb at *
  simp only
  generalize big = B at *
  refine ⟨Nat.mod_lt _ this, ?_⟩
  by_cases h : a.n + b.n < B
  · rw [Nat.mod_eq_of_lt h]; omega
  · rw [Nat.mod_eq_sub_mod (by omega), Nat.mod_eq_of_lt (by omega)]; omega
theorem Sml.mono {K L : Nat} {a : St} (ha : Sml K a) (h : K ≤ L) : Sml L a := ⟨ha.1, by have := ha.2; omega⟩
theorem blen_small {N : Nat} (h : N < 2 ^ 2240) : ¬ 2240 < blen N := by
  have := (blen_iff N 2240).2 h
  omega
theorem big_facts2 : 4 * 2 ^ 2240 ≤ 2 ^ 2303 ∧ big = 2 * 2 ^ 2303 := big_facts
theorem Sml.abs {K : Nat} {a : St} (ha : Sml K a) (hK : K < 2 ^ 2240) : absN a.n < 2 ^ 2240 := by
  obtain ⟨f1, f2⟩ := big_facts2
  unfold Sml at ha
  unfold absN
  rw [show (2 : Nat) ^ 2304 = big from rfl]
  generalize big = B at *
  generalize 2 ^ 2303 = C at *
  generalize 2 ^ 2240 = D at *
  split <;> omega
theorem mergeR_small {K L : Nat} {a b : St} (ha : Sml K a) (hb : Sml L b) (h : K + L < 2 ^ 2240) : mergeR a b = (0, comb a b) := by
  have h2 : ¬ 2240 < blen (absN ((a.n + b.n) % big)) := blen_small ((ha.comb hb).abs h)
  unfold mergeR mergeS
  rw [if_neg h2]
  rfl
theorem sml_zero : Sml 0 s0 := ⟨big_pos, .inl (Nat.le_refl _)⟩
def oneB : Nat := 2 ^ 2098
theorem sml_one {b : Nat} (hb0 : b < 18446744073709551616) : Sml oneB (oneS b) := by
  have hz : Sml 0 (St.mk 0 false false false 0) := ⟨big_pos, .inl (Nat.le_refl _)⟩
  unfold oneS
  split
  · exact ⟨big_pos, .inl (Nat.zero_le _)⟩
  · split
    · exact ⟨big_pos, .inl (Nat.zero_le _)⟩
    · split
      · exact ⟨big_pos, .inl (Nat.zero_le _)⟩
      · rename_i h1 h2 h3
        have hlt : oneN b < oneB := oneN_lt (by omega)
        have hb : oneB < big := Nat.pow_lt_pow_right (by decide) (by decide)
        by_cases hs : 9223372036854775808 ≤ b
        · rw [if_pos hs]
          have hpos : 0 < oneN b := by
            refine oneN_pos fun h0 => ?_
            unfold infN at *
            omega
          show big - oneN b < big ∧ (big - oneN b ≤ oneB ∨ big ≤ big - oneN b + oneB)
          clear h1 h2 h3
          generalize big = B at *
          generalize oneN b = x at *
          generalize oneB = y at *
          exact ⟨by omega, .inr (by omega)⟩
        · rw [if_neg hs]
          exact ⟨Nat.lt_trans hlt hb, .inl (Nat.le_of_lt hlt)⟩
theorem oneB_60 (k : Nat) (h : k ≤ 4096) : k * oneB < 2 ^ 2240 := by
  have h1 : k * oneB ≤ 2 ^ 12 * 2 ^ 2098 := Nat.mul_le_mul_right _ h
  rw [← Nat.pow_add] at h1
  exact Nat.lt_of_le_of_lt h1 (Nat.pow_lt_pow_right (by decide) (by decide))
theorem twoN_eq {a b : Nat} (ha : a < 18446744073709551616) (hb : b < 18446744073709551616) : twoN a b = (comb (oneS a) (oneS b)).value := by
  unfold twoN
  have h2 := oneB_60 2 (by decide)
  have h1 : mergeR s0 (oneS a) = (0, oneS a) := by
    rw [mergeR_small sml_zero (sml_one ha) (by omega), comb_zero (sml_one ha).1]
  rw [h1]
  simp only
  rw [mergeR_small (sml_one ha) (sml_one hb) (by omega)]
theorem twoN_comm {a b : Nat} (ha : a < 18446744073709551616) (hb : b < 18446744073709551616) : twoN a b = twoN b a := by rw [twoN_eq ha hb, twoN_eq hb ha, comb_comm]

/-- All that Check lets pass. -/
theorem check_cases {op kind : Int} (h : checkE op kind = 0) : (kind = 1 ∧ 1 ≤ op ∧ op ≤ 9) ∨ (kind = 2 ∧ (op = 1 ∨ op = 3 ∨ op = 4)) ∨ (kind = 3 ∧ (op = 10 ∨ op = 11)) := by
  have hn := check_op h
  unfold checkE at h
  split at h
  · cases h
  · rename_i hc
    rw [opNil_iff (by omega) (by omega) (by omega) (by omega)] at hn
    simp only [Bool.not_eq_false', Bool.or_eq_true, Bool.and_eq_true, decide_eq_true_eq] at hn
    omega

theorem opR_comm {op kind : Int} (hc : checkE op kind = 0) {a b : Vl} (ha : a.1 < 18446744073709551616) (hb : b.1 < 18446744073709551616) (pa : kind ≠ 3 → a.2 = 0) (pb : kind ≠ 3 → b.2 = 0) : opR op kind a b = opR op kind b a := by
  have e1 : kind ≠ 3 → a.1 = b.1 → a = b := fun hk h => Prod.ext h ((pa hk).trans (pb hk).symm)
  rcases check_cases hc with ⟨rfl, h1, h2⟩ | ⟨rfl, h1⟩ | ⟨rfl, h1⟩
  · have e2 : sg a.1 = sg b.1 → a = b := fun h => e1 (by decide) (sg_inj ha hb h)
    rcases (by omega : op = 1 ∨ op = 2 ∨ op = 3 ∨ op = 4 ∨ op = 5 ∨ op = 6 ∨ op = 7 ∨ op = 8 ∨ op = 9) with rfl | rfl | rfl | rfl | rfl | rfl | rfl | rfl | rfl
    · simp only [opR, if_true, Nat.add_comm]
    · unfold opR
      simp only [if_true, show ¬ (2 : Int) = 1 by decide, if_false]
      rw [Nat.mul_comm]
    · rw [opR_min, opR_min]; exact minBy_comm e2
    · rw [opR_max, opR_max]; exact minBy_comm fun h => e2 (by unfold fIntN at h; omega)
    · unfold opR
      simp (decide := true) only [if_true, if_false]
      rw [Nat.and_comm]
    · unfold opR
      simp (decide := true) only [if_true, if_false]
      rw [Nat.or_comm]
    · unfold opR
      simp (decide := true) only [if_true, if_false]
      rw [Nat.xor_comm]
    · unfold opR
      simp (decide := true) only [if_true, if_false]
      rw [Bool.and_comm]
    · unfold opR
      simp (decide := true) only [if_true, if_false]
      rw [Bool.or_comm]
  · rcases h1 with rfl | rfl | rfl
    · unfold opR
      simp (decide := true) only [if_true, if_false]
      rw [twoN_comm ha hb]
    · by_cases hn : nanV a ∨ nanV b
      · rw [opR_rnan (.inl rfl) hn, opR_rnan (.inl rfl) hn.symm]
      · rw [opR_rmin (fun h => hn (.inl h)) (fun h => hn (.inr h)), opR_rmin (fun h => hn (.inr h)) (fun h => hn (.inl h))]
        exact minBy_comm fun h => e1 (by decide) (ordN_inj ha hb (by unfold fReal at h; omega))
    · by_cases hn : nanV a ∨ nanV b
      · rw [opR_rnan (.inr rfl) hn, opR_rnan (.inr rfl) hn.symm]
      · rw [opR_rmax (fun h => hn (.inl h)) (fun h => hn (.inr h)), opR_rmax (fun h => hn (.inr h)) (fun h => hn (.inl h))]
        exact minBy_comm fun h => e1 (by decide) (ordN_inj ha hb (by unfold fRealN at h; omega))
  · rcases h1 with rfl | rfl
    · rw [opR_minloc, opR_minloc]
      exact lexBy_comm fun h1 h2 => Prod.ext (sg_inj ha hb h1) h2
    · rw [opR_maxloc, opR_maxloc]
      exact lexBy_comm fun h1 h2 => Prod.ext (sg_inj ha hb (by unfold fIntN at h1; omega)) h2

theorem opR_assoc {op kind : Int} (hc : checkE op kind = 0) (hs : ¬ (op = 1 ∧ kind = 2)) {a b c : Vl} : opR op kind (opR op kind a b) c = opR op kind a (opR op kind b c) := by
  rcases check_cases hc with ⟨rfl, h1, h2⟩ | ⟨rfl, h1⟩ | ⟨rfl, h1⟩
  · rcases (by omega : op = 1 ∨ op = 2 ∨ op = 3 ∨ op = 4 ∨ op = 5 ∨ op = 6 ∨ op = 7 ∨ op = 8 ∨ op = 9) with rfl | rfl | rfl | rfl | rfl | rfl | rfl | rfl | rfl
    · simp only [opR, if_true, Nat.mod_add_mod, Nat.add_mod_mod, Nat.add_assoc]
    · unfold opR
      simp (decide := true) only [if_true, if_false, Nat.mul_mod_mod, Nat.mod_mul_mod, Nat.mul_assoc]
    · simp only [opR_min]; exact minBy_assoc
    · simp only [opR_max]; exact minBy_assoc
    · unfold opR
      simp (decide := true) only [if_true, if_false, Nat.and_assoc]
    · unfold opR
      simp (decide := true) only [if_true, if_false, Nat.or_assoc]
    · unfold opR
      simp (decide := true) only [if_true, if_false, Nat.xor_assoc]
    · unfold opR
      simp (decide := true) only [if_true, if_false]
      by_cases x : a.1 = 0 <;> by_cases y : b.1 = 0 <;> by_cases z : c.1 = 0 <;> simp [x, y, z]
    · unfold opR
      simp (decide := true) only [if_true, if_false]
      by_cases x : a.1 = 0 <;> by_cases y : b.1 = 0 <;> by_cases z : c.1 = 0 <;> simp [x, y, z]
  · rcases h1 with rfl | h1
    · exact absurd ⟨rfl, rfl⟩ hs
    · have key : ∀ x y : Vl, (nanV x ∨ nanV y → opR op 2 x y = (nanN, 0)) ∧ (¬ nanV x → ¬ nanV y → ¬ nanV (opR op 2 x y)) := fun x y => by
        refine ⟨opR_rnan h1, fun hx hy => ?_⟩
        rcases h1 with rfl | rfl
        · rw [opR_rmin hx hy]
          rcases minBy_or fReal x y with e | e <;> rw [e] <;> assumption
        · rw [opR_rmax hx hy]
          rcases minBy_or fRealN x y with e | e <;> rw [e] <;> assumption
      by_cases na : nanV a
      · rw [(key a b).1 (.inl na), (key (nanN, 0) c).1 (.inl nanV_nan), (key a _).1 (.inl na)]
      · by_cases nb : nanV b
        · rw [(key a b).1 (.inr nb), (key (nanN, 0) c).1 (.inl nanV_nan), (key b c).1 (.inl nb), (key a _).1 (.inr nanV_nan)]
        · by_cases nc : nanV c
          · rw [(key _ c).1 (.inr nc), (key b c).1 (.inr nc), (key a _).1 (.inr nanV_nan)]
          · have n1 := (key a b).2 na nb
            have n2 := (key b c).2 nb nc
            rcases h1 with rfl | rfl
            · rw [opR_rmin n1 nc, opR_rmin na n2, opR_rmin na nb, opR_rmin nb nc]; exact minBy_assoc
            · rw [opR_rmax n1 nc, opR_rmax na n2, opR_rmax na nb, opR_rmax nb nc]; exact minBy_assoc
  · rcases h1 with rfl | rfl
    · simp only [opR_minloc]; exact lexBy_assoc
    · simp only [opR_maxloc]; exact lexBy_assoc

theorem opR_place' {op kind : Int} (hc : checkE op kind = 0) {a b : Vl} (pa : kind ≠ 3 → a.2 = 0) (pb : kind ≠ 3 → b.2 = 0) : kind ≠ 3 → (opR op kind a b).2 = 0 := fun hk =>
  opR_place hk (pa hk) (pb hk) (by rcases check_cases hc with h | h | h <;> omega)
theorem valid2 {kind : Int} {a b : Vl} (pa : kind ≠ 3 → a.2 = 0) (pb : kind ≠ 3 → b.2 = 0) : validS kind [a, b] = true := by
  unfold validS
  by_cases h : kind = 3
  · simp [h]
  · simp [h, pa h, pb h]
theorem doS_good {op kind : Int} (hc : checkE op kind = 0) {a b : Vl} (pa : kind ≠ 3 → a.2 = 0) (pb : kind ≠ 3 → b.2 = 0) : doS op kind a b = (opR op kind a b, 0) := by
  unfold doS
  rw [if_neg (by omega), valid2 pa pb, if_neg (by simp)]

end Go.Proofs.Ytnngbbiajioghaa
