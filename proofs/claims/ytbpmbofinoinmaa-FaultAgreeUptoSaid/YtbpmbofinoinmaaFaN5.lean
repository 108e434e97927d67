import Derived.Test.YtbpmbofinoinmaaFaN4
namespace Go.Proofs.Ytbpmbofinoinmaa
open Go.Av Go.Proofs

/-! The document's News, plainly: it is the program's. -/

def rSend (l : List C) (r : Int) (out : List Int) (k : Nat) : Bool := decide ((out[k]?).getD 0 = r - 1) && livesS l k (r - 1)
def rHear (l : List C) (r : Int) (out : List Int) (k j : Nat) : Bool := rSend l r out k && (decide (j ≠ k) && (decide ((out[j]?).getD 0 < 0) && (livesS l j r && reachB l k j r)))
def rNext (l : List C) (r : Int) (out : List Int) (k j : Nat) : Bool := (List.range k).any fun q => rHear l r out q j
def rAny (l : List C) (r : Int) (out : List Int) (k : Nat) : Bool := (List.range k).any fun q => rSend l r out q
def nextL (r : Int) (out : List Int) (p : Nat → Bool) : List Int := (List.range out.length).map fun j => if p j = true then r else (out[j]?).getD 0
def refStep (l : List C) (r : Int) (out : List Int) : List Int := nextL r out (rNext l r out out.length)
def refGo (l : List C) : Nat → Int → List Int → Int → List Int × Int
  | 0, _, out, k => (out, k)
  | f + 1, r, out, k => refGo l f (r + 1) (refStep l r out) (if rAny l r out out.length = true then r else k)

theorem nextL_len (r : Int) (out : List Int) (p : Nat → Bool) : (nextL r out p).length = out.length := by simp [nextL]
theorem nextL_none (r : Int) (out : List Int) : nextL r out (fun _ => false) = out := by
  apply List.ext_getElem? fun j => ?_
  unfold nextL
  by_cases h : j < out.length
  · simp [h]
  · rw [List.getElem?_eq_none (by simp; omega), List.getElem?_eq_none (by omega)]
theorem nextL_congr {r : Int} {out : List Int} {p q : Nat → Bool} (h : ∀ j, j < out.length → p j = q j) : nextL r out p = nextL r out q := by
  unfold nextL
  refine List.map_congr_left fun j hj => ?_
  rw [h j (List.mem_range.1 hj)]
theorem nextL_set {r : Int} {out : List Int} {p : Nat → Bool} {i : Nat} : (nextL r out p).set i r = nextL r out (fun j => p j || decide (j = i)) := by
  apply List.ext_getElem? fun j => ?_
  rw [List.getElem?_set]
  by_cases h : j < out.length
  · by_cases e : i = j
    · subst e
      rw [if_pos rfl, if_pos (by rw [nextL_len]; exact h)]
      simp [nextL, h]
    · rw [if_neg e]
      have e' : ¬ j = i := fun h => e h.symm
      simp [nextL, h, e']
  · rw [List.getElem?_eq_none (l := nextL r out fun j => p j || decide (j = i)) (by rw [nextL_len]; omega), List.getElem?_eq_none (by rw [nextL_len]; omega)]
    split
    · rw [if_neg (by rw [nextL_len]; omega)]
    · rfl

theorem rNext_succ (l : List C) (r : Int) (out : List Int) (k j : Nat) : rNext l r out (k + 1) j = (rNext l r out k j || rHear l r out k j) := by
  unfold rNext
  rw [List.range_succ, List.any_append]
  simp
theorem rAny_succ (l : List C) (r : Int) (out : List Int) (k : Nat) : rAny l r out (k + 1) = (rAny l r out k || rSend l r out k) := by
  unfold rAny
  rw [List.range_succ, List.any_append]
  simp

theorem reach_eq {n : Nat} {l : List C} {r : Int} {i j : Nat} (hi : i < n) (hj : j < n) (hne : j ≠ i) : decide ((X51.place i j : Int) < reachS n l i r) = reachB l i j r := by
  have hp : (X51.place i j : Int) < (n : Int) - 1 := by
    unfold X51.place
    split <;> omega
  unfold reachS reachB
  cases findC l i with
  | none => simp; exact hp
  | some c =>
    by_cases h1 : c.round > r
    · have h2 : ¬ c.round = r := by omega
      simp [hp, h1, h2]
    · by_cases h2 : c.round = r
      · simp [h2]
      · simp [h1, h2]

theorem send_eq (l : List C) (r : Int) (out : List Int) (q : Nat) (hq : q < out.length) : ((newsS r out q).isSome && livesS l q (r - 1)) = rSend l r out q := by
  unfold newsS rSend
  rw [List.getElem?_eq_getElem hq]
  by_cases e : out[q] = r - 1
  · simp [e]
  · simp [e]

theorem any_eq (l : List C) (r : Int) (out : List Int) : sentN out.length l r out = rAny l r out out.length := by
  unfold sentN X51.sent rAny
  rw [Bool.eq_iff_iff, List.any_eq_true, List.any_eq_true]
  constructor
  · rintro ⟨q, hq, h⟩
    exact ⟨q, hq, by rw [← send_eq l r out q (List.mem_range.1 hq)]; exact h⟩
  · rintro ⟨q, hq, h⟩
    exact ⟨q, hq, by rw [send_eq l r out q (List.mem_range.1 hq)]; exact h⟩

theorem newsT_get (r : Int) (out : List Int) (j : Nat) (F : List Nat) (k : Nat) : (newsT r out j F)[k]? = if k = j ∧ F ≠ [] ∧ (out[j]?).getD 0 < 0 then (if k < out.length then some r else none) else out[k]? := by
  unfold newsT
  by_cases hF : F = []
  · rw [if_pos (.inr (.inr hF)), if_neg (by simp [hF])]
  · by_cases hv : 0 ≤ (out[j]?).getD 0
    · rw [if_pos (.inr (.inl hv)), if_neg (by omega)]
    · by_cases hn : out[j]? = none
      · exact absurd hv (by rw [hn]; simp)
      · have hj : j < out.length := by
          rcases Nat.lt_or_ge j out.length with h | h
          · exact h
          · exact absurd (List.getElem?_eq_none h) hn
        rw [if_neg (by simp only [not_or]; exact ⟨hn, hv, hF⟩), List.getElem?_set]
        by_cases e : k = j
        · subst e
          rw [if_pos rfl, if_pos hj, if_pos ⟨rfl, hF, by omega⟩]
        · rw [if_neg (fun h => e h.symm), if_neg (fun h => e h.1)]

theorem outI_get (l : List C) (r : Int) (F : Nat → List Nat) (out : List Int) (j : Nat) (hj : j < out.length) : ∀ i, (outI l r F out i)[j]? = if j < i ∧ livesS l j r = true ∧ F j ≠ [] ∧ (out[j]?).getD 0 < 0 then some r else out[j]?
  | 0 => by rw [if_neg (by omega)]; rfl
  | i + 1 => by
    have ih := outI_get l r F out j hj i
    rw [outI_succ]
    by_cases e : j = i
    · subst e
      rw [if_neg (by omega)] at ih
      by_cases hl : livesS l j r = true
      · rw [if_pos hl, newsT_get, outI_len, ih, if_pos hj]
        by_cases hc : F j ≠ [] ∧ (out[j]?).getD 0 < 0
        · rw [if_pos ⟨rfl, hc⟩, if_pos ⟨by omega, hl, hc⟩]
        · rw [if_neg (fun h => hc h.2), if_neg (fun h => hc h.2.2)]
      · rw [if_neg hl, ih, if_neg (fun h => hl h.2.1)]
    · have key : (if livesS l i r = true then newsT r (outI l r F out i) i (F i) else outI l r F out i)[j]? = (outI l r F out i)[j]? := by
        split
        · rw [newsT_get, if_neg (fun h => e h.1)]
        · rfl
      rw [key, ih]
      have h2 : (j < i) ↔ (j < i + 1) := by omega
      simp only [h2]

theorem hear_eq {l : List C} {r : Int} {out : List Int} {j : Nat} (hj : j < out.length) (hneg : (out[j]?).getD 0 < 0) (hl : livesS l j r = true) : hearF out.length l r out j ≠ [] ↔ rNext l r out out.length j = true := by
  unfold hearF X51.from' rNext
  rw [Ne, List.filter_eq_nil_iff, List.any_eq_true]
  have key : ∀ q, q < out.length → X51.hears out.length l r (newsS r out) q j = rHear l r out q j := by
    intro q hq
    have h1 := send_eq l r out q hq
    unfold X51.hears rHear
    rw [← h1, Bool.and_assoc]
    by_cases e : j = q
    · simp [e]
    · have h2 := reach_eq (l := l) (r := r) hq hj e
      rw [h2]
      simp [hneg, hl]
  constructor
  · intro h
    by_cases hh : ∃ q, q ∈ List.range out.length ∧ rHear l r out q j = true
    · exact hh
    · exfalso
      refine h fun q hq hx => hh ⟨q, hq, ?_⟩
      rw [← key q (List.mem_range.1 hq)]
      exact hx
  · rintro ⟨q, hq, hx⟩ h
    refine h q hq ?_
    rw [key q (List.mem_range.1 hq)]
    exact hx

theorem rNext_imp {l : List C} {r : Int} {out : List Int} {k j : Nat} (h : rNext l r out k j = true) : (out[j]?).getD 0 < 0 ∧ livesS l j r = true := by
  unfold rNext at h
  rw [List.any_eq_true] at h
  obtain ⟨q, _, hq⟩ := h
  unfold rHear at hq
  simp only [Bool.and_eq_true] at hq
  exact ⟨of_decide_eq_true hq.2.2.1, hq.2.2.2.1⟩

theorem step_eq (l : List C) (r : Int) (out : List Int) : stepN out.length l r out = refStep l r out := by
  apply List.ext_getElem? fun j => ?_
  by_cases hj : j < out.length
  · unfold stepN
    rw [outI_get l r _ out j hj]
    have e : (refStep l r out)[j]? = some (if rNext l r out out.length j = true then r else (out[j]?).getD 0) := by
      unfold refStep nextL
      simp [hj]
    rw [e]
    by_cases h : rNext l r out out.length j = true
    · obtain ⟨h1, h2⟩ := rNext_imp h
      rw [if_pos h, if_pos ⟨hj, h2, (hear_eq hj h1 h2).2 h, h1⟩]
    · rw [if_neg h, if_neg (fun hh => h ((hear_eq hj hh.2.2.2 hh.2.1).1 hh.2.2.1)), List.getElem?_eq_getElem hj]
      rfl
  · rw [List.getElem?_eq_none (by rw [stepN, outI_len]; omega), List.getElem?_eq_none (by rw [refStep, nextL_len]; omega)]

theorem refStep_len (l : List C) (r : Int) (out : List Int) : (refStep l r out).length = out.length := nextL_len _ _ _

theorem any_mem {l : List C} {r : Int} {out : List Int} (h : rAny l r out out.length = true) : (r - 1) ∈ out := by
  unfold rAny at h
  rw [List.any_eq_true] at h
  obtain ⟨q, hq, h⟩ := h
  have hq := List.mem_range.1 hq
  unfold rSend at h
  simp only [Bool.and_eq_true] at h
  have h1 := of_decide_eq_true h.1
  rw [List.getElem?_eq_getElem hq] at h1
  have h1 : out[q] = r - 1 := h1
  rw [← h1]
  exact List.getElem_mem hq

theorem refStep_same {l : List C} {r : Int} {out : List Int} (h : rAny l r out out.length = false) : refStep l r out = out := by
  rw [← step_eq]
  exact outI_same (by rw [any_eq]; exact h)

theorem ref_stuck (l : List C) : ∀ (m : Nat) (r : Int) (out : List Int) (k : Int), (∀ v ∈ out, v < r - 1) → refGo l m r out k = (out, k)
  | 0, _, _, _, _ => rfl
  | m + 1, r, out, k, h => by
    have hn : rAny l r out out.length = false := by
      cases e : rAny l r out out.length with
      | false => rfl
      | true => have := h _ (any_mem e); omega
    unfold refGo
    rw [refStep_same hn, hn, if_neg (by decide)]
    exact ref_stuck l m (r + 1) out k (fun v hv => by have := h v hv; omega)

theorem go_eq (l : List C) : ∀ (m : Nat) (r : Int) (out : List Int), 1 ≤ r → (∀ v ∈ out, v < r) → cnt out + flg r out ≤ m → newsGo out.length l (m + 1) r out = refGo l m r out (r - 1)
  | 0, r, out, _, _, hc => by
    have hs : sentN out.length l r out = false := by
      cases e : sentN out.length l r out with
      | false => rfl
      | true => have := flg_of_sent e; omega
    unfold newsGo
    rw [hs, if_neg (by decide)]
    rfl
  | m + 1, r, out, hr, hv, hc => by
    cases e : sentN out.length l r out with
    | false =>
      have ea : rAny l r out out.length = false := by rw [← any_eq]; exact e
      unfold newsGo
      rw [e, if_neg (by decide)]
      show _ = refGo l m (r + 1) (refStep l r out) (if rAny l r out out.length = true then r else r - 1)
      rw [refStep_same ea, ea, if_neg (by decide), ref_stuck l m (r + 1) out (r - 1) (fun v h => by have := hv v h; omega)]
    | true =>
      have ea : rAny l r out out.length = true := by rw [← any_eq]; exact e
      obtain ⟨h1, h2⟩ := next_less (n := out.length) (l := l) hr hv
      have h3 := flg_of_sent e
      have ih := go_eq l m (r + 1) (stepN out.length l r out) (by omega) h2 (by omega)
      rw [stepN, outI_len, ← stepN] at ih
      conv => lhs; unfold newsGo
      rw [e, if_pos rfl, ih]
      show _ = refGo l m (r + 1) (refStep l r out) (if rAny l r out out.length = true then r else r - 1)
      rw [← step_eq, ea, if_pos rfl, show r + 1 - 1 = r by omega]

theorem news_ref (n src : Nat) (l : List C) : newsGo n l (n + 2) 1 (news0 n src) = refGo l (n + 1) 1 (news0 n src) 0 := by
  have hlen : (news0 n src).length = n := by simp [news0]
  have h := go_eq l (n + 1) 1 (news0 n src) (by omega) (fun v hv => ?_) ?_
  · rw [hlen] at h
    exact h
  · rcases List.mem_or_eq_of_mem_set hv with h | h
    · have := (List.mem_replicate.1 h).2; omega
    · omega
  · have h1 : cnt (news0 n src) ≤ n := by
      unfold cnt
      exact Nat.le_trans (List.length_filter_le _ _) (by simp [news0])
    have h2 : flg 1 (news0 n src) ≤ 1 := by unfold flg; split <;> omega
    omega

end Go.Proofs.Ytbpmbofinoinmaa
