import Derived.Test.YtbpmbofinoinmaaFaN5
namespace Go.Proofs.Ytbpmbofinoinmaa
open Go.Av Go.Proofs

/-! How the news spreads, plainly. -/

theorem pigeon : ∀ (v : Nat) (L : List Nat) (f : Nat → Nat), (∀ u, u < v → f u ∈ L) → (∀ a b, a < v → b < v → f a = f b → a = b) → v ≤ L.length
  | 0, _, _, _, _ => Nat.zero_le _
  | v + 1, L, f, h1, h2 => by
    have hm := h1 v (Nat.lt_succ_self v)
    have ih := pigeon v (L.erase (f v)) f (fun u hu => (List.mem_erase_of_ne (fun e => by have := h2 u v (by omega) (by omega) e; omega)).2 (h1 u (by omega))) (fun a b ha hb => h2 a b (by omega) (by omega))
    have hl := List.length_erase_of_mem hm
    have hp := List.length_pos_of_mem hm
    omega

structure NInv (l : List C) (n src : Nat) (r : Int) (out : List Int) : Prop where
  len : out.length = n
  lt : ∀ v ∈ out, v < r
  chain : ∀ (j : Nat) v, out[j]? = some v → 0 < v → ∃ k : Nat, out[k]? = some (v - 1)
  spread : ∀ (k : Nat) v, out[k]? = some v → 0 ≤ v → v < r - 1 → findC l k = none → ∀ j : Nat, j < n → findC l j = none → ∃ w, out[j]? = some w ∧ 0 ≤ w ∧ w ≤ v + 1
  src0 : out[src]? = some 0
  zero : ∀ j : Nat, out[j]? = some 0 → j = src

theorem refStep_get {l : List C} {r : Int} {out : List Int} {j : Nat} {v : Int} (hj : out[j]? = some v) : (refStep l r out)[j]? = some (if rNext l r out out.length j = true then r else v) := by
  have hlt := (List.getElem?_eq_some_iff.1 hj).1
  unfold refStep nextL
  rw [List.getElem?_map, List.getElem?_range hlt]
  show some (if _ then r else (out[j]?).getD 0) = _
  rw [hj]
  rfl

theorem refStep_keep {l : List C} {r : Int} {out : List Int} {j : Nat} {v : Int} (hj : out[j]? = some v) (hv : 0 ≤ v) : (refStep l r out)[j]? = some v := by
  rw [refStep_get hj, if_neg]
  intro h
  have := (rNext_imp h).1
  rw [hj] at this
  exact absurd this (by simp; omega)

theorem refStep_back {l : List C} {r : Int} {out : List Int} {j : Nat} {v : Int} (hj : (refStep l r out)[j]? = some v) : out[j]? = some v ∨ (v = r ∧ rNext l r out out.length j = true) := by
  have hlt := (List.getElem?_eq_some_iff.1 hj).1
  rw [refStep_len] at hlt
  rw [refStep_get (List.getElem?_eq_getElem hlt)] at hj
  split at hj
  · rename_i h
    injection hj with hj
    exact .inr ⟨hj.symm, h⟩
  · injection hj with hj
    left
    rw [← hj, List.getElem?_eq_getElem hlt]

theorem rNext_send {l : List C} {r : Int} {out : List Int} {j : Nat} (h : rNext l r out out.length j = true) : ∃ q : Nat, out[q]? = some (r - 1) := by
  unfold rNext at h
  rw [List.any_eq_true] at h
  obtain ⟨q, hq, h⟩ := h
  have hq := List.mem_range.1 hq
  unfold rHear at h
  simp only [Bool.and_eq_true] at h
  have h1 := h.1
  unfold rSend at h1
  simp only [Bool.and_eq_true] at h1
  have h2 := of_decide_eq_true h1.1
  refine ⟨q, ?_⟩
  rw [List.getElem?_eq_getElem hq] at h2 ⊢
  rw [← h2]
  rfl

theorem lives_none {l : List C} {i : Int} (h : findC l i = none) (r : Int) : livesS l i r = true := by unfold livesS; rw [h]
theorem reachB_none {l : List C} {i j : Nat} (h : findC l i = none) (r : Int) : reachB l i j r = true := by unfold reachB; rw [h]

/-- A survivor's news reaches each survivor that has none. -/
theorem rNext_of {l : List C} {r : Int} {out : List Int} {k j : Nat} {v : Int} (hk : out[k]? = some (r - 1)) (hr : 1 ≤ r) (sk : findC l k = none) (hj : out[j]? = some v) (hv : v < 0) (sj : findC l j = none) : rNext l r out out.length j = true := by
  have hkl := (List.getElem?_eq_some_iff.1 hk).1
  have hne : ¬ j = k := by
    intro e
    subst e
    rw [hk] at hj
    injection hj with hj
    omega
  unfold rNext
  rw [List.any_eq_true]
  refine ⟨k, List.mem_range.2 hkl, ?_⟩
  unfold rHear rSend
  rw [hk, hj, lives_none sk, lives_none sj, reachB_none sk]
  simp [hne, hv]

theorem NInv.step {l : List C} {n src : Nat} {r : Int} {out : List Int} (hr : 1 ≤ r) (h : NInv l n src r out) : NInv l n src (r + 1) (refStep l r out) := by
  refine ⟨by rw [refStep_len, h.len], fun v hv => ?_, fun j v hj hv => ?_, fun k v hk h0 h1 sk j hj sj => ?_, refStep_keep h.src0 (Int.le_refl _), fun j hj => ?_⟩
  · obtain ⟨j, hj⟩ := List.mem_iff_getElem?.1 hv
    rcases refStep_back hj with h1 | ⟨h1, _⟩
    · have := h.lt v (List.mem_of_getElem? h1); omega
    · omega
  · rcases refStep_back hj with h1 | ⟨h1, h2⟩
    · obtain ⟨k, hk⟩ := h.chain j v h1 hv
      exact ⟨k, refStep_keep hk (by omega)⟩
    · obtain ⟨q, hq⟩ := rNext_send h2
      subst h1
      exact ⟨q, refStep_keep hq (by omega)⟩
  · rcases refStep_back hk with h2 | ⟨h2, h3⟩
    · by_cases e : v < r - 1
      · obtain ⟨w, hw, w0, w1⟩ := h.spread k v h2 h0 e sk j hj sj
        exact ⟨w, refStep_keep hw w0, w0, w1⟩
      · have e : v = r - 1 := by omega
        subst e
        have hjo : j < out.length := by rw [h.len]; exact hj
        have hg := List.getElem?_eq_getElem hjo
        by_cases hn : out[j] < 0
        · refine ⟨r, ?_, by omega, by omega⟩
          rw [refStep_get hg, if_pos (rNext_of h2 hr sk hg hn sj)]
        · have := h.lt out[j] (List.getElem_mem hjo)
          exact ⟨out[j], refStep_keep hg (by omega), by omega, by omega⟩
    · omega
  · rcases refStep_back hj with h1 | ⟨h1, _⟩
    · exact h.zero j h1
    · omega

theorem NInv.init (l : List C) {n src : Nat} (h : src < n) : NInv l n src 1 (news0 n src) := by
  have hg : ∀ j : Nat, (news0 n src)[j]? = if j < n then some (if j = src then 0 else -1) else none := by
    intro j
    unfold news0
    rw [List.getElem?_set]
    by_cases e : src = j
    · subst e; simp [h]
    · have e' : ¬ j = src := fun h => e h.symm
      rw [if_neg e]
      simp [List.getElem?_replicate, e']
  refine ⟨by simp [news0], fun v hv => ?_, fun j v hj hv => ?_, fun k v hk h0 h1 => (by omega), by rw [hg, if_pos h, if_pos rfl], fun j hj => ?_⟩
  · rcases List.mem_or_eq_of_mem_set hv with h | h
    · have := (List.mem_replicate.1 h).2; omega
    · omega
  · rw [hg] at hj
    split at hj
    · injection hj with hj
      split at hj <;> omega
    · cases hj
  · rw [hg] at hj
    split at hj
    · injection hj with hj
      split at hj
      · assumption
      · omega
    · cases hj

/-- What is so at the end. -/
structure NEnd (l : List C) (n src : Nat) (out : List Int) : Prop where
  len : out.length = n
  chain : ∀ (j : Nat) v, out[j]? = some v → 0 < v → ∃ k : Nat, out[k]? = some (v - 1)
  spread : ∀ (k : Nat) v, out[k]? = some v → 0 ≤ v → findC l k = none → ∀ j : Nat, j < n → findC l j = none → ∃ w, out[j]? = some w ∧ 0 ≤ w ∧ w ≤ v + 1
  src0 : out[src]? = some 0
  zero : ∀ j : Nat, out[j]? = some 0 → j = src

theorem NInv.fin {l : List C} {n src : Nat} {r : Int} {out : List Int} (h : NInv l n src r out) (hs : sentN n l r out = false) : NEnd l n src out := by
  refine ⟨h.len, h.chain, fun k v hk h0 sk => ?_, h.src0, h.zero⟩
  refine h.spread k v hk h0 ?_ sk
  have h1 := h.lt v (List.mem_of_getElem? hk)
  have hkl := (List.getElem?_eq_some_iff.1 hk).1
  have hne : v ≠ r - 1 := by
    intro e
    subst e
    rw [← h.len, any_eq] at hs
    unfold rAny at hs
    rw [List.any_eq_false] at hs
    refine hs k (List.mem_range.2 hkl) ?_
    unfold rSend
    rw [hk, lives_none sk]
    simp
  omega

theorem newsGo_end {l : List C} {n src : Nat} : ∀ (f : Nat) (r : Int) (out : List Int), 1 ≤ r → cnt out + flg r out + 1 ≤ f → NInv l n src r out → NEnd l n src (newsGo n l f r out).1
  | 0, _, _, _, h, _ => by omega
  | f + 1, r, out, hr, hc, h => by
    cases e : sentN n l r out with
    | false =>
      unfold newsGo
      rw [e, if_neg (by decide)]
      exact h.fin e
    | true =>
      obtain ⟨h1, _⟩ := next_less (n := n) (l := l) hr h.lt
      have h3 := flg_of_sent e
      have h4 := h.step hr
      rw [← step_eq, h.len] at h4
      unfold newsGo
      rw [e, if_pos rfl]
      exact newsGo_end f (r + 1) _ (by omega) (by omega) h4

theorem newsEnd (n src : Nat) (l : List C) (h : src < n) : NEnd l n src (newsGo n l (n + 2) 1 (news0 n src)).1 := by
  refine newsGo_end _ _ _ (by omega) ?_ (.init l h)
  have h1 : cnt (news0 n src) ≤ n := by
    unfold cnt
    exact Nat.le_trans (List.length_filter_le _ _) (by simp [news0])
  have h2 : flg 1 (news0 n src) ≤ 1 := by unfold flg; split <;> omega
  omega

theorem NEnd.all {l : List C} {n src : Nat} {out : List Int} (h : NEnd l n src out) : ∀ (v : Nat) (j : Nat), out[j]? = some (v : Int) → ∀ u : Nat, u ≤ v → ∃ k : Nat, out[k]? = some (u : Int)
  | 0, j, hj, u, hu => ⟨j, by rw [hj, show u = 0 by omega]⟩
  | v + 1, j, hj, u, hu => by
    by_cases e : u = v + 1
    · subst e; exact ⟨j, hj⟩
    · obtain ⟨k, hk⟩ := h.chain j _ hj (by omega)
      rw [show ((v + 1 : Nat) : Int) - 1 = (v : Int) by omega] at hk
      exact h.all v k hk u (by omega)

theorem NEnd.early {l : List C} {n src : Nat} {out : List Int} (h : NEnd l n src out) : ∀ (N v : Nat) (k : Nat), v ≤ N → out[k]? = some (v : Int) → findC l k = none → ∃ (m w : Nat), out[m]? = some (w : Int) ∧ findC l m = none ∧ w ≤ l.length
  | 0, v, k, hv, hk, sk => ⟨k, v, hk, sk, by omega⟩
  | N + 1, v, k, hv, hk, sk => by
    by_cases e : ∃ (m w : Nat), w < v ∧ out[m]? = some (w : Int) ∧ findC l m = none
    · obtain ⟨m, w, h1, h2, h3⟩ := e
      exact h.early N w m (by omega) h2 h3
    · refine ⟨k, v, hk, sk, ?_⟩
      have hf : ∃ f : Nat → Nat, ∀ u, u < v → out[f u]? = some (u : Int) := by
        refine ⟨fun u => if hu : u < v then (h.all v k hk u (by omega)).choose else 0, fun u hu => ?_⟩
        simp only [dif_pos hu]
        exact (h.all v k hk u (by omega)).choose_spec
      obtain ⟨f, hf⟩ := hf
      have := pigeon v (l.map fun c => c.rank.toNat) f (fun u hu => ?_) (fun a b ha hb hab => ?_)
      · simpa using this
      · cases e2 : findC l (f u) with
        | none => exact absurd ⟨f u, u, hu, hf u hu, e2⟩ e
        | some c =>
          obtain ⟨h1, h2⟩ := findC_mem e2
          exact List.mem_map.2 ⟨c, h1, by rw [h2]; rfl⟩
      · have h1 := hf a ha
        rw [hab, hf b hb] at h1
        injection h1 with h1
        omega

theorem NEnd.bound {l : List C} {n src : Nat} {out : List Int} (h : NEnd l n src out) {k : Nat} {v : Int} (hk : out[k]? = some v) (hv : 0 ≤ v) (sk : findC l k = none) (j : Nat) (hj : j < n) (sj : findC l j = none) : ∃ w, out[j]? = some w ∧ 0 ≤ w ∧ w ≤ l.length + 1 := by
  obtain ⟨v, rfl⟩ : ∃ m : Nat, v = m := ⟨v.toNat, by omega⟩
  obtain ⟨m, w, h1, h2, h3⟩ := h.early v v k (Nat.le_refl _) hk sk
  obtain ⟨x, hx, x0, x1⟩ := h.spread m w h1 (by omega) h2 j hj sj
  exact ⟨x, hx, x0, by omega⟩

end Go.Proofs.Ytbpmbofinoinmaa
