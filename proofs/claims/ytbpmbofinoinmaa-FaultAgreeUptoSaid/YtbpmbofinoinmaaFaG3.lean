import Derived.Test.YtbpmbofinoinmaaFaG2
namespace Go.Proofs.Ytbpmbofinoinmaa
open Go.Av Go.Proofs

theorem findC_dist {l : List C} (hd : Dist l) {c : C} (hc : c ∈ l) : findC l c.rank = some c := by
  obtain ⟨k, hk, rfl⟩ := List.getElem_of_mem hc
  have h := hd k l[k] (List.getElem?_eq_getElem hk)
  rw [(findC_take h hk).1, if_pos rfl]

theorem agree_facts {fl : List Int} {L : List (List Int)} {l : List C} {n : Nat} (hn : fl.length = n) (hc : checkS n l = 0) (hL : L.length = n) (hx : ∀ ks ∈ L, ∀ x ∈ ks, ∃ c ∈ l, c.round = 0 ∧ x = c.rank) :
    ∃ rs r, agreeR fl L l = (rs, r, 0) ∧ rs.length = n ∧ r ≤ l.length + 2 ∧ (∀ q ∈ rs, q.failed.length ≤ 64) ∧ ∃ F D, D.length ≤ 64 ∧
      (∀ i, i < n → findC l (i : Int) = none → ∃ q, rs[i]? = some q ∧ q.dec = true ∧ 1 ≤ q.round ∧ q.round ≤ l.length + 1 ∧ q.flag = F ∧ q.failed = D) ∧
      ((∃ s : Nat, s < n ∧ findC l (s : Int) = none) → (∀ i : Nat, i < n → findC l (i : Int) = none → (i : Int) ∉ D) ∧ (∀ c ∈ l, c.round = 0 → c.rank ∈ D) ∧ ∃ w, F = flagK w fl n ∧ ∀ i : Nat, i < n → findC l (i : Int) = none → w i = true) := by
  obtain ⟨⟨hn1, hn64⟩, hg, hd⟩ := check_zero hc
  have hn64 : n ≤ 64 := by omega
  have hbad : ¬ badK n L = true := by
    intro h
    unfold badK at h
    rw [List.any_eq_true] at h
    obtain ⟨ks, h1, h2⟩ := h
    rw [List.any_eq_true] at h2
    obtain ⟨x, h3, h4⟩ := h2
    obtain ⟨c, h5, _, rfl⟩ := hx ks h1 x h3
    have h6 := hg c h5
    have := h6.r0
    have := h6.r1
    unfold badX at h4
    simp at h4
    omega
  obtain ⟨r', h1, h2, h3, ha, hb, hbusy⟩ := agreeGo_inv (n := n) (l := l) hn64 (l.length + 2) 0 (init0 n) (by omega) (AInv.init n l) (BInv.init n l) (by omega)
  have hR : agreeR fl L l = ((List.range n).map fun i => rpOf fl L (prAt (agreeGo n l (l.length + 2) 0 (init0 n)).1 i), r', 0) := by
    unfold agreeR
    rw [hn, if_neg (by rw [hc]; simp), if_neg (by simp [hL]), if_neg hbad, h1]
  generalize (agreeGo n l (l.length + 2) 0 (init0 n)).1 = ps at ha hb hbusy hR
  have hdone : ∀ i, i < n → findC l (i : Int) = none → (prAt ps i).done = true := by
    intro i hi hf
    cases e : (prAt ps i).done with
    | true => rfl
    | false =>
      exfalso
      have : busyS l r' ps n = true := by
        unfold busyS
        rw [List.any_eq_true]
        refine ⟨i, List.mem_range.2 hi, ?_⟩
        unfold busyAt
        rw [e, lives_none' hf]
        rfl
      rw [hbusy] at this
      cases this
  have hdec : ∀ i, i < n → findC l (i : Int) = none → 0 < (prAt ps i).dec := fun i hi hf => ha.c i hi (hdone i hi hf) i hi (lives_none' hf _)
  refine ⟨_, r', hR, by simp, h3, fun q hq => ?_, ?_⟩
  · obtain ⟨i, _, rfl⟩ := List.mem_map.1 hq
    unfold rpOf
    split
    · exact elems_len _ _
    · exact Nat.zero_le _
  by_cases hs : ∃ s : Nat, s < n ∧ findC l (s : Int) = none
  · obtain ⟨s, hs1, hs2⟩ := hs
    have hr1 : 1 ≤ r' := by
      by_cases e : 1 ≤ r'
      · exact e
      · have := hb.zero (by omega) s hs1
        have := hdec s hs1 hs2
        omega
    have hall := hb.all hr1 s hs1 (lives_none' hs2 _)
    have hw : ∀ i, i < n → findC l (i : Int) = none → (prAt ps i).w = (prAt ps s).w := fun i hi hf => hb.one i s hi hs1 (lives_none' hf _) (lives_none' hs2 _) (hdec i hi hf) (hdec s hs1 hs2)
    refine ⟨(agreedS (prAt ps s) fl L).flag, (agreedS (prAt ps s) fl L).failed, elems_len _ _, fun i hi hf => ?_, fun _ => ⟨fun i hi hf hm => ?_, fun c hcl h0 => ?_, (prAt ps s).w, by unfold agreedS; rw [hn], fun i hi hf => hall i hi hf⟩⟩
    · have hdi := hdec i hi hf
      refine ⟨rpOf fl L (prAt ps i), by simp [hi], ?_⟩
      unfold rpOf
      rw [if_pos hdi]
      obtain ⟨e1, e2⟩ := hb.dec i hi hdi
      refine ⟨rfl, e1, e2, ?_, ?_⟩
      · unfold agreedS; rw [hw i hi hf]
      · unfold agreedS; rw [hw i hi hf]
    · have hm : (i : Int) ∈ elems 64 (knownAll (prAt ps s).w 0 L (fail1 (prAt ps s).w fl.length fl.length)) := hm
      obtain ⟨_, h5⟩ := elems_mem.1 hm
      rw [knownAll_any2, Bool.or_eq_true, List.any_eq_true] at h5
      rcases h5 with h5 | ⟨q, hq, h5⟩
      · unfold fail1 at h5
        rw [hall i hi hf, hn] at h5
        simp [hi] at h5
      · simp only [Bool.and_eq_true, List.any_eq_true, decide_eq_true_eq] at h5
        obtain ⟨_, x, hxq, e⟩ := h5
        have hq := List.mem_range.1 hq
        rw [List.getElem?_eq_getElem hq] at hxq
        obtain ⟨c, hc1, _, rfl⟩ := hx L[q] (List.getElem_mem hq) x hxq
        have hr0 := (hg c hc1).r0
        have := findC_dist hd hc1
        rw [show c.rank = (i : Int) by omega, hf] at this
        cases this
    · have hgc := hg c hcl
      have hr0 := hgc.r0
      have hr2 := hgc.r1
      obtain ⟨k, hk⟩ : ∃ k : Nat, c.rank = k := ⟨c.rank.toNat, by omega⟩
      have hfk : findC l (k : Int) = some c := by rw [← hk]; exact findC_dist hd hcl
      have hwk : (prAt ps s).w k = false := by
        refine hb.gone s hs1 k (by omega) (fun e => ?_) ?_
        · subst e; rw [hs2] at hfk; cases hfk
        · unfold livesS
          rw [hfk]
          simp [h0]
      show c.rank ∈ elems 64 (knownAll (prAt ps s).w 0 L (fail1 (prAt ps s).w fl.length fl.length))
      rw [hk]
      refine elems_mem.2 ⟨by omega, ?_⟩
      rw [knownAll_any2]
      have : fail1 (prAt ps s).w fl.length fl.length k = true := by
        unfold fail1
        rw [hwk, hn]
        have : k < n := by omega
        simp [this]
      rw [this, Bool.true_or]
  · exact ⟨0, [], Nat.zero_le _, fun i hi hf => absurd ⟨i, hi, hf⟩ hs, fun h => absurd h hs⟩

end Go.Proofs.Ytbpmbofinoinmaa
