import Derived.Test.YtbpmbofinoinmaaFaA4
import Derived.Test.YtbpmbofinoinmaaFaA5
import Derived.Test.YtbpmbofinoinmaaFaN5
namespace Go.Proofs.Ytbpmbofinoinmaa
open Go.Av Go.Proofs

/-! The agreement, plainly: how long it lasts. -/

def RAll (R : Nat → Bool) (G : List (Nat × Msg)) (k : Nat) : Bool := R k || G.any fun x => decide (x.1 = k)
def wAll : (Nat → Bool) → List (Nat × Msg) → (Nat → Bool)
  | w, [] => w
  | w, x :: r => wAll (orS w x.2.w) r

theorem RAll_cons (R : Nat → Bool) (x : Nat × Msg) (G : List (Nat × Msg)) : RAll (addS R x.1) G = RAll R (x :: G) := by
  funext k
  unfold RAll addS
  rw [List.any_cons]
  by_cases e : k = x.1
  · subst e; simp
  · have e' : ¬ x.1 = k := fun h => e h.symm
    simp [e, e']

theorem takeGo_no (p : Pr) (r : Int) : ∀ (G : List (Nat × Msg)) (R w : Nat → Bool), (∀ x ∈ G, x.2.fin = false) → takeGo p r R w G = { p with w := wAll w G, dec := if eqB (RAll R G) p.h = true then r else p.dec, h := RAll R G }
  | [], R, w, _ => by
    have : RAll R [] = R := by funext k; simp [RAll]
    rw [this]
    rfl
  | x :: G, R, w, h => by
    unfold takeGo
    rw [if_neg (by rw [h x (List.mem_cons_self ..)]; decide), takeGo_no p r G _ _ (fun y hy => h y (List.mem_cons_of_mem _ hy)), RAll_cons]
    rfl

theorem takeGo_fin (p : Pr) (r : Int) : ∀ (G : List (Nat × Msg)) (R w : Nat → Bool), (∃ x ∈ G, x.2.fin = true) → ∃ x ∈ G, x.2.fin = true ∧ takeGo p r R w G = { p with w := x.2.w, dec := r }
  | [], _, _, ⟨x, hx, _⟩ => by cases hx
  | x :: G, R, w, h => by
    by_cases e : x.2.fin = true
    · exact ⟨x, List.mem_cons_self .., e, if_pos e⟩
    · obtain ⟨y, hy, hf⟩ := h
      have hy' : y ∈ G := by
        rcases List.mem_cons.1 hy with h | h
        · subst h; exact absurd hf e
        · exact h
      obtain ⟨z, hz, hzf, he⟩ := takeGo_fin p r G (addS R x.1) (orS w x.2.w) ⟨y, hy', hf⟩
      refine ⟨z, List.mem_cons_of_mem _ hz, hzf, ?_⟩
      rw [← he]
      exact if_neg e

theorem lives_none' {l : List C} {i : Int} (h : findC l i = none) (r : Int) : livesS l i r = true := by unfold livesS; rw [h]

/-- Does j hear q in a round? -/
def hearsA (l : List C) (r : Int) (ps : List Pr) (q j : Nat) : Bool := !(prAt ps q).done && (livesS l q (r - 1) && (decide (j ≠ q) && reachB l q j r))

theorem hears_eq {n : Nat} {l : List C} {r : Int} {ps : List Pr} {q j : Nat} (hlen : ps.length = n) (hq : q < n) (hj : j < n) : X42.hears n l r (SA ps) q j = hearsA l r ps q j := by
  have h1 : (SA ps q).isSome = !(prAt ps q).done := by
    unfold SA prAt
    rw [List.getElem?_eq_getElem (by omega)]
    show (sendS ps[q]).isSome = !ps[q].done
    unfold sendS
    cases ps[q].done <;> rfl
  unfold X42.hears hearsA
  rw [h1]
  by_cases e : j = q
  · simp [e]
  · have h2 : decide ((X42.place q j : Int) < reachS n l q r) = reachB l q j r := reach_eq hq hj e
    rw [h2]

theorem mem_hear {n : Nat} {l : List C} {r : Int} {ps : List Pr} {j : Nat} (hlen : ps.length = n) (hj : j < n) {x : Nat × Msg} : x ∈ hearA n l r ps j ↔ ∃ q, q < n ∧ hearsA l r ps q j = true ∧ x = (q, mOf (prAt ps q)) := by
  unfold hearA
  rw [List.mem_map]
  constructor
  · rintro ⟨q, hq, rfl⟩
    obtain ⟨h1, h2⟩ := from_lt hq
    exact ⟨q, h1, by rw [← hears_eq hlen h1 hj]; exact h2, rfl⟩
  · rintro ⟨q, h1, h2, rfl⟩
    refine ⟨q, ?_, rfl⟩
    unfold X42.from'
    rw [List.mem_filter]
    exact ⟨List.mem_range.2 h1, by rw [hears_eq hlen h1 hj]; exact h2⟩

theorem prAt_step {n : Nat} {l : List C} {r : Int} {ps : List Pr} (hlen : ps.length = n) {i : Nat} (hi : i < n) : prAt (stepA n l r ps) i = stepF n l r ps i (prAt ps i) := by
  have hg : ps[i]? = some ps[i] := List.getElem?_eq_getElem (by omega)
  unfold prAt stepA
  rw [partI_get hg, if_pos hi, hg]
  rfl

def lost (n : Nat) (s : Nat → Bool) : Nat := ((List.range n).filter fun k => !s k).length

structure AInv (n : Nat) (l : List C) (r : Int) (ps : List Pr) : Prop where
  len : ps.length = n
  c : ∀ k, k < n → (prAt ps k).done = true → ∀ i, i < n → livesS l i r = true → 0 < (prAt ps i).dec
  a : ∀ i, i < n → livesS l i r = true → ¬ 0 < (prAt ps i).dec → ∀ k, k < n → livesS l k r = true → (prAt ps i).h k = true
  b : ∀ i, i < n → livesS l i r = true → ¬ 0 < (prAt ps i).dec → r ≤ lost n (prAt ps i).h
  g : ∀ i, i < n → livesS l i r = true → ¬ 0 < (prAt ps i).dec → ∀ k, k < n → (prAt ps i).h k = false → findC l k ≠ none
  e : ∀ i, i < n → livesS l i r = true → (prAt ps i).done = false → r ≤ l.length + 1
  f : ∀ i, i < n → ∀ k, n ≤ k → (prAt ps i).h k = false

theorem lives_mono {l : List C} {i : Int} {r : Int} (h : livesS l i (r + 1) = true) : livesS l i r = true := by
  unfold livesS at h ⊢
  split
  · rfl
  · rename_i c e
    rw [e] at h
    simp at h ⊢
    omega

theorem lives_reach {l : List C} {i j : Nat} {r : Int} (h : livesS l i r = true) : reachB l i j r = true := by
  unfold livesS at h
  unfold reachB
  split
  · rfl
  · rename_i c e
    rw [e] at h
    simp at h
    rw [if_neg (by omega)]
    simp; omega

theorem pigeonL : ∀ (K L : List Nat), K.Nodup → K ⊆ L → K.length ≤ L.length
  | [], _, _, _ => Nat.zero_le _
  | k :: K, L, hn, hs => by
    obtain ⟨h1, h2⟩ := List.nodup_cons.1 hn
    have hm : k ∈ L := hs (List.mem_cons_self ..)
    have ih := pigeonL K (L.erase k) h2 fun x hx => (List.mem_erase_of_ne (fun e => h1 (by rw [← e]; exact hx))).2 (hs (List.mem_cons_of_mem _ hx))
    have hl := List.length_erase_of_mem hm
    have hp := List.length_pos_of_mem hm
    simp only [List.length_cons]
    omega

theorem lost_le {n : Nat} {l : List C} {s : Nat → Bool} (h : ∀ k, k < n → s k = false → findC l k ≠ none) : lost n s ≤ l.length := by
  have key := pigeonL ((List.range n).filter fun k => !s k) (l.map fun c => c.rank.toNat) (List.Pairwise.filter _ List.nodup_range) fun k hk => ?_
  · simpa [lost] using key
  · obtain ⟨h1, h2⟩ := List.mem_filter.1 hk
    have h1 := List.mem_range.1 h1
    have h2 : s k = false := by simpa using h2
    cases e : findC l k with
    | none => exact absurd e (h k h1 h2)
    | some c =>
      obtain ⟨h3, h4⟩ := findC_mem e
      exact List.mem_map.2 ⟨c, h3, by rw [h4]; rfl⟩

theorem lost_lt {n : Nat} {s t : Nat → Bool} (h1 : ∀ k, k < n → t k = true → s k = true) {k : Nat} (hk : k < n) (hs : s k = true) (ht : t k = false) : lost n s + 1 ≤ lost n t := by
  unfold lost
  have key : ((List.range n).filter fun k => !s k).length + 1 ≤ ((List.range n).filter fun k => !t k).length := by
    have h2 : k :: ((List.range n).filter fun k => !s k) ⊆ (List.range n).filter fun k => !t k := by
      intro x hx
      rcases List.mem_cons.1 hx with e | e
      · subst e
        exact List.mem_filter.2 ⟨List.mem_range.2 hk, by simp [ht]⟩
      · obtain ⟨h3, h4⟩ := List.mem_filter.1 e
        refine List.mem_filter.2 ⟨h3, ?_⟩
        have h5 := h1 x (List.mem_range.1 h3)
        cases e2 : t x with
        | false => rfl
        | true =>
          have := h5 e2
          simp [this] at h4
    have h3 : (k :: ((List.range n).filter fun k => !s k)).Nodup := by
      refine List.nodup_cons.2 ⟨fun hm => ?_, List.Pairwise.filter _ List.nodup_range⟩
      have := (List.mem_filter.1 hm).2
      simp [hs] at this
    have := pigeonL _ _ h3 h2
    simpa using this
  exact key

theorem AInv.busy {n : Nat} {l : List C} {r : Int} {ps : List Pr} (h : AInv n l r ps) (hb : busyS l r ps n = true) : r ≤ l.length + 1 := by
  unfold busyS at hb
  rw [List.any_eq_true] at hb
  obtain ⟨k, hk, hb⟩ := hb
  unfold busyAt at hb
  simp only [Bool.and_eq_true, Bool.not_eq_true'] at hb
  exact h.e k (List.mem_range.1 hk) hb.1 hb.2

def pr0 (n i : Nat) : Pr := ⟨fun k => decide (k = i), fun k => decide (k < n), 0, false⟩
def init0 (n : Nat) : List Pr := (List.range n).map (pr0 n)
theorem prAt_init {n i : Nat} (h : i < n) : prAt (init0 n) i = pr0 n i := by simp [prAt, init0, h]

theorem AInv.init (n : Nat) (l : List C) : AInv n l 0 (init0 n) := by
  refine ⟨by simp [init0], fun k hk hd => ?_, fun i hi _ _ k hk _ => ?_, fun i hi _ _ => by omega, fun i hi _ _ k hk hf => ?_, fun i hi _ _ => by omega, fun i hi k hk => ?_⟩
  · rw [prAt_init hk] at hd; cases hd
  · rw [prAt_init hi]; exact decide_eq_true hk
  · rw [prAt_init hi] at hf
    exact absurd hk (of_decide_eq_false hf)
  · rw [prAt_init hi]; exact decide_eq_false (by omega)

/-- The ways of a step. -/
theorem step_cases {n : Nat} {l : List C} {r : Int} {ps : List Pr} (hlen : ps.length = n) {i : Nat} (hi : i < n) (hl : livesS l i r = true) :
    (0 < (prAt ps i).dec ∧ prAt (stepA n l r ps) i = { prAt ps i with done := true }) ∨
    (¬ 0 < (prAt ps i).dec ∧ (∃ q, q < n ∧ hearsA l r ps q i = true ∧ 0 < (prAt ps q).dec ∧ prAt (stepA n l r ps) i = { prAt ps i with w := (prAt ps q).w, dec := r })) ∨
    (¬ 0 < (prAt ps i).dec ∧ (∀ q, q < n → hearsA l r ps q i = true → ¬ 0 < (prAt ps q).dec) ∧ prAt (stepA n l r ps) i = { prAt ps i with w := wAll (prAt ps i).w (hearA n l r ps i), dec := if eqB (fun k => decide (k = i) || (decide (k < n) && hearsA l r ps k i)) (prAt ps i).h = true then r else (prAt ps i).dec, h := fun k => decide (k = i) || (decide (k < n) && hearsA l r ps k i) }) := by
  rw [prAt_step hlen hi]
  unfold stepF takeS
  rw [if_pos hl]
  by_cases hd : 0 < (prAt ps i).dec
  · exact .inl ⟨hd, if_pos hd⟩
  · rw [if_neg hd]
    right
    by_cases hf : ∃ x ∈ hearA n l r ps i, x.2.fin = true
    · left
      obtain ⟨x, hx, hxf, he⟩ := takeGo_fin (prAt ps i) r (hearA n l r ps i) (addS (fun _ => false) i) (prAt ps i).w hf
      obtain ⟨q, h1, h2, rfl⟩ := (mem_hear hlen hi).1 hx
      exact ⟨hd, q, h1, h2, of_decide_eq_true hxf, he⟩
    · right
      have hno : ∀ x ∈ hearA n l r ps i, x.2.fin = false := by
        intro x hx
        cases e : x.2.fin with
        | false => rfl
        | true => exact absurd ⟨x, hx, e⟩ hf
      refine ⟨hd, fun q h1 h2 h3 => hf ⟨(q, mOf (prAt ps q)), (mem_hear hlen hi).2 ⟨q, h1, h2, rfl⟩, decide_eq_true h3⟩, ?_⟩
      have hR : RAll (addS (fun _ => false) i) (hearA n l r ps i) = fun k => decide (k = i) || (decide (k < n) && hearsA l r ps k i) := by
        funext k
        unfold RAll addS
        have h1 : ((hearA n l r ps i).any fun x => decide (x.1 = k)) = (decide (k < n) && hearsA l r ps k i) := by
          rw [Bool.eq_iff_iff, List.any_eq_true, Bool.and_eq_true]
          constructor
          · rintro ⟨x, hx, he⟩
            obtain ⟨q, h1, h2, rfl⟩ := (mem_hear hlen hi).1 hx
            have he : q = k := of_decide_eq_true he
            subst he
            exact ⟨decide_eq_true h1, h2⟩
          · rintro ⟨h1, h2⟩
            exact ⟨(k, mOf (prAt ps k)), (mem_hear hlen hi).2 ⟨k, of_decide_eq_true h1, h2, rfl⟩, decide_eq_true rfl⟩
        rw [h1]
        by_cases e : k = i
        · subst e; simp
        · simp [e]
      rw [takeGo_no _ _ _ _ _ hno, hR]

theorem eqB_false {s t : Nat → Bool} (h : ¬ eqB s t = true) : ∃ k, k < 64 ∧ s k ≠ t k := by
  by_cases hh : ∃ k, k < 64 ∧ s k ≠ t k
  · exact hh
  · exfalso
    apply h
    unfold eqB
    rw [beq_iff_eq]
    refine List.map_congr_left fun k hk => ?_
    by_cases e : s k = t k
    · exact e
    · exact absurd ⟨k, List.mem_range.1 hk, e⟩ hh

theorem AInv.step {n : Nat} {l : List C} {r : Int} {ps : List Pr} (hr : 0 ≤ r) (h : AInv n l r ps) : AInv n l (r + 1) (stepA n l (r + 1) ps) := by
  have hlen := h.len
  -- who is undecided behind the round was before, heard none that was decided, and lost one more
  have key : ∀ i, i < n → livesS l i (r + 1) = true → ¬ 0 < (prAt (stepA n l (r + 1) ps) i).dec →
      ¬ 0 < (prAt ps i).dec ∧ (∀ q, q < n → hearsA l (r + 1) ps q i = true → ¬ 0 < (prAt ps q).dec) ∧ (prAt (stepA n l (r + 1) ps) i).h = (fun k => decide (k = i) || (decide (k < n) && hearsA l (r + 1) ps k i)) ∧
      ¬ eqB (fun k => decide (k = i) || (decide (k < n) && hearsA l (r + 1) ps k i)) (prAt ps i).h = true := by
    intro i hi hl hu
    rcases step_cases hlen hi hl with ⟨h1, h2⟩ | ⟨h1, q, _, _, _, h2⟩ | ⟨h1, h2, h3⟩
    · rw [h2] at hu; exact absurd h1 hu
    · rw [h2] at hu; exact absurd (show (0 : Int) < r + 1 by omega) hu
    · refine ⟨h1, h2, by rw [h3], fun he => ?_⟩
      rw [h3] at hu
      simp only [he, if_true] at hu
      omega
  have hears_alive : ∀ i, i < n → livesS l i (r + 1) = true → ¬ 0 < (prAt ps i).dec → ∀ k, k < n → livesS l k (r + 1) = true → (decide (k = i) || (decide (k < n) && hearsA l (r + 1) ps k i)) = true := by
    intro i hi hl hu k hk hlk
    by_cases e : k = i
    · simp [e]
    · have hd : (prAt ps k).done = false := by
        cases ed : (prAt ps k).done with
        | false => rfl
        | true => exact absurd (h.c k hk ed i hi (lives_mono hl)) hu
      have hk1 : livesS l k (r + 1 - 1) = true := by rw [show r + 1 - 1 = r by omega]; exact lives_mono hlk
      have e' : ¬ i = k := fun h => e h.symm
      unfold hearsA
      rw [hd, hk1, lives_reach hlk]
      simp [hk, e']
  have hsub : ∀ i, i < n → livesS l i (r + 1) = true → ¬ 0 < (prAt ps i).dec → ∀ k, k < n → (decide (k = i) || (decide (k < n) && hearsA l (r + 1) ps k i)) = true → (prAt ps i).h k = true := by
    intro i hi hl hu k hk hR
    refine h.a i hi (lives_mono hl) hu k hk ?_
    by_cases e : k = i
    · subst e; exact lives_mono hl
    · have hR : hearsA l (r + 1) ps k i = true := by simpa [e, hk] using hR
      unfold hearsA at hR
      simp only [Bool.and_eq_true] at hR
      have := hR.2.1
      rw [show r + 1 - 1 = r by omega] at this
      exact this
  refine ⟨by unfold stepA; rw [partI_len, hlen], fun k hk hd i hi hl => ?_, fun i hi hl hu k hk hlk => ?_, fun i hi hl hu => ?_, fun i hi hl hu k hk hf => ?_, fun i hi hl hd => ?_, fun i hi k hk => ?_⟩
  · by_cases hkd : (prAt ps k).done = true
    · have hdi := h.c k hk hkd i hi (lives_mono hl)
      rcases step_cases hlen hi hl with ⟨h1, h2⟩ | ⟨h1, _⟩ | ⟨h1, _⟩
      · rw [h2]; exact h1
      · exact absurd hdi h1
      · exact absurd hdi h1
    · have hkd' : (prAt ps k).done = false := by simpa using hkd
      have hlk : livesS l k (r + 1) = true := by
        cases e : livesS l k (r + 1) with
        | true => rfl
        | false =>
          rw [prAt_step hlen hk] at hd
          unfold stepF at hd
          rw [e] at hd
          exact absurd hd hkd
      have hdk : 0 < (prAt ps k).dec := by
        rcases step_cases hlen hk hlk with ⟨h1, _⟩ | ⟨_, q, _, _, _, h2⟩ | ⟨_, _, h2⟩
        · exact h1
        · rw [h2] at hd; exact absurd hd hkd
        · rw [h2] at hd; exact absurd hd hkd
      rcases step_cases hlen hi hl with ⟨h1, h2⟩ | ⟨h1, q, _, _, _, h2⟩ | ⟨h1, h2, _⟩
      · rw [h2]; exact h1
      · rw [h2]; show 0 < r + 1; omega
      · exfalso
        have hne : ¬ i = k := fun e => h1 (by rw [e]; exact hdk)
        refine h2 k hk ?_ hdk
        have hk1 : livesS l k (r + 1 - 1) = true := by rw [show r + 1 - 1 = r by omega]; exact lives_mono hlk
        unfold hearsA
        rw [hkd', hk1, lives_reach hlk]
        simp [hne]
  · obtain ⟨h1, _, h3, _⟩ := key i hi hl hu
    rw [h3]
    exact hears_alive i hi hl h1 k hk hlk
  · obtain ⟨h1, h2, h3, h4⟩ := key i hi hl hu
    obtain ⟨k, hk64, hne⟩ := eqB_false h4
    have hkn : k < n := by
      rcases Nat.lt_or_ge k n with hlt | hge
      · exact hlt
      · exfalso
        apply hne
        rw [h.f i hi k hge]
        have e1 : ¬ k = i := by omega
        have e2 : ¬ k < n := by omega
        simp [e1, e2]
    have hb := h.b i hi (lives_mono hl) h1
    have hs := hsub i hi hl h1
    rw [h3]
    obtain ⟨R, hRd⟩ : ∃ R : Nat → Bool, R = fun k => decide (k = i) || (decide (k < n) && hearsA l (r + 1) ps k i) := ⟨_, rfl⟩
    have hne : R k ≠ (prAt ps i).h k := by rw [hRd]; exact hne
    have hs : ∀ k, k < n → R k = true → (prAt ps i).h k = true := by rw [hRd]; exact hs
    rw [← hRd]
    have hR : R k = false := by
      cases e : R k with
      | false => rfl
      | true => exact absurd (by rw [e, hs k hkn e]) hne
    have hh : (prAt ps i).h k = true := by
      cases e : (prAt ps i).h k with
      | true => rfl
      | false => exact absurd (by rw [e, hR]) hne
    have := lost_lt hs hkn hh hR
    omega
  · obtain ⟨h1, h2, h3, h4⟩ := key i hi hl hu
    intro hn
    rw [h3] at hf
    have := hears_alive i hi hl h1 k hk (lives_none' hn _)
    have hf : (decide (k = i) || (decide (k < n) && hearsA l (r + 1) ps k i)) = false := hf
    rw [this] at hf
    cases hf
  · rcases step_cases hlen hi hl with ⟨h1, h2⟩ | ⟨h1, _⟩ | ⟨h1, _⟩
    · rw [h2] at hd; cases hd
    all_goals
      have hb := h.b i hi (lives_mono hl) h1
      have := lost_le (h.g i hi (lives_mono hl) h1)
      omega
  · cases e : livesS l i (r + 1) with
    | false =>
      rw [prAt_step hlen hi]
      unfold stepF
      rw [e]
      exact h.f i hi k hk
    | true =>
      rcases step_cases hlen hi e with ⟨_, h2⟩ | ⟨_, q, _, _, _, h2⟩ | ⟨_, _, h2⟩
      · rw [h2]; exact h.f i hi k hk
      · rw [h2]; exact h.f i hi k hk
      · rw [h2]
        have e1 : ¬ k = i := by omega
        have e2 : ¬ k < n := by omega
        simp [e1, e2]

def agreeGo (n : Nat) (l : List C) : Nat → Int → List Pr → List Pr × Int
  | 0, r, ps => (ps, r)
  | f + 1, r, ps => if busyS l r ps n = true then agreeGo n l f (r + 1) (stepA n l (r + 1) ps) else (ps, r)

end Go.Proofs.Ytbpmbofinoinmaa
