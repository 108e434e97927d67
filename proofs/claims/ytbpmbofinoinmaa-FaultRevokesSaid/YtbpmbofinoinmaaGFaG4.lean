import Derived.Test.YtbpmbofinoinmaaGFaA6
import Derived.Test.YtbpmbofinoinmaaGFaNews
import Derived.Test.YtbpmbofinoinmaaGAvU
import Derived.Test.YtbpmbofinoinmaaGAvR
import Derived.Test.YtbpmbofinoinmaaGFaX42
namespace Go.Proofs.Ytbpmbofinoinmaa
open Go.Av Go.Proofs
def RAll (R : Nat → Bool) (G : List (Nat × Msg)) (k : Nat) : Bool := R k || G.any fun x => decide (x.1 = k)
def wAll : (Nat → Bool) → List (Nat × Msg) → (Nat → Bool)
 | w, [] => w
 | w, x :: r => wAll (orS w x.2.w) r
theorem RAll_cons (R : Nat → Bool) (x : Nat × Msg) (G : List (Nat × Msg)) : RAll (addS R x.1) G = RAll R (x :: G) := by
 funext k
 unfold RAll addS
 rw [List.any_cons]
 by_cases e : k = x.1
 ·subst e; simp
 ·have e' : ¬ x.1 = k := fun h => e h.symm
  simp [e, e']
theorem takeGo_no (p : Pr) (r : Int) : ∀ (G : List (Nat × Msg)) (R w : Nat → Bool), (∀ x ∈ G, x.2.fin = false) → takeGo p r R w G = { p with w := wAll w G, dec := if eqB (RAll R G) p.h = true then r else p.dec, h := RAll R G }
 | [], R, w, _ => by
  have : RAll R [] = R := by funext k; simp [RAll]
  rw [this]
  rfl
 | x :: G, R, w, h => by
  unfold takeGo
  rw [if_neg (by rw [h x (List.mem_cons_self ..)]; decide), takeGo_no p r G _ _ (fun y hy => h y (List.mem_cons_of_mem _ hy)), RAll_cons]
  rfl
theorem takeGo_fin (p : Pr) (r : Int) : ∀ (G : List (Nat × Msg)) (R w : Nat → Bool), (∃ x ∈ G, x.2.fin = true) → ∃ x ∈ G, x.2.fin = true ∧ takeGo p r R w G = { p with w := x.2.w, dec := r }
 | [], _, _, ⟨x, hx, _⟩ => by cases hx
 | x :: G, R, w, h => by
  by_cases e : x.2.fin = true
  ·exact ⟨x, List.mem_cons_self .., e, if_pos e⟩
  ·obtain ⟨y, hy, hf⟩ := h
   have hy' : y ∈ G := by
    rcases List.mem_cons.1 hy with h | h
    ·subst h; exact absurd hf e
    ·exact h
   obtain ⟨z, hz, hzf, he⟩ := takeGo_fin p r G (addS R x.1) (orS w x.2.w) ⟨y, hy', hf⟩
   refine ⟨z, List.mem_cons_of_mem _ hz, hzf, ?_⟩
   rw [← he]
   exact if_neg e
theorem lives_none' {l : List C} {i : Int} (h : findC l i = none) (r : Int) : livesS l i r = true := by unfold livesS; rw [h]
def hearsA (l : List C) (r : Int) (ps : List Pr) (q j : Nat) : Bool := !(prAt ps q).done && (livesS l q (r - 1) && (decide (j ≠ q) && reachB l q j r))
theorem hears_eq {n : Nat} {l : List C} {r : Int} {ps : List Pr} {q j : Nat} (hlen : ps.length = n) (hq : q < n) (hj : j < n) : X42.hears n l r (SA ps) q j = hearsA l r ps q j := by
 have h1 : (SA ps q).isSome = !(prAt ps q).done := by
  unfold SA prAt
  rw [List.getElem?_eq_getElem (by omega)]
  show (sendS ps[q]).isSome = !ps[q].done
  unfold sendS
  cases ps[q].done <;> rfl
 unfold X42.hears hearsA
 rw [h1]
 by_cases e : j = q
 ·simp [e]
 ·have h2 : decide ((X42.place q j : Int) < reachS n l q r) = reachB l q j r := reach_eq hq hj e
  rw [h2]
theorem mem_hear {n : Nat} {l : List C} {r : Int} {ps : List Pr} {j : Nat} (hlen : ps.length = n) (hj : j < n) {x : Nat × Msg} : x ∈ hearA n l r ps j ↔ ∃ q, q < n ∧ hearsA l r ps q j = true ∧ x = (q, mOf (prAt ps q)) := by
 unfold hearA
 rw [List.mem_map]
 constructor
 ·rintro ⟨q, hq, rfl⟩
  obtain ⟨h1, h2⟩ := from_lt hq
  exact ⟨q, h1, by rw [← hears_eq hlen h1 hj]; exact h2, rfl⟩
 ·rintro ⟨q, h1, h2, rfl⟩
  refine ⟨q, ?_, rfl⟩
  unfold X42.from'
  rw [List.mem_filter]
  exact ⟨List.mem_range.2 h1, by rw [hears_eq hlen h1 hj]; exact h2⟩
theorem prAt_step {n : Nat} {l : List C} {r : Int} {ps : List Pr} (hlen : ps.length = n) {i : Nat} (hi : i < n) : prAt (stepA n l r ps) i = stepF n l r ps i (prAt ps i) := by
 have hg : ps[i]? = some ps[i] := List.getElem?_eq_getElem (by omega)
 unfold prAt stepA
 rw [partI_get hg, if_pos hi, hg]
 rfl
def lost (n : Nat) (s : Nat → Bool) : Nat := ((List.range n).filter fun k => !s k).length
structure AInv (n : Nat) (l : List C) (r : Int) (ps : List Pr) : Prop where
 len : ps.length = n
 c : ∀ k, k < n → (prAt ps k).done = true → ∀ i, i < n → livesS l i r = true → 0 < (prAt ps i).dec
 a : ∀ i, i < n → livesS l i r = true → ¬ 0 < (prAt ps i).dec → ∀ k, k < n → livesS l k r = true → (prAt ps i).h k = true
 b : ∀ i, i < n → livesS l i r = true → ¬ 0 < (prAt ps i).dec → r ≤ lost n (prAt ps i).h
 g : ∀ i, i < n → livesS l i r = true → ¬ 0 < (prAt ps i).dec → ∀ k, k < n → (prAt ps i).h k = false → findC l k ≠ none
 e : ∀ i, i < n → livesS l i r = true → (prAt ps i).done = false → r ≤ l.length + 1
 f : ∀ i, i < n → ∀ k, n ≤ k → (prAt ps i).h k = false
theorem lives_mono {l : List C} {i : Int} {r : Int} (h : livesS l i (r + 1) = true) : livesS l i r = true := by
 unfold livesS at h ⊢
 split
 ·rfl
 ·rename_i c e
  rw [e] at h
  simp at h ⊢
  omega
theorem lives_reach {l : List C} {i j : Nat} {r : Int} (h : livesS l i r = true) : reachB l i j r = true := by
 unfold livesS at h
 unfold reachB
 split
 ·rfl
 ·rename_i c e
  rw [e] at h
  simp at h
  rw [if_neg (by omega)]
  simp; omega
theorem pigeonL : ∀ (K L : List Nat), K.Nodup → K ⊆ L → K.length ≤ L.length
 | [], _, _, _ => Nat.zero_le _
 | k :: K, L, hn, hs => by
  obtain ⟨h1, h2⟩ := List.nodup_cons.1 hn
  have hm : k ∈ L := hs (List.mem_cons_self ..)
  have ih := pigeonL K (L.erase k) h2 fun x hx => (List.mem_erase_of_ne (fun e => h1 (by rw [← e]; exact hx))).2 (hs (List.mem_cons_of_mem _ hx))
  have hl := List.length_erase_of_mem hm
  have hp := List.length_pos_of_mem hm
  simp only [List.length_cons]
  omega
theorem lost_le {n : Nat} {l : List C} {s : Nat → Bool} (h : ∀ k, k < n → s k = false → findC l k ≠ none) : lost n s ≤ l.length := by
 have key := pigeonL ((List.range n).filter fun k => !s k) (l.map fun c => c.rank.toNat) (List.Pairwise.filter _ List.nodup_range) fun k hk => ?_
 ·simpa [lost] using key
 ·obtain ⟨h1, h2⟩ := List.mem_filter.1 hk
  have h1 := List.mem_range.1 h1
  have h2 : s k = false := by simpa using h2
  cases e : findC l k with
  | none => exact absurd e (h k h1 h2)
  | some c =>
   obtain ⟨h3, h4⟩ := findC_mem e
   exact List.mem_map.2 ⟨c, h3, by rw [h4]; rfl⟩
theorem lost_lt {n : Nat} {s t : Nat → Bool} (h1 : ∀ k, k < n → t k = true → s k = true) {k : Nat} (hk : k < n) (hs : s k = true) (ht : t k = false) : lost n s + 1 ≤ lost n t := by
 unfold lost
 have key : ((List.range n).filter fun k => !s k).length + 1 ≤ ((List.range n).filter fun k => !t k).length := by
  have h2 : k :: ((List.range n).filter fun k => !s k) ⊆ (List.range n).filter fun k => !t k := by
   intro x hx
   rcases List.mem_cons.1 hx with e | e
   ·subst e
    exact List.mem_filter.2 ⟨List.mem_range.2 hk, by simp [ht]⟩
   ·obtain ⟨h3, h4⟩ := List.mem_filter.1 e
    refine List.mem_filter.2 ⟨h3, ?_⟩
    have h5 := h1 x (List.mem_range.1 h3)
    cases e2 : t x with
    | false => rfl
    | true =>
     have := h5 e2
     simp [this] at h4
  have h3 : (k :: ((List.range n).filter fun k => !s k)).Nodup := by
   refine List.nodup_cons.2 ⟨fun hm => ?_, List.Pairwise.filter _ List.nodup_range⟩
   have := (List.mem_filter.1 hm).2
   simp [hs] at this
  have := pigeonL _ _ h3 h2
  simpa using this
 exact key
theorem AInv.busy {n : Nat} {l : List C} {r : Int} {ps : List Pr} (h : AInv n l r ps) (hb : busyS l r ps n = true) : r ≤ l.length + 1 := by
 unfold busyS at hb
 rw [List.any_eq_true] at hb
 obtain ⟨k, hk, hb⟩ := hb
 unfold busyAt at hb
 simp only [Bool.and_eq_true, Bool.not_eq_true'] at hb
 exact h.e k (List.mem_range.1 hk) hb.1 hb.2
def pr0 (n i : Nat) : Pr := ⟨fun k => decide (k = i), fun k => decide (k < n), 0, false⟩
def init0 (n : Nat) : List Pr := (List.range n).map (pr0 n)
theorem prAt_init {n i : Nat} (h : i < n) : prAt (init0 n) i = pr0 n i := by simp [prAt, init0, h]
theorem AInv.init (n : Nat) (l : List C) : AInv n l 0 (init0 n) := by
 refine ⟨by simp [init0], fun k hk hd => ?_, fun i hi _ _ k hk _ => ?_, fun i hi _ _ => by omega, fun i hi _ _ k hk hf => ?_, fun i hi _ _ => by omega, fun i hi k hk => ?_⟩
 ·rw [prAt_init hk] at hd; cases hd
 ·rw [prAt_init hi]; exact decide_eq_true hk
 ·rw [prAt_init hi] at hf
  exact absurd hk (of_decide_eq_false hf)
 ·rw [prAt_init hi]; exact decide_eq_false (by omega)
theorem step_cases {n : Nat} {l : List C} {r : Int} {ps : List Pr} (hlen : ps.length = n) {i : Nat} (hi : i < n) (hl : livesS l i r = true) :
  (0 < (prAt ps i).dec ∧ prAt (stepA n l r ps) i = { prAt ps i with done := true }) ∨
  (¬ 0 < (prAt ps i).dec ∧ (∃ q, q < n ∧ hearsA l r ps q i = true ∧ 0 < (prAt ps q).dec ∧ prAt (stepA n l r ps) i = { prAt ps i with w := (prAt ps q).w, dec := r })) ∨
  (¬ 0 < (prAt ps i).dec ∧ (∀ q, q < n → hearsA l r ps q i = true → ¬ 0 < (prAt ps q).dec) ∧ prAt (stepA n l r ps) i = { prAt ps i with w := wAll (prAt ps i).w (hearA n l r ps i), dec := if eqB (fun k => decide (k = i) || (decide (k < n) && hearsA l r ps k i)) (prAt ps i).h = true then r else (prAt ps i).dec, h := fun k => decide (k = i) || (decide (k < n) && hearsA l r ps k i) }) := by
 rw [prAt_step hlen hi]
 unfold stepF takeS
 rw [if_pos hl]
 by_cases hd : 0 < (prAt ps i).dec
 ·exact .inl ⟨hd, if_pos hd⟩
 ·rw [if_neg hd]
  right
  by_cases hf : ∃ x ∈ hearA n l r ps i, x.2.fin = true
  ·left
   obtain ⟨x, hx, hxf, he⟩ := takeGo_fin (prAt ps i) r (hearA n l r ps i) (addS (fun _ => false) i) (prAt ps i).w hf
   obtain ⟨q, h1, h2, rfl⟩ := (mem_hear hlen hi).1 hx
   exact ⟨hd, q, h1, h2, of_decide_eq_true hxf, he⟩
  ·right
   have hno : ∀ x ∈ hearA n l r ps i, x.2.fin = false := by
    intro x hx
    cases e : x.2.fin with
    | false => rfl
    | true => exact absurd ⟨x, hx, e⟩ hf
   refine ⟨hd, fun q h1 h2 h3 => hf ⟨(q, mOf (prAt ps q)), (mem_hear hlen hi).2 ⟨q, h1, h2, rfl⟩, decide_eq_true h3⟩, ?_⟩
   have hR : RAll (addS (fun _ => false) i) (hearA n l r ps i) = fun k => decide (k = i) || (decide (k < n) && hearsA l r ps k i) := by
    funext k
    unfold RAll addS
    have h1 : ((hearA n l r ps i).any fun x => decide (x.1 = k)) = (decide (k < n) && hearsA l r ps k i) := by
     rw [Bool.eq_iff_iff, List.any_eq_true, Bool.and_eq_true]
     constructor
     ·rintro ⟨x, hx, he⟩
      obtain ⟨q, h1, h2, rfl⟩ := (mem_hear hlen hi).1 hx
      have he : q = k := of_decide_eq_true he
      subst he
      exact ⟨decide_eq_true h1, h2⟩
     ·rintro ⟨h1, h2⟩
      exact ⟨(k, mOf (prAt ps k)), (mem_hear hlen hi).2 ⟨k, of_decide_eq_true h1, h2, rfl⟩, decide_eq_true rfl⟩
    rw [h1]
    by_cases e : k = i
    ·subst e; simp
    ·simp [e]
   rw [takeGo_no _ _ _ _ _ hno, hR]
theorem eqB_false {s t : Nat → Bool} (h : ¬ eqB s t = true) : ∃ k, k < 64 ∧ s k ≠ t k := by
 by_cases hh : ∃ k, k < 64 ∧ s k ≠ t k
 ·exact hh
 ·exfalso
  apply h
  unfold eqB
  rw [beq_iff_eq]
  refine List.map_congr_left fun k hk => ?_
  by_cases e : s k = t k
  ·exact e
  ·exact absurd ⟨k, List.mem_range.1 hk, e⟩ hh
theorem AInv.step {n : Nat} {l : List C} {r : Int} {ps : List Pr} (hr : 0 ≤ r) (h : AInv n l r ps) : AInv n l (r + 1) (stepA n l (r + 1) ps) := by
 have hlen := h.len
 -- who is undecided behind the round was before, heard none that was decided, and lost one more
 have key : ∀ i, i < n → livesS l i (r + 1) = true → ¬ 0 < (prAt (stepA n l (r + 1) ps) i).dec →
   ¬ 0 < (prAt ps i).dec ∧ (∀ q, q < n → hearsA l (r + 1) ps q i = true → ¬ 0 < (prAt ps q).dec) ∧ (prAt (stepA n l (r + 1) ps) i).h = (fun k => decide (k = i) || (decide (k < n) && hearsA l (r + 1) ps k i)) ∧
   ¬ eqB (fun k => decide (k = i) || (decide (k < n) && hearsA l (r + 1) ps k i)) (prAt ps i).h = true := by
  intro i hi hl hu
  rcases step_cases hlen hi hl with ⟨h1, h2⟩ | ⟨h1, q, _, _, _, h2⟩ | ⟨h1, h2, h3⟩
  ·rw [h2] at hu; exact absurd h1 hu
  ·rw [h2] at hu; exact absurd (show (0 : Int) < r + 1 by omega) hu
  ·refine ⟨h1, h2, by rw [h3], fun he => ?_⟩
   rw [h3] at hu
   simp only [he, if_true] at hu
   omega
 have hears_alive : ∀ i, i < n → livesS l i (r + 1) = true → ¬ 0 < (prAt ps i).dec → ∀ k, k < n → livesS l k (r + 1) = true → (decide (k = i) || (decide (k < n) && hearsA l (r + 1) ps k i)) = true := by
  intro i hi hl hu k hk hlk
  by_cases e : k = i
  ·simp [e]
  ·have hd : (prAt ps k).done = false := by
    cases ed : (prAt ps k).done with
    | false => rfl
    | true => exact absurd (h.c k hk ed i hi (lives_mono hl)) hu
   have hk1 : livesS l k (r + 1 - 1) = true := by rw [show r + 1 - 1 = r by omega]; exact lives_mono hlk
   have e' : ¬ i = k := fun h => e h.symm
   unfold hearsA
   rw [hd, hk1, lives_reach hlk]
   simp [hk, e']
 have hsub : ∀ i, i < n → livesS l i (r + 1) = true → ¬ 0 < (prAt ps i).dec → ∀ k, k < n → (decide (k = i) || (decide (k < n) && hearsA l (r + 1) ps k i)) = true → (prAt ps i).h k = true := by
  intro i hi hl hu k hk hR
  refine h.a i hi (lives_mono hl) hu k hk ?_
  by_cases e : k = i
  ·subst e; exact lives_mono hl
  ·have hR : hearsA l (r + 1) ps k i = true := by simpa [e, hk] using hR
   unfold hearsA at hR
   simp only [Bool.and_eq_true] at hR
   have := hR.2.1
   rw [show r + 1 - 1 = r by omega] at this
   exact this
 refine ⟨by unfold stepA; rw [partI_len, hlen], fun k hk hd i hi hl => ?_, fun i hi hl hu k hk hlk => ?_, fun i hi hl hu => ?_, fun i hi hl hu k hk hf => ?_, fun i hi hl hd => ?_, fun i hi k hk => ?_⟩
 ·by_cases hkd : (prAt ps k).done = true
  ·have hdi := h.c k hk hkd i hi (lives_mono hl)
   rcases step_cases hlen hi hl with ⟨h1, h2⟩ | ⟨h1, _⟩ | ⟨h1, _⟩
   ·rw [h2]; exact h1
   ·exact absurd hdi h1
   ·exact absurd hdi h1
  ·have hkd' : (prAt ps k).done = false := by simpa using hkd
   have hlk : livesS l k (r + 1) = true := by
    cases e : livesS l k (r + 1) with
    | true => rfl
    | false =>
     rw [prAt_step hlen hk] at hd
     unfold stepF at hd
     rw [e] at hd
     exact absurd hd hkd
   have hdk : 0 < (prAt ps k).dec := by
    rcases step_cases hlen hk hlk with ⟨h1, _⟩ | ⟨_, q, _, _, _, h2⟩ | ⟨_, _, h2⟩
    ·exact h1
    ·rw [h2] at hd; exact absurd hd hkd
    ·rw [h2] at hd; exact absurd hd hkd
   rcases step_cases hlen hi hl with ⟨h1, h2⟩ | ⟨h1, q, _, _, _, h2⟩ | ⟨h1, h2, _⟩
   ·rw [h2]; exact h1
   ·rw [h2]; show 0 < r + 1; omega
   ·exfalso
    have hne : ¬ i = k := fun e => h1 (by rw [e]; exact hdk)
    refine h2 k hk ?_ hdk
    have hk1 : livesS l k (r + 1 - 1) = true := by rw [show r + 1 - 1 = r by omega]; exact lives_mono hlk
    unfold hearsA
    rw [hkd', hk1, lives_reach hlk]
    simp [hne]
 ·obtain ⟨h1, _, h3, _⟩ := key i hi hl hu
  rw [h3]
  exact hears_alive i hi hl h1 k hk hlk
 ·obtain ⟨h1, h2, h3, h4⟩ := key i hi hl hu
  obtain ⟨k, hk64, hne⟩ := eqB_false h4
  have hkn : k < n := by
   rcases Nat.lt_or_ge k n with hlt | hge
   ·exact hlt
   ·exfalso
    apply hne
    rw [h.f i hi k hge]
    have e1 : ¬ k = i := by omega
    have e2 : ¬ k < n := by omega
    simp [e1, e2]
  have hb := h.b i hi (lives_mono hl) h1
  have hs := hsub i hi hl h1
  rw [h3]
  obtain ⟨R, hRd⟩ : ∃ R : Nat → Bool, R = fun k => decide (k = i) || (decide (k < n) && hearsA l (r + 1) ps k i) := ⟨_, rfl⟩
  have hne : R k ≠ (prAt ps i).h k := by rw [hRd]; exact hne
  have hs : ∀ k, k < n → R k = true → (prAt ps i).h k = true := by rw [hRd]; exact hs
  rw [← hRd]
  have hR : R k = false := by
   cases e : R k with
   | false => rfl
   | true => exact absurd (by rw [e, hs k hkn e]) hne
  have hh : (prAt ps i).h k = true := by
   cases e : (prAt ps i).h k with
   | true => rfl
   | false => exact absurd (by rw [e, hR]) hne
  have := lost_lt hs hkn hh hR
  omega
 ·obtain ⟨h1, h2, h3, h4⟩ := key i hi hl hu
  intro hn
  rw [h3] at hf
  have := hears_alive i hi hl h1 k hk (lives_none' hn _)
  have hf : (decide (k = i) || (decide (k < n) && hearsA l (r + 1) ps k i)) = false := hf
  rw [this] at hf
  cases hf
 ·rcases step_cases hlen hi hl with ⟨h1, h2⟩ | ⟨h1, _⟩ | ⟨h1, _⟩
  ·rw [h2] at hd; cases hd
  all_goals
   have hb := h.b i hi (lives_mono hl) h1
   have := lost_le (h.g i hi (lives_mono hl) h1)
   omega
 ·cases e : livesS l i (r + 1) with
  | false =>
   rw [prAt_step hlen hi]
   unfold stepF
   rw [e]
   exact h.f i hi k hk
  | true =>
   rcases step_cases hlen hi e with ⟨_, h2⟩ | ⟨_, q, _, _, _, h2⟩ | ⟨_, _, h2⟩
   ·rw [h2]; exact h.f i hi k hk
   ·rw [h2]; exact h.f i hi k hk
   ·rw [h2]
    have e1 : ¬ k = i := by omega
    have e2 : ¬ k < n := by omega
    simp [e1, e2]
def agreeGo (n : Nat) (l : List C) : Nat → Int → List Pr → List Pr × Int
 | 0, r, ps => (ps, r)
 | f + 1, r, ps => if busyS l r ps n = true then agreeGo n l f (r + 1) (stepA n l (r + 1) ps) else (ps, r)
abbrev AgR := List Rp × Int × Int
def badX (n x : Int) : Bool := decide (x < 0) || decide (x ≥ n)
def badK (n : Int) (L : List (List Int)) : Bool := L.any fun ks => ks.any (badX n)
def rpOf (fl : List Int) (L : List (List Int)) (p : Pr) : Rp := if p.dec > 0 then agreedS p fl L else ⟨false, 0, 0, []⟩
def agreeR (fl : List Int) (L : List (List Int)) (l : List C) : AgR :=
 if checkS fl.length l ≠ 0 then ([], 0, checkS fl.length l) else if L.length ≠ fl.length then ([], 0, 26) else if badK fl.length L = true then ([], 0, 11) else
 ((List.range fl.length).map fun i => rpOf fl L (prAt (agreeGo fl.length l (l.length + 2) 0 (init0 fl.length)).1 i), (agreeGo fl.length l (l.length + 2) 0 (init0 fl.length)).2, 0)
def rpsV (rs : List Rp) : AV := .list 4 (rs.map rpRow)
theorem pure_rps (rs : List Rp) : Pure (rpsV rs) := .list _ _ (allPure_map pure_rpRow rs)
def agreeV (p : AgR) : AV := .tup [rpsV p.1, .sc (.int .i64 p.2.1), .sc (.int .i64 p.2.2)]
theorem pure_agreeV (p : AgR) : Pure (agreeV p) := .tup _ (allPure_cons (pure_rps _) (allPure_cons (.sc _) (allPure_cons (.sc _) allPure_nil)))
theorem le_tup3' {a a' b c : AV} (h : Le a a') : Le (.tup [a, b, c]) (.tup [a', b, c]) := by
 intro M J v hv
 cases hv with
 | tup _ cvs hl hr =>
  refine .tup _ cvs hl fun j x v hx hv => ?_
  match j, hx with
  | 0, hx => simp at hx; subst hx; exact h M J v (hr 0 a v rfl hv)
  | 1, hx => exact hr 1 x v hx hv
  | 2, hx => exact hr 2 x v hx hv
  | j + 3, hx => simp at hx
theorem fin_nilA {e : Exit} (he : e = .normal ∨ e = .ret) {rs : List IRes} {fr : Fr} {H : Heap} {b c : AV} {R : AV → Heap → Prop} (hres : resOf fr H rs = some (.tup [.sc (.slice none 0 0), b, c])) (sz : Nat) (hp : Pure (.tup [.list sz [], b, c])) (hR : R (.tup [.list sz [], b, c]) []) :
  (e = .normal ∨ e = .ret) ∧ ∃ res res' H2, resOf fr H rs = some res ∧ SubV 0 H res H2 res' ∧ R res' H2 :=
 ⟨he, _, _, [], hres, (SubV.le (le_tup3' (Le.nil sz))).trans (.pure hp), hR⟩
theorem pure_nilA (n e : Int) : Pure (.tup [.list 4 [], .sc (.int .i64 n), .sc (.int .i64 e)]) := .tup _ (allPure_cons (.list _ _ (fun r hr => by cases hr)) (allPure_cons (.sc _) (allPure_cons (.sc _) allPure_nil)))
theorem Le.rows {sz : Nat} {rows rows' : List (List AV)} (hl : rows.length = rows'.length) (hr : ∀ (i : Nat) r r', rows[i]? = some r → rows'[i]? = some r' → r.length = r'.length ∧ ∀ (j : Nat) a b, r[j]? = some a → r'[j]? = some b → Le a b) : Le (.list sz rows) (.list sz rows') := by
 intro M J v hv
 have hget : ∀ (i : Nat) r', rows'[i]? = some r' → ∃ r, rows[i]? = some r := by
  intro i r' h
  have := (List.getElem?_eq_some_iff.1 h).1
  exact ⟨rows[i]'(by omega), List.getElem?_eq_getElem (by omega)⟩
 cases hv with
 | nilList _ a cap =>
  cases rows' with
  | nil => exact .nilList sz a cap
  | cons x l => simp at hl
 | list _ _ β off cap n cs e fr hn hM hsz hle h1 h =>
  refine .list sz rows' β off cap n cs e fr (by omega) hM (fun i r' h' => ?_) (by rw [← hl]; exact hle) (by rw [← hl]; exact h1) fun i r' j c v h2 h3 h4 => ?_
  ·obtain ⟨r, hg⟩ := hget i r' h'
   rw [← (hr i r r' hg h').1]
   exact hsz i r hg
  ·obtain ⟨r, hg⟩ := hget i r' h2
   obtain ⟨e1, e2⟩ := hr i r r' hg h2
   have hj := (List.getElem?_eq_some_iff.1 h3).1
   have h5 : r[j]? = some (r[j]'(by omega)) := List.getElem?_eq_getElem (by omega)
   exact e2 j _ c h5 h3 M J v (h i r j _ v hg h5 h4)
theorem Ren.cloOf {ρ : Nat → Nat → Option (Nat × Nat)} {f : FuncId} {cs cs' : List AV} (h : RenArgs ρ cs cs') : Ren ρ (.clo (.func f) [] cs) (.clo (.func f) [] cs') :=
 .clo _ _ _ _ _ rfl h.spec.1 (fun j x y h => (by simp at h)) fun j x y => h.spec.2 j x y
theorem good_lenA {n : Nat} {l : List C} (h : checkS n l = 0) : l.length ≤ 64 := by
 obtain ⟨⟨h1, h2⟩, hg, hd⟩ := check_zero h
 have := pigeon l.length (List.range n) (fun k => ((l[k]?).map fun c => c.rank.toNat).getD 0) (fun u hu => ?_) (fun a b ha hb hab => ?_)
 ·rw [List.length_range] at this; omega
 ·have h3 := hg l[u] (List.getElem_mem hu)
  have h4 := h3.r0
  have h5 := h3.r1
  rw [List.getElem?_eq_getElem hu]
  exact List.mem_range.2 (by show l[u].rank.toNat < n; omega)
 ·rw [List.getElem?_eq_getElem ha, List.getElem?_eq_getElem hb] at hab
  have hab : l[a].rank.toNat = l[b].rank.toNat := hab
  have ra := (hg l[a] (List.getElem_mem ha)).r0
  have rb := (hg l[b] (List.getElem_mem hb)).r0
  have key : ∀ x y : Nat, (hx : x < l.length) → (hy : y < l.length) → l[x].rank = l[y].rank → ¬ x < y := by
   intro x y hx hy e hlt
   have h6 := hd y l[y] (List.getElem?_eq_getElem hy)
   unfold findC at h6
   rw [List.find?_eq_none] at h6
   refine h6 l[x] (List.mem_iff_getElem?.2 ⟨x, ?_⟩) (by simp [e])
   rw [List.getElem?_take, if_pos hlt, List.getElem?_eq_getElem hx]
  have e : l[a].rank = l[b].rank := by omega
  have k1 := key a b ha hb e
  have k2 := key b a hb ha e.symm
  omega
def rpCells (fl : List Int) (L : List (List Int)) (p : Pr) : List AV := if p.dec > 0 then rpRow (agreedS p fl L) else z4
theorem pure_rpCells (fl : List Int) (L : List (List Int)) (p : Pr) : ∀ c ∈ rpCells fl L p, Pure c := by
 unfold rpCells
 split
 ·exact pure_rpRow _
 ·exact pure_z4
def outR (fl : List Int) (L : List (List Int)) (ps : List Pr) (n i : Nat) : List (List AV) := (List.range n).map fun j => if j < i then rpCells fl L (prAt ps j) else z4
theorem outR_len (fl : List Int) (L : List (List Int)) (ps : List Pr) (n i : Nat) : (outR fl L ps n i).length = n := by simp [outR]
theorem outR_get {fl : List Int} {L : List (List Int)} {ps : List Pr} {n i j : Nat} (h : j < n) : (outR fl L ps n i)[j]? = some (if j < i then rpCells fl L (prAt ps j) else z4) := by simp [outR, h]
theorem pure_outR (fl : List Int) (L : List (List Int)) (ps : List Pr) (n i : Nat) : ∀ r ∈ outR fl L ps n i, ∀ c ∈ r, Pure c := by
 intro r hr
 obtain ⟨j, _, rfl⟩ := List.mem_map.1 hr
 show ∀ c ∈ (if j < i then rpCells fl L (prAt ps j) else z4), Pure c
 split
 ·exact pure_rpCells _ _ _
 ·exact pure_z4
theorem outR_set {fl : List Int} {L : List (List Int)} {ps : List Pr} {n i : Nat} (h : i < n) : (outR fl L ps n i).set i (rpCells fl L (prAt ps i)) = outR fl L ps n (i + 1) := by
 apply List.ext_getElem? fun j => ?_
 rw [List.getElem?_set]
 by_cases e : i = j
 ·subst e
  rw [if_pos rfl, if_pos (by rw [outR_len]; exact h), outR_get h, if_pos (by omega)]
 ·rw [if_neg e]
  by_cases hj : j < n
  ·rw [outR_get hj, outR_get hj]
   have : (j < i + 1) ↔ (j < i) := by omega
   simp only [this]
  ·rw [List.getElem?_eq_none (by rw [outR_len]; omega), List.getElem?_eq_none (by rw [outR_len]; omega)]
theorem outR_skip {fl : List Int} {L : List (List Int)} {ps : List Pr} {n i : Nat} (h : i < n) (hd : ¬ (prAt ps i).dec > 0) : outR fl L ps n (i + 1) = outR fl L ps n i := by
 rw [← outR_set h]
 have e : rpCells fl L (prAt ps i) = z4 := if_neg hd
 rw [e]
 apply List.ext_getElem? fun j => ?_
 rw [List.getElem?_set]
 by_cases e : i = j
 ·subst e
  rw [if_pos rfl, if_pos (by rw [outR_len]; exact h), outR_get h, if_neg (by omega)]
 ·rw [if_neg e]
theorem le_outR (fl : List Int) (L : List (List Int)) (ps : List Pr) (n : Nat) : Le (.list 4 (outR fl L ps n n)) (rpsV ((List.range n).map fun i => rpOf fl L (prAt ps i))) := by
 refine Le.rows (by simp [outR]) fun i r r' h1 h2 => ?_
 have hi : i < n := by
  have := (List.getElem?_eq_some_iff.1 h1).1
  rw [outR_len] at this
  exact this
 rw [outR_get hi, if_pos hi] at h1
 have h2 : some (rpRow (rpOf fl L (prAt ps i))) = some r' := by rw [← h2]; simp [hi]
 injection h1 with h1
 injection h2 with h2
 subst h1
 subst h2
 unfold rpCells rpOf
 by_cases hd : (prAt ps i).dec > 0
 ·rw [if_pos hd, if_pos hd]
  exact ⟨rfl, fun j a b ha hb => by rw [ha] at hb; injection hb with hb; subst hb; exact .refl _⟩
 ·rw [if_neg hd, if_neg hd]
  refine ⟨rfl, fun j a b ha hb => ?_⟩
  match j, ha, hb with
  | 0, ha, hb => cases ha; cases hb; exact .refl _
  | 1, ha, hb => cases ha; cases hb; exact .refl _
  | 2, ha, hb => cases ha; cases hb; exact .refl _
  | 3, ha, hb => cases ha; cases hb; exact Le.nil 1
  | j + 4, ha, hb => simp [z4] at ha
def noPr2 : Pr := ⟨fun _ => false, fun _ => false, 0, false⟩
def initK (n k : Nat) : List Pr := (List.range n).map fun i => if i < k then pr0 n i else noPr2
theorem initK_len (n k : Nat) : (initK n k).length = n := by simp [initK]
theorem initK_get {n k i : Nat} (h : i < n) : (initK n k)[i]? = some (if i < k then pr0 n i else noPr2) := by simp [initK, h]
theorem initK_end (n : Nat) : initK n n = init0 n := List.map_congr_left fun _ hi => if_pos (List.mem_range.1 hi)
theorem initK_set {n k : Nat} (h : k < n) : (initK n k).set k (pr0 n k) = initK n (k + 1) := by
 apply List.ext_getElem? fun j => ?_
 rw [List.getElem?_set]
 by_cases e : k = j
 ·subst e
  rw [if_pos rfl, if_pos (by rw [initK_len]; exact h), initK_get h, if_pos (by omega)]
 ·rw [if_neg e]
  by_cases hj : j < n
  ·rw [initK_get hj, initK_get hj]
   have : (j < k + 1) ↔ (j < k) := by omega
   simp only [this]
  ·rw [List.getElem?_eq_none (by rw [initK_len]; omega), List.getElem?_eq_none (by rw [initK_len]; omega)]
theorem pr_wset (p : Pr) {q : Nat} (h : q < 64) (b : Bool) : lsplice (prRow p) q [.sc (.bool b)] = prRow { p with w := fun i => if i = q then b else p.w i } := by
 rw [lsplice_one]
 unfold prRow
 rw [List.set_append_left _ _ (by rw [bset_len]; exact h), bset_set]
theorem row_pr0 {n k : Nat} : prRow { w := fun i => if i = k then true else noPr2.w i, h := fun j => decide (j < n), dec := 0, done := false } = prRow (pr0 n k) := by
 unfold prRow pr0
 have : bset 64 (fun i => if i = k then true else noPr2.w i) = bset 64 (fun i => decide (i = k)) := bset_congr fun i _hi => by
  by_cases e : i = k
  ·simp [e]
  ·simp [e, noPr2]
 rw [this]
set_option maxHeartbeats 2000000 in
theorem agree_ok (fl : List Int) (L : List (List Int)) (l : List C) (hfl : fl.length ≤ 4000000) (_hLl : L.length ≤ 4000000) (hks : ∀ ks ∈ L, ks.length ≤ 1000000) (hl : l.length ≤ 4000000) :
  CallOK Try.prog 16 [intsV fl, knownV L, crV l] [] (fun res _ => res = agreeV (agreeR fl L l)) := by
 have e0 : (intsR fl).length = fl.length := by simp [intsR]
 have eL : (L.map fun ks => [intsV ks]).length = L.length := by simp
 refine CallOK.of cF16 ?_ (by simp [F16])
 refine walkO ?_
 rw [e0]
 refine Reg.c (Nat.le_refl _) rfl (CallOK.ofPure (PureRun.of (allPure_cons (.sc _) (allPure_cons (pure_cr l) allPure_nil)) (.sc _) (check_ok fl.length l hl)) _ ?_)
 refine walkO ?_
 refine AWP.cond rfl (fun hc => ?_) (fun hc => ?_)
 ·have hc' : checkS fl.length l ≠ 0 := by simpa using hc
  refine walkO ?_
  refine fin_nilA (.inr rfl) rfl 4 (pure_nilA _ _) ?_
  unfold agreeR
  rw [if_pos hc']
  rfl
 have hc' : checkS fl.length l = 0 := by simpa using hc
 obtain ⟨⟨hn1, hn64⟩, hg, hd⟩ := check_zero hc'
 have hq1 : ¬ checkS fl.length l ≠ 0 := fun h => h hc'
 refine walkO ?_
 rw [eL]
 refine AWP.cond rfl (fun hn => ?_) (fun hn => ?_)
 ·have hn' : L.length ≠ fl.length := by simp at hn; omega
  refine walkO ?_
  refine fin_nilA (.inr rfl) rfl 4 (pure_nilA _ _) ?_
  unfold agreeR
  rw [if_neg hq1, if_pos hn']
  rfl
 have hn' : L.length = fl.length := by simp at hn; omega
 have hq2 : ¬ L.length ≠ fl.length := fun h => h hn'
 refine walkO ?_
 rw [eL]
 refine AWP.loop (fun a : Nat => [(0, intsV fl), (1, knownV L), (2, crV l), (9, .sc (.int .i64 fl.length)), (34, knownV L), (35, .sc (.int .i64 L.length)), (36, .sc (.int .i64 a))]) (fun _ => []) (fun a => a ≤ L.length ∧ badK fl.length (L.take a) = false) (fun a => L.length - a) 0 ⟨Nat.zero_le _, rfl⟩ ?_ ?_
 ·exact Sub.none ⟨.pure (pure_ints fl), .pure (pure_knownV L), .pure (pure_cr l), .int rfl, .pure (pure_knownV L), .int rfl, .int rfl, trivial⟩
 rintro a ⟨ha, hba⟩
 have ha1 : IntKind.i64.wrap ((a : Int) + 1) = ((a + 1 : Nat) : Int) := by rw [wrap_small (by omega) (by omega)]; omega
 refine walkO ?_
 refine AWP.cond rfl (fun h => ?_) (fun h => ?_)
 ·have hal : a < L.length := by simpa using h
  have hra : rowIx (L.map fun ks => [intsV ks]) (a : Int) = some [intsV L[a]] := rowIx_map _ L a hal
  have h1 := hks L[a] (List.getElem_mem hal)
  have hmem := List.getElem_mem hal
  have hbs : badK fl.length (L.take (a + 1)) = (badK fl.length (L.take a) || L[a].any (badX fl.length)) := by
   unfold badK
   rw [List.take_succ_eq_append_getElem hal, List.any_append]
   simp
  generalize L[a] = ks at hra h1 hbs hmem
  have eK : (intsR ks).length = ks.length := by simp [intsR]
  refine walkO ?_
  refine Reg.o rfl (dstep_idxSl rfl rfl hra) ?_
  refine walkO ?_
  rw [eK]
  refine AWP.loop (fun b : Nat => [(0, intsV fl), (1, knownV L), (2, crV l), (9, .sc (.int .i64 fl.length)), (34, knownV L), (35, .sc (.int .i64 L.length)), (36, .sc (.int .i64 a)), (40, intsV ks), (41, .sc (.int .i64 ks.length)), (42, .sc (.int .i64 b))]) (fun _ => []) (fun b => b ≤ ks.length ∧ (ks.take b).any (badX fl.length) = false) (fun b => ks.length - b) 0 ⟨Nat.zero_le _, rfl⟩ ?_ ?_
  ·exact Sub.none ⟨.pure (pure_ints fl), .pure (pure_knownV L), .pure (pure_cr l), .int rfl, .pure (pure_knownV L), .int rfl, .int rfl, .pure (pure_ints ks), .int rfl, .int rfl, trivial⟩
  rintro b ⟨hb, hbb⟩
  have hb1 : IntKind.i64.wrap ((b : Int) + 1) = ((b + 1 : Nat) : Int) := by rw [wrap_small (by omega) (by omega)]; omega
  refine walkO ?_
  refine AWP.cond rfl (fun h => ?_) (fun h => ?_)
  ·have hbl : b < ks.length := by simpa using h
   have hrb : rowIx (intsR ks) (b : Int) = some [.sc (.int .i64 ks[b])] := rowIx_map _ ks b hbl
   have hxm := List.getElem_mem hbl
   have hbs2 : (ks.take (b + 1)).any (badX fl.length) = ((ks.take b).any (badX fl.length) || badX fl.length ks[b]) := by
    rw [List.take_succ_eq_append_getElem hbl, List.any_append]
    simp
   generalize ks[b] = x at hrb hbs2 hxm
   have hbad : badX fl.length x = true → agreeR fl L l = ([], 0, 11) := by
    intro hx
    have : badK fl.length L = true := by
     unfold badK
     rw [List.any_eq_true]
     exact ⟨ks, hmem, by rw [List.any_eq_true]; exact ⟨x, hxm, hx⟩⟩
    unfold agreeR
    rw [if_neg hq1, if_neg hq2, if_pos this]
   refine walkO ?_
   refine Reg.o rfl (dstep_idxSl rfl rfl hrb) ?_
   refine walkO ?_
   refine Reg.gs rfl (fun g => ?_) (fun g => ?_)
   ·refine walkO ?_
    refine fin_nilA (.inr rfl) rfl 4 (pure_nilA _ _) ?_
    rw [hbad (by unfold badX; rw [g]; rfl)]
    rfl
   ·refine walkO ?_
    refine AWP.cond rfl (fun g2 => ?_) (fun g2 => ?_)
    ·refine walkO ?_
     refine fin_nilA (.inr rfl) rfl 4 (pure_nilA _ _) ?_
     rw [hbad (by unfold badX; rw [g2, Bool.or_true])]
     rfl
    ·refine walkO ?_
     exact ⟨b + 1, ⟨by omega, by rw [hbs2, hbb]; unfold badX; rw [g, g2]; rfl⟩, by omega, Sub.none ⟨.pure (pure_ints fl), .pure (pure_knownV L), .pure (pure_cr l), .int rfl, .pure (pure_knownV L), .int rfl, .int rfl, .pure (pure_ints ks), .int rfl, .int hb1, trivial⟩⟩
  ·have hbk : b = ks.length := by
    have : ¬ b < ks.length := by simpa using h
    omega
   rw [hbk, List.take_of_length_le (Nat.le_refl _)] at hbb
   refine walkO ?_
   exact ⟨a + 1, ⟨by omega, by rw [hbs, hba, hbb]; rfl⟩, by omega, Sub.none ⟨.pure (pure_ints fl), .pure (pure_knownV L), .pure (pure_cr l), .int rfl, .pure (pure_knownV L), .int rfl, .int ha1, trivial⟩⟩
 ·have haL : a = L.length := by
   have : ¬ a < L.length := by simpa using h
   omega
  rw [haL, List.take_of_length_le (Nat.le_refl _)] at hba
  have hq3 : ¬ badK fl.length L = true := by rw [hba]; decide
  have hAR : agreeR fl L l = ((List.range fl.length).map fun i => rpOf fl L (prAt (agreeGo fl.length l (l.length + 2) 0 (init0 fl.length)).1 i), (agreeGo fl.length l (l.length + 2) 0 (init0 fl.length)).2, 0) := by
   unfold agreeR
   rw [if_neg hq1, if_neg hq2, if_neg hq3]
  rw [hAR]
  have hflE : ∃ n, n = fl.length := ⟨_, rfl⟩
  obtain ⟨n, hnE⟩ := hflE
  have hn1' : 1 ≤ n := by omega
  have hn64' : n ≤ 64 := by omega
  refine walkO ?_
  rw [← hnE] at hg ⊢
  refine Reg.c (Nat.le_refl _) rfl (CallOK.ofPure (PureRun.of (allPure_cons (.sc _) (allPure_cons (pure_cr l) allPure_nil)) (pure_sch n l) (scheduled_ok n l hl hd)) _ ?_)
  refine walkO ?_
  refine Reg.o rfl (dstep_mk (n := n) rfl (by omega) (by omega)) ?_
  refine walkO ?_
  refine AWP.loop (fun k : Nat => [(0, intsV fl), (1, knownV L), (9, .sc (.int .i64 n)), (15, .ptr 2 0 0 0), (16, .ptr 0 0 0 0), (61, .sc (.int .i64 n)), (62, .sc (.int .i64 k))]) (fun k => [[boxB n], [procsB (initK n k)], [X42.schB n l]]) (fun k => k ≤ n) (fun k => n - k) 0 (Nat.zero_le _) ?_ ?_
  ·refine Sub.re [[(2, 0)], [(1, 0)], [(0, 0)]] rfl rfl rfl ⟨⟨⟨_, rfl, RenB.one (sz := 1) (xs := [.hsl 1 0 0 n]) ⟨.hsl _ _ _ _ _ _ rfl, trivial⟩⟩, trivial⟩, ⟨⟨_, rfl, RenB.rows (rows := List.replicate n (zrow [(128, .bool false), (1, .int .i64 0), (1, .bool false)])) ?_ (pure_procs _)⟩, trivial⟩,
    ⟨⟨_, rfl, RenB.pure 2 _ (pure_schA n l)⟩, trivial⟩, trivial⟩ ⟨.pure (pure_ints fl), .pure (pure_knownV L), .int rfl, .ptr _ _ _ _ _ _ rfl, .ptr _ _ _ _ _ _ rfl, .int rfl, .int rfl, trivial⟩
   have e1 : zrow [(128, .bool false), (1, .int .i64 0), (1, .bool false)] = prRow noPr2 := rfl
   rw [e1]
   unfold initK
   rw [List.map_map]
   refine List.ext_getElem? fun j => ?_
   by_cases hj : j < n
   ·simp [hj]
   ·rw [List.getElem?_eq_none (by simp; omega), List.getElem?_eq_none (by simp; omega)]
  intro k hk
  have hk1 : IntKind.i64.wrap ((k : Int) + 1) = ((k + 1 : Nat) : Int) := by rw [wrap_small (by omega) (by omega)]; omega
  refine walkO ?_
  refine AWP.cond rfl (fun h => ?_) (fun h => ?_)
  ·have hkn : k < n := by simpa using h
   have hk64 : k < 64 := by omega
   have hg0 : (initK n k)[k]? = some noPr2 := by rw [initK_get hkn, if_neg (Nat.lt_irrefl k)]
   have hrow0 : ((initK n k).map prRow)[0 + k]? = some (prRow noPr2) := by rw [Nat.zero_add]; exact procs_get hg0
   refine walkO ?_
   refine DK.c rfl (PureRun.of (allPure_cons (.sc _) allPure_nil) (.agg _ (pure_bset _ _)) (first_ok n hn64')) ?_
   refine walkO ?_
   refine DK.o rfl (dstep_idxH (q := k) rfl rfl rfl hkn (by simp [initK_len])) ?_
   refine walkO ?_
   refine DK.o rfl (dstep_idxArr (q := k) rfl rfl rfl hk64) ?_
   refine DK.on rfl (dstep_stN rfl rfl rfl hrow0 rfl (by rw [pr_len]; omega) rfl) ?_
   have e3 : ((initK n k).map prRow).set (0 + k) (lsplice (prRow noPr2) (0 + 0 + k * 1) [AV.sc (.bool true)]) = ((initK n k).set k { noPr2 with w := fun i => if i = k then true else noPr2.w i }).map prRow := by
    rw [← procs_set, Nat.zero_add, Nat.zero_add, Nat.mul_one, pr_wset noPr2 hk64]
   have hrow1 : (((initK n k).set k { noPr2 with w := fun i => if i = k then true else noPr2.w i }).map prRow)[0 + k]? = some (prRow { noPr2 with w := fun i => if i = k then true else noPr2.w i }) := by
    rw [Nat.zero_add]
    exact procs_get (List.getElem?_set_self (by rw [initK_len]; exact hkn))
   rw [e3]
   refine DK.o rfl (dstep_idxH (q := k) rfl rfl rfl hkn (by simp [initK_len])) ?_
   refine walkO ?_
   refine DK.on rfl (dstep_stN (cs := bset 64 fun i => decide (i < n)) rfl rfl rfl hrow1 (bset_len _ _) (by rw [pr_len]; omega) (bset_cell1 _ _)) ?_
   refine DK.nil ⟨by kernel_rfl, ?_⟩
   refine walkO ?_
   refine ⟨k + 1, by omega, by omega, Sub.re [[(0, 0)], [(1, 0)], [(2, 0)]] rfl rfl rfl ⟨⟨⟨_, rfl, RenB.one (sz := 1) (xs := [.hsl 1 0 0 n]) ⟨.hsl _ _ _ _ _ _ rfl, trivial⟩⟩, trivial⟩, ⟨⟨_, rfl, RenB.rows (rows := (((initK n k).set k { noPr2 with w := fun i => if i = k then true else noPr2.w i }).map prRow).set (0 + k) (lsplice (prRow { noPr2 with w := fun i => if i = k then true else noPr2.w i }) (0 + 64) (bset 64 fun i => decide (i < n)))) ?_ (pure_procs _)⟩, trivial⟩,
    ⟨⟨_, rfl, RenB.pure 2 _ (pure_schA n l)⟩, trivial⟩, trivial⟩ ⟨.pure (pure_ints fl), .pure (pure_knownV L), .int rfl, .ptr _ _ _ _ _ _ rfl, .ptr _ _ _ _ _ _ rfl, .int rfl, .int hk1, trivial⟩⟩
   rw [Nat.zero_add, Nat.zero_add, pr_seth]
   have e4 : prRow { w := fun i => if i = k then true else noPr2.w i, h := fun j => decide (j < n), dec := noPr2.dec, done := noPr2.done } = prRow (pr0 n k) := row_pr0
   rw [e4, procs_set, List.set_set, initK_set hkn]
  ·have hkn : k = n := by
    have : ¬ k < n := by simpa using h
    omega
   subst hkn
   rw [initK_end]
   have hI0 := AInv.init k l
   refine walkO ?_
   refine AWP.loop (σ := Nat × Nat × List Pr) (fun s => [(0, intsV fl), (1, knownV L), (9, .sc (.int .i64 k)), (15, .ptr 3 0 0 0), (16, .ptr 0 0 0 0), (18, .ptr 2 0 0 0), (19, .clo (.func 40) [] [.ptr 0 0 0 0, .ptr 3 0 0 0, .ptr 2 0 0 0])]) (fun s => hp4 k l s.2.1 s.2.2)
    (fun s => s.2.1 + s.1 = l.length + 2 ∧ AInv k l s.2.1 s.2.2 ∧ agreeGo k l (l.length + 2) 0 (init0 k) = agreeGo k l s.1 s.2.1 s.2.2) (fun s => s.1) (l.length + 2, 0, init0 k) ⟨by simp, hI0, rfl⟩ ?_ ?_
   ·exact Sub.re [[(0, 0)], [(1, 0)], [(3, 0)], [(2, 0)]] rfl rfl rfl ⟨⟨⟨_, rfl, RenB.one (sz := 1) (xs := [.hsl 1 0 0 k]) ⟨.hsl _ _ _ _ _ _ rfl, trivial⟩⟩, trivial⟩, ⟨⟨_, rfl, RenB.rows (rows := (init0 k).map prRow) rfl (pure_procs _)⟩, trivial⟩,
     ⟨⟨_, rfl, RenB.one (sz := 1) (xs := [.sc (.int .i64 0)]) ⟨.sc _, trivial⟩⟩, trivial⟩, ⟨⟨_, rfl, RenB.pure 2 _ (pure_schA k l)⟩, trivial⟩, trivial⟩
     ⟨.pure (pure_ints fl), .pure (pure_knownV L), .int rfl, .ptr _ _ _ _ _ _ rfl, .ptr _ _ _ _ _ _ rfl, .ptr _ _ _ _ _ _ rfl, Ren.cloOf ⟨.ptr _ _ _ _ _ _ rfl, .ptr _ _ _ _ _ _ rfl, .ptr _ _ _ _ _ _ rfl, trivial⟩, trivial⟩
   rintro ⟨f, r, ps⟩ ⟨hrf, hI, hgo⟩
   simp only at hrf hI hgo
   have hlen := hI.len
   refine walkO ?_
   refine Reg.cv (Nat.zero_le _) rfl rfl ((busy_ok (l := l) (r := r) hn64' hlen).mono ?_)
   rintro res H' ⟨rfl, rfl⟩
   refine walkO ?_
   refine AWP.cond rfl (fun hb => ?_) (fun hb => ?_)
   ·have hbd := hI.busy hb
    obtain ⟨f', rfl⟩ : ∃ f', f = f' + 1 := ⟨f - 1, by omega⟩
    unfold hp4
    refine walkO ?_
    have hr1 : IntKind.i64.wrap ((r : Int) + 1) = ((r + 1 : Nat) : Int) := by rw [wrap_small (by omega) (by omega)]; omega
    have hl64 := good_lenA (n := k) (l := l) (by rw [hnE]; exact hc')
    rw [hr1]
    refine Reg.c (Nat.zero_le _) rfl ((roundA_ok (X := [[X42.schB k l]]) hn1' hn64' ⟨by omega, by omega⟩ (fun i hi => by have := reach_bounds hg hn1' i ((r + 1 : Nat) : Int); omega) hlen).mono ?_)
    rintro res H' ⟨rfl, rfl⟩
    have hst := hI.step (by omega)
    rw [show (r : Int) + 1 = ((r + 1 : Nat) : Int) by omega] at hst
    refine walkO ?_
    refine ⟨(f', r + 1, stepA k l ((r + 1 : Nat) : Int) ps), ⟨by simp only; omega, hst, ?_⟩, Nat.lt_succ_self _, ?_⟩
    ·rw [hgo]
     conv => lhs; unfold agreeGo
     rw [if_pos hb]
     rfl
    ·exact Sub.re [[(0, 0)], [(1, 0)], [(2, 0)], [(3, 0)]] rfl rfl rfl ⟨⟨⟨_, rfl, RenB.one (sz := 1) (xs := [.hsl 1 0 0 k]) ⟨.hsl _ _ _ _ _ _ rfl, trivial⟩⟩, trivial⟩, ⟨⟨_, rfl, RenB.rows (rows := (stepA k l ((r + 1 : Nat) : Int) ps).map prRow) rfl (pure_procs _)⟩, trivial⟩,
      ⟨⟨_, rfl, RenB.one (sz := 1) (xs := [.sc (.int .i64 ((r + 1 : Nat) : Int))]) ⟨.sc _, trivial⟩⟩, trivial⟩, ⟨⟨_, rfl, RenB.pure 2 _ (pure_schA k l)⟩, trivial⟩, trivial⟩
      ⟨.pure (pure_ints fl), .pure (pure_knownV L), .int rfl, .ptr _ _ _ _ _ _ rfl, .ptr _ _ _ _ _ _ rfl, .ptr _ _ _ _ _ _ rfl, Ren.cloOf ⟨.ptr _ _ _ _ _ _ rfl, .ptr _ _ _ _ _ _ rfl, .ptr _ _ _ _ _ _ rfl, trivial⟩, trivial⟩
   ·have hend : agreeGo k l f r ps = (ps, (r : Int)) := by
     cases f with
     | zero => rfl
     | succ f =>
      unfold agreeGo
      rw [if_neg (by rw [hb]; decide)]
    rw [hend] at hgo
    unfold hp4
    refine walkO ?_
    refine Reg.o rfl (dstep_mk (n := k) rfl (by omega) (by omega)) ?_
    refine walkO ?_
    have hbx : ∀ ks ∈ L, ∀ x ∈ ks, 0 ≤ x ∧ x < 64 := by
     intro ks h1 x h2
     have h3 : badX fl.length x = false := by
      cases e : badX fl.length x with
      | false => rfl
      | true =>
       exfalso
       refine hq3 ?_
       unfold badK
       rw [List.any_eq_true]
       exact ⟨ks, h1, by rw [List.any_eq_true]; exact ⟨x, h2, e⟩⟩
     unfold badX at h3
     simp at h3
     omega
    refine AWP.loop (fun i : Nat => [(0, intsV fl), (1, knownV L), (16, .ptr 0 0 0 0), (18, .ptr 2 0 0 0), (20, .hsl 3 0 0 k), (91, .sc (.int .i64 k)), (92, .sc (.int .i64 i))]) (fun i => [[boxB k], [procsB ps], [oneB (.int .i64 r)], [.cells 4 (outR fl L ps k i)]]) (fun i => i ≤ k) (fun i => k - i) 0 (Nat.zero_le _) ?_ ?_
    ·refine Sub.re [[(0, 0)], [(1, 0)], [(2, 0)], [(4, 0)]] rfl rfl rfl ⟨⟨⟨_, rfl, RenB.one (sz := 1) (xs := [.hsl 1 0 0 k]) ⟨.hsl _ _ _ _ _ _ rfl, trivial⟩⟩, trivial⟩, ⟨⟨_, rfl, RenB.rows (rows := ps.map prRow) rfl (pure_procs _)⟩, trivial⟩,
      ⟨⟨_, rfl, RenB.one (sz := 1) (xs := [.sc (.int .i64 r)]) ⟨.sc _, trivial⟩⟩, trivial⟩, ⟨⟨_, rfl, RenB.rows (rows := List.replicate k z4) ?_ (pure_outR fl L ps k 0)⟩, trivial⟩, trivial⟩
      ⟨.pure (pure_ints fl), .pure (pure_knownV L), .ptr _ _ _ _ _ _ rfl, .ptr _ _ _ _ _ _ rfl, .hsl _ _ _ _ _ _ rfl, .int rfl, .int rfl, trivial⟩
     simp [outR, List.map_const']
    intro i hi
    have hi1 : IntKind.i64.wrap ((i : Int) + 1) = ((i + 1 : Nat) : Int) := by rw [wrap_small (by omega) (by omega)]; omega
    refine walkO ?_
    refine AWP.cond rfl (fun h => ?_) (fun h => ?_)
    ·have hik : i < k := by simpa using h
     obtain ⟨p, hp⟩ : ∃ p, ps[i]? = some p := ⟨_, List.getElem?_eq_getElem (by omega)⟩
     have hat : prAt ps i = p := by unfold prAt; rw [hp]; rfl
     have hrow0 : (ps.map prRow)[0 + i]? = some (prRow p) := by rw [Nat.zero_add]; exact procs_get hp
     refine walkO ?_
     refine Reg.o rfl (dstep_idxH (q := i) rfl rfl rfl hik (by simp [hlen])) ?_
     refine walkO ?_
     refine Reg.o rfl (dstep_ld1 rfl rfl hrow0 (by exact pr_d p)) ?_
     refine walkO ?_
     refine AWP.cond rfl (fun hdc => ?_) (fun hdc => ?_)
     ·have hd' : p.dec > 0 := of_decide_eq_true hdc
      have hrc : rpCells fl L (prAt ps i) = rpRow (agreedS p fl L) := by rw [hat]; exact if_pos hd'
      refine walkO ?_
      refine Reg.o rfl (dstep_idxH (q := i) rfl rfl rfl hik (by simp [hlen])) ?_
      refine walkO ?_
      rw [Nat.zero_add i]
      refine Reg.c (Nat.zero_le _) rfl ((CallOK.via1 (args' := [.ptr 0 0 i 0, intsV fl, knownV L]) (R := fun res y => y = procsB ps ∧ res = .agg (rpRow (agreedS p fl L))) 1 0 ((agreed1_ok ps i p hp fl (by omega) L (by omega) hks hbx).mono ?_) rfl (pureB_procs ps) ?_).mono ?_)
      ·rintro res H' ⟨h1, rfl, h2⟩
       exact ⟨_, rfl, h1, pureB_procs _, rfl, h2⟩
      ·exact ⟨.ptr _ _ _ _ _ _ rfl, .pure (pure_ints fl), .pure (pure_knownV L), trivial⟩
      rintro res H' ⟨y, rfl, rfl, rfl⟩
      refine walkO ?_
      refine Reg.o rfl (dstep_idxH (q := i) rfl rfl rfl hik (by simp [outR_len])) ?_
      refine Reg.on rfl (dstep_stN (cs := rpRow (agreedS p fl L)) rfl rfl rfl (by rw [Nat.zero_add]; exact (outR_get hik).trans (by rw [if_neg (Nat.lt_irrefl i)])) rfl (Nat.le_refl _) rfl) ?_
      refine walkO ?_
      refine ⟨i + 1, by omega, by omega, Sub.re [[(0, 0)], [(1, 0)], [(2, 0)], [(3, 0)]] rfl rfl rfl ⟨⟨⟨_, rfl, RenB.one (sz := 1) (xs := [.hsl 1 0 0 k]) ⟨.hsl _ _ _ _ _ _ rfl, trivial⟩⟩, trivial⟩, ⟨⟨_, rfl, RenB.rows (rows := ps.map prRow) rfl (pure_procs _)⟩, trivial⟩,
       ⟨⟨_, rfl, RenB.one (sz := 1) (xs := [.sc (.int .i64 r)]) ⟨.sc _, trivial⟩⟩, trivial⟩, ⟨⟨_, rfl, RenB.rows (rows := (outR fl L ps k i).set (0 + i) (lsplice z4 0 (rpRow (agreedS p fl L)))) ?_ (pure_outR fl L ps k (i + 1))⟩, trivial⟩, trivial⟩
       ⟨.pure (pure_ints fl), .pure (pure_knownV L), .ptr _ _ _ _ _ _ rfl, .ptr _ _ _ _ _ _ rfl, .hsl _ _ _ _ _ _ rfl, .int rfl, .int hi1, trivial⟩⟩
      rw [Nat.zero_add, lsplice_all z4 (rpRow (agreedS p fl L)) rfl, ← hrc, outR_set hik]
     ·have hd' : ¬ (prAt ps i).dec > 0 := by rw [hat]; exact of_decide_eq_false hdc
      refine walkO ?_
      refine ⟨i + 1, by omega, by omega, Sub.re [[(0, 0)], [(1, 0)], [(2, 0)], [(3, 0)]] rfl rfl rfl ⟨⟨⟨_, rfl, RenB.one (sz := 1) (xs := [.hsl 1 0 0 k]) ⟨.hsl _ _ _ _ _ _ rfl, trivial⟩⟩, trivial⟩, ⟨⟨_, rfl, RenB.rows (rows := ps.map prRow) rfl (pure_procs _)⟩, trivial⟩,
       ⟨⟨_, rfl, RenB.one (sz := 1) (xs := [.sc (.int .i64 r)]) ⟨.sc _, trivial⟩⟩, trivial⟩, ⟨⟨_, rfl, RenB.rows (rows := outR fl L ps k i) ?_ (pure_outR fl L ps k (i + 1))⟩, trivial⟩, trivial⟩
       ⟨.pure (pure_ints fl), .pure (pure_knownV L), .ptr _ _ _ _ _ _ rfl, .ptr _ _ _ _ _ _ rfl, .hsl _ _ _ _ _ _ rfl, .int rfl, .int hi1, trivial⟩⟩
      rw [outR_skip hik hd']
    ·have hik : i = k := by
      have : ¬ i < k := by simpa using h
      omega
     subst hik
     refine walkO ?_
     refine DK.nil ⟨by kernel_rfl, ?_⟩
     refine walkO ?_
     refine ⟨.inr rfl, .tup [.hsl 3 0 0 i, .sc (.int .i64 r), .sc (.int .i64 0)], agreeV (((List.range i).map fun j => rpOf fl L (prAt ps j)), (r : Int), 0), [], rfl, ?_, ?_⟩
     ·refine (SubV.frzAll (b := .tup [.list 4 (outR fl L ps i i), .sc (.int .i64 r), .sc (.int .i64 0)]) ?_ ?_).trans ((SubV.le (le_tup3' (le_outR fl L ps i))).trans (.pure (pure_agreeV (((List.range i).map fun j => rpOf fl L (prAt ps j)), (r : Int), 0))))
      ·exact Cong.tupL (l := [.hsl 3 0 0 i, .sc (.int .i64 r), .sc (.int .i64 0)]) (m := [.list 4 (outR fl L ps i i), .sc (.int .i64 r), .sc (.int .i64 0)]) ⟨FzA.all rfl (outR_len fl L ps i i), .refl _, .refl _, trivial⟩
      ·exact .tup _ (allPure_cons (.list _ _ (pure_outR fl L ps i i)) (allPure_cons (.sc _) (allPure_cons (.sc _) allPure_nil)))
     ·rw [hgo]
theorem wAll_any : ∀ (G : List (Nat × Msg)) (w : Nat → Bool) (k : Nat), wAll w G k = (w k || G.any fun x => x.2.w k)
 | [], w, k => by simp [wAll]
 | x :: G, w, k => by
  show wAll (orS w x.2.w) G k = _
  rw [wAll_any G, List.any_cons]
  unfold orS
  rw [Bool.or_assoc]
structure BInv (n : Nat) (l : List C) (r : Int) (ps : List Pr) : Prop where
 one : ∀ i j, i < n → j < n → livesS l i r = true → livesS l j r = true → 0 < (prAt ps i).dec → 0 < (prAt ps j).dec → (prAt ps i).w = (prAt ps j).w
 dec : ∀ i, i < n → 0 < (prAt ps i).dec → 1 ≤ (prAt ps i).dec ∧ (prAt ps i).dec ≤ l.length + 1
 own : ∀ i, i < n → (prAt ps i).w i = true ∨ 1 ≤ r
 all : 1 ≤ r → ∀ i, i < n → livesS l i r = true → ∀ k, k < n → findC l k = none → (prAt ps i).w k = true
 gone : ∀ i, i < n → ∀ k, k < n → k ≠ i → livesS l k 0 = false → (prAt ps i).w k = false
 zero : r = 0 → ∀ i, i < n → (prAt ps i).dec = 0
theorem BInv.init (n : Nat) (l : List C) : BInv n l 0 (init0 n) := by
 refine ⟨fun i j hi hj _ _ hd _ => ?_, fun i hi hd => ?_, fun i hi => ?_, fun h => by omega, fun i hi k hk hne _ => ?_, fun _ i hi => ?_⟩
 ·rw [prAt_init hi] at hd; exact absurd hd (by simp [pr0])
 ·rw [prAt_init hi] at hd; exact absurd hd (by simp [pr0])
 ·left; rw [prAt_init hi]; simp [pr0]
 ·rw [prAt_init hi]; simp [pr0, hne]
 ·rw [prAt_init hi]; rfl
theorem hears_of {n : Nat} {l : List C} {r : Int} {ps : List Pr} (_hr : 0 ≤ r) (h : AInv n l r ps) {q j : Nat} (hq : q < n) (hj : j < n) (hne : j ≠ q) (hlq : livesS l q (r + 1) = true) (hlj : livesS l j r = true) (hu : ¬ 0 < (prAt ps j).dec) :
  hearsA l (r + 1) ps q j = true := by
 have hd : (prAt ps q).done = false := by
  cases ed : (prAt ps q).done with
  | false => rfl
  | true => exact absurd (h.c q hq ed j hj hlj) hu
 have hq1 : livesS l q (r + 1 - 1) = true := by rw [show r + 1 - 1 = r by omega]; exact lives_mono hlq
 unfold hearsA
 rw [hd, hq1, lives_reach hlq]
 simp [hne]
theorem lives_down {l : List C} {i : Int} {r : Int} (h : livesS l i r = true) (hr : 0 ≤ r) : livesS l i 0 = true := by
 unfold livesS at h ⊢
 split
 ·rfl
 ·rename_i c e
  rw [e] at h
  simp at h ⊢
  omega
theorem hears_lives {l : List C} {r : Int} {ps : List Pr} {q j : Nat} (h : hearsA l (r + 1) ps q j = true) : livesS l q r = true := by
 unfold hearsA at h
 simp only [Bool.and_eq_true] at h
 have := h.2.1
 rw [show r + 1 - 1 = r by omega] at this
 exact this
theorem BInv.step {n : Nat} {l : List C} {r : Int} {ps : List Pr} (hn64 : n ≤ 64) (hr : 0 ≤ r) (h : AInv n l r ps) (b : BInv n l r ps) : BInv n l (r + 1) (stepA n l (r + 1) ps) := by
 have hlen := h.len
 have frozen : ∀ i, i < n → livesS l i (r + 1) = false → prAt (stepA n l (r + 1) ps) i = prAt ps i := by
  intro i hi hl
  rw [prAt_step hlen hi]
  unfold stepF
  rw [if_neg (by rw [hl]; decide)]
 -- the heard ones of an undecided process are just those that were alive, if it decides by itself
 have self : ∀ i, i < n → livesS l i (r + 1) = true → ¬ 0 < (prAt ps i).dec → eqB (fun k => decide (k = i) || (decide (k < n) && hearsA l (r + 1) ps k i)) (prAt ps i).h = true → ∀ k, k < n →
   (decide (k = i) || (decide (k < n) && hearsA l (r + 1) ps k i)) = livesS l k r := by
  intro i hi hl hu he k hk
  unfold eqB at he
  rw [beq_iff_eq] at he
  have hk64 := List.map_inj_left.1 he k (List.mem_range.2 (by omega))
  cases e : livesS l k r with
  | true => exact hk64.trans (h.a i hi (lives_mono hl) hu k hk e)
  | false =>
   have hne : ¬ k = i := fun e2 => by subst e2; rw [lives_mono hl] at e; cases e
   cases e2 : hearsA l (r + 1) ps k i with
   | false => simp [hne]
   | true => rw [hears_lives e2] at e; cases e
 have key : ∀ i, i < n → livesS l i (r + 1) = true → ∀ k, k < n → (prAt ps i).w k = true → ((∃ q, q < n ∧ livesS l q r = true ∧ (prAt ps q).w k = true ∧ prAt (stepA n l (r + 1) ps) i = { prAt ps i with w := (prAt ps q).w, dec := r + 1 }) ∨ (prAt (stepA n l (r + 1) ps) i).w k = true ∨ ∃ q, q < n ∧ livesS l q r = true ∧ (prAt (stepA n l (r + 1) ps) i).w = (prAt ps q).w) := by
  intro i hi hl k hk hw
  rcases step_cases hlen hi hl with ⟨_, h2⟩ | ⟨_, q, h1, h2, _, h3⟩ | ⟨_, _, h3⟩
  ·right; left; rw [h2]; exact hw
  ·right; right; exact ⟨q, h1, hears_lives h2, by rw [h3]⟩
  ·right; left
   rw [h3]
   show wAll _ _ k = true
   rw [wAll_any, hw, Bool.true_or]
 refine ⟨fun i j hi hj hli hlj hdi hdj => ?_, fun i hi hd => ?_, fun i hi => .inr (by omega), fun _ i hi hl k hk hf => ?_, fun i hi k hk hne hg => ?_, fun h0 => by omega⟩
 ·-- who adopts, and who does not
  have aC : ∀ i j, i < n → j < n → livesS l i (r + 1) = true → livesS l j (r + 1) = true → 0 < (prAt ps i).dec → ¬ 0 < (prAt ps j).dec → (∀ q, q < n → hearsA l (r + 1) ps q j = true → ¬ 0 < (prAt ps q).dec) → False := by
   intro i j hi hj hli hlj hdi hdj hno
   have hne : j ≠ i := fun e => hdj (by rw [e]; exact hdi)
   exact hno i hi (hears_of hr h hi hj hne hli (lives_mono hlj) hdj) hdi
  have bC : ∀ q j, q < n → j < n → livesS l q r = true → livesS l j (r + 1) = true → 0 < (prAt ps q).dec → ¬ 0 < (prAt ps j).dec → (∀ q, q < n → hearsA l (r + 1) ps q j = true → ¬ 0 < (prAt ps q).dec) →
    eqB (fun k => decide (k = j) || (decide (k < n) && hearsA l (r + 1) ps k j)) (prAt ps j).h = true → False := by
   intro q j hq hj hlq hlj hdq hdj hno he
   have hs := self j hj hlj hdj he q hq
   rw [hlq] at hs
   have hne : ¬ q = j := fun e => hdj (by rw [← e]; exact hdq)
   simp [hne, hq] at hs
   exact hno q hq hs hdq
  have cc : ∀ i, i < n → livesS l i (r + 1) = true → ¬ 0 < (prAt ps i).dec → eqB (fun k => decide (k = i) || (decide (k < n) && hearsA l (r + 1) ps k i)) (prAt ps i).h = true → ∀ k,
    (wAll (prAt ps i).w (hearA n l (r + 1) ps i) k = true ↔ ∃ q, q < n ∧ livesS l q r = true ∧ (prAt ps q).w k = true) := by
   intro i hi hl hu he k
   rw [wAll_any, Bool.or_eq_true, List.any_eq_true]
   constructor
   ·rintro (h1 | ⟨x, hx, h1⟩)
    ·exact ⟨i, hi, lives_mono hl, h1⟩
    ·obtain ⟨q, h2, h3, rfl⟩ := (mem_hear hlen hi).1 hx
     exact ⟨q, h2, hears_lives h3, h1⟩
   ·rintro ⟨q, h1, h2, h3⟩
    by_cases e : q = i
    ·subst e; exact .inl h3
    ·have hs := self i hi hl hu he q h1
     rw [h2] at hs
     simp [e, h1] at hs
     exact .inr ⟨(q, mOf (prAt ps q)), (mem_hear hlen hi).2 ⟨q, h1, hs, rfl⟩, h3⟩
  rcases step_cases hlen hi hli with ⟨i1, i2⟩ | ⟨i1, q, i2, i3, i4, i5⟩ | ⟨i1, i2, i3⟩
  ·rcases step_cases hlen hj hlj with ⟨j1, j2⟩ | ⟨j1, q', j2, j3, j4, j5⟩ | ⟨j1, j2, j3⟩
   ·rw [i2, j2]; exact b.one i j hi hj (lives_mono hli) (lives_mono hlj) i1 j1
   ·rw [i2, j5]; exact b.one i q' hi j2 (lives_mono hli) (hears_lives j3) i1 j4
   ·exact (aC i j hi hj hli hlj i1 j1 j2).elim
  ·rcases step_cases hlen hj hlj with ⟨j1, j2⟩ | ⟨j1, q', j2, j3, j4, j5⟩ | ⟨j1, j2, j3⟩
   ·rw [i5, j2]; exact b.one q j i2 hj (hears_lives i3) (lives_mono hlj) i4 j1
   ·rw [i5, j5]; exact b.one q q' i2 j2 (hears_lives i3) (hears_lives j3) i4 j4
   ·rw [j3] at hdj
    simp only at hdj
    split at hdj
    ·rename_i e
     exact (bC q j i2 hj (hears_lives i3) hlj i4 j1 j2 e).elim
    ·exact absurd hdj j1
  ·rw [i3] at hdi
   simp only at hdi
   split at hdi
   ·rename_i ei
    rcases step_cases hlen hj hlj with ⟨j1, j2⟩ | ⟨j1, q', j2, j3, j4, j5⟩ | ⟨j1, j2, j3⟩
    ·exact (aC j i hj hi hlj hli j1 i1 i2).elim
    ·exact (bC q' i j2 hi (hears_lives j3) hli j4 i1 i2 ei).elim
    ·rw [j3] at hdj
     simp only at hdj
     split at hdj
     ·rename_i ej
      rw [i3, j3]
      funext k
      rw [Bool.eq_iff_iff]
      exact (cc i hi hli i1 ei k).trans (cc j hj hlj j1 ej k).symm
     ·exact absurd hdj j1
   ·exact absurd hdi i1
 ·cases hl : livesS l i (r + 1) with
  | false => rw [frozen i hi hl] at hd ⊢; exact b.dec i hi hd
  | true =>
   have hub : ¬ 0 < (prAt ps i).dec → r + 1 ≤ l.length + 1 := by
    intro hu
    have h1 := h.b i hi (lives_mono hl) hu
    have h2 := lost_le (h.g i hi (lives_mono hl) hu)
    omega
   rcases step_cases hlen hi hl with ⟨h1, h2⟩ | ⟨h1, q, _, _, _, h3⟩ | ⟨h1, _, h3⟩
   ·rw [h2] at hd ⊢; exact b.dec i hi hd
   ·have := hub h1
    rw [h3]
    show 1 ≤ r + 1 ∧ r + 1 ≤ _
    omega
   ·have := hub h1
    rw [h3] at hd ⊢
    simp only at hd ⊢
    split at hd
    ·rename_i e
     rw [if_pos e]
     omega
    ·exact absurd hd h1
 ·have hk0 : livesS l k (r + 1) = true := lives_none' hf _
  by_cases h1 : 1 ≤ r
  ·have hb := b.all h1
   rcases key i hi hl k hk (hb i hi (lives_mono hl) k hk hf) with ⟨q, h2, h3, h4, h5⟩ | h2 | ⟨q, h2, h3, h4⟩
   ·rw [h5]; exact h4
   ·exact h2
   ·rw [h4]; exact hb q h2 h3 k hk hf
  ·have h0 : r = 0 := by omega
   have hz := b.zero h0
   have hu : ¬ 0 < (prAt ps i).dec := by rw [hz i hi]; omega
   rcases step_cases hlen hi hl with ⟨h2, _⟩ | ⟨_, q, h2, _, h3, _⟩ | ⟨_, _, h3⟩
   ·exact absurd h2 hu
   ·rw [hz q h2] at h3; omega
   ·rw [h3]
    show wAll _ _ k = true
    rw [wAll_any]
    have hown : ∀ q, q < n → (prAt ps q).w q = true := fun q hq => (b.own q hq).resolve_right h1
    by_cases e : i = k
    ·subst e; rw [hown i hi, Bool.true_or]
    ·have hh := hears_of hr h hk hi e hk0 (lives_mono hl) hu
     have : ((hearA n l (r + 1) ps i).any fun x => x.2.w k) = true := by
      rw [List.any_eq_true]
      exact ⟨(k, mOf (prAt ps k)), (mem_hear hlen hi).2 ⟨k, hk, hh, rfl⟩, hown k hk⟩
     rw [this, Bool.or_true]
 ·have hb := b.gone
  cases hl : livesS l i (r + 1) with
  | false => rw [frozen i hi hl]; exact hb i hi k hk hne hg
  | true =>
   have hnk : ∀ q, q < n → hearsA l (r + 1) ps q i = true → (prAt ps q).w k = false := by
    intro q hq hh
    refine hb q hq k hk (fun e => ?_) hg
    subst e
    have := hears_lives hh
    have := lives_down this hr
    rw [hg] at this
    cases this
   rcases step_cases hlen hi hl with ⟨_, h2⟩ | ⟨_, q, h1, h2, _, h3⟩ | ⟨_, _, h3⟩
   ·rw [h2]; exact hb i hi k hk hne hg
   ·rw [h3]; exact hnk q h1 h2
   ·rw [h3]
    show wAll _ _ k = false
    rw [wAll_any, hb i hi k hk hne hg, Bool.false_or, List.any_eq_false]
    intro x hx
    obtain ⟨q, h1, h2, rfl⟩ := (mem_hear hlen hi).1 hx
    have := hnk q h1 h2
    show ¬ (prAt ps q).w k = true
    rw [this]
    decide
theorem wrap64 (n : Int) : -9223372036854775808 ≤ IntKind.i64.wrap n ∧ IntKind.i64.wrap n ≤ 9223372036854775807 := by rw [IntKind.wrap_i64]; omega
theorem agreeGo_inv {n : Nat} {l : List C} (hn64 : n ≤ 64) : ∀ (f : Nat) (r : Int) (ps : List Pr), 0 ≤ r → AInv n l r ps → BInv n l r ps → (f : Int) + r = l.length + 2 →
  ∃ r' : Int, (agreeGo n l f r ps).2 = r' ∧ 0 ≤ r' ∧ r' ≤ l.length + 2 ∧ AInv n l r' (agreeGo n l f r ps).1 ∧ BInv n l r' (agreeGo n l f r ps).1 ∧ busyS l r' (agreeGo n l f r ps).1 n = false
 | 0, r, ps, hr, ha, hb, hf => by
  refine ⟨r, rfl, hr, by omega, ha, hb, ?_⟩
  cases e : busyS l r ps n with
  | false => exact e
  | true => have := ha.busy e; omega
 | f + 1, r, ps, hr, ha, hb, hf => by
  unfold agreeGo
  split
  ·exact agreeGo_inv hn64 f (r + 1) _ (by omega) (ha.step hr) (hb.step hn64 hr ha) (by omega)
  ·rename_i e
   exact ⟨r, rfl, hr, by omega, ha, hb, by simpa using e⟩
theorem knownGo_any2 (b : Bool) : ∀ (ks : List Int) (s : Nat → Bool) (j : Nat), knownGo b ks s j = (s j || (b && ks.any fun x => decide (x.toNat = j)))
 | [], s, j => by simp [knownGo]
 | x :: ks, s, j => by
  show knownGo b ks (orW s x.toNat b) j = _
  rw [knownGo_any2 b ks]
  unfold orW
  by_cases e : j = x.toNat
  ·subst e; simp [Bool.or_assoc]; cases b <;> simp
  ·have e' : ¬ x.toNat = j := fun h => e h.symm
   simp [e, e']
theorem knownAll_any2 (w : Nat → Bool) : ∀ (L : List (List Int)) (i : Nat) (s : Nat → Bool) (j : Nat), knownAll w i L s j = (s j || (List.range L.length).any fun q => w (i + q) && ((L[q]?).getD []).any fun x => decide (x.toNat = j))
 | [], i, s, j => by simp [knownAll]
 | ks :: L, i, s, j => by
  show knownAll w (i + 1) L (knownGo (w i) ks s) j = _
  rw [knownAll_any2 w L, knownGo_any2, List.length_cons, List.range_succ_eq_map, List.any_cons, List.any_map, Bool.or_assoc]
  congr 2
  simp only [Function.comp_def, List.getElem?_cons_succ, Nat.succ_eq_add_one]
  have e : ∀ q, i + 1 + q = i + (q + 1) := fun q => by omega
  simp only [e]
theorem elems_mem {n : Nat} {s : Nat → Bool} {k : Nat} : (k : Int) ∈ elems n s ↔ k < n ∧ s k = true := by
 unfold elems
 rw [List.mem_map]
 constructor
 ·rintro ⟨q, hq, e⟩
  have : q = k := by omega
  subst this
  obtain ⟨h1, h2⟩ := List.mem_filter.1 hq
  exact ⟨List.mem_range.1 h1, h2⟩
 ·rintro ⟨h1, h2⟩
  exact ⟨k, List.mem_filter.2 ⟨List.mem_range.2 h1, h2⟩, rfl⟩
theorem findC_dist {l : List C} (hd : Dist l) {c : C} (hc : c ∈ l) : findC l c.rank = some c := by
 obtain ⟨k, hk, rfl⟩ := List.getElem_of_mem hc
 have h := hd k l[k] (List.getElem?_eq_getElem hk)
 rw [(findC_take h hk).1, if_pos rfl]
theorem agree_facts {fl : List Int} {L : List (List Int)} {l : List C} {n : Nat} (hn : fl.length = n) (hc : checkS n l = 0) (hL : L.length = n) (hx : ∀ ks ∈ L, ∀ x ∈ ks, ∃ c ∈ l, c.round = 0 ∧ x = c.rank) :
  ∃ rs r, agreeR fl L l = (rs, r, 0) ∧ rs.length = n ∧ r ≤ l.length + 2 ∧ (∀ q ∈ rs, q.failed.length ≤ 64) ∧ ∃ F D, D.length ≤ 64 ∧
   (∀ i, i < n → findC l (i : Int) = none → ∃ q, rs[i]? = some q ∧ q.dec = true ∧ 1 ≤ q.round ∧ q.round ≤ l.length + 1 ∧ q.flag = F ∧ q.failed = D) ∧
   ((∃ s : Nat, s < n ∧ findC l (s : Int) = none) → (∀ i : Nat, i < n → findC l (i : Int) = none → (i : Int) ∉ D) ∧ (∀ c ∈ l, c.round = 0 → c.rank ∈ D) ∧ ∃ w, F = flagK w fl n ∧ ∀ i : Nat, i < n → findC l (i : Int) = none → w i = true) := by
 obtain ⟨⟨hn1, hn64⟩, hg, hd⟩ := check_zero hc
 have hn64 : n ≤ 64 := by omega
 have hbad : ¬ badK n L = true := by
  intro h
  unfold badK at h
  rw [List.any_eq_true] at h
  obtain ⟨ks, h1, h2⟩ := h
  rw [List.any_eq_true] at h2
  obtain ⟨x, h3, h4⟩ := h2
  obtain ⟨c, h5, _, rfl⟩ := hx ks h1 x h3
  have h6 := hg c h5
  have := h6.r0
  have := h6.r1
  unfold badX at h4
  simp at h4
  omega
 obtain ⟨r', h1, h2, h3, ha, hb, hbusy⟩ := agreeGo_inv (n := n) (l := l) hn64 (l.length + 2) 0 (init0 n) (by omega) (AInv.init n l) (BInv.init n l) (by omega)
 have hR : agreeR fl L l = ((List.range n).map fun i => rpOf fl L (prAt (agreeGo n l (l.length + 2) 0 (init0 n)).1 i), r', 0) := by
  unfold agreeR
  rw [hn, if_neg (by rw [hc]; simp), if_neg (by simp [hL]), if_neg hbad, h1]
 generalize (agreeGo n l (l.length + 2) 0 (init0 n)).1 = ps at ha hb hbusy hR
 have hdone : ∀ i, i < n → findC l (i : Int) = none → (prAt ps i).done = true := by
  intro i hi hf
  cases e : (prAt ps i).done with
  | true => rfl
  | false =>
   exfalso
   have : busyS l r' ps n = true := by
    unfold busyS
    rw [List.any_eq_true]
    refine ⟨i, List.mem_range.2 hi, ?_⟩
    unfold busyAt
    rw [e, lives_none' hf]
    rfl
   rw [hbusy] at this
   cases this
 have hdec : ∀ i, i < n → findC l (i : Int) = none → 0 < (prAt ps i).dec := fun i hi hf => ha.c i hi (hdone i hi hf) i hi (lives_none' hf _)
 refine ⟨_, r', hR, by simp, h3, fun q hq => ?_, ?_⟩
 ·obtain ⟨i, _, rfl⟩ := List.mem_map.1 hq
  unfold rpOf
  split
  ·exact elems_len _ _
  ·exact Nat.zero_le _
 by_cases hs : ∃ s : Nat, s < n ∧ findC l (s : Int) = none
 ·obtain ⟨s, hs1, hs2⟩ := hs
  have hr1 : 1 ≤ r' := by
   by_cases e : 1 ≤ r'
   ·exact e
   ·have := hb.zero (by omega) s hs1
    have := hdec s hs1 hs2
    omega
  have hall := hb.all hr1 s hs1 (lives_none' hs2 _)
  have hw : ∀ i, i < n → findC l (i : Int) = none → (prAt ps i).w = (prAt ps s).w := fun i hi hf => hb.one i s hi hs1 (lives_none' hf _) (lives_none' hs2 _) (hdec i hi hf) (hdec s hs1 hs2)
  refine ⟨(agreedS (prAt ps s) fl L).flag, (agreedS (prAt ps s) fl L).failed, elems_len _ _, fun i hi hf => ?_, fun _ => ⟨fun i hi hf hm => ?_, fun c hcl h0 => ?_, (prAt ps s).w, by unfold agreedS; rw [hn], fun i hi hf => hall i hi hf⟩⟩
  ·have hdi := hdec i hi hf
   refine ⟨rpOf fl L (prAt ps i), by simp [hi], ?_⟩
   unfold rpOf
   rw [if_pos hdi]
   obtain ⟨e1, e2⟩ := hb.dec i hi hdi
   refine ⟨rfl, e1, e2, ?_, ?_⟩
   ·unfold agreedS; rw [hw i hi hf]
   ·unfold agreedS; rw [hw i hi hf]
  ·have hm : (i : Int) ∈ elems 64 (knownAll (prAt ps s).w 0 L (fail1 (prAt ps s).w fl.length fl.length)) := hm
   obtain ⟨_, h5⟩ := elems_mem.1 hm
   rw [knownAll_any2, Bool.or_eq_true, List.any_eq_true] at h5
   rcases h5 with h5 | ⟨q, hq, h5⟩
   ·unfold fail1 at h5
    rw [hall i hi hf, hn] at h5
    simp [hi] at h5
   ·simp only [Bool.and_eq_true, List.any_eq_true, decide_eq_true_eq] at h5
    obtain ⟨_, x, hxq, e⟩ := h5
    have hq := List.mem_range.1 hq
    rw [List.getElem?_eq_getElem hq] at hxq
    obtain ⟨c, hc1, _, rfl⟩ := hx L[q] (List.getElem_mem hq) x hxq
    have hr0 := (hg c hc1).r0
    have := findC_dist hd hc1
    rw [show c.rank = (i : Int) by omega, hf] at this
    cases this
  ·have hgc := hg c hcl
   have hr0 := hgc.r0
   have hr2 := hgc.r1
   obtain ⟨k, hk⟩ : ∃ k : Nat, c.rank = k := ⟨c.rank.toNat, by omega⟩
   have hfk : findC l (k : Int) = some c := by rw [← hk]; exact findC_dist hd hcl
   have hwk : (prAt ps s).w k = false := by
    refine hb.gone s hs1 k (by omega) (fun e => ?_) ?_
    ·subst e; rw [hs2] at hfk; cases hfk
    ·unfold livesS
     rw [hfk]
     simp [h0]
   show c.rank ∈ elems 64 (knownAll (prAt ps s).w 0 L (fail1 (prAt ps s).w fl.length fl.length))
   rw [hk]
   refine elems_mem.2 ⟨by omega, ?_⟩
   rw [knownAll_any2]
   have : fail1 (prAt ps s).w fl.length fl.length k = true := by
    unfold fail1
    rw [hwk, hn]
    have : k < n := by omega
    simp [this]
   rw [this, Bool.true_or]
 ·exact ⟨0, [], Nat.zero_le _, fun i hi hf => absurd ⟨i, hi, hf⟩ hs, fun h => absurd h hs⟩
instance (l : List C) : PV (crV l) := ⟨pure_cr l⟩
instance (l : List Int) : PV (intsV l) := ⟨pure_ints l⟩
instance (l : List Int) : PRs (intsR l) := ⟨pure_intsR l⟩
instance (l : List (List Int)) : PV (knownV l) := ⟨pure_knownV l⟩
instance (p : Rp) : PR (rpRow p) := ⟨pure_rpRow p⟩
instance (p : AgR) : PV (agreeV p) := ⟨pure_agreeV p⟩
instance (l : List Rp) : PV (rpsV l) := ⟨pure_rps l⟩
instance (n : Nat) (l : List C) : PV (crashedV n l) := ⟨pure_crashed n l⟩
instance (n : Nat) (l : List C) : PRs (goneR n l) := ⟨pure_goneR n l⟩
theorem intsLen (l : List Int) : (intsR l).length = l.length := by simp [intsR]
theorem goneLen (n : Nat) (l : List C) : (goneR n l).length = n := row1_len _ _
attribute [simp] intsLen goneLen
def u32V (l : List Nat) : AV := .list 1 (l.map fun n : Nat => [.sc (.int .u32 (n : Int))])
instance (l : List Nat) : PV (u32V l) := ⟨.list _ _ (allPure_map (f := fun n : Nat => [.sc (.int .u32 (n : Int))]) (fun _ => allPure_cons (.sc _) allPure_nil) l)⟩
def lsF (i : Nat) (L : Nat → List Int) (j : Nat) : AV := if j < i then intsV (L j) else .sc (.slice none 0 0)
def lsR (n i : Nat) (L : Nat → List Int) : List (List AV) := row1 n (lsF i L)
instance (i : Nat) (L : Nat → List Int) (j : Nat) : PV (lsF i L j) := ⟨by unfold lsF; split; exact pv _; exact .sc _⟩
instance (n i : Nat) (L : Nat → List Int) : PRs (lsR n i L) := ⟨by unfold lsR; exact prs _⟩
theorem lsLen (n i : Nat) (L : Nat → List Int) : (lsR n i L).length = n := row1_len _ _
attribute [simp] lsLen
theorem agree_run (fl : List Int) (L : List (List Int)) (l : List C) (hfl : fl.length ≤ 4000000) (hLl : L.length ≤ 4000000) (hks : ∀ ks ∈ L, ks.length ≤ 1000000) (hl : l.length ≤ 4000000) : PureRun Try.prog 16 [intsV fl, knownV L, crV l] (agreeV (agreeR fl L l)) :=
 PureRun.ofI (agree_ok fl L l hfl hLl hks hl)
theorem ToR.rep {T : AV → AV → Prop} {ρ : Nat → Nat → Option (Nat × Nat)} {a b : List AV} (h : ToL T ρ a b) : ∀ n, ToR T ρ (List.replicate n a) (List.replicate n b)
 | 0 => trivial
 | n + 1 => ⟨h, ToR.rep h n⟩
end Go.Proofs.Ytbpmbofinoinmaa
