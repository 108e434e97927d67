import Derived.Test.YtbpmbofinoinmaaGFaG4
import Derived.Test.YtbpmbofinoinmaaGFaA6
import Derived.Test.YtbpmbofinoinmaaGFaC3
import Derived.Test.YtbpmbofinoinmaaGAvU
namespace Go.Proofs.Ytbpmbofinoinmaa
open Go.Av Go.Proofs
structure Tm where
 g : List Nat
 rv : Nat → Bool
structure Wd where
 n : Nat
 al : Nat → Bool
 kn : Nat → Nat → Bool
 ts : List Tm
def gAt (g : List Nat) (r : Int) : Nat := (g[r.toNat]?).getD 0
def deadK (al : Nat → Bool) (g : List Nat) : Nat → List C
 | 0 => []
 | k + 1 => deadK al g k ++ if al (gAt g k) = true then [] else [⟨(k : Int), 0, 0⟩]
def anyDead (al : Nat → Bool) (g : List Nat) (l : List C) : Bool := l.any fun c => !al (gAt g c.rank)
def crashW (al : Nat → Bool) (g : List Nat) (l : List C) : List C × Int :=
 if checkS g.length l ≠ 0 then ([], checkS g.length l) else if anyDead al g l = true then ([], 6) else (l ++ deadK al g g.length, 0)
def buryW (al : Nat → Bool) (g : List Nat) : List C → (Nat → Bool)
 | [] => al
 | c :: r => buryW (fun x => if x = gAt g c.rank then false else al x) g r
def knRow (kn : Nat → Nat → Bool) (g : List Nat) (r : Nat) : Nat → List Int
 | 0 => []
 | k + 1 => knRow kn g r k ++ if kn (gAt g r) (gAt g k) = true then [(k : Int)] else []
def knL (kn : Nat → Nat → Bool) (g : List Nat) : List (List Int) := (List.range g.length).map fun r => knRow kn g r g.length
def setK (kn : Nat → Nat → Bool) (p q : Nat) (i j : Nat) : Bool := if i = p ∧ j = q then true else kn i j
def noteF (al : Nat → Bool) (g : List Nat) (p : Nat) : List Int → (Nat → Nat → Bool) → (Nat → Nat → Bool)
 | [], kn => kn
 | k :: r, kn => noteF al g p r (if al (gAt g k) = true then kn else setK kn p (gAt g k))
def noRp : Rp := ⟨false, 0, 0, []⟩
def rpAt (rs : List Rp) (k : Nat) : Rp := (rs[k]?).getD noRp
def noteG (al : Nat → Bool) (g : List Nat) (rs : List Rp) (kn : Nat → Nat → Bool) : Nat → Rp × (Nat → Nat → Bool)
 | 0 => (noRp, kn)
 | k + 1 => if al (gAt g k) = true then (rpAt rs k, noteF al g (gAt g k) (rpAt rs k).failed (noteG al g rs kn k).2) else noteG al g rs kn k
structure Ag where
 rp : Rp
 e : Int
 al : Nat → Bool
 kn : Nat → Nat → Bool
def agW (al : Nat → Bool) (kn : Nat → Nat → Bool) (g : List Nat) (fl : List Int) (l : List C) : Ag :=
 if (crashW al g l).2 ≠ 0 then ⟨noRp, (crashW al g l).2, al, kn⟩ else
 let a := agreeR fl (knL kn g) (crashW al g l).1
 let n := noteG (buryW al g l) g a.1 kn g.length
 ⟨if n.1.dec = true then { n.1 with round := a.2.1 } else noRp, if n.1.dec = true then 0 else 16, buryW al g l, n.2⟩
theorem gAt_nat (g : List Nat) (k : Nat) : gAt g (k : Int) = (g[k]?).getD 0 := rfl
theorem gAt_get {g : List Nat} {k : Nat} (h : k < g.length) : gAt g (k : Int) = g[k] := by rw [gAt_nat, List.getElem?_eq_getElem h]; rfl
theorem buryW_spec (g : List Nat) : ∀ (l : List C) (al : Nat → Bool) (x : Nat), buryW al g l x = (al x && !(l.any fun c => decide (gAt g c.rank = x)))
 | [], al, x => by simp [buryW]
 | c :: r, al, x => by
  unfold buryW
  rw [buryW_spec g r]
  by_cases h : x = gAt g c.rank
  ·simp [h]
  ·have h' : ¬ gAt g c.rank = x := fun e => h e.symm
   simp [h, h']
theorem deadK_mem {al : Nat → Bool} {g : List Nat} {c : C} : ∀ {k : Nat}, c ∈ deadK al g k ↔ ∃ r : Nat, r < k ∧ al (gAt g r) = false ∧ c = ⟨r, 0, 0⟩
 | 0 => by simp [deadK]
 | k + 1 => by
  unfold deadK
  rw [List.mem_append, deadK_mem]
  constructor
  ·rintro (⟨r, h1, h2, h3⟩ | h)
   ·exact ⟨r, by omega, h2, h3⟩
   ·split at h
    ·cases h
    ·rename_i ha
     exact ⟨k, by omega, by simpa using ha, List.mem_singleton.1 h⟩
  ·rintro ⟨r, h1, h2, h3⟩
   by_cases hk : r = k
   ·subst hk
    right
    rw [if_neg (by rw [h2]; decide), h3]
    exact List.mem_singleton.2 rfl
   ·exact .inl ⟨r, by omega, h2, h3⟩
theorem deadK_len (al : Nat → Bool) (g : List Nat) : ∀ k, (deadK al g k).length ≤ k
 | 0 => Nat.le_refl _
 | k + 1 => by
  unfold deadK
  have := deadK_len al g k
  rw [List.length_append]
  split <;> simp <;> omega
theorem deadK_pw (al : Nat → Bool) (g : List Nat) : ∀ k, (deadK al g k).Pairwise fun a b => a.rank ≠ b.rank
 | 0 => List.Pairwise.nil
 | k + 1 => by
  unfold deadK
  refine List.pairwise_append.2 ⟨deadK_pw al g k, by split <;> simp, fun a ha b hb => ?_⟩
  obtain ⟨r, h1, _, rfl⟩ := deadK_mem.1 ha
  split at hb
  ·cases hb
  ·rw [List.mem_singleton.1 hb]
   show (r : Int) ≠ (k : Int)
   omega
theorem checkGo_intro (n : Int) : ∀ (l : List C) (s : Nat → Bool), (∀ c ∈ l, GoodC n c ∧ s c.rank.toNat = false) → (l.Pairwise fun a b => a.rank ≠ b.rank) → checkGo n s l = 0
 | [], _, _, _ => rfl
 | c :: r, s, h, hp => by
  obtain ⟨h1, h2⟩ := h c (by simp)
  obtain ⟨p1, p2⟩ := List.pairwise_cons.1 hp
  unfold checkGo
  have := h1.r0
  have := h1.r1
  have := h1.t0
  have := h1.t1
  have := h1.s0
  have := h1.s1
  rw [if_neg (by simp [badRank]; omega), if_neg (by simp [badTime]; omega), if_neg (by rw [h2]; decide)]
  refine checkGo_intro n r _ (fun d hd => ?_) p2
  obtain ⟨h3, h4⟩ := h d (by simp [hd])
  refine ⟨h3, ?_⟩
  have := p1 d hd
  have := h3.r0
  rw [if_neg (by omega)]
  exact h4
theorem Dist.pw {l : List C} (h : Dist l) : l.Pairwise fun a b => a.rank ≠ b.rank := by
 rw [List.pairwise_iff_getElem]
 intro i j hi hj hij e
 have h1 := h j l[j] (List.getElem?_eq_getElem hj)
 unfold findC at h1
 rw [List.find?_eq_none] at h1
 refine h1 l[i] (List.mem_iff_getElem?.2 ⟨i, ?_⟩) (by simp [e])
 rw [List.getElem?_take, if_pos hij, List.getElem?_eq_getElem hi]
theorem crash_check {al : Nat → Bool} {g : List Nat} {l : List C} (hc : checkS g.length l = 0) (hd : anyDead al g l = false) : checkS g.length (l ++ deadK al g g.length) = 0 := by
 obtain ⟨⟨h1, h2⟩, h3, h4⟩ := check_zero hc
 unfold checkS
 rw [if_neg (by simp; omega)]
 refine checkGo_intro _ _ _ (fun c hm => ⟨?_, rfl⟩) (List.pairwise_append.2 ⟨h4.pw, deadK_pw _ _ _, fun a ha b hb => ?_⟩)
 ·rcases List.mem_append.1 hm with hm | hm
  ·exact h3 c hm
  ·obtain ⟨r, hr, _, rfl⟩ := deadK_mem.1 hm
   exact ⟨by show (0 : Int) ≤ (r : Int); omega, by show (r : Int) < _; omega, by show (0 : Int) ≤ 0; omega, by show (0 : Int) ≤ 100; omega, by show (0 : Int) ≤ 0; omega, by show (0 : Int) < _; omega⟩
 ·obtain ⟨r, hr, hr2, rfl⟩ := deadK_mem.1 hb
  intro e
  unfold anyDead at hd
  rw [List.any_eq_false] at hd
  refine hd a ha ?_
  rw [e]
  show (!al (gAt g (r : Int))) = true
  rw [hr2]
  rfl
theorem gAt_inj {g : List Nat} (hg : g.Nodup) {r s : Nat} (hr : r < g.length) (hs : s < g.length) (e : gAt g r = gAt g s) : r = s := by
 rw [gAt_get hr, gAt_get hs] at e
 exact (List.getElem?_inj hr hg).1 (by rw [List.getElem?_eq_getElem hr, List.getElem?_eq_getElem hs, e])
theorem findC_none {l : List C} {i : Int} : findC l i = none ↔ ∀ c ∈ l, c.rank ≠ i := by
 unfold findC
 rw [List.find?_eq_none]
 constructor
 ·intro h c hc e
  exact h c hc (by simp [e])
 ·intro h c hc e
  exact h c hc (by simpa using (of_decide_eq_true e).symm)
theorem alive_iff {al : Nat → Bool} {g : List Nat} (hg : g.Nodup) {l : List C} (hc : checkS g.length l = 0) {r : Nat} (hr : r < g.length) : buryW al g l (gAt g r) = true ↔ findC (l ++ deadK al g g.length) (r : Int) = none := by
 obtain ⟨_, h3, _⟩ := check_zero hc
 rw [buryW_spec, Bool.and_eq_true, Bool.not_eq_true', List.any_eq_false, findC_none]
 constructor
 ·rintro ⟨h1, h2⟩ c hm e
  rcases List.mem_append.1 hm with hm | hm
  ·refine h2 c hm ?_
   rw [e]
   simp
  ·obtain ⟨s, hs, hs2, rfl⟩ := deadK_mem.1 hm
   have e : (s : Int) = (r : Int) := e
   have : s = r := by omega
   subst this
   rw [h1] at hs2
   cases hs2
 ·intro h
  refine ⟨?_, fun c hm e => ?_⟩
  ·cases ha : al (gAt g r) with
   | true => rfl
   | false => exact absurd rfl (h ⟨r, 0, 0⟩ (List.mem_append_right _ (deadK_mem.2 ⟨r, hr, ha, rfl⟩)))
  ·have hgc := h3 c hm
   have h0 := hgc.r0
   have h1 := hgc.r1
   obtain ⟨s, hs⟩ : ∃ s : Nat, c.rank = (s : Int) := ⟨c.rank.toNat, by omega⟩
   rw [hs] at e h1
   have := gAt_inj hg (by omega) hr (of_decide_eq_true e)
   subst this
   exact h c (List.mem_append_left _ hm) hs
theorem knRow_mem {kn : Nat → Nat → Bool} {g : List Nat} {r : Nat} {x : Int} : ∀ {k : Nat}, x ∈ knRow kn g r k ↔ ∃ j : Nat, j < k ∧ kn (gAt g r) (gAt g j) = true ∧ x = (j : Int)
 | 0 => by simp [knRow]
 | k + 1 => by
  unfold knRow
  rw [List.mem_append, knRow_mem]
  constructor
  ·rintro (⟨j, h1, h2, h3⟩ | h)
   ·exact ⟨j, by omega, h2, h3⟩
   ·split at h
    ·rename_i ha
     exact ⟨k, by omega, ha, List.mem_singleton.1 h⟩
    ·cases h
  ·rintro ⟨j, h1, h2, h3⟩
   by_cases hk : j = k
   ·subst hk
    right
    rw [if_pos h2, h3]
    exact List.mem_singleton.2 rfl
   ·exact .inl ⟨j, by omega, h2, h3⟩
theorem knRow_len (kn : Nat → Nat → Bool) (g : List Nat) (r : Nat) : ∀ k, (knRow kn g r k).length ≤ k
 | 0 => Nat.le_refl _
 | k + 1 => by
  unfold knRow
  have := knRow_len kn g r k
  rw [List.length_append]
  split <;> simp <;> omega
theorem knL_len (kn : Nat → Nat → Bool) (g : List Nat) : (knL kn g).length = g.length := by simp [knL]
theorem noteF_spec (al : Nat → Bool) (g : List Nat) (p : Nat) : ∀ (D : List Int) (kn : Nat → Nat → Bool) (i j : Nat), noteF al g p D kn i j = true ↔ kn i j = true ∨ (i = p ∧ al j = false ∧ ∃ k ∈ D, gAt g k = j)
 | [], kn, i, j => by simp [noteF]
 | k :: r, kn, i, j => by
  unfold noteF
  rw [noteF_spec al g p r]
  have e : (if al (gAt g k) = true then kn else setK kn p (gAt g k)) i j = true ↔ kn i j = true ∨ (i = p ∧ al j = false ∧ gAt g k = j) := by
   split
   ·rename_i h
    constructor
    ·exact .inl
    ·rintro (h1 | ⟨_, h2, h3⟩)
     ·exact h1
     ·rw [h3, h2] at h
      cases h
   ·rename_i h
    unfold setK
    split
    ·rename_i h2
     obtain ⟨rfl, rfl⟩ := h2
     simp
     exact .inr (by simpa using h)
    ·rename_i h2
     constructor
     ·exact .inl
     ·rintro (h1 | ⟨h1, _, h3⟩)
      ·exact h1
      ·exact absurd ⟨h1, h3.symm⟩ h2
  rw [e]
  constructor
  ·rintro ((h | ⟨h1, h2, h3⟩) | ⟨h1, h2, q, h3, h4⟩)
   ·exact .inl h
   ·exact .inr ⟨h1, h2, k, by simp, h3⟩
   ·exact .inr ⟨h1, h2, q, by simp [h3], h4⟩
  ·rintro (h | ⟨h1, h2, q, h3, h4⟩)
   ·exact .inl (.inl h)
   ·rcases List.mem_cons.1 h3 with rfl | h3
    ·exact .inl (.inr ⟨h1, h2, h4⟩)
    ·exact .inr ⟨h1, h2, q, h3, h4⟩
theorem noteG_dead {al : Nat → Bool} {g : List Nat} {rs : List Rp} {kn : Nat → Nat → Bool} (h : ∀ i j, kn i j = true → al j = false) : ∀ k i j, (noteG al g rs kn k).2 i j = true → al j = false
 | 0, i, j, hk => h i j hk
 | k + 1, i, j, hk => by
  unfold noteG at hk
  split at hk
  ·rcases (noteF_spec al g _ _ _ i j).1 hk with h1 | ⟨_, h1, _⟩
   ·exact noteG_dead h k i j h1
   ·exact h1
  ·exact noteG_dead h k i j hk
theorem noteG_last {al : Nat → Bool} {g : List Nat} {rs : List Rp} {kn : Nat → Nat → Bool} : ∀ k : Nat, ((∀ r : Nat, r < k → al (gAt g r) = false) ∧ (noteG al g rs kn k).1 = noRp) ∨ ∃ r : Nat, r < k ∧ al (gAt g r) = true ∧ (noteG al g rs kn k).1 = rpAt rs r
 | 0 => .inl ⟨fun r h => by omega, rfl⟩
 | k + 1 => by
  unfold noteG
  split
  ·rename_i h
   exact .inr ⟨k, by omega, h, rfl⟩
  ·rename_i h
   rcases noteG_last (al := al) (g := g) (rs := rs) (kn := kn) k with ⟨h1, h2⟩ | ⟨r, h1, h2, h3⟩
   ·refine .inl ⟨fun r hr => ?_, h2⟩
    by_cases e : r = k
    ·subst e; simpa using h
    ·exact h1 r (by omega)
   ·exact .inr ⟨r, by omega, h2, h3⟩
structure GOK (n : Nat) (g : List Nat) : Prop where
 lt : ∀ x ∈ g, x < n
 pw : g.Pairwise (· < ·)
 ne : 0 < g.length
theorem GOK.nd {n : Nat} {g : List Nat} (h : GOK n g) : g.Nodup := h.pw.imp fun h => Nat.ne_of_lt h
theorem GOK.len {n : Nat} {g : List Nat} (h : GOK n g) : g.length ≤ n := by
 have := pigeonL g (List.range n) h.nd fun x hx => List.mem_range.2 (h.lt x hx)
 rwa [List.length_range] at this
theorem GOK.at {n : Nat} {g : List Nat} (h : GOK n g) {r : Nat} (hr : r < g.length) : gAt g r < n := by
 rw [gAt_get hr]
 exact h.lt _ (List.getElem_mem hr)
theorem knownGo_sub (b : Bool) : ∀ (ks : List Int) (s : Nat → Bool) (x : Nat), knownGo b ks s x = true → s x = true ∨ ∃ y ∈ ks, y.toNat = x
 | [], s, x, h => .inl h
 | y :: r, s, x, h => by
  unfold knownGo at h
  rcases knownGo_sub b r _ x h with h | ⟨z, h1, h2⟩
  ·unfold orW at h
   split at h
   ·rename_i e
    exact .inr ⟨y, by simp, e.symm⟩
   ·exact .inl h
  ·exact .inr ⟨z, by simp [h1], h2⟩
theorem knownAll_sub (w : Nat → Bool) : ∀ (L : List (List Int)) (i : Nat) (s : Nat → Bool) (x : Nat), knownAll w i L s x = true → s x = true ∨ ∃ ks ∈ L, ∃ y ∈ ks, y.toNat = x
 | [], _, s, x, h => .inl h
 | ks :: r, i, s, x, h => by
  unfold knownAll at h
  rcases knownAll_sub w r _ _ x h with h | ⟨q, h1, h2⟩
  ·rcases knownGo_sub _ ks s x h with h | h
   ·exact .inl h
   ·exact .inr ⟨ks, by simp, h⟩
  ·exact .inr ⟨q, by simp [h1], h2⟩
structure FOK (n : Nat) (D : List Int) : Prop where
 rng : ∀ k ∈ D, 0 ≤ k ∧ k < n
 pw : D.Pairwise (· < ·)
theorem elems_fok {n m : Nat} {s : Nat → Bool} (h : ∀ i, s i = true → i < n) : FOK n (elems m s) := by
 unfold elems
 refine ⟨fun k hk => ?_, List.pairwise_map.2 ((List.pairwise_lt_range.filter _).imp fun h => by omega)⟩
 obtain ⟨i, hi, rfl⟩ := List.mem_map.1 hk
 have := h i (List.mem_filter.1 hi).2
 omega
theorem rpOf_fok {fl : List Int} {L : List (List Int)} {p : Pr} {n : Nat} (hn : fl.length = n) (hL : ∀ ks ∈ L, ∀ y ∈ ks, 0 ≤ y ∧ y < n) : FOK n (rpOf fl L p).failed := by
 unfold rpOf
 split
 ·refine elems_fok fun i hi => ?_
  rcases knownAll_sub _ L 0 _ i hi with h | ⟨ks, h1, y, h2, h3⟩
  ·unfold fail1 at h
   simp at h
   omega
  ·have := hL ks h1 y h2
   omega
 ·exact ⟨fun k hk => (by cases hk), List.Pairwise.nil⟩
theorem agreeR_fok {fl : List Int} {L : List (List Int)} {l : List C} {n : Nat} (hn : fl.length = n) (hL : ∀ ks ∈ L, ∀ y ∈ ks, 0 ≤ y ∧ y < n) (k : Nat) : FOK n (rpAt (agreeR fl L l).1 k).failed := by
 have h0 : FOK n noRp.failed := ⟨fun k hk => (by cases hk), List.Pairwise.nil⟩
 unfold rpAt
 cases e : (agreeR fl L l).1[k]? with
 | none => exact h0
 | some q =>
  have hq := List.mem_of_getElem? e
  show FOK n q.failed
  unfold agreeR at hq
  split at hq
  ·cases hq
  ·split at hq
   ·cases hq
   ·split at hq
    ·cases hq
    ·obtain ⟨i, _, rfl⟩ := List.mem_map.1 hq
     exact rpOf_fok hn hL
theorem knL_ok {al : Nat → Bool} {kn : Nat → Nat → Bool} {g : List Nat} (hd : ∀ i j, kn i j = true → al j = false) (l : List C) : ∀ ks ∈ knL kn g, ∀ x ∈ ks, ∃ c ∈ l ++ deadK al g g.length, c.round = 0 ∧ x = c.rank := by
 intro ks hks x hx
 obtain ⟨r, _, rfl⟩ := List.mem_map.1 hks
 obtain ⟨j, h1, h2, rfl⟩ := knRow_mem.1 hx
 exact ⟨⟨j, 0, 0⟩, List.mem_append_right _ (deadK_mem.2 ⟨j, h1, hd _ _ h2, rfl⟩), rfl, rfl⟩
theorem knL_rng (kn : Nat → Nat → Bool) (g : List Nat) : ∀ ks ∈ knL kn g, ∀ y ∈ ks, 0 ≤ y ∧ y < (g.length : Int) := by
 intro ks hks x hx
 obtain ⟨r, _, rfl⟩ := List.mem_map.1 hks
 obtain ⟨j, h1, _, rfl⟩ := knRow_mem.1 hx
 omega
theorem agW_bad {al : Nat → Bool} {kn : Nat → Nat → Bool} {g : List Nat} {fl : List Int} {l : List C} (h : (crashW al g l).2 ≠ 0) : agW al kn g fl l = ⟨noRp, (crashW al g l).2, al, kn⟩ := if_pos h
theorem crashW_cases (al : Nat → Bool) (g : List Nat) (l : List C) : (checkS g.length l ≠ 0 ∧ crashW al g l = ([], checkS g.length l)) ∨ (checkS g.length l = 0 ∧ anyDead al g l = true ∧ crashW al g l = ([], 6)) ∨ (checkS g.length l = 0 ∧ anyDead al g l = false ∧ crashW al g l = (l ++ deadK al g g.length, 0)) := by
 unfold crashW
 by_cases h1 : checkS g.length l = 0
 ·rw [if_neg (fun h => h h1)]
  cases h2 : anyDead al g l with
  | true => exact .inr (.inl ⟨h1, rfl, if_pos rfl⟩)
  | false => exact .inr (.inr ⟨h1, rfl, if_neg (by decide)⟩)
 ·rw [if_pos h1]
  exact .inl ⟨h1, rfl⟩
structure AgOK (al : Nat → Bool) (kn : Nat → Nat → Bool) (g : List Nat) (l : List C) (a : Ag) : Prop where
 hal : a.al = buryW al g l
 dead : ∀ i j, a.kn i j = true → a.al j = false
 fok : FOK g.length a.rp.failed
 res : ((∀ r : Nat, r < g.length → a.al (gAt g r) = false) ∧ a.e = 16) ∨ ((∃ r : Nat, r < g.length ∧ a.al (gAt g r) = true) ∧ a.e = 0 ∧ a.rp.dec = true ∧
  (∀ r : Nat, r < g.length → a.al (gAt g r) = true → (r : Int) ∉ a.rp.failed) ∧ ∀ r : Nat, r < g.length → al (gAt g r) = false → (r : Int) ∈ a.rp.failed)
theorem agW_ok {n : Nat} {al : Nat → Bool} {kn : Nat → Nat → Bool} {g : List Nat} {fl : List Int} {l : List C} (hg : GOK n g) (hfl : fl.length = g.length) (hd : ∀ i j, kn i j = true → al j = false)
  (hc : checkS g.length l = 0) (ha : anyDead al g l = false) : AgOK al kn g l (agW al kn g fl l) := by
 have hcw : crashW al g l = (l ++ deadK al g g.length, 0) := by
  rcases crashW_cases al g l with ⟨h, _⟩ | ⟨_, h, _⟩ | ⟨_, _, h⟩
  ·exact absurd hc h
  ·rw [ha] at h; cases h
  ·exact h
 have hcc := crash_check hc ha
 have hdb : ∀ i j, kn i j = true → buryW al g l j = false := fun i j h => by rw [buryW_spec, hd i j h]; rfl
 obtain ⟨rs, r, e1, e2, e3, e4, F, D, e5, e6, e7⟩ := agree_facts (L := knL kn g) hfl hcc (knL_len kn g) (knL_ok hd l)
 have hf : ∀ k, FOK g.length (rpAt rs k).failed := fun k => by
  have := agreeR_fok (L := knL kn g) (l := l ++ deadK al g g.length) hfl (knL_rng kn g) k
  rwa [e1] at this
 unfold agW
 rw [hcw, if_neg (by simp), e1]
 dsimp only
 have hat : ∀ r : Nat, r < g.length → buryW al g l (gAt g r) = true → (rpAt rs r).dec = true ∧ (rpAt rs r).failed = D := fun r hr h => by
  obtain ⟨q, q1, q2, _, _, _, q6⟩ := e6 r hr ((alive_iff hg.nd hc hr).1 h)
  unfold rpAt
  rw [q1]
  exact ⟨q2, q6⟩
 rcases noteG_last (al := buryW al g l) (g := g) (rs := rs) (kn := kn) g.length with ⟨h1, h2⟩ | ⟨s, h1, h2, h3⟩
 ·rw [h2]
  exact ⟨rfl, noteG_dead hdb _, ⟨fun k hk => (by cases hk), List.Pairwise.nil⟩, .inl ⟨h1, rfl⟩⟩
 ·obtain ⟨a1, a2⟩ := hat s h1 h2
  rw [h3, if_pos a1, if_pos a1]
  obtain ⟨b1, b2, _⟩ := e7 ⟨s, h1, (alive_iff hg.nd hc h1).1 h2⟩
  refine ⟨rfl, noteG_dead hdb _, hf s, .inr ⟨⟨s, h1, h2⟩, rfl, a1, fun r hr h => ?_, fun r hr h => ?_⟩⟩
  ·show (r : Int) ∉ (rpAt rs s).failed
   rw [a2]
   exact b1 r hr ((alive_iff hg.nd hc hr).1 h)
  ·show (r : Int) ∈ (rpAt rs s).failed
   rw [a2]
   exact b2 ⟨r, 0, 0⟩ (List.mem_append_right _ (deadK_mem.2 ⟨r, hr, h, rfl⟩)) rfl
def dropG (g : List Nat) (D : List Int) : List Nat := ((List.range g.length).filter fun r : Nat => !decide ((r : Int) ∈ D)).map fun r : Nat => gAt g r
theorem dropG_mem {g : List Nat} {D : List Int} {x : Nat} : x ∈ dropG g D ↔ ∃ r : Nat, r < g.length ∧ (r : Int) ∉ D ∧ gAt g r = x := by
 unfold dropG
 rw [List.mem_map]
 constructor
 ·rintro ⟨r, h1, h2⟩
  obtain ⟨h3, h4⟩ := List.mem_filter.1 h1
  exact ⟨r, List.mem_range.1 h3, by simpa using h4, h2⟩
 ·rintro ⟨r, h1, h2, h3⟩
  exact ⟨r, List.mem_filter.2 ⟨List.mem_range.2 h1, by simpa using h2⟩, h3⟩
theorem dropG_ok {n : Nat} {g : List Nat} {D : List Int} (hg : GOK n g) (h : ∃ r : Nat, r < g.length ∧ (r : Int) ∉ D) : GOK n (dropG g D) := by
 refine ⟨fun x hx => ?_, ?_, ?_⟩
 ·obtain ⟨r, h1, _, rfl⟩ := dropG_mem.1 hx
  exact hg.at h1
 ·unfold dropG
  refine List.pairwise_map.2 ((List.pairwise_lt_range.filter _).imp_of_mem fun {a b} ha hb hab => ?_)
  have ha := List.mem_range.1 (List.mem_filter.1 ha).1
  have hb := List.mem_range.1 (List.mem_filter.1 hb).1
  rw [gAt_get ha, gAt_get hb]
  exact (List.pairwise_iff_getElem.1 hg.pw) a b ha hb hab
 ·obtain ⟨r, h1, h2⟩ := h
  exact List.length_pos_of_mem (dropG_mem.2 ⟨r, h1, h2, rfl⟩)
theorem asc_eq : ∀ {a b : List Nat}, a.Pairwise (· < ·) → b.Pairwise (· < ·) → (∀ x, x ∈ a ↔ x ∈ b) → a = b
 | [], [], _, _, _ => rfl
 | [], y :: b, _, _, h => by have := (h y).2 (by simp); cases this
 | x :: a, [], _, _, h => by have := (h x).1 (by simp); cases this
 | x :: a, y :: b, ha, hb, h => by
  obtain ⟨a1, a2⟩ := List.pairwise_cons.1 ha
  obtain ⟨b1, b2⟩ := List.pairwise_cons.1 hb
  have e : x = y := by
   have h1 := (h x).1 (by simp)
   have h2 := (h y).2 (by simp)
   rcases List.mem_cons.1 h1 with h1 | h1
   ·exact h1
   ·rcases List.mem_cons.1 h2 with h2 | h2
    ·exact h2.symm
    ·have := b1 x h1
     have := a1 y h2
     omega
  subst e
  rw [asc_eq a2 b2 fun z => ?_]
  constructor
  ·intro hz
   rcases List.mem_cons.1 ((h z).1 (by simp [hz])) with e | hz'
   ·subst e; exact absurd (a1 _ hz) (Nat.lt_irrefl _)
   ·exact hz'
  ·intro hz
   rcases List.mem_cons.1 ((h z).2 (by simp [hz])) with e | hz'
   ·subst e; exact absurd (b1 _ hz) (Nat.lt_irrefl _)
   ·exact hz'
end Go.Proofs.Ytbpmbofinoinmaa
namespace Go.Proofs.Ytbpmbofinoinmaa.E
open Go.Av Go.Proofs
set_option maxRecDepth 20000
theorem intsR_len (l : List Int) : (intsR l).length = l.length := by simp [intsR]
theorem intsR_ix (l : List Int) (k : Nat) (h : k < l.length) : rowIx (intsR l) (k : Int) = some [.sc (.int .i64 l[k])] := rowIx_map (fun n : Int => [.sc (.int .i64 n)]) l k h
def natsR (l : List Nat) : List (List AV) := l.map fun n : Nat => [.sc (.int .i64 (n : Int))]
instance (l : List Nat) : PRs (natsR l) := ⟨fun r hr => by
 obtain ⟨a, _, rfl⟩ := List.mem_map.1 hr
 exact allPure_cons (.sc _) allPure_nil⟩
def natsV (l : List Nat) : AV := .list 1 (natsR l)
instance (l : List Nat) : PV (natsV l) := ⟨.list _ _ (prs _)⟩
instance (l : List (List AV)) (k : Nat) (r : List AV) [PRs l] [PR r] : PRs (l.set k r) := ⟨fun x hx => by
 rcases List.mem_or_eq_of_mem_set hx with h | rfl
 ·exact prs l x h
 ·exact pr _⟩
def distE (n : Int) (s : List Int) : List Int → Int
 | [] => 0
 | x :: l => if x < 0 ∨ n ≤ x then 11 else if x ∈ s then 5 else distE n (s ++ [x]) l
def flagR (s : List Int) : List AV := (List.range 64).map fun i : Nat => .sc (.bool (decide ((i : Int) ∈ s)))
instance (s : List Int) : PR (flagR s) := ⟨fun c hc => by
 obtain ⟨i, _, rfl⟩ := List.mem_map.1 hc
 exact .sc _⟩
theorem flagR_len (s : List Int) : (flagR s).length = 64 := by simp [flagR]
theorem flagR_get (s : List Int) (q : Nat) (h : q < 64) : (flagR s)[q]? = some (.sc (.bool (decide ((q : Int) ∈ s)))) := by simp [flagR, h]
theorem flagR_set (s : List Int) (q : Nat) : (flagR s).set q (.sc (.bool true)) = flagR (s ++ [(q : Int)]) := by
 refine List.ext_getElem? fun i => ?_
 rw [List.getElem?_set]
 unfold flagR
 by_cases hi : i < 64
 ·by_cases he : q = i
  ·subst he
   simp [hi]
  ·have : ¬ (i : Int) = q := by omega
   simp [hi, he, this]
 ·by_cases he : q = i
  ·subst he
   simp [hi]
  ·simp [hi, he]
theorem flagR_nil : zrow [(64, .bool false)] = flagR [] := by kernel_rfl
set_option maxHeartbeats 4000000 in
theorem dist_call (l : List Int) (n : Nat) (hn : n ≤ 64) (hl : l.length ≤ 1000000) : CallOK Try.prog 95 [.list 1 (intsR l), .sc (.int .i64 (n : Int))] [] fun res H' => res = .sc (.int .i64 (distE n [] l)) ∧ H' = [] := by
 refine CallOK.of cF95 ?_ (Nat.le_of_ble_eq_true rfl)
 have e0 := intsR_len l
 refine walkX ?_
 rw [e0]
 refine AWP.loop (fun k : Nat => [(0, .list 1 (intsR l)), (1, .sc (.int .i64 (n : Int))), (5, .ptr 0 0 0 0), (8, .list 1 (intsR l)), (9, .sc (.int .i64 (l.length : Int))), (10, .sc (.int .i64 (k : Int)))])
  (fun k => [[.cells 64 [flagR (l.take k)]]]) (fun k => k ≤ l.length ∧ distE n [] l = distE n (l.take k) (l.drop k)) (fun k => l.length - k) 0 ⟨Nat.zero_le _, rfl⟩ ?_ ?_
 ·rw [List.take_zero, ← flagR_nil]
  exact Sub.w [] [[(0,0)]]
 rintro k ⟨hk, hd⟩
 refine walkX ?_
 refine AWP.condD rfl (fun h => ?_) (fun h => ?_)
 ·have hr := intsR_ix l k h
  have hd2 : distE n (l.take k) (l.drop k) = if l[k] < 0 ∨ (n : Int) ≤ l[k] then 11 else if l[k] ∈ l.take k then 5 else distE n (l.take (k + 1)) (l.drop (k + 1)) := by
   rw [List.drop_eq_getElem_cons h, List.take_succ_eq_append_getElem h]
   rfl
  rw [hd2] at hd
  have ht := List.take_succ_eq_append_getElem h
  generalize l[k] = x at *
  generalize l.take k = s at *
  have f0 := flagR_len s
  by_cases h1 : x < 0
  ·rw [if_pos (.inl h1)] at hd
   refine walkX ?_
   rw [decide_eq_true h1]
   refine walkX ?_
   have hres : AV.sc (Value.int .i64 11) = .sc (.int .i64 (distE n [] l)) := by rw [hd]
   exact endW [] (⟨hres, rfl⟩)
  by_cases h2 : (n : Int) ≤ x
  ·rw [if_pos (.inr h2)] at hd
   refine walkX ?_
   rw [decide_eq_false h1]
   refine walkX ?_
   rw [decide_eq_true h2]
   refine walkX ?_
   have hres : AV.sc (Value.int .i64 11) = .sc (.int .i64 (distE n [] l)) := by rw [hd]
   exact endW [] (⟨hres, rfl⟩)
  rw [if_neg (by omega)] at hd
  obtain ⟨q, rfl⟩ : ∃ q : Nat, x = q := ⟨x.toNat, by omega⟩
  have hq : q < 64 := by omega
  have f1 := flagR_get s q hq
  refine walkX ?_
  rw [decide_eq_false (show ¬ n ≤ q by omega)]
  refine walkX ?_
  by_cases h3 : (q : Int) ∈ s
  ·rw [if_pos h3] at hd
   rw [decide_eq_true h3]
   refine walkX ?_
   have hres : AV.sc (Value.int .i64 5) = .sc (.int .i64 (distE n [] l)) := by rw [hd]
   exact endW [] (⟨hres, rfl⟩)
  rw [if_neg h3] at hd
  rw [decide_eq_false h3]
  refine walkX ?_
  refine ⟨k + 1, ⟨by omega, hd⟩, by omega, ?_⟩
  rw [ht, flagR_set]
  exact Sub.w [] [[(0,0)]]
 have hk : k = l.length := by omega
 subst hk
 rw [List.drop_length] at hd
 refine walkX ?_
 have hres : AV.sc (Value.int .i64 0) = .sc (.int .i64 (distE n [] l)) := by rw [hd]; rfl
 exact endW [] (⟨hres, rfl⟩)
theorem dist_ok (l : List Int) (n : Nat) (hn : n ≤ 64) (hl : l.length ≤ 1000000) : PureRun Try.prog 95 [.list 1 (intsR l), .sc (.int .i64 (n : Int))] (.sc (.int .i64 (distE n [] l))) :=
 PureRun.of (allPure_cons (.list _ _ (prs _)) (allPure_cons (.sc _) allPure_nil)) (.sc _) ((dist_call l n hn hl).mono fun _ _ h => h.1)
def checkE (l : List Int) : Int := if 64 < l.length then 9 else distE 64 [] l
set_option maxHeartbeats 4000000 in
theorem check_ok (l : List Int) (hl : l.length ≤ 1000000) : PureRun Try.prog 94 [.list 1 (intsR l)] (.sc (.int .i64 (checkE l))) := by
 refine PureRun.of (allPure_cons (.list _ _ (prs _)) allPure_nil) (.sc _) (CallOK.mono (R := fun res H' => res = .sc (.int .i64 (checkE l)) ∧ H' = []) ?_ fun _ _ h => h.1)
 refine CallOK.of cF94 ?_ (Nat.le_of_ble_eq_true rfl)
 have e0 := intsR_len l
 have hv := dist_ok l 64 (Nat.le_refl _) hl
 refine walkX ?_
 rw [e0]
 by_cases h : 64 < l.length
 ·have hr : AV.sc (Value.int .i64 9) = .sc (.int .i64 (checkE l)) := by unfold checkE; rw [if_pos h]
  rw [decide_eq_true h]
  refine walkX ?_
  exact endW [] (⟨hr, rfl⟩)
 ·have hr : AV.sc (Value.int .i64 (distE 64 [] l)) = .sc (.int .i64 (checkE l)) := by unfold checkE; rw [if_neg h]
  rw [decide_eq_false h]
  refine walkX ?_
  exact endW [] (⟨hr, rfl⟩)
set_option maxHeartbeats 4000000 in
theorem setOf_call (l : List Int) (hl : l.length ≤ 1000000) (hb : ∀ x ∈ l, 0 ≤ x ∧ x < 64) : CallOK Try.prog 87 [.list 1 (intsR l)] [] fun res H' => res = .agg (flagR l) ∧ H' = [] := by
 refine CallOK.of cF87 ?_ (Nat.le_of_ble_eq_true rfl)
 have e0 := intsR_len l
 refine walkX ?_
 rw [e0]
 refine AWP.loop (fun k : Nat => [(2, .ptr 0 0 0 0), (3, .ptr 1 0 0 0), (6, .list 1 (intsR l)), (7, .sc (.int .i64 (l.length : Int))), (8, .sc (.int .i64 (k : Int)))])
  (fun k => [[.cells 64 [flagR []]], [.cells 64 [flagR (l.take k)]]]) (fun k => k ≤ l.length) (fun k => l.length - k) 0 (Nat.zero_le _) ?_ ?_
 ·rw [List.take_zero, ← flagR_nil]
  exact Sub.w [] [[(0,0)],[(1,0)]]
 rintro k hk
 refine walkX ?_
 refine AWP.condD rfl (fun h => ?_) (fun h => ?_)
 ·have hr := intsR_ix l k h
  have hx := hb l[k] (List.getElem_mem h)
  have ht := List.take_succ_eq_append_getElem h
  generalize l[k] = x at *
  obtain ⟨q, rfl⟩ : ∃ q : Nat, x = q := ⟨x.toNat, by omega⟩
  generalize l.take k = s at *
  have f0 := flagR_len s
  have hq : q < 64 := by omega
  refine walkX ?_
  refine ⟨k + 1, by omega, by omega, ?_⟩
  rw [ht, flagR_set]
  exact Sub.w [] [[(0,0)],[(1,0)]]
 have hk : k = l.length := by omega
 subst hk
 rw [List.take_of_length_le (Nat.le_refl _)]
 have f0 := flagR_len l
 have f1 := flagR_len []
 generalize flagR [] = z at *
 refine walkX ?_
 have hld : ldAV 64 true ((flagR l).drop 0) = some (.agg (flagR l)) := by
  have e : Nat.ble 64 (flagR l).length = true := Nat.ble_eq_true_of_le (by omega)
  simp only [ldAV, List.drop_zero, e, List.take_of_length_le (Nat.le_of_eq f0)]
 refine endH [] (.inr rfl) (res := .agg (flagR l)) ?_ ⟨rfl, rfl⟩ ?_ ?_ rfl rfl rfl
 ·show (match (match ldAV 64 true ((flagR l).drop 0), some [] with | some x, some xs => some (x :: xs) | _, _ => none) with | some [x] => some x | some xs => some (.tup xs) | none => none) = _
  rw [hld]
 ·exact To.pure (.agg _ (pr _))
 ·exact famsTo.nil
theorem setOf_ok (l : List Int) (hl : l.length ≤ 1000000) (hb : ∀ x ∈ l, 0 ≤ x ∧ x < 64) : PureRun Try.prog 87 [.list 1 (intsR l)] (.agg (flagR l)) :=
 PureRun.of (allPure_cons (.list _ _ (prs _)) allPure_nil) (.agg _ (pr _)) ((setOf_call l hl hb).mono fun _ _ h => h.1)
theorem check0_rng {l : List Int} (h : checkE l = 0) : (∀ x ∈ l, 0 ≤ x ∧ x < 64) ∧ l.Nodup ∧ l.length ≤ 64 := by
 unfold checkE at h
 split at h
 ·cases h
 ·rename_i h1
  have key : ∀ (l s : List Int), distE 64 s l = 0 → (∀ x ∈ l, 0 ≤ x ∧ x < 64) ∧ (∀ x ∈ l, x ∉ s) ∧ l.Nodup := by
   intro l
   induction l with
   | nil => exact fun s _ => ⟨fun _ h => (by cases h), fun _ h => (by cases h), .nil⟩
   | cons y l ih =>
    intro s h
    unfold distE at h
    split at h
    ·cases h
    ·rename_i h1
     split at h
     ·cases h
     ·rename_i h2
      obtain ⟨a, b, c⟩ := ih _ h
      refine ⟨fun x hx => ?_, fun x hx => ?_, List.nodup_cons.2 ⟨fun hy => b y hy (by simp), c⟩⟩
      ·rcases List.mem_cons.1 hx with rfl | hx
       ·omega
       ·exact a x hx
      ·rcases List.mem_cons.1 hx with rfl | hx
       ·exact h2
       ·exact fun hs => b x hx (List.mem_append_left _ hs)
  obtain ⟨a, _, c⟩ := key l [] h
  exact ⟨a, c, by omega⟩
theorem flagR_at (s : List Int) {q : Nat} (h : q < 64) : ∃ rest, (flagR s).drop (q * 1) = .sc (.bool (decide ((q : Int) ∈ s))) :: rest := by
 have h1 := flagR_get s q h
 have hl := flagR_len s
 rw [Nat.mul_one, List.drop_eq_getElem_cons (by omega)]
 refine ⟨_, congrArg (· :: _) ?_⟩
 rw [List.getElem?_eq_getElem (by omega)] at h1
 injection h1
set_option maxHeartbeats 4000000 in
theorem notin_ok2 (s : List Int) (q : Nat) (h : q < 64) : PureRun Try.prog 89 [.sc (.int .i64 (q : Int)), .cptr (flagR s)] (.sc (.bool (!decide ((q : Int) ∈ s)))) := by
 refine PureRun.of (allPure_cons (.sc _) (allPure_cons (.cptr _ (pr _)) allPure_nil)) (.sc _) (CallOK.mono (R := fun res H' => res = .sc (.bool (!decide ((q : Int) ∈ s))) ∧ H' = []) ?_ fun _ _ h => h.1)
 obtain ⟨rest, hr⟩ := flagR_at s h
 refine CallOK.of cF89 ?_ (Nat.le_of_ble_eq_true rfl)
 refine AWP.seq ?_
 refine AWP.region ?_
 refine Reg.o rfl rfl ?_
 refine Reg.nil ?_
 refine AWP.seq ?_
 refine AWP.region ?_
 refine Reg.o rfl rfl ?_
 refine Reg.o rfl (dstep_idxArrC rfl rfl rfl h) ?_
 refine Reg.o rfl (dstep_ld1C rfl hr) ?_
 refine walkX ?_
 exact endW [] (⟨rfl, rfl⟩)
set_option maxHeartbeats 4000000 in
theorem keep_ok (g : FuncId) (s l : List Int) (p : Int → Bool) (hl : l.length ≤ 1000000) (hb : ∀ x ∈ l, 0 ≤ x ∧ x < 64) (hc : ∀ q : Nat, q < 64 → PureRun Try.prog g [.sc (.int .i64 (q : Int)), .cptr (flagR s)] (.sc (.bool (p q)))) :
  CallOK Try.prog 88 [.list 1 (intsR l), .clo (.func g) [] [.cptr (flagR s)]] [] fun res H' => res = .hsl 0 0 0 (l.filter p).length ∧ H' = [[.cells 1 (intsR (l.filter p))]] := by
 refine CallOK.of cF88 ?_ (Nat.le_of_ble_eq_true rfl)
 have e0 := intsR_len l
 have hpc : Pure (.clo (.func g) [] [.cptr (flagR s)]) := .clo _ _ _ (fun _ h => by cases h) (allPure_cons (.cptr _ (pr _)) allPure_nil)
 refine walkX ?_
 rw [e0]
 refine AWP.loop (fun k : Nat => [(1, .clo (.func g) [] [.cptr (flagR s)]), (5, .hsl 0 0 0 ((l.take k).filter p).length), (8, .list 1 (intsR l)), (9, .sc (.int .i64 (l.length : Int))), (10, .sc (.int .i64 (k : Int)))])
  (fun k => [[.cells 1 (intsR ((l.take k).filter p))]]) (fun k => k ≤ l.length) (fun k => l.length - k) 0 (Nat.zero_le _) ?_ ?_
 ·(apply Sub.to [1] [[(0,0)]]; all_goals (repeat' (first | exact ToAll.nil | exact famsTo.nil | exact famTo.nil | exact ToL.nil | exact ToR.nil | refine ToAll.cons ?_ ?_ | refine famsTo.cons ?_ ?_ | refine wt10 ?_ ?_ | exact To.undef _ | exact To.sc _ | exact To.hslL rfl rfl | exact To.ptrO rfl rfl rfl | exact To.mrefO rfl | exact To.nil rfl rfl rfl | exact wt1 | exact To.nilL | refine To.int ?_ | refine To.bool ?_ | refine To.hslL rfl ?_ | refine wt2 rfl ?_ ?_ ?_ | refine To.tupL ?_ | refine To.aggL ?_ | refine To.cptrL ?_ | refine wt3 ?_ | refine wt4 ?_ | refine To.cloL ?_ ?_ | exact wt5 | refine wt6 ?_ | refine ToB.one ?_ | exact wt7 | ((with_reducible apply ToL.consE); case e9 => rfl) | refine wt8 ?_ | refine ToL.cons ?_ ?_ | exact wt11 | refine wt9 ?_ ?_ | refine wt12 ?_ | (with_reducible rfl) | assumption)); all_goals (first | rfl | assumption | (simp; done) | (simp; omega) | (rw [wrap_small (by omega) (by omega)]; done) | (rw [wrap_small (by omega) (by omega)]; omega) | (refine congrArg Nat.cast ?_; assumption) | skip))
  all_goals exact To.pure hpc
 rintro k hk
 refine walkX ?_
 refine AWP.condD rfl (fun h => ?_) (fun h => ?_)
 ·have hr := intsR_ix l k h
  have hx := hb l[k] (List.getElem_mem h)
  have ht := List.take_succ_eq_append_getElem h
  have hle : ((l.take k).filter p).length ≤ 1000000 := Nat.le_trans (List.length_filter_le _ _) (by rw [List.length_take]; omega)
  generalize l[k] = x at *
  obtain ⟨q, rfl⟩ : ∃ q : Nat, x = q := ⟨x.toNat, by omega⟩
  have hv := hc q (by omega)
  have e1 := intsR_len ((l.take k).filter p)
  refine walkX ?_
  cases hp : p q with
  | true =>
   have e2 : (l.take (k + 1)).filter p = (l.take k).filter p ++ [(q : Int)] := by rw [ht, List.filter_append, List.filter_cons, if_pos hp]; rfl
   have e3 : intsR ((l.take k).filter p ++ [(q : Int)]) = intsR ((l.take k).filter p) ++ [[.sc (.int .i64 (q : Int))]] := by simp [intsR]
   have e4 : ((l.take k).filter p ++ [(q : Int)]).length = ((l.take k).filter p).length + 1 := by simp
   generalize (l.take k).filter p = o at *
   refine walkX ?_
   refine ⟨k + 1, by omega, by omega, ?_⟩
   rw [e2, e3, e4]
   (apply Sub.to [] [[(2,0)]]; all_goals (repeat' (first | exact ToAll.nil | exact famsTo.nil | exact famTo.nil | exact ToL.nil | exact ToR.nil | refine ToAll.cons ?_ ?_ | refine famsTo.cons ?_ ?_ | refine wt10 ?_ ?_ | exact To.undef _ | exact To.sc _ | exact To.hslL rfl rfl | exact To.ptrO rfl rfl rfl | exact To.mrefO rfl | exact To.nil rfl rfl rfl | exact wt1 | exact To.nilL | refine To.int ?_ | refine To.bool ?_ | refine To.hslL rfl ?_ | refine wt2 rfl ?_ ?_ ?_ | refine To.tupL ?_ | refine To.aggL ?_ | refine To.cptrL ?_ | refine wt3 ?_ | refine wt4 ?_ | refine To.cloL ?_ ?_ | exact wt5 | refine wt6 ?_ | refine ToB.one ?_ | exact wt7 | ((with_reducible apply ToL.consE); case e9 => rfl) | refine wt8 ?_ | refine ToL.cons ?_ ?_ | exact wt11 | refine wt9 ?_ ?_ | refine wt12 ?_ | (with_reducible rfl) | assumption)); all_goals (first | rfl | assumption | (simp; done) | (simp; omega) | (rw [wrap_small (by omega) (by omega)]; done) | (rw [wrap_small (by omega) (by omega)]; omega) | (refine congrArg Nat.cast ?_; assumption) | skip))
   all_goals exact To.pure hpc
  | false =>
   have e2 : (l.take (k + 1)).filter p = (l.take k).filter p := by rw [ht, List.filter_append, List.filter_cons, if_neg (by rw [hp]; simp)]; simp
   generalize (l.take k).filter p = o at *
   refine walkX ?_
   refine ⟨k + 1, by omega, by omega, ?_⟩
   rw [e2]
   (apply Sub.to [] [[(0,0)]]; all_goals (repeat' (first | exact ToAll.nil | exact famsTo.nil | exact famTo.nil | exact ToL.nil | exact ToR.nil | refine ToAll.cons ?_ ?_ | refine famsTo.cons ?_ ?_ | refine wt10 ?_ ?_ | exact To.undef _ | exact To.sc _ | exact To.hslL rfl rfl | exact To.ptrO rfl rfl rfl | exact To.mrefO rfl | exact To.nil rfl rfl rfl | exact wt1 | exact To.nilL | refine To.int ?_ | refine To.bool ?_ | refine To.hslL rfl ?_ | refine wt2 rfl ?_ ?_ ?_ | refine To.tupL ?_ | refine To.aggL ?_ | refine To.cptrL ?_ | refine wt3 ?_ | refine wt4 ?_ | refine To.cloL ?_ ?_ | exact wt5 | refine wt6 ?_ | refine ToB.one ?_ | exact wt7 | ((with_reducible apply ToL.consE); case e9 => rfl) | refine wt8 ?_ | refine ToL.cons ?_ ?_ | exact wt11 | refine wt9 ?_ ?_ | refine wt12 ?_ | (with_reducible rfl) | assumption)); all_goals (first | rfl | assumption | (simp; done) | (simp; omega) | (rw [wrap_small (by omega) (by omega)]; done) | (rw [wrap_small (by omega) (by omega)]; omega) | (refine congrArg Nat.cast ?_; assumption) | skip))
   all_goals exact To.pure hpc
 have hk : k = l.length := by omega
 subst hk
 rw [List.take_of_length_le (Nat.le_refl _)]
 refine walkX ?_
 exact endW [[(0,0)]] (⟨rfl, rfl⟩)
def bothE (a b : List Int) : Int := if checkE a = 0 then checkE b else checkE a
def notIn' (s : List Int) (x : Int) : Bool := !decide (x ∈ s)
def opA (a b o : List Int) : Int × List Int := if bothE a b = 0 then (0, o) else (bothE a b, [])
def ansS (p : Int × List Int) : AV → Heap → Prop := fun res H' => res = .tup [.hsl 0 0 0 p.2.length, .sc (.int .i64 p.1)] ∧ H' = [[.cells 1 (intsR p.2)]]
theorem both_ok (a b : List Int) (ha : a.length ≤ 1000000) (hb : b.length ≤ 1000000) : PureRun Try.prog 86 [.list 1 (intsR a), .list 1 (intsR b)] (.sc (.int .i64 (bothE a b))) := by
 refine PureRun.of (allPure_cons (.list _ _ (prs _)) (allPure_cons (.list _ _ (prs _)) allPure_nil)) (.sc _) (CallOK.mono (R := fun res H' => res = .sc (.int .i64 (bothE a b)) ∧ H' = []) ?_ fun _ _ h => h.1)
 refine CallOK.of cF86 ?_ (Nat.le_of_ble_eq_true rfl)
 have h1 := check_ok a ha
 have h2 := check_ok b hb
 by_cases h : checkE a = 0
 ·have hr : AV.sc (Value.int .i64 (checkE b)) = .sc (.int .i64 (bothE a b)) := by unfold bothE; rw [if_pos h]
  rw [h] at h1
  refine walkX ?_
  exact endW [] (⟨hr, rfl⟩)
 ·have hr : AV.sc (Value.int .i64 (checkE a)) = .sc (.int .i64 (bothE a b)) := by unfold bothE; rw [if_neg h]
  refine walkX ?_
  rw [show (checkE a != 0) = true from by simpa using h]
  refine walkX ?_
  exact endW [] (⟨hr, rfl⟩)
theorem both0 {a b : List Int} (h : bothE a b = 0) : checkE a = 0 ∧ checkE b = 0 := by
 unfold bothE at h
 split at h
 ·rename_i h1
  exact ⟨h1, h⟩
 ·rename_i h1
  exact absurd h h1
theorem keep_at (g : FuncId) (s l : List Int) (p : Int → Bool) (hl : l.length ≤ 1000000) (hb : ∀ x ∈ l, 0 ≤ x ∧ x < 64) (hc : ∀ q : Nat, q < 64 → PureRun Try.prog g [.sc (.int .i64 (q : Int)), .cptr (flagR s)] (.sc (.bool (p q)))) :
  CallOK Try.prog 88 [.list 1 (intsR l), .clo (.func g) [] [.ptr 0 0 0 0]] [[.cells 64 [flagR s]]] fun res H' => res = .hsl 1 0 0 (l.filter p).length ∧ H' = [[.cells 64 [flagR s]], [.cells 1 (intsR (l.filter p))]] := by
 refine CallOK.viewL (H := [[.cells 64 [flagR s]]]) (fun r hr c hc => ?_) (keep_ok g s l p hl hb hc) (ToL.cons (To.pure (.list _ _ (prs _))) (ToL.cons (To.cloL trivial (ToL.cons (To.fzp (r := flagR s) (g := 0) (i := 0) (row := 0) rfl rfl rfl (To.pure (.cptr _ (pr _)))) ToL.nil)) ToL.nil))
 obtain ⟨n, _, rfl⟩ := List.mem_map.1 hr
 exact ⟨_, List.mem_singleton.1 hc⟩
set_option maxHeartbeats 4000000 in
theorem diff_ok (a b : List Int) (ha : a.length ≤ 1000000) (hb : b.length ≤ 1000000) : CallOK Try.prog 77 [.list 1 (intsR a), .list 1 (intsR b)] [] (ansS (opA a b (a.filter (notIn' b)))) := by
 refine CallOK.of cF77 ?_ (Nat.le_of_ble_eq_true rfl)
 have h1 := both_ok a b ha hb
 unfold ansS
 by_cases h : bothE a b = 0
 ·obtain ⟨c1, c2⟩ := both0 h
  have r1 := check0_rng c1
  have r2 := check0_rng c2
  have h2 := setOf_ok b hb r2.1
  have e : opA a b (a.filter (notIn' b)) = (0, a.filter (notIn' b)) := if_pos h
  rw [e]
  rw [h] at h1
  refine walkX ?_
  refine Reg.sub (fr' := [(16, .list 1 (intsR a)), (17, .clo (.func 89) [] [.ptr 0 0 0 0])]) (H' := [[.cells 64 [flagR b]]]) ?_ ?_
  ·exact Sub.w [] [[(0,0)]]
  refine Reg.c (Nat.zero_le _) rfl ((keep_at 89 b a (notIn' b) ha r1.1 (notin_ok2 b)).mono ?_)
  rintro res H' ⟨rfl, rfl⟩
  refine walkX ?_
  exact endW [[(1,0)]] (⟨rfl, rfl⟩)
 ·have e : opA a b (a.filter (notIn' b)) = (bothE a b, []) := if_neg h
  rw [e]
  refine walkX ?_
  rw [show (bothE a b != 0) = true from by simpa using h]
  refine walkX ?_
  (refine ⟨.inr rfl, _, .tup [.hsl 0 0 0 0, .sc (.int .i64 (bothE a b))], [[.cells 1 []]], rfl, SubV.to [1] [[((0),0)]] ?_ ?_ rfl rfl rfl, rfl, rfl⟩; all_goals (all_goals (repeat' (first | exact ToAll.nil | exact famsTo.nil | exact famTo.nil | exact ToL.nil | exact ToR.nil | refine ToAll.cons ?_ ?_ | refine famsTo.cons ?_ ?_ | refine wt10 ?_ ?_ | exact To.undef _ | exact To.sc _ | exact To.hslL rfl rfl | exact To.ptrO rfl rfl rfl | exact To.mrefO rfl | exact To.nil rfl rfl rfl | exact wt1 | exact To.nilL | refine To.int ?_ | refine To.bool ?_ | refine To.hslL rfl ?_ | refine wt2 rfl ?_ ?_ ?_ | refine To.tupL ?_ | refine To.aggL ?_ | refine To.cptrL ?_ | refine wt3 ?_ | refine wt4 ?_ | refine To.cloL ?_ ?_ | exact wt5 | refine wt6 ?_ | refine ToB.one ?_ | exact wt7 | ((with_reducible apply ToL.consE); case e9 => rfl) | refine wt8 ?_ | refine ToL.cons ?_ ?_ | exact wt11 | refine wt9 ?_ ?_ | refine wt12 ?_ | (with_reducible rfl) | assumption)); all_goals (first | rfl | assumption | (simp; done) | (simp; omega) | (rw [wrap_small (by omega) (by omega)]; done) | (rw [wrap_small (by omega) (by omega)]; omega) | (refine congrArg Nat.cast ?_; assumption) | skip)))
theorem dist0_rng {n : Int} : ∀ {l s : List Int}, distE n s l = 0 → (∀ x ∈ l, 0 ≤ x ∧ x < n) ∧ (∀ x ∈ l, x ∉ s) ∧ l.Nodup := by
 intro l
 induction l with
 | nil => exact fun _ => ⟨fun _ h => (by cases h), fun _ h => (by cases h), .nil⟩
 | cons y l ih =>
  intro s h
  unfold distE at h
  split at h
  ·cases h
  ·rename_i h1
   split at h
   ·cases h
   ·rename_i h2
    obtain ⟨a, b, c⟩ := ih h
    refine ⟨fun x hx => ?_, fun x hx => ?_, List.nodup_cons.2 ⟨fun hy => b y hy (by simp), c⟩⟩
    ·rcases List.mem_cons.1 hx with rfl | hx
     ·omega
     ·exact a x hx
    ·rcases List.mem_cons.1 hx with rfl | hx
     ·exact h2
     ·exact fun hs => b x hx (List.mem_append_left _ hs)
def rkE (g rs : List Int) : Int := if checkE g = 0 then distE g.length [] rs else checkE g
def selE (g rs : List Int) : List Int := rs.map fun r => g.getD r.toNat 0
def ansE (e : Int) (o : List Int) : Int × List Int := if e = 0 then (0, o) else (e, [])
theorem rk0 {g rs : List Int} (h : rkE g rs = 0) : checkE g = 0 ∧ distE g.length [] rs = 0 := by
 unfold rkE at h
 split at h
 ·rename_i h1
  exact ⟨h1, h⟩
 ·rename_i h1
  exact absurd h h1
set_option maxHeartbeats 4000000 in
theorem ranked_ok (g rs : List Int) (hg : g.length ≤ 1000000) (hr : rs.length ≤ 1000000) : PureRun Try.prog 85 [.list 1 (intsR g), .list 1 (intsR rs)] (.sc (.int .i64 (rkE g rs))) := by
 refine PureRun.of (allPure_cons (.list _ _ (prs _)) (allPure_cons (.list _ _ (prs _)) allPure_nil)) (.sc _) (CallOK.mono (R := fun res H' => res = .sc (.int .i64 (rkE g rs)) ∧ H' = []) ?_ fun _ _ h => h.1)
 refine CallOK.of cF85 ?_ (Nat.le_of_ble_eq_true rfl)
 have h1 := check_ok g hg
 have e0 := intsR_len g
 by_cases h : checkE g = 0
 ·have hle : g.length ≤ 64 := (check0_rng h).2.2
  have h2 := dist_ok rs g.length hle hr
  have hres : AV.sc (Value.int .i64 (distE g.length [] rs)) = .sc (.int .i64 (rkE g rs)) := by unfold rkE; rw [if_pos h]
  rw [h] at h1
  refine walkX ?_
  rw [e0]
  refine walkX ?_
  exact endW [] (⟨hres, rfl⟩)
 ·have hres : AV.sc (Value.int .i64 (checkE g)) = .sc (.int .i64 (rkE g rs)) := by unfold rkE; rw [if_neg h]
  refine walkX ?_
  rw [show (checkE g != 0) = true from by simpa using h]
  refine walkX ?_
  exact endW [] (⟨hres, rfl⟩)
theorem getD_at {g : List Int} {q : Nat} (h : q < g.length) : g.getD ((q : Int)).toNat 0 = g[q] := by
 simp [h]
set_option maxHeartbeats 4000000 in
theorem incl_ok (g rs : List Int) (hg : g.length ≤ 1000000) (hr : rs.length ≤ 1000000) : CallOK Try.prog 76 [.list 1 (intsR g), .list 1 (intsR rs)] [] (ansS (ansE (rkE g rs) (selE g rs))) := by
 refine CallOK.of cF76 ?_ (Nat.le_of_ble_eq_true rfl)
 have h1 := ranked_ok g rs hg hr
 have e0 := intsR_len rs
 unfold ansS
 by_cases h : rkE g rs = 0
 ·obtain ⟨c1, c2⟩ := rk0 h
  obtain ⟨d1, _, _⟩ := dist0_rng c2
  have e : ansE (rkE g rs) (selE g rs) = (0, selE g rs) := if_pos h
  rw [e]
  rw [h] at h1
  refine walkX ?_
  rw [e0]
  refine AWP.loop (fun k : Nat => [(0, .list 1 (intsR g)), (7, .hsl 0 0 0 (selE g (rs.take k)).length), (16, .list 1 (intsR rs)), (17, .sc (.int .i64 (rs.length : Int))), (18, .sc (.int .i64 (k : Int)))])
   (fun k => [[.cells 1 (intsR (selE g (rs.take k)))]]) (fun k => k ≤ rs.length) (fun k => rs.length - k) 0 (Nat.zero_le _) ?_ ?_
  ·(apply Sub.to [1] [[(0,0)]]; all_goals (repeat' (first | exact ToAll.nil | exact famsTo.nil | exact famTo.nil | exact ToL.nil | exact ToR.nil | refine ToAll.cons ?_ ?_ | refine famsTo.cons ?_ ?_ | refine wt10 ?_ ?_ | exact To.undef _ | exact To.sc _ | exact To.hslL rfl rfl | exact To.ptrO rfl rfl rfl | exact To.mrefO rfl | exact To.nil rfl rfl rfl | exact wt1 | exact To.nilL | refine To.int ?_ | refine To.bool ?_ | refine To.hslL rfl ?_ | refine wt2 rfl ?_ ?_ ?_ | refine To.tupL ?_ | refine To.aggL ?_ | refine To.cptrL ?_ | refine wt3 ?_ | refine wt4 ?_ | refine To.cloL ?_ ?_ | exact wt5 | refine wt6 ?_ | refine ToB.one ?_ | exact wt7 | ((with_reducible apply ToL.consE); case e9 => rfl) | refine wt8 ?_ | refine ToL.cons ?_ ?_ | exact wt11 | refine wt9 ?_ ?_ | refine wt12 ?_ | (with_reducible rfl) | assumption)); all_goals (first | rfl | assumption | (simp; done) | (simp; omega) | (rw [wrap_small (by omega) (by omega)]; done) | (rw [wrap_small (by omega) (by omega)]; omega) | (refine congrArg Nat.cast ?_; assumption) | skip))
  rintro k hk
  refine walkX ?_
  refine AWP.condD rfl (fun h => ?_) (fun h => ?_)
  ·have hx := d1 rs[k] (List.getElem_mem h)
   have hrr := intsR_ix rs k h
   have ht := List.take_succ_eq_append_getElem h
   have hle : (selE g (rs.take k)).length ≤ 1000000 := by unfold selE; rw [List.length_map, List.length_take]; omega
   generalize rs[k] = x at *
   obtain ⟨q, rfl⟩ : ∃ q : Nat, x = q := ⟨x.toNat, by omega⟩
   have hq : q < g.length := by omega
   have hgx := intsR_ix g q hq
   have e5 := @getD_at g q hq
   have e1 := intsR_len (selE g (rs.take k))
   have e2 : selE g (rs.take (k + 1)) = selE g (rs.take k) ++ [g[q]] := by rw [ht]; unfold selE; rw [List.map_append, List.map_cons, e5]; rfl
   generalize selE g (rs.take k) = o at *
   generalize g[q] = y at *
   have e3 : intsR (o ++ [y]) = intsR o ++ [[.sc (.int .i64 y)]] := by simp [intsR]
   have e4 : (o ++ [y]).length = o.length + 1 := by simp
   refine walkX ?_
   refine ⟨k + 1, by omega, by omega, ?_⟩
   rw [e2, e3, e4]
   (apply Sub.to [] [[(2,0)]]; all_goals (repeat' (first | exact ToAll.nil | exact famsTo.nil | exact famTo.nil | exact ToL.nil | exact ToR.nil | refine ToAll.cons ?_ ?_ | refine famsTo.cons ?_ ?_ | refine wt10 ?_ ?_ | exact To.undef _ | exact To.sc _ | exact To.hslL rfl rfl | exact To.ptrO rfl rfl rfl | exact To.mrefO rfl | exact To.nil rfl rfl rfl | exact wt1 | exact To.nilL | refine To.int ?_ | refine To.bool ?_ | refine To.hslL rfl ?_ | refine wt2 rfl ?_ ?_ ?_ | refine To.tupL ?_ | refine To.aggL ?_ | refine To.cptrL ?_ | refine wt3 ?_ | refine wt4 ?_ | refine To.cloL ?_ ?_ | exact wt5 | refine wt6 ?_ | refine ToB.one ?_ | exact wt7 | ((with_reducible apply ToL.consE); case e9 => rfl) | refine wt8 ?_ | refine ToL.cons ?_ ?_ | exact wt11 | refine wt9 ?_ ?_ | refine wt12 ?_ | (with_reducible rfl) | assumption)); all_goals (first | rfl | assumption | (simp; done) | (simp; omega) | (rw [wrap_small (by omega) (by omega)]; done) | (rw [wrap_small (by omega) (by omega)]; omega) | (refine congrArg Nat.cast ?_; assumption) | skip))
  have hk : k = rs.length := by omega
  subst hk
  rw [List.take_of_length_le (Nat.le_refl _)]
  refine walkX ?_
  exact endW [[(0,0)]] (⟨rfl, rfl⟩)
 ·have e : ansE (rkE g rs) (selE g rs) = (rkE g rs, []) := if_neg h
  rw [e]
  refine walkX ?_
  rw [show (rkE g rs != 0) = true from by simpa using h]
  refine walkX ?_
  (refine ⟨.inr rfl, _, .tup [.hsl 0 0 0 0, .sc (.int .i64 (rkE g rs))], [[.cells 1 []]], rfl, SubV.to [1] [[((0),0)]] ?_ ?_ rfl rfl rfl, rfl, rfl⟩; all_goals (all_goals (repeat' (first | exact ToAll.nil | exact famsTo.nil | exact famTo.nil | exact ToL.nil | exact ToR.nil | refine ToAll.cons ?_ ?_ | refine famsTo.cons ?_ ?_ | refine wt10 ?_ ?_ | exact To.undef _ | exact To.sc _ | exact To.hslL rfl rfl | exact To.ptrO rfl rfl rfl | exact To.mrefO rfl | exact To.nil rfl rfl rfl | exact wt1 | exact To.nilL | refine To.int ?_ | refine To.bool ?_ | refine To.hslL rfl ?_ | refine wt2 rfl ?_ ?_ ?_ | refine To.tupL ?_ | refine To.aggL ?_ | refine To.cptrL ?_ | refine wt3 ?_ | refine wt4 ?_ | refine To.cloL ?_ ?_ | exact wt5 | refine wt6 ?_ | refine ToB.one ?_ | exact wt7 | ((with_reducible apply ToL.consE); case e9 => rfl) | refine wt8 ?_ | refine ToL.cons ?_ ?_ | exact wt11 | refine wt9 ?_ ?_ | refine wt12 ?_ | (with_reducible rfl) | assumption)); all_goals (first | rfl | assumption | (simp; done) | (simp; omega) | (rw [wrap_small (by omega) (by omega)]; done) | (rw [wrap_small (by omega) (by omega)]; omega) | (refine congrArg Nat.cast ?_; assumption) | skip)))
theorem sel_check {g rs : List Int} (h : rkE g rs = 0) : checkE (selE g rs) = 0 := by
 obtain ⟨c1, c2⟩ := rk0 h
 obtain ⟨g1, g2, g3⟩ := check0_rng c1
 obtain ⟨d1, _, d2⟩ := dist0_rng c2
 have hmem : ∀ x ∈ selE g rs, 0 ≤ x ∧ x < 64 := fun x hx => by
  obtain ⟨r, hr, rfl⟩ := List.mem_map.1 hx
  have := d1 r hr
  have hq : r.toNat < g.length := by omega
  show 0 ≤ g.getD r.toNat 0 ∧ _
  rw [List.getD_eq_getElem?_getD, List.getElem?_eq_getElem hq]
  exact g1 _ (List.getElem_mem hq)
 have hnd : (selE g rs).Nodup := by
  refine List.pairwise_map.2 (d2.imp_of_mem ?_)
  intro a b ha hb hab
  have := d1 a ha
  have := d1 b hb
  have hqa : a.toNat < g.length := by omega
  have hqb : b.toNat < g.length := by omega
  rw [List.getD_eq_getElem?_getD, List.getElem?_eq_getElem hqa, List.getD_eq_getElem?_getD, List.getElem?_eq_getElem hqb]
  intro e
  have e : g[a.toNat] = g[b.toNat] := e
  have := (List.getElem?_inj hqa g2).1 (show g[a.toNat]? = g[b.toNat]? by rw [List.getElem?_eq_getElem hqa, List.getElem?_eq_getElem hqb, e])
  omega
 have hlen : (selE g rs).length ≤ 64 := by
  have h1 : (selE g rs) ⊆ (List.range 64).map (fun n : Nat => (n : Int)) := fun x hx => by
   have := hmem x hx
   exact List.mem_map.2 ⟨x.toNat, List.mem_range.2 (by omega), by omega⟩
  have := hnd.length_le_of_subset h1
  simpa using this
 have key : ∀ (l s : List Int), (∀ x ∈ l, 0 ≤ x ∧ x < 64) → (∀ x ∈ l, x ∉ s) → l.Nodup → distE 64 s l = 0 := by
  intro l
  induction l with
  | nil => exact fun _ _ _ _ => rfl
  | cons y l ih =>
   intro s a b c
   obtain ⟨c1, c2⟩ := List.nodup_cons.1 c
   have := a y (by simp)
   unfold distE
   rw [if_neg (by omega), if_neg (b y (by simp))]
   refine ih _ (fun x hx => a x (List.mem_cons_of_mem _ hx)) (fun x hx hs => ?_) c2
   rcases List.mem_append.1 hs with hs | hs
   ·exact b x (List.mem_cons_of_mem _ hx) hs
   ·rw [List.mem_singleton.1 hs] at hx
    exact c1 hx
 unfold checkE
 rw [if_neg (by omega)]
 exact key _ _ hmem (fun _ _ h => by cases h) hnd
def exclA (g rs : List Int) : Int × List Int := ansE (rkE g rs) (g.filter (notIn' (selE g rs)))
theorem sel_len (g rs : List Int) : (selE g rs).length = rs.length := by simp [selE]
set_option maxHeartbeats 4000000 in
theorem excl_ok (g rs : List Int) (hg : g.length ≤ 1000000) (hr : rs.length ≤ 1000000) : CallOK Try.prog 61 [.list 1 (intsR g), .list 1 (intsR rs)] [] (ansS (exclA g rs)) := by
 refine CallOK.of cF61 ?_ (Nat.le_of_ble_eq_true rfl)
 have h1 := incl_ok g rs hg hr
 unfold exclA ansS
 unfold ansS at h1
 by_cases h : rkE g rs = 0
 ·have hc := sel_check h
  have hb : bothE g (selE g rs) = 0 := by unfold bothE; rw [if_pos (rk0 h).1, hc]
  have e : ansE (rkE g rs) (g.filter (notIn' (selE g rs))) = (0, g.filter (notIn' (selE g rs))) := if_pos h
  have e2 : ansE (rkE g rs) (selE g rs) = (0, selE g rs) := if_pos h
  rw [e2] at h1
  rw [e]
  have h2 := diff_ok g (selE g rs) hg (by rw [sel_len]; exact hr)
  have e3 : opA g (selE g rs) (g.filter (notIn' (selE g rs))) = (0, g.filter (notIn' (selE g rs))) := if_pos hb
  rw [e3] at h2
  have e4 := intsR_len (selE g rs)
  generalize g.filter (notIn' (selE g rs)) = o at *
  refine walkX ?_
  refine Reg.c (Nat.zero_le _) rfl (h1.mono ?_)
  rintro res H' ⟨rfl, rfl⟩
  refine walkX ?_
  refine Reg.sub (fr' := [(17, .list 1 (intsR g)), (18, .list 1 (intsR (selE g rs)))]) (H' := []) ?_ ?_
  ·exact Sub.w [] []
  refine Reg.c (Nat.zero_le _) rfl (h2.mono ?_)
  rintro res H' ⟨rfl, rfl⟩
  refine walkX ?_
  exact endW [[(0,0)]] (⟨rfl, rfl⟩)
 ·have e : ansE (rkE g rs) (g.filter (notIn' (selE g rs))) = (rkE g rs, []) := if_neg h
  have e2 : ansE (rkE g rs) (selE g rs) = (rkE g rs, []) := if_neg h
  rw [e2] at h1
  rw [e]
  refine walkX ?_
  refine Reg.c (Nat.zero_le _) rfl (h1.mono ?_)
  rintro res H' ⟨rfl, rfl⟩
  refine walkX ?_
  rw [show (rkE g rs != 0) = true from by simpa using h]
  refine walkX ?_
  (refine ⟨.inr rfl, _, .tup [.hsl 0 0 0 0, .sc (.int .i64 (rkE g rs))], [[.cells 1 []]], rfl, SubV.to [1] [[((1),0)]] ?_ ?_ rfl rfl rfl, rfl, rfl⟩; all_goals (all_goals (repeat' (first | exact ToAll.nil | exact famsTo.nil | exact famTo.nil | exact ToL.nil | exact ToR.nil | refine ToAll.cons ?_ ?_ | refine famsTo.cons ?_ ?_ | refine wt10 ?_ ?_ | exact To.undef _ | exact To.sc _ | exact To.hslL rfl rfl | exact To.ptrO rfl rfl rfl | exact To.mrefO rfl | exact To.nil rfl rfl rfl | exact wt1 | exact To.nilL | refine To.int ?_ | refine To.bool ?_ | refine To.hslL rfl ?_ | refine wt2 rfl ?_ ?_ ?_ | refine To.tupL ?_ | refine To.aggL ?_ | refine To.cptrL ?_ | refine wt3 ?_ | refine wt4 ?_ | refine To.cloL ?_ ?_ | exact wt5 | refine wt6 ?_ | refine ToB.one ?_ | exact wt7 | ((with_reducible apply ToL.consE); case e9 => rfl) | refine wt8 ?_ | refine ToL.cons ?_ ?_ | exact wt11 | refine wt9 ?_ ?_ | refine wt12 ?_ | (with_reducible rfl) | assumption)); all_goals (first | rfl | assumption | (simp; done) | (simp; omega) | (rw [wrap_small (by omega) (by omega)]; done) | (rw [wrap_small (by omega) (by omega)]; omega) | (refine congrArg Nat.cast ?_; assumption) | skip)))
end Go.Proofs.Ytbpmbofinoinmaa.E
namespace Go.Proofs.Ytbpmbofinoinmaa
open Go.Av Go.Proofs
set_option maxRecDepth 20000
def noTm : Tm := ⟨[], fun _ => false⟩
def tmAt (ts : List Tm) (i : Nat) : Tm := (ts[i]?).getD noTm
def tmV (i : Nat) (t : Tm) : AV := .cptr [.list 1 (E.natsR t.g), .hsl 3 i 0 t.g.length]
def tmE (ts : List Tm) : List (Value × AV) := (List.range ts.length).map fun i : Nat => (.int .i64 (i : Int), tmV i (tmAt ts i))
def rvR (t : Tm) : List (List AV) := row1 t.g.length fun j => .sc (.bool (t.rv j))
def rvF (ts : List Tm) : List Blk := fam ts.length fun i => .cells 1 (rvR (tmAt ts i))
def knR (n : Nat) (kn : Nat → Nat → Bool) : List (List AV) := (List.range n).map fun i => bset 64 (kn i)
def boxR (n : Nat) (al : Nat → Bool) : List AV := .sc (.int .i64 (n : Int)) :: (bset 64 al ++ [.hsl 1 0 0 n, .mref 2 0])
def worldH (w : Wd) : Heap := [[.cells 67 [boxR w.n w.al]], [.cells 64 (knR w.n w.kn)], [.map (tmE w.ts)], rvF w.ts]
def wK (k : Nat) : List FK := [.c [(0,0)], .c [(1,0)], .c [(2,0)], .w 3 k []]
theorem natsR_len (l : List Nat) : (E.natsR l).length = l.length := by simp [E.natsR]
theorem natsR_ix (l : List Nat) (k : Nat) (h : k < l.length) : rowIx (E.natsR l) (k : Int) = some [.sc (.int .i64 (l[k] : Nat))] := rowIx_map (fun n : Nat => [.sc (.int .i64 (n : Int))]) l k h
theorem natsR_ints (l : List Nat) : E.natsR l = intsR (l.map fun n : Nat => (n : Int)) := by simp [E.natsR, intsR]
theorem tmE_len (ts : List Tm) : (tmE ts).length = ts.length := by simp [tmE]
theorem knR_len (n : Nat) (kn : Nat → Nat → Bool) : (knR n kn).length = n := by simp [knR]
theorem knR_get {n i : Nat} {kn : Nat → Nat → Bool} (h : i < n) : (knR n kn)[i]? = some (bset 64 (kn i)) := by simp [knR, h]
instance (n : Nat) (kn : Nat → Nat → Bool) : PRs (knR n kn) := ⟨fun r hr => by
 obtain ⟨i, _, rfl⟩ := List.mem_map.1 hr
 exact pr _⟩
instance (t : Tm) : PRs (rvR t) := inferInstanceAs (PRs (row1 _ _))
theorem rvR_len (t : Tm) : (rvR t).length = t.g.length := row1_len _ _
theorem boxR_len (n : Nat) (al : Nat → Bool) : (boxR n al).length = 67 := by simp [boxR, bset_len]
theorem boxR_al {n p : Nat} {al : Nat → Bool} (h : p < 64) : (boxR n al)[1 + p]? = some (.sc (.bool (al p))) := by
 unfold boxR
 rw [Nat.add_comm, List.getElem?_cons_succ, List.getElem?_append_left (by rw [bset_len]; exact h), bset_get h]
theorem boxR_kn (n : Nat) (al : Nat → Bool) : (boxR n al)[65]? = some (.hsl 1 0 0 n) := by
 unfold boxR
 rw [List.getElem?_cons_succ, List.getElem?_append_right (by rw [bset_len]; exact Nat.le_refl _), bset_len]
 rfl
theorem boxR_tm (n : Nat) (al : Nat → Bool) : (boxR n al)[66]? = some (.mref 2 0) := by
 unfold boxR
 rw [List.getElem?_cons_succ, List.getElem?_append_right (by rw [bset_len]; omega), bset_len]
 rfl
theorem boxR_set {n p : Nat} {al : Nat → Bool} (h : p < 64) (b : Bool) : (boxR n al).set (1 + p) (.sc (.bool b)) = boxR n fun x => if x = p then b else al x := by
 unfold boxR
 rw [Nat.add_comm, List.set_cons_succ, List.set_append_left _ _ (by rw [bset_len]; exact h), bset_set]
theorem boxR_all (n : Nat) (al : Nat → Bool) : ((boxR n al).drop 1).take 64 = bset 64 al := by
 show (bset 64 al ++ _).take 64 = _
 rw [List.take_append_of_le_length (by rw [bset_len]; exact Nat.le_refl _), List.take_of_length_le (by rw [bset_len]; exact Nat.le_refl _)]
theorem tmE_find (ts : List Tm) (i : Int) : mfind .i64 i (tmE ts) = some (if 0 ≤ i ∧ i.toNat < ts.length then some (tmV i.toNat (tmAt ts i.toNat)) else none) := by
 have key : ∀ (n s : Nat) (f : Nat → AV), mfind .i64 i ((List.range' s n).map fun j : Nat => (.int .i64 (j : Int), f j)) = some (if (s : Int) ≤ i ∧ i < (s : Int) + n then some (f i.toNat) else none) := by
  intro n
  induction n with
  | zero =>
   intro s f
   show some none = _
   rw [if_neg (by omega)]
  | succ n ih =>
   intro s f
   rw [List.range'_succ, List.map_cons]
   show (match decide (IntKind.i64 = IntKind.i64) with
    | true => match decide (i = (s : Int)) with
     | true => some (some (f s))
     | false => mfind .i64 i ((List.range' (s + 1) n).map fun j : Nat => (.int .i64 (j : Int), f j))
    | false => none) = _
   rw [decide_eq_true (rfl : IntKind.i64 = IntKind.i64)]
   by_cases h : i = (s : Int)
   ·rw [decide_eq_true h, if_pos (by omega), show i.toNat = s by omega]
   ·rw [decide_eq_false h]
    show mfind .i64 i ((List.range' (s + 1) n).map fun j : Nat => (.int .i64 (j : Int), f j)) = _
    rw [ih]
    by_cases h2 : (s : Int) ≤ i ∧ i < (s : Int) + (n + 1 : Nat)
    ·rw [if_pos h2, if_pos (by omega)]
    ·rw [if_neg h2, if_neg (by omega)]
 have := key ts.length 0 fun j => tmV j (tmAt ts j)
 unfold tmE
 rw [List.range_eq_range', this]
 by_cases h : 0 ≤ i ∧ i.toNat < ts.length
 ·rw [if_pos h, if_pos (by omega)]
 ·rw [if_neg h, if_neg (by omega)]
theorem tmE_at {ts : List Tm} {c : Nat} (h : c < ts.length) : mfind .i64 (c : Int) (tmE ts) = some (some (tmV c (tmAt ts c))) := by
 rw [tmE_find, if_pos (by omega)]
 rfl
theorem tmE_no {ts : List Tm} {c : Nat} (h : ts.length ≤ c) : mfind .i64 (c : Int) (tmE ts) = some none := by rw [tmE_find, if_neg (by omega)]
theorem rvF_get {ts : List Tm} {i : Nat} (h : i < ts.length) : (rvF ts)[i]? = some (.cells 1 (rvR (tmAt ts i))) := fam_get h
theorem rvF_len (ts : List Tm) : (rvF ts).length = ts.length := fam_len _ _
theorem To.tmV {T : AV → AV → Prop} {i : Nat} {t : Tm} {ρ : Nat → Nat → Option (Nat × Nat)} (h : ρ 3 i = some (3, i)) : To T ρ (tmV i t) (Ytbpmbofinoinmaa.tmV i t) := .cptrL (ToL.cons (.pure (pv _)) (ToL.cons (.hslL h rfl) ToL.nil))
theorem To.boxL {T : AV → AV → Prop} {n : Nat} {al : Nat → Bool} {ρ : Nat → Nat → Option (Nat × Nat)} (h1 : ρ 1 0 = some (1, 0)) (h2 : ρ 2 0 = some (2, 0)) : ToL T ρ (boxR n al) (boxR n al) := by
 have key : ∀ {l m : List AV}, (∀ c ∈ l, Pure c) → ToL T ρ m m → ToL T ρ (l ++ m) (l ++ m) := by
  intro l
  induction l with
  | nil => exact fun _ h => h
  | cons a l ih => exact fun hp h => ToL.cons (.pure (hp a (by simp))) (ih (fun c hc => hp c (by simp [hc])) h)
 exact ToL.cons (.sc _) (key (pr _) (ToL.cons (.hslL h1 rfl) (ToL.cons (.mrefO h2) ToL.nil)))
theorem ToB.tmE {T : AV → AV → Prop} {ts : List Tm} {ρ : Nat → Nat → Option (Nat × Nat)} (h : ∀ i, i < ts.length → ρ 3 i = some (3, i)) : ToB T ρ (.map (tmE ts)) (.map (Ytbpmbofinoinmaa.tmE ts)) := by
 refine .map _ _ rfl (fun j x y a b => by rw [a] at b; injection b with b; rw [b]) fun j x y a b => ?_
 rw [a] at b
 injection b with b
 subst b
 have hj := (List.getElem?_eq_some_iff.1 a).1
 rw [tmE_len] at hj
 unfold Ytbpmbofinoinmaa.tmE at a
 rw [List.getElem?_map, List.getElem?_range hj] at a
 injection a with a
 subst a
 exact To.tmV (h j hj)
theorem wd_fams {T : AV → AV → Prop} {w : Wd} {H : Heap} (h0 : H[0]? = some [.cells 67 [boxR w.n w.al]]) (h1 : H[1]? = some [.cells 64 (knR w.n w.kn)]) (h2 : H[2]? = some [.map (tmE w.ts)]) (h3 : H[3]? = some (rvF w.ts)) :
  famsTo (ToB T (rho (idK (wK w.ts.length)))) H (idK (wK w.ts.length)) (worldH w) := by
 have g : ∀ {g i : Nat} {F : List Blk}, H[g]? = some F → hget H g i = F[i]? := fun h => by unfold hget; rw [h]
 refine ⟨⟨⟨_, (g h0).trans rfl, ToB.one (To.boxL rfl rfl)⟩, trivial⟩, ⟨⟨_, (g h1).trans rfl, ToB.rows rfl (prs _)⟩, trivial⟩, ⟨⟨_, (g h2).trans rfl, ToB.tmE fun i hi => rho_w rfl hi⟩, trivial⟩, ?_, trivial⟩
 refine famTo.ofFam fun i hi => ⟨_, (g h3).trans (rvF_get hi), ToB.rows rfl (prs _)⟩
theorem Sub.wd {k N : Nat} {fr fr' : Fr} {w : Wd} {b0 b1 b2 b3 : List Blk} {X : Heap} (szs : List Nat) (h5 : ToAll (ToT ((b0 :: b1 :: b2 :: b3 :: X) ++ gh szs) (b0 :: b1 :: b2 :: b3 :: X).length (notK (wK w.ts.length))) (rho (idK (wK w.ts.length))) fr fr')
  (e0 : b0 = [.cells 67 [boxR w.n w.al]] := by rfl) (e1 : b1 = [.cells 64 (knR w.n w.kn)] := by rfl) (e2 : b2 = [.map (tmE w.ts)] := by rfl) (e3 : b3 = rvF w.ts := by rfl) (hk : k ≤ 4 := by exact Nat.le_of_ble_eq_true rfl) : Sub k N fr (b0 :: b1 :: b2 :: b3 :: X) fr' (worldH w) := by
 subst e0 e1 e2 e3
 refine Sub.toK szs (wK w.ts.length) h5 (wd_fams rfl rfl rfl rfl) ?_
 match k, hk with
 | 0, _ => exact trivial
 | 1, _ => exact ⟨.c _ rfl rfl, trivial⟩
 | 2, _ => exact ⟨.c _ rfl rfl, .c _ rfl rfl, trivial⟩
 | 3, _ => exact ⟨.c _ rfl rfl, .c _ rfl rfl, .c _ rfl rfl, trivial⟩
 | 4, _ => exact ⟨.c _ rfl rfl, .c _ rfl rfl, .c _ rfl rfl, .w _ _ (Nat.le_of_eq (rvF_len _)), trivial⟩
theorem endWd {k : Nat} {rs : List IRes} {fr : Fr} {e : Exit} {R : AV → Heap → Prop} {res : AV} (res' : AV) (w : Wd) {b0 b1 b2 b3 : List Blk} {X : Heap} (hR : R res' (worldH w)) 
  (e0 : b0 = [.cells 67 [boxR w.n w.al]] := by rfl) (e1 : b1 = [.cells 64 (knR w.n w.kn)] := by rfl) (e2 : b2 = [.map (tmE w.ts)] := by rfl) (e3 : b3 = rvF w.ts := by rfl) (he : e = .normal ∨ e = .ret := by first | exact .inr rfl | exact .inl rfl)
  (hres : resOf fr (b0 :: b1 :: b2 :: b3 :: X) rs = some res := by rfl)
  (h5 : To (ToT ((b0 :: b1 :: b2 :: b3 :: X) ++ gh []) (b0 :: b1 :: b2 :: b3 :: X).length (notK (wK w.ts.length))) (rho (idK (wK w.ts.length))) res res' := by (all_goals (repeat' (first | exact ToAll.nil | exact famsTo.nil | exact famTo.nil | exact ToL.nil | exact ToR.nil | refine ToAll.cons ?_ ?_ | refine famsTo.cons ?_ ?_ | refine wt10 ?_ ?_ | exact To.undef _ | exact To.sc _ | exact To.hslL rfl rfl | exact To.ptrO rfl rfl rfl | exact To.mrefO rfl | exact To.nil rfl rfl rfl | exact wt1 | exact To.nilL | refine To.int ?_ | refine To.bool ?_ | refine To.hslL rfl ?_ | refine wt2 rfl ?_ ?_ ?_ | refine To.tupL ?_ | refine To.aggL ?_ | refine To.cptrL ?_ | refine wt3 ?_ | refine wt4 ?_ | refine To.cloL ?_ ?_ | exact wt5 | refine wt6 ?_ | refine ToB.one ?_ | exact wt7 | ((with_reducible apply ToL.consE); case e9 => rfl) | refine wt8 ?_ | refine ToL.cons ?_ ?_ | exact wt11 | refine wt9 ?_ ?_ | refine wt12 ?_ | (with_reducible rfl) | assumption)); all_goals (first | rfl | assumption | (simp; done) | (simp; omega) | (rw [wrap_small (by omega) (by omega)]; done) | (rw [wrap_small (by omega) (by omega)]; omega) | (refine congrArg Nat.cast ?_; assumption) | skip))) (hk : k ≤ 4 := by exact Nat.le_of_ble_eq_true rfl) :
  (e = .normal ∨ e = .ret) ∧ ∃ res res' H2, resOf fr (b0 :: b1 :: b2 :: b3 :: X) rs = some res ∧ SubV k (b0 :: b1 :: b2 :: b3 :: X) res H2 res' ∧ R res' H2 := by
 subst e0 e1 e2 e3
 refine endKs (wK w.ts.length) hR he hres h5 (wd_fams rfl rfl rfl rfl) ?_
 match k, hk with
 | 0, _ => exact trivial
 | 1, _ => exact ⟨.c _ rfl rfl, trivial⟩
 | 2, _ => exact ⟨.c _ rfl rfl, .c _ rfl rfl, trivial⟩
 | 3, _ => exact ⟨.c _ rfl rfl, .c _ rfl rfl, .c _ rfl rfl, trivial⟩
 | 4, _ => exact ⟨.c _ rfl rfl, .c _ rfl rfl, .c _ rfl rfl, .w _ _ (Nat.le_of_eq (rvF_len _)), trivial⟩
theorem famsTo.app {R : Blk → Blk → Prop} {H : Heap} : ∀ {p q : List (List (Nat × Nat))} {X Y : Heap}, famsTo R H p X → famsTo R H q Y → famsTo R H (p ++ q) (X ++ Y)
 | [], _, [], _, _, h => h
 | _ :: _, _, _ :: _, _, ⟨h1, h2⟩, h => ⟨h1, famsTo.app h2 h⟩
def wKx (k : Nat) (es : List (List (Nat × Nat))) : List FK := wK k ++ es.map FK.c
theorem idK_wKx (k : Nat) (es : List (List (Nat × Nat))) : idK (wKx k es) = idK (wK k) ++ es := by
 unfold wKx idK
 rw [List.map_append, List.map_map]
 congr 1
 exact List.map_id _
theorem wd_famsx {T : AV → AV → Prop} {w : Wd} {H Y : Heap} {es : List (List (Nat × Nat))} (h0 : H[0]? = some [.cells 67 [boxR w.n w.al]]) (h1 : H[1]? = some [.cells 64 (knR w.n w.kn)]) (h2 : H[2]? = some [.map (tmE w.ts)]) (h3 : H[3]? = some (rvF w.ts))
  (hY : famsTo (ToB T (rho (idK (wKx w.ts.length es)))) H es Y) : famsTo (ToB T (rho (idK (wKx w.ts.length es)))) H (idK (wKx w.ts.length es)) (worldH w ++ Y) := by
 have g : ∀ {g i : Nat} {F : List Blk}, H[g]? = some F → hget H g i = F[i]? := fun h => by unfold hget; rw [h]
 have e : ∀ {g i}, rho (idK (wKx w.ts.length es)) g i = rho (idK (wK w.ts.length) ++ es) g i := fun {g i} => by rw [idK_wKx]
 have hf : famsTo (ToB T (rho (idK (wKx w.ts.length es)))) H (idK (wK w.ts.length)) (worldH w) := by
  refine ⟨⟨⟨_, (g h0).trans rfl, ToB.one (To.boxL rfl rfl)⟩, trivial⟩, ⟨⟨_, (g h1).trans rfl, ToB.rows rfl (prs _)⟩, trivial⟩, ⟨⟨_, (g h2).trans rfl, ToB.tmE fun i hi => rho_w rfl hi⟩, trivial⟩, ?_, trivial⟩
  exact famTo.ofFam fun i hi => ⟨_, (g h3).trans (rvF_get hi), ToB.rows rfl (prs _)⟩
 have := famsTo.app hf hY
 rwa [← idK_wKx] at this
theorem wKx_low {k n : Nat} {es : List (List (Nat × Nat))} {b0 b1 b2 : Blk} {b3 : List Blk} {X : Heap} (h3 : b3.length = n) (hk : k ≤ 4) : lowK 0 k (wKx n es) ([b0] :: [b1] :: [b2] :: b3 :: X) := by
 match k, hk with
 | 0, _ => exact trivial
 | 1, _ => exact ⟨.c _ rfl rfl, trivial⟩
 | 2, _ => exact ⟨.c _ rfl rfl, .c _ rfl rfl, trivial⟩
 | 3, _ => exact ⟨.c _ rfl rfl, .c _ rfl rfl, .c _ rfl rfl, trivial⟩
 | 4, _ => exact ⟨.c _ rfl rfl, .c _ rfl rfl, .c _ rfl rfl, .w _ _ (Nat.le_of_eq h3), trivial⟩
theorem Sub.wdx {k N : Nat} {fr fr' : Fr} (w : Wd) {b0 b1 b2 b3 : List Blk} {X : Heap} (szs : List Nat) (es : List (List (Nat × Nat))) (Y : Heap) (h5 : ToAll (ToT ((b0 :: b1 :: b2 :: b3 :: X) ++ gh szs) (b0 :: b1 :: b2 :: b3 :: X).length (notK (wKx w.ts.length es))) (rho (idK (wKx w.ts.length es))) fr fr')
  (hY : famsTo (ToB (ToT ((b0 :: b1 :: b2 :: b3 :: X) ++ gh szs) (b0 :: b1 :: b2 :: b3 :: X).length (notK (wKx w.ts.length es))) (rho (idK (wKx w.ts.length es)))) ((b0 :: b1 :: b2 :: b3 :: X) ++ gh szs) es Y)
  (e0 : b0 = [.cells 67 [boxR w.n w.al]] := by rfl) (e1 : b1 = [.cells 64 (knR w.n w.kn)] := by rfl) (e2 : b2 = [.map (tmE w.ts)] := by rfl) (e3 : b3 = rvF w.ts := by rfl) (hk : k ≤ 4 := by exact Nat.le_of_ble_eq_true rfl) (hok : okK (wKx w.ts.length es) = true := by rfl) : Sub k N fr (b0 :: b1 :: b2 :: b3 :: X) fr' (worldH w ++ Y) := by
 subst e0 e1 e2 e3
 exact Sub.toK szs (wKx w.ts.length es) h5 (wd_famsx rfl rfl rfl rfl hY) (wKx_low (rvF_len _) hk) hok
end Go.Proofs.Ytbpmbofinoinmaa
