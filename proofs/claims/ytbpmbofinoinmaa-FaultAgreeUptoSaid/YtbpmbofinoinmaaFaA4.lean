import Derived.Test.YtbpmbofinoinmaaFaA3
namespace Go.Proofs.Ytbpmbofinoinmaa
open Go.Av Go.Proofs

/-! A round of the agreement. -/

def partI (f : Nat → Pr → Pr) (ps : List Pr) (i : Nat) : List Pr := ps.mapIdx fun j p => if j < i then f j p else p
theorem partI_len (f : Nat → Pr → Pr) (ps : List Pr) (i : Nat) : (partI f ps i).length = ps.length := by simp [partI]
theorem partI_zero (f : Nat → Pr → Pr) (ps : List Pr) : partI f ps 0 = ps := by
  apply List.ext_getElem? fun j => ?_
  unfold partI
  rw [List.getElem?_mapIdx]
  cases ps[j]? <;> simp
theorem partI_get {f : Nat → Pr → Pr} {ps : List Pr} {i : Nat} {p : Pr} (h : ps[i]? = some p) (k : Nat) : (partI f ps k)[i]? = some (if i < k then f i p else p) := by
  unfold partI
  rw [List.getElem?_mapIdx, h]
  rfl
theorem partI_set {f : Nat → Pr → Pr} {ps : List Pr} {i : Nat} {p : Pr} (h : ps[i]? = some p) : (partI f ps i).set i (f i p) = partI f ps (i + 1) := by
  have hl := (List.getElem?_eq_some_iff.1 h).1
  apply List.ext_getElem? fun j => ?_
  rw [List.getElem?_set]
  by_cases e : i = j
  · subst e
    rw [if_pos rfl, if_pos (by rw [partI_len]; exact hl), partI_get h, if_pos (by omega)]
  · rw [if_neg e]
    unfold partI
    rw [List.getElem?_mapIdx, List.getElem?_mapIdx]
    have : (j < i + 1) ↔ (j < i) := by omega
    simp only [this]
theorem partI_skip {f : Nat → Pr → Pr} {ps : List Pr} {i : Nat} (h : ∀ p, f i p = p) : partI f ps (i + 1) = partI f ps i := by
  apply List.ext_getElem? fun j => ?_
  unfold partI
  rw [List.getElem?_mapIdx, List.getElem?_mapIdx]
  by_cases e : j = i
  · subst e
    cases ps[j]? <;> simp [h]
  · have : (j < i + 1) ↔ (j < i) := by omega
    simp only [this]

def mOf (p : Pr) : Msg := ⟨p.w, decide (p.dec > 0)⟩
def noPr : Pr := ⟨fun _ => false, fun _ => false, 0, false⟩
def prAt (ps : List Pr) (q : Nat) : Pr := (ps[q]?).getD noPr
def SA (ps : List Pr) (q : Nat) : Option (List AV) := (ps[q]?).bind sendS
def hearA (n : Nat) (l : List C) (r : Int) (ps : List Pr) (j : Nat) : List (Nat × Msg) := (X42.from' n l r (SA ps) n j).map fun q => (q, mOf (prAt ps q))
def stepF (n : Nat) (l : List C) (r : Int) (ps : List Pr) (j : Nat) (p : Pr) : Pr := if livesS l j r = true then takeS p j r (hearA n l r ps j) else p
def stepA (n : Nat) (l : List C) (r : Int) (ps : List Pr) : List Pr := partI (stepF n l r ps) ps n
def sentA (n : Nat) (l : List C) (r : Int) (ps : List Pr) : Bool := X42.sent l r (SA ps) n

theorem from_lt {n : Nat} {l : List C} {r : Int} {S : Nat → Option (List AV)} {i k q : Nat} (h : q ∈ X42.from' n l r S i k) : q < i ∧ X42.hears n l r S q k = true := by
  unfold X42.from' at h
  obtain ⟨h1, h2⟩ := List.mem_filter.1 h
  exact ⟨List.mem_range.1 h1, h2⟩

theorem gInts_hear (n : Nat) (l : List C) (r : Int) (ps : List Pr) (j : Nat) : gInts (hearA n l r ps j) = X42.ints (X42.from' n l r (SA ps) n j) := by
  unfold gInts hearA X42.ints
  rw [List.map_map]
  rfl
theorem gMsgs_hear (n : Nat) (l : List C) (r : Int) (ps : List Pr) (j : Nat) : gMsgs (hearA n l r ps j) = X42.msgs (SA ps) (X42.from' n l r (SA ps) n j) := by
  unfold gMsgs hearA X42.msgs
  rw [List.map_map]
  refine List.map_congr_left fun q hq => ?_
  have h1 := (from_lt hq).2
  unfold X42.hears at h1
  simp only [Bool.and_eq_true] at h1
  have h2 := h1.1
  show msgRow (mOf (prAt ps q)) = ((ps[q]?).bind sendS).getD []
  unfold SA at h2
  unfold prAt
  cases e : ps[q]? with
  | none => rw [e] at h2; cases h2
  | some p =>
    rw [e] at h2
    have h2 : (sendS p).isSome = true := h2
    show msgRow (mOf p) = (sendS p).getD []
    unfold sendS at h2 ⊢
    split at h2
    · cases h2
    · rename_i hd
      rw [if_neg hd]
      rfl

theorem msgA (ps : List Pr) : X42.MsgOK (SA ps) := by
  intro j m h
  unfold SA at h
  cases e : ps[j]? with
  | none => rw [e] at h; cases h
  | some p =>
    rw [e] at h
    have h : sendS p = some m := h
    unfold sendS at h
    split at h
    · cases h
    · injection h with h
      subst h
      exact ⟨msg_len _, pure_msgRow _, msg_cell1 _⟩

theorem clo_loS (f : FuncId) : Ren (lowS 3) (.clo (.func f) [] [.ptr 0 0 0 0]) (.clo (.func f) [] [.ptr 0 0 0 0]) := by
  refine .clo _ _ _ _ _ rfl rfl (fun j x y h => (by simp at h)) fun j x y hx hy => ?_
  cases eq_of_get hx hy
  match j, hx with
  | 0, hx => simp at hx; subst hx; exact .ptr 0 0 0 0 0 0 (lowS_lt (by omega))
  | j + 1, hx => simp at hx
theorem clo_loT (f : FuncId) : Ren (lowS 3) (.clo (.func f) [] [.ptr 0 0 0 0, .ptr 2 0 0 0]) (.clo (.func f) [] [.ptr 0 0 0 0, .ptr 2 0 0 0]) := by
  refine .clo _ _ _ _ _ rfl rfl (fun j x y h => (by simp at h)) fun j x y hx hy => ?_
  cases eq_of_get hx hy
  match j, hx with
  | 0, hx => simp at hx; subst hx; exact .ptr 0 0 0 0 0 0 (lowS_lt (by omega))
  | 1, hx => simp at hx; subst hx; exact .ptr 2 0 2 0 0 0 (lowS_lt (by omega))
  | j + 2, hx => simp at hx

theorem roundA_ok {l : List C} {r : Int} {ps : List Pr} {n : Nat} (hn1 : 1 ≤ n) (hn : n ≤ 64) (hr : 1 ≤ r ∧ r ≤ 1000) (hre : ∀ i : Nat, i < n → -1000 ≤ reachS n l i r ∧ reachS n l i r ≤ 1000) (hlen : ps.length = n) {X : Heap} :
    CallOK Try.prog 42 [schV n l, .sc (.int .i64 r), .clo (.func 43) [] [.ptr 0 0 0 0], .clo (.func 44) [] [.ptr 0 0 0 0, .ptr 2 0 0 0]] ([boxB n] :: [procsB ps] :: [oneB (.int .i64 r)] :: X)
      (fun res H' => res = .sc (.bool (sentA n l r ps)) ∧ H' = [boxB n] :: [procsB (stepA n l r ps)] :: [oneB (.int .i64 r)] :: X) := by
  have h := X42.exchange_ok (n := n) (l := l) (r := r) (S := SA ps) (fs := 43) (ft := 44) (cs := [.ptr 0 0 0 0]) (ct := [.ptr 0 0 0 0, .ptr 2 0 0 0]) (A := boxB n) (B := procsB ps) (D := oneB (.int .i64 r)) hn1 hn hr (msgA ps) hre
    (Inv := fun i a b d => a = boxB n ∧ b = procsB (partI (stepF n l r ps) ps i) ∧ d = oneB (.int .i64 r)) ⟨rfl, by rw [partI_zero], rfl⟩
    (fun i a b d hi hlv h => ⟨h.1, by rw [h.2.1, partI_skip fun p => by unfold stepF; rw [hlv]; rfl], h.2.2⟩)
    (fun i a b d hi hlv _ _ _ h => by
      obtain ⟨rfl, rfl, rfl⟩ := h
      obtain ⟨p, hp⟩ : ∃ p, ps[i]? = some p := ⟨_, List.getElem?_eq_getElem (by omega)⟩
      have hp2 : (partI (stepF n l r ps) ps i)[i]? = some p := by rw [partI_get hp, if_neg (Nat.lt_irrefl i)]
      have ht := takeA_ok (partI (stepF n l r ps) ps i) r i p hp2 (by omega) (hearA n l r ps i) (fun x hx => by
        obtain ⟨q, hq, rfl⟩ := List.mem_map.1 hx
        have := (from_lt hq).1
        show q < 64
        omega) (by
        unfold hearA
        rw [List.length_map]
        have := X42.from_len n l r (SA ps) n i
        omega)
      rw [partI_len, hlen, gInts_hear, gMsgs_hear] at ht
      refine ht.mono ?_
      rintro res H' ⟨hpu, rfl⟩
      refine ⟨_, _, _, rfl, hpu, lo_box _, lo_procs _, lo_one _, rfl, ?_, rfl⟩
      rw [← partI_set hp]
      unfold stepF
      rw [if_pos hlv])
    (fun i hi => by
      obtain ⟨p, hp⟩ : ∃ p, ps[i]? = some p := ⟨_, List.getElem?_eq_getElem (by omega)⟩
      have hs := sendA_ok ps r i p hp
      rw [hlen] at hs
      have e : SA ps i = sendS p := by unfold SA; rw [hp]; rfl
      rw [e]
      exact hs) (lo_box _) (lo_procs _) (lo_one _) (clo_loS 43) (clo_loT 44)
  refine (CallOK.heads (xs := [boxB n, procsB ps, oneB (.int .i64 r)]) (k := 3) (X := X) rfl (R := fun res ys => res = .sc (.bool (sentA n l r ps)) ∧ ys = [boxB n, procsB (stepA n l r ps), oneB (.int .i64 r)]) (h.mono ?_) ?_ ⟨.pure (pure_sch n l), .sc _, clo_loS 43, clo_loT 44, trivial⟩).mono ?_
  · rintro res H' ⟨rfl, a, b, d, rfl, h1, h2, h3, rfl, rfl, rfl⟩
    refine ⟨_, rfl, rfl, .sc _, ?_, rfl, rfl⟩
    intro y hy
    simp at hy
    rcases hy with rfl | rfl | rfl
    · exact h1
    · exact h2
    · exact h3
  · intro y hy
    simp at hy
    rcases hy with rfl | rfl | rfl
    · exact lo_box _
    · exact lo_procs _
    · exact lo_one _
  · rintro res H' ⟨ys, _, rfl, _, rfl, rfl⟩
    exact ⟨rfl, rfl⟩

end Go.Proofs.Ytbpmbofinoinmaa
