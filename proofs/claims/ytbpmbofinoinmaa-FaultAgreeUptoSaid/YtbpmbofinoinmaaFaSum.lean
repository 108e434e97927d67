import Derived.Test.YtbpmbofinoinmaaFaT6
import Derived.Test.YtbpmbofinoinmaaGAvK3
namespace Go.Proofs.Ytbpmbofinoinmaa
open Go.Av Go.Proofs

/-! The functions on sets, reckoned at once. -/

def consB (a : AV) : Option (List Bool) → Option (List Bool)
  | some q => match a with
    | .sc (.bool b) => match b with
      | true => some (true :: q)
      | false => some (false :: q)
    | _ => none
  | none => none

noncomputable def boolsK (cs : List AV) : Option (List Bool) := List.rec (motive := fun _ => Option (List Bool)) (some []) (fun a _ ih => consB a ih) cs

theorem boolsK_eq : ∀ (cs : List AV) (bs : List Bool), boolsK cs = some bs → cs = bs.map fun b => .sc (.bool b) := by
  intro cs
  induction cs with
  | nil => intro bs h; injection h with h; subst h; rfl
  | cons a cs ih =>
    intro bs h
    replace h : consB a (boolsK cs) = some bs := h
    unfold consB at h
    split at h
    · rename_i q e
      split at h
      · split at h
        · injection h with h; subst h; rw [ih q e]; rfl
        · injection h with h; subst h; rw [ih q e]; rfl
      · cases h
    · cases h

def sOf (bs : List Bool) (i : Nat) : Bool := (bs[i]?).getD false

theorem bset_of {bs : List Bool} {n : Nat} (h : bs.length = n) : (bs.map fun b => AV.sc (.bool b)) = bset n (sOf bs) := by
  apply List.ext_getElem?
  intro j
  rw [List.getElem?_map]
  by_cases hj : j < n
  · rw [bset_get hj, List.getElem?_eq_getElem (by omega)]
    simp [sOf, List.getElem?_eq_getElem (show j < bs.length by omega)]
  · rw [List.getElem?_eq_none (by omega), List.getElem?_eq_none (by rw [bset_len]; omega)]
    rfl

noncomputable def firstK (n : Nat) (fuel : Nat) : Nat → List AV := Nat.rec (motive := fun _ => Nat → List AV) (fun _ => []) (fun _ ih i => .sc (.bool (Nat.blt i n)) :: ih (Nat.succ i)) fuel

theorem firstK_get (n : Nat) : ∀ (fuel i j : Nat), (firstK n fuel i)[j]? = if j < fuel then some (.sc (.bool (Nat.blt (i + j) n))) else none := by
  intro fuel
  induction fuel with
  | zero => intro i j; rfl
  | succ fuel ih =>
    intro i j
    show (AV.sc (.bool (Nat.blt i n)) :: firstK n fuel (Nat.succ i))[j]? = _
    cases j with
    | zero => simp
    | succ j =>
      rw [List.getElem?_cons_succ, ih]
      by_cases h : j < fuel
      · rw [if_pos h, if_pos (by omega), show Nat.succ i + j = i + (j + 1) by omega]
      · rw [if_neg h, if_neg (by omega)]

theorem firstK_eq (n : Nat) : firstK n 64 0 = bset 64 fun i => decide (i < n) := by
  apply List.ext_getElem?
  intro j
  rw [firstK_get]
  by_cases h : j < 64
  · rw [if_pos h, bset_get h, Nat.zero_add]
    congr 3
    rw [Bool.eq_iff_iff]
    simp [Nat.blt_eq]
  · rw [if_neg h, List.getElem?_eq_none (by rw [bset_len]; omega)]

noncomputable def elemsK (bs : List Bool) : Nat → List (List AV) := List.rec (motive := fun _ => Nat → List (List AV)) (fun _ => []) (fun b _ ih i => Bool.rec (motive := fun _ => List (List AV)) (ih (Nat.succ i)) ([.sc (.int .i64 (.ofNat i))] :: ih (Nat.succ i)) b) bs

theorem elemsK_spec : ∀ (bs : List Bool) (i : Nat) (s : Nat → Bool), (∀ j, j < bs.length → s (i + j) = sOf bs j) → elemsK bs i = intsR (((List.range' i bs.length).filter s).map fun i : Nat => (i : Int)) := by
  intro bs
  induction bs with
  | nil => intro i s _; rfl
  | cons b bs ih =>
    intro i s h
    have h0 : s i = b := by have := h 0 (by simp); simpa [sOf] using this
    have ih' := ih (i + 1) s fun j hj => by
      have := h (j + 1) (by simpa using hj)
      rw [show i + 1 + j = i + (j + 1) by omega, this]
      simp [sOf]
    show Bool.rec (motive := fun _ => List (List AV)) (elemsK bs (i + 1)) ([.sc (.int .i64 (.ofNat i))] :: elemsK bs (i + 1)) b = _
    rw [List.length_cons, List.range'_succ, List.filter_cons, h0, ih']
    cases b <;> rfl

noncomputable def orL (b : Bool) (ih : List Bool → Option (List AV)) (ts : List Bool) : Option (List AV) :=
  match ts with
  | [] => none
  | t :: ts => match ih ts with
    | some q => some (.sc (.bool (b || t)) :: q)
    | none => none

noncomputable def orK (bs : List Bool) : List Bool → Option (List AV) := List.rec (motive := fun _ => List Bool → Option (List AV)) (fun _ => some []) (fun b _ ih => orL b ih) bs

theorem orK_eq : ∀ (bs ts : List Bool) (r : List AV), orK bs ts = some r → r.length = bs.length ∧ ∀ j, j < bs.length → r[j]? = some (.sc (.bool (sOf bs j || sOf ts j))) := by
  intro bs
  induction bs with
  | nil => intro ts r h; injection h with h; subst h; exact ⟨rfl, fun j hj => by simp at hj⟩
  | cons b bs ih =>
    intro ts r h
    replace h : orL b (orK bs) ts = some r := h
    unfold orL at h
    split at h
    · cases h
    · rename_i t ts
      split at h
      · rename_i q e
        injection h with h
        subst h
        obtain ⟨h1, h2⟩ := ih ts q e
        refine ⟨by simp [h1], fun j hj => ?_⟩
        cases j with
        | zero => simp [sOf]
        | succ j =>
          rw [List.getElem?_cons_succ, h2 j (by simpa using hj)]
          simp [sOf]
      · cases h

noncomputable def sumList (H : Heap) : Option (List Bool) → Option (AV × Heap)
  | some bs => Bool.rec (motive := fun _ => Option (AV × Heap)) none (some (.list 1 (elemsK bs 0), H)) (Nat.beq (lenK bs) 64)
  | none => none

noncomputable def sumFirst (n : Nat) (H : Heap) : Option (AV × Heap) := Bool.rec (motive := fun _ => Option (AV × Heap)) none (some (.agg (firstK n 64 0), H)) (Nat.ble n 64)

noncomputable def sumJoin3 (H : Heap) (g i : Nat) : Option (List AV) → Option (AV × Heap)
  | some r => match hsetK H g i (.cells 64 [r]) with
    | some H' => some (.tup [], H')
    | none => none
  | none => none

noncomputable def sumJoin2 (H : Heap) (g i : Nat) (a b : Option (List Bool)) : Option (AV × Heap) :=
  match a with
  | some bs => match b with
    | some ts => Bool.rec (motive := fun _ => Option (AV × Heap)) none (sumJoin3 H g i (orK bs ts)) (Nat.beq (lenK bs) 64 && Nat.beq (lenK ts) 64)
    | none => none
  | none => none

noncomputable def sumJoin (H : Heap) (g i : Nat) (cs : List AV) : Option Blk → Option (AV × Heap)
  | some (.cells 64 [r]) => sumJoin2 H g i (boolsK r) (boolsK cs)
  | _ => none

noncomputable def sum39 (args : List AV) (H : Heap) : Option (AV × Heap) :=
  match args with
  | [.sc (.int .i64 (.ofNat n))] => sumFirst n H
  | _ => none
noncomputable def sum55 (args : List AV) (H : Heap) : Option (AV × Heap) :=
  match args with
  | [.agg cs] => sumList H (boolsK cs)
  | _ => none
noncomputable def sum70 (args : List AV) (H : Heap) : Option (AV × Heap) :=
  match args with
  | [.ptr g i 0 0, .agg cs] => sumJoin H g i cs (hgetK H g i)
  | _ => none

noncomputable def sumF : Caller := fun f args H =>
  Bool.rec (motive := fun _ => Option (AV × Heap)) (Bool.rec (motive := fun _ => Option (AV × Heap)) (Bool.rec (motive := fun _ => Option (AV × Heap)) none (sum39 args H) (Nat.beq f 39)) (sum55 args H) (Nat.beq f 55)) (sum70 args H) (Nat.beq f 70)

theorem sumF_ok : CallerOK Try.prog sumF := by
  intro f args H v H' h
  unfold sumF at h
  cases e70 : Nat.beq f 70 with
  | true =>
    rw [e70] at h
    replace h : sum70 args H = some (v, H') := h
    have := Nat.eq_of_beq_eq_true e70
    subst this
    unfold sum70 at h
    split at h
    · rename_i g i cs
      unfold sumJoin at h
      split at h
      · rename_i r e
        rw [hgetK_eq] at e
        unfold sumJoin2 at h
        split at h
        · rename_i bs eb
          split at h
          · rename_i ts et
            cases hc : Nat.beq (lenK bs) 64 && Nat.beq (lenK ts) 64 with
            | false => rw [hc] at h; cases h
            | true =>
              rw [hc] at h
              simp only [Bool.and_eq_true, lenK_eq] at hc
              have l1 := Nat.eq_of_beq_eq_true hc.1
              have l2 := Nat.eq_of_beq_eq_true hc.2
              replace h : sumJoin3 H g i (orK bs ts) = some (v, H') := h
              unfold sumJoin3 at h
              split at h
              · rename_i q eq
                split at h
                · rename_i H1 eh
                  injection h with h
                  injection h with h1 h2
                  subst h1; subst h2
                  rw [boolsK_eq _ _ eb, bset_of l1] at e
                  rw [boolsK_eq _ _ et, bset_of l2]
                  refine (join_at e).mono ?_
                  rintro res H2 ⟨rfl, rfl⟩
                  refine ⟨rfl, ?_⟩
                  rw [← hsetK_eq _ _ _ _ _ eh]
                  congr 2
                  obtain ⟨k1, k2⟩ := orK_eq _ _ _ eq
                  congr 1
                  apply List.ext_getElem?
                  intro j
                  by_cases hj : j < 64
                  · rw [bset_get hj, k2 j (by omega)]
                    rfl
                  · rw [List.getElem?_eq_none (by rw [bset_len]; omega), List.getElem?_eq_none (by omega)]
                · cases h
              · cases h
          · cases h
        · cases h
      · cases h
    · cases h
  | false =>
    rw [e70] at h
    cases e55 : Nat.beq f 55 with
    | true =>
      rw [e55] at h
      replace h : sum55 args H = some (v, H') := h
      have := Nat.eq_of_beq_eq_true e55
      subst this
      unfold sum55 at h
      split at h
      · rename_i cs
        unfold sumList at h
        split at h
        · rename_i bs eb
          cases hc : Nat.beq (lenK bs) 64 with
          | false => rw [hc] at h; cases h
          | true =>
            rw [hc] at h
            rw [lenK_eq] at hc
            have l1 := Nat.eq_of_beq_eq_true hc
            injection h with h
            injection h with h1 h2
            subst h1; subst h2
            rw [boolsK_eq _ _ eb, bset_of l1]
            refine CallOK.ofPure (PureRun.of (allPure_cons (.agg _ (pure_bset _ _)) allPure_nil) (pure_ints _) (list_ok _)) _ ⟨?_, rfl⟩
            have := elemsK_spec bs 0 (sOf bs) fun j _ => by rw [Nat.zero_add]
            rw [this, l1, ← List.range_eq_range']
            rfl
        · cases h
      · cases h
    | false =>
      rw [e55] at h
      cases e39 : Nat.beq f 39 with
      | true =>
        rw [e39] at h
        replace h : sum39 args H = some (v, H') := h
        have := Nat.eq_of_beq_eq_true e39
        subst this
        unfold sum39 at h
        split at h
        · rename_i n
          unfold sumFirst at h
          cases hc : Nat.ble n 64 with
          | false => rw [hc] at h; cases h
          | true =>
            rw [hc] at h
            have hn := Nat.le_of_ble_eq_true hc
            injection h with h
            injection h with h1 h2
            subst h1; subst h2
            rw [firstK_eq]
            exact CallOK.ofPure (PureRun.of (allPure_cons (.sc _) allPure_nil) (.agg _ (pure_bset _ _)) (first_ok n hn)) _ ⟨rfl, rfl⟩
        · cases h
      | false => rw [e39] at h; cases h

end Go.Proofs.Ytbpmbofinoinmaa
