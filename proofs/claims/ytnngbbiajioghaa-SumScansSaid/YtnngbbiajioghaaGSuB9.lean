import Derived.Test.YtnngbbiajioghaaGSuE3
import Derived.Test.YtnngbbiajioghaaGSuR6
namespace Go.Proofs.Ytnngbbiajioghaa
open Go.Av Go.Proofs
set_option exponentiation.threshold 4000
set_option maxRecDepth 20000

/-! The document's lists of values: all, fold. -/

theorem validS_iff (kind : Int) (l : List Vl) : validS kind l = true ↔ ∀ v ∈ l, validS kind [v] = true := by
  unfold validS
  by_cases h : kind = 3
  · simp [h]
  · simp [h]

theorem rall_ok (kind : Int) (l : List Vl) (hl : l.length ≤ 1000000) : PureRun Try.prog 75 [.sc (.int .i64 kind), vsV l] (.sc (.bool (validS kind l))) := by
  refine PureRun.mkI cF75 (Nat.le_of_ble_eq_true rfl) ?_
  have e0 := vsR_len l
  refine walkX ?_
  refine AWP.loop (fun i : Nat => [(0, .sc (.int .i64 kind)), (1, vsV l), (5, .sc (.int .i64 (i : Int)))]) (fun _ => []) (fun i => i ≤ l.length ∧ ∀ v ∈ l.take i, validS kind [v] = true) (fun i => l.length - i) 0 ⟨Nat.zero_le _, fun v hv => by simp at hv⟩ ?_ ?_
  · exact Sub.w [] []
  rintro i ⟨hi, hv⟩
  refine walkX ?_
  rw [e0]
  refine AWP.condD rfl (fun h => ?_) (fun h => ?_)
  · have hr : rowIx (vsR l) (i : Int) = some (vR l[i].1 l[i].2) := vsR_ix l i h
    have h50 := rvalid_ok kind l[i]
    have ht : l.take (i + 1) = l.take i ++ [l[i]] := List.take_succ_eq_append_getElem h
    have hmem := List.getElem_mem h
    generalize l[i] = v at *
    cases hq : validS kind [v] with
    | false =>
      rw [hq] at h50
      have : validS kind l = false := by
        cases e : validS kind l with
        | false => rfl
        | true => rw [(validS_iff kind l).1 e v hmem] at hq; cases hq
      rw [this]
      refine walkX ?_
      exact EndP.w
    | true =>
      rw [hq] at h50
      refine walkX ?_
      refine ⟨i + 1, ⟨by omega, fun u hu => ?_⟩, by omega, ?_⟩
      · rw [ht, List.mem_append, List.mem_singleton] at hu
        rcases hu with hu | rfl
        · exact hv u hu
        · exact hq
      · exact Sub.w [] []
  · rw [(validS_iff kind l).2 (by rw [List.take_of_length_le (by omega)] at hv; exact hv)]
    refine walkX ?_
    exact EndP.w

/-- The document's sum of many. -/
theorem rel_all (l : List Vl) (hb : ∀ v ∈ l, v.1 < 18446744073709551616) : Rel (sumAll l) (l.foldl (fun a v => (mergedR a (oneRs v.1)).2) r0) := by
  unfold sumAll
  suffices ∀ (l : List Vl), (∀ v ∈ l, v.1 < 18446744073709551616) → ∀ s r, Rel s r → Rel (l.foldl (fun a v => (mergeR a (oneS v.1)).2) s) (l.foldl (fun a v => (mergedR a (oneRs v.1)).2) r) from this l hb _ _ rel_zero
  intro l
  induction l with
  | nil => exact fun _ s r h => h
  | cons v l ih => exact fun hb s r h => ih (fun u hu => hb u (List.mem_cons_of_mem _ hu)) _ _ (rel_add h (hb v (List.mem_cons_self ..)))

theorem quiet_nan (v : Vl) : infN < v.1 &&& 9223372036854775807 ↔ infN < v.1 % 9223372036854775808 := by rw [and_abs]
theorem compareS_refl (a : Nat) : compareS a a = 0 := by unfold compareS cmpI; simp
theorem start_real {op : Int} (ho : op = 3 ∨ op = 4) (v : Vl) : opR op 2 v v = if infN < v.1 % 9223372036854775808 then (nanN, 0) else v := by
  rcases ho with rfl | rfl
  · rw [opR_real3]
    by_cases h : infN < v.1 % 9223372036854775808
    · rw [if_pos h, if_pos (.inl h)]
    · rw [if_neg h, if_neg (by rintro (q | q) <;> exact h q), compareS_refl, if_neg (by decide)]
  · rw [opR_real4]
    by_cases h : infN < v.1 % 9223372036854775808
    · rw [if_pos h, if_pos (.inl h)]
    · rw [if_neg h, if_neg (by rintro (q | q) <;> exact h q), compareS_refl, if_neg (by decide)]

/-- What holds of the result so far. -/
theorem fold_inv {op kind : Int} (hc : checkE op kind = 0) (r : List Vl) (v : Vl) (hv : v.1 < 18446744073709551616) (hb : ∀ u ∈ r, u.1 < 18446744073709551616) (pv : validS kind [v] = true) (pr : ∀ u ∈ r, validS kind [u] = true) :
    (r.foldl (fun a b => opR op kind a b) v).1 < 18446744073709551616 ∧ validS kind [r.foldl (fun a b => opR op kind a b) v] = true := by
  induction r generalizing v with
  | nil => exact ⟨hv, pv⟩
  | cons u r ih =>
    refine ih (opR op kind v u) (opR_lt hv (hb u (List.mem_cons_self ..))) (fun w hw => hb w (List.mem_cons_of_mem _ hw)) ?_ fun w hw => pr w (List.mem_cons_of_mem _ hw)
    have pu := pr u (List.mem_cons_self ..)
    by_cases h3 : kind = 3
    · unfold validS; simp [h3]
    · have e1 : v.2 = 0 := by unfold validS at pv; simpa [h3] using pv
      have e2 : u.2 = 0 := by unfold validS at pu; simpa [h3] using pu
      have hk : kind = 1 ∨ kind = 2 := by
        unfold checkE at hc
        split at hc
        · cases hc
        · omega
      have := opR_place (op := op) h3 e1 e2 hk
      unfold validS
      simp [this]

def pickI : List Nat → ICode → ICode
  | [], c => c
  | 0 :: l, .seq a _ => pickI l a
  | _ :: l, .seq _ b => pickI l b
  | 0 :: l, .cond _ a _ => pickI l a
  | _ :: l, .cond _ _ b => pickI l b
  | _ :: l, .block _ a => pickI l a
  | _ :: l, .loop a => pickI l a
  | _ :: _, c => c
set_option maxHeartbeats 4000000 in
theorem rfold_loop (op kind : Int) (v : Vl) (r : List Vl) (hl : r.length + 1 ≤ 1000000) (hb : ∀ u ∈ r, u.1 < 18446744073709551616) (hc : checkE op kind = 0) (hv : ∀ u ∈ r, validS kind [u] = true) (st : Vl) (hst : st.1 < 18446744073709551616) (hsv : validS kind [st] = true) :
    AWP Try.prog F76.n 0 (pickI [1, 1, 1, 1] F76.code) (EndP F76.res (.agg (vrow (r.foldl (fun a b => opR op kind a b) st)))) [(0, .sc (.int .i64 op)), (1, .sc (.int .i64 kind)), (2, vsV (v :: r)), (6, .ptr 0 0 0 0), (9, .ptr 1 0 0 0)]
      [[.cells 2 [vR 0 0]], [.cells 2 [vrow st]]] := by
  have e0 : (vsR (v :: r)).length = r.length + 1 := by rw [vsR_len]; rfl
  show AWP Try.prog F76.n 0 (.seq _ _) _ _ _
  refine walkX ?_
  refine AWP.loop (fun i : Nat => [(0, .sc (.int .i64 op)), (1, .sc (.int .i64 kind)), (2, vsV (v :: r)), (6, .ptr 0 0 0 0), (9, .ptr 1 0 0 0), (10, .sc (.int .i64 ((i + 1 : Nat) : Int)))]) (fun i => [[.cells 2 [vR 0 0]], [.cells 2 [vrow ((r.take i).foldl (fun a b => opR op kind a b) st)]]]) (fun i => i ≤ r.length) (fun i => r.length - i) 0 (Nat.zero_le _) ?_ ?_
  · exact Sub.w [] [[(0,0)],[(1,0)]]
  intro i hi
  refine walkX ?_
  rw [e0]
  refine AWP.condD rfl (fun h => ?_) (fun h => ?_)
  · have h1 : i < r.length := by omega
    have hr : rowIx (vsR (v :: r)) ((i + 1 : Nat) : Int) = some (vR r[i].1 r[i].2) := by
      rw [vsR_ix (v :: r) (i + 1) (by simp; omega)]
      rfl
    have hbu := hb r[i] (List.getElem_mem h1)
    have hvu := hv r[i] (List.getElem_mem h1)
    have hf := foldl_take (fun a b => opR op kind a b) st r i h1
    have hin := fold_inv hc (r.take i) st hst (fun u hu => hb u (List.mem_of_mem_take hu)) hsv (fun u hu => hv u (List.mem_of_mem_take hu))
    generalize r[i] = u at *
    generalize (r.take i).foldl (fun a b => opR op kind a b) st = w at *
    have h51 := rresult_ok hc w u hin.1 hbu hin.2 hvu
    generalize opR op kind w u = z at *
    unfold vrow at *
    refine walkX ?_
    refine DK.nil ⟨by kernel_rfl, ?_⟩
    refine walkX ?_
    refine ⟨i + 1, by omega, by omega, ?_⟩
    rw [hf]
    exact Sub.w [] [[(0,0)],[(1,0)]]
  · have hi : i = r.length := by omega
    subst hi
    rw [List.take_of_length_le (Nat.le_refl _)]
    generalize r.foldl (fun a b => opR op kind a b) st = w at *
    unfold vrow
    refine walkX ?_
    exact EndP.w

set_option maxHeartbeats 4000000 in
theorem rfold_ok (op kind : Int) (l : List Vl) (h0 : l ≠ []) (hl : l.length ≤ 1000000) (hb : ∀ v ∈ l, v.1 < 18446744073709551616) (hc : checkE op kind = 0) (hv : validS kind l = true) :
    PureRun Try.prog 76 [.sc (.int .i64 op), .sc (.int .i64 kind), vsV l] (.agg (vrow (reduceS op kind l))) := by
  refine PureRun.mkI cF76 (Nat.le_of_ble_eq_true rfl) ?_
  have e0 := vsR_len l
  have hva := (validS_iff kind l).1 hv
  by_cases hs : op = 1 ∧ kind = 2
  · obtain ⟨rfl, rfl⟩ := hs
    refine walkX ?_
    refine AWP.loop (fun i : Nat => [(2, vsV l), (6, .ptr 0 0 0 0), (7, .ptr 1 0 0 0), (8, .sc (.int .i64 (i : Int)))]) (fun i => [[.cells 2 [vR 0 0]], [.cells 6 [((l.take i).foldl (fun a v => (mergedR a (oneRs v.1)).2) r0).row]]]) (fun i => i ≤ l.length) (fun i => l.length - i) 0 (Nat.zero_le _) ?_ ?_
    · show Sub _ _ _ _ _ [[.cells 2 [vR 0 0]], [.cells 6 [r0.row]]]
      exact Sub.wx [] [[(0,0)],[(1,0)]]
    intro i hi
    refine walkX ?_
    rw [e0]
    refine AWP.condD rfl (fun h => ?_) (fun h => ?_)
    · have hr : rowIx (vsR l) (i : Int) = some (vR l[i].1 l[i].2) := vsR_ix l i h
      have hv := hb l[i] (List.getElem_mem h)
      have hf := foldl_take (fun a (v : Vl) => (mergedR a (oneRs v.1)).2) r0 l i h
      have hrel := rel_all (l.take i) (fun v hv => hb v (List.mem_of_mem_take hv))
      generalize l[i] = v at *
      generalize (l.take i).foldl (fun a v => (mergedR a (oneRs v.1)).2) r0 = s at *
      refine walkX ?_
      refine Reg.c (Nat.zero_le _) rfl ((radd_at (a := s) (g := 1) (i := 0) (b := v.1) rfl hrel.nb hv).mono ?_)
      rintro res H' ⟨rfl, rfl⟩
      refine walkX ?_
      refine ⟨i + 1, by omega, by omega, ?_⟩
      rw [hf]
      exact Sub.w [] [[(0,0)],[(1,0)]]
    · have hi : i = l.length := by omega
      subst hi
      have hrel := rel_all l hb
      rw [List.take_of_length_le (Nat.le_refl _)]
      have e : reduceS 1 2 l = ((sumAll l).value, 0) := by
        cases l with
        | nil => exact absurd rfl h0
        | cons v r => rw [reduceS_cons, if_pos ⟨rfl, rfl⟩]
      rw [e, rvalue_rel hrel]
      generalize l.foldl (fun a v => (mergedR a (oneRs v.1)).2) r0 = s at *
      unfold vrow
      refine walkX ?_
      refine Reg.c (Nat.zero_le _) rfl ((rlook_at (a := s) (g := 1) (i := 0) rfl hrel.nb).mono ?_)
      rintro res H' ⟨rfl, rfl⟩
      refine walkX ?_
      exact EndP.w
  · obtain ⟨v, r, rfl⟩ : ∃ v r, l = v :: r := by
      cases l with
      | nil => exact absurd rfl h0
      | cons v r => exact ⟨v, r, rfl⟩
    have hbv := hb v (List.mem_cons_self ..)
    have hbr : ∀ u ∈ r, u.1 < 18446744073709551616 := fun u hu => hb u (List.mem_cons_of_mem _ hu)
    have hvv := hva v (List.mem_cons_self ..)
    have hvr : ∀ u ∈ r, validS kind [u] = true := fun u hu => hva u (List.mem_cons_of_mem _ hu)
    have hst : (start op kind v).1 < 18446744073709551616 ∧ validS kind [start op kind v] = true := by
      unfold start
      split
      · exact fold_inv hc [v] v hbv (by simpa using hbv) hvv (by simpa using hvv)
      · exact ⟨hbv, hvv⟩
    rw [reduceS_cons, if_neg hs]
    have x0 : rowIx (vsR (v :: r)) 0 = some (vR v.1 v.2) := rfl
    have h55 := risnan_ok hbv
    rw [and_abs] at h55
    have hstart : start op kind v = if kind = 2 ∧ infN < v.1 % 9223372036854775808 then (nanN, v.2) else v := by
      unfold start
      by_cases hk : kind = 2
      · subst hk
        have ho : op = 3 ∨ op = 4 := by
          have := check_op hc
          have hr : ¬ (op < 1 ∨ 11 < op ∨ (2 : Int) < 1 ∨ (3 : Int) < 2) := fun h => by unfold checkE at hc; rw [if_pos h] at hc; cases hc
          rw [opNil_iff (by omega) (by omega) (by omega) (by omega)] at this
          simp at this
          omega
        have hz : v.2 = 0 := by simpa [validS] using hvv
        rw [if_pos rfl, start_real ho]
        by_cases hq : infN < v.1 % 9223372036854775808
        · rw [if_pos hq, if_pos ⟨rfl, hq⟩, hz]
        · rw [if_neg hq, if_neg (fun h => hq h.2)]
      · rw [if_neg hk, if_neg (fun h => hk h.1)]
    by_cases hk : kind = 2
    · subst hk
      have ho : op ≠ 1 := fun h => hs ⟨h, rfl⟩
      refine walkX ?_
      rw [show (op == 1) = false from by simpa using ho]
      refine walkX ?_
      refine AWP.condD rfl (fun hq => ?_) (fun hq => ?_)
      · rw [if_pos ⟨rfl, hq⟩] at hstart
        refine AWP.region ?_
        refine walkR ?_
        refine AWP.sub ?_ (rfold_loop op 2 v r (by simpa using hl) hbr hc hvr (start op 2 v) hst.1 hst.2)
        rw [hstart]
        exact Sub.w [] [[(0,0)],[(1,0)]]
      · rw [if_neg (fun h => hq h.2)] at hstart
        refine AWP.skip ?_
        refine AWP.sub ?_ (rfold_loop op 2 v r (by simpa using hl) hbr hc hvr (start op 2 v) hst.1 hst.2)
        rw [hstart]
        exact Sub.w [] [[(0,0)],[(1,0)]]
    · rw [if_neg (fun h => hk h.1)] at hstart
      refine walkX ?_
      rw [show (kind == 2) = false from by simpa using hk]
      refine walkX ?_
      rw [show (kind == 2) = false from by simpa using hk]
      refine walkR ?_
      refine AWP.condF rfl ?_
      refine AWP.skip ?_
      refine AWP.sub ?_ (rfold_loop op kind v r (by simpa using hl) hbr hc hvr (start op kind v) hst.1 hst.2)
      rw [hstart]
      exact Sub.w [] [[(0,0)],[(1,0)]]

end Go.Proofs.Ytnngbbiajioghaa
