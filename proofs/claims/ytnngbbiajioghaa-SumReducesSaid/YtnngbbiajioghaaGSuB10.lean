import Derived.Test.YtnngbbiajioghaaGSuE3
import Derived.Test.YtnngbbiajioghaaGSuR6
namespace Go.Proofs.Ytnngbbiajioghaa
open Go.Av Go.Proofs
set_option exponentiation.threshold 4000
set_option maxRecDepth 20000

/-! The document's lists of values: all, fold. -/

theorem validS_iff (kind : Int) (l : List Vl) : validS kind l = true ↔ ∀ v ∈ l, validS kind [v] = true := by
  unfold validS
  by_cases h : kind = 3
  · simp [h]
  · simp [h]

theorem rall_ok (kind : Int) (l : List Vl) (hl : l.length ≤ 1000000) : PureRun Try.prog 75 [.sc (.int .i64 kind), vsV l] (.sc (.bool (validS kind l))) := by
  refine PureRun.mkI cF75 (Nat.le_of_ble_eq_true rfl) ?_
  have e0 := vsR_len l
  refine walkX ?_
  refine AWP.loop (fun i : Nat => [(0, .sc (.int .i64 kind)), (1, vsV l), (5, .sc (.int .i64 (i : Int)))]) (fun _ => []) (fun i => i ≤ l.length ∧ ∀ v ∈ l.take i, validS kind [v] = true) (fun i => l.length - i) 0 ⟨Nat.zero_le _, fun v hv => by simp at hv⟩ ?_ ?_
  · exact Sub.w [] []
  rintro i ⟨hi, hv⟩
  refine walkX ?_
  rw [e0]
  refine AWP.condD rfl (fun h => ?_) (fun h => ?_)
  · have hr : rowIx (vsR l) (i : Int) = some (vR l[i].1 l[i].2) := vsR_ix l i h
    have h50 := rvalid_ok kind l[i]
    have ht : l.take (i + 1) = l.take i ++ [l[i]] := List.take_succ_eq_append_getElem h
    have hmem := List.getElem_mem h
    generalize l[i] = v at *
    cases hq : validS kind [v] with
    | false =>
      rw [hq] at h50
      have : validS kind l = false := by
        cases e : validS kind l with
        | false => rfl
        | true => rw [(validS_iff kind l).1 e v hmem] at hq; cases hq
      rw [this]
      refine walkX ?_
      exact EndP.w
    | true =>
      rw [hq] at h50
      refine walkX ?_
      refine ⟨i + 1, ⟨by omega, fun u hu => ?_⟩, by omega, ?_⟩
      · rw [ht, List.mem_append, List.mem_singleton] at hu
        rcases hu with hu | rfl
        · exact hv u hu
        · exact hq
      · exact Sub.w [] []
  · rw [(validS_iff kind l).2 (by rw [List.take_of_length_le (by omega)] at hv; exact hv)]
    refine walkX ?_
    exact EndP.w

/-- The document's sum of many. -/
theorem rel_all (l : List Vl) (hb : ∀ v ∈ l, v.1 < 18446744073709551616) : Rel (sumAll l) (l.foldl (fun a v => (mergedR a (oneRs v.1)).2) r0) := by
  unfold sumAll
  suffices ∀ (l : List Vl), (∀ v ∈ l, v.1 < 18446744073709551616) → ∀ s r, Rel s r → Rel (l.foldl (fun a v => (mergeR a (oneS v.1)).2) s) (l.foldl (fun a v => (mergedR a (oneRs v.1)).2) r) from this l hb _ _ rel_zero
  intro l
  induction l with
  | nil => exact fun _ s r h => h
  | cons v l ih => exact fun hb s r h => ih (fun u hu => hb u (List.mem_cons_of_mem _ hu)) _ _ (rel_add h (hb v (List.mem_cons_self ..)))

theorem quiet_nan (v : Vl) : infN < v.1 &&& 9223372036854775807 ↔ infN < v.1 % 9223372036854775808 := by rw [and_abs]
theorem compareS_refl (a : Nat) : compareS a a = 0 := by unfold compareS cmpI; simp
theorem start_real {op : Int} (ho : op = 3 ∨ op = 4) (v : Vl) : opR op 2 v v = if infN < v.1 % 9223372036854775808 then (nanN, 0) else v := by
  rcases ho with rfl | rfl
  · rw [opR_real3]
    by_cases h : infN < v.1 % 9223372036854775808
    · rw [if_pos h, if_pos (.inl h)]
    · rw [if_neg h, if_neg (by rintro (q | q) <;> exact h q), compareS_refl, if_neg (by decide)]
  · rw [opR_real4]
    by_cases h : infN < v.1 % 9223372036854775808
    · rw [if_pos h, if_pos (.inl h)]
    · rw [if_neg h, if_neg (by rintro (q | q) <;> exact h q), compareS_refl, if_neg (by decide)]

/-- What holds of the result so far. -/
theorem fold_inv {op kind : Int} (hc : checkE op kind = 0) (r : List Vl) (v : Vl) (hv : v.1 < 18446744073709551616) (hb : ∀ u ∈ r, u.1 < 18446744073709551616) (pv : validS kind [v] = true) (pr : ∀ u ∈ r, validS kind [u] = true) :
    (r.foldl (fun a b => opR op kind a b) v).1 < 18446744073709551616 ∧ validS kind [r.foldl (fun a b => opR op kind a b) v] = true := by
  induction r generalizing v with
  | nil => exact ⟨hv, pv⟩
  | cons u r ih =>
    refine ih (opR op kind v u) (opR_lt hv (hb u (List.mem_cons_self ..))) (fun w hw => hb w (List.mem_cons_of_mem _ hw)) ?_ fun w hw => pr w (List.mem_cons_of_mem _ hw)
    have pu := pr u (List.mem_cons_self ..)
    by_cases h3 : kind = 3
    · unfold validS; simp [h3]
    · have e1 : v.2 = 0 := by unfold validS at pv; simpa [h3] using pv
      have e2 : u.2 = 0 := by unfold validS at pu; simpa [h3] using pu
      have hk : kind = 1 ∨ kind = 2 := by
        unfold checkE at hc
        split at hc
        · cases hc
        · omega
      have := opR_place (op := op) h3 e1 e2 hk
      unfold validS
      simp [this]

def pickI : List Nat → ICode → ICode
  | [], c => c
  | 0 :: l, .seq a _ => pickI l a
  | _ :: l, .seq _ b => pickI l b
  | 0 :: l, .cond _ a _ => pickI l a
  | _ :: l, .cond _ _ b => pickI l b
  | _ :: l, .block _ a => pickI l a
  | _ :: l, .loop a => pickI l a
  | _ :: _, c => c
set_option maxHeartbeats 4000000 in
theorem rfold_loop (op kind : Int) (v : Vl) (r : List Vl) (hl : r.length + 1 ≤ 1000000) (hb : ∀ u ∈ r, u.1 < 18446744073709551616) (hc : checkE op kind = 0) (hv : ∀ u ∈ r, validS kind [u] = true) (st : Vl) (hst : st.1 < 18446744073709551616) (hsv : validS kind [st] = true) :
    AWP Try.prog F76.n 0 (pickI [1, 1, 1, 1] F76.code) (EndP F76.res (.agg (vrow (r.foldl (fun a b => opR op kind a b) st)))) [(0, .sc (.int .i64 op)), (1, .sc (.int .i64 kind)), (2, vsV (v :: r)), (6, .ptr 0 0 0 0), (9, .ptr 1 0 0 0)]
      [[.cells 2 [vR 0 0]], [.cells 2 [vrow st]]] := by
  have e0 : (vsR (v :: r)).length = r.length + 1 := by rw [vsR_len]; rfl
  show AWP Try.prog F76.n 0 (.seq _ _) _ _ _
  refine walkX ?_
  refine AWP.loop (fun i : Nat => [(0, .sc (.int .i64 op)), (1, .sc (.int .i64 kind)), (2, vsV (v :: r)), (6, .ptr 0 0 0 0), (9, .ptr 1 0 0 0), (10, .sc (.int .i64 ((i + 1 : Nat) : Int)))]) (fun i => [[.cells 2 [vR 0 0]], [.cells 2 [vrow ((r.take i).foldl (fun a b => opR op kind a b) st)]]]) (fun i => i ≤ r.length) (fun i => r.length - i) 0 (Nat.zero_le _) ?_ ?_
  · exact Sub.w [] [[(0,0)],[(1,0)]]
  intro i hi
  refine walkX ?_
  rw [e0]
  refine AWP.condD rfl (fun h => ?_) (fun h => ?_)
  · have h1 : i < r.length := by omega
    have hr : rowIx (vsR (v :: r)) ((i + 1 : Nat) : Int) = some (vR r[i].1 r[i].2) := by
      rw [vsR_ix (v :: r) (i + 1) (by simp; omega)]
      rfl
    have hbu := hb r[i] (List.getElem_mem h1)
    have hvu := hv r[i] (List.getElem_mem h1)
    have hf := foldl_take (fun a b => opR op kind a b) st r i h1
    have hin := fold_inv hc (r.take i) st hst (fun u hu => hb u (List.mem_of_mem_take hu)) hsv (fun u hu => hv u (List.mem_of_mem_take hu))
    generalize r[i] = u at *
    generalize (r.take i).foldl (fun a b => opR op kind a b) st = w at *
    have h51 := rresult_ok hc w u hin.1 hbu hin.2 hvu
    generalize opR op kind w u = z at *
    unfold vrow at *
    refine walkX ?_
    refine DK.nil ⟨by kernel_rfl, ?_⟩
    refine walkX ?_
    refine ⟨i + 1, by omega, by omega, ?_⟩
    rw [hf]
    exact Sub.w [] [[(0,0)],[(1,0)]]
  · have hi : i = r.length := by omega
    subst hi
    rw [List.take_of_length_le (Nat.le_refl _)]
    generalize r.foldl (fun a b => opR op kind a b) st = w at *
    unfold vrow
    refine walkX ?_
    exact EndP.w

set_option maxHeartbeats 4000000 in
theorem rfold_ok (op kind : Int) (l : List Vl) (h0 : l ≠ []) (hl : l.length ≤ 1000000) (hb : ∀ v ∈ l, v.1 < 18446744073709551616) (hc : checkE op kind = 0) (hv : validS kind l = true) :
    PureRun Try.prog 76 [.sc (.int .i64 op), .sc (.int .i64 kind), vsV l] (.agg (vrow (reduceS op kind l))) := by
  refine PureRun.mkI cF76 (Nat.le_of_ble_eq_true rfl) ?_
  have e0 := vsR_len l
  have hva := (validS_iff kind l).1 hv
  by_cases hs : op = 1 ∧ kind = 2
  · obtain ⟨rfl, rfl⟩ := hs
    refine walkX ?_
    refine AWP.loop (fun i : Nat => [(2, vsV l), (6, .ptr 0 0 0 0), (7, .ptr 1 0 0 0), (8, .sc (.int .i64 (i : Int)))]) (fun i => [[.cells 2 [vR 0 0]], [.cells 6 [((l.take i).foldl (fun a v => (mergedR a (oneRs v.1)).2) r0).row]]]) (fun i => i ≤ l.length) (fun i => l.length - i) 0 (Nat.zero_le _) ?_ ?_
    · show Sub _ _ _ _ _ [[.cells 2 [vR 0 0]], [.cells 6 [r0.row]]]
      exact Sub.wx [] [[(0,0)],[(1,0)]]
    intro i hi
    refine walkX ?_
    rw [e0]
    refine AWP.condD rfl (fun h => ?_) (fun h => ?_)
    · have hr : rowIx (vsR l) (i : Int) = some (vR l[i].1 l[i].2) := vsR_ix l i h
      have hv := hb l[i] (List.getElem_mem h)
      have hf := foldl_take (fun a (v : Vl) => (mergedR a (oneRs v.1)).2) r0 l i h
      have hrel := rel_all (l.take i) (fun v hv => hb v (List.mem_of_mem_take hv))
      generalize l[i] = v at *
      generalize (l.take i).foldl (fun a v => (mergedR a (oneRs v.1)).2) r0 = s at *
      refine walkX ?_
      refine Reg.c (Nat.zero_le _) rfl ((radd_at (a := s) (g := 1) (i := 0) (b := v.1) rfl hrel.nb hv).mono ?_)
      rintro res H' ⟨rfl, rfl⟩
      refine walkX ?_
      refine ⟨i + 1, by omega, by omega, ?_⟩
      rw [hf]
      exact Sub.w [] [[(0,0)],[(1,0)]]
    · have hi : i = l.length := by omega
      subst hi
      have hrel := rel_all l hb
      rw [List.take_of_length_le (Nat.le_refl _)]
      have e : reduceS 1 2 l = ((sumAll l).value, 0) := by
        cases l with
        | nil => exact absurd rfl h0
        | cons v r => rw [reduceS_cons, if_pos ⟨rfl, rfl⟩]
      rw [e, rvalue_rel hrel]
      generalize l.foldl (fun a v => (mergedR a (oneRs v.1)).2) r0 = s at *
      unfold vrow
      refine walkX ?_
      refine Reg.c (Nat.zero_le _) rfl ((rlook_at (a := s) (g := 1) (i := 0) rfl hrel.nb).mono ?_)
      rintro res H' ⟨rfl, rfl⟩
      refine walkX ?_
      exact EndP.w
  · obtain ⟨v, r, rfl⟩ : ∃ v r, l = v :: r := by
      cases l with
      | nil => exact absurd rfl h0
      | cons v r => exact ⟨v, r, rfl⟩
    have hbv := hb v (List.mem_cons_self ..)
    have hbr : ∀ u ∈ r, u.1 < 18446744073709551616 := fun u hu => hb u (List.mem_cons_of_mem _ hu)
    have hvv := hva v (List.mem_cons_self ..)
    have hvr : ∀ u ∈ r, validS kind [u] = true := fun u hu => hva u (List.mem_cons_of_mem _ hu)
    have hst : (start op kind v).1 < 18446744073709551616 ∧ validS kind [start op kind v] = true := by
      unfold start
      split
      · exact fold_inv hc [v] v hbv (by simpa using hbv) hvv (by simpa using hvv)
      · exact ⟨hbv, hvv⟩
    rw [reduceS_cons, if_neg hs]
    have x0 : rowIx (vsR (v :: r)) 0 = some (vR v.1 v.2) := rfl
    have h55 := risnan_ok hbv
    rw [and_abs] at h55
    have hstart : start op kind v = if kind = 2 ∧ infN < v.1 % 9223372036854775808 then (nanN, v.2) else v := by
      unfold start
      by_cases hk : kind = 2
      · subst hk
        have ho : op = 3 ∨ op = 4 := by
          have := check_op hc
          have hr : ¬ (op < 1 ∨ 11 < op ∨ (2 : Int) < 1 ∨ (3 : Int) < 2) := fun h => by unfold checkE at hc; rw [if_pos h] at hc; cases hc
          rw [opNil_iff (by omega) (by omega) (by omega) (by omega)] at this
          simp at this
          omega
        have hz : v.2 = 0 := by simpa [validS] using hvv
        rw [if_pos rfl, start_real ho]
        by_cases hq : infN < v.1 % 9223372036854775808
        · rw [if_pos hq, if_pos ⟨rfl, hq⟩, hz]
        · rw [if_neg hq, if_neg (fun h => hq h.2)]
      · rw [if_neg hk, if_neg (fun h => hk h.1)]
    by_cases hk : kind = 2
    · subst hk
      have ho : op ≠ 1 := fun h => hs ⟨h, rfl⟩
      refine walkX ?_
      rw [show (op == 1) = false from by simpa using ho]
      refine walkX ?_
      refine AWP.condD rfl (fun hq => ?_) (fun hq => ?_)
      · rw [if_pos ⟨rfl, hq⟩] at hstart
        refine AWP.region ?_
        refine walkR ?_
        refine AWP.sub ?_ (rfold_loop op 2 v r (by simpa using hl) hbr hc hvr (start op 2 v) hst.1 hst.2)
        rw [hstart]
        exact Sub.w [] [[(0,0)],[(1,0)]]
      · rw [if_neg (fun h => hq h.2)] at hstart
        refine AWP.skip ?_
        refine AWP.sub ?_ (rfold_loop op 2 v r (by simpa using hl) hbr hc hvr (start op 2 v) hst.1 hst.2)
        rw [hstart]
        exact Sub.w [] [[(0,0)],[(1,0)]]
    · rw [if_neg (fun h => hk h.1)] at hstart
      refine walkX ?_
      rw [show (kind == 2) = false from by simpa using hk]
      refine walkX ?_
      rw [show (kind == 2) = false from by simpa using hk]
      refine walkR ?_
      refine AWP.condF rfl ?_
      refine AWP.skip ?_
      refine AWP.sub ?_ (rfold_loop op kind v r (by simpa using hl) hbr hc hvr (start op kind v) hst.1 hst.2)
      rw [hstart]
      exact Sub.w [] [[(0,0)],[(1,0)]]

end Go.Proofs.Ytnngbbiajioghaa
namespace Go.Proofs.Ytnngbbiajioghaa
open Go.Av Go.Proofs
set_option exponentiation.threshold 4000
set_option maxRecDepth 20000

/-! The document's Reduce, Scan, Reduces. -/

set_option maxHeartbeats 1000000 in
theorem rred_ok (op kind : Int) (l : List Vl) (hl : l.length ≤ 1000000) (hb : ∀ v ∈ l, v.1 < 18446744073709551616) :
    PureRun Try.prog 45 [.sc (.int .i64 op), .sc (.int .i64 kind), vsV l] (.tup [.agg (vrow (redS op kind l).1), .sc (.int .i64 (redS op kind l).2)]) := by
  refine PureRun.mkI cF45 (Nat.le_of_ble_eq_true rfl) ?_
  have hc := rcheck_ok op kind
  have hv := rall_ok kind l hl
  have e0 := vsR_len l
  unfold redS
  refine walkX ?_
  refine AWP.cond rfl (fun h => ?_) (fun h => ?_)
  · have h : checkE op kind ≠ 0 := by simpa using h
    rw [if_pos h]
    refine walkX ?_
    exact EndP.w
  have h : checkE op kind = 0 := by simpa using h
  rw [if_neg (by omega)]
  cases hll : l with
  | nil =>
    rw [if_pos (.inl rfl)]
    refine walkX ?_
    exact EndP.w
  | cons v r =>
    rw [← hll]
    have h0 : l ≠ [] := by rw [hll]; simp
    have hne : decide (l.length = 0) = false := by rw [hll]; rfl
    cases hq : validS kind l with
    | false =>
      rw [if_pos (.inr rfl)]
      rw [hq] at hv
      refine walkX ?_
      rw [e0, hne]
      refine walkX ?_
      exact EndP.w
    | true =>
      rw [if_neg (by simp [h0])]
      rw [hq] at hv
      have hf := rfold_ok op kind l h0 hl hb h hq
      generalize reduceS op kind l = w at *
      unfold vrow at *
      refine walkX ?_
      rw [e0, hne]
      refine walkX ?_
      exact EndP.w

set_option maxHeartbeats 1000000 in
theorem rscan_ok (op kind : Int) (l : List Vl) (hl : l.length ≤ 1000000) (hb : ∀ v ∈ l, v.1 < 18446744073709551616) :
    PureRun Try.prog 47 [.sc (.int .i64 op), .sc (.int .i64 kind), vsV l] (.tup [vsV (scanS op kind l).1, .sc (.int .i64 (scanS op kind l).2)]) := by
  refine PureRun.mkI cF47 (Nat.le_of_ble_eq_true rfl) ?_
  have hc := rcheck_ok op kind
  have hv := rall_ok kind l hl
  have e0 := vsR_len l
  unfold scanS
  refine walkX ?_
  refine AWP.cond rfl (fun h => ?_) (fun h => ?_)
  · have h : checkE op kind ≠ 0 := by simpa using h
    rw [if_pos h]
    refine walkX ?_
    exact EndP.w
  have h : checkE op kind = 0 := by simpa using h
  rw [if_neg (by omega)]
  cases hq : validS kind l with
  | false =>
    rw [if_pos rfl]
    rw [hq] at hv
    refine walkX ?_
    exact EndP.w
  | true =>
    rw [if_neg (by simp)]
    rw [hq] at hv
    have hva := (validS_iff kind l).1 hq
    refine walkX ?_
    refine AWP.loop (fun i : Nat => [(0, .sc (.int .i64 op)), (1, .sc (.int .i64 kind)), (2, vsV l), (9, .hsl 0 0 0 i), (10, .sc (.int .i64 (i : Int)))]) (fun i => [[.cells 2 (vsR ((scanL op kind l).take i))]]) (fun i => i ≤ l.length) (fun i => l.length - i) 0 (Nat.zero_le _) ?_ ?_
    · exact Sub.w [2] [[(0,0)]]
    intro i hi
    have hsl : (scanL op kind l).length = l.length := by simp [scanL]
    have ei : (vsR ((scanL op kind l).take i)).length = i := by rw [vsR_len, List.length_take, hsl]; omega
    refine walkX ?_
    rw [e0]
    refine AWP.condD rfl (fun h1 => ?_) (fun h1 => ?_)
    · have hne := take_ne h1
      have hf := rfold_ok op kind (l.take (i + 1)) hne (by rw [List.length_take]; omega) (fun v hv => hb v (List.mem_of_mem_take hv)) h ((validS_iff _ _).2 fun v hv => hva v (List.mem_of_mem_take hv))
      have ht : (scanL op kind l).take (i + 1) = (scanL op kind l).take i ++ [reduceS op kind (l.take (i + 1))] := by
        rw [List.take_succ_eq_append_getElem (by rw [hsl]; exact h1)]
        simp [scanL]
      have hvt : vsV (l.take (i + 1)) = .list 2 ((vsR l).take (i + 1)) := by unfold vsV vsR; rw [List.map_take]
      generalize reduceS op kind (l.take (i + 1)) = w at *
      rw [hvt] at hf
      refine walkX ?_
      refine Reg.o rfl (dstep_sl1 (rows := vsR l) (l := 0) (h := i + 1) rfl (sb_to rfl (by rw [e0]; omega))) ?_
      rw [List.drop_zero, Nat.sub_zero]
      unfold vrow at *
      refine walkX ?_
      refine ⟨i + 1, by omega, by omega, ?_⟩
      rw [ht, show ∀ (L : List Vl), vsR (L ++ [w]) = vsR L ++ [vrow w] from fun L => by simp [vsR]]
      exact Sub.w [] [[(2,0)]]
    · have hi : i = l.length := by omega
      subst hi
      rw [List.take_of_length_le (by omega)] at *
      refine walkX ?_
      exact EndP.w

set_option maxHeartbeats 2000000 in
theorem rreds_ok (op kind : Int) (rows : List (List Vl)) (hl : rows.length ≤ 1000000) (hr : ∀ r ∈ rows, r.length ≤ 1000000) (hb : ∀ r ∈ rows, ∀ v ∈ r, v.1 < 18446744073709551616) :
    PureRun Try.prog 43 [.sc (.int .i64 op), .sc (.int .i64 kind), rwV rows] (.tup [vsV (redsS op kind rows).1, .sc (.int .i64 (redsS op kind rows).2)]) := by
  refine PureRun.mkI cF43 (Nat.le_of_ble_eq_true rfl) ?_
  have hc := rcheck_ok op kind
  have e0 := rwR_len rows
  unfold redsS
  refine walkX ?_
  refine AWP.cond rfl (fun h => ?_) (fun h => ?_)
  · have h : checkE op kind ≠ 0 := by simpa using h
    rw [if_pos h]
    refine walkX ?_
    exact EndP.w
  have h : checkE op kind = 0 := by simpa using h
  rw [if_neg (by omega)]
  refine walkX ?_
  rw [e0]
  refine AWP.condN (rows = []) rfl (by rw [Bool.eq_iff_iff]; simp) (fun g => ?_) (fun g => ?_)
  · rw [if_pos g]
    refine walkX ?_
    exact EndP.w
  rw [if_neg g]
  cases hrows : rows with
  | nil => exact absurd hrows g
  | cons r0 rs =>
  rw [← hrows]
  have hx0 : rowIx (rwR rows) 0 = some [vsV r0] := by rw [hrows]; rfl
  have hh : rows.headD [] = r0 := by rw [hrows]; rfl
  have hr0 : r0.length ≤ 1000000 := hr r0 (by rw [hrows]; exact List.mem_cons_self ..)
  have el0 := vsR_len r0
  rw [hh]
  refine walkX ?_
  refine AWP.loop (fun k : Nat => [(0, .sc (.int .i64 op)), (1, .sc (.int .i64 kind)), (2, rwV rows), (9, .sc (.int .i64 (k : Int)))]) (fun _ => [])
    (fun k => k ≤ rows.length ∧ ((rows.take k).all fun r => decide (r.length = r0.length)) = true) (fun k => rows.length - k) 0 ⟨Nat.zero_le _, rfl⟩ ?_ ?_
  · exact Sub.w [] []
  rintro k ⟨hk, hall⟩
  refine walkX ?_
  rw [e0]
  refine AWP.condD rfl (fun g1 => ?_) (fun g1 => ?_)
  · have hx := rwR_ix rows k g1
    have hm := all_take (p := fun r => decide (r.length = r0.length)) g1 hall
    have hf := all_false (p := fun r => decide (r.length = r0.length)) (l := rows) (k := k) g1
    have el := vsR_len rows[k]
    generalize rows[k] = r at hx hm hf el
    refine walkX ?_
    refine DK.nil ⟨by kernel_rfl, ?_⟩
    rw [el, el0]
    refine AWP.condDn rfl (fun g2 => ?_) (fun g2 => ?_)
    · rw [if_pos (hf (decide_eq_false g2))]
      refine walkX ?_
      exact EndP.w
    · refine walkX ?_
      refine ⟨k + 1, ⟨by omega, hm (decide_eq_true g2)⟩, by omega, ?_⟩
      exact Sub.w [] []
  have hkl : k = rows.length := by omega
  subst hkl
  rw [List.take_of_length_le (Nat.le_refl _)] at hall
  rw [if_neg (by rw [hall]; simp)]
  refine walkX ?_
  refine AWP.loop (fun k : Nat => [(0, .sc (.int .i64 op)), (1, .sc (.int .i64 kind)), (2, rwV rows), (10, .sc (.int .i64 (k : Int)))]) (fun _ => [])
    (fun k => k ≤ rows.length ∧ ((rows.take k).all fun r => validS kind r) = true) (fun k => rows.length - k) 0 ⟨Nat.zero_le _, rfl⟩ ?_ ?_
  · exact Sub.w [] []
  rintro k ⟨hk, hval⟩
  refine walkX ?_
  rw [e0]
  refine AWP.condD rfl (fun g1 => ?_) (fun g1 => ?_)
  · have hx := rwR_ix rows k g1
    have hm := all_take (p := fun r => validS kind r) g1 hval
    have hf := all_false (p := fun r => validS kind r) (l := rows) (k := k) g1
    have hv := rall_ok kind rows[k] (hr _ (List.getElem_mem g1))
    generalize rows[k] = r at hx hm hf hv
    generalize hvq : validS kind r = q at hv hm hf
    refine walkX ?_
    cases q with
    | false =>
      rw [if_pos (hf rfl)]
      refine walkX ?_
      exact EndP.w
    | true =>
      refine walkX ?_
      refine ⟨k + 1, ⟨by omega, hm rfl⟩, by omega, ?_⟩
      exact Sub.w [] []
  have hkl : k = rows.length := by omega
  subst hkl
  rw [List.take_of_length_le (Nat.le_refl _)] at hval
  rw [if_neg (by rw [hval]; simp)]
  have hlen : ∀ r ∈ rows, r.length = r0.length := fun r hr => of_decide_eq_true (List.all_eq_true.1 hall r hr)
  have hL : redsL op kind rows = (List.range r0.length).map fun c => reduceS op kind (col rows c) := by rw [hrows]; rfl
  have hLl : (redsL op kind rows).length = r0.length := by rw [hL]; simp
  refine walkX ?_
  refine AWP.loop (fun c : Nat => [(0, .sc (.int .i64 op)), (1, .sc (.int .i64 kind)), (2, rwV rows), (11, .hsl 0 0 0 c), (12, .sc (.int .i64 (c : Int)))]) (fun c => [[.cells 2 (vsR ((redsL op kind rows).take c))]]) (fun c => c ≤ r0.length) (fun c => r0.length - c) 0 (Nat.zero_le _) ?_ ?_
  · exact Sub.w [2] [[(0,0)]]
  intro c hc1
  have ec : (vsR ((redsL op kind rows).take c)).length = c := by rw [vsR_len, List.length_take, hLl]; omega
  refine walkX ?_
  rw [el0]
  refine AWP.condD rfl (fun g1 => ?_) (fun g1 => ?_)
  · have hclen : (col rows c).length = rows.length := by simp [col]
    have hcv : ∀ v ∈ col rows c, v.1 < 18446744073709551616 ∧ validS kind [v] = true := fun v hv => by
      obtain ⟨r, hr1, rfl⟩ := List.mem_map.1 hv
      have hcl : c < r.length := by rw [hlen r hr1]; exact g1
      rw [getD_get hcl]
      exact ⟨hb r hr1 _ (List.getElem_mem hcl), (validS_iff kind r).1 (List.all_eq_true.1 hval r hr1) _ (List.getElem_mem hcl)⟩
    have hred := rfold_ok op kind (col rows c) (fun e => g (by rw [e] at hclen; exact List.length_eq_zero_iff.1 hclen.symm)) (by omega) (fun v hv => (hcv v hv).1) h ((validS_iff _ _).2 fun v hv => (hcv v hv).2)
    have hout : (redsL op kind rows).take (c + 1) = (redsL op kind rows).take c ++ [reduceS op kind (col rows c)] := by
      rw [List.take_succ_eq_append_getElem (by rw [hLl]; exact g1)]
      simp [hL]
    generalize hS : vsR ((redsL op kind rows).take c) = S at *
    have hpS : PRs S := by rw [← hS]; infer_instance
    refine walkX ?_
    refine AWP.loop (fun k : Nat => [(0, .sc (.int .i64 op)), (1, .sc (.int .i64 kind)), (2, rwV rows), (11, .hsl 0 0 0 c), (12, .sc (.int .i64 (c : Int))), (13, .hsl 1 0 0 k), (14, .sc (.int .i64 (k : Int)))])
      (fun k => [[.cells 2 S], [.cells 2 (vsR ((col rows c).take k))]]) (fun k => k ≤ rows.length) (fun k => rows.length - k) 0 (Nat.zero_le _) ?_ ?_
    · exact Sub.w [2] [[(0,0)],[(1,0)]]
    intro k hk
    have ek : (vsR ((col rows c).take k)).length = k := by rw [vsR_len, List.length_take]; omega
    refine walkX ?_
    rw [e0]
    refine AWP.condD rfl (fun g2 => ?_) (fun g2 => ?_)
    · have hx := rwR_ix rows k g2
      have hcl : c < rows[k].length := by rw [hlen _ (List.getElem_mem g2)]; exact g1
      have hy : rowIx (vsR rows[k]) (c : Int) = some (vrow (rows[k].getD c (0, 0))) := by rw [vsR_ix _ _ hcl, getD_get hcl]
      have ht : vsR ((col rows c).take (k + 1)) = vsR ((col rows c).take k) ++ [vrow (rows[k].getD c (0, 0))] := by
        have hk2 : k < (col rows c).length := by omega
        rw [List.take_succ_eq_append_getElem hk2]
        simp [vsR, col]
      generalize rows[k].getD c (0, 0) = v at hy ht
      generalize rows[k] = r at hx hy
      refine walkX ?_
      refine ⟨k + 1, by omega, by omega, ?_⟩
      rw [ht]
      exact Sub.w [] [[(0,0)],[(3,0)]]
    · have hk2 : k = rows.length := by omega
      rw [hk2, List.take_of_length_le (by omega)]
      have hclen2 : (vsR (col rows c)).length = rows.length := by rw [vsR_len, hclen]
      generalize reduceS op kind (col rows c) = o at *
      refine walkX ?_
      have hpl : Plain (.agg (vrow o)) := .agg _ (fun c hc => by simp [vrow, vR] at hc; rcases hc with rfl | rfl <;> exact .sc _)
      (refine Reg.pv (by first | exact Nat.zero_le _ | exact Nat.le_refl _ | (simp; done) | (simp; omega)) rfl hred (by first | exact .sc _ | (exact .agg _ (fun c hc => by simp at hc; rcases hc with h | h <;> subst h <;> exact .sc _)) | assumption) ?vw9 ?_; case vw9 => (all_goals (repeat' (first | exact ToAll.nil | exact famsTo.nil | exact famTo.nil | exact ToL.nil | exact ToR.nil | refine ToAll.cons ?_ ?_ | refine famsTo.cons ?_ ?_ | refine wt10 ?_ ?_ | exact To.undef _ | exact To.sc _ | exact To.hslL rfl rfl | exact To.ptrO rfl rfl rfl | exact To.mrefO rfl | exact To.nil rfl rfl rfl | exact wt1 | exact To.nilL | refine To.int ?_ | refine To.bool ?_ | refine To.hslL rfl ?_ | refine wt2 rfl ?_ ?_ ?_ | refine To.tupL ?_ | refine To.aggL ?_ | refine To.cptrL ?_ | refine wt3 ?_ | refine wt4 ?_ | refine To.cloL ?_ ?_ | exact wt5 | refine wt6 ?_ | refine ToB.one ?_ | exact wt7 | ((with_reducible apply ToL.consE); case e9 => rfl) | refine wt8 ?_ | refine ToL.cons ?_ ?_ | exact wt11 | refine wt9 ?_ ?_ | refine wt12 ?_ | (with_reducible rfl) | assumption)); all_goals (first | rfl | assumption | (simp; done) | (simp; omega))))
      refine walkX ?_
      refine ⟨c + 1, by omega, by omega, ?_⟩
      rw [hout, show ∀ (L : List Vl), vsR (L ++ [o]) = vsR L ++ [vrow o] from fun L => by simp [vsR], hS]
      exact Sub.w [] [[(3,0)]]
  · have hcl : c = r0.length := by omega
    subst hcl
    rw [List.take_of_length_le (by omega)] at *
    refine walkX ?_
    exact EndP.w

end Go.Proofs.Ytnngbbiajioghaa
