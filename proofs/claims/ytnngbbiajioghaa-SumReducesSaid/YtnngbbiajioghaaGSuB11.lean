import Derived.Test.YtnngbbiajioghaaGSuB10
import Derived.Test.YtnngbbiajioghaaGSuW2
import Derived.Test.YtnngbbiajioghaaGSuL11
namespace Go.Proofs.Ytnngbbiajioghaa
open Go.Av Go.Proofs
set_option exponentiation.threshold 4000
set_option maxRecDepth 20000

/-! The law SumReduces. -/
theorem neI2 (e : Int) : (e != e) = false := by simp
theorem eqI2 (e : Int) : (e == e) = true := by simp
theorem eqV2 (v : Nat) (p : Int) : (false != (decide ((v : Int) = v) && (decide (p = p) && true))) = true := by simp

set_option maxHeartbeats 4000000 in
theorem sumReduces_ok (op kind : Int) (rows : List (List Vl)) (hb : ∀ r ∈ rows, ∀ v ∈ r, v.1 < 18446744073709551616) : PureRun Try.prog 11 [.sc (.int .i64 op), .sc (.int .i64 kind), rwV rows] (.sc (.bool true)) := by
  refine PureRun.mkI cF11 (Nat.le_of_ble_eq_true rfl) ?_
  have hw := works_ok
  have e0 := rwR_len rows
  refine walkX ?_
  rw [e0]
  refine AWP.condD rfl (fun h => ?_) (fun h10 => ?_)
  · refine walkX ?_
    exact EndP.w
  refine walkX ?_
  refine AWP.loop (fun k : Nat => [(0, .sc (.int .i64 op)), (1, .sc (.int .i64 kind)), (2, rwV rows), (7, .sc (.int .i64 (k : Int)))]) (fun _ => []) (fun k => k ≤ rows.length ∧ ∀ r ∈ rows.take k, r.length ≤ 20) (fun k => rows.length - k) 0 ⟨Nat.zero_le _, fun r h => by simp at h⟩ ?_ ?_
  · exact Sub.w [] []
  rintro k ⟨hk, hall⟩
  refine walkX ?_
  rw [e0]
  refine AWP.condD rfl (fun g1 => ?_) (fun g1 => ?_)
  · have hx := rwR_ix rows k g1
    have ht : rows.take (k + 1) = rows.take k ++ [rows[k]] := List.take_succ_eq_append_getElem g1
    have el := vsR_len rows[k]
    generalize rows[k] = r at *
    refine walkX ?_
    rw [el]
    refine AWP.condD rfl (fun g2 => ?_) (fun g2 => ?_)
    · refine walkX ?_
      exact EndP.w
    · refine walkX ?_
      refine ⟨k + 1, ⟨by omega, fun u hu => ?_⟩, by omega, ?_⟩
      · rw [ht, List.mem_append, List.mem_singleton] at hu
        rcases hu with hu | rfl
        · exact hall u hu
        · omega
      · exact Sub.w [] []
  have hkl : k = rows.length := by omega
  subst hkl
  rw [List.take_of_length_le (Nat.le_refl _)] at hall
  have h1 := reds_ok op kind rows (by omega) (fun r hr => by have := hall r hr; omega) hb
  have h2 := rreds_ok op kind rows (by omega) (fun r hr => by have := hall r hr; omega) hb
  have hrow : (rows.headD []).length ≤ 20 ∧ ∀ v ∈ rows.headD [], v.1 < 18446744073709551616 := by
    cases rows with
    | nil => exact ⟨Nat.zero_le _, fun v hv => by cases hv⟩
    | cons r rs => exact ⟨hall r (List.mem_cons_self ..), hb r (List.mem_cons_self ..)⟩
  have h3 := red_ok op kind (rows.headD []) (by omega) hrow.2
  have h4 := rred_ok op kind (rows.headD []) (by omega) hrow.2
  have h5 := scan_ok op kind (rows.headD []) (by omega) hrow.2
  have h6 := rscan_ok op kind (rows.headD []) (by omega) hrow.2
  have l1 : (redsS op kind rows).1.length ≤ 1000000 := by
    unfold redsS
    split
    · exact Nat.zero_le _
    · split
      · exact Nat.zero_le _
      · split
        · exact Nat.zero_le _
        · split
          · exact Nat.zero_le _
          · show (redsL op kind rows).length ≤ _
            cases rows with
            | nil => exact Nat.zero_le _
            | cons r rs =>
              have := hall r (List.mem_cons_self ..)
              simp [redsL]
              omega
  have l2 : (scanS op kind (rows.headD [])).1.length ≤ 1000000 := by
    unfold scanS
    split
    · exact Nat.zero_le _
    · split
      · exact Nat.zero_le _
      · show (scanL op kind (rows.headD [])).length ≤ _
        rw [show ∀ L : List Vl, (scanL op kind L).length = L.length from fun L => by simp [scanL]]
        omega
  have s1 := same_ok (redsS op kind rows).1 (redsS op kind rows).1 l1
  have s2 := same_ok (scanS op kind (rows.headD [])).1 (scanS op kind (rows.headD [])).1 l2
  rw [decide_eq_true (rfl : (redsS op kind rows).1 = (redsS op kind rows).1)] at s1
  rw [decide_eq_true (rfl : (scanS op kind (rows.headD [])).1 = (scanS op kind (rows.headD [])).1)] at s2
  generalize redsS op kind rows = q1 at *
  generalize redS op kind (rows.headD []) = q2 at *
  generalize scanS op kind (rows.headD []) = q3 at *
  obtain ⟨L1, c1⟩ := q1
  obtain ⟨⟨v2, p2⟩, c2⟩ := q2
  obtain ⟨L3, c3⟩ := q3
  change PureRun Try.prog 31 [_, _, _] (.tup [.agg (vR v2 p2), .sc (.int .i64 c2)]) at h3
  change PureRun Try.prog 45 [_, _, _] (.tup [.agg (vR v2 p2), .sc (.int .i64 c2)]) at h4
  simp only at h1 h2 h5 h6 s1 s2
  refine walkX ?_
  rw [neI2]
  refine walkX ?_
  rw [e0]
  refine AWP.joinT0 [(0, .sc (.int .i64 op)), (1, .sc (.int .i64 kind)), (12, vsV (rows.headD []))] [] ?_ ?_
  · cases rows with
    | nil =>
      refine walkX ?_
      exact Sub.w [] []
    | cons r rs =>
      have x0 : rowIx (rwR (r :: rs)) 0 = some [vsV r] := rfl
      rw [show decide (0 < (r :: rs).length) = true from rfl]
      refine walkX ?_
      exact Sub.w [] []
  generalize rows.headD [] = R0 at *
  refine walkX ?_
  rw [eqV2]
  refine walkX ?_
  rw [eqI2]
  refine walkX ?_
  rw [eqI2]
  refine walkX ?_
  exact EndP.w

end Go.Proofs.Ytnngbbiajioghaa
