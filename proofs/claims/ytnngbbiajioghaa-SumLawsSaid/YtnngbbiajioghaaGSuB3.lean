import Derived.Test.YtnngbbiajioghaaGSuP2
import Derived.Test.YtnngbbiajioghaaGSuW2
import Derived.Test.YtnngbbiajioghaaGSuL5
namespace Go.Proofs.Ytnngbbiajioghaa
open Go.Av Go.Proofs
set_option exponentiation.threshold 4000
set_option maxRecDepth 20000

/-! The law SumLaws. -/
theorem dstep_eqVn {g i : Nat} {fr : Fr} {H : Heap} {x y : Operand} {v : Nat} {p : Int} {neg : Bool} (hx : ev fr x = .agg (vR v p)) (hy : ev fr y = .agg (vR v p)) :
    dstep g i (.xop (.eqAgg neg [.i, .i]) [x, y]) fr H = some (.sc (.bool (!neg)), H) := by
  simp only [dstep, avals, List.map_cons, List.map_nil, hx, hy, xstep, xpure]
  rw [show flatOf (AV.agg (vR v p)) = some [.int .u64 v, .int .i64 p] from rfl]
  cases neg <;> simp [cellsEq, leafEq]
theorem dstep_eqI' {g i : Nat} {fr : Fr} {H : Heap} {t : TypeId} {x y : Operand} {k : IntKind} {e : Int} (hx : ev fr x = .sc (.int k e)) (hy : ev fr y = .sc (.int k e)) :
    dstep g i (.bin .eql t x y) fr H = some (.sc (.bool true), H) := by
  simp only [dstep, hx, hy]
  rw [show Sem.pure? (do eqGuard BinOp.eql t x y (Value.int k e) (Value.int k e); binOp BinOp.eql t (Value.int k e) (Value.int k e)) = some (.bool (decide (e = e))) from by cases k <;> rfl]
  simp


def lawRest : ICode := match F5.code with
  | .seq _ (.seq _ c) => c
  | _ => .skip

set_option maxHeartbeats 4000000 in
theorem sumLaws_rest (op kind : Int) (a b c : Nat) (pa pb pc : Int) (ha : a < 18446744073709551616) (hb : b < 18446744073709551616) (hc : c < 18446744073709551616) (hp : kind ≠ 3 → pa = 0 ∧ pb = 0 ∧ pc = 0) :
    AWP Try.prog F5.n 0 lawRest (EndP F5.res (.sc (.bool true)))
      [(0, .sc (.int .i64 op)), (1, .sc (.int .i64 kind)), (7, .ptr 0 0 0 0), (8, .ptr 1 0 0 0), (9, .ptr 2 0 0 0)] [[.cells 2 [vR a pa]], [.cells 2 [vR b pb]], [.cells 2 [vR c pc]]] := by
  have h0 := check_ok op kind
  have hw := works_ok
  unfold lawRest
  unfold F5
  simp only
  refine walkX0 ?_
  by_cases hk : checkE op kind = 0
  · have ca := opR_comm hk (a := (a, pa)) (b := (b, pb)) ha hb (fun h => (hp h).1) (fun h => (hp h).2.1)
    have d1 := do_ok op kind (a, pa) (b, pb) ha hb
    have d2 := do_ok op kind (b, pb) (a, pa) hb ha
    have d3 := do_ok op kind (b, pb) (c, pc) hb hc
    rw [doS_good hk (fun h => (hp h).1) (fun h => (hp h).2.1)] at d1
    rw [doS_good hk (fun h => (hp h).2.1) (fun h => (hp h).1), ← ca] at d2
    rw [doS_good hk (fun h => (hp h).2.1) (fun h => (hp h).2.2)] at d3
    have l1 := opR_lt (op := op) (kind := kind) (a := (a, pa)) (b := (b, pb)) ha hb
    have l3 := opR_lt (op := op) (kind := kind) (a := (b, pb)) (b := (c, pc)) hb hc
    have p1 := opR_place' hk (a := (a, pa)) (b := (b, pb)) (fun h => (hp h).1) (fun h => (hp h).2.1)
    have p3 := opR_place' hk (a := (b, pb)) (b := (c, pc)) (fun h => (hp h).2.1) (fun h => (hp h).2.2)
    have hass := fun h => opR_assoc (op := op) (kind := kind) hk h (a := (a, pa)) (b := (b, pb)) (c := (c, pc))
    have d4 := do_ok op kind (opR op kind (a, pa) (b, pb)) (c, pc) l1 hc
    have d5 := do_ok op kind (a, pa) (opR op kind (b, pb) (c, pc)) ha l3
    rw [doS_good hk p1 (fun h => (hp h).2.2)] at d4
    rw [doS_good hk (fun h => (hp h).1) p3] at d5
    clear ca l1 l3 p1 p3
    rw [hk] at h0 ⊢
    generalize opR op kind (a, pa) (b, pb) = r1 at *
    generalize opR op kind (b, pb) (c, pc) = r3 at *
    generalize opR op kind r1 (c, pc) = r4 at *
    generalize opR op kind (a, pa) r3 = r5 at *
    obtain ⟨v1, q1⟩ := r1
    obtain ⟨v3, q3⟩ := r3
    obtain ⟨v4, q4⟩ := r4
    obtain ⟨v5, q5⟩ := r5
    change PureRun Try.prog 14 [_, _, .agg (vR a pa), .agg (vR b pb)] (.tup [.agg (vR v1 q1), .sc (.int .i64 0)]) at d1
    change PureRun Try.prog 14 [_, _, .agg (vR b pb), .agg (vR a pa)] (.tup [.agg (vR v1 q1), .sc (.int .i64 0)]) at d2
    change PureRun Try.prog 14 [_, _, .agg (vR b pb), .agg (vR c pc)] (.tup [.agg (vR v3 q3), .sc (.int .i64 0)]) at d3
    change PureRun Try.prog 14 [_, _, .agg (vR v1 q1), .agg (vR c pc)] (.tup [.agg (vR v4 q4), .sc (.int .i64 0)]) at d4
    change PureRun Try.prog 14 [_, _, .agg (vR a pa), .agg (vR v3 q3)] (.tup [.agg (vR v5 q5), .sc (.int .i64 0)]) at d5
    refine walkX0 ?_
    rw [show (true != (decide ((v1 : Int) = v1) && (decide (q1 = q1) && true))) = false from by simp]
    refine walkX0 ?_
    have go : ∀ x : Bool, (op == 1) = x → (x && (kind == 2)) = (op == 1 && kind == 2) := fun x e => by rw [e]
    by_cases e1 : op = 1 ∧ kind = 2
    · obtain ⟨rfl, rfl⟩ := e1
      refine walkX0 ?_
      exact EndP.w
    · obtain hass := hass e1
      injection hass with h4 h5
      subst h4; subst h5
      by_cases e2 : op = 1
      · subst e2
        rw [show ((1 : Int) == 1) = true from rfl]
        refine walkX0 ?_
        rw [show (kind == 2) = false from by simp; intro e; exact e1 ⟨rfl, e⟩]
        refine walkX0 ?_
        rw [show (false != (decide ((v4 : Int) = v4) && (decide (q4 = q4) && true))) = true from by simp]
        refine walkX0 ?_
        exact EndP.w
      · rw [show (op == 1) = false from by simpa using e2]
        refine walkX0 ?_
        rw [show (false != (decide ((v4 : Int) = v4) && (decide (q4 = q4) && true))) = true from by simp]
        refine walkX0 ?_
        exact EndP.w
  · have d1 := do_ok op kind (a, pa) (b, pb) ha hb
    have e : doS op kind (a, pa) (b, pb) = ((0, 0), checkE op kind) := by unfold doS; rw [if_pos hk]
    rw [e] at d1
    change PureRun Try.prog 14 [_, _, .agg (vR a pa), .agg (vR b pb)] (.tup [.agg (vR 0 0), .sc (.int .i64 (checkE op kind))]) at d1
    generalize checkE op kind = ce at *
    clear e
    refine AWP.cond rfl (fun _ => ?_) (fun h => absurd (by simpa using h) hk)
    refine walkX0 ?_
    rw [show (ce == ce) = true from by simp]
    refine walkX0 ?_
    exact EndP.w

set_option maxHeartbeats 4000000 in
theorem sumLaws_ok (op kind : Int) (a b c : Nat) (pa pb pc : Int) (ha : a < 18446744073709551616) (hb : b < 18446744073709551616) (hc : c < 18446744073709551616) :
    PureRun Try.prog 5 [.sc (.int .i64 op), .sc (.int .i64 kind), .agg (vR a pa), .agg (vR b pb), .agg (vR c pc)] (.sc (.bool true)) := by
  refine PureRun.mkI cF5 (Nat.le_of_ble_eq_true rfl) ?_
  refine walkX0 ?_
  by_cases hk : kind = 3
  · subst hk
    refine AWP.cond rfl (fun h => absurd h (by simp)) (fun _ => ?_)
    refine AWP.skip ?_
    refine AWP.sub ?_ (sumLaws_rest op 3 a b c pa pb pc ha hb hc (fun h => absurd rfl h))
    exact Sub.w [] [[(0,0)],[(1,0)],[(2,0)]]
  · refine AWP.cond rfl (fun _ => ?_) (fun h => absurd (by simpa using h) hk)
    refine AWP.region ?_
    refine walkR ?_
    refine AWP.sub ?_ (sumLaws_rest op kind a b c 0 0 0 ha hb hc (fun _ => ⟨rfl, rfl, rfl⟩))
    exact Sub.w [] [[(0,0)],[(1,0)],[(2,0)]]

end Go.Proofs.Ytnngbbiajioghaa
