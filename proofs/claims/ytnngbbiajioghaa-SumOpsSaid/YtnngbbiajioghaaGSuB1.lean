import Derived.Test.YtnngbbiajioghaaGSuW2
import Derived.Test.YtnngbbiajioghaaGSuL3
namespace Go.Proofs.Ytnngbbiajioghaa
open Go.Av Go.Proofs
set_option exponentiation.threshold 4000
set_option maxRecDepth 20000

/-! The law SumOps. -/

theorem compareR_eq {a b : Nat} (ha : a < 18446744073709551616) (hb : b < 18446744073709551616) : compareR a b = compareS a b := by
  unfold compareR compareS quiet ordN nanN infN cmpI
  repeat' split
  all_goals first | rfl | omega

theorem dstep_eqI {g i : Nat} {fr : Fr} {H : Heap} {t : TypeId} {x y : Operand} {k : IntKind} {e : Int} (hx : ev fr x = .sc (.int k e)) (hy : ev fr y = .sc (.int k e)) :
    dstep g i (.bin .eql t x y) fr H = some (.sc (.bool true), H) := by
  simp only [dstep, hx, hy]
  rw [show Sem.pure? (do eqGuard BinOp.eql t x y (Value.int k e) (Value.int k e); binOp BinOp.eql t (Value.int k e) (Value.int k e)) = some (.bool (decide (e = e))) from by cases k <;> rfl]
  simp

theorem dstep_eqV {g i : Nat} {fr : Fr} {H : Heap} {x y : Operand} {v : Nat} {p : Int} (hx : ev fr x = .agg (vR v p)) (hy : ev fr y = .agg (vR v p)) :
    dstep g i (.xop (.eqAgg false [.i, .i]) [x, y]) fr H = some (.sc (.bool true), H) := by
  simp only [dstep, avals, List.map_cons, List.map_nil, hx, hy, xstep, xpure]
  rw [show flatOf (AV.agg (vR v p)) = some [.int .u64 v, .int .i64 p] from rfl]
  simp [cellsEq, leafEq]

end Go.Proofs.Ytnngbbiajioghaa
namespace Go.Proofs.Ytnngbbiajioghaa
open Go.Av Go.Proofs
set_option exponentiation.threshold 4000
set_option maxRecDepth 20000

/-! The law SumOps. -/

theorem walkSuB1 {G G' : Prop} (h : G') (t : Boxed G' → G := by intro hw9; (repeat (first | refine DK.o rfl (dstep_eqI rfl rfl) ?_ | refine DK.o rfl (dstep_eqV rfl rfl) ?_ | (first | refine wr13 ?_ | refine wd13 ?_ | refine wr14 ?_ | refine wv1 ?_ | refine wv2 ?_ | refine wv3 ?_ | refine wv4 ?_ | refine wv5 ?_ | refine wv6 ?_ | refine wv7 ?_ | refine wv8 ?_ | refine wv9 ?_ | refine wv10 ?_ | refine wr1 ?_ | refine wr2 ?_ | refine wr3 ?_ | refine wr4 ?_ | refine Reg.nil ?_ | refine wd1 ?_ | refine wd2 ?_ | refine wd3 ?_ | refine wd4 ?_ | refine AWP.seq ?_ | refine AWP.region ?_ | refine AWP.dk mixed ?_ | refine AWP.condT rfl ?_ | refine AWP.condF rfl ?_ | refine AWP.skip ?_ | refine AWP.ret ?_ | refine AWP.exit ?_ | refine AWP.block ?_ | refine wr5 ?_ | refine wr6 ?_ | refine wr7 ?_ | refine wr8 ?_ | refine wr9 ?_ | refine wr10 ?_ | refine wd5 ?_ | refine wd6 ?_ | refine wd7 ?_ | refine wd8 ?_ | refine wd9 ?_ | refine wd10 ?_ | refine wr11 ?_ | refine wr12 ?_ | refine wd11 ?_ | refine wd12 ?_ ))); exact hw9.out) : G := t ⟨h⟩
set_option maxHeartbeats 4000000 in
theorem sumOps_ok (op kind : Int) (a b : Nat) (pa pb : Int) (ha : a < 18446744073709551616) (hb : b < 18446744073709551616) :
    PureRun Try.prog 3 [.sc (.int .i64 op), .sc (.int .i64 kind), .agg (vR a pa), .agg (vR b pb)] (.sc (.bool true)) := by
  refine PureRun.mkI cF3 (Nat.le_of_ble_eq_true rfl) ?_
  have h1 := do_ok op kind (a, pa) (b, pb) ha hb
  have h2 := rdo_ok op kind (a, pa) (b, pb) ha hb
  have h3 := check_ok op kind
  have h4 := rcheck_ok op kind
  have h5 := compare_ok ha hb
  have h6 := rcompare_ok ha hb
  rw [compareR_eq ha hb] at h6
  have h7 := works_ok
  generalize doS op kind (a, pa) (b, pb) = p at h1 h2
  generalize checkE op kind = e at h3 h4
  generalize compareS a b = c at h5 h6
  obtain ⟨⟨v, pv⟩, er⟩ := p
  change PureRun Try.prog 14 [_, _, .agg (vR a pa), .agg (vR b pb)] (.tup [.agg (vR v pv), .sc (.int .i64 er)]) at h1
  change PureRun Try.prog 15 [_, _, .agg (vR a pa), .agg (vR b pb)] (.tup [.agg (vR v pv), .sc (.int .i64 er)]) at h2
  refine walkSuB1 ?_
  refine DK.nil ⟨by kernel_rfl, ?_⟩
  refine walkX ?_
  exact EndP.w

end Go.Proofs.Ytnngbbiajioghaa
