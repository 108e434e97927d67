import Derived.Test.YtnngbbiajioghaaGSuG1
import Derived.Test.YtnngbbiajioghaaGSuW2
import Derived.Test.YtnngbbiajioghaaGSuL9
namespace Go.Proofs.Ytnngbbiajioghaa
open Go.Av Go.Proofs
set_option exponentiation.threshold 4000
set_option maxRecDepth 20000

/-! The law SumNil. -/
def nilH : Heap := [[.cells 41 [s0.acc true]], [.cells 41 [s0.acc false]], [.cells 1 [[.sc (.pointer none)], [.ptr 1 0 0 0]]]]

theorem s0_value : s0.value = 0 := by decide
theorem s0_eqb : s0.eqb s0 = true := by decide

set_option maxHeartbeats 4000000 in
theorem sumNil_ok (b : Nat) : PureRun Try.prog 9 [.sc (.int .u64 (b : Int))] (.sc (.bool true)) := by
  refine PureRun.mkI cF9 (Nat.le_of_ble_eq_true rfl) ?_
  refine walkSuT12 ?_
  (refine Reg.c (Nat.zero_le _) rfl ((new_at _).mono ?_); rintro res H' ⟨rfl, rfl⟩)
  refine walkSuT12 ?_
  refine AWP.loop (fun k : Nat => [(0, .sc (.int .u64 (b : Int))), (3, .ptr 0 0 0 0), (11, .hsl 2 0 0 2), (12, .sc (.int .i64 2)), (13, .sc (.int .i64 (k : Int)))]) (fun _ => nilH) (fun k => k ≤ 2) (fun k => 2 - k) 0 (Nat.zero_le _) ?_ ?_
  · exact Sub.wr [] [[(0,0)],[(1,0)],[(2,0)]]
  intro k hk
  have va : VA nilH (.ptr 0 0 0 0) s0 := ⟨0, 0, rfl, rfl⟩
  by_cases h2 : k = 2
  · subst h2
    refine walkSuT12 ?_
    have hv := value_ok s0 (by decide)
    rw [s0_value] at hv
    refine Reg.c (Nat.zero_le _) rfl ((look_at (a := s0) (m := true) rfl hv).mono ?_)
    rintro res H' ⟨rfl, rfl⟩
    refine walkSuT12 ?_
    refine Reg.c (Nat.zero_le _) rfl ((same_at (s := s0) (t := s0) rfl rfl (by decide) (by decide)).mono ?_)
    rintro res H' ⟨rfl, rfl⟩
    rw [s0_eqb]
    have hw := works_ok
    refine walkSuT12 ?_
    exact EndP.w
  · have hk2 : k = 0 ∨ k = 1 := by omega
    have nv : ∀ a, a = .sc (.pointer none) ∨ a = .ptr 1 0 0 0 → NV nilH a := by
      rintro a (rfl | rfl)
      · exact .inl rfl
      · exact .inr ⟨1, 0, s0, rfl, rfl⟩
    rcases hk2 with rfl | rfl
    · have hn := nv (.sc (.pointer none)) (.inl rfl)
      refine walkSuT12 ?_
      (refine Reg.c (Nat.zero_le _) rfl ((nv_encode hn).mono ?_); rintro res H' ⟨rfl, rfl⟩)
      refine walkSuT12 ?_
      (refine Reg.c (Nat.zero_le _) rfl ((nv_add hn _).mono ?_); rintro res H' ⟨rfl, rfl⟩)
      refine walkSuT12 ?_
      (refine Reg.c (Nat.zero_le _) rfl ((nv_merge1 hn va.pt).mono ?_); rintro res H' ⟨rfl, rfl⟩)
      refine walkSuT12 ?_
      (refine Reg.c (Nat.zero_le _) rfl ((nv_merge2 va hn).mono ?_); rintro res H' ⟨rfl, rfl⟩)
      refine walkSuT12 ?_
      (refine Reg.c (Nat.zero_le _) rfl ((nv_value hn).mono ?_); rintro res H' ⟨rfl, rfl⟩)
      refine walkSuT12 ?_
      (refine Reg.c (Nat.zero_le _) rfl ((nv_same1 hn va.pt).mono ?_); rintro res H' ⟨rfl, rfl⟩)
      refine walkSuT12 ?_
      (refine Reg.c (Nat.zero_le _) rfl ((nv_same2 va hn).mono ?_); rintro res H' ⟨rfl, rfl⟩)
      refine walkSuT12 ?_
      (refine Reg.c (Nat.zero_le _) rfl ((nv_copy hn).mono ?_); rintro res H' ⟨rfl, rfl⟩)
      refine walkSuT12 ?_
      refine ⟨1, by omega, by omega, ?_⟩
      exact Sub.wr [] [[(0,0)],[(1,0)],[(2,0)]]
    · have hn := nv (.ptr 1 0 0 0) (.inr rfl)
      refine walkSuT12 ?_
      (refine Reg.c (Nat.zero_le _) rfl ((nv_encode hn).mono ?_); rintro res H' ⟨rfl, rfl⟩)
      refine walkSuT12 ?_
      (refine Reg.c (Nat.zero_le _) rfl ((nv_add hn _).mono ?_); rintro res H' ⟨rfl, rfl⟩)
      refine walkSuT12 ?_
      (refine Reg.c (Nat.zero_le _) rfl ((nv_merge1 hn va.pt).mono ?_); rintro res H' ⟨rfl, rfl⟩)
      refine walkSuT12 ?_
      (refine Reg.c (Nat.zero_le _) rfl ((nv_merge2 va hn).mono ?_); rintro res H' ⟨rfl, rfl⟩)
      refine walkSuT12 ?_
      (refine Reg.c (Nat.zero_le _) rfl ((nv_value hn).mono ?_); rintro res H' ⟨rfl, rfl⟩)
      refine walkSuT12 ?_
      (refine Reg.c (Nat.zero_le _) rfl ((nv_same1 hn va.pt).mono ?_); rintro res H' ⟨rfl, rfl⟩)
      refine walkSuT12 ?_
      (refine Reg.c (Nat.zero_le _) rfl ((nv_same2 va hn).mono ?_); rintro res H' ⟨rfl, rfl⟩)
      refine walkSuT12 ?_
      (refine Reg.c (Nat.zero_le _) rfl ((nv_copy hn).mono ?_); rintro res H' ⟨rfl, rfl⟩)
      refine walkSuT12 ?_
      refine ⟨2, by omega, by omega, ?_⟩
      exact Sub.wr [] [[(0,0)],[(1,0)],[(2,0)]]

end Go.Proofs.Ytnngbbiajioghaa
