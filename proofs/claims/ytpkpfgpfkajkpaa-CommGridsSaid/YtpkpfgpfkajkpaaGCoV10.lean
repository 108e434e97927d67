import Derived.Test.YtpkpfgpfkajkpaaGCoV9
import Derived.Test.YtpkpfgpfkajkpaaGCoL12
import Derived.Test.YtpkpfgpfkajkpaaGCoV4
namespace Go.Proofs.Ytpkpfgpfkajkpaa
open Go.Av Go.Proofs
set_option maxRecDepth 20000
set_option maxHeartbeats 4000000 in
theorem sameGrid_ok (s : List Int) (w : List Bool) (hs : s.length ≤ 1000000) (_ : w.length ≤ 1000000) : PureRun Try.prog 57 [gridV s w, gridV s w] (.sc (.bool true)) := by
  refine PureRun.of (allPure_cons (grid_pure _ _) (allPure_cons (grid_pure _ _) allPure_nil)) (.sc _) (CallOK.mono (R := fun res H' => res = .sc (.bool true) ∧ H' = []) ?_ fun _ _ h => h.1)
  unfold gridV
  refine CallOK.of cF57 ?_ (Nat.le_of_ble_eq_true rfl)
  have hsm := same_ok s hs
  have e0 := boolsR_len w
  refine walkX ?_
  rw [e0, decide_eq_true (rfl : w.length = w.length)]
  refine walkX ?_
  refine AWP.loop (fun k : Nat => [(2, .ptr 0 0 0 0), (3, .ptr 1 0 0 0), (5, .sc (.int .i64 (k : Int)))])
    (fun _ => [[.cells 2 [[.list 1 (intsR s), .list 1 (boolsR w)]]], [.cells 2 [[.list 1 (intsR s), .list 1 (boolsR w)]]]]) (fun k => k ≤ w.length) (fun k => w.length - k) 0 (Nat.zero_le _) ?_ ?_
  · exact Sub.w [] [[(0,0)],[(1,0)]]
  rintro k hk
  refine walkX ?_
  rw [e0]
  refine walkX ?_
  refine AWP.condD rfl (fun h => ?_) (fun h => ?_)
  · have hr := boolsR_ix w k h
    generalize w[k] = x at *
    cases x with
    | true =>
      refine walkX ?_
      refine DK.nil ⟨by kernel_rfl, ?_⟩
      refine walkX ?_
      refine ⟨k + 1, by omega, by omega, ?_⟩
      exact Sub.w [] [[(0,0)],[(1,0)]]
    | false =>
      refine walkX ?_
      refine DK.nil ⟨by kernel_rfl, ?_⟩
      refine walkX ?_
      refine ⟨k + 1, by omega, by omega, ?_⟩
      exact Sub.w [] [[(0,0)],[(1,0)]]
  refine walkX ?_
  exact endW [] (⟨rfl, rfl⟩)
theorem coordsA_len (s : List Int) (w : List Bool) (r : Int) (hs : s.length ≤ 1000) : (coordsA s w r).2.length ≤ 1000 := by
  unfold coordsA gA
  split
  · show (natI (coordN (nats s) r.toNat)).length ≤ 1000
    rw [natI_len, coordN_len]
    simpa [nats] using hs
  · exact Nat.zero_le _
theorem nearA_len (s : List Int) (w : List Bool) (r : Int) (hs : s.length ≤ 1000) : (nearA s w r).2.length ≤ 2000 := by
  unfold nearA gA
  split
  · show (nearN _ w _ s.length).length ≤ 2000
    rw [nearN_len]
    omega
  · exact Nat.zero_le _
theorem subA_len (s : List Int) (w u : List Bool) : (subA s w u).1.1.length ≤ 100 ∧ (subA s w u).1.2.length ≤ 100 ∧ (subA s w u).2.1.1.length ≤ 100 ∧ (subA s w u).2.1.2.length ≤ 100 := by
  by_cases h : cntE s w = 0
  · have e : subA s w u = (([], []), ([], []), 2) := if_pos h
    rw [e]
    exact ⟨Nat.zero_le _, Nat.zero_le _, Nat.zero_le _, Nat.zero_le _⟩
  have e0 : subA s w u = if u.length ≠ s.length then (([], []), ([], []), 26) else subE (nats s) w u := if_neg h
  obtain ⟨t, rfl, hw, h1, h4, hs, hn, hn64⟩ := cntE_good (s := s) (w := w) (by omega)
  rw [e0]
  split
  · exact ⟨Nat.zero_le _, Nat.zero_le _, Nat.zero_le _, Nat.zero_le _⟩
  · rw [nats_I]
    unfold subE
    dsimp only
    have hK2 := idxL_len u true t.length
    obtain ⟨a1, a2, a3⟩ := someN_len t (idxL u true t.length) [] w
    rw [someS_N, natI_len, natI_len, natI_len, partN_len, partN_len]
    omega
set_option maxHeartbeats 16000000 in
theorem commGrids_ok (s : List Int) (w : List Bool) (c : List Int) (r d b : Int) (u : List Bool) (hb : -9223372036854775808 ≤ b ∧ b ≤ 9223372036854775807) :
    CallOK Try.prog 12 [.list 1 (intsR s), .list 1 (boolsR w), .list 1 (intsR c), .sc (.int .i64 r), .sc (.int .i64 d), .sc (.int .i64 b), .list 1 (boolsR u)] [] fun res _ => res = .sc (.bool true) := by
  refine CallOK.mono (R := fun res H' => res = .sc (.bool true) ∧ H' = []) ?_ fun _ _ h => h.1
  refine CallOK.of cF12 ?_ (Nat.le_of_ble_eq_true rfl)
  have hw := works_ok
  have e0 := intsR_len s
  have e1 := boolsR_len w
  have e2 := intsR_len c
  have e3 := boolsR_len u
  by_cases h1 : 20 < s.length
  · refine walkX ?_
    rw [e0, decide_eq_true h1]
    refine walkX ?_
    exact endW [] (⟨rfl, rfl⟩)
  by_cases h2 : 20 < w.length
  · refine walkX ?_
    rw [e0, decide_eq_false h1]
    refine walkX ?_
    rw [e1, decide_eq_true h2]
    refine walkX ?_
    exact endW [] (⟨rfl, rfl⟩)
  by_cases h3 : 20 < c.length
  · refine walkX ?_
    rw [e0, decide_eq_false h1]
    refine walkX ?_
    rw [e1, decide_eq_false h2]
    refine walkX ?_
    rw [e2, decide_eq_true h3]
    refine walkX ?_
    exact endW [] (⟨rfl, rfl⟩)
  by_cases h4 : 20 < u.length
  · refine walkX ?_
    rw [e0, decide_eq_false h1]
    refine walkX ?_
    rw [e1, decide_eq_false h2]
    refine walkX ?_
    rw [e2, decide_eq_false h3]
    refine walkX ?_
    rw [e3, decide_eq_true h4]
    refine walkX ?_
    exact endW [] (⟨rfl, rfl⟩)
  refine walkX ?_
  rw [e0, decide_eq_false h1]
  refine walkX ?_
  rw [e1, decide_eq_false h2]
  refine walkX ?_
  rw [e2, decide_eq_false h3]
  refine walkX ?_
  rw [e3, decide_eq_false h4]
  have a1 := rankX_ok s w c
  have a2 := rankX_doc s w c
  have b1 := coordsX_ok s w r
  have b2 := coordsX_doc s w r
  have b3 := is_ok (coordsA s w r).2 (coordsA s w r).1 (by have := coordsA_len s w r (by omega); omega)
  have c1 := shiftX_ok s w r d b hb
  have c2 := shiftX_doc s w r d b hb
  have d1 := nearX_ok s w r
  have d2 := nearX_doc s w r
  have d3 := is_ok (nearA s w r).2 (nearA s w r).1 (by have := nearA_len s w r (by omega); omega)
  have f1 := sub_ok s w u
  have f2 := sub_doc s w u
  obtain ⟨g1, g2, g3, g4⟩ := subA_len s w u
  generalize rankA s w c = A at *
  generalize coordsA s w r = B at *
  generalize shiftA s w r d b = C at *
  generalize nearA s w r = D at *
  generalize subA s w u = E at *
  obtain ⟨⟨E1, E2⟩, ⟨E3, E4⟩, E5⟩ := E
  unfold subAV at f1 f2
  dsimp only at g1 g2 g3 g4 f1 f2
  have f3 := sameGrid_ok E1 E2 (by omega) (by omega)
  have f4 := same_ok E3 (by omega)
  have f5 := same_ok E4 (by omega)
  unfold gridV at a1 a2 b1 b2 c1 c2 d1 d2 f1 f2 f3
  refine walkX ?_
  rw [bne_self]
  refine walkX ?_
  rw [bne_self]
  refine walkX ?_
  rw [bne_self]
  refine walkX ?_
  rw [bne_self]
  refine walkX ?_
  rw [bne_self]
  refine walkX ?_
  rw [beq_self]
  refine walkX ?_
  exact endW [] (⟨rfl, rfl⟩)
end Go.Proofs.Ytpkpfgpfkajkpaa
