import Derived.Test.YtpkpfgpfkajkpaaGCoV4
namespace Go.Proofs.Ytpkpfgpfkajkpaa
open Go.Av Go.Proofs
set_option maxRecDepth 20000
def idxL (u : List Bool) (p : Bool) (k : Nat) : List Nat := (List.range k).filter fun i => u.getD i false == p
theorem idxL_lt {u : List Bool} {p : Bool} {k : Nat} : ∀ i ∈ idxL u p k, i < k := fun _ hi => List.mem_range.1 (List.mem_filter.1 hi).1
theorem idxL_len (u : List Bool) (p : Bool) (k : Nat) : (idxL u p k).length ≤ k := by
  have := List.length_filter_le (fun i => u.getD i false == p) (List.range k)
  rwa [List.length_range] at this
theorem idxL_yes {u : List Bool} {p : Bool} {k : Nat} (h : k < u.length) (hp : u[k] = p) : idxL u p (k + 1) = idxL u p k ++ [k] := by
  unfold idxL
  rw [List.range_succ, List.filter_append]
  simp [h, hp]
theorem idxL_no {u : List Bool} {p : Bool} {k : Nat} (h : k < u.length) (hp : u[k] ≠ p) : idxL u p (k + 1) = idxL u p k := by
  unfold idxL
  rw [List.range_succ, List.filter_append]
  simp [h, hp]
abbrev SubT := (List Int × List Bool) × (List Int × List Int) × Int
def subAV (p : SubT) : AV := .tup [gridV p.1.1 p.1.2, .list 1 (intsR p.2.1.1), .list 1 (intsR p.2.1.2), .sc (.int .i64 p.2.2)]
theorem sub_pure (p : SubT) : Pure (subAV p) := .tup _ (allPure_cons (grid_pure _ _) (allPure_cons (.list _ _ (prs _)) (allPure_cons (.list _ _ (prs _)) (allPure_cons (.sc _) allPure_nil))))
def partN (t O : List Nat) (k : Nat) : List Nat := (List.range k).map fun r => alG t (coordN t r) 0 O
def subE (t : List Nat) (w u : List Bool) : SubT :=
  ((someS t (idxL u true t.length), someW w (idxL u true t.length)), (natI (partN t (idxL u false t.length) (prodN t)), natI (partN t (idxL u true t.length) (prodN t))), 0)
def subA (s : List Int) (w u : List Bool) : SubT :=
  if cntE s w = 0 then (([], []), ([], []), 2) else if u.length ≠ s.length then (([], []), ([], []), 26) else subE (nats s) w u
def fillN (n : Nat) (l : List Nat) : List Nat := l ++ List.replicate (n - l.length) 0
theorem fillN_set {n x : Nat} {l : List Nat} (h : l.length < n) : (natsR (fillN n l)).set l.length [.sc (.int .i64 (x : Int))] = natsR (fillN n (l ++ [x])) := by
  rw [natsR_set]
  congr 1
  unfold fillN
  rw [List.set_append_right _ _ (Nat.le_refl _), Nat.sub_self, List.length_append, List.length_singleton]
  obtain ⟨m, hm⟩ : ∃ m, n - l.length = m + 1 := ⟨n - l.length - 1, by omega⟩
  rw [hm, show n - (l.length + 1) = m by omega, List.replicate_succ]
  simp
theorem fillN_len {n : Nat} {l : List Nat} (h : l.length ≤ n) : (fillN n l).length = n := by simp [fillN]; omega
theorem fillN_full {n : Nat} {l : List Nat} (h : l.length = n) : fillN n l = l := by simp [fillN, h]
theorem partN_len (t O : List Nat) (k : Nat) : (partN t O k).length = k := by simp [partN]
theorem partN_succ (t O : List Nat) (k : Nat) : partN t O (k + 1) = partN t O k ++ [alG t (coordN t k) 0 O] := by simp [partN, List.range_succ]
set_option maxHeartbeats 16000000 in
theorem sub_ok (s : List Int) (w u : List Bool) : PureRun Try.prog 50 [gridV s w, .list 1 (boolsR u)] (subAV (subA s w u)) := by
  refine PureRun.of (allPure_cons (grid_pure _ _) (allPure_cons (.list _ _ (prs _)) allPure_nil)) (sub_pure _) (CallOK.mono (R := fun res H' => res = subAV (subA s w u) ∧ H' = []) ?_ fun _ _ h => h.1)
  refine CallOK.of cF50 ?_ (Nat.le_of_ble_eq_true rfl)
  have hc := count_ok s w
  have l1 := intsR_len s
  have l2 := boolsR_len u
  by_cases h : cntE s w = 0
  · have e : subA s w u = (([], []), ([], []), 2) := if_pos h
    rw [h] at hc
    rw [e]
    unfold subAV
    unfold gridV at hc ⊢
    refine walkX ?_
    exact endW [] (⟨rfl, rfl⟩)
  have e0 : subA s w u = if u.length ≠ s.length then (([], []), ([], []), 26) else subE (nats s) w u := if_neg h
  obtain ⟨t, rfl, hw, h1, h4, hs, hn, hn64⟩ := cntE_good (s := s) (w := w) (by omega)
  rw [natI_len] at l1
  rw [natI_len, nats_I] at e0
  rw [hn] at hc h
  by_cases hl : u.length = t.length
  case neg =>
    rw [if_pos hl] at e0
    rw [e0]
    generalize prodN t = n at *
    unfold subAV
    unfold gridV at hc ⊢
    refine walkX ?_
    rw [decide_eq_false h]
    refine walkX ?_
    rw [l1, l2, decide_eq_false hl]
    refine walkX ?_
    exact endW [] (⟨rfl, rfl⟩)
  rw [if_neg (by omega)] at e0
  rw [e0]
  unfold subAV subE
  dsimp only
  have hco := fun r hr H => coords_at t w r h4 hs hr H
  have hal := fun l c hl hc hcr hll => along_ok t w l c hl hs hc hcr hll
  have hso := fun l hl hll => some_ok t w l hl hw hll
  have hK := @idxL_lt u true t.length
  have hO := @idxL_lt u false t.length
  have hK2 := idxL_len u true t.length
  have hO2 := idxL_len u false t.length
  have hsm := hso _ (by omega) hK
  rw [← natsR_I, ← natsR_I]
  generalize hn' : prodN t = n at *
  unfold gridV at hc hco hal hsm ⊢
  refine walkX ?_
  rw [decide_eq_false h]
  refine walkX ?_
  rw [l1, l2, decide_eq_true hl]
  refine walkX ?_
  rw [l2]
  refine AWP.loop (fun k : Nat => [(2, .ptr 0 0 0 0), (4, .ptr 1 0 0 0), (8, .sc (.int .i64 (n : Int))), (9, .hsl 2 0 0 (idxL u true k).length), (10, .hsl 3 0 0 (idxL u false k).length), (31, .list 1 (boolsR u)), (32, .sc (.int .i64 (u.length : Int))), (33, .sc (.int .i64 (k : Int)))])
    (fun k => [[.cells 2 [[.list 1 (intsR (natI t)), .list 1 (boolsR w)]]], [.cells 2 [[.sc (.slice none 0 0), .sc (.slice none 0 0)]]], [.cells 1 (natsR (idxL u true k))], [.cells 1 (natsR (idxL u false k))]])
    (fun k => k ≤ u.length) (fun k => u.length - k) 0 (Nat.zero_le _) ?_ ?_
  · (apply Sub.to [1,1] [[(0,0)],[(1,0)],[(2,0)],[(3,0)]]; all_goals (repeat' (first | exact ToAll.nil | exact famsTo.nil | exact famTo.nil | exact ToL.nil | exact ToR.nil | refine ToAll.cons ?_ ?_ | refine famsTo.cons ?_ ?_ | refine wt10 ?_ ?_ | exact To.undef _ | exact To.sc _ | exact To.hslL rfl rfl | exact To.ptrO rfl rfl rfl | exact To.mrefO rfl | exact To.nil rfl rfl rfl | exact wt1 | exact To.nilL | refine To.int ?_ | refine To.bool ?_ | refine To.hslL rfl ?_ | refine wt2 rfl ?_ ?_ ?_ | refine To.tupL ?_ | refine To.aggL ?_ | refine To.cptrL ?_ | refine wt3 ?_ | refine wt4 ?_ | refine To.cloL ?_ ?_ | refine ToB.one ?_ | exact wt5 | refine wt6 ?_ | ((with_reducible apply ToL.consE); case e9 => rfl) | refine ToL.cons ?_ ?_ | exact wt7 | refine wt8 ?_ | exact wt11 | refine wt9 ?_ ?_ | refine wt12 ?_ | (with_reducible rfl) | assumption)); all_goals (first | rfl | assumption | (simp; done) | (simp; omega) | (rw [wrap_small (by omega) (by omega)]; done) | (rw [wrap_small (by omega) (by omega)]; omega) | (refine congrArg Nat.cast ?_; assumption) | skip))
  · rintro k hk
    refine walkX ?_
    refine AWP.condD rfl (fun h => ?_) (fun h => ?_)
    · have hr := boolsR_ix u k h
      have y1 := @idxL_yes u true k h
      have y2 := @idxL_yes u false k h
      have z1 := @idxL_no u true k h
      have z2 := @idxL_no u false k h
      have n1 := natsR_len (idxL u true k)
      have n2 := natsR_len (idxL u false k)
      have n3 := idxL_len u true k
      have n4 := idxL_len u false k
      have e6 : ∀ o : List Nat, natsR (o ++ [k]) = natsR o ++ [[.sc (.int .i64 (k : Int))]] := fun o => by simp [natsR]
      have e7 : ∀ o : List Nat, (o ++ [k]).length = o.length + 1 := fun o => by simp
      generalize idxL u true k = o1 at *
      generalize idxL u false k = o2 at *
      generalize u[k] = y at *
      cases y with
      | true =>
        refine walkX ?_
        refine ⟨k + 1, by omega, by omega, ?_⟩
        rw [y1 rfl, z2 (by simp), e6, e7]
        (apply Sub.to [] [[(0,0)],[(1,0)],[(5,0)],[(3,0)]]; all_goals (repeat' (first | exact ToAll.nil | exact famsTo.nil | exact famTo.nil | exact ToL.nil | exact ToR.nil | refine ToAll.cons ?_ ?_ | refine famsTo.cons ?_ ?_ | refine wt10 ?_ ?_ | exact To.undef _ | exact To.sc _ | exact To.hslL rfl rfl | exact To.ptrO rfl rfl rfl | exact To.mrefO rfl | exact To.nil rfl rfl rfl | exact wt1 | exact To.nilL | refine To.int ?_ | refine To.bool ?_ | refine To.hslL rfl ?_ | refine wt2 rfl ?_ ?_ ?_ | refine To.tupL ?_ | refine To.aggL ?_ | refine To.cptrL ?_ | refine wt3 ?_ | refine wt4 ?_ | refine To.cloL ?_ ?_ | refine ToB.one ?_ | exact wt5 | refine wt6 ?_ | ((with_reducible apply ToL.consE); case e9 => rfl) | refine ToL.cons ?_ ?_ | exact wt7 | refine wt8 ?_ | exact wt11 | refine wt9 ?_ ?_ | refine wt12 ?_ | (with_reducible rfl) | assumption)); all_goals (first | rfl | assumption | (simp; done) | (simp; omega) | (rw [wrap_small (by omega) (by omega)]; done) | (rw [wrap_small (by omega) (by omega)]; omega) | (refine congrArg Nat.cast ?_; assumption) | skip))
      | false =>
        refine walkX ?_
        refine ⟨k + 1, by omega, by omega, ?_⟩
        rw [y2 rfl, z1 (by simp), e6, e7]
        (apply Sub.to [] [[(0,0)],[(1,0)],[(2,0)],[(5,0)]]; all_goals (repeat' (first | exact ToAll.nil | exact famsTo.nil | exact famTo.nil | exact ToL.nil | exact ToR.nil | refine ToAll.cons ?_ ?_ | refine famsTo.cons ?_ ?_ | refine wt10 ?_ ?_ | exact To.undef _ | exact To.sc _ | exact To.hslL rfl rfl | exact To.ptrO rfl rfl rfl | exact To.mrefO rfl | exact To.nil rfl rfl rfl | exact wt1 | exact To.nilL | refine To.int ?_ | refine To.bool ?_ | refine To.hslL rfl ?_ | refine wt2 rfl ?_ ?_ ?_ | refine To.tupL ?_ | refine To.aggL ?_ | refine To.cptrL ?_ | refine wt3 ?_ | refine wt4 ?_ | refine To.cloL ?_ ?_ | refine ToB.one ?_ | exact wt5 | refine wt6 ?_ | ((with_reducible apply ToL.consE); case e9 => rfl) | refine ToL.cons ?_ ?_ | exact wt7 | refine wt8 ?_ | exact wt11 | refine wt9 ?_ ?_ | refine wt12 ?_ | (with_reducible rfl) | assumption)); all_goals (first | rfl | assumption | (simp; done) | (simp; omega) | (rw [wrap_small (by omega) (by omega)]; done) | (rw [wrap_small (by omega) (by omega)]; omega) | (refine congrArg Nat.cast ?_; assumption) | skip))
    have hk : k = t.length := by omega
    subst hk
    have n1 := natsR_len (idxL u true t.length)
    have n2 := natsR_len (idxL u false t.length)
    generalize idxL u true t.length = K at *
    generalize idxL u false t.length = O at *
    refine walkX0 ?_
    refine AWP.sub (fr' := [(2, .ptr 0 0 0 0), (4, .ptr 1 0 0 0), (8, .sc (.int .i64 (n : Int))), (9, .list 1 (natsR K)), (10, .list 1 (natsR O))]) (H' := [[.cells 2 [[.list 1 (intsR (natI t)), .list 1 (boolsR w)]]], [.cells 2 [[.sc (.slice none 0 0), .sc (.slice none 0 0)]]]]) ?_ ?_
    · exact Sub.w [] [[(0,0)],[(1,0)]]
    refine AWP.dk mixed ?_
    refine walkR ?_
    refine DK.o rfl (dstep_mk (n := n) rfl (by omega) (by omega)) ?_
    refine walkR ?_
    refine DK.o rfl (dstep_mk (n := n) rfl (by omega) (by omega)) ?_
    refine walkR ?_
    refine DK.nil ⟨by kernel_rfl, ?_⟩
    refine walkX ?_
    have hz : List.replicate n (zrow [(1, Value.int .i64 0)]) = natsR (fillN n []) := by
      simp [fillN, natsR, zrow]
    refine AWP.loop (fun k : Nat => [(2, .ptr 0 0 0 0), (4, .ptr 1 0 0 0), (9, .list 1 (natsR K)), (10, .list 1 (natsR O)), (13, .hsl 2 0 0 n), (14, .hsl 3 0 0 n), (52, .sc (.int .i64 (n : Int))), (53, .sc (.int .i64 (k : Int)))])
      (fun k => [[.cells 2 [[.list 1 (intsR (natI t)), .list 1 (boolsR w)]]], [.cells 2 [[.sc (.slice none 0 0), .sc (.slice none 0 0)]]], [.cells 1 (natsR (fillN n (partN t O k)))], [.cells 1 (natsR (fillN n (partN t K k)))]])
      (fun k => k ≤ n) (fun k => n - k) 0 (Nat.zero_le _) ?_ ?_
    · show Sub _ _ _ _ _ [[.cells 2 [[.list 1 (intsR (natI t)), .list 1 (boolsR w)]]], [.cells 2 [[.sc (.slice none 0 0), .sc (.slice none 0 0)]]], [.cells 1 (natsR (fillN n []))], [.cells 1 (natsR (fillN n []))]]
      rw [← hz]
      exact Sub.wx [] [[(0,0)],[(1,0)],[(2,1)],[(2,3)]]
    rintro k hk
    refine walkX0 ?_
    refine AWP.condD rfl (fun h => ?_) (fun h => ?_)
    · have m1 := partN_succ t O k
      have m2 := partN_succ t K k
      have m3 := partN_len t O k
      have m4 := partN_len t K k
      have f1 := @fillN_set n (alG t (coordN t k) 0 O) (partN t O k) (by omega)
      have f2 := @fillN_set n (alG t (coordN t k) 0 K) (partN t K k) (by omega)
      rw [m3, ← m1] at f1
      rw [m4, ← m2] at f2
      have f3 : (natsR (fillN n (partN t O k))).length = n := by rw [natsR_len, fillN_len (by omega)]
      have f4 : (natsR (fillN n (partN t K k))).length = n := by rw [natsR_len, fillN_len (by omega)]
      have c1 := coordN_len t k
      have v1 := hal O (coordN t k) (by omega) c1 (coord_rng t k hs) hO
      have v2 := hal K (coordN t k) (by omega) c1 (coord_rng t k hs) hK
      have c2 : (natsR (coordN t k)).length = t.length := by rw [natsR_len, c1]
      obtain ⟨x1, hx1⟩ : ∃ v : Nat, (natsR (fillN n (partN t O k)))[k]? = some [.sc (.int .i64 (v : Int))] := ⟨_, by have := natsR_ix (fillN n (partN t O k)) k (by rw [fillN_len (by omega)]; omega); rwa [rowIx_nat] at this⟩
      obtain ⟨x2, hx2⟩ : ∃ v : Nat, (natsR (fillN n (partN t K k)))[k]? = some [.sc (.int .i64 (v : Int))] := ⟨_, by have := natsR_ix (fillN n (partN t K k)) k (by rw [fillN_len (by omega)]; omega); rwa [rowIx_nat] at this⟩
      have hp1 : PRs (natsR (fillN n (partN t O k))) := inferInstance
      have hp2 : PRs (natsR (fillN n (partN t K k))) := inferInstance
      generalize natsR (fillN n (partN t O k)) = R1 at *
      generalize natsR (fillN n (partN t K k)) = R2 at *
      refine walkX0 ?_
      refine Reg.c (Nat.zero_le _) rfl ((hco k (by omega) _).mono ?_)
      rintro res H' ⟨rfl, rfl⟩
      refine walkX0 ?_
      refine AWP.sub (fr' := [(2, .ptr 0 0 0 0), (4, .ptr 1 0 0 0), (9, .list 1 (natsR K)), (10, .list 1 (natsR O)), (13, .hsl 2 0 0 n), (14, .hsl 3 0 0 n), (52, .sc (.int .i64 (n : Int))), (53, .sc (.int .i64 (k : Int))), (15, .sc (.int .i64 (k : Int))), (16, .list 1 (natsR (coordN t k)))])
        (H' := [[.cells 2 [[.list 1 (intsR (natI t)), .list 1 (boolsR w)]]], [.cells 2 [[.sc (.slice none 0 0), .sc (.slice none 0 0)]]], [.cells 1 R1], [.cells 1 R2]]) ?_ ?_
      · (apply Sub.to [] [[(0,0)],[(1,0)],[(2,0)],[(3,0)]]; all_goals (repeat' (first | exact ToAll.nil | exact famsTo.nil | exact famTo.nil | exact ToL.nil | exact ToR.nil | refine ToAll.cons ?_ ?_ | refine famsTo.cons ?_ ?_ | refine wt10 ?_ ?_ | exact To.undef _ | exact To.sc _ | exact To.hslL rfl rfl | exact To.ptrO rfl rfl rfl | exact To.mrefO rfl | exact To.nil rfl rfl rfl | exact wt1 | exact To.nilL | refine To.int ?_ | refine To.bool ?_ | refine To.hslL rfl ?_ | refine wt2 rfl ?_ ?_ ?_ | refine To.tupL ?_ | refine To.aggL ?_ | refine To.cptrL ?_ | refine wt3 ?_ | refine wt4 ?_ | refine To.cloL ?_ ?_ | refine ToB.one ?_ | exact wt5 | refine wt6 ?_ | ((with_reducible apply ToL.consE); case e9 => rfl) | refine ToL.cons ?_ ?_ | exact wt7 | refine wt8 ?_ | exact wt11 | refine wt9 ?_ ?_ | refine wt12 ?_ | (with_reducible rfl) | assumption)); all_goals (first | rfl | assumption | (simp; done) | (simp; omega) | (rw [wrap_small (by omega) (by omega)]; done) | (rw [wrap_small (by omega) (by omega)]; omega) | (refine congrArg Nat.cast ?_; assumption) | skip))
      refine walkX ?_
      refine DK.nil ⟨by kernel_rfl, ?_⟩
      refine walkX ?_
      refine ⟨k + 1, by omega, by omega, ?_⟩
      rw [← f1, ← f2]
      (apply Sub.to [] [[(0,0)],[(1,0)],[(2,0)],[(3,0)]]; all_goals (repeat' (first | exact ToAll.nil | exact famsTo.nil | exact famTo.nil | exact ToL.nil | exact ToR.nil | refine ToAll.cons ?_ ?_ | refine famsTo.cons ?_ ?_ | refine wt10 ?_ ?_ | exact To.undef _ | exact To.sc _ | exact To.hslL rfl rfl | exact To.ptrO rfl rfl rfl | exact To.mrefO rfl | exact To.nil rfl rfl rfl | exact wt1 | exact To.nilL | refine To.int ?_ | refine To.bool ?_ | refine To.hslL rfl ?_ | refine wt2 rfl ?_ ?_ ?_ | refine To.tupL ?_ | refine To.aggL ?_ | refine To.cptrL ?_ | refine wt3 ?_ | refine wt4 ?_ | refine To.cloL ?_ ?_ | refine ToB.one ?_ | exact wt5 | refine wt6 ?_ | ((with_reducible apply ToL.consE); case e9 => rfl) | refine ToL.cons ?_ ?_ | exact wt7 | refine wt8 ?_ | exact wt11 | refine wt9 ?_ ?_ | refine wt12 ?_ | (with_reducible rfl) | assumption)); all_goals (first | rfl | assumption | (simp; done) | (simp; omega) | (rw [wrap_small (by omega) (by omega)]; done) | (rw [wrap_small (by omega) (by omega)]; omega) | (refine congrArg Nat.cast ?_; assumption) | skip))
    have hk : k = n := by omega
    subst hk
    have m3 := partN_len t O k
    have m4 := partN_len t K k
    rw [fillN_full m3, fillN_full m4]
    have m5 := natsR_len (partN t O k)
    have m6 := natsR_len (partN t K k)
    rw [m3] at m5
    rw [m4] at m6
    refine walkX ?_
    exact endW [] (⟨rfl, rfl⟩)
end Go.Proofs.Ytpkpfgpfkajkpaa
namespace Go.Proofs.Ytpkpfgpfkajkpaa
open Go.Av Go.Proofs
set_option maxRecDepth 20000
def gdG (n : Nat) : List Int → Nat × Bool
  | [] => (n, decide (n ≤ 64))
  | x :: l => if x < 1 ∨ 64 < x then (0, false) else gdG (n * x.toNat) l
def goodE (s : List Int) (w : List Bool) : Nat × Bool := if s.length < 1 ∨ 4 < s.length ∨ w.length ≠ s.length then (0, false) else gdG 1 s
theorem gd_big : ∀ {s : List Int} {n : Nat}, 64 < n → (gdG n s).2 = false
  | [], n, h => decide_eq_false (by omega)
  | x :: s, n, h => by
    unfold gdG
    split
    · rfl
    · refine gd_big (Nat.lt_of_lt_of_le h (Nat.le_mul_of_pos_right n (by omega)))
theorem gd_cnt : ∀ {s : List Int} {n : Nat}, 0 < n → n ≤ 64 → (gdG n s).2 = decide (0 < cntG n s) ∧ ((gdG n s).2 = true → (gdG n s).1 = cntG n s)
  | [], n, h0, h => ⟨by show decide (n ≤ 64) = decide (0 < n); rw [decide_eq_true h, decide_eq_true h0], fun _ => rfl⟩
  | x :: s, n, h0, h => by
    unfold gdG cntG
    by_cases hx : x < 1 ∨ 64 < x
    · rw [if_pos hx, if_pos (by omega)]
      exact ⟨rfl, fun h => by cases h⟩
    · rw [if_neg hx]
      obtain ⟨q, rfl⟩ : ∃ q : Nat, x = q := ⟨x.toNat, by omega⟩
      rw [Int.toNat_natCast]
      have hq : 1 ≤ q := by omega
      have hnq : 0 < n * q := Nat.mul_pos h0 hq
      by_cases hb : 64 < n * q
      · rw [if_pos (.inr (.inr (by rw [← Int.natCast_mul]; omega)))]
        have := @gd_big s _ hb
        exact ⟨this, fun e => by rw [this] at e; cases e⟩
      · rw [if_neg (by rw [← Int.natCast_mul]; omega)]
        exact gd_cnt hnq (by omega)
theorem good_cnt (s : List Int) (w : List Bool) : (goodE s w).2 = decide (0 < cntE s w) ∧ ((goodE s w).2 = true → (goodE s w).1 = cntE s w) := by
  unfold goodE cntE
  by_cases h : s.length < 1 ∨ 4 < s.length ∨ w.length ≠ s.length
  · rw [if_pos h, if_pos h]
    exact ⟨rfl, fun h => by cases h⟩
  · rw [if_neg h, if_neg h]
    exact gd_cnt (by omega) (by omega)
theorem mul_pow {n q k : Nat} (h : n ≤ 64 ^ k) (hq : q ≤ 64) : n * q ≤ 64 ^ (k + 1) := by
  rw [Nat.pow_succ]
  exact Nat.mul_le_mul h hq
set_option maxHeartbeats 4000000 in
theorem good_ok (s : List Int) (w : List Bool) : PureRun Try.prog 95 [gridV s w] (.tup [.sc (.int .i64 ((goodE s w).1 : Nat)), .sc (.bool (goodE s w).2)]) := by
  refine PureRun.of (allPure_cons (grid_pure s w) allPure_nil) (.tup _ (allPure_cons (.sc _) (allPure_cons (.sc _) allPure_nil))) (CallOK.mono (R := fun res H' => res = .tup [.sc (.int .i64 ((goodE s w).1 : Nat)), .sc (.bool (goodE s w).2)] ∧ H' = []) ?_ fun _ _ h => h.1)
  unfold gridV
  refine CallOK.of cF95 ?_ (Nat.le_of_ble_eq_true rfl)
  have e0 := intsR_len s
  have ew := boolsR_len w
  by_cases h1 : s.length < 1
  · have e : goodE s w = (0, false) := if_pos (.inl h1)
    rw [e]
    refine walkX ?_
    rw [e0, decide_eq_true h1]
    refine walkX ?_
    exact endW [] (⟨rfl, rfl⟩)
  by_cases h2 : 4 < s.length
  · have e : goodE s w = (0, false) := if_pos (.inr (.inl h2))
    rw [e]
    refine walkX ?_
    rw [e0, decide_eq_false h1]
    refine walkX ?_
    rw [e0, decide_eq_true h2]
    refine walkX ?_
    exact endW [] (⟨rfl, rfl⟩)
  by_cases h3 : w.length = s.length
  case neg =>
    have e : goodE s w = (0, false) := if_pos (.inr (.inr h3))
    rw [e]
    refine walkX ?_
    rw [e0, decide_eq_false h1]
    refine walkX ?_
    rw [e0, decide_eq_false h2]
    refine walkX ?_
    rw [ew, e0, decide_eq_false h3]
    refine walkX ?_
    exact endW [] (⟨rfl, rfl⟩)
  have hc : goodE s w = gdG 1 s := if_neg (by omega)
  refine walkX ?_
  rw [e0, decide_eq_false h1]
  refine walkX ?_
  rw [e0, decide_eq_false h2]
  refine walkX ?_
  rw [ew, e0, decide_eq_true h3]
  refine walkX ?_
  refine AWP.loop (fun q : Nat × Nat => [(1, .ptr 0 0 0 0), (4, .sc (.int .i64 (q.2 : Int))), (5, .sc (.int .i64 (q.1 : Int)))])
    (fun _ => [[.cells 2 [[.list 1 (intsR s), .list 1 (boolsR w)]]]]) (fun q => q.1 ≤ s.length ∧ q.2 ≤ 64 ^ q.1 ∧ goodE s w = gdG q.2 (s.drop q.1)) (fun q => s.length - q.1) (0, 1) ⟨Nat.zero_le _, by decide, hc⟩ ?_ ?_
  · exact Sub.w [] [[(0,0)]]
  rintro ⟨k, n⟩ ⟨hk, hn, hcn⟩
  dsimp only at hk hn hcn ⊢
  have hn3 : n ≤ 16777216 := Nat.le_trans hn (Nat.le_trans (Nat.pow_le_pow_right (n := 64) (by omega) (show k ≤ 4 by omega)) (by decide))
  refine walkX ?_
  rw [e0]
  refine walkX ?_
  refine AWP.condD rfl (fun h => ?_) (fun h => ?_)
  · have hr := intsR_ix s k h
    have hd : gdG n (s.drop k) = if s[k] < 1 ∨ 64 < s[k] then (0, false) else gdG (n * s[k].toNat) (s.drop (k + 1)) := by
      rw [List.drop_eq_getElem_cons h]
      rfl
    rw [hd] at hcn
    clear hd
    generalize s[k] = x at *
    by_cases x1 : x < 1
    · rw [if_pos (.inl x1)] at hcn
      rw [hcn]
      refine walkX ?_
      rw [decide_eq_true x1]
      refine walkX ?_
      exact endW [] (⟨rfl, rfl⟩)
    by_cases x2 : 64 < x
    · rw [if_pos (.inr x2)] at hcn
      rw [hcn]
      refine walkX ?_
      rw [decide_eq_false x1]
      refine walkX ?_
      rw [decide_eq_true x2]
      refine walkX ?_
      exact endW [] (⟨rfl, rfl⟩)
    obtain ⟨q, rfl⟩ : ∃ q : Nat, x = q := ⟨x.toNat, by omega⟩
    have hq : q ≤ 64 := by omega
    have hnq : n * q ≤ 16777216 * 64 := Nat.mul_le_mul hn3 hq
    have hnp := mul_pow hn hq
    rw [if_neg (by omega), Int.toNat_natCast] at hcn
    refine walkX ?_
    rw [decide_eq_false (show ¬ q < 1 by omega)]
    refine walkX ?_
    rw [decide_eq_false (show ¬ 64 < q by omega)]
    refine walkX ?_
    refine ⟨(k + 1, n * q), ⟨by dsimp only; omega, hnp, hcn⟩, by dsimp only; omega, ?_⟩
    exact Sub.w [] [[(0,0)]]
  have hk : k = s.length := by omega
  subst hk
  rw [List.drop_length] at hcn
  have e : goodE s w = (n, decide (n ≤ 64)) := hcn
  rw [e]
  refine walkX ?_
  exact endW [] (⟨rfl, rfl⟩)
set_option maxHeartbeats 8000000 in
theorem rank_doc (s : List Nat) (w : List Bool) (c : List Int) (hw : w.length = s.length) (hc : c.length = s.length) (h4 : s.length ≤ 4) (hs : ∀ a ∈ s, 1 ≤ a ∧ a ≤ 64) : PureRun Try.prog 96 [gridV (natI s) w, .list 1 (intsR c)] (.sc (.int .i64 (rkG 0 s w c))) := by
  refine PureRun.of (allPure_cons (grid_pure _ _) (allPure_cons (.list _ _ (prs _)) allPure_nil)) (.sc _) (CallOK.mono (R := fun res H' => res = .sc (.int .i64 (rkG 0 s w c)) ∧ H' = []) ?_ fun _ _ h => h.1)
  unfold gridV
  rw [← natsR_I]
  refine CallOK.of cF96 ?_ (Nat.le_of_ble_eq_true rfl)
  have e0 := natsR_len s
  have ew := boolsR_len w
  have ec := intsR_len c
  refine walkX ?_
  refine AWP.loop (fun q : Nat × Nat => [(1, .list 1 (intsR c)), (2, .ptr 0 0 0 0), (5, .sc (.int .i64 (q.2 : Int))), (6, .sc (.int .i64 (q.1 : Int)))])
    (fun _ => [[.cells 2 [[.list 1 (natsR s), .list 1 (boolsR w)]]]]) (fun q => q.1 ≤ s.length ∧ q.2 < 64 ^ q.1 ∧ rkG 0 s w c = rkG q.2 (s.drop q.1) (w.drop q.1) (c.drop q.1)) (fun q => s.length - q.1) (0, 0) ⟨Nat.zero_le _, by decide, rfl⟩ ?_ ?_
  · exact Sub.w [] [[(0,0)]]
  rintro ⟨k, n⟩ ⟨hk, hn, hcn⟩
  dsimp only at hk hn hcn ⊢
  refine walkX ?_
  rw [ec]
  refine walkX ?_
  refine AWP.condD rfl (fun h => ?_) (fun h => ?_)
  · have h1 : k < s.length := by omega
    have hrs := natsR_ix s k h1
    have hrw := boolsR_ix w k (by omega)
    have hrc := intsR_ix c k h
    rw [rkG_drop h1 (by omega) h] at hcn
    have ha := hs _ (List.getElem_mem h1)
    have hn2 := @lt_pow n s[k] (wrapI w[k] c[k] s[k]).toNat k hn ha.2
    have hn3 := pow_le hn hk h4
    generalize s[k] = a at *
    generalize c[k] = x at *
    have hwr := modulo_ok x a (by omega) (by omega)
    cases hb : w[k] with
    | true =>
      rw [hb] at hrw hcn hn2
      have e9 : wrapI true x a = x % (a : Int) := rfl
      rw [e9] at hcn hn2
      have h0 : 0 ≤ x % (a : Int) := Int.emod_nonneg _ (by omega)
      have h9 : x % (a : Int) < a := Int.emod_lt_of_pos _ (by omega)
      rw [if_neg (by omega)] at hcn
      obtain ⟨y, hy⟩ : ∃ y : Nat, x % (a : Int) = y := ⟨(x % (a : Int)).toNat, by omega⟩
      rw [hy] at hwr hcn hn2 h9
      rw [Int.toNat_natCast] at hcn hn2
      have hn4 : n * a ≤ 16777216 * 64 := Nat.mul_le_mul (by omega) ha.2
      refine walkX ?_
      rw [decide_eq_false (show ¬ a ≤ y by omega)]
      refine walkX ?_
      refine ⟨(k + 1, n * a + y), ⟨by dsimp only; omega, hn2 (by omega), hcn⟩, by dsimp only; omega, ?_⟩
      exact Sub.w [] [[(0,0)]]
    | false =>
      rw [hb] at hrw hcn hn2
      have e9 : wrapI false x a = x := rfl
      rw [e9] at hcn hn2
      by_cases x0 : x < 0
      · rw [if_pos (.inl x0)] at hcn
        have hres : AV.sc (Value.int .i64 (-2)) = .sc (.int .i64 (rkG 0 s w c)) := by rw [hcn]
        refine walkX ?_
        rw [decide_eq_true x0]
        refine walkX ?_
        exact endW [] (⟨hres, rfl⟩)
      obtain ⟨y, rfl⟩ : ∃ y : Nat, x = y := ⟨x.toNat, by omega⟩
      rw [Int.toNat_natCast] at hcn hn2
      by_cases x1 : a ≤ y
      · rw [if_pos (.inr (by omega))] at hcn
        have hres : AV.sc (Value.int .i64 (-2)) = .sc (.int .i64 (rkG 0 s w c)) := by rw [hcn]
        refine walkX ?_
        rw [decide_eq_true x1]
        refine walkX ?_
        exact endW [] (⟨hres, rfl⟩)
      rw [if_neg (by omega)] at hcn
      have hn4 : n * a ≤ 16777216 * 64 := Nat.mul_le_mul (by omega) ha.2
      refine walkX ?_
      rw [decide_eq_false x1]
      refine walkX ?_
      refine ⟨(k + 1, n * a + y), ⟨by dsimp only; omega, hn2 (by omega), hcn⟩, by dsimp only; omega, ?_⟩
      exact Sub.w [] [[(0,0)]]
  have hk : k = s.length := by omega
  subst hk
  rw [List.drop_length] at hcn
  have hres : AV.sc (Value.int .i64 (n : Int)) = .sc (.int .i64 (rkG 0 s w c)) := by rw [hcn]; rfl
  refine walkX ?_
  exact endW [] (⟨hres, rfl⟩)
set_option maxHeartbeats 8000000 in
theorem coords_doc (s : List Nat) (w : List Bool) (r : Nat) (hs : s.length ≤ 1000) (h0 : ∀ a ∈ s, 1 ≤ a ∧ a ≤ 64) (hr : r ≤ 1000000) :
    CallOK Try.prog 98 [gridV (natI s) w, .sc (.int .i64 (r : Int))] [] fun res H' => res = .hsl 0 0 0 s.length ∧ H' = [[.cells 1 (natsR (coordN s r))]] := by
  unfold gridV
  rw [← natsR_I]
  refine CallOK.of cF98 ?_ (Nat.le_of_ble_eq_true rfl)
  have e0 := natsR_len s
  refine walkX ?_
  rw [e0]
  refine Reg.o rfl (dstep_mk (n := s.length) rfl (by omega) (by omega)) ?_
  refine walkX ?_
  have hz : List.replicate s.length (zrow [(1, Value.int .i64 0)]) = natsR (coordsAt s r s.length) := by
    unfold coordsAt natsR
    rw [List.drop_length]
    simp [coordN, zrow]
  rw [wrap_small (n := (s.length : Int) - 1) (by omega) (by omega)]
  refine AWP.loop (fun p : Nat => [(1, .sc (.int .i64 ((r / prodN (s.drop p) : Nat) : Int))), (2, .ptr 0 0 0 0), (5, .hsl 1 0 0 s.length), (6, .sc (.int .i64 ((p : Int) - 1)))])
    (fun p => [[.cells 2 [[.list 1 (natsR s), .list 1 (boolsR w)]]], [.cells 1 (natsR (coordsAt s r p))]]) (fun p => p ≤ s.length) (fun p => p) s.length (Nat.le_refl _) ?_ ?_
  · rw [← hz, List.drop_length, show prodN [] = 1 from rfl, Nat.div_one]
    exact Sub.wx [] [[(0,0)],[(1,0)]]
  rintro p hp
  by_cases hp0 : p = 0
  · subst hp0
    rw [show ((0 : Nat) : Int) - 1 = -1 from rfl]
    have e1 : (natsR (coordsAt s r 0)).length = s.length := by rw [natsR_len, coordsAt_len (Nat.zero_le _)]
    have e2 : coordsAt s r 0 = coordN s r := by simp [coordsAt]
    refine walkX ?_
    rw [e2] at *
    exact endW [[(1,0)]] (⟨rfl, rfl⟩)
  obtain ⟨m, rfl⟩ : ∃ m, p = m + 1 := ⟨p - 1, by omega⟩
  rw [show ((m + 1 : Nat) : Int) - 1 = (m : Int) by omega]
  have hm : m < s.length := by omega
  have ha := h0 _ (List.getElem_mem hm)
  have hset := coordsAt_set (r := r) hm
  have hpd := prodN_drop hm
  have hlen := coordsAt_len (s := s) (r := r) (p := m + 1) hp
  have hdiv : r / prodN (s.drop m) = r / prodN (s.drop (m + 1)) / s[m] := by rw [hpd, Nat.div_div_eq_div_mul, Nat.mul_comm]
  have hrl : r / prodN (s.drop (m + 1)) ≤ r := Nat.div_le_self _ _
  have hsm := natsR_ix s m hm
  obtain ⟨v, x0⟩ : ∃ v : Nat, (natsR (coordsAt s r (m + 1)))[m]? = some [.sc (.int .i64 (v : Int))] := ⟨_, by have := natsR_ix (coordsAt s r (m + 1)) m (by omega); rwa [rowIx_nat] at this⟩
  have x1 := natsR_len (coordsAt s r (m + 1))
  rw [hlen] at x1
  have hset2 := natsR_set (coordsAt s r (m + 1)) m (r / prodN (s.drop (m + 1)) % s[m])
  rw [hset] at hset2
  have hpr : PRs (natsR (coordsAt s r (m + 1))) := inferInstance
  clear hset hpd hlen
  generalize r / prodN (s.drop (m + 1)) = R at *
  generalize natsR (coordsAt s r (m + 1)) = rows at *
  generalize s[m] = a at *
  obtain ⟨ha1, ha2⟩ := ha
  refine walkX ?_
  refine ⟨m, by omega, by omega, ?_⟩
  rw [hdiv, ← hset2]
  rw [wrap_small (n := (m : Int) - 1) (by omega) (by omega)]
  exact Sub.wx [] [[(0,0)],[(1,0)]]
end Go.Proofs.Ytpkpfgpfkajkpaa
namespace Go.Proofs.Ytpkpfgpfkajkpaa
open Go.Av Go.Proofs
set_option maxRecDepth 20000
theorem coordsD_at (s : List Nat) (w : List Bool) (r : Nat) (h4 : s.length ≤ 4) (hs : ∀ a ∈ s, 1 ≤ a ∧ a ≤ 64) (hr : r ≤ 1000000) (H : Heap) :
    CallOK Try.prog 98 [gridV (natI s) w, .sc (.int .i64 (r : Int))] H fun res H' => res = .hsl H.length 0 0 s.length ∧ H' = H ++ [[.cells 1 (natsR (coordN s r))]] := by
  refine CallOK.viewL (fun q hq c hc => ?_) (coords_doc s w r (by omega) hs hr) (ToL.cons (To.pure (grid_pure _ _)) (ToL.cons (To.sc _) ToL.nil))
  obtain ⟨n, _, rfl⟩ := List.mem_map.1 hq
  exact ⟨_, List.mem_singleton.1 hc⟩
def movedV (s : List Nat) (w : List Bool) (r d : Nat) (b : Int) (back : Bool) : Int :=
  if wrapI (w.getD d false) b (s.getD d 0) ≤ -(s.getD d 0 : Int) ∨ (s.getD d 0 : Int) ≤ wrapI (w.getD d false) b (s.getD d 0) then -2
  else movedE s w r d (if back then -wrapI (w.getD d false) b (s.getD d 0) else wrapI (w.getD d false) b (s.getD d 0))
theorem moved_shift (s : List Nat) (w : List Bool) (r d : Nat) (b : Int) : shiftE s w r d b = (movedV s w r d b true, movedV s w r d b false) := by
  unfold shiftE movedV
  split <;> rfl
set_option maxHeartbeats 8000000 in
theorem moved_ok (s : List Nat) (w : List Bool) (r d : Nat) (b : Int) (back : Bool) (hw : w.length = s.length) (h4 : s.length ≤ 4) (hs : ∀ a ∈ s, 1 ≤ a ∧ a ≤ 64) (hr : r ≤ 1000) (hd : d < s.length) (hb : -9223372036854775808 ≤ b ∧ b ≤ 9223372036854775807) :
    PureRun Try.prog 99 [gridV (natI s) w, .sc (.int .i64 (r : Int)), .sc (.int .i64 (d : Int)), .sc (.int .i64 b), .sc (.bool back)] (.sc (.int .i64 (movedV s w r d b back))) := by
  refine PureRun.of (allPure_cons (grid_pure _ _) (allPure_cons (.sc _) (allPure_cons (.sc _) (allPure_cons (.sc _) (allPure_cons (.sc _) allPure_nil))))) (.sc _) (CallOK.mono (R := fun res H' => res = .sc (.int .i64 (movedV s w r d b back)) ∧ H' = []) ?_ fun _ _ h => h.1)
  have hco := fun H => coordsD_at s w r h4 hs (by omega) H
  have hrk := fun c hc => rank_doc s w c hw hc h4 hs
  unfold gridV at hco hrk ⊢
  rw [← natsR_I] at hco hrk ⊢
  have hds := natsR_ix s d hd
  have hdw := boolsR_ix w d (by omega)
  have g1 : s.getD d 0 = s[d] := by simp [hd]
  have g2 : w.getD d false = w[d]'(by omega) := by simp [hw, hd]
  have ha := hs _ (List.getElem_mem hd)
  have hcl := coordN_len s r
  have hcd := natsR_ix (coordN s r) d (by omega)
  have hcr := coord_rng s r hs d (by omega) hd
  have g3 : (coordN s r).getD d 0 = (coordN s r)[d]'(by omega) := by simp [hcl, hd]
  have hsh : movedV s w r d b back = (if wrapI (w[d]'(by omega)) b s[d] ≤ -(s[d] : Int) ∨ (s[d] : Int) ≤ wrapI (w[d]'(by omega)) b s[d] then -2 else movedE s w r d (if back then -wrapI (w[d]'(by omega)) b s[d] else wrapI (w[d]'(by omega)) b s[d])) := by
    unfold movedV
    rw [g1, g2]
  have hmv : ∀ y, movedE s w r d y = rkG 0 s w ((natI (coordN s r)).set d (((coordN s r)[d]'(by omega) : Nat) + y)) := fun y => by unfold movedE; rw [g3]
  have hset : ∀ y : Int, (natsR (coordN s r)).set d [.sc (.int .i64 y)] = intsR ((natI (coordN s r)).set d y) := fun y => by rw [natsR_I, intsR_set]
  have hwr := modulo_ok b s[d] (by omega) (by omega)
  have hcl2 := natsR_len (coordN s r)
  have hcl3 : ∀ y, ((natI (coordN s r)).set d y).length = s.length := fun y => by rw [List.length_set, natI_len, hcl]
  generalize (coordN s r)[d]'(by omega) = cd at *
  generalize w[d]'(by omega) = wd at *
  generalize s[d] = a at *
  clear g1 g2 g3
  refine CallOK.of cF99 ?_ (Nat.le_of_ble_eq_true rfl)
  have hwi : wrapI wd b a = if wd then b % (a : Int) else b := rfl
  have hem : (0 : Int) ≤ b % (a : Int) := Int.emod_nonneg _ (by omega)
  have hem2 : b % (a : Int) < a := Int.emod_lt_of_pos _ (by omega)
  have hy0 : -9223372036854775808 ≤ wrapI wd b a ∧ wrapI wd b a ≤ 9223372036854775807 := by rw [hwi]; split <;> omega
  refine walkX ?_
  refine Reg.c (Nat.zero_le _) rfl ((hco _).mono ?_)
  rintro res H' ⟨rfl, rfl⟩
  refine walkX ?_
  refine AWP.joinT0 [(2, .sc (.int .i64 (d : Int))), (3, .sc (.int .i64 (wrapI wd b a))), (4, .sc (.bool back)), (5, .ptr 0 0 0 0), (11, .hsl 1 0 0 s.length), (12, .sc (.int .i64 (a : Int)))] [[.cells 2 [[.list 1 (natsR s), .list 1 (boolsR w)]]], [.cells 1 (natsR (coordN s r))]] ?_ ?_
  · cases wd with
    | true =>
      have e9 : wrapI true b a = b % (a : Int) := rfl
      rw [e9]
      refine walkX ?_
      exact Sub.w [] [[(0,0)],[(1,0)]]
    | false =>
      have e9 : wrapI false b a = b := rfl
      rw [e9]
      refine walkX ?_
      exact Sub.w [] [[(0,0)],[(1,0)]]
  clear hwi hwr
  generalize wrapI wd b a = y at *
  by_cases y1 : y ≤ -(a : Int)
  · rw [if_pos (.inl y1)] at hsh
    rw [hsh]
    refine walkX ?_
    rw [wrap_small (by omega) (by omega), Int.zero_sub, decide_eq_true y1]
    refine walkX ?_
    exact endW [] (⟨rfl, rfl⟩)
  by_cases y2 : (a : Int) ≤ y
  · rw [if_pos (.inr y2)] at hsh
    rw [hsh]
    refine walkX ?_
    rw [wrap_small (by omega) (by omega), Int.zero_sub, decide_eq_false y1]
    refine walkX ?_
    rw [decide_eq_true y2]
    refine walkX ?_
    exact endW [] (⟨rfl, rfl⟩)
  rw [if_neg (by omega)] at hsh
  rw [hsh, hmv]
  refine walkX ?_
  rw [wrap_small (by omega) (by omega), Int.zero_sub, decide_eq_false y1]
  refine walkX ?_
  rw [decide_eq_false y2]
  refine walkX ?_
  have hz1 : -9223372036854775808 ≤ (if back then -y else y) + cd := by split <;> omega
  have hz2 : (if back then -y else y) + cd ≤ 9223372036854775807 := by split <;> omega
  refine AWP.joinT0 [(2, .sc (.int .i64 (d : Int))), (3, .sc (.int .i64 (if back then -y else y))), (5, .ptr 0 0 0 0), (11, .hsl 1 0 0 s.length)] [[.cells 2 [[.list 1 (natsR s), .list 1 (boolsR w)]]], [.cells 1 (natsR (coordN s r))]] ?_ ?_
  · cases back with
    | true =>
      rw [if_pos rfl]
      refine walkX ?_
      rw [wrap_small (by omega) (by omega), Int.zero_sub]
      exact Sub.w [] [[(0,0)],[(1,0)]]
    | false =>
      rw [if_neg (by simp)]
      refine walkX ?_
      exact Sub.w [] [[(0,0)],[(1,0)]]
  generalize (if back then -y else y) = z at *
  have hr1 := hrk _ (hcl3 (cd + z))
  refine walkX0 ?_
  have k1 := hset (cd + z)
  have q1 : (intsR ((natI (coordN s r)).set d (cd + z))).length = s.length := by rw [intsR_len, hcl3]
  rw [wrap_small (n := (cd : Int) + z) (by omega) (by omega)]
  refine Reg.sub (fr' := [(48, .agg [.list 1 (natsR s), .list 1 (boolsR w)]), (49, .list 1 (intsR ((natI (coordN s r)).set d (cd + z))))]) (H' := []) ?_ ?_
  · exact Sub.w [] []
  refine walkX ?_
  exact endW [] (⟨rfl, rfl⟩)
set_option maxHeartbeats 4000000 in
theorem chk_doc (s : List Int) (w : List Bool) (r : Int) : PureRun Try.prog 97 [gridV s w, .sc (.int .i64 r)] (.sc (.int .i64 (chkE s w r))) := by
  refine PureRun.of (allPure_cons (grid_pure _ _) (allPure_cons (.sc _) allPure_nil)) (.sc _) (CallOK.mono (R := fun res H' => res = .sc (.int .i64 (chkE s w r)) ∧ H' = []) ?_ fun _ _ h => h.1)
  have hc := good_ok s w
  obtain ⟨g1, g2⟩ := good_cnt s w
  unfold gridV at hc ⊢
  refine CallOK.of cF97 ?_ (Nat.le_of_ble_eq_true rfl)
  unfold chkE
  generalize cntE s w = n at *
  generalize goodE s w = p at *
  obtain ⟨m, good⟩ := p
  dsimp only at hc g1 g2
  by_cases h1 : n = 0
  · subst h1
    rw [g1] at hc
    refine walkX ?_
    exact endW [] (⟨rfl, rfl⟩)
  rw [decide_eq_true (by omega)] at g1
  rw [g1] at hc
  rw [g2 g1] at hc
  rw [if_neg h1]
  by_cases h2 : r < 0
  · rw [if_pos (.inl h2)]
    refine walkX ?_
    rw [decide_eq_true h2]
    refine walkX ?_
    exact endW [] (⟨rfl, rfl⟩)
  obtain ⟨q, rfl⟩ : ∃ q : Nat, r = q := ⟨r.toNat, by omega⟩
  by_cases h3 : n ≤ q
  · rw [if_pos (.inr (by omega))]
    refine walkX ?_
    rw [decide_eq_true h3]
    refine walkX ?_
    exact endW [] (⟨rfl, rfl⟩)
  · rw [if_neg (by omega)]
    refine walkX ?_
    rw [decide_eq_false h3]
    refine walkX ?_
    exact endW [] (⟨rfl, rfl⟩)
set_option maxHeartbeats 4000000 in
theorem coordsX_doc (s : List Int) (w : List Bool) (r : Int) : PureRun Try.prog 53 [gridV s w, .sc (.int .i64 r)] (.tup [.list 1 (intsR (coordsA s w r).2), .sc (.int .i64 (coordsA s w r).1)]) := by
  refine PureRun.of (allPure_cons (grid_pure _ _) (allPure_cons (.sc _) allPure_nil)) (.tup _ (allPure_cons (.list _ _ (prs _)) (allPure_cons (.sc _) allPure_nil))) (CallOK.mono (R := fun res H' => res = .tup [.list 1 (intsR (coordsA s w r).2), .sc (.int .i64 (coordsA s w r).1)] ∧ H' = []) ?_ fun _ _ h => h.1)
  refine CallOK.of cF53 ?_ (Nat.le_of_ble_eq_true rfl)
  have hc := chk_doc s w r
  unfold coordsA
  by_cases h : chkE s w r = 0
  · rw [h] at hc
    obtain ⟨t, q, rfl, e1, rfl, hq, hw, h1, h4, hs, _⟩ := chk0 h
    rw [e1, Int.toNat_natCast]
    have hco := coordsD_at t w q h4 hs (by omega)
    have e2 : gA (chkE (natI t) w q) (natI (coordN t q)) = (0, natI (coordN t q)) := if_pos h
    rw [e2, ← natsR_I]
    unfold gridV at hc hco ⊢
    refine walkX ?_
    refine Reg.c (Nat.zero_le _) rfl ((hco _).mono ?_)
    rintro res H' ⟨rfl, rfl⟩
    refine walkX ?_
    have e4 : (natsR (coordN t q)).length = t.length := by rw [natsR_len, coordN_len]
    exact endW [] (⟨rfl, rfl⟩)
  · have e2 : gA (chkE s w r) (natI (coordN (nats s) r.toNat)) = (chkE s w r, []) := if_neg h
    rw [e2]
    unfold gridV at hc ⊢
    refine walkX ?_
    rw [show (chkE s w r != 0) = true from by simpa using h]
    refine walkX ?_
    exact endW [] (⟨rfl, rfl⟩)
set_option maxHeartbeats 4000000 in
theorem rankX_doc (s : List Int) (w : List Bool) (c : List Int) : PureRun Try.prog 52 [gridV s w, .list 1 (intsR c)] (.tup [.sc (.int .i64 (rankA s w c).1), .sc (.int .i64 (rankA s w c).2)]) := by
  refine PureRun.of (allPure_cons (grid_pure _ _) (allPure_cons (.list _ _ (prs _)) allPure_nil)) (.tup _ (allPure_cons (.sc _) (allPure_cons (.sc _) allPure_nil))) (CallOK.mono (R := fun res H' => res = .tup [.sc (.int .i64 (rankA s w c).1), .sc (.int .i64 (rankA s w c).2)] ∧ H' = []) ?_ fun _ _ h => h.1)
  refine CallOK.of cF52 ?_ (Nat.le_of_ble_eq_true rfl)
  have hc := good_ok s w
  obtain ⟨g1, g2⟩ := good_cnt s w
  have l1 := intsR_len s
  have l2 := intsR_len c
  by_cases h : cntE s w = 0
  · have e : rankA s w c = (0, 2) := if_pos h
    rw [h] at g1
    rw [g1] at hc
    rw [e]
    unfold gridV at hc ⊢
    refine walkX ?_
    exact endW [] (⟨rfl, rfl⟩)
  obtain ⟨t, rfl, hw, h1, h4, hs, _, _⟩ := cntE_good (s := s) (w := w) (by omega)
  rw [decide_eq_true (by omega)] at g1
  rw [g1] at hc
  rw [natI_len] at l1
  have e0 : rankA (natI t) w c = (if c.length ≠ (natI t).length then (0, 26) else if rkG 0 (nats (natI t)) w c = -2 then (0, 3) else (rkG 0 (nats (natI t)) w c, 0)) := if_neg h
  rw [natI_len, nats_I] at e0
  by_cases hl : c.length = t.length
  case neg =>
    rw [if_pos hl] at e0
    rw [e0]
    unfold gridV at hc ⊢
    refine walkX ?_
    rw [l1, l2, decide_eq_false hl]
    refine walkX ?_
    exact endW [] (⟨rfl, rfl⟩)
  have hrk := rank_doc t w c hw hl h4 hs
  rw [if_neg (by omega)] at e0
  generalize rkG 0 t w c = k at *
  unfold gridV at hc hrk ⊢
  by_cases hk : k = -2
  · subst hk
    rw [if_pos rfl] at e0
    rw [e0]
    refine walkX ?_
    rw [l1, l2, decide_eq_true hl]
    refine walkX ?_
    exact endW [] (⟨rfl, rfl⟩)
  · rw [if_neg hk] at e0
    rw [e0]
    refine walkX ?_
    rw [l1, l2, decide_eq_true hl]
    refine walkX ?_
    rw [beq_false_of_ne hk]
    refine walkX ?_
    exact endW [] (⟨rfl, rfl⟩)
set_option maxHeartbeats 4000000 in
theorem shiftX_doc (s : List Int) (w : List Bool) (r d b : Int) (hb : -9223372036854775808 ≤ b ∧ b ≤ 9223372036854775807) :
    PureRun Try.prog 54 [gridV s w, .sc (.int .i64 r), .sc (.int .i64 d), .sc (.int .i64 b)] (.tup [.sc (.int .i64 (shiftA s w r d b).1.1), .sc (.int .i64 (shiftA s w r d b).1.2), .sc (.int .i64 (shiftA s w r d b).2)]) := by
  refine PureRun.of (allPure_cons (grid_pure _ _) (allPure_cons (.sc _) (allPure_cons (.sc _) (allPure_cons (.sc _) allPure_nil)))) (.tup _ (allPure_cons (.sc _) (allPure_cons (.sc _) (allPure_cons (.sc _) allPure_nil)))) (CallOK.mono (R := fun res H' => res = .tup [.sc (.int .i64 (shiftA s w r d b).1.1), .sc (.int .i64 (shiftA s w r d b).1.2), .sc (.int .i64 (shiftA s w r d b).2)] ∧ H' = []) ?_ fun _ _ h => h.1)
  refine CallOK.of cF54 ?_ (Nat.le_of_ble_eq_true rfl)
  have hc := chk_doc s w r
  have l1 := intsR_len s
  by_cases h : chkE s w r = 0
  case neg =>
    have e : shiftA s w r d b = ((0, 0), chkE s w r) := if_neg h
    rw [e]
    unfold gridV at hc ⊢
    refine walkX ?_
    rw [show (chkE s w r != 0) = true from by simpa using h]
    refine walkX ?_
    exact endW [] (⟨rfl, rfl⟩)
  have e : shiftA s w r d b = (if d < 0 ∨ (s.length : Int) ≤ d then ((0, 0), 3) else (shiftE (nats s) w r.toNat d.toNat b, 0)) := if_pos h
  obtain ⟨t, q, rfl, e1, rfl, hq, hw, h1, h4, hs, _⟩ := chk0 h
  rw [h] at hc
  rw [e1, Int.toNat_natCast, natI_len] at e
  rw [natI_len] at l1
  by_cases d1 : d < 0
  · rw [if_pos (.inl d1)] at e
    rw [e]
    unfold gridV at hc ⊢
    refine walkX ?_
    rw [decide_eq_true d1]
    refine walkX ?_
    exact endW [] (⟨rfl, rfl⟩)
  obtain ⟨k, rfl⟩ : ∃ k : Nat, d = k := ⟨d.toNat, by omega⟩
  by_cases d2 : t.length ≤ k
  · rw [if_pos (.inr (by omega))] at e
    rw [e]
    unfold gridV at hc ⊢
    refine walkX ?_
    rw [l1, decide_eq_true d2]
    refine walkX ?_
    exact endW [] (⟨rfl, rfl⟩)
  rw [if_neg (by omega), Int.toNat_natCast] at e
  rw [e, moved_shift]
  have hsh1 := moved_ok t w q k b true hw h4 hs (by omega) (by omega) hb
  have hsh2 := moved_ok t w q k b false hw h4 hs (by omega) (by omega) hb
  generalize movedV t w q k b true = p1 at *
  generalize movedV t w q k b false = p2 at *
  unfold gridV at hc hsh1 hsh2 ⊢
  refine walkX ?_
  rw [l1, decide_eq_false d2]
  refine walkX ?_
  refine DK.nil ⟨by kernel_rfl, ?_⟩
  refine walkX ?_
  exact endW [] (⟨rfl, rfl⟩)
set_option maxHeartbeats 4000000 in
theorem nearX_doc (s : List Int) (w : List Bool) (r : Int) : PureRun Try.prog 55 [gridV s w, .sc (.int .i64 r)] (.tup [.list 1 (intsR (nearA s w r).2), .sc (.int .i64 (nearA s w r).1)]) := by
  refine PureRun.of (allPure_cons (grid_pure _ _) (allPure_cons (.sc _) allPure_nil)) (.tup _ (allPure_cons (.list _ _ (prs _)) (allPure_cons (.sc _) allPure_nil))) (CallOK.mono (R := fun res H' => res = .tup [.list 1 (intsR (nearA s w r).2), .sc (.int .i64 (nearA s w r).1)] ∧ H' = []) ?_ fun _ _ h => h.1)
  refine CallOK.of cF55 ?_ (Nat.le_of_ble_eq_true rfl)
  have hc := chk_doc s w r
  have l1 := intsR_len s
  unfold nearA
  by_cases h : chkE s w r = 0
  case neg =>
    have e2 : gA (chkE s w r) (nearN (nats s) w r.toNat s.length) = (chkE s w r, []) := if_neg h
    rw [e2]
    unfold gridV at hc ⊢
    refine walkX ?_
    rw [show (chkE s w r != 0) = true from by simpa using h]
    refine walkX ?_
    exact endW [] (⟨rfl, rfl⟩)
  rw [h] at hc
  obtain ⟨t, q, rfl, e1, rfl, hq, hw, h1, h4, hs, _⟩ := chk0 h
  rw [natI_len] at l1
  rw [e1, Int.toNat_natCast, natI_len]
  have e2 : gA (chkE (natI t) w q) (nearN t w q t.length) = (0, nearN t w q t.length) := if_pos h
  rw [e2]
  have hsh := fun d b hd => moved_ok t w q d 1 b hw h4 hs (by omega) hd (by omega)
  unfold gridV at hc hsh ⊢
  refine walkX ?_
  refine AWP.loop (fun k : Nat => [(1, .sc (.int .i64 (q : Int))), (2, .ptr 0 0 0 0), (7, .hsl 1 0 0 (nearN t w q k).length), (8, .sc (.int .i64 (k : Int)))])
    (fun k => [[.cells 2 [[.list 1 (intsR (natI t)), .list 1 (boolsR w)]]], [.cells 1 (intsR (nearN t w q k))]]) (fun k => k ≤ t.length) (fun k => t.length - k) 0 (Nat.zero_le _) ?_ ?_
  · (apply Sub.to [1] [[(0,0)],[(1,0)]]; all_goals (repeat' (first | exact ToAll.nil | exact famsTo.nil | exact famTo.nil | exact ToL.nil | exact ToR.nil | refine ToAll.cons ?_ ?_ | refine famsTo.cons ?_ ?_ | refine wt10 ?_ ?_ | exact To.undef _ | exact To.sc _ | exact To.hslL rfl rfl | exact To.ptrO rfl rfl rfl | exact To.mrefO rfl | exact To.nil rfl rfl rfl | exact wt1 | exact To.nilL | refine To.int ?_ | refine To.bool ?_ | refine To.hslL rfl ?_ | refine wt2 rfl ?_ ?_ ?_ | refine To.tupL ?_ | refine To.aggL ?_ | refine To.cptrL ?_ | refine wt3 ?_ | refine wt4 ?_ | refine To.cloL ?_ ?_ | exact wt5 | refine wt6 ?_ | refine ToB.one ?_ | exact wt7 | ((with_reducible apply ToL.consE); case e9 => rfl) | refine wt8 ?_ | refine ToL.cons ?_ ?_ | exact wt11 | refine wt9 ?_ ?_ | refine wt12 ?_ | (with_reducible rfl) | assumption)); all_goals (first | rfl | assumption | (simp; done) | (simp; omega) | (rw [wrap_small (by omega) (by omega)]; done) | (rw [wrap_small (by omega) (by omega)]; omega) | (refine congrArg Nat.cast ?_; assumption) | skip))
  rintro k hk
  refine walkX ?_
  rw [l1]
  refine walkX ?_
  refine AWP.condD rfl (fun h => ?_) (fun h => ?_)
  · have hv1 := hsh k true h
    have hv2 := hsh k false h
    have e3 := nearN_succ t w q k
    have e4 := nearN_len t w q k
    rw [moved_shift] at e3
    dsimp only at e3
    generalize movedV t w q k 1 true = p1 at *
    generalize movedV t w q k 1 false = p2 at *
    generalize nearN t w q k = o at *
    have e5 := intsR_len o
    have e6 : intsR (o ++ [p1, p2]) = intsR o ++ [[.sc (.int .i64 p1)], [.sc (.int .i64 p2)]] := by simp [intsR]
    have e7 : (o ++ [p1, p2]).length = o.length + 2 := by simp
    refine walkX ?_
    refine DK.nil ⟨by kernel_rfl, ?_⟩
    refine walkX ?_
    refine ⟨k + 1, by omega, by omega, ?_⟩
    rw [e3, e6, e7]
    (apply Sub.to [] [[(0,0)],[(2,10)]]; all_goals (repeat' (first | exact ToAll.nil | exact famsTo.nil | exact famTo.nil | exact ToL.nil | exact ToR.nil | refine ToAll.cons ?_ ?_ | refine famsTo.cons ?_ ?_ | refine wt10 ?_ ?_ | exact To.undef _ | exact To.sc _ | exact To.hslL rfl rfl | exact To.ptrO rfl rfl rfl | exact To.mrefO rfl | exact To.nil rfl rfl rfl | exact wt1 | exact To.nilL | refine To.int ?_ | refine To.bool ?_ | refine To.hslL rfl ?_ | refine wt2 rfl ?_ ?_ ?_ | refine To.tupL ?_ | refine To.aggL ?_ | refine To.cptrL ?_ | refine wt3 ?_ | refine wt4 ?_ | refine To.cloL ?_ ?_ | exact wt5 | refine wt6 ?_ | refine ToB.one ?_ | exact wt7 | ((with_reducible apply ToL.consE); case e9 => rfl) | refine wt8 ?_ | refine ToL.cons ?_ ?_ | exact wt11 | refine wt9 ?_ ?_ | refine wt12 ?_ | (with_reducible rfl) | assumption)); all_goals (first | rfl | assumption | (simp; done) | (simp; omega) | (rw [wrap_small (by omega) (by omega)]; done) | (rw [wrap_small (by omega) (by omega)]; omega) | (refine congrArg Nat.cast ?_; assumption) | skip))
  have hk : k = t.length := by omega
  subst hk
  refine walkX ?_
  have e4 := intsR_len (nearN t w q t.length)
  exact endW [] (⟨rfl, rfl⟩)
end Go.Proofs.Ytpkpfgpfkajkpaa
namespace Go.Av
def ScB (x : Blk) : Prop := ∃ sz rows, x = .cells sz rows ∧ ∀ r ∈ rows, ∀ c ∈ r, ∃ v, c = AV.sc v
theorem CallOK.viewG {P : Program} {f : FuncId} {args args' : List AV} {res0 res1 : AV} {H0 H : Heap} (h : CallOK P f args' [] fun res H' => res = res0 ∧ H' = H0) (ha : ToL (ToT (H ++ gh []) H.length (notIn [])) (rho []) args args')
    (hb : Bare res0) (hr : Ren (beh H.length) res0 res1) (hs : ∀ l ∈ H0, ∀ x ∈ l, ScB x) : CallOK P f args H fun res H' => res = res1 ∧ H' = H ++ H0 := by
  have hg : ∀ g i x, hget H0 g i = some x → ScB x := fun g i x hx => by
    unfold hget at hx
    split at hx
    · rename_i l hl
      exact hs l (List.mem_of_getElem? hl) x (List.mem_of_getElem? hx)
    · cases hx
  refine h.viewF ha ?_
  rintro res H' ⟨rfl, rfl⟩
  refine ⟨hb, fun g i x hx => ?_, res1, H', hr, fun g i x' hx hl => ⟨x', hx, ?_⟩, fun _ _ h => h, rfl, rfl⟩
  · obtain ⟨sz, rows, rfl, hc⟩ := hg g i x hx
    intro r hr c hc2
    obtain ⟨v, rfl⟩ := hc r hr c hc2
    exact .sc v
  · obtain ⟨sz, rows, rfl, hc⟩ := hg g i x' hx
    exact .pure _ _ fun r hr c hc2 => by
      obtain ⟨v, rfl⟩ := hc r hr c hc2
      exact .sc v
end Go.Av
namespace Go.Proofs.Ytpkpfgpfkajkpaa
open Go.Av Go.Proofs
set_option maxRecDepth 20000
def someC (c L : List Nat) : List Nat := if L = [] then [0] else L.map fun i => c.getD i 0
set_option maxHeartbeats 8000000 in
theorem part_ok (t : List Nat) (w u : List Bool) (c : List Nat) (p : Bool) (hw : w.length = t.length) (hu : u.length = t.length) (hc : c.length = t.length) (h4 : t.length ≤ 4) :
    CallOK Try.prog 100 [gridV (natI t) w, .list 1 (boolsR u), .sc (.bool p), .list 1 (natsR c)] [] fun res H' =>
      res = .tup [.agg [.hsl 0 0 0 (someS t (idxL u p t.length)).length, .hsl 1 0 0 (someW w (idxL u p t.length)).length], .hsl 2 0 0 (someC c (idxL u p t.length)).length] ∧
      H' = [[.cells 1 (intsR (someS t (idxL u p t.length)))], [.cells 1 (boolsR (someW w (idxL u p t.length)))], [.cells 1 (natsR (someC c (idxL u p t.length)))]] := by
  unfold gridV
  rw [← natsR_I]
  refine CallOK.of cF100 ?_ (Nat.le_of_ble_eq_true rfl)
  have e0 := boolsR_len u
  have e1 := natsR_len t
  have e2 := boolsR_len w
  have e3 := natsR_len c
  refine walkX ?_
  refine AWP.loop (fun k : Nat => [(1, .list 1 (boolsR u)), (2, .sc (.bool p)), (3, .list 1 (natsR c)), (4, .ptr 0 0 0 0), (8, .ptr 1 0 0 0), (10, .ptr 2 0 0 0), (11, .hsl 5 0 0 (idxL u p k).length), (12, .sc (.int .i64 (k : Int)))])
    (fun k => [[.cells 2 [[.list 1 (natsR t), .list 1 (boolsR w)]]], [.cells 2 [[.sc (.slice none 0 0), .sc (.slice none 0 0)]]], [.cells 2 [[.hsl 3 0 0 (idxL u p k).length, .hsl 4 0 0 (idxL u p k).length]]],
      [.cells 1 (natsR ((idxL u p k).map fun i => t.getD i 0))], [.cells 1 (boolsR ((idxL u p k).map fun i => w.getD i false))], [.cells 1 (natsR ((idxL u p k).map fun i => c.getD i 0))]])
    (fun k => k ≤ t.length) (fun k => t.length - k) 0 (Nat.zero_le _) ?_ ?_
  · (apply Sub.to [1,1,1] [[(0,0)],[(1,0)],[(2,0)],[(3,0)],[(4,0)],[(5,0)]]; all_goals (repeat' (first | exact ToAll.nil | exact famsTo.nil | exact famTo.nil | exact ToL.nil | exact ToR.nil | refine ToAll.cons ?_ ?_ | refine famsTo.cons ?_ ?_ | refine wt10 ?_ ?_ | exact To.undef _ | exact To.sc _ | exact To.hslL rfl rfl | exact To.ptrO rfl rfl rfl | exact To.mrefO rfl | exact To.nil rfl rfl rfl | exact wt1 | exact To.nilL | refine To.int ?_ | refine To.bool ?_ | refine To.hslL rfl ?_ | refine wt2 rfl ?_ ?_ ?_ | refine To.tupL ?_ | refine To.aggL ?_ | refine To.cptrL ?_ | refine wt3 ?_ | refine wt4 ?_ | refine To.cloL ?_ ?_ | refine ToB.one ?_ | exact wt5 | refine wt6 ?_ | ((with_reducible apply ToL.consE); case e9 => rfl) | refine ToL.cons ?_ ?_ | exact wt7 | refine wt8 ?_ | exact wt11 | refine wt9 ?_ ?_ | refine wt12 ?_ | (with_reducible rfl) | assumption)); all_goals (first | rfl | assumption | (simp; done) | (simp; omega) | (rw [wrap_small (by omega) (by omega)]; done) | (rw [wrap_small (by omega) (by omega)]; omega) | (refine congrArg Nat.cast ?_; assumption) | skip))
  rintro k hk
  refine walkX ?_
  rw [e0, hu]
  refine walkX ?_
  refine AWP.condD rfl (fun h => ?_) (fun h => ?_)
  · have hr := boolsR_ix u k (by omega)
    have hle := idxL_len u p k
    by_cases hp : u[k] = p
    · have hy := idxL_yes (show k < u.length by omega) hp
      rw [hp] at hr
      have g1 : t.getD k 0 = t[k] := by simp [h]
      have g2 : w.getD k false = w[k]'(by omega) := by simp [h, hw]
      have g3 : c.getD k 0 = c[k]'(by omega) := by simp [h, hc]
      have hrt := natsR_ix t k h
      have hrw := boolsR_ix w k (by omega)
      have hrc := natsR_ix c k (by omega)
      have m1 : ((idxL u p k ++ [k]).map fun i => t.getD i 0) = ((idxL u p k).map fun i => t.getD i 0) ++ [t[k]] := by rw [List.map_append, ← g1]; rfl
      have m2 : ((idxL u p k ++ [k]).map fun i => w.getD i false) = ((idxL u p k).map fun i => w.getD i false) ++ [w[k]'(by omega)] := by rw [List.map_append, ← g2]; rfl
      have m3 : ((idxL u p k ++ [k]).map fun i => c.getD i 0) = ((idxL u p k).map fun i => c.getD i 0) ++ [c[k]'(by omega)] := by rw [List.map_append, ← g3]; rfl
      have n1 : (natsR ((idxL u p k).map fun i => t.getD i 0)).length = (idxL u p k).length := by rw [natsR_len, List.length_map]
      have n2 : (boolsR ((idxL u p k).map fun i => w.getD i false)).length = (idxL u p k).length := by rw [boolsR_len, List.length_map]
      have n3 : (natsR ((idxL u p k).map fun i => c.getD i 0)).length = (idxL u p k).length := by rw [natsR_len, List.length_map]
      have e6 : ∀ (o : List Nat) (x : Nat), natsR (o ++ [x]) = natsR o ++ [[.sc (.int .i64 (x : Int))]] := fun o x => by simp [natsR]
      have e7 : ∀ (o : List Bool) (x : Bool), boolsR (o ++ [x]) = boolsR o ++ [[.sc (.bool x)]] := fun o x => by simp [boolsR]
      have e8 : (idxL u p k ++ [k]).length = (idxL u p k).length + 1 := by simp
      generalize ((idxL u p k).map fun i => t.getD i 0) = o1 at *
      generalize ((idxL u p k).map fun i => w.getD i false) = o2 at *
      generalize ((idxL u p k).map fun i => c.getD i 0) = o3 at *
      generalize t[k] = x1 at *
      generalize w[k]'(by omega) = x2 at *
      generalize c[k]'(by omega) = x3 at *
      refine walkX ?_
      rw [show (p == p) = true by simp]
      refine walkX ?_
      refine DK.nil ⟨by kernel_rfl, ?_⟩
      refine walkX ?_
      refine ⟨k + 1, by omega, by omega, ?_⟩
      rw [hy, m1, m2, m3, e6, e6, e7, e8]
      generalize (idxL u p k).length = ll at *
      (apply Sub.to [] [[(0,0)],[(1,0)],[(2,0)],[(6,8)],[(6,17)],[(6,24)]]; all_goals (repeat' (first | exact ToAll.nil | exact famsTo.nil | exact famTo.nil | exact ToL.nil | exact ToR.nil | refine ToAll.cons ?_ ?_ | refine famsTo.cons ?_ ?_ | refine wt10 ?_ ?_ | exact To.undef _ | exact To.sc _ | exact To.hslL rfl rfl | exact To.ptrO rfl rfl rfl | exact To.mrefO rfl | exact To.nil rfl rfl rfl | exact wt1 | exact To.nilL | refine To.int ?_ | refine To.bool ?_ | refine To.hslL rfl ?_ | refine wt2 rfl ?_ ?_ ?_ | refine To.tupL ?_ | refine To.aggL ?_ | refine To.cptrL ?_ | refine wt3 ?_ | refine wt4 ?_ | refine To.cloL ?_ ?_ | refine ToB.one ?_ | exact wt5 | refine wt6 ?_ | ((with_reducible apply ToL.consE); case e9 => rfl) | refine ToL.cons ?_ ?_ | exact wt7 | refine wt8 ?_ | exact wt11 | refine wt9 ?_ ?_ | refine wt12 ?_ | (with_reducible rfl) | assumption)); all_goals (first | rfl | assumption | (simp; done) | (simp; omega) | (rw [wrap_small (by omega) (by omega)]; done) | (rw [wrap_small (by omega) (by omega)]; omega) | (refine congrArg Nat.cast ?_; assumption) | skip))
    · have hy := idxL_no (show k < u.length by omega) hp
      generalize u[k] = y at *
      refine walkX ?_
      rw [show (y == p) = false by simpa using hp]
      refine walkX ?_
      refine ⟨k + 1, by omega, by omega, ?_⟩
      rw [hy]
      (apply Sub.to [] [[(0,0)],[(1,0)],[(2,0)],[(3,0)],[(4,0)],[(5,0)]]; all_goals (repeat' (first | exact ToAll.nil | exact famsTo.nil | exact famTo.nil | exact ToL.nil | exact ToR.nil | refine ToAll.cons ?_ ?_ | refine famsTo.cons ?_ ?_ | refine wt10 ?_ ?_ | exact To.undef _ | exact To.sc _ | exact To.hslL rfl rfl | exact To.ptrO rfl rfl rfl | exact To.mrefO rfl | exact To.nil rfl rfl rfl | exact wt1 | exact To.nilL | refine To.int ?_ | refine To.bool ?_ | refine To.hslL rfl ?_ | refine wt2 rfl ?_ ?_ ?_ | refine To.tupL ?_ | refine To.aggL ?_ | refine To.cptrL ?_ | refine wt3 ?_ | refine wt4 ?_ | refine To.cloL ?_ ?_ | refine ToB.one ?_ | exact wt5 | refine wt6 ?_ | ((with_reducible apply ToL.consE); case e9 => rfl) | refine ToL.cons ?_ ?_ | exact wt7 | refine wt8 ?_ | exact wt11 | refine wt9 ?_ ?_ | refine wt12 ?_ | (with_reducible rfl) | assumption)); all_goals (first | rfl | assumption | (simp; done) | (simp; omega) | (rw [wrap_small (by omega) (by omega)]; done) | (rw [wrap_small (by omega) (by omega)]; omega) | (refine congrArg Nat.cast ?_; assumption) | skip))
  have hk : k = t.length := by omega
  subst hk
  have n1 : (natsR ((idxL u p t.length).map fun i => t.getD i 0)).length = (idxL u p t.length).length := by rw [natsR_len, List.length_map]
  have n2 : (boolsR ((idxL u p t.length).map fun i => w.getD i false)).length = (idxL u p t.length).length := by rw [boolsR_len, List.length_map]
  have n3 : (natsR ((idxL u p t.length).map fun i => c.getD i 0)).length = (idxL u p t.length).length := by rw [natsR_len, List.length_map]
  by_cases hL : idxL u p t.length = []
  · rw [hL]
    have q1 : someS t [] = [1] := rfl
    have q2 : someW w [] = [false] := rfl
    have q3 : someC c [] = [0] := rfl
    rw [q1, q2, q3]
    refine walkX ?_
    exact endW [[(6,0)],[(7,0)],[(8,0)]] (⟨rfl, rfl⟩)
  · have q1 : someS t (idxL u p t.length) = natI ((idxL u p t.length).map fun i => t.getD i 0) := if_neg hL
    have q2 : someW w (idxL u p t.length) = (idxL u p t.length).map fun i => w.getD i false := if_neg hL
    have q3 : someC c (idxL u p t.length) = (idxL u p t.length).map fun i => c.getD i 0 := if_neg hL
    have hl0 : (idxL u p t.length).length ≠ 0 := fun e => hL (List.length_eq_zero_iff.1 e)
    rw [q1, q2, q3, ← natsR_I, natI_len, List.length_map, List.length_map, List.length_map]
    refine walkX ?_
    rw [decide_eq_false hl0]
    refine walkX ?_
    exact endW [[(3,0)],[(4,0)],[(5,0)]] (⟨rfl, rfl⟩)
end Go.Proofs.Ytpkpfgpfkajkpaa
