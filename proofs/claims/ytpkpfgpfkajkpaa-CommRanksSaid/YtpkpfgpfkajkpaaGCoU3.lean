import Derived.Test.YtpkpfgpfkajkpaaGCoU1
namespace Go.Proofs.Ytpkpfgpfkajkpaa
open Go.Av Go.Proofs
set_option maxRecDepth 20000
set_option maxHeartbeats 4000000 in
theorem index91_ok (l : List Int) (x : Int) (hl : l.length ≤ 1000000) : PureRun Try.prog 91 [.list 1 (intsR l), .sc (.int .i64 x)] (.sc (.int .i64 (idxE x l))) := by
  refine PureRun.of (allPure_cons (.list _ _ (prs _)) (allPure_cons (.sc _) allPure_nil)) (.sc _) (CallOK.mono (R := fun res H' => res = .sc (.int .i64 (idxE x l)) ∧ H' = []) ?_ fun _ _ h => h.1)
  refine CallOK.of cF91 ?_ (Nat.le_of_ble_eq_true rfl)
  have e0 := intsR_len l
  refine walkX ?_
  rw [e0]
  refine AWP.loop (fun k : Nat => [(0, .list 1 (intsR l)), (1, .sc (.int .i64 x)), (7, .sc (.int .i64 (l.length : Int))), (8, .sc (.int .i64 (k : Int)))])
    (fun k => []) (fun k => k ≤ l.length ∧ ∀ (j : Nat) (hj : j < l.length), j < k → l[j] ≠ x) (fun k => l.length - k) 0 ⟨Nat.zero_le _, fun j hj h => by omega⟩ ?_ ?_
  · exact Sub.w [] []
  rintro k ⟨hk, hb⟩
  refine walkX ?_
  refine AWP.condD rfl (fun h => ?_) (fun h => ?_)
  · have hr := intsR_ix l k h
    by_cases he : l[k] = x
    · have hres : AV.sc (Value.int .i64 (k : Int)) = .sc (.int .i64 (idxE x l)) := by rw [idxE_at x l k h he hb]
      rw [he] at hr
      refine walkX ?_
      rw [beq_self]
      refine walkX ?_
      (refine endH [] (by first | exact .inr rfl | exact .inl rfl) rfl ⟨hres, rfl⟩ ?_ ?_ rfl rfl rfl; all_goals (repeat' (first | exact ToAll.nil | exact famsTo.nil | exact famTo.nil | exact ToL.nil | exact ToR.nil | refine ToAll.cons ?_ ?_ | refine famsTo.cons ?_ ?_ | refine wt10 ?_ ?_ | exact To.undef _ | exact To.sc _ | exact To.hslL rfl rfl | exact To.ptrO rfl rfl rfl | exact To.mrefO rfl | exact To.nil rfl rfl rfl | exact wt1 | exact To.nilL | refine To.int ?_ | refine To.bool ?_ | refine To.hslL rfl ?_ | refine wt2 rfl ?_ ?_ ?_ | refine To.tupL ?_ | refine To.aggL ?_ | refine To.cptrL ?_ | refine wt3 ?_ | refine wt4 ?_ | refine To.cloL ?_ ?_ | exact wt5 | refine wt6 ?_ | refine ToB.one ?_ | exact wt7 | ((with_reducible apply ToL.consE); case e9 => rfl) | refine wt8 ?_ | refine ToL.cons ?_ ?_ | exact wt11 | refine wt9 ?_ ?_ | refine wt12 ?_ | (with_reducible rfl) | assumption)); all_goals (first | rfl | assumption | (simp; done) | (simp; omega) | (rw [wrap_small (by omega) (by omega)]; done) | (rw [wrap_small (by omega) (by omega)]; omega) | (refine congrArg Nat.cast ?_; assumption) | skip))
    · have hb2 : ∀ (j : Nat) (hj : j < l.length), j < k + 1 → l[j] ≠ x := fun j hj hjk => by
        by_cases e : j = k
        · subst e; exact he
        · exact hb j hj (by omega)
      generalize l[k] = y at *
      refine walkX ?_
      rw [beq_false_of_ne (fun e => he e.symm)]
      refine walkX ?_
      refine ⟨k + 1, ⟨by omega, hb2⟩, by omega, ?_⟩
      exact Sub.w [] []
  have hres : AV.sc (Value.int .i64 (-1)) = .sc (.int .i64 (idxE x l)) := by rw [idxE_not x l fun j hj => hb j hj (by omega)]
  refine walkX ?_
  (refine endH [] (by first | exact .inr rfl | exact .inl rfl) rfl ⟨hres, rfl⟩ ?_ ?_ rfl rfl rfl; all_goals (repeat' (first | exact ToAll.nil | exact famsTo.nil | exact famTo.nil | exact ToL.nil | exact ToR.nil | refine ToAll.cons ?_ ?_ | refine famsTo.cons ?_ ?_ | refine wt10 ?_ ?_ | exact To.undef _ | exact To.sc _ | exact To.hslL rfl rfl | exact To.ptrO rfl rfl rfl | exact To.mrefO rfl | exact To.nil rfl rfl rfl | exact wt1 | exact To.nilL | refine To.int ?_ | refine To.bool ?_ | refine To.hslL rfl ?_ | refine wt2 rfl ?_ ?_ ?_ | refine To.tupL ?_ | refine To.aggL ?_ | refine To.cptrL ?_ | refine wt3 ?_ | refine wt4 ?_ | refine To.cloL ?_ ?_ | exact wt5 | refine wt6 ?_ | refine ToB.one ?_ | exact wt7 | ((with_reducible apply ToL.consE); case e9 => rfl) | refine wt8 ?_ | refine ToL.cons ?_ ?_ | exact wt11 | refine wt9 ?_ ?_ | refine wt12 ?_ | (with_reducible rfl) | assumption)); all_goals (first | rfl | assumption | (simp; done) | (simp; omega) | (rw [wrap_small (by omega) (by omega)]; done) | (rw [wrap_small (by omega) (by omega)]; omega) | (refine congrArg Nat.cast ?_; assumption) | skip))
def badR (a : List Int) (r : Int) : Bool := !decide (r = -2) && (decide (r < 0) || decide ((a.length : Int) ≤ r))
def toE (a b : List Int) (r : Int) : Int := if r = -2 then -2 else if idxE (a.getD r.toNat 0) b < 0 then -2 else idxE (a.getD r.toNat 0) b
def transA (a b rs : List Int) : Int × List Int := if bothE a b = 0 then (if rs.any (badR a) then (11, []) else (0, rs.map (toE a b))) else (bothE a b, [])
theorem any_at {p : Int → Bool} {l : List Int} {k : Nat} (h : k < l.length) (hp : p l[k] = true) : l.any p = true := List.any_eq_true.2 ⟨l[k], List.getElem_mem h, hp⟩
theorem any_take {p : Int → Bool} {l : List Int} {k : Nat} (h : k < l.length) (h0 : (l.take k).any p = false) (hp : p l[k] = false) : (l.take (k + 1)).any p = false := by
  rw [List.take_succ_eq_append_getElem h, List.any_append, h0]
  simp [hp]
set_option maxHeartbeats 8000000 in
theorem trans_ok (a b rs : List Int) (ha : a.length ≤ 1000000) (hb : b.length ≤ 1000000) (hr : rs.length ≤ 1000000) : CallOK Try.prog 45 [.list 1 (intsR a), .list 1 (intsR rs), .list 1 (intsR b)] [] (ansS (transA a b rs)) := by
  refine CallOK.of cF45 ?_ (Nat.le_of_ble_eq_true rfl)
  have h1 := both_ok a b ha hb
  have e0 := intsR_len rs
  have ea := intsR_len a
  unfold ansS
  by_cases h : bothE a b = 0
  · have e : transA a b rs = if rs.any (badR a) then (11, []) else (0, rs.map (toE a b)) := if_pos h
    rw [h] at h1
    refine walkX ?_
    rw [e0]
    refine AWP.loop (fun k : Nat => [(0, .list 1 (intsR a)), (2, .list 1 (intsR b)), (9, .hsl 0 0 0 ((rs.take k).map (toE a b)).length), (20, .list 1 (intsR rs)), (21, .sc (.int .i64 (rs.length : Int))), (22, .sc (.int .i64 (k : Int)))])
      (fun k => [[.cells 1 (intsR ((rs.take k).map (toE a b)))]]) (fun k => k ≤ rs.length ∧ (rs.take k).any (badR a) = false) (fun k => rs.length - k) 0 ⟨Nat.zero_le _, rfl⟩ ?_ ?_
    · (apply Sub.to [1] [[(0,0)]]; all_goals (repeat' (first | exact ToAll.nil | exact famsTo.nil | exact famTo.nil | exact ToL.nil | exact ToR.nil | refine ToAll.cons ?_ ?_ | refine famsTo.cons ?_ ?_ | refine wt10 ?_ ?_ | exact To.undef _ | exact To.sc _ | exact To.hslL rfl rfl | exact To.ptrO rfl rfl rfl | exact To.mrefO rfl | exact To.nil rfl rfl rfl | exact wt1 | exact To.nilL | refine To.int ?_ | refine To.bool ?_ | refine To.hslL rfl ?_ | refine wt2 rfl ?_ ?_ ?_ | refine To.tupL ?_ | refine To.aggL ?_ | refine To.cptrL ?_ | refine wt3 ?_ | refine wt4 ?_ | refine To.cloL ?_ ?_ | exact wt5 | refine wt6 ?_ | refine ToB.one ?_ | exact wt7 | ((with_reducible apply ToL.consE); case e9 => rfl) | refine wt8 ?_ | refine ToL.cons ?_ ?_ | exact wt11 | refine wt9 ?_ ?_ | refine wt12 ?_ | (with_reducible rfl) | assumption)); all_goals (first | rfl | assumption | (simp; done) | (simp; omega) | (rw [wrap_small (by omega) (by omega)]; done) | (rw [wrap_small (by omega) (by omega)]; omega) | (refine congrArg Nat.cast ?_; assumption) | skip))
    rintro k ⟨hk, hbad⟩
    refine walkX ?_
    refine AWP.condD rfl (fun h => ?_) (fun h => ?_)
    · have hrr := intsR_ix rs k h
      have ht := List.take_succ_eq_append_getElem h
      have hany := any_at (p := badR a) h
      have hany2 := any_take (p := badR a) h hbad
      have hle : ((rs.take k).map (toE a b)).length ≤ 1000000 := by rw [List.length_map, List.length_take]; omega
      have e1 := intsR_len ((rs.take k).map (toE a b))
      have e2 : (rs.take (k + 1)).map (toE a b) = (rs.take k).map (toE a b) ++ [toE a b rs[k]] := by rw [ht, List.map_append]; rfl
      generalize (rs.take k).map (toE a b) = o at *
      generalize rs[k] = x at *
      have e3 : ∀ y, intsR (o ++ [y]) = intsR o ++ [[.sc (.int .i64 y)]] := fun y => by simp [intsR]
      have e4 : ∀ y, (o ++ [y]).length = o.length + 1 := fun y => by simp
      by_cases hn : x = -2
      · subst hn
        have ht : toE a b (-2) = -2 := rfl
        have hg : badR a (-2) = false := rfl
        rw [ht] at e2
        refine walkX ?_
        refine ⟨k + 1, ⟨by omega, hany2 hg⟩, by omega, ?_⟩
        rw [e2, e3, e4]
        (apply Sub.to [] [[(2,0)]]; all_goals (repeat' (first | exact ToAll.nil | exact famsTo.nil | exact famTo.nil | exact ToL.nil | exact ToR.nil | refine ToAll.cons ?_ ?_ | refine famsTo.cons ?_ ?_ | refine wt10 ?_ ?_ | exact To.undef _ | exact To.sc _ | exact To.hslL rfl rfl | exact To.ptrO rfl rfl rfl | exact To.mrefO rfl | exact To.nil rfl rfl rfl | exact wt1 | exact To.nilL | refine To.int ?_ | refine To.bool ?_ | refine To.hslL rfl ?_ | refine wt2 rfl ?_ ?_ ?_ | refine To.tupL ?_ | refine To.aggL ?_ | refine To.cptrL ?_ | refine wt3 ?_ | refine wt4 ?_ | refine To.cloL ?_ ?_ | exact wt5 | refine wt6 ?_ | refine ToB.one ?_ | exact wt7 | ((with_reducible apply ToL.consE); case e9 => rfl) | refine wt8 ?_ | refine ToL.cons ?_ ?_ | exact wt11 | refine wt9 ?_ ?_ | refine wt12 ?_ | (with_reducible rfl) | assumption)); all_goals (first | rfl | assumption | (simp; done) | (simp; omega) | (rw [wrap_small (by omega) (by omega)]; done) | (rw [wrap_small (by omega) (by omega)]; omega) | (refine congrArg Nat.cast ?_; assumption) | skip))
      have fin : badR a x = true → AV.tup [.hsl 0 0 0 0, .sc (.int .i64 11)] = AV.tup [.hsl 0 0 0 (transA a b rs).2.length, .sc (.int .i64 (transA a b rs).1)] ∧ ([[.cells 1 []]] : Heap) = [[.cells 1 (intsR (transA a b rs).2)]] := fun hp => by
        rw [e, if_pos (hany hp)]
        exact ⟨rfl, rfl⟩
      by_cases hneg : x < 0
      · refine walkX ?_
        rw [beq_false_of_ne hn]
        refine walkX ?_
        rw [decide_eq_true hneg]
        refine walkX ?_
        (refine ⟨.inr rfl, _, .tup [.hsl 0 0 0 0, .sc (.int .i64 11)], [[.cells 1 []]], rfl, SubV.to [1] [[((1),0)]] ?_ ?_ rfl rfl rfl, fin (by simp [badR, hn, hneg])⟩; all_goals (all_goals (repeat' (first | exact ToAll.nil | exact famsTo.nil | exact famTo.nil | exact ToL.nil | exact ToR.nil | refine ToAll.cons ?_ ?_ | refine famsTo.cons ?_ ?_ | refine wt10 ?_ ?_ | exact To.undef _ | exact To.sc _ | exact To.hslL rfl rfl | exact To.ptrO rfl rfl rfl | exact To.mrefO rfl | exact To.nil rfl rfl rfl | exact wt1 | exact To.nilL | refine To.int ?_ | refine To.bool ?_ | refine To.hslL rfl ?_ | refine wt2 rfl ?_ ?_ ?_ | refine To.tupL ?_ | refine To.aggL ?_ | refine To.cptrL ?_ | refine wt3 ?_ | refine wt4 ?_ | refine To.cloL ?_ ?_ | exact wt5 | refine wt6 ?_ | refine ToB.one ?_ | exact wt7 | ((with_reducible apply ToL.consE); case e9 => rfl) | refine wt8 ?_ | refine ToL.cons ?_ ?_ | exact wt11 | refine wt9 ?_ ?_ | refine wt12 ?_ | (with_reducible rfl) | assumption)); all_goals (first | rfl | assumption | (simp; done) | (simp; omega) | (rw [wrap_small (by omega) (by omega)]; done) | (rw [wrap_small (by omega) (by omega)]; omega) | (refine congrArg Nat.cast ?_; assumption) | skip)))
      obtain ⟨q, rfl⟩ : ∃ q : Nat, x = q := ⟨x.toNat, by omega⟩
      by_cases hq : a.length ≤ q
      · have hqi : (a.length : Int) ≤ (q : Int) := by omega
        refine walkX ?_
        rw [beq_false_of_ne hn]
        refine walkX ?_
        rw [ea, decide_eq_true hq]
        refine walkX ?_
        (refine ⟨.inr rfl, _, .tup [.hsl 0 0 0 0, .sc (.int .i64 11)], [[.cells 1 []]], rfl, SubV.to [1] [[((1),0)]] ?_ ?_ rfl rfl rfl, fin (by simp [badR, hqi])⟩; all_goals (all_goals (repeat' (first | exact ToAll.nil | exact famsTo.nil | exact famTo.nil | exact ToL.nil | exact ToR.nil | refine ToAll.cons ?_ ?_ | refine famsTo.cons ?_ ?_ | refine wt10 ?_ ?_ | exact To.undef _ | exact To.sc _ | exact To.hslL rfl rfl | exact To.ptrO rfl rfl rfl | exact To.mrefO rfl | exact To.nil rfl rfl rfl | exact wt1 | exact To.nilL | refine To.int ?_ | refine To.bool ?_ | refine To.hslL rfl ?_ | refine wt2 rfl ?_ ?_ ?_ | refine To.tupL ?_ | refine To.aggL ?_ | refine To.cptrL ?_ | refine wt3 ?_ | refine wt4 ?_ | refine To.cloL ?_ ?_ | exact wt5 | refine wt6 ?_ | refine ToB.one ?_ | exact wt7 | ((with_reducible apply ToL.consE); case e9 => rfl) | refine wt8 ?_ | refine ToL.cons ?_ ?_ | exact wt11 | refine wt9 ?_ ?_ | refine wt12 ?_ | (with_reducible rfl) | assumption)); all_goals (first | rfl | assumption | (simp; done) | (simp; omega) | (rw [wrap_small (by omega) (by omega)]; done) | (rw [wrap_small (by omega) (by omega)]; omega) | (refine congrArg Nat.cast ?_; assumption) | skip)))
      have hql : q < a.length := by omega
      have hg : badR a (q : Int) = false := by simp [badR]; omega
      have hax := intsR_ix a q hql
      have h91 := index91_ok b a[q] hb
      have e5 := @getD_at a q hql
      have ht5 : toE a b (q : Int) = if idxE a[q] b < 0 then -2 else idxE a[q] b := by
        unfold toE
        rw [e5, if_neg hn]
      rw [ht5] at e2
      generalize a[q] = y at *
      refine walkX ?_
      rw [beq_false_of_ne hn]
      refine walkX ?_
      rw [ea, decide_eq_false hq]
      refine walkX ?_
      by_cases hi : idxE y b < 0
      · rw [if_pos hi] at e2
        rw [decide_eq_false (show ¬ 0 ≤ idxE y b by omega)]
        refine walkX ?_
        refine ⟨k + 1, ⟨by omega, hany2 hg⟩, by omega, ?_⟩
        rw [e2, e3, e4]
        (apply Sub.to [] [[(2,0)]]; all_goals (repeat' (first | exact ToAll.nil | exact famsTo.nil | exact famTo.nil | exact ToL.nil | exact ToR.nil | refine ToAll.cons ?_ ?_ | refine famsTo.cons ?_ ?_ | refine wt10 ?_ ?_ | exact To.undef _ | exact To.sc _ | exact To.hslL rfl rfl | exact To.ptrO rfl rfl rfl | exact To.mrefO rfl | exact To.nil rfl rfl rfl | exact wt1 | exact To.nilL | refine To.int ?_ | refine To.bool ?_ | refine To.hslL rfl ?_ | refine wt2 rfl ?_ ?_ ?_ | refine To.tupL ?_ | refine To.aggL ?_ | refine To.cptrL ?_ | refine wt3 ?_ | refine wt4 ?_ | refine To.cloL ?_ ?_ | exact wt5 | refine wt6 ?_ | refine ToB.one ?_ | exact wt7 | ((with_reducible apply ToL.consE); case e9 => rfl) | refine wt8 ?_ | refine ToL.cons ?_ ?_ | exact wt11 | refine wt9 ?_ ?_ | refine wt12 ?_ | (with_reducible rfl) | assumption)); all_goals (first | rfl | assumption | (simp; done) | (simp; omega) | (rw [wrap_small (by omega) (by omega)]; done) | (rw [wrap_small (by omega) (by omega)]; omega) | (refine congrArg Nat.cast ?_; assumption) | skip))
      · rw [if_neg hi] at e2
        rw [decide_eq_true (show 0 ≤ idxE y b by omega)]
        refine walkX ?_
        refine ⟨k + 1, ⟨by omega, hany2 hg⟩, by omega, ?_⟩
        rw [e2, e3, e4]
        (apply Sub.to [] [[(2,0)]]; all_goals (repeat' (first | exact ToAll.nil | exact famsTo.nil | exact famTo.nil | exact ToL.nil | exact ToR.nil | refine ToAll.cons ?_ ?_ | refine famsTo.cons ?_ ?_ | refine wt10 ?_ ?_ | exact To.undef _ | exact To.sc _ | exact To.hslL rfl rfl | exact To.ptrO rfl rfl rfl | exact To.mrefO rfl | exact To.nil rfl rfl rfl | exact wt1 | exact To.nilL | refine To.int ?_ | refine To.bool ?_ | refine To.hslL rfl ?_ | refine wt2 rfl ?_ ?_ ?_ | refine To.tupL ?_ | refine To.aggL ?_ | refine To.cptrL ?_ | refine wt3 ?_ | refine wt4 ?_ | refine To.cloL ?_ ?_ | exact wt5 | refine wt6 ?_ | refine ToB.one ?_ | exact wt7 | ((with_reducible apply ToL.consE); case e9 => rfl) | refine wt8 ?_ | refine ToL.cons ?_ ?_ | exact wt11 | refine wt9 ?_ ?_ | refine wt12 ?_ | (with_reducible rfl) | assumption)); all_goals (first | rfl | assumption | (simp; done) | (simp; omega) | (rw [wrap_small (by omega) (by omega)]; done) | (rw [wrap_small (by omega) (by omega)]; omega) | (refine congrArg Nat.cast ?_; assumption) | skip))
    have hk : k = rs.length := by omega
    subst hk
    rw [List.take_of_length_le (Nat.le_refl _)] at hbad ⊢
    rw [hbad, if_neg (by simp)] at e
    rw [e]
    refine walkX ?_
    (refine endH [[(0,0)]] (by first | exact .inr rfl | exact .inl rfl) rfl ⟨rfl, rfl⟩ ?_ ?_ rfl rfl rfl; all_goals (repeat' (first | exact ToAll.nil | exact famsTo.nil | exact famTo.nil | exact ToL.nil | exact ToR.nil | refine ToAll.cons ?_ ?_ | refine famsTo.cons ?_ ?_ | refine wt10 ?_ ?_ | exact To.undef _ | exact To.sc _ | exact To.hslL rfl rfl | exact To.ptrO rfl rfl rfl | exact To.mrefO rfl | exact To.nil rfl rfl rfl | exact wt1 | exact To.nilL | refine To.int ?_ | refine To.bool ?_ | refine To.hslL rfl ?_ | refine wt2 rfl ?_ ?_ ?_ | refine To.tupL ?_ | refine To.aggL ?_ | refine To.cptrL ?_ | refine wt3 ?_ | refine wt4 ?_ | refine To.cloL ?_ ?_ | exact wt5 | refine wt6 ?_ | refine ToB.one ?_ | exact wt7 | ((with_reducible apply ToL.consE); case e9 => rfl) | refine wt8 ?_ | refine ToL.cons ?_ ?_ | exact wt11 | refine wt9 ?_ ?_ | refine wt12 ?_ | (with_reducible rfl) | assumption)); all_goals (first | rfl | assumption | (simp; done) | (simp; omega) | (rw [wrap_small (by omega) (by omega)]; done) | (rw [wrap_small (by omega) (by omega)]; omega) | (refine congrArg Nat.cast ?_; assumption) | skip))
  · have e : transA a b rs = (bothE a b, []) := if_neg h
    rw [e]
    refine walkX ?_
    rw [show (bothE a b != 0) = true from by simpa using h]
    refine walkX ?_
    (refine ⟨.inr rfl, _, .tup [.hsl 0 0 0 0, .sc (.int .i64 (bothE a b))], [[.cells 1 []]], rfl, SubV.to [1] [[((0),0)]] ?_ ?_ rfl rfl rfl, rfl, rfl⟩; all_goals (all_goals (repeat' (first | exact ToAll.nil | exact famsTo.nil | exact famTo.nil | exact ToL.nil | exact ToR.nil | refine ToAll.cons ?_ ?_ | refine famsTo.cons ?_ ?_ | refine wt10 ?_ ?_ | exact To.undef _ | exact To.sc _ | exact To.hslL rfl rfl | exact To.ptrO rfl rfl rfl | exact To.mrefO rfl | exact To.nil rfl rfl rfl | exact wt1 | exact To.nilL | refine To.int ?_ | refine To.bool ?_ | refine To.hslL rfl ?_ | refine wt2 rfl ?_ ?_ ?_ | refine To.tupL ?_ | refine To.aggL ?_ | refine To.cptrL ?_ | refine wt3 ?_ | refine wt4 ?_ | refine To.cloL ?_ ?_ | exact wt5 | refine wt6 ?_ | refine ToB.one ?_ | exact wt7 | ((with_reducible apply ToL.consE); case e9 => rfl) | refine wt8 ?_ | refine ToL.cons ?_ ?_ | exact wt11 | refine wt9 ?_ ?_ | refine wt12 ?_ | (with_reducible rfl) | assumption)); all_goals (first | rfl | assumption | (simp; done) | (simp; omega) | (rw [wrap_small (by omega) (by omega)]; done) | (rw [wrap_small (by omega) (by omega)]; omega) | (refine congrArg Nat.cast ?_; assumption) | skip)))
end Go.Proofs.Ytpkpfgpfkajkpaa
namespace Go.Proofs.Ytpkpfgpfkajkpaa
open Go.Av Go.Proofs
set_option maxRecDepth 20000
set_option maxHeartbeats 4000000 in
theorem ranked_doc (g rs : List Int) (hg : g.length ≤ 1000000) (hr : rs.length ≤ 1000000) : PureRun Try.prog 90 [.list 1 (intsR g), .list 1 (intsR rs)] (.sc (.int .i64 (rkE g rs))) := by
  refine PureRun.of (allPure_cons (.list _ _ (prs _)) (allPure_cons (.list _ _ (prs _)) allPure_nil)) (.sc _) (CallOK.mono (R := fun res H' => res = .sc (.int .i64 (rkE g rs)) ∧ H' = []) ?_ fun _ _ h => h.1)
  refine CallOK.of cF90 ?_ (Nat.le_of_ble_eq_true rfl)
  have h1 := check_doc g hg
  have e0 := intsR_len g
  by_cases h : checkE g = 0
  · have hle : g.length ≤ 64 := (check0_rng h).2.2
    have h2 : PureRun Try.prog 85 [.list 1 (intsR rs), .sc (.int .i64 ((g.length : Nat) : Int))] (.sc (.int .i64 (distE g.length [] rs))) := PureRun.of (allPure_cons (.list _ _ (prs _)) (allPure_cons (.sc _) allPure_nil)) (.sc _) ((diff_call rs g.length hle hr).mono fun _ _ h => h.1)
    have hres : AV.sc (Value.int .i64 (distE g.length [] rs)) = .sc (.int .i64 (rkE g rs)) := by unfold rkE; rw [if_pos h]
    rw [h] at h1
    refine walkX ?_
    rw [e0]
    refine walkX ?_
    (refine endH [] (by first | exact .inr rfl | exact .inl rfl) rfl ⟨hres, rfl⟩ ?_ ?_ rfl rfl rfl; all_goals (repeat' (first | exact ToAll.nil | exact famsTo.nil | exact famTo.nil | exact ToL.nil | exact ToR.nil | refine ToAll.cons ?_ ?_ | refine famsTo.cons ?_ ?_ | refine wt10 ?_ ?_ | exact To.undef _ | exact To.sc _ | exact To.hslL rfl rfl | exact To.ptrO rfl rfl rfl | exact To.mrefO rfl | exact To.nil rfl rfl rfl | exact wt1 | exact To.nilL | refine To.int ?_ | refine To.bool ?_ | refine To.hslL rfl ?_ | refine wt2 rfl ?_ ?_ ?_ | refine To.tupL ?_ | refine To.aggL ?_ | refine To.cptrL ?_ | refine wt3 ?_ | refine wt4 ?_ | refine To.cloL ?_ ?_ | exact wt5 | refine wt6 ?_ | refine ToB.one ?_ | exact wt7 | ((with_reducible apply ToL.consE); case e9 => rfl) | refine wt8 ?_ | refine ToL.cons ?_ ?_ | exact wt11 | refine wt9 ?_ ?_ | refine wt12 ?_ | (with_reducible rfl) | assumption)); all_goals (first | rfl | assumption | (simp; done) | (simp; omega) | (rw [wrap_small (by omega) (by omega)]; done) | (rw [wrap_small (by omega) (by omega)]; omega) | (refine congrArg Nat.cast ?_; assumption) | skip))
  · have hres : AV.sc (Value.int .i64 (checkE g)) = .sc (.int .i64 (rkE g rs)) := by unfold rkE; rw [if_neg h]
    refine walkX ?_
    rw [show (checkE g != 0) = true from by simpa using h]
    refine walkX ?_
    (refine endH [] (by first | exact .inr rfl | exact .inl rfl) rfl ⟨hres, rfl⟩ ?_ ?_ rfl rfl rfl; all_goals (repeat' (first | exact ToAll.nil | exact famsTo.nil | exact famTo.nil | exact ToL.nil | exact ToR.nil | refine ToAll.cons ?_ ?_ | refine famsTo.cons ?_ ?_ | refine wt10 ?_ ?_ | exact To.undef _ | exact To.sc _ | exact To.hslL rfl rfl | exact To.ptrO rfl rfl rfl | exact To.mrefO rfl | exact To.nil rfl rfl rfl | exact wt1 | exact To.nilL | refine To.int ?_ | refine To.bool ?_ | refine To.hslL rfl ?_ | refine wt2 rfl ?_ ?_ ?_ | refine To.tupL ?_ | refine To.aggL ?_ | refine To.cptrL ?_ | refine wt3 ?_ | refine wt4 ?_ | refine To.cloL ?_ ?_ | exact wt5 | refine wt6 ?_ | refine ToB.one ?_ | exact wt7 | ((with_reducible apply ToL.consE); case e9 => rfl) | refine wt8 ?_ | refine ToL.cons ?_ ?_ | exact wt11 | refine wt9 ?_ ?_ | refine wt12 ?_ | (with_reducible rfl) | assumption)); all_goals (first | rfl | assumption | (simp; done) | (simp; omega) | (rw [wrap_small (by omega) (by omega)]; done) | (rw [wrap_small (by omega) (by omega)]; omega) | (refine congrArg Nat.cast ?_; assumption) | skip))
set_option maxHeartbeats 4000000 in
theorem incl_doc (g rs : List Int) (hg : g.length ≤ 1000000) (hr : rs.length ≤ 1000000) : CallOK Try.prog 42 [.list 1 (intsR g), .list 1 (intsR rs)] [] (ansS (ansE (rkE g rs) (selE g rs))) := by
  refine CallOK.of cF42 ?_ (Nat.le_of_ble_eq_true rfl)
  have h1 := ranked_doc g rs hg hr
  have e0 := intsR_len rs
  unfold ansS
  by_cases h : rkE g rs = 0
  · obtain ⟨c1, c2⟩ := rk0 h
    obtain ⟨d1, _, _⟩ := dist0_rng c2
    have e : ansE (rkE g rs) (selE g rs) = (0, selE g rs) := if_pos h
    rw [e]
    rw [h] at h1
    refine walkX ?_
    refine AWP.loop (fun k : Nat => [(0, .list 1 (intsR g)), (1, .list 1 (intsR rs)), (7, .hsl 0 0 0 (selE g (rs.take k)).length), (8, .sc (.int .i64 (k : Int)))])
      (fun k => [[.cells 1 (intsR (selE g (rs.take k)))]]) (fun k => k ≤ rs.length) (fun k => rs.length - k) 0 (Nat.zero_le _) ?_ ?_
    · (apply Sub.to [1] [[(0,0)]]; all_goals (repeat' (first | exact ToAll.nil | exact famsTo.nil | exact famTo.nil | exact ToL.nil | exact ToR.nil | refine ToAll.cons ?_ ?_ | refine famsTo.cons ?_ ?_ | refine wt10 ?_ ?_ | exact To.undef _ | exact To.sc _ | exact To.hslL rfl rfl | exact To.ptrO rfl rfl rfl | exact To.mrefO rfl | exact To.nil rfl rfl rfl | exact wt1 | exact To.nilL | refine To.int ?_ | refine To.bool ?_ | refine To.hslL rfl ?_ | refine wt2 rfl ?_ ?_ ?_ | refine To.tupL ?_ | refine To.aggL ?_ | refine To.cptrL ?_ | refine wt3 ?_ | refine wt4 ?_ | refine To.cloL ?_ ?_ | exact wt5 | refine wt6 ?_ | refine ToB.one ?_ | exact wt7 | ((with_reducible apply ToL.consE); case e9 => rfl) | refine wt8 ?_ | refine ToL.cons ?_ ?_ | exact wt11 | refine wt9 ?_ ?_ | refine wt12 ?_ | (with_reducible rfl) | assumption)); all_goals (first | rfl | assumption | (simp; done) | (simp; omega) | (rw [wrap_small (by omega) (by omega)]; done) | (rw [wrap_small (by omega) (by omega)]; omega) | (refine congrArg Nat.cast ?_; assumption) | skip))
    rintro k hk
    refine walkX ?_
    rw [e0]
    refine walkX ?_
    refine AWP.condD rfl (fun h => ?_) (fun h => ?_)
    · have hx := d1 rs[k] (List.getElem_mem h)
      have hrr := intsR_ix rs k h
      have ht := List.take_succ_eq_append_getElem h
      have hle : (selE g (rs.take k)).length ≤ 1000000 := by unfold selE; rw [List.length_map, List.length_take]; omega
      generalize rs[k] = x at *
      obtain ⟨q, rfl⟩ : ∃ q : Nat, x = q := ⟨x.toNat, by omega⟩
      have hq : q < g.length := by omega
      have hgx := intsR_ix g q hq
      have e5 := @getD_at g q hq
      have e1 := intsR_len (selE g (rs.take k))
      have e2 : selE g (rs.take (k + 1)) = selE g (rs.take k) ++ [g[q]] := by rw [ht]; unfold selE; rw [List.map_append, List.map_cons, e5]; rfl
      generalize selE g (rs.take k) = o at *
      generalize g[q] = y at *
      have e3 : intsR (o ++ [y]) = intsR o ++ [[.sc (.int .i64 y)]] := by simp [intsR]
      have e4 : (o ++ [y]).length = o.length + 1 := by simp
      refine walkX ?_
      refine ⟨k + 1, by omega, by omega, ?_⟩
      rw [e2, e3, e4]
      (apply Sub.to [] [[(2,0)]]; all_goals (repeat' (first | exact ToAll.nil | exact famsTo.nil | exact famTo.nil | exact ToL.nil | exact ToR.nil | refine ToAll.cons ?_ ?_ | refine famsTo.cons ?_ ?_ | refine wt10 ?_ ?_ | exact To.undef _ | exact To.sc _ | exact To.hslL rfl rfl | exact To.ptrO rfl rfl rfl | exact To.mrefO rfl | exact To.nil rfl rfl rfl | exact wt1 | exact To.nilL | refine To.int ?_ | refine To.bool ?_ | refine To.hslL rfl ?_ | refine wt2 rfl ?_ ?_ ?_ | refine To.tupL ?_ | refine To.aggL ?_ | refine To.cptrL ?_ | refine wt3 ?_ | refine wt4 ?_ | refine To.cloL ?_ ?_ | exact wt5 | refine wt6 ?_ | refine ToB.one ?_ | exact wt7 | ((with_reducible apply ToL.consE); case e9 => rfl) | refine wt8 ?_ | refine ToL.cons ?_ ?_ | exact wt11 | refine wt9 ?_ ?_ | refine wt12 ?_ | (with_reducible rfl) | assumption)); all_goals (first | rfl | assumption | (simp; done) | (simp; omega) | (rw [wrap_small (by omega) (by omega)]; done) | (rw [wrap_small (by omega) (by omega)]; omega) | (refine congrArg Nat.cast ?_; assumption) | skip))
    have hk : k = rs.length := by omega
    subst hk
    rw [List.take_of_length_le (Nat.le_refl _)]
    refine walkX ?_
    (refine endH [[(0,0)]] (by first | exact .inr rfl | exact .inl rfl) rfl ⟨rfl, rfl⟩ ?_ ?_ rfl rfl rfl; all_goals (repeat' (first | exact ToAll.nil | exact famsTo.nil | exact famTo.nil | exact ToL.nil | exact ToR.nil | refine ToAll.cons ?_ ?_ | refine famsTo.cons ?_ ?_ | refine wt10 ?_ ?_ | exact To.undef _ | exact To.sc _ | exact To.hslL rfl rfl | exact To.ptrO rfl rfl rfl | exact To.mrefO rfl | exact To.nil rfl rfl rfl | exact wt1 | exact To.nilL | refine To.int ?_ | refine To.bool ?_ | refine To.hslL rfl ?_ | refine wt2 rfl ?_ ?_ ?_ | refine To.tupL ?_ | refine To.aggL ?_ | refine To.cptrL ?_ | refine wt3 ?_ | refine wt4 ?_ | refine To.cloL ?_ ?_ | exact wt5 | refine wt6 ?_ | refine ToB.one ?_ | exact wt7 | ((with_reducible apply ToL.consE); case e9 => rfl) | refine wt8 ?_ | refine ToL.cons ?_ ?_ | exact wt11 | refine wt9 ?_ ?_ | refine wt12 ?_ | (with_reducible rfl) | assumption)); all_goals (first | rfl | assumption | (simp; done) | (simp; omega) | (rw [wrap_small (by omega) (by omega)]; done) | (rw [wrap_small (by omega) (by omega)]; omega) | (refine congrArg Nat.cast ?_; assumption) | skip))
  · have e : ansE (rkE g rs) (selE g rs) = (rkE g rs, []) := if_neg h
    rw [e]
    refine walkX ?_
    rw [show (rkE g rs != 0) = true from by simpa using h]
    refine walkX ?_
    (refine ⟨.inr rfl, _, .tup [.hsl 0 0 0 0, .sc (.int .i64 (rkE g rs))], [[.cells 1 []]], rfl, SubV.to [1] [[((0),0)]] ?_ ?_ rfl rfl rfl, rfl, rfl⟩; all_goals (all_goals (repeat' (first | exact ToAll.nil | exact famsTo.nil | exact famTo.nil | exact ToL.nil | exact ToR.nil | refine ToAll.cons ?_ ?_ | refine famsTo.cons ?_ ?_ | refine wt10 ?_ ?_ | exact To.undef _ | exact To.sc _ | exact To.hslL rfl rfl | exact To.ptrO rfl rfl rfl | exact To.mrefO rfl | exact To.nil rfl rfl rfl | exact wt1 | exact To.nilL | refine To.int ?_ | refine To.bool ?_ | refine To.hslL rfl ?_ | refine wt2 rfl ?_ ?_ ?_ | refine To.tupL ?_ | refine To.aggL ?_ | refine To.cptrL ?_ | refine wt3 ?_ | refine wt4 ?_ | refine To.cloL ?_ ?_ | exact wt5 | refine wt6 ?_ | refine ToB.one ?_ | exact wt7 | ((with_reducible apply ToL.consE); case e9 => rfl) | refine wt8 ?_ | refine ToL.cons ?_ ?_ | exact wt11 | refine wt9 ?_ ?_ | refine wt12 ?_ | (with_reducible rfl) | assumption)); all_goals (first | rfl | assumption | (simp; done) | (simp; omega) | (rw [wrap_small (by omega) (by omega)]; done) | (rw [wrap_small (by omega) (by omega)]; omega) | (refine congrArg Nat.cast ?_; assumption) | skip)))
theorem sel_at {g rs : List Int} (h : rkE g rs = 0) {k : Nat} (hk : k < g.length) : notIn' (selE g rs) g[k] = decide (idxE k rs < 0) := by
  obtain ⟨c1, c2⟩ := rk0 h
  obtain ⟨g1, g2, g3⟩ := check0_rng c1
  obtain ⟨d1, _, d2⟩ := dist0_rng c2
  have hi := (idxE_mem k rs).1
  unfold notIn'
  by_cases hm : (k : Int) ∈ rs
  · have h0 := hi.2 hm
    have hs : g[k] ∈ selE g rs := List.mem_map.2 ⟨k, hm, getD_at hk⟩
    rw [decide_eq_true hs, decide_eq_false (by omega)]
    rfl
  · have h0 : idxE k rs < 0 := Int.not_le.1 fun q => hm (hi.1 q)
    have hs : g[k] ∉ selE g rs := fun q => by
      obtain ⟨r, hr, e⟩ := List.mem_map.1 q
      have := d1 r hr
      obtain ⟨q, rfl⟩ : ∃ q : Nat, r = q := ⟨r.toNat, by omega⟩
      have hql : q < g.length := by omega
      rw [getD_at hql] at e
      have := (List.getElem?_inj hql g2).1 (show g[q]? = g[k]? by rw [List.getElem?_eq_getElem hql, List.getElem?_eq_getElem hk, e])
      subst this
      exact hm hr
    rw [decide_eq_false hs, decide_eq_true h0]
    rfl
set_option maxHeartbeats 4000000 in
theorem excl_doc (g rs : List Int) (hg : g.length ≤ 1000000) (hr : rs.length ≤ 1000000) : CallOK Try.prog 44 [.list 1 (intsR g), .list 1 (intsR rs)] [] (ansS (exclA g rs)) := by
  refine CallOK.of cF44 ?_ (Nat.le_of_ble_eq_true rfl)
  have h1 := ranked_doc g rs hg hr
  have e0 := intsR_len g
  unfold ansS exclA
  by_cases h : rkE g rs = 0
  · have hs := fun k hk => @sel_at g rs h k hk
    have e : ansE (rkE g rs) (g.filter (notIn' (selE g rs))) = (0, g.filter (notIn' (selE g rs))) := if_pos h
    rw [e]
    rw [h] at h1
    generalize notIn' (selE g rs) = p at *
    refine walkX ?_
    refine AWP.loop (fun k : Nat => [(0, .list 1 (intsR g)), (1, .list 1 (intsR rs)), (7, .hsl 0 0 0 ((g.take k).filter p).length), (8, .sc (.int .i64 (k : Int)))])
      (fun k => [[.cells 1 (intsR ((g.take k).filter p))]]) (fun k => k ≤ g.length) (fun k => g.length - k) 0 (Nat.zero_le _) ?_ ?_
    · (apply Sub.to [1] [[(0,0)]]; all_goals (repeat' (first | exact ToAll.nil | exact famsTo.nil | exact famTo.nil | exact ToL.nil | exact ToR.nil | refine ToAll.cons ?_ ?_ | refine famsTo.cons ?_ ?_ | refine wt10 ?_ ?_ | exact To.undef _ | exact To.sc _ | exact To.hslL rfl rfl | exact To.ptrO rfl rfl rfl | exact To.mrefO rfl | exact To.nil rfl rfl rfl | exact wt1 | exact To.nilL | refine To.int ?_ | refine To.bool ?_ | refine To.hslL rfl ?_ | refine wt2 rfl ?_ ?_ ?_ | refine To.tupL ?_ | refine To.aggL ?_ | refine To.cptrL ?_ | refine wt3 ?_ | refine wt4 ?_ | refine To.cloL ?_ ?_ | exact wt5 | refine wt6 ?_ | refine ToB.one ?_ | exact wt7 | ((with_reducible apply ToL.consE); case e9 => rfl) | refine wt8 ?_ | refine ToL.cons ?_ ?_ | exact wt11 | refine wt9 ?_ ?_ | refine wt12 ?_ | (with_reducible rfl) | assumption)); all_goals (first | rfl | assumption | (simp; done) | (simp; omega) | (rw [wrap_small (by omega) (by omega)]; done) | (rw [wrap_small (by omega) (by omega)]; omega) | (refine congrArg Nat.cast ?_; assumption) | skip))
    rintro k hk
    refine walkX ?_
    rw [e0]
    refine walkX ?_
    refine AWP.condD rfl (fun h => ?_) (fun h => ?_)
    · have hrr := intsR_ix g k h
      have ht := List.take_succ_eq_append_getElem h
      have hpx := hs k h
      have hle : ((g.take k).filter p).length ≤ 1000000 := Nat.le_trans (List.length_filter_le _ _) (by rw [List.length_take]; omega)
      have hv := index_ok rs k hr
      have e1 := intsR_len ((g.take k).filter p)
      generalize g[k] = x at *
      refine walkX ?_
      by_cases hi : idxE k rs < 0
      · have e2 : (g.take (k + 1)).filter p = (g.take k).filter p ++ [x] := by rw [ht, List.filter_append, List.filter_cons, if_pos (by rw [hpx]; simpa using hi)]; rfl
        have e3 : intsR ((g.take k).filter p ++ [x]) = intsR ((g.take k).filter p) ++ [[.sc (.int .i64 x)]] := by simp [intsR]
        have e4 : ((g.take k).filter p ++ [x]).length = ((g.take k).filter p).length + 1 := by simp
        rw [decide_eq_true hi]
        generalize (g.take k).filter p = o at *
        refine walkX ?_
        refine ⟨k + 1, by omega, by omega, ?_⟩
        rw [e2, e3, e4]
        (apply Sub.to [] [[(2,0)]]; all_goals (repeat' (first | exact ToAll.nil | exact famsTo.nil | exact famTo.nil | exact ToL.nil | exact ToR.nil | refine ToAll.cons ?_ ?_ | refine famsTo.cons ?_ ?_ | refine wt10 ?_ ?_ | exact To.undef _ | exact To.sc _ | exact To.hslL rfl rfl | exact To.ptrO rfl rfl rfl | exact To.mrefO rfl | exact To.nil rfl rfl rfl | exact wt1 | exact To.nilL | refine To.int ?_ | refine To.bool ?_ | refine To.hslL rfl ?_ | refine wt2 rfl ?_ ?_ ?_ | refine To.tupL ?_ | refine To.aggL ?_ | refine To.cptrL ?_ | refine wt3 ?_ | refine wt4 ?_ | refine To.cloL ?_ ?_ | exact wt5 | refine wt6 ?_ | refine ToB.one ?_ | exact wt7 | ((with_reducible apply ToL.consE); case e9 => rfl) | refine wt8 ?_ | refine ToL.cons ?_ ?_ | exact wt11 | refine wt9 ?_ ?_ | refine wt12 ?_ | (with_reducible rfl) | assumption)); all_goals (first | rfl | assumption | (simp; done) | (simp; omega) | (rw [wrap_small (by omega) (by omega)]; done) | (rw [wrap_small (by omega) (by omega)]; omega) | (refine congrArg Nat.cast ?_; assumption) | skip))
      · have e2 : (g.take (k + 1)).filter p = (g.take k).filter p := by rw [ht, List.filter_append, List.filter_cons, if_neg (by rw [hpx]; simpa using hi)]; simp
        rw [decide_eq_false hi]
        generalize (g.take k).filter p = o at *
        refine walkX ?_
        refine ⟨k + 1, by omega, by omega, ?_⟩
        rw [e2]
        (apply Sub.to [] [[(0,0)]]; all_goals (repeat' (first | exact ToAll.nil | exact famsTo.nil | exact famTo.nil | exact ToL.nil | exact ToR.nil | refine ToAll.cons ?_ ?_ | refine famsTo.cons ?_ ?_ | refine wt10 ?_ ?_ | exact To.undef _ | exact To.sc _ | exact To.hslL rfl rfl | exact To.ptrO rfl rfl rfl | exact To.mrefO rfl | exact To.nil rfl rfl rfl | exact wt1 | exact To.nilL | refine To.int ?_ | refine To.bool ?_ | refine To.hslL rfl ?_ | refine wt2 rfl ?_ ?_ ?_ | refine To.tupL ?_ | refine To.aggL ?_ | refine To.cptrL ?_ | refine wt3 ?_ | refine wt4 ?_ | refine To.cloL ?_ ?_ | exact wt5 | refine wt6 ?_ | refine ToB.one ?_ | exact wt7 | ((with_reducible apply ToL.consE); case e9 => rfl) | refine wt8 ?_ | refine ToL.cons ?_ ?_ | exact wt11 | refine wt9 ?_ ?_ | refine wt12 ?_ | (with_reducible rfl) | assumption)); all_goals (first | rfl | assumption | (simp; done) | (simp; omega) | (rw [wrap_small (by omega) (by omega)]; done) | (rw [wrap_small (by omega) (by omega)]; omega) | (refine congrArg Nat.cast ?_; assumption) | skip))
    have hk : k = g.length := by omega
    subst hk
    rw [List.take_of_length_le (Nat.le_refl _)]
    refine walkX ?_
    (refine endH [[(0,0)]] (by first | exact .inr rfl | exact .inl rfl) rfl ⟨rfl, rfl⟩ ?_ ?_ rfl rfl rfl; all_goals (repeat' (first | exact ToAll.nil | exact famsTo.nil | exact famTo.nil | exact ToL.nil | exact ToR.nil | refine ToAll.cons ?_ ?_ | refine famsTo.cons ?_ ?_ | refine wt10 ?_ ?_ | exact To.undef _ | exact To.sc _ | exact To.hslL rfl rfl | exact To.ptrO rfl rfl rfl | exact To.mrefO rfl | exact To.nil rfl rfl rfl | exact wt1 | exact To.nilL | refine To.int ?_ | refine To.bool ?_ | refine To.hslL rfl ?_ | refine wt2 rfl ?_ ?_ ?_ | refine To.tupL ?_ | refine To.aggL ?_ | refine To.cptrL ?_ | refine wt3 ?_ | refine wt4 ?_ | refine To.cloL ?_ ?_ | exact wt5 | refine wt6 ?_ | refine ToB.one ?_ | exact wt7 | ((with_reducible apply ToL.consE); case e9 => rfl) | refine wt8 ?_ | refine ToL.cons ?_ ?_ | exact wt11 | refine wt9 ?_ ?_ | refine wt12 ?_ | (with_reducible rfl) | assumption)); all_goals (first | rfl | assumption | (simp; done) | (simp; omega) | (rw [wrap_small (by omega) (by omega)]; done) | (rw [wrap_small (by omega) (by omega)]; omega) | (refine congrArg Nat.cast ?_; assumption) | skip))
  · have e : ansE (rkE g rs) (g.filter (notIn' (selE g rs))) = (rkE g rs, []) := if_neg h
    rw [e]
    refine walkX ?_
    rw [show (rkE g rs != 0) = true from by simpa using h]
    refine walkX ?_
    (refine ⟨.inr rfl, _, .tup [.hsl 0 0 0 0, .sc (.int .i64 (rkE g rs))], [[.cells 1 []]], rfl, SubV.to [1] [[((0),0)]] ?_ ?_ rfl rfl rfl, rfl, rfl⟩; all_goals (all_goals (repeat' (first | exact ToAll.nil | exact famsTo.nil | exact famTo.nil | exact ToL.nil | exact ToR.nil | refine ToAll.cons ?_ ?_ | refine famsTo.cons ?_ ?_ | refine wt10 ?_ ?_ | exact To.undef _ | exact To.sc _ | exact To.hslL rfl rfl | exact To.ptrO rfl rfl rfl | exact To.mrefO rfl | exact To.nil rfl rfl rfl | exact wt1 | exact To.nilL | refine To.int ?_ | refine To.bool ?_ | refine To.hslL rfl ?_ | refine wt2 rfl ?_ ?_ ?_ | refine To.tupL ?_ | refine To.aggL ?_ | refine To.cptrL ?_ | refine wt3 ?_ | refine wt4 ?_ | refine To.cloL ?_ ?_ | exact wt5 | refine wt6 ?_ | refine ToB.one ?_ | exact wt7 | ((with_reducible apply ToL.consE); case e9 => rfl) | refine wt8 ?_ | refine ToL.cons ?_ ?_ | exact wt11 | refine wt9 ?_ ?_ | refine wt12 ?_ | (with_reducible rfl) | assumption)); all_goals (first | rfl | assumption | (simp; done) | (simp; omega) | (rw [wrap_small (by omega) (by omega)]; done) | (rw [wrap_small (by omega) (by omega)]; omega) | (refine congrArg Nat.cast ?_; assumption) | skip)))
set_option maxHeartbeats 8000000 in
theorem trans_doc (a b rs : List Int) (ha : a.length ≤ 1000000) (hb : b.length ≤ 1000000) (hr : rs.length ≤ 1000000) : CallOK Try.prog 46 [.list 1 (intsR a), .list 1 (intsR rs), .list 1 (intsR b)] [] (ansS (transA a b rs)) := by
  refine CallOK.of cF46 ?_ (Nat.le_of_ble_eq_true rfl)
  have h1 := both_doc a b ha hb
  have e0 := intsR_len rs
  have ea := intsR_len a
  unfold ansS
  by_cases h : bothE a b = 0
  · have e : transA a b rs = if rs.any (badR a) then (11, []) else (0, rs.map (toE a b)) := if_pos h
    rw [h] at h1
    refine walkX ?_
    refine AWP.loop (fun k : Nat => [(0, .list 1 (intsR a)), (1, .list 1 (intsR rs)), (2, .list 1 (intsR b)), (9, .hsl 0 0 0 ((rs.take k).map (toE a b)).length), (10, .sc (.int .i64 (k : Int)))])
      (fun k => [[.cells 1 (intsR ((rs.take k).map (toE a b)))]]) (fun k => k ≤ rs.length ∧ (rs.take k).any (badR a) = false) (fun k => rs.length - k) 0 ⟨Nat.zero_le _, rfl⟩ ?_ ?_
    · (apply Sub.to [1] [[(0,0)]]; all_goals (repeat' (first | exact ToAll.nil | exact famsTo.nil | exact famTo.nil | exact ToL.nil | exact ToR.nil | refine ToAll.cons ?_ ?_ | refine famsTo.cons ?_ ?_ | refine wt10 ?_ ?_ | exact To.undef _ | exact To.sc _ | exact To.hslL rfl rfl | exact To.ptrO rfl rfl rfl | exact To.mrefO rfl | exact To.nil rfl rfl rfl | exact wt1 | exact To.nilL | refine To.int ?_ | refine To.bool ?_ | refine To.hslL rfl ?_ | refine wt2 rfl ?_ ?_ ?_ | refine To.tupL ?_ | refine To.aggL ?_ | refine To.cptrL ?_ | refine wt3 ?_ | refine wt4 ?_ | refine To.cloL ?_ ?_ | exact wt5 | refine wt6 ?_ | refine ToB.one ?_ | exact wt7 | ((with_reducible apply ToL.consE); case e9 => rfl) | refine wt8 ?_ | refine ToL.cons ?_ ?_ | exact wt11 | refine wt9 ?_ ?_ | refine wt12 ?_ | (with_reducible rfl) | assumption)); all_goals (first | rfl | assumption | (simp; done) | (simp; omega) | (rw [wrap_small (by omega) (by omega)]; done) | (rw [wrap_small (by omega) (by omega)]; omega) | (refine congrArg Nat.cast ?_; assumption) | skip))
    rintro k ⟨hk, hbad⟩
    refine walkX ?_
    rw [e0]
    refine walkX ?_
    refine AWP.condD rfl (fun h => ?_) (fun h => ?_)
    · have hrr := intsR_ix rs k h
      have ht := List.take_succ_eq_append_getElem h
      have hany := any_at (p := badR a) h
      have hany2 := any_take (p := badR a) h hbad
      have hle : ((rs.take k).map (toE a b)).length ≤ 1000000 := by rw [List.length_map, List.length_take]; omega
      have e1 := intsR_len ((rs.take k).map (toE a b))
      have e2 : (rs.take (k + 1)).map (toE a b) = (rs.take k).map (toE a b) ++ [toE a b rs[k]] := by rw [ht, List.map_append]; rfl
      generalize (rs.take k).map (toE a b) = o at *
      generalize rs[k] = x at *
      have e3 : ∀ y, intsR (o ++ [y]) = intsR o ++ [[.sc (.int .i64 y)]] := fun y => by simp [intsR]
      have e4 : ∀ y, (o ++ [y]).length = o.length + 1 := fun y => by simp
      by_cases hn : x = -2
      · subst hn
        have ht : toE a b (-2) = -2 := rfl
        have hg : badR a (-2) = false := rfl
        rw [ht] at e2
        refine walkX ?_
        refine ⟨k + 1, ⟨by omega, hany2 hg⟩, by omega, ?_⟩
        rw [e2, e3, e4]
        (apply Sub.to [] [[(2,0)]]; all_goals (repeat' (first | exact ToAll.nil | exact famsTo.nil | exact famTo.nil | exact ToL.nil | exact ToR.nil | refine ToAll.cons ?_ ?_ | refine famsTo.cons ?_ ?_ | refine wt10 ?_ ?_ | exact To.undef _ | exact To.sc _ | exact To.hslL rfl rfl | exact To.ptrO rfl rfl rfl | exact To.mrefO rfl | exact To.nil rfl rfl rfl | exact wt1 | exact To.nilL | refine To.int ?_ | refine To.bool ?_ | refine To.hslL rfl ?_ | refine wt2 rfl ?_ ?_ ?_ | refine To.tupL ?_ | refine To.aggL ?_ | refine To.cptrL ?_ | refine wt3 ?_ | refine wt4 ?_ | refine To.cloL ?_ ?_ | exact wt5 | refine wt6 ?_ | refine ToB.one ?_ | exact wt7 | ((with_reducible apply ToL.consE); case e9 => rfl) | refine wt8 ?_ | refine ToL.cons ?_ ?_ | exact wt11 | refine wt9 ?_ ?_ | refine wt12 ?_ | (with_reducible rfl) | assumption)); all_goals (first | rfl | assumption | (simp; done) | (simp; omega) | (rw [wrap_small (by omega) (by omega)]; done) | (rw [wrap_small (by omega) (by omega)]; omega) | (refine congrArg Nat.cast ?_; assumption) | skip))
      have fin : badR a x = true → AV.tup [.hsl 0 0 0 0, .sc (.int .i64 11)] = AV.tup [.hsl 0 0 0 (transA a b rs).2.length, .sc (.int .i64 (transA a b rs).1)] ∧ ([[.cells 1 []]] : Heap) = [[.cells 1 (intsR (transA a b rs).2)]] := fun hp => by
        rw [e, if_pos (hany hp)]
        exact ⟨rfl, rfl⟩
      have hne : (x != -2) = true := by simpa using hn
      by_cases hneg : x < 0
      · refine walkX ?_
        rw [hne]
        refine walkX ?_
        rw [decide_eq_true hneg]
        refine walkX ?_
        (refine ⟨.inr rfl, _, .tup [.hsl 0 0 0 0, .sc (.int .i64 11)], [[.cells 1 []]], rfl, SubV.to [1] [[((1),0)]] ?_ ?_ rfl rfl rfl, fin (by simp [badR, hn, hneg])⟩; all_goals (all_goals (repeat' (first | exact ToAll.nil | exact famsTo.nil | exact famTo.nil | exact ToL.nil | exact ToR.nil | refine ToAll.cons ?_ ?_ | refine famsTo.cons ?_ ?_ | refine wt10 ?_ ?_ | exact To.undef _ | exact To.sc _ | exact To.hslL rfl rfl | exact To.ptrO rfl rfl rfl | exact To.mrefO rfl | exact To.nil rfl rfl rfl | exact wt1 | exact To.nilL | refine To.int ?_ | refine To.bool ?_ | refine To.hslL rfl ?_ | refine wt2 rfl ?_ ?_ ?_ | refine To.tupL ?_ | refine To.aggL ?_ | refine To.cptrL ?_ | refine wt3 ?_ | refine wt4 ?_ | refine To.cloL ?_ ?_ | exact wt5 | refine wt6 ?_ | refine ToB.one ?_ | exact wt7 | ((with_reducible apply ToL.consE); case e9 => rfl) | refine wt8 ?_ | refine ToL.cons ?_ ?_ | exact wt11 | refine wt9 ?_ ?_ | refine wt12 ?_ | (with_reducible rfl) | assumption)); all_goals (first | rfl | assumption | (simp; done) | (simp; omega) | (rw [wrap_small (by omega) (by omega)]; done) | (rw [wrap_small (by omega) (by omega)]; omega) | (refine congrArg Nat.cast ?_; assumption) | skip)))
      obtain ⟨q, rfl⟩ : ∃ q : Nat, x = q := ⟨x.toNat, by omega⟩
      by_cases hq : a.length ≤ q
      · have hqi : (a.length : Int) ≤ (q : Int) := by omega
        refine walkX ?_
        rw [hne]
        refine walkX ?_
        rw [ea, decide_eq_true hq]
        refine walkX ?_
        (refine ⟨.inr rfl, _, .tup [.hsl 0 0 0 0, .sc (.int .i64 11)], [[.cells 1 []]], rfl, SubV.to [1] [[((1),0)]] ?_ ?_ rfl rfl rfl, fin (by simp [badR, hqi])⟩; all_goals (all_goals (repeat' (first | exact ToAll.nil | exact famsTo.nil | exact famTo.nil | exact ToL.nil | exact ToR.nil | refine ToAll.cons ?_ ?_ | refine famsTo.cons ?_ ?_ | refine wt10 ?_ ?_ | exact To.undef _ | exact To.sc _ | exact To.hslL rfl rfl | exact To.ptrO rfl rfl rfl | exact To.mrefO rfl | exact To.nil rfl rfl rfl | exact wt1 | exact To.nilL | refine To.int ?_ | refine To.bool ?_ | refine To.hslL rfl ?_ | refine wt2 rfl ?_ ?_ ?_ | refine To.tupL ?_ | refine To.aggL ?_ | refine To.cptrL ?_ | refine wt3 ?_ | refine wt4 ?_ | refine To.cloL ?_ ?_ | exact wt5 | refine wt6 ?_ | refine ToB.one ?_ | exact wt7 | ((with_reducible apply ToL.consE); case e9 => rfl) | refine wt8 ?_ | refine ToL.cons ?_ ?_ | exact wt11 | refine wt9 ?_ ?_ | refine wt12 ?_ | (with_reducible rfl) | assumption)); all_goals (first | rfl | assumption | (simp; done) | (simp; omega) | (rw [wrap_small (by omega) (by omega)]; done) | (rw [wrap_small (by omega) (by omega)]; omega) | (refine congrArg Nat.cast ?_; assumption) | skip)))
      have hql : q < a.length := by omega
      have hg : badR a (q : Int) = false := by simp [badR]; omega
      have hax := intsR_ix a q hql
      have h91 := index_ok b a[q] hb
      have e5 := @getD_at a q hql
      have ht5 : toE a b (q : Int) = if idxE a[q] b < 0 then -2 else idxE a[q] b := by
        unfold toE
        rw [e5, if_neg hn]
      rw [ht5] at e2
      generalize a[q] = y at *
      refine walkX ?_
      rw [hne]
      refine walkX ?_
      rw [ea, decide_eq_false hq]
      refine walkX ?_
      rw [hne]
      refine walkX ?_
      by_cases hi : idxE y b < 0
      · rw [if_pos hi] at e2
        rw [decide_eq_true hi]
        refine walkX ?_
        refine ⟨k + 1, ⟨by omega, hany2 hg⟩, by omega, ?_⟩
        rw [e2, e3, e4]
        (apply Sub.to [] [[(2,0)]]; all_goals (repeat' (first | exact ToAll.nil | exact famsTo.nil | exact famTo.nil | exact ToL.nil | exact ToR.nil | refine ToAll.cons ?_ ?_ | refine famsTo.cons ?_ ?_ | refine wt10 ?_ ?_ | exact To.undef _ | exact To.sc _ | exact To.hslL rfl rfl | exact To.ptrO rfl rfl rfl | exact To.mrefO rfl | exact To.nil rfl rfl rfl | exact wt1 | exact To.nilL | refine To.int ?_ | refine To.bool ?_ | refine To.hslL rfl ?_ | refine wt2 rfl ?_ ?_ ?_ | refine To.tupL ?_ | refine To.aggL ?_ | refine To.cptrL ?_ | refine wt3 ?_ | refine wt4 ?_ | refine To.cloL ?_ ?_ | exact wt5 | refine wt6 ?_ | refine ToB.one ?_ | exact wt7 | ((with_reducible apply ToL.consE); case e9 => rfl) | refine wt8 ?_ | refine ToL.cons ?_ ?_ | exact wt11 | refine wt9 ?_ ?_ | refine wt12 ?_ | (with_reducible rfl) | assumption)); all_goals (first | rfl | assumption | (simp; done) | (simp; omega) | (rw [wrap_small (by omega) (by omega)]; done) | (rw [wrap_small (by omega) (by omega)]; omega) | (refine congrArg Nat.cast ?_; assumption) | skip))
      · rw [if_neg hi] at e2
        rw [decide_eq_false hi]
        refine walkX ?_
        refine ⟨k + 1, ⟨by omega, hany2 hg⟩, by omega, ?_⟩
        rw [e2, e3, e4]
        (apply Sub.to [] [[(2,0)]]; all_goals (repeat' (first | exact ToAll.nil | exact famsTo.nil | exact famTo.nil | exact ToL.nil | exact ToR.nil | refine ToAll.cons ?_ ?_ | refine famsTo.cons ?_ ?_ | refine wt10 ?_ ?_ | exact To.undef _ | exact To.sc _ | exact To.hslL rfl rfl | exact To.ptrO rfl rfl rfl | exact To.mrefO rfl | exact To.nil rfl rfl rfl | exact wt1 | exact To.nilL | refine To.int ?_ | refine To.bool ?_ | refine To.hslL rfl ?_ | refine wt2 rfl ?_ ?_ ?_ | refine To.tupL ?_ | refine To.aggL ?_ | refine To.cptrL ?_ | refine wt3 ?_ | refine wt4 ?_ | refine To.cloL ?_ ?_ | exact wt5 | refine wt6 ?_ | refine ToB.one ?_ | exact wt7 | ((with_reducible apply ToL.consE); case e9 => rfl) | refine wt8 ?_ | refine ToL.cons ?_ ?_ | exact wt11 | refine wt9 ?_ ?_ | refine wt12 ?_ | (with_reducible rfl) | assumption)); all_goals (first | rfl | assumption | (simp; done) | (simp; omega) | (rw [wrap_small (by omega) (by omega)]; done) | (rw [wrap_small (by omega) (by omega)]; omega) | (refine congrArg Nat.cast ?_; assumption) | skip))
    have hk : k = rs.length := by omega
    subst hk
    rw [List.take_of_length_le (Nat.le_refl _)] at hbad ⊢
    rw [hbad, if_neg (by simp)] at e
    rw [e]
    refine walkX ?_
    (refine endH [[(0,0)]] (by first | exact .inr rfl | exact .inl rfl) rfl ⟨rfl, rfl⟩ ?_ ?_ rfl rfl rfl; all_goals (repeat' (first | exact ToAll.nil | exact famsTo.nil | exact famTo.nil | exact ToL.nil | exact ToR.nil | refine ToAll.cons ?_ ?_ | refine famsTo.cons ?_ ?_ | refine wt10 ?_ ?_ | exact To.undef _ | exact To.sc _ | exact To.hslL rfl rfl | exact To.ptrO rfl rfl rfl | exact To.mrefO rfl | exact To.nil rfl rfl rfl | exact wt1 | exact To.nilL | refine To.int ?_ | refine To.bool ?_ | refine To.hslL rfl ?_ | refine wt2 rfl ?_ ?_ ?_ | refine To.tupL ?_ | refine To.aggL ?_ | refine To.cptrL ?_ | refine wt3 ?_ | refine wt4 ?_ | refine To.cloL ?_ ?_ | exact wt5 | refine wt6 ?_ | refine ToB.one ?_ | exact wt7 | ((with_reducible apply ToL.consE); case e9 => rfl) | refine wt8 ?_ | refine ToL.cons ?_ ?_ | exact wt11 | refine wt9 ?_ ?_ | refine wt12 ?_ | (with_reducible rfl) | assumption)); all_goals (first | rfl | assumption | (simp; done) | (simp; omega) | (rw [wrap_small (by omega) (by omega)]; done) | (rw [wrap_small (by omega) (by omega)]; omega) | (refine congrArg Nat.cast ?_; assumption) | skip))
  · have e : transA a b rs = (bothE a b, []) := if_neg h
    rw [e]
    refine walkX ?_
    rw [show (bothE a b != 0) = true from by simpa using h]
    refine walkX ?_
    (refine ⟨.inr rfl, _, .tup [.hsl 0 0 0 0, .sc (.int .i64 (bothE a b))], [[.cells 1 []]], rfl, SubV.to [1] [[((0),0)]] ?_ ?_ rfl rfl rfl, rfl, rfl⟩; all_goals (all_goals (repeat' (first | exact ToAll.nil | exact famsTo.nil | exact famTo.nil | exact ToL.nil | exact ToR.nil | refine ToAll.cons ?_ ?_ | refine famsTo.cons ?_ ?_ | refine wt10 ?_ ?_ | exact To.undef _ | exact To.sc _ | exact To.hslL rfl rfl | exact To.ptrO rfl rfl rfl | exact To.mrefO rfl | exact To.nil rfl rfl rfl | exact wt1 | exact To.nilL | refine To.int ?_ | refine To.bool ?_ | refine To.hslL rfl ?_ | refine wt2 rfl ?_ ?_ ?_ | refine To.tupL ?_ | refine To.aggL ?_ | refine To.cptrL ?_ | refine wt3 ?_ | refine wt4 ?_ | refine To.cloL ?_ ?_ | exact wt5 | refine wt6 ?_ | refine ToB.one ?_ | exact wt7 | ((with_reducible apply ToL.consE); case e9 => rfl) | refine wt8 ?_ | refine ToL.cons ?_ ?_ | exact wt11 | refine wt9 ?_ ?_ | refine wt12 ?_ | (with_reducible rfl) | assumption)); all_goals (first | rfl | assumption | (simp; done) | (simp; omega) | (rw [wrap_small (by omega) (by omega)]; done) | (rw [wrap_small (by omega) (by omega)]; omega) | (refine congrArg Nat.cast ?_; assumption) | skip)))
end Go.Proofs.Ytpkpfgpfkajkpaa
