import Derived.Test.YtpkpfgpfkajkpaaGCoT2
import Derived.Test.YtpkpfgpfkajkpaaGCoS1
namespace Go.Proofs.Ytpkpfgpfkajkpaa
open Go.Av Go.Proofs
set_option maxRecDepth 20000
def bothE (a b : List Int) : Int := if checkE a = 0 then checkE b else checkE a
def notIn' (s : List Int) (x : Int) : Bool := !decide (x ∈ s)
def isIn' (s : List Int) (x : Int) : Bool := decide (x ∈ s)
def opA (a b o : List Int) : Int × List Int := if bothE a b = 0 then (0, o) else (bothE a b, [])
def ansS (p : Int × List Int) : AV → Heap → Prop := fun res H' => res = .tup [.hsl 0 0 0 p.2.length, .sc (.int .i64 p.1)] ∧ H' = [[.cells 1 (intsR p.2)]]
theorem both_ok (a b : List Int) (ha : a.length ≤ 1000000) (hb : b.length ≤ 1000000) : PureRun Try.prog 78 [.list 1 (intsR a), .list 1 (intsR b)] (.sc (.int .i64 (bothE a b))) := by
  refine PureRun.of (allPure_cons (.list _ _ (prs _)) (allPure_cons (.list _ _ (prs _)) allPure_nil)) (.sc _) (CallOK.mono (R := fun res H' => res = .sc (.int .i64 (bothE a b)) ∧ H' = []) ?_ fun _ _ h => h.1)
  refine CallOK.of cF78 ?_ (Nat.le_of_ble_eq_true rfl)
  have h1 := check_ok a ha
  have h2 := check_ok b hb
  by_cases h : checkE a = 0
  · have hr : AV.sc (Value.int .i64 (checkE b)) = .sc (.int .i64 (bothE a b)) := by unfold bothE; rw [if_pos h]
    rw [h] at h1
    refine walkX ?_
    (refine endH [] (by first | exact .inr rfl | exact .inl rfl) rfl ⟨hr, rfl⟩ ?_ ?_ rfl rfl rfl; all_goals (repeat' (first | exact ToAll.nil | exact famsTo.nil | exact famTo.nil | exact ToL.nil | exact ToR.nil | refine ToAll.cons ?_ ?_ | refine famsTo.cons ?_ ?_ | refine wt10 ?_ ?_ | exact To.undef _ | exact To.sc _ | exact To.hslL rfl rfl | exact To.ptrO rfl rfl rfl | exact To.mrefO rfl | exact To.nil rfl rfl rfl | exact wt1 | exact To.nilL | refine To.int ?_ | refine To.bool ?_ | refine To.hslL rfl ?_ | refine wt2 rfl ?_ ?_ ?_ | refine To.tupL ?_ | refine To.aggL ?_ | refine To.cptrL ?_ | refine wt3 ?_ | refine wt4 ?_ | refine To.cloL ?_ ?_ | exact wt5 | refine wt6 ?_ | refine ToB.one ?_ | exact wt7 | ((with_reducible apply ToL.consE); case e9 => rfl) | refine wt8 ?_ | refine ToL.cons ?_ ?_ | exact wt11 | refine wt9 ?_ ?_ | refine wt12 ?_ | (with_reducible rfl) | assumption)); all_goals (first | rfl | assumption | (simp; done) | (simp; omega) | (rw [wrap_small (by omega) (by omega)]; done) | (rw [wrap_small (by omega) (by omega)]; omega) | (refine congrArg Nat.cast ?_; assumption) | skip))
  · have hr : AV.sc (Value.int .i64 (checkE a)) = .sc (.int .i64 (bothE a b)) := by unfold bothE; rw [if_neg h]
    refine walkX ?_
    rw [show (checkE a != 0) = true from by simpa using h]
    refine walkX ?_
    (refine endH [] (by first | exact .inr rfl | exact .inl rfl) rfl ⟨hr, rfl⟩ ?_ ?_ rfl rfl rfl; all_goals (repeat' (first | exact ToAll.nil | exact famsTo.nil | exact famTo.nil | exact ToL.nil | exact ToR.nil | refine ToAll.cons ?_ ?_ | refine famsTo.cons ?_ ?_ | refine wt10 ?_ ?_ | exact To.undef _ | exact To.sc _ | exact To.hslL rfl rfl | exact To.ptrO rfl rfl rfl | exact To.mrefO rfl | exact To.nil rfl rfl rfl | exact wt1 | exact To.nilL | refine To.int ?_ | refine To.bool ?_ | refine To.hslL rfl ?_ | refine wt2 rfl ?_ ?_ ?_ | refine To.tupL ?_ | refine To.aggL ?_ | refine To.cptrL ?_ | refine wt3 ?_ | refine wt4 ?_ | refine To.cloL ?_ ?_ | exact wt5 | refine wt6 ?_ | refine ToB.one ?_ | exact wt7 | ((with_reducible apply ToL.consE); case e9 => rfl) | refine wt8 ?_ | refine ToL.cons ?_ ?_ | exact wt11 | refine wt9 ?_ ?_ | refine wt12 ?_ | (with_reducible rfl) | assumption)); all_goals (first | rfl | assumption | (simp; done) | (simp; omega) | (rw [wrap_small (by omega) (by omega)]; done) | (rw [wrap_small (by omega) (by omega)]; omega) | (refine congrArg Nat.cast ?_; assumption) | skip))
theorem both0 {a b : List Int} (h : bothE a b = 0) : checkE a = 0 ∧ checkE b = 0 := by
  unfold bothE at h
  split at h
  · rename_i h1
    exact ⟨h1, h⟩
  · rename_i h1
    exact absurd h h1
theorem keep_at (g : FuncId) (s l : List Int) (p : Int → Bool) (hl : l.length ≤ 1000000) (hb : ∀ x ∈ l, 0 ≤ x ∧ x < 64) (hc : ∀ q : Nat, q < 64 → PureRun Try.prog g [.sc (.int .i64 (q : Int)), .cptr (flagR s)] (.sc (.bool (p q)))) :
    CallOK Try.prog 81 [.list 1 (intsR l), .clo (.func g) [] [.ptr 0 0 0 0]] [[.cells 64 [flagR s]]] fun res H' => res = .hsl 1 0 0 (l.filter p).length ∧ H' = [[.cells 64 [flagR s]], [.cells 1 (intsR (l.filter p))]] := by
  refine CallOK.viewL (H := [[.cells 64 [flagR s]]]) (fun r hr c hc => ?_) (keep_ok g s l p hl hb hc) (ToL.cons (To.pure (.list _ _ (prs _))) (ToL.cons (To.cloL trivial (ToL.cons (To.fzp (r := flagR s) (g := 0) (i := 0) (row := 0) rfl rfl rfl (To.pure (.cptr _ (pr _)))) ToL.nil)) ToL.nil))
  obtain ⟨n, _, rfl⟩ := List.mem_map.1 hr
  exact ⟨_, List.mem_singleton.1 hc⟩
set_option maxHeartbeats 4000000 in
theorem inter_ok (a b : List Int) (ha : a.length ≤ 1000000) (hb : b.length ≤ 1000000) : CallOK Try.prog 35 [.list 1 (intsR a), .list 1 (intsR b)] [] (ansS (opA a b (a.filter (isIn' b)))) := by
  refine CallOK.of cF35 ?_ (Nat.le_of_ble_eq_true rfl)
  have h1 := both_ok a b ha hb
  unfold ansS
  by_cases h : bothE a b = 0
  · obtain ⟨c1, c2⟩ := both0 h
    have r1 := check0_rng c1
    have r2 := check0_rng c2
    have h2 := setOf_ok b hb r2.1
    have e : opA a b (a.filter (isIn' b)) = (0, a.filter (isIn' b)) := if_pos h
    rw [e]
    rw [h] at h1
    refine walkX ?_
    refine Reg.sub (fr' := [(16, .list 1 (intsR a)), (17, .clo (.func 86) [] [.ptr 0 0 0 0])]) (H' := [[.cells 64 [flagR b]]]) ?_ ?_
    · exact Sub.w [] [[(0,0)]]
    refine Reg.c (Nat.zero_le _) rfl ((keep_at 86 b a (isIn' b) ha r1.1 (isin_ok b)).mono ?_)
    rintro res H' ⟨rfl, rfl⟩
    refine walkX ?_
    (refine endH [[(1,0)]] (by first | exact .inr rfl | exact .inl rfl) rfl ⟨rfl, rfl⟩ ?_ ?_ rfl rfl rfl; all_goals (repeat' (first | exact ToAll.nil | exact famsTo.nil | exact famTo.nil | exact ToL.nil | exact ToR.nil | refine ToAll.cons ?_ ?_ | refine famsTo.cons ?_ ?_ | refine wt10 ?_ ?_ | exact To.undef _ | exact To.sc _ | exact To.hslL rfl rfl | exact To.ptrO rfl rfl rfl | exact To.mrefO rfl | exact To.nil rfl rfl rfl | exact wt1 | exact To.nilL | refine To.int ?_ | refine To.bool ?_ | refine To.hslL rfl ?_ | refine wt2 rfl ?_ ?_ ?_ | refine To.tupL ?_ | refine To.aggL ?_ | refine To.cptrL ?_ | refine wt3 ?_ | refine wt4 ?_ | refine To.cloL ?_ ?_ | exact wt5 | refine wt6 ?_ | refine ToB.one ?_ | exact wt7 | ((with_reducible apply ToL.consE); case e9 => rfl) | refine wt8 ?_ | refine ToL.cons ?_ ?_ | exact wt11 | refine wt9 ?_ ?_ | refine wt12 ?_ | (with_reducible rfl) | assumption)); all_goals (first | rfl | assumption | (simp; done) | (simp; omega) | (rw [wrap_small (by omega) (by omega)]; done) | (rw [wrap_small (by omega) (by omega)]; omega) | (refine congrArg Nat.cast ?_; assumption) | skip))
  · have e : opA a b (a.filter (isIn' b)) = (bothE a b, []) := if_neg h
    rw [e]
    refine walkX ?_
    rw [show (bothE a b != 0) = true from by simpa using h]
    refine walkX ?_
    (refine ⟨.inr rfl, _, .tup [.hsl 0 0 0 0, .sc (.int .i64 (bothE a b))], [[.cells 1 []]], rfl, SubV.to [1] [[((0),0)]] ?_ ?_ rfl rfl rfl, rfl, rfl⟩; all_goals (all_goals (repeat' (first | exact ToAll.nil | exact famsTo.nil | exact famTo.nil | exact ToL.nil | exact ToR.nil | refine ToAll.cons ?_ ?_ | refine famsTo.cons ?_ ?_ | refine wt10 ?_ ?_ | exact To.undef _ | exact To.sc _ | exact To.hslL rfl rfl | exact To.ptrO rfl rfl rfl | exact To.mrefO rfl | exact To.nil rfl rfl rfl | exact wt1 | exact To.nilL | refine To.int ?_ | refine To.bool ?_ | refine To.hslL rfl ?_ | refine wt2 rfl ?_ ?_ ?_ | refine To.tupL ?_ | refine To.aggL ?_ | refine To.cptrL ?_ | refine wt3 ?_ | refine wt4 ?_ | refine To.cloL ?_ ?_ | exact wt5 | refine wt6 ?_ | refine ToB.one ?_ | exact wt7 | ((with_reducible apply ToL.consE); case e9 => rfl) | refine wt8 ?_ | refine ToL.cons ?_ ?_ | exact wt11 | refine wt9 ?_ ?_ | refine wt12 ?_ | (with_reducible rfl) | assumption)); all_goals (first | rfl | assumption | (simp; done) | (simp; omega) | (rw [wrap_small (by omega) (by omega)]; done) | (rw [wrap_small (by omega) (by omega)]; omega) | (refine congrArg Nat.cast ?_; assumption) | skip)))
set_option maxHeartbeats 4000000 in
theorem diff_ok (a b : List Int) (ha : a.length ≤ 1000000) (hb : b.length ≤ 1000000) : CallOK Try.prog 37 [.list 1 (intsR a), .list 1 (intsR b)] [] (ansS (opA a b (a.filter (notIn' b)))) := by
  refine CallOK.of cF37 ?_ (Nat.le_of_ble_eq_true rfl)
  have h1 := both_ok a b ha hb
  unfold ansS
  by_cases h : bothE a b = 0
  · obtain ⟨c1, c2⟩ := both0 h
    have r1 := check0_rng c1
    have r2 := check0_rng c2
    have h2 := setOf_ok b hb r2.1
    have e : opA a b (a.filter (notIn' b)) = (0, a.filter (notIn' b)) := if_pos h
    rw [e]
    rw [h] at h1
    refine walkX ?_
    refine Reg.sub (fr' := [(16, .list 1 (intsR a)), (17, .clo (.func 87) [] [.ptr 0 0 0 0])]) (H' := [[.cells 64 [flagR b]]]) ?_ ?_
    · exact Sub.w [] [[(0,0)]]
    refine Reg.c (Nat.zero_le _) rfl ((keep_at 87 b a (notIn' b) ha r1.1 (notin_ok2 b)).mono ?_)
    rintro res H' ⟨rfl, rfl⟩
    refine walkX ?_
    (refine endH [[(1,0)]] (by first | exact .inr rfl | exact .inl rfl) rfl ⟨rfl, rfl⟩ ?_ ?_ rfl rfl rfl; all_goals (repeat' (first | exact ToAll.nil | exact famsTo.nil | exact famTo.nil | exact ToL.nil | exact ToR.nil | refine ToAll.cons ?_ ?_ | refine famsTo.cons ?_ ?_ | refine wt10 ?_ ?_ | exact To.undef _ | exact To.sc _ | exact To.hslL rfl rfl | exact To.ptrO rfl rfl rfl | exact To.mrefO rfl | exact To.nil rfl rfl rfl | exact wt1 | exact To.nilL | refine To.int ?_ | refine To.bool ?_ | refine To.hslL rfl ?_ | refine wt2 rfl ?_ ?_ ?_ | refine To.tupL ?_ | refine To.aggL ?_ | refine To.cptrL ?_ | refine wt3 ?_ | refine wt4 ?_ | refine To.cloL ?_ ?_ | exact wt5 | refine wt6 ?_ | refine ToB.one ?_ | exact wt7 | ((with_reducible apply ToL.consE); case e9 => rfl) | refine wt8 ?_ | refine ToL.cons ?_ ?_ | exact wt11 | refine wt9 ?_ ?_ | refine wt12 ?_ | (with_reducible rfl) | assumption)); all_goals (first | rfl | assumption | (simp; done) | (simp; omega) | (rw [wrap_small (by omega) (by omega)]; done) | (rw [wrap_small (by omega) (by omega)]; omega) | (refine congrArg Nat.cast ?_; assumption) | skip))
  · have e : opA a b (a.filter (notIn' b)) = (bothE a b, []) := if_neg h
    rw [e]
    refine walkX ?_
    rw [show (bothE a b != 0) = true from by simpa using h]
    refine walkX ?_
    (refine ⟨.inr rfl, _, .tup [.hsl 0 0 0 0, .sc (.int .i64 (bothE a b))], [[.cells 1 []]], rfl, SubV.to [1] [[((0),0)]] ?_ ?_ rfl rfl rfl, rfl, rfl⟩; all_goals (all_goals (repeat' (first | exact ToAll.nil | exact famsTo.nil | exact famTo.nil | exact ToL.nil | exact ToR.nil | refine ToAll.cons ?_ ?_ | refine famsTo.cons ?_ ?_ | refine wt10 ?_ ?_ | exact To.undef _ | exact To.sc _ | exact To.hslL rfl rfl | exact To.ptrO rfl rfl rfl | exact To.mrefO rfl | exact To.nil rfl rfl rfl | exact wt1 | exact To.nilL | refine To.int ?_ | refine To.bool ?_ | refine To.hslL rfl ?_ | refine wt2 rfl ?_ ?_ ?_ | refine To.tupL ?_ | refine To.aggL ?_ | refine To.cptrL ?_ | refine wt3 ?_ | refine wt4 ?_ | refine To.cloL ?_ ?_ | exact wt5 | refine wt6 ?_ | refine ToB.one ?_ | exact wt7 | ((with_reducible apply ToL.consE); case e9 => rfl) | refine wt8 ?_ | refine ToL.cons ?_ ?_ | exact wt11 | refine wt9 ?_ ?_ | refine wt12 ?_ | (with_reducible rfl) | assumption)); all_goals (first | rfl | assumption | (simp; done) | (simp; omega) | (rw [wrap_small (by omega) (by omega)]; done) | (rw [wrap_small (by omega) (by omega)]; omega) | (refine congrArg Nat.cast ?_; assumption) | skip)))
theorem intsK_R : ∀ l : List Int, intsK (intsR l) = some l
  | [] => rfl
  | x :: l => by
    show (match intsK (intsR l) with | some l => some (x :: l) | none => none) = _
    rw [intsK_R l]
theorem concat_at (a o : List Int) (hl : a.length + o.length ≤ 1000000) : CallOK Try.prog 80 [.hsl 1 0 0 2] [[.cells 1 (intsR o)], [.cells 1 [[.list 1 (intsR a)], [.hsl 0 0 0 o.length]]]] fun res H' =>
    res = .hsl 2 0 0 (a.length + o.length) ∧ H' = [[.cells 1 (intsR o)], [.cells 1 [[.list 1 (intsR a)], [.hsl 0 0 0 o.length]]], [.cells 1 (intsR (a ++ o))]] := by
  refine sum80_ok _ _ _ _ ?_
  have e1 : oneK [[.cells 1 (intsR o)], [.cells 1 [[.list 1 (intsR a)], [.hsl 0 0 0 o.length]]]] (.list 1 (intsR a)) = some a := intsK_R a
  have e2 : oneK [[.cells 1 (intsR o)], [.cells 1 [[.list 1 (intsR a)], [.hsl 0 0 0 o.length]]]] (.hsl 0 0 0 o.length) = some o := by
    show (match Nat.beq (intsR o).length o.length with | true => intsK (intsR o) | false => none) = _
    rw [intsR_len, Nat.beq_refl, intsK_R]
  have e3 : Nat.ble (a.length + o.length) 1000000 = true := Nat.ble_eq_true_of_le hl
  show (match oneK _ (.list 1 (intsR a)), oneK _ (.hsl 0 0 0 o.length) with
    | some l, some m => match Nat.ble (l.length + m.length) 1000000 with
        | true => some (AV.hsl 2 0 0 (l.length + m.length), ([[.cells 1 (intsR o)], [.cells 1 [[.list 1 (intsR a)], [.hsl 0 0 0 o.length]]]] : Heap) ++ [[Blk.cells 1 (intsR (l ++ m))]])
        | false => none
    | _, _ => none) = _
  rw [e1, e2]
  simp only [e3]
  rfl
set_option maxHeartbeats 4000000 in
theorem union_ok (a b : List Int) (ha : a.length ≤ 100000) (hb : b.length ≤ 100000) : CallOK Try.prog 31 [.list 1 (intsR a), .list 1 (intsR b)] [] (ansS (opA a b (a ++ b.filter (notIn' a)))) := by
  refine CallOK.of cF31 ?_ (Nat.le_of_ble_eq_true rfl)
  have h1 := both_ok a b (by omega) (by omega)
  unfold ansS
  by_cases h : bothE a b = 0
  · obtain ⟨c1, c2⟩ := both0 h
    have r1 := check0_rng c1
    have r2 := check0_rng c2
    have h2 := setOf_ok a (by omega) r1.1
    have e : opA a b (a ++ b.filter (notIn' a)) = (0, a ++ b.filter (notIn' a)) := if_pos h
    rw [e]
    rw [h] at h1
    refine walkX ?_
    refine Reg.sub (fr' := [(16, .list 1 (intsR a)), (17, .list 1 (intsR b)), (18, .clo (.func 82) [] [.ptr 0 0 0 0])]) (H' := [[.cells 64 [flagR a]]]) ?_ ?_
    · exact Sub.w [] [[(0,0)]]
    refine Reg.c (Nat.zero_le _) rfl ((keep_at 82 a b (notIn' a) (by omega) r2.1 (notin_ok a)).mono ?_)
    rintro res H' ⟨rfl, rfl⟩
    have hlen : (b.filter (notIn' a)).length ≤ 100000 := Nat.le_trans (List.length_filter_le _ _) hb
    have hcc := concat_at a (b.filter (notIn' a)) (by omega)
    have e2 : (a ++ b.filter (notIn' a)).length = a.length + (b.filter (notIn' a)).length := List.length_append
    generalize b.filter (notIn' a) = o at *
    refine walkX ?_
    show Reg Try.prog _ _ _ _ [[.cells 64 [flagR a]], [.cells 1 (intsR o)], [.cells 1 [[.list 1 (intsR a)], [.hsl 1 0 0 o.length]]]] _
    refine Reg.sub (fr' := [(20, .hsl 1 0 0 2)]) (H' := [[.cells 1 (intsR o)], [.cells 1 [[.list 1 (intsR a)], [.hsl 0 0 0 o.length]]]]) ?_ ?_
    · (apply Sub.to [] [[(1,0)],[(2,0)]]; all_goals (repeat' (first | exact ToAll.nil | exact famsTo.nil | exact famTo.nil | exact ToL.nil | exact ToR.nil | refine ToAll.cons ?_ ?_ | refine famsTo.cons ?_ ?_ | refine wt10 ?_ ?_ | exact To.undef _ | exact To.sc _ | exact To.hslL rfl rfl | exact To.ptrO rfl rfl rfl | exact To.mrefO rfl | exact To.nil rfl rfl rfl | exact wt1 | exact To.nilL | refine To.int ?_ | refine To.bool ?_ | refine To.hslL rfl ?_ | refine wt2 rfl ?_ ?_ ?_ | refine To.tupL ?_ | refine To.aggL ?_ | refine To.cptrL ?_ | refine wt3 ?_ | refine wt4 ?_ | refine To.cloL ?_ ?_ | refine ToB.one ?_ | exact wt5 | refine wt6 ?_ | ((with_reducible apply ToL.consE); case e9 => rfl) | refine ToL.cons ?_ ?_ | exact wt7 | refine wt8 ?_ | exact wt11 | refine wt9 ?_ ?_ | refine wt12 ?_ | (with_reducible rfl) | assumption)); all_goals (first | rfl | assumption | (simp; done) | (simp; omega) | (rw [wrap_small (by omega) (by omega)]; done) | (rw [wrap_small (by omega) (by omega)]; omega) | (refine congrArg Nat.cast ?_; assumption) | skip))
      refine ToB.cells 1 _ _ rfl (fun i r r' p q => ?_) fun i r r' j x y p q u v => ?_
      · match i with
        | 0 => injection p with p; injection q with q; subst p; subst q; rfl
        | 1 => injection p with p; injection q with q; subst p; subst q; rfl
        | i + 2 => simp at p
      · match i with
        | 0 =>
          injection p with p; injection q with q; subst p; subst q
          match j with
          | 0 => injection u with u; injection v with v; subst u; subst v; exact To.pure (.list _ _ (prs _))
          | j + 1 => simp at u
        | 1 =>
          injection p with p; injection q with q; subst p; subst q
          match j with
          | 0 => injection u with u; injection v with v; subst u; subst v; exact To.hslL rfl rfl
          | j + 1 => simp at u
        | i + 2 => simp at p
    refine Reg.c (Nat.zero_le _) rfl (hcc.mono ?_)
    rintro res H' ⟨rfl, rfl⟩
    refine walkX ?_
    dsimp only
    rw [e2]
    (refine endH [[(2,0)]] (by first | exact .inr rfl | exact .inl rfl) rfl ⟨rfl, rfl⟩ ?_ ?_ rfl rfl rfl; all_goals (repeat' (first | exact ToAll.nil | exact famsTo.nil | exact famTo.nil | exact ToL.nil | exact ToR.nil | refine ToAll.cons ?_ ?_ | refine famsTo.cons ?_ ?_ | refine wt10 ?_ ?_ | exact To.undef _ | exact To.sc _ | exact To.hslL rfl rfl | exact To.ptrO rfl rfl rfl | exact To.mrefO rfl | exact To.nil rfl rfl rfl | exact wt1 | exact To.nilL | refine To.int ?_ | refine To.bool ?_ | refine To.hslL rfl ?_ | refine wt2 rfl ?_ ?_ ?_ | refine To.tupL ?_ | refine To.aggL ?_ | refine To.cptrL ?_ | refine wt3 ?_ | refine wt4 ?_ | refine To.cloL ?_ ?_ | exact wt5 | refine wt6 ?_ | refine ToB.one ?_ | exact wt7 | ((with_reducible apply ToL.consE); case e9 => rfl) | refine wt8 ?_ | refine ToL.cons ?_ ?_ | exact wt11 | refine wt9 ?_ ?_ | refine wt12 ?_ | (with_reducible rfl) | assumption)); all_goals (first | rfl | assumption | (simp; done) | (simp; omega) | (rw [wrap_small (by omega) (by omega)]; done) | (rw [wrap_small (by omega) (by omega)]; omega) | (refine congrArg Nat.cast ?_; assumption) | skip))
  · have e : opA a b (a ++ b.filter (notIn' a)) = (bothE a b, []) := if_neg h
    rw [e]
    refine walkX ?_
    rw [show (bothE a b != 0) = true from by simpa using h]
    refine walkX ?_
    (refine ⟨.inr rfl, _, .tup [.hsl 0 0 0 0, .sc (.int .i64 (bothE a b))], [[.cells 1 []]], rfl, SubV.to [1] [[((0),0)]] ?_ ?_ rfl rfl rfl, rfl, rfl⟩; all_goals (all_goals (repeat' (first | exact ToAll.nil | exact famsTo.nil | exact famTo.nil | exact ToL.nil | exact ToR.nil | refine ToAll.cons ?_ ?_ | refine famsTo.cons ?_ ?_ | refine wt10 ?_ ?_ | exact To.undef _ | exact To.sc _ | exact To.hslL rfl rfl | exact To.ptrO rfl rfl rfl | exact To.mrefO rfl | exact To.nil rfl rfl rfl | exact wt1 | exact To.nilL | refine To.int ?_ | refine To.bool ?_ | refine To.hslL rfl ?_ | refine wt2 rfl ?_ ?_ ?_ | refine To.tupL ?_ | refine To.aggL ?_ | refine To.cptrL ?_ | refine wt3 ?_ | refine wt4 ?_ | refine To.cloL ?_ ?_ | exact wt5 | refine wt6 ?_ | refine ToB.one ?_ | exact wt7 | ((with_reducible apply ToL.consE); case e9 => rfl) | refine wt8 ?_ | refine ToL.cons ?_ ?_ | exact wt11 | refine wt9 ?_ ?_ | refine wt12 ?_ | (with_reducible rfl) | assumption)); all_goals (first | rfl | assumption | (simp; done) | (simp; omega) | (rw [wrap_small (by omega) (by omega)]; done) | (rw [wrap_small (by omega) (by omega)]; omega) | (refine congrArg Nat.cast ?_; assumption) | skip)))
end Go.Proofs.Ytpkpfgpfkajkpaa
namespace Go.Proofs.Ytpkpfgpfkajkpaa
open Go.Av Go.Proofs
set_option maxRecDepth 20000
end Go.Proofs.Ytpkpfgpfkajkpaa
namespace Go.Proofs.Ytpkpfgpfkajkpaa
open Go.Av Go.Proofs
set_option maxRecDepth 20000
theorem ints_sc (l : List Int) : ∀ r ∈ intsR l, ∀ c ∈ r, ∃ v, c = .sc v := fun r hr c hc => by
  obtain ⟨n, _, rfl⟩ := List.mem_map.1 hr
  exact ⟨_, List.mem_singleton.1 hc⟩
end Go.Proofs.Ytpkpfgpfkajkpaa
namespace Go.Proofs.Ytpkpfgpfkajkpaa
open Go.Av Go.Proofs
set_option maxRecDepth 20000
theorem eq_of_at {a b : List Int} (hl : a.length = b.length) (h : ∀ (j : Nat) (h1 : j < a.length) (h2 : j < b.length), a[j] = b[j]) : a = b := List.ext_getElem hl fun j h1 h2 => h j h1 h2
end Go.Proofs.Ytpkpfgpfkajkpaa
namespace Go.Proofs.Ytpkpfgpfkajkpaa
open Go.Av Go.Proofs
set_option maxRecDepth 20000
set_option maxHeartbeats 4000000 in
theorem equal88_call (a b : List Int) (_ : a.length ≤ 1000000) (hb : b.length ≤ 1000000) : CallOK Try.prog 88 [.list 1 (intsR a), .list 1 (intsR b)] [] fun res H' => res = .sc (.bool (decide (a = b))) ∧ H' = [] := by
  refine CallOK.of cF88 ?_ (Nat.le_of_ble_eq_true rfl)
  have e0 := intsR_len a
  have e1 := intsR_len b
  refine walkX ?_
  rw [e0, e1]
  by_cases hl : a.length = b.length
  case neg =>
    have hres : AV.sc (Value.bool false) = .sc (.bool (decide (a = b))) := by rw [decide_eq_false (fun h => hl (by rw [h]))]
    rw [decide_eq_false hl]
    refine walkX ?_
    (refine endH [] (by first | exact .inr rfl | exact .inl rfl) rfl ⟨hres, rfl⟩ ?_ ?_ rfl rfl rfl; all_goals (repeat' (first | exact ToAll.nil | exact famsTo.nil | exact famTo.nil | exact ToL.nil | exact ToR.nil | refine ToAll.cons ?_ ?_ | refine famsTo.cons ?_ ?_ | refine wt10 ?_ ?_ | exact To.undef _ | exact To.sc _ | exact To.hslL rfl rfl | exact To.ptrO rfl rfl rfl | exact To.mrefO rfl | exact To.nil rfl rfl rfl | exact wt1 | exact To.nilL | refine To.int ?_ | refine To.bool ?_ | refine To.hslL rfl ?_ | refine wt2 rfl ?_ ?_ ?_ | refine To.tupL ?_ | refine To.aggL ?_ | refine To.cptrL ?_ | refine wt3 ?_ | refine wt4 ?_ | refine To.cloL ?_ ?_ | exact wt5 | refine wt6 ?_ | refine ToB.one ?_ | exact wt7 | ((with_reducible apply ToL.consE); case e9 => rfl) | refine wt8 ?_ | refine ToL.cons ?_ ?_ | exact wt11 | refine wt9 ?_ ?_ | refine wt12 ?_ | (with_reducible rfl) | assumption)); all_goals (first | rfl | assumption | (simp; done) | (simp; omega) | (rw [wrap_small (by omega) (by omega)]; done) | (rw [wrap_small (by omega) (by omega)]; omega) | (refine congrArg Nat.cast ?_; assumption) | skip))
  rw [decide_eq_true hl]
  refine walkX ?_
  rw [e0]
  refine AWP.loop (fun k : Nat => [(0, .list 1 (intsR a)), (1, .list 1 (intsR b)), (12, .sc (.int .i64 (a.length : Int))), (13, .sc (.int .i64 (k : Int)))])
    (fun k => []) (fun k => k ≤ a.length ∧ ∀ (j : Nat) (h1 : j < a.length) (h2 : j < b.length), j < k → a[j] = b[j]) (fun k => a.length - k) 0 ⟨Nat.zero_le _, fun j _ _ h => by omega⟩ ?_ ?_
  · exact Sub.w [] []
  rintro k ⟨hk, hj⟩
  refine walkX ?_
  refine AWP.condD rfl (fun h => ?_) (fun h => ?_)
  · have hr := intsR_ix a k h
    have hr2 := intsR_ix b k (by omega)
    by_cases he : a[k] = b[k]
    · have hj2 : ∀ (j : Nat) (h1 : j < a.length) (h2 : j < b.length), j < k + 1 → a[j] = b[j] := fun j h1 h2 h3 => by
        by_cases e : j = k
        · subst e; exact he
        · exact hj j h1 h2 (by omega)
      rw [he] at hr
      generalize b[k] = x at *
      refine walkX ?_
      refine DK.nil ⟨by kernel_rfl, ?_⟩
      rw [bne_self]
      refine walkX ?_
      refine ⟨k + 1, ⟨by omega, hj2⟩, by omega, ?_⟩
      exact Sub.w [] []
    · have hres : AV.sc (Value.bool false) = .sc (.bool (decide (a = b))) := by rw [decide_eq_false (fun h => he (by subst h; rfl))]
      generalize a[k] = x at *
      generalize b[k] = y at *
      refine walkX ?_
      refine DK.nil ⟨by kernel_rfl, ?_⟩
      rw [show (x != y) = true from by simpa using he]
      refine walkX ?_
      (refine endH [] (by first | exact .inr rfl | exact .inl rfl) rfl ⟨hres, rfl⟩ ?_ ?_ rfl rfl rfl; all_goals (repeat' (first | exact ToAll.nil | exact famsTo.nil | exact famTo.nil | exact ToL.nil | exact ToR.nil | refine ToAll.cons ?_ ?_ | refine famsTo.cons ?_ ?_ | refine wt10 ?_ ?_ | exact To.undef _ | exact To.sc _ | exact To.hslL rfl rfl | exact To.ptrO rfl rfl rfl | exact To.mrefO rfl | exact To.nil rfl rfl rfl | exact wt1 | exact To.nilL | refine To.int ?_ | refine To.bool ?_ | refine To.hslL rfl ?_ | refine wt2 rfl ?_ ?_ ?_ | refine To.tupL ?_ | refine To.aggL ?_ | refine To.cptrL ?_ | refine wt3 ?_ | refine wt4 ?_ | refine To.cloL ?_ ?_ | exact wt5 | refine wt6 ?_ | refine ToB.one ?_ | exact wt7 | ((with_reducible apply ToL.consE); case e9 => rfl) | refine wt8 ?_ | refine ToL.cons ?_ ?_ | exact wt11 | refine wt9 ?_ ?_ | refine wt12 ?_ | (with_reducible rfl) | assumption)); all_goals (first | rfl | assumption | (simp; done) | (simp; omega) | (rw [wrap_small (by omega) (by omega)]; done) | (rw [wrap_small (by omega) (by omega)]; omega) | (refine congrArg Nat.cast ?_; assumption) | skip))
  have hres : AV.sc (Value.bool true) = .sc (.bool (decide (a = b))) := by rw [decide_eq_true (eq_of_at hl fun j h1 h2 => hj j h1 h2 (by omega))]
  refine walkX ?_
  (refine endH [] (by first | exact .inr rfl | exact .inl rfl) rfl ⟨hres, rfl⟩ ?_ ?_ rfl rfl rfl; all_goals (repeat' (first | exact ToAll.nil | exact famsTo.nil | exact famTo.nil | exact ToL.nil | exact ToR.nil | refine ToAll.cons ?_ ?_ | refine famsTo.cons ?_ ?_ | refine wt10 ?_ ?_ | exact To.undef _ | exact To.sc _ | exact To.hslL rfl rfl | exact To.ptrO rfl rfl rfl | exact To.mrefO rfl | exact To.nil rfl rfl rfl | exact wt1 | exact To.nilL | refine To.int ?_ | refine To.bool ?_ | refine To.hslL rfl ?_ | refine wt2 rfl ?_ ?_ ?_ | refine To.tupL ?_ | refine To.aggL ?_ | refine To.cptrL ?_ | refine wt3 ?_ | refine wt4 ?_ | refine To.cloL ?_ ?_ | exact wt5 | refine wt6 ?_ | refine ToB.one ?_ | exact wt7 | ((with_reducible apply ToL.consE); case e9 => rfl) | refine wt8 ?_ | refine ToL.cons ?_ ?_ | exact wt11 | refine wt9 ?_ ?_ | refine wt12 ?_ | (with_reducible rfl) | assumption)); all_goals (first | rfl | assumption | (simp; done) | (simp; omega) | (rw [wrap_small (by omega) (by omega)]; done) | (rw [wrap_small (by omega) (by omega)]; omega) | (refine congrArg Nat.cast ?_; assumption) | skip))
theorem equal88_ok (a b : List Int) (ha : a.length ≤ 1000000) (hb : b.length ≤ 1000000) : PureRun Try.prog 88 [.list 1 (intsR a), .list 1 (intsR b)] (.sc (.bool (decide (a = b)))) :=
  PureRun.of (allPure_cons (.list _ _ (prs _)) (allPure_cons (.list _ _ (prs _)) allPure_nil)) (.sc _) ((equal88_call a b ha hb).mono fun _ _ h => h.1)
end Go.Proofs.Ytpkpfgpfkajkpaa
namespace Go.Proofs.Ytpkpfgpfkajkpaa
open Go.Av Go.Proofs
set_option maxRecDepth 20000
theorem sub_len : ∀ (l m : List Int), l.Nodup → (∀ x ∈ l, x ∈ m) → l.length ≤ m.length
  | [], m, _, _ => Nat.zero_le _
  | x :: l, m, hn, hs => by
    obtain ⟨h1, h2⟩ := List.nodup_cons.1 hn
    have hx := hs x (by simp)
    have h3 := sub_len l (m.erase x) h2 fun y hy => (List.mem_erase_of_ne (fun e : y = x => h1 (by rw [← e]; exact hy))).2 (hs y (by simp [hy]))
    have h4 := List.length_erase_of_mem hx
    have h5 : 0 < m.length := List.length_pos_of_mem hx
    rw [List.length_cons]
    omega
def flagB (s : List Int) : List Bool := (List.range 64).map fun i : Nat => decide ((i : Int) ∈ s)
theorem flagR_B (s : List Int) : flagR s = (flagB s).map fun b => .sc (.bool b) := by
  unfold flagR flagB
  rw [List.map_map]
  rfl
theorem flagB_iff {a b : List Int} (ha : ∀ x ∈ a, 0 ≤ x ∧ x < 64) (hb : ∀ x ∈ b, 0 ≤ x ∧ x < 64) : flagB a = flagB b ↔ ∀ x, x ∈ a ↔ x ∈ b := by
  constructor
  · intro h x
    have key : ∀ q : Nat, q < 64 → ((q : Int) ∈ a ↔ (q : Int) ∈ b) := fun q hq => by
      have := congrArg (fun l => l[q]?) h
      simp only [flagB, List.getElem?_map, List.getElem?_range hq, Option.map_some, Option.some.injEq, decide_eq_decide] at this
      exact this
    constructor
    · intro hx
      have := ha x hx
      obtain ⟨q, rfl⟩ : ∃ q : Nat, x = q := ⟨x.toNat, by omega⟩
      exact (key q (by omega)).1 hx
    · intro hx
      have := hb x hx
      obtain ⟨q, rfl⟩ : ∃ q : Nat, x = q := ⟨x.toNat, by omega⟩
      exact (key q (by omega)).2 hx
  · intro h
    unfold flagB
    exact List.map_congr_left fun q _ => by rw [decide_eq_decide]; exact h _
def cmpE (a b : List Int) : Int × Int := if bothE a b = 0 then (if a = b then (1, 0) else if flagB a = flagB b then (2, 0) else (3, 0)) else (0, bothE a b)
end Go.Proofs.Ytpkpfgpfkajkpaa
namespace Go.Proofs.Ytpkpfgpfkajkpaa
open Go.Av Go.Proofs
set_option maxRecDepth 20000
theorem flagB_len (s : List Int) : (flagB s).length = 64 := by simp [flagB]
set_option maxHeartbeats 4000000 in
theorem cmp_ok (a b : List Int) (ha : a.length ≤ 100000) (hb : b.length ≤ 100000) : PureRun Try.prog 39 [.list 1 (intsR a), .list 1 (intsR b)] (.tup [.sc (.int .i64 (cmpE a b).1), .sc (.int .i64 (cmpE a b).2)]) := by
  refine PureRun.of (allPure_cons (.list _ _ (prs _)) (allPure_cons (.list _ _ (prs _)) allPure_nil)) (.tup _ (allPure_cons (.sc _) (allPure_cons (.sc _) allPure_nil))) (CallOK.mono (R := fun res H' => res = .tup [.sc (.int .i64 (cmpE a b).1), .sc (.int .i64 (cmpE a b).2)] ∧ H' = []) ?_ fun _ _ h => h.1)
  refine CallOK.of cF39 ?_ (Nat.le_of_ble_eq_true rfl)
  have h1 := both_ok a b (by omega) (by omega)
  have h2 := equal88_ok a b (by omega) (by omega)
  by_cases h : bothE a b = 0
  case neg =>
    have e : cmpE a b = (0, bothE a b) := if_neg h
    rw [e]
    refine walkX ?_
    rw [show (bothE a b != 0) = true from by simpa using h]
    refine walkX ?_
    (refine endH [] (by first | exact .inr rfl | exact .inl rfl) rfl ⟨rfl, rfl⟩ ?_ ?_ rfl rfl rfl; all_goals (repeat' (first | exact ToAll.nil | exact famsTo.nil | exact famTo.nil | exact ToL.nil | exact ToR.nil | refine ToAll.cons ?_ ?_ | refine famsTo.cons ?_ ?_ | refine wt10 ?_ ?_ | exact To.undef _ | exact To.sc _ | exact To.hslL rfl rfl | exact To.ptrO rfl rfl rfl | exact To.mrefO rfl | exact To.nil rfl rfl rfl | exact wt1 | exact To.nilL | refine To.int ?_ | refine To.bool ?_ | refine To.hslL rfl ?_ | refine wt2 rfl ?_ ?_ ?_ | refine To.tupL ?_ | refine To.aggL ?_ | refine To.cptrL ?_ | refine wt3 ?_ | refine wt4 ?_ | refine To.cloL ?_ ?_ | exact wt5 | refine wt6 ?_ | refine ToB.one ?_ | exact wt7 | ((with_reducible apply ToL.consE); case e9 => rfl) | refine wt8 ?_ | refine ToL.cons ?_ ?_ | exact wt11 | refine wt9 ?_ ?_ | refine wt12 ?_ | (with_reducible rfl) | assumption)); all_goals (first | rfl | assumption | (simp; done) | (simp; omega) | (rw [wrap_small (by omega) (by omega)]; done) | (rw [wrap_small (by omega) (by omega)]; omega) | (refine congrArg Nat.cast ?_; assumption) | skip))
  obtain ⟨c1, c2⟩ := both0 h
  have r1 := check0_rng c1
  have r2 := check0_rng c2
  have h3 := setOf_ok a (by omega) r1.1
  have h4 := setOf_ok b (by omega) r2.1
  rw [flagR_B] at h3 h4
  rw [h] at h1
  have e : cmpE a b = (if a = b then (1, 0) else if flagB a = flagB b then (2, 0) else (3, 0)) := if_pos h
  rw [e]
  by_cases q : a = b
  · rw [if_pos q]
    rw [decide_eq_true q] at h2
    refine walkX ?_
    (refine endH [] (by first | exact .inr rfl | exact .inl rfl) rfl ⟨rfl, rfl⟩ ?_ ?_ rfl rfl rfl; all_goals (repeat' (first | exact ToAll.nil | exact famsTo.nil | exact famTo.nil | exact ToL.nil | exact ToR.nil | refine ToAll.cons ?_ ?_ | refine famsTo.cons ?_ ?_ | refine wt10 ?_ ?_ | exact To.undef _ | exact To.sc _ | exact To.hslL rfl rfl | exact To.ptrO rfl rfl rfl | exact To.mrefO rfl | exact To.nil rfl rfl rfl | exact wt1 | exact To.nilL | refine To.int ?_ | refine To.bool ?_ | refine To.hslL rfl ?_ | refine wt2 rfl ?_ ?_ ?_ | refine To.tupL ?_ | refine To.aggL ?_ | refine To.cptrL ?_ | refine wt3 ?_ | refine wt4 ?_ | refine To.cloL ?_ ?_ | exact wt5 | refine wt6 ?_ | refine ToB.one ?_ | exact wt7 | ((with_reducible apply ToL.consE); case e9 => rfl) | refine wt8 ?_ | refine ToL.cons ?_ ?_ | exact wt11 | refine wt9 ?_ ?_ | refine wt12 ?_ | (with_reducible rfl) | assumption)); all_goals (first | rfl | assumption | (simp; done) | (simp; omega) | (rw [wrap_small (by omega) (by omega)]; done) | (rw [wrap_small (by omega) (by omega)]; omega) | (refine congrArg Nat.cast ?_; assumption) | skip))
  rw [if_neg q]
  rw [decide_eq_false q] at h2
  have la := flagB_len a
  have lb := flagB_len b
  clear e
  generalize flagB a = fa at *
  generalize flagB b = fb at *
  refine walkX ?_
  refine Reg.o rfl (dstep_eqArr rfl rfl la lb) ?_
  refine walkX ?_
  by_cases q2 : fa = fb
  · rw [if_pos q2]
    rw [show (false != (fa == fb)) = true from by simp [q2]]
    refine walkX ?_
    (refine endH [] (by first | exact .inr rfl | exact .inl rfl) rfl ⟨rfl, rfl⟩ ?_ ?_ rfl rfl rfl; all_goals (repeat' (first | exact ToAll.nil | exact famsTo.nil | exact famTo.nil | exact ToL.nil | exact ToR.nil | refine ToAll.cons ?_ ?_ | refine famsTo.cons ?_ ?_ | refine wt10 ?_ ?_ | exact To.undef _ | exact To.sc _ | exact To.hslL rfl rfl | exact To.ptrO rfl rfl rfl | exact To.mrefO rfl | exact To.nil rfl rfl rfl | exact wt1 | exact To.nilL | refine To.int ?_ | refine To.bool ?_ | refine To.hslL rfl ?_ | refine wt2 rfl ?_ ?_ ?_ | refine To.tupL ?_ | refine To.aggL ?_ | refine To.cptrL ?_ | refine wt3 ?_ | refine wt4 ?_ | refine To.cloL ?_ ?_ | exact wt5 | refine wt6 ?_ | refine ToB.one ?_ | exact wt7 | ((with_reducible apply ToL.consE); case e9 => rfl) | refine wt8 ?_ | refine ToL.cons ?_ ?_ | exact wt11 | refine wt9 ?_ ?_ | refine wt12 ?_ | (with_reducible rfl) | assumption)); all_goals (first | rfl | assumption | (simp; done) | (simp; omega) | (rw [wrap_small (by omega) (by omega)]; done) | (rw [wrap_small (by omega) (by omega)]; omega) | (refine congrArg Nat.cast ?_; assumption) | skip))
  · rw [if_neg q2]
    rw [show (false != (fa == fb)) = false from by simp [q2]]
    refine walkX ?_
    (refine endH [] (by first | exact .inr rfl | exact .inl rfl) rfl ⟨rfl, rfl⟩ ?_ ?_ rfl rfl rfl; all_goals (repeat' (first | exact ToAll.nil | exact famsTo.nil | exact famTo.nil | exact ToL.nil | exact ToR.nil | refine ToAll.cons ?_ ?_ | refine famsTo.cons ?_ ?_ | refine wt10 ?_ ?_ | exact To.undef _ | exact To.sc _ | exact To.hslL rfl rfl | exact To.ptrO rfl rfl rfl | exact To.mrefO rfl | exact To.nil rfl rfl rfl | exact wt1 | exact To.nilL | refine To.int ?_ | refine To.bool ?_ | refine To.hslL rfl ?_ | refine wt2 rfl ?_ ?_ ?_ | refine To.tupL ?_ | refine To.aggL ?_ | refine To.cptrL ?_ | refine wt3 ?_ | refine wt4 ?_ | refine To.cloL ?_ ?_ | exact wt5 | refine wt6 ?_ | refine ToB.one ?_ | exact wt7 | ((with_reducible apply ToL.consE); case e9 => rfl) | refine wt8 ?_ | refine ToL.cons ?_ ?_ | exact wt11 | refine wt9 ?_ ?_ | refine wt12 ?_ | (with_reducible rfl) | assumption)); all_goals (first | rfl | assumption | (simp; done) | (simp; omega) | (rw [wrap_small (by omega) (by omega)]; done) | (rw [wrap_small (by omega) (by omega)]; omega) | (refine congrArg Nat.cast ?_; assumption) | skip))
end Go.Proofs.Ytpkpfgpfkajkpaa
namespace Go.Proofs.Ytpkpfgpfkajkpaa
open Go.Av Go.Proofs
set_option maxRecDepth 20000
theorem dist0_rng {n : Int} : ∀ {l s : List Int}, distE n s l = 0 → (∀ x ∈ l, 0 ≤ x ∧ x < n) ∧ (∀ x ∈ l, x ∉ s) ∧ l.Nodup := by
  intro l
  induction l with
  | nil => exact fun _ => ⟨fun _ h => (by cases h), fun _ h => (by cases h), .nil⟩
  | cons y l ih =>
    intro s h
    unfold distE at h
    split at h
    · cases h
    · rename_i h1
      split at h
      · cases h
      · rename_i h2
        obtain ⟨a, b, c⟩ := ih h
        refine ⟨fun x hx => ?_, fun x hx => ?_, List.nodup_cons.2 ⟨fun hy => b y hy (by simp), c⟩⟩
        · rcases List.mem_cons.1 hx with rfl | hx
          · omega
          · exact a x hx
        · rcases List.mem_cons.1 hx with rfl | hx
          · exact h2
          · exact fun hs => b x hx (List.mem_append_left _ hs)
def rkE (g rs : List Int) : Int := if checkE g = 0 then distE g.length [] rs else checkE g
def selE (g rs : List Int) : List Int := rs.map fun r => g.getD r.toNat 0
def ansE (e : Int) (o : List Int) : Int × List Int := if e = 0 then (0, o) else (e, [])
theorem rk0 {g rs : List Int} (h : rkE g rs = 0) : checkE g = 0 ∧ distE g.length [] rs = 0 := by
  unfold rkE at h
  split at h
  · rename_i h1
    exact ⟨h1, h⟩
  · rename_i h1
    exact absurd h h1
set_option maxHeartbeats 4000000 in
theorem ranked_ok (g rs : List Int) (hg : g.length ≤ 1000000) (hr : rs.length ≤ 1000000) : PureRun Try.prog 89 [.list 1 (intsR g), .list 1 (intsR rs)] (.sc (.int .i64 (rkE g rs))) := by
  refine PureRun.of (allPure_cons (.list _ _ (prs _)) (allPure_cons (.list _ _ (prs _)) allPure_nil)) (.sc _) (CallOK.mono (R := fun res H' => res = .sc (.int .i64 (rkE g rs)) ∧ H' = []) ?_ fun _ _ h => h.1)
  refine CallOK.of cF89 ?_ (Nat.le_of_ble_eq_true rfl)
  have h1 := check_ok g hg
  have e0 := intsR_len g
  by_cases h : checkE g = 0
  · have hle : g.length ≤ 64 := (check0_rng h).2.2
    have h2 := dist_ok rs g.length hle hr
    have hres : AV.sc (Value.int .i64 (distE g.length [] rs)) = .sc (.int .i64 (rkE g rs)) := by unfold rkE; rw [if_pos h]
    rw [h] at h1
    refine walkX ?_
    rw [e0]
    refine walkX ?_
    (refine endH [] (by first | exact .inr rfl | exact .inl rfl) rfl ⟨hres, rfl⟩ ?_ ?_ rfl rfl rfl; all_goals (repeat' (first | exact ToAll.nil | exact famsTo.nil | exact famTo.nil | exact ToL.nil | exact ToR.nil | refine ToAll.cons ?_ ?_ | refine famsTo.cons ?_ ?_ | refine wt10 ?_ ?_ | exact To.undef _ | exact To.sc _ | exact To.hslL rfl rfl | exact To.ptrO rfl rfl rfl | exact To.mrefO rfl | exact To.nil rfl rfl rfl | exact wt1 | exact To.nilL | refine To.int ?_ | refine To.bool ?_ | refine To.hslL rfl ?_ | refine wt2 rfl ?_ ?_ ?_ | refine To.tupL ?_ | refine To.aggL ?_ | refine To.cptrL ?_ | refine wt3 ?_ | refine wt4 ?_ | refine To.cloL ?_ ?_ | exact wt5 | refine wt6 ?_ | refine ToB.one ?_ | exact wt7 | ((with_reducible apply ToL.consE); case e9 => rfl) | refine wt8 ?_ | refine ToL.cons ?_ ?_ | exact wt11 | refine wt9 ?_ ?_ | refine wt12 ?_ | (with_reducible rfl) | assumption)); all_goals (first | rfl | assumption | (simp; done) | (simp; omega) | (rw [wrap_small (by omega) (by omega)]; done) | (rw [wrap_small (by omega) (by omega)]; omega) | (refine congrArg Nat.cast ?_; assumption) | skip))
  · have hres : AV.sc (Value.int .i64 (checkE g)) = .sc (.int .i64 (rkE g rs)) := by unfold rkE; rw [if_neg h]
    refine walkX ?_
    rw [show (checkE g != 0) = true from by simpa using h]
    refine walkX ?_
    (refine endH [] (by first | exact .inr rfl | exact .inl rfl) rfl ⟨hres, rfl⟩ ?_ ?_ rfl rfl rfl; all_goals (repeat' (first | exact ToAll.nil | exact famsTo.nil | exact famTo.nil | exact ToL.nil | exact ToR.nil | refine ToAll.cons ?_ ?_ | refine famsTo.cons ?_ ?_ | refine wt10 ?_ ?_ | exact To.undef _ | exact To.sc _ | exact To.hslL rfl rfl | exact To.ptrO rfl rfl rfl | exact To.mrefO rfl | exact To.nil rfl rfl rfl | exact wt1 | exact To.nilL | refine To.int ?_ | refine To.bool ?_ | refine To.hslL rfl ?_ | refine wt2 rfl ?_ ?_ ?_ | refine To.tupL ?_ | refine To.aggL ?_ | refine To.cptrL ?_ | refine wt3 ?_ | refine wt4 ?_ | refine To.cloL ?_ ?_ | exact wt5 | refine wt6 ?_ | refine ToB.one ?_ | exact wt7 | ((with_reducible apply ToL.consE); case e9 => rfl) | refine wt8 ?_ | refine ToL.cons ?_ ?_ | exact wt11 | refine wt9 ?_ ?_ | refine wt12 ?_ | (with_reducible rfl) | assumption)); all_goals (first | rfl | assumption | (simp; done) | (simp; omega) | (rw [wrap_small (by omega) (by omega)]; done) | (rw [wrap_small (by omega) (by omega)]; omega) | (refine congrArg Nat.cast ?_; assumption) | skip))
theorem getD_at {g : List Int} {q : Nat} (h : q < g.length) : g.getD ((q : Int)).toNat 0 = g[q] := by
  simp [h]
set_option maxHeartbeats 4000000 in
theorem incl_ok (g rs : List Int) (hg : g.length ≤ 1000000) (hr : rs.length ≤ 1000000) : CallOK Try.prog 41 [.list 1 (intsR g), .list 1 (intsR rs)] [] (ansS (ansE (rkE g rs) (selE g rs))) := by
  refine CallOK.of cF41 ?_ (Nat.le_of_ble_eq_true rfl)
  have h1 := ranked_ok g rs hg hr
  have e0 := intsR_len rs
  unfold ansS
  by_cases h : rkE g rs = 0
  · obtain ⟨c1, c2⟩ := rk0 h
    obtain ⟨d1, _, _⟩ := dist0_rng c2
    have e : ansE (rkE g rs) (selE g rs) = (0, selE g rs) := if_pos h
    rw [e]
    rw [h] at h1
    refine walkX ?_
    rw [e0]
    refine AWP.loop (fun k : Nat => [(0, .list 1 (intsR g)), (7, .hsl 0 0 0 (selE g (rs.take k)).length), (16, .list 1 (intsR rs)), (17, .sc (.int .i64 (rs.length : Int))), (18, .sc (.int .i64 (k : Int)))])
      (fun k => [[.cells 1 (intsR (selE g (rs.take k)))]]) (fun k => k ≤ rs.length) (fun k => rs.length - k) 0 (Nat.zero_le _) ?_ ?_
    · (apply Sub.to [1] [[(0,0)]]; all_goals (repeat' (first | exact ToAll.nil | exact famsTo.nil | exact famTo.nil | exact ToL.nil | exact ToR.nil | refine ToAll.cons ?_ ?_ | refine famsTo.cons ?_ ?_ | refine wt10 ?_ ?_ | exact To.undef _ | exact To.sc _ | exact To.hslL rfl rfl | exact To.ptrO rfl rfl rfl | exact To.mrefO rfl | exact To.nil rfl rfl rfl | exact wt1 | exact To.nilL | refine To.int ?_ | refine To.bool ?_ | refine To.hslL rfl ?_ | refine wt2 rfl ?_ ?_ ?_ | refine To.tupL ?_ | refine To.aggL ?_ | refine To.cptrL ?_ | refine wt3 ?_ | refine wt4 ?_ | refine To.cloL ?_ ?_ | exact wt5 | refine wt6 ?_ | refine ToB.one ?_ | exact wt7 | ((with_reducible apply ToL.consE); case e9 => rfl) | refine wt8 ?_ | refine ToL.cons ?_ ?_ | exact wt11 | refine wt9 ?_ ?_ | refine wt12 ?_ | (with_reducible rfl) | assumption)); all_goals (first | rfl | assumption | (simp; done) | (simp; omega) | (rw [wrap_small (by omega) (by omega)]; done) | (rw [wrap_small (by omega) (by omega)]; omega) | (refine congrArg Nat.cast ?_; assumption) | skip))
    rintro k hk
    refine walkX ?_
    refine AWP.condD rfl (fun h => ?_) (fun h => ?_)
    · have hx := d1 rs[k] (List.getElem_mem h)
      have hrr := intsR_ix rs k h
      have ht := List.take_succ_eq_append_getElem h
      have hle : (selE g (rs.take k)).length ≤ 1000000 := by unfold selE; rw [List.length_map, List.length_take]; omega
      generalize rs[k] = x at *
      obtain ⟨q, rfl⟩ : ∃ q : Nat, x = q := ⟨x.toNat, by omega⟩
      have hq : q < g.length := by omega
      have hgx := intsR_ix g q hq
      have e5 := @getD_at g q hq
      have e1 := intsR_len (selE g (rs.take k))
      have e2 : selE g (rs.take (k + 1)) = selE g (rs.take k) ++ [g[q]] := by rw [ht]; unfold selE; rw [List.map_append, List.map_cons, e5]; rfl
      generalize selE g (rs.take k) = o at *
      generalize g[q] = y at *
      have e3 : intsR (o ++ [y]) = intsR o ++ [[.sc (.int .i64 y)]] := by simp [intsR]
      have e4 : (o ++ [y]).length = o.length + 1 := by simp
      refine walkX ?_
      refine ⟨k + 1, by omega, by omega, ?_⟩
      rw [e2, e3, e4]
      (apply Sub.to [] [[(2,0)]]; all_goals (repeat' (first | exact ToAll.nil | exact famsTo.nil | exact famTo.nil | exact ToL.nil | exact ToR.nil | refine ToAll.cons ?_ ?_ | refine famsTo.cons ?_ ?_ | refine wt10 ?_ ?_ | exact To.undef _ | exact To.sc _ | exact To.hslL rfl rfl | exact To.ptrO rfl rfl rfl | exact To.mrefO rfl | exact To.nil rfl rfl rfl | exact wt1 | exact To.nilL | refine To.int ?_ | refine To.bool ?_ | refine To.hslL rfl ?_ | refine wt2 rfl ?_ ?_ ?_ | refine To.tupL ?_ | refine To.aggL ?_ | refine To.cptrL ?_ | refine wt3 ?_ | refine wt4 ?_ | refine To.cloL ?_ ?_ | exact wt5 | refine wt6 ?_ | refine ToB.one ?_ | exact wt7 | ((with_reducible apply ToL.consE); case e9 => rfl) | refine wt8 ?_ | refine ToL.cons ?_ ?_ | exact wt11 | refine wt9 ?_ ?_ | refine wt12 ?_ | (with_reducible rfl) | assumption)); all_goals (first | rfl | assumption | (simp; done) | (simp; omega) | (rw [wrap_small (by omega) (by omega)]; done) | (rw [wrap_small (by omega) (by omega)]; omega) | (refine congrArg Nat.cast ?_; assumption) | skip))
    have hk : k = rs.length := by omega
    subst hk
    rw [List.take_of_length_le (Nat.le_refl _)]
    refine walkX ?_
    (refine endH [[(0,0)]] (by first | exact .inr rfl | exact .inl rfl) rfl ⟨rfl, rfl⟩ ?_ ?_ rfl rfl rfl; all_goals (repeat' (first | exact ToAll.nil | exact famsTo.nil | exact famTo.nil | exact ToL.nil | exact ToR.nil | refine ToAll.cons ?_ ?_ | refine famsTo.cons ?_ ?_ | refine wt10 ?_ ?_ | exact To.undef _ | exact To.sc _ | exact To.hslL rfl rfl | exact To.ptrO rfl rfl rfl | exact To.mrefO rfl | exact To.nil rfl rfl rfl | exact wt1 | exact To.nilL | refine To.int ?_ | refine To.bool ?_ | refine To.hslL rfl ?_ | refine wt2 rfl ?_ ?_ ?_ | refine To.tupL ?_ | refine To.aggL ?_ | refine To.cptrL ?_ | refine wt3 ?_ | refine wt4 ?_ | refine To.cloL ?_ ?_ | exact wt5 | refine wt6 ?_ | refine ToB.one ?_ | exact wt7 | ((with_reducible apply ToL.consE); case e9 => rfl) | refine wt8 ?_ | refine ToL.cons ?_ ?_ | exact wt11 | refine wt9 ?_ ?_ | refine wt12 ?_ | (with_reducible rfl) | assumption)); all_goals (first | rfl | assumption | (simp; done) | (simp; omega) | (rw [wrap_small (by omega) (by omega)]; done) | (rw [wrap_small (by omega) (by omega)]; omega) | (refine congrArg Nat.cast ?_; assumption) | skip))
  · have e : ansE (rkE g rs) (selE g rs) = (rkE g rs, []) := if_neg h
    rw [e]
    refine walkX ?_
    rw [show (rkE g rs != 0) = true from by simpa using h]
    refine walkX ?_
    (refine ⟨.inr rfl, _, .tup [.hsl 0 0 0 0, .sc (.int .i64 (rkE g rs))], [[.cells 1 []]], rfl, SubV.to [1] [[((0),0)]] ?_ ?_ rfl rfl rfl, rfl, rfl⟩; all_goals (all_goals (repeat' (first | exact ToAll.nil | exact famsTo.nil | exact famTo.nil | exact ToL.nil | exact ToR.nil | refine ToAll.cons ?_ ?_ | refine famsTo.cons ?_ ?_ | refine wt10 ?_ ?_ | exact To.undef _ | exact To.sc _ | exact To.hslL rfl rfl | exact To.ptrO rfl rfl rfl | exact To.mrefO rfl | exact To.nil rfl rfl rfl | exact wt1 | exact To.nilL | refine To.int ?_ | refine To.bool ?_ | refine To.hslL rfl ?_ | refine wt2 rfl ?_ ?_ ?_ | refine To.tupL ?_ | refine To.aggL ?_ | refine To.cptrL ?_ | refine wt3 ?_ | refine wt4 ?_ | refine To.cloL ?_ ?_ | exact wt5 | refine wt6 ?_ | refine ToB.one ?_ | exact wt7 | ((with_reducible apply ToL.consE); case e9 => rfl) | refine wt8 ?_ | refine ToL.cons ?_ ?_ | exact wt11 | refine wt9 ?_ ?_ | refine wt12 ?_ | (with_reducible rfl) | assumption)); all_goals (first | rfl | assumption | (simp; done) | (simp; omega) | (rw [wrap_small (by omega) (by omega)]; done) | (rw [wrap_small (by omega) (by omega)]; omega) | (refine congrArg Nat.cast ?_; assumption) | skip)))
theorem sel_check {g rs : List Int} (h : rkE g rs = 0) : checkE (selE g rs) = 0 := by
  obtain ⟨c1, c2⟩ := rk0 h
  obtain ⟨g1, g2, g3⟩ := check0_rng c1
  obtain ⟨d1, _, d2⟩ := dist0_rng c2
  have hmem : ∀ x ∈ selE g rs, 0 ≤ x ∧ x < 64 := fun x hx => by
    obtain ⟨r, hr, rfl⟩ := List.mem_map.1 hx
    have := d1 r hr
    have hq : r.toNat < g.length := by omega
    show 0 ≤ g.getD r.toNat 0 ∧ _
    rw [List.getD_eq_getElem?_getD, List.getElem?_eq_getElem hq]
    exact g1 _ (List.getElem_mem hq)
  have hnd : (selE g rs).Nodup := by
    refine List.pairwise_map.2 (d2.imp_of_mem ?_)
    intro a b ha hb hab
    have := d1 a ha
    have := d1 b hb
    have hqa : a.toNat < g.length := by omega
    have hqb : b.toNat < g.length := by omega
    rw [List.getD_eq_getElem?_getD, List.getElem?_eq_getElem hqa, List.getD_eq_getElem?_getD, List.getElem?_eq_getElem hqb]
    intro e
    have e : g[a.toNat] = g[b.toNat] := e
    have := (List.getElem?_inj hqa g2).1 (show g[a.toNat]? = g[b.toNat]? by rw [List.getElem?_eq_getElem hqa, List.getElem?_eq_getElem hqb, e])
    omega
  have hlen : (selE g rs).length ≤ 64 := by
    have h1 : (selE g rs) ⊆ (List.range 64).map (fun n : Nat => (n : Int)) := fun x hx => by
      have := hmem x hx
      exact List.mem_map.2 ⟨x.toNat, List.mem_range.2 (by omega), by omega⟩
    have := hnd.length_le_of_subset h1
    simpa using this
  have key : ∀ (l s : List Int), (∀ x ∈ l, 0 ≤ x ∧ x < 64) → (∀ x ∈ l, x ∉ s) → l.Nodup → distE 64 s l = 0 := by
    intro l
    induction l with
    | nil => exact fun _ _ _ _ => rfl
    | cons y l ih =>
      intro s a b c
      obtain ⟨c1, c2⟩ := List.nodup_cons.1 c
      have := a y (by simp)
      unfold distE
      rw [if_neg (by omega), if_neg (b y (by simp))]
      refine ih _ (fun x hx => a x (List.mem_cons_of_mem _ hx)) (fun x hx hs => ?_) c2
      rcases List.mem_append.1 hs with hs | hs
      · exact b x (List.mem_cons_of_mem _ hx) hs
      · rw [List.mem_singleton.1 hs] at hx
        exact c1 hx
  unfold checkE
  rw [if_neg (by omega)]
  exact key _ _ hmem (fun _ _ h => by cases h) hnd
def exclA (g rs : List Int) : Int × List Int := ansE (rkE g rs) (g.filter (notIn' (selE g rs)))
theorem sel_len (g rs : List Int) : (selE g rs).length = rs.length := by simp [selE]
set_option maxHeartbeats 4000000 in
theorem excl_ok (g rs : List Int) (hg : g.length ≤ 1000000) (hr : rs.length ≤ 1000000) : CallOK Try.prog 43 [.list 1 (intsR g), .list 1 (intsR rs)] [] (ansS (exclA g rs)) := by
  refine CallOK.of cF43 ?_ (Nat.le_of_ble_eq_true rfl)
  have h1 := incl_ok g rs hg hr
  unfold exclA ansS
  unfold ansS at h1
  by_cases h : rkE g rs = 0
  · have hc := sel_check h
    have hb : bothE g (selE g rs) = 0 := by unfold bothE; rw [if_pos (rk0 h).1, hc]
    have e : ansE (rkE g rs) (g.filter (notIn' (selE g rs))) = (0, g.filter (notIn' (selE g rs))) := if_pos h
    have e2 : ansE (rkE g rs) (selE g rs) = (0, selE g rs) := if_pos h
    rw [e2] at h1
    rw [e]
    have h2 := diff_ok g (selE g rs) hg (by rw [sel_len]; exact hr)
    have e3 : opA g (selE g rs) (g.filter (notIn' (selE g rs))) = (0, g.filter (notIn' (selE g rs))) := if_pos hb
    rw [e3] at h2
    have e4 := intsR_len (selE g rs)
    generalize g.filter (notIn' (selE g rs)) = o at *
    refine walkX ?_
    refine Reg.c (Nat.zero_le _) rfl (h1.mono ?_)
    rintro res H' ⟨rfl, rfl⟩
    refine walkX ?_
    refine Reg.sub (fr' := [(17, .list 1 (intsR g)), (18, .list 1 (intsR (selE g rs)))]) (H' := []) ?_ ?_
    · exact Sub.w [] []
    refine Reg.c (Nat.zero_le _) rfl (h2.mono ?_)
    rintro res H' ⟨rfl, rfl⟩
    refine walkX ?_
    (refine endH [[(0,0)]] (by first | exact .inr rfl | exact .inl rfl) rfl ⟨rfl, rfl⟩ ?_ ?_ rfl rfl rfl; all_goals (repeat' (first | exact ToAll.nil | exact famsTo.nil | exact famTo.nil | exact ToL.nil | exact ToR.nil | refine ToAll.cons ?_ ?_ | refine famsTo.cons ?_ ?_ | refine wt10 ?_ ?_ | exact To.undef _ | exact To.sc _ | exact To.hslL rfl rfl | exact To.ptrO rfl rfl rfl | exact To.mrefO rfl | exact To.nil rfl rfl rfl | exact wt1 | exact To.nilL | refine To.int ?_ | refine To.bool ?_ | refine To.hslL rfl ?_ | refine wt2 rfl ?_ ?_ ?_ | refine To.tupL ?_ | refine To.aggL ?_ | refine To.cptrL ?_ | refine wt3 ?_ | refine wt4 ?_ | refine To.cloL ?_ ?_ | exact wt5 | refine wt6 ?_ | refine ToB.one ?_ | exact wt7 | ((with_reducible apply ToL.consE); case e9 => rfl) | refine wt8 ?_ | refine ToL.cons ?_ ?_ | exact wt11 | refine wt9 ?_ ?_ | refine wt12 ?_ | (with_reducible rfl) | assumption)); all_goals (first | rfl | assumption | (simp; done) | (simp; omega) | (rw [wrap_small (by omega) (by omega)]; done) | (rw [wrap_small (by omega) (by omega)]; omega) | (refine congrArg Nat.cast ?_; assumption) | skip))
  · have e : ansE (rkE g rs) (g.filter (notIn' (selE g rs))) = (rkE g rs, []) := if_neg h
    have e2 : ansE (rkE g rs) (selE g rs) = (rkE g rs, []) := if_neg h
    rw [e2] at h1
    rw [e]
    refine walkX ?_
    refine Reg.c (Nat.zero_le _) rfl (h1.mono ?_)
    rintro res H' ⟨rfl, rfl⟩
    refine walkX ?_
    rw [show (rkE g rs != 0) = true from by simpa using h]
    refine walkX ?_
    (refine ⟨.inr rfl, _, .tup [.hsl 0 0 0 0, .sc (.int .i64 (rkE g rs))], [[.cells 1 []]], rfl, SubV.to [1] [[((1),0)]] ?_ ?_ rfl rfl rfl, rfl, rfl⟩; all_goals (all_goals (repeat' (first | exact ToAll.nil | exact famsTo.nil | exact famTo.nil | exact ToL.nil | exact ToR.nil | refine ToAll.cons ?_ ?_ | refine famsTo.cons ?_ ?_ | refine wt10 ?_ ?_ | exact To.undef _ | exact To.sc _ | exact To.hslL rfl rfl | exact To.ptrO rfl rfl rfl | exact To.mrefO rfl | exact To.nil rfl rfl rfl | exact wt1 | exact To.nilL | refine To.int ?_ | refine To.bool ?_ | refine To.hslL rfl ?_ | refine wt2 rfl ?_ ?_ ?_ | refine To.tupL ?_ | refine To.aggL ?_ | refine To.cptrL ?_ | refine wt3 ?_ | refine wt4 ?_ | refine To.cloL ?_ ?_ | exact wt5 | refine wt6 ?_ | refine ToB.one ?_ | exact wt7 | ((with_reducible apply ToL.consE); case e9 => rfl) | refine wt8 ?_ | refine ToL.cons ?_ ?_ | exact wt11 | refine wt9 ?_ ?_ | refine wt12 ?_ | (with_reducible rfl) | assumption)); all_goals (first | rfl | assumption | (simp; done) | (simp; omega) | (rw [wrap_small (by omega) (by omega)]; done) | (rw [wrap_small (by omega) (by omega)]; omega) | (refine congrArg Nat.cast ?_; assumption) | skip)))
end Go.Proofs.Ytpkpfgpfkajkpaa
namespace Go.Proofs.Ytpkpfgpfkajkpaa
open Go.Av Go.Proofs
set_option maxRecDepth 20000
set_option maxHeartbeats 4000000 in
theorem index91_ok (l : List Int) (x : Int) (hl : l.length ≤ 1000000) : PureRun Try.prog 91 [.list 1 (intsR l), .sc (.int .i64 x)] (.sc (.int .i64 (idxE x l))) := by
  refine PureRun.of (allPure_cons (.list _ _ (prs _)) (allPure_cons (.sc _) allPure_nil)) (.sc _) (CallOK.mono (R := fun res H' => res = .sc (.int .i64 (idxE x l)) ∧ H' = []) ?_ fun _ _ h => h.1)
  refine CallOK.of cF91 ?_ (Nat.le_of_ble_eq_true rfl)
  have e0 := intsR_len l
  refine walkX ?_
  rw [e0]
  refine AWP.loop (fun k : Nat => [(0, .list 1 (intsR l)), (1, .sc (.int .i64 x)), (7, .sc (.int .i64 (l.length : Int))), (8, .sc (.int .i64 (k : Int)))])
    (fun k => []) (fun k => k ≤ l.length ∧ ∀ (j : Nat) (hj : j < l.length), j < k → l[j] ≠ x) (fun k => l.length - k) 0 ⟨Nat.zero_le _, fun j hj h => by omega⟩ ?_ ?_
  · exact Sub.w [] []
  rintro k ⟨hk, hb⟩
  refine walkX ?_
  refine AWP.condD rfl (fun h => ?_) (fun h => ?_)
  · have hr := intsR_ix l k h
    by_cases he : l[k] = x
    · have hres : AV.sc (Value.int .i64 (k : Int)) = .sc (.int .i64 (idxE x l)) := by rw [idxE_at x l k h he hb]
      rw [he] at hr
      refine walkX ?_
      rw [beq_self]
      refine walkX ?_
      (refine endH [] (by first | exact .inr rfl | exact .inl rfl) rfl ⟨hres, rfl⟩ ?_ ?_ rfl rfl rfl; all_goals (repeat' (first | exact ToAll.nil | exact famsTo.nil | exact famTo.nil | exact ToL.nil | exact ToR.nil | refine ToAll.cons ?_ ?_ | refine famsTo.cons ?_ ?_ | refine wt10 ?_ ?_ | exact To.undef _ | exact To.sc _ | exact To.hslL rfl rfl | exact To.ptrO rfl rfl rfl | exact To.mrefO rfl | exact To.nil rfl rfl rfl | exact wt1 | exact To.nilL | refine To.int ?_ | refine To.bool ?_ | refine To.hslL rfl ?_ | refine wt2 rfl ?_ ?_ ?_ | refine To.tupL ?_ | refine To.aggL ?_ | refine To.cptrL ?_ | refine wt3 ?_ | refine wt4 ?_ | refine To.cloL ?_ ?_ | exact wt5 | refine wt6 ?_ | refine ToB.one ?_ | exact wt7 | ((with_reducible apply ToL.consE); case e9 => rfl) | refine wt8 ?_ | refine ToL.cons ?_ ?_ | exact wt11 | refine wt9 ?_ ?_ | refine wt12 ?_ | (with_reducible rfl) | assumption)); all_goals (first | rfl | assumption | (simp; done) | (simp; omega) | (rw [wrap_small (by omega) (by omega)]; done) | (rw [wrap_small (by omega) (by omega)]; omega) | (refine congrArg Nat.cast ?_; assumption) | skip))
    · have hb2 : ∀ (j : Nat) (hj : j < l.length), j < k + 1 → l[j] ≠ x := fun j hj hjk => by
        by_cases e : j = k
        · subst e; exact he
        · exact hb j hj (by omega)
      generalize l[k] = y at *
      refine walkX ?_
      rw [beq_false_of_ne (fun e => he e.symm)]
      refine walkX ?_
      refine ⟨k + 1, ⟨by omega, hb2⟩, by omega, ?_⟩
      exact Sub.w [] []
  have hres : AV.sc (Value.int .i64 (-1)) = .sc (.int .i64 (idxE x l)) := by rw [idxE_not x l fun j hj => hb j hj (by omega)]
  refine walkX ?_
  (refine endH [] (by first | exact .inr rfl | exact .inl rfl) rfl ⟨hres, rfl⟩ ?_ ?_ rfl rfl rfl; all_goals (repeat' (first | exact ToAll.nil | exact famsTo.nil | exact famTo.nil | exact ToL.nil | exact ToR.nil | refine ToAll.cons ?_ ?_ | refine famsTo.cons ?_ ?_ | refine wt10 ?_ ?_ | exact To.undef _ | exact To.sc _ | exact To.hslL rfl rfl | exact To.ptrO rfl rfl rfl | exact To.mrefO rfl | exact To.nil rfl rfl rfl | exact wt1 | exact To.nilL | refine To.int ?_ | refine To.bool ?_ | refine To.hslL rfl ?_ | refine wt2 rfl ?_ ?_ ?_ | refine To.tupL ?_ | refine To.aggL ?_ | refine To.cptrL ?_ | refine wt3 ?_ | refine wt4 ?_ | refine To.cloL ?_ ?_ | exact wt5 | refine wt6 ?_ | refine ToB.one ?_ | exact wt7 | ((with_reducible apply ToL.consE); case e9 => rfl) | refine wt8 ?_ | refine ToL.cons ?_ ?_ | exact wt11 | refine wt9 ?_ ?_ | refine wt12 ?_ | (with_reducible rfl) | assumption)); all_goals (first | rfl | assumption | (simp; done) | (simp; omega) | (rw [wrap_small (by omega) (by omega)]; done) | (rw [wrap_small (by omega) (by omega)]; omega) | (refine congrArg Nat.cast ?_; assumption) | skip))
def badR (a : List Int) (r : Int) : Bool := !decide (r = -2) && (decide (r < 0) || decide ((a.length : Int) ≤ r))
def toE (a b : List Int) (r : Int) : Int := if r = -2 then -2 else if idxE (a.getD r.toNat 0) b < 0 then -2 else idxE (a.getD r.toNat 0) b
def transA (a b rs : List Int) : Int × List Int := if bothE a b = 0 then (if rs.any (badR a) then (11, []) else (0, rs.map (toE a b))) else (bothE a b, [])
theorem any_at {p : Int → Bool} {l : List Int} {k : Nat} (h : k < l.length) (hp : p l[k] = true) : l.any p = true := List.any_eq_true.2 ⟨l[k], List.getElem_mem h, hp⟩
theorem any_take {p : Int → Bool} {l : List Int} {k : Nat} (h : k < l.length) (h0 : (l.take k).any p = false) (hp : p l[k] = false) : (l.take (k + 1)).any p = false := by
  rw [List.take_succ_eq_append_getElem h, List.any_append, h0]
  simp [hp]
set_option maxHeartbeats 8000000 in
theorem trans_ok (a b rs : List Int) (ha : a.length ≤ 1000000) (hb : b.length ≤ 1000000) (hr : rs.length ≤ 1000000) : CallOK Try.prog 45 [.list 1 (intsR a), .list 1 (intsR rs), .list 1 (intsR b)] [] (ansS (transA a b rs)) := by
  refine CallOK.of cF45 ?_ (Nat.le_of_ble_eq_true rfl)
  have h1 := both_ok a b ha hb
  have e0 := intsR_len rs
  have ea := intsR_len a
  unfold ansS
  by_cases h : bothE a b = 0
  · have e : transA a b rs = if rs.any (badR a) then (11, []) else (0, rs.map (toE a b)) := if_pos h
    rw [h] at h1
    refine walkX ?_
    rw [e0]
    refine AWP.loop (fun k : Nat => [(0, .list 1 (intsR a)), (2, .list 1 (intsR b)), (9, .hsl 0 0 0 ((rs.take k).map (toE a b)).length), (20, .list 1 (intsR rs)), (21, .sc (.int .i64 (rs.length : Int))), (22, .sc (.int .i64 (k : Int)))])
      (fun k => [[.cells 1 (intsR ((rs.take k).map (toE a b)))]]) (fun k => k ≤ rs.length ∧ (rs.take k).any (badR a) = false) (fun k => rs.length - k) 0 ⟨Nat.zero_le _, rfl⟩ ?_ ?_
    · (apply Sub.to [1] [[(0,0)]]; all_goals (repeat' (first | exact ToAll.nil | exact famsTo.nil | exact famTo.nil | exact ToL.nil | exact ToR.nil | refine ToAll.cons ?_ ?_ | refine famsTo.cons ?_ ?_ | refine wt10 ?_ ?_ | exact To.undef _ | exact To.sc _ | exact To.hslL rfl rfl | exact To.ptrO rfl rfl rfl | exact To.mrefO rfl | exact To.nil rfl rfl rfl | exact wt1 | exact To.nilL | refine To.int ?_ | refine To.bool ?_ | refine To.hslL rfl ?_ | refine wt2 rfl ?_ ?_ ?_ | refine To.tupL ?_ | refine To.aggL ?_ | refine To.cptrL ?_ | refine wt3 ?_ | refine wt4 ?_ | refine To.cloL ?_ ?_ | exact wt5 | refine wt6 ?_ | refine ToB.one ?_ | exact wt7 | ((with_reducible apply ToL.consE); case e9 => rfl) | refine wt8 ?_ | refine ToL.cons ?_ ?_ | exact wt11 | refine wt9 ?_ ?_ | refine wt12 ?_ | (with_reducible rfl) | assumption)); all_goals (first | rfl | assumption | (simp; done) | (simp; omega) | (rw [wrap_small (by omega) (by omega)]; done) | (rw [wrap_small (by omega) (by omega)]; omega) | (refine congrArg Nat.cast ?_; assumption) | skip))
    rintro k ⟨hk, hbad⟩
    refine walkX ?_
    refine AWP.condD rfl (fun h => ?_) (fun h => ?_)
    · have hrr := intsR_ix rs k h
      have ht := List.take_succ_eq_append_getElem h
      have hany := any_at (p := badR a) h
      have hany2 := any_take (p := badR a) h hbad
      have hle : ((rs.take k).map (toE a b)).length ≤ 1000000 := by rw [List.length_map, List.length_take]; omega
      have e1 := intsR_len ((rs.take k).map (toE a b))
      have e2 : (rs.take (k + 1)).map (toE a b) = (rs.take k).map (toE a b) ++ [toE a b rs[k]] := by rw [ht, List.map_append]; rfl
      generalize (rs.take k).map (toE a b) = o at *
      generalize rs[k] = x at *
      have e3 : ∀ y, intsR (o ++ [y]) = intsR o ++ [[.sc (.int .i64 y)]] := fun y => by simp [intsR]
      have e4 : ∀ y, (o ++ [y]).length = o.length + 1 := fun y => by simp
      by_cases hn : x = -2
      · subst hn
        have ht : toE a b (-2) = -2 := rfl
        have hg : badR a (-2) = false := rfl
        rw [ht] at e2
        refine walkX ?_
        refine ⟨k + 1, ⟨by omega, hany2 hg⟩, by omega, ?_⟩
        rw [e2, e3, e4]
        (apply Sub.to [] [[(2,0)]]; all_goals (repeat' (first | exact ToAll.nil | exact famsTo.nil | exact famTo.nil | exact ToL.nil | exact ToR.nil | refine ToAll.cons ?_ ?_ | refine famsTo.cons ?_ ?_ | refine wt10 ?_ ?_ | exact To.undef _ | exact To.sc _ | exact To.hslL rfl rfl | exact To.ptrO rfl rfl rfl | exact To.mrefO rfl | exact To.nil rfl rfl rfl | exact wt1 | exact To.nilL | refine To.int ?_ | refine To.bool ?_ | refine To.hslL rfl ?_ | refine wt2 rfl ?_ ?_ ?_ | refine To.tupL ?_ | refine To.aggL ?_ | refine To.cptrL ?_ | refine wt3 ?_ | refine wt4 ?_ | refine To.cloL ?_ ?_ | exact wt5 | refine wt6 ?_ | refine ToB.one ?_ | exact wt7 | ((with_reducible apply ToL.consE); case e9 => rfl) | refine wt8 ?_ | refine ToL.cons ?_ ?_ | exact wt11 | refine wt9 ?_ ?_ | refine wt12 ?_ | (with_reducible rfl) | assumption)); all_goals (first | rfl | assumption | (simp; done) | (simp; omega) | (rw [wrap_small (by omega) (by omega)]; done) | (rw [wrap_small (by omega) (by omega)]; omega) | (refine congrArg Nat.cast ?_; assumption) | skip))
      have fin : badR a x = true → AV.tup [.hsl 0 0 0 0, .sc (.int .i64 11)] = AV.tup [.hsl 0 0 0 (transA a b rs).2.length, .sc (.int .i64 (transA a b rs).1)] ∧ ([[.cells 1 []]] : Heap) = [[.cells 1 (intsR (transA a b rs).2)]] := fun hp => by
        rw [e, if_pos (hany hp)]
        exact ⟨rfl, rfl⟩
      by_cases hneg : x < 0
      · refine walkX ?_
        rw [beq_false_of_ne hn]
        refine walkX ?_
        rw [decide_eq_true hneg]
        refine walkX ?_
        (refine ⟨.inr rfl, _, .tup [.hsl 0 0 0 0, .sc (.int .i64 11)], [[.cells 1 []]], rfl, SubV.to [1] [[((1),0)]] ?_ ?_ rfl rfl rfl, fin (by simp [badR, hn, hneg])⟩; all_goals (all_goals (repeat' (first | exact ToAll.nil | exact famsTo.nil | exact famTo.nil | exact ToL.nil | exact ToR.nil | refine ToAll.cons ?_ ?_ | refine famsTo.cons ?_ ?_ | refine wt10 ?_ ?_ | exact To.undef _ | exact To.sc _ | exact To.hslL rfl rfl | exact To.ptrO rfl rfl rfl | exact To.mrefO rfl | exact To.nil rfl rfl rfl | exact wt1 | exact To.nilL | refine To.int ?_ | refine To.bool ?_ | refine To.hslL rfl ?_ | refine wt2 rfl ?_ ?_ ?_ | refine To.tupL ?_ | refine To.aggL ?_ | refine To.cptrL ?_ | refine wt3 ?_ | refine wt4 ?_ | refine To.cloL ?_ ?_ | exact wt5 | refine wt6 ?_ | refine ToB.one ?_ | exact wt7 | ((with_reducible apply ToL.consE); case e9 => rfl) | refine wt8 ?_ | refine ToL.cons ?_ ?_ | exact wt11 | refine wt9 ?_ ?_ | refine wt12 ?_ | (with_reducible rfl) | assumption)); all_goals (first | rfl | assumption | (simp; done) | (simp; omega) | (rw [wrap_small (by omega) (by omega)]; done) | (rw [wrap_small (by omega) (by omega)]; omega) | (refine congrArg Nat.cast ?_; assumption) | skip)))
      obtain ⟨q, rfl⟩ : ∃ q : Nat, x = q := ⟨x.toNat, by omega⟩
      by_cases hq : a.length ≤ q
      · have hqi : (a.length : Int) ≤ (q : Int) := by omega
        refine walkX ?_
        rw [beq_false_of_ne hn]
        refine walkX ?_
        rw [ea, decide_eq_true hq]
        refine walkX ?_
        (refine ⟨.inr rfl, _, .tup [.hsl 0 0 0 0, .sc (.int .i64 11)], [[.cells 1 []]], rfl, SubV.to [1] [[((1),0)]] ?_ ?_ rfl rfl rfl, fin (by simp [badR, hqi])⟩; all_goals (all_goals (repeat' (first | exact ToAll.nil | exact famsTo.nil | exact famTo.nil | exact ToL.nil | exact ToR.nil | refine ToAll.cons ?_ ?_ | refine famsTo.cons ?_ ?_ | refine wt10 ?_ ?_ | exact To.undef _ | exact To.sc _ | exact To.hslL rfl rfl | exact To.ptrO rfl rfl rfl | exact To.mrefO rfl | exact To.nil rfl rfl rfl | exact wt1 | exact To.nilL | refine To.int ?_ | refine To.bool ?_ | refine To.hslL rfl ?_ | refine wt2 rfl ?_ ?_ ?_ | refine To.tupL ?_ | refine To.aggL ?_ | refine To.cptrL ?_ | refine wt3 ?_ | refine wt4 ?_ | refine To.cloL ?_ ?_ | exact wt5 | refine wt6 ?_ | refine ToB.one ?_ | exact wt7 | ((with_reducible apply ToL.consE); case e9 => rfl) | refine wt8 ?_ | refine ToL.cons ?_ ?_ | exact wt11 | refine wt9 ?_ ?_ | refine wt12 ?_ | (with_reducible rfl) | assumption)); all_goals (first | rfl | assumption | (simp; done) | (simp; omega) | (rw [wrap_small (by omega) (by omega)]; done) | (rw [wrap_small (by omega) (by omega)]; omega) | (refine congrArg Nat.cast ?_; assumption) | skip)))
      have hql : q < a.length := by omega
      have hg : badR a (q : Int) = false := by simp [badR]; omega
      have hax := intsR_ix a q hql
      have h91 := index91_ok b a[q] hb
      have e5 := @getD_at a q hql
      have ht5 : toE a b (q : Int) = if idxE a[q] b < 0 then -2 else idxE a[q] b := by
        unfold toE
        rw [e5, if_neg hn]
      rw [ht5] at e2
      generalize a[q] = y at *
      refine walkX ?_
      rw [beq_false_of_ne hn]
      refine walkX ?_
      rw [ea, decide_eq_false hq]
      refine walkX ?_
      by_cases hi : idxE y b < 0
      · rw [if_pos hi] at e2
        rw [decide_eq_false (show ¬ 0 ≤ idxE y b by omega)]
        refine walkX ?_
        refine ⟨k + 1, ⟨by omega, hany2 hg⟩, by omega, ?_⟩
        rw [e2, e3, e4]
        (apply Sub.to [] [[(2,0)]]; all_goals (repeat' (first | exact ToAll.nil | exact famsTo.nil | exact famTo.nil | exact ToL.nil | exact ToR.nil | refine ToAll.cons ?_ ?_ | refine famsTo.cons ?_ ?_ | refine wt10 ?_ ?_ | exact To.undef _ | exact To.sc _ | exact To.hslL rfl rfl | exact To.ptrO rfl rfl rfl | exact To.mrefO rfl | exact To.nil rfl rfl rfl | exact wt1 | exact To.nilL | refine To.int ?_ | refine To.bool ?_ | refine To.hslL rfl ?_ | refine wt2 rfl ?_ ?_ ?_ | refine To.tupL ?_ | refine To.aggL ?_ | refine To.cptrL ?_ | refine wt3 ?_ | refine wt4 ?_ | refine To.cloL ?_ ?_ | exact wt5 | refine wt6 ?_ | refine ToB.one ?_ | exact wt7 | ((with_reducible apply ToL.consE); case e9 => rfl) | refine wt8 ?_ | refine ToL.cons ?_ ?_ | exact wt11 | refine wt9 ?_ ?_ | refine wt12 ?_ | (with_reducible rfl) | assumption)); all_goals (first | rfl | assumption | (simp; done) | (simp; omega) | (rw [wrap_small (by omega) (by omega)]; done) | (rw [wrap_small (by omega) (by omega)]; omega) | (refine congrArg Nat.cast ?_; assumption) | skip))
      · rw [if_neg hi] at e2
        rw [decide_eq_true (show 0 ≤ idxE y b by omega)]
        refine walkX ?_
        refine ⟨k + 1, ⟨by omega, hany2 hg⟩, by omega, ?_⟩
        rw [e2, e3, e4]
        (apply Sub.to [] [[(2,0)]]; all_goals (repeat' (first | exact ToAll.nil | exact famsTo.nil | exact famTo.nil | exact ToL.nil | exact ToR.nil | refine ToAll.cons ?_ ?_ | refine famsTo.cons ?_ ?_ | refine wt10 ?_ ?_ | exact To.undef _ | exact To.sc _ | exact To.hslL rfl rfl | exact To.ptrO rfl rfl rfl | exact To.mrefO rfl | exact To.nil rfl rfl rfl | exact wt1 | exact To.nilL | refine To.int ?_ | refine To.bool ?_ | refine To.hslL rfl ?_ | refine wt2 rfl ?_ ?_ ?_ | refine To.tupL ?_ | refine To.aggL ?_ | refine To.cptrL ?_ | refine wt3 ?_ | refine wt4 ?_ | refine To.cloL ?_ ?_ | exact wt5 | refine wt6 ?_ | refine ToB.one ?_ | exact wt7 | ((with_reducible apply ToL.consE); case e9 => rfl) | refine wt8 ?_ | refine ToL.cons ?_ ?_ | exact wt11 | refine wt9 ?_ ?_ | refine wt12 ?_ | (with_reducible rfl) | assumption)); all_goals (first | rfl | assumption | (simp; done) | (simp; omega) | (rw [wrap_small (by omega) (by omega)]; done) | (rw [wrap_small (by omega) (by omega)]; omega) | (refine congrArg Nat.cast ?_; assumption) | skip))
    have hk : k = rs.length := by omega
    subst hk
    rw [List.take_of_length_le (Nat.le_refl _)] at hbad ⊢
    rw [hbad, if_neg (by simp)] at e
    rw [e]
    refine walkX ?_
    (refine endH [[(0,0)]] (by first | exact .inr rfl | exact .inl rfl) rfl ⟨rfl, rfl⟩ ?_ ?_ rfl rfl rfl; all_goals (repeat' (first | exact ToAll.nil | exact famsTo.nil | exact famTo.nil | exact ToL.nil | exact ToR.nil | refine ToAll.cons ?_ ?_ | refine famsTo.cons ?_ ?_ | refine wt10 ?_ ?_ | exact To.undef _ | exact To.sc _ | exact To.hslL rfl rfl | exact To.ptrO rfl rfl rfl | exact To.mrefO rfl | exact To.nil rfl rfl rfl | exact wt1 | exact To.nilL | refine To.int ?_ | refine To.bool ?_ | refine To.hslL rfl ?_ | refine wt2 rfl ?_ ?_ ?_ | refine To.tupL ?_ | refine To.aggL ?_ | refine To.cptrL ?_ | refine wt3 ?_ | refine wt4 ?_ | refine To.cloL ?_ ?_ | exact wt5 | refine wt6 ?_ | refine ToB.one ?_ | exact wt7 | ((with_reducible apply ToL.consE); case e9 => rfl) | refine wt8 ?_ | refine ToL.cons ?_ ?_ | exact wt11 | refine wt9 ?_ ?_ | refine wt12 ?_ | (with_reducible rfl) | assumption)); all_goals (first | rfl | assumption | (simp; done) | (simp; omega) | (rw [wrap_small (by omega) (by omega)]; done) | (rw [wrap_small (by omega) (by omega)]; omega) | (refine congrArg Nat.cast ?_; assumption) | skip))
  · have e : transA a b rs = (bothE a b, []) := if_neg h
    rw [e]
    refine walkX ?_
    rw [show (bothE a b != 0) = true from by simpa using h]
    refine walkX ?_
    (refine ⟨.inr rfl, _, .tup [.hsl 0 0 0 0, .sc (.int .i64 (bothE a b))], [[.cells 1 []]], rfl, SubV.to [1] [[((0),0)]] ?_ ?_ rfl rfl rfl, rfl, rfl⟩; all_goals (all_goals (repeat' (first | exact ToAll.nil | exact famsTo.nil | exact famTo.nil | exact ToL.nil | exact ToR.nil | refine ToAll.cons ?_ ?_ | refine famsTo.cons ?_ ?_ | refine wt10 ?_ ?_ | exact To.undef _ | exact To.sc _ | exact To.hslL rfl rfl | exact To.ptrO rfl rfl rfl | exact To.mrefO rfl | exact To.nil rfl rfl rfl | exact wt1 | exact To.nilL | refine To.int ?_ | refine To.bool ?_ | refine To.hslL rfl ?_ | refine wt2 rfl ?_ ?_ ?_ | refine To.tupL ?_ | refine To.aggL ?_ | refine To.cptrL ?_ | refine wt3 ?_ | refine wt4 ?_ | refine To.cloL ?_ ?_ | exact wt5 | refine wt6 ?_ | refine ToB.one ?_ | exact wt7 | ((with_reducible apply ToL.consE); case e9 => rfl) | refine wt8 ?_ | refine ToL.cons ?_ ?_ | exact wt11 | refine wt9 ?_ ?_ | refine wt12 ?_ | (with_reducible rfl) | assumption)); all_goals (first | rfl | assumption | (simp; done) | (simp; omega) | (rw [wrap_small (by omega) (by omega)]; done) | (rw [wrap_small (by omega) (by omega)]; omega) | (refine congrArg Nat.cast ?_; assumption) | skip)))
end Go.Proofs.Ytpkpfgpfkajkpaa
