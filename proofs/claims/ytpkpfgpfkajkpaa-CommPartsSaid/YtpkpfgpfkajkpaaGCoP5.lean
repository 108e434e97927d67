import Derived.Test.YtpkpfgpfkajkpaaGCoV2
import Derived.Test.YtpkpfgpfkajkpaaGAvJ
import Derived.Test.YtpkpfgpfkajkpaaGCoD1
namespace Go.Proofs.Ytpkpfgpfkajkpaa
open Go.Av Go.Proofs
set_option maxRecDepth 20000
def nats (s : List Int) : List Nat := s.map Int.toNat
theorem nats_I (t : List Nat) : nats (natI t) = t := by
  simp only [nats, natI, List.map_map]
  exact (List.map_congr_left fun n _ => Int.toNat_natCast n).trans (List.map_id' t)
def chkE (s : List Int) (w : List Bool) (r : Int) : Int := if cntE s w = 0 then 2 else if r < 0 ∨ (cntE s w : Int) ≤ r then 11 else 0
theorem chk0 {s : List Int} {w : List Bool} {r : Int} (h : chkE s w r = 0) : ∃ (t : List Nat) (q : Nat), s = natI t ∧ nats s = t ∧ r = q ∧ q < 64 ∧ w.length = t.length ∧ 1 ≤ t.length ∧ t.length ≤ 4 ∧ (∀ a ∈ t, 1 ≤ a ∧ a ≤ 64) ∧ cntE s w = prodN t ∧ q < prodN t := by
  unfold chkE at h
  split at h
  · cases h
  · split at h
    · cases h
    · rename_i h1 h2
      obtain ⟨t, rfl, a1, a2, a3, a4, a5, a6⟩ := cntE_good (s := s) (w := w) (by omega)
      exact ⟨t, r.toNat, rfl, nats_I t, by omega, by omega, a1, a2, a3, a4, a5, by omega⟩
set_option maxHeartbeats 4000000 in
theorem chk_ok (s : List Int) (w : List Bool) (r : Int) : PureRun Try.prog 73 [gridV s w, .sc (.int .i64 r)] (.sc (.int .i64 (chkE s w r))) := by
  refine PureRun.of (allPure_cons (grid_pure _ _) (allPure_cons (.sc _) allPure_nil)) (.sc _) (CallOK.mono (R := fun res H' => res = .sc (.int .i64 (chkE s w r)) ∧ H' = []) ?_ fun _ _ h => h.1)
  have hc := count_ok s w
  unfold gridV at hc ⊢
  refine CallOK.of cF73 ?_ (Nat.le_of_ble_eq_true rfl)
  unfold chkE
  generalize cntE s w = n at *
  by_cases h1 : n = 0
  · subst h1
    refine walkX ?_
    exact endW [] (⟨rfl, rfl⟩)
  rw [if_neg h1]
  by_cases h2 : r < 0
  · rw [if_pos (.inl h2)]
    refine walkX ?_
    rw [decide_eq_false h1]
    refine walkX ?_
    rw [decide_eq_true h2]
    refine walkX ?_
    exact endW [] (⟨rfl, rfl⟩)
  obtain ⟨q, rfl⟩ : ∃ q : Nat, r = q := ⟨r.toNat, by omega⟩
  by_cases h3 : n ≤ q
  · rw [if_pos (.inr (by omega))]
    refine walkX ?_
    rw [decide_eq_false h1]
    refine walkX ?_
    rw [decide_eq_true h3]
    refine walkX ?_
    exact endW [] (⟨rfl, rfl⟩)
  · rw [if_neg (by omega)]
    refine walkX ?_
    rw [decide_eq_false h1]
    refine walkX ?_
    rw [decide_eq_false h3]
    refine walkX ?_
    exact endW [] (⟨rfl, rfl⟩)
def shiftA (s : List Int) (w : List Bool) (r d b : Int) : (Int × Int) × Int := if chkE s w r = 0 then (if d < 0 ∨ (s.length : Int) ≤ d then ((0, 0), 3) else (shiftE (nats s) w r.toNat d.toNat b, 0)) else ((0, 0), chkE s w r)
set_option maxHeartbeats 4000000 in
theorem shiftX_ok (s : List Int) (w : List Bool) (r d b : Int) (hb : -9223372036854775808 ≤ b ∧ b ≤ 9223372036854775807) :
    PureRun Try.prog 28 [gridV s w, .sc (.int .i64 r), .sc (.int .i64 d), .sc (.int .i64 b)] (.tup [.sc (.int .i64 (shiftA s w r d b).1.1), .sc (.int .i64 (shiftA s w r d b).1.2), .sc (.int .i64 (shiftA s w r d b).2)]) := by
  refine PureRun.of (allPure_cons (grid_pure _ _) (allPure_cons (.sc _) (allPure_cons (.sc _) (allPure_cons (.sc _) allPure_nil)))) (.tup _ (allPure_cons (.sc _) (allPure_cons (.sc _) (allPure_cons (.sc _) allPure_nil)))) (CallOK.mono (R := fun res H' => res = .tup [.sc (.int .i64 (shiftA s w r d b).1.1), .sc (.int .i64 (shiftA s w r d b).1.2), .sc (.int .i64 (shiftA s w r d b).2)] ∧ H' = []) ?_ fun _ _ h => h.1)
  refine CallOK.of cF28 ?_ (Nat.le_of_ble_eq_true rfl)
  have hc := chk_ok s w r
  have l1 := intsR_len s
  by_cases h : chkE s w r = 0
  case neg =>
    have e : shiftA s w r d b = ((0, 0), chkE s w r) := if_neg h
    rw [e]
    unfold gridV at hc ⊢
    refine walkX ?_
    rw [show (chkE s w r != 0) = true from by simpa using h]
    refine walkX ?_
    exact endW [] (⟨rfl, rfl⟩)
  have e : shiftA s w r d b = (if d < 0 ∨ (s.length : Int) ≤ d then ((0, 0), 3) else (shiftE (nats s) w r.toNat d.toNat b, 0)) := if_pos h
  obtain ⟨t, q, rfl, e1, rfl, hq, hw, h1, h4, hs, _⟩ := chk0 h
  rw [h] at hc
  rw [e1, Int.toNat_natCast, natI_len] at e
  rw [natI_len] at l1
  by_cases d1 : d < 0
  · rw [if_pos (.inl d1)] at e
    rw [e]
    unfold gridV at hc ⊢
    refine walkX ?_
    rw [decide_eq_true d1]
    refine walkX ?_
    exact endW [] (⟨rfl, rfl⟩)
  obtain ⟨k, rfl⟩ : ∃ k : Nat, d = k := ⟨d.toNat, by omega⟩
  by_cases d2 : t.length ≤ k
  · rw [if_pos (.inr (by omega))] at e
    rw [e]
    unfold gridV at hc ⊢
    refine walkX ?_
    rw [l1, decide_eq_true d2]
    refine walkX ?_
    exact endW [] (⟨rfl, rfl⟩)
  rw [if_neg (by omega), Int.toNat_natCast] at e
  rw [e]
  have hsh := shift_ok t w q k b hw h4 hs (by omega) (by omega) hb
  generalize shiftE t w q k b = p at *
  unfold gridV at hc hsh ⊢
  refine walkX ?_
  rw [l1, decide_eq_false d2]
  refine walkX ?_
  exact endW [] (⟨rfl, rfl⟩)
end Go.Proofs.Ytpkpfgpfkajkpaa
namespace Go.Proofs.Ytpkpfgpfkajkpaa
open Go.Av Go.Proofs
set_option maxRecDepth 20000
def alG (t c : List Nat) (n : Nat) : List Nat → Nat
  | [] => n
  | i :: l => alG t c (n * t.getD i 0 + c.getD i 0) l
set_option maxHeartbeats 8000000 in
theorem along_ok (t : List Nat) (w : List Bool) (l c : List Nat) (h4 : l.length ≤ 4) (hs : ∀ a ∈ t, 1 ≤ a ∧ a ≤ 64) (hc : c.length = t.length) (hcr : ∀ (k : Nat) (h : k < c.length) (h2 : k < t.length), c[k] < t[k]) (hl : ∀ i ∈ l, i < t.length) :
    PureRun Try.prog 93 [gridV (natI t) w, .list 1 (natsR l), .list 1 (natsR c)] (.sc (.int .i64 (alG t c 0 l : Nat))) := by
  refine PureRun.of (allPure_cons (grid_pure _ _) (allPure_cons (.list _ _ (prs _)) (allPure_cons (.list _ _ (prs _)) allPure_nil))) (.sc _) (CallOK.mono (R := fun res H' => res = .sc (.int .i64 (alG t c 0 l : Nat)) ∧ H' = []) ?_ fun _ _ h => h.1)
  unfold gridV
  rw [← natsR_I]
  refine CallOK.of cF93 ?_ (Nat.le_of_ble_eq_true rfl)
  have e0 := natsR_len l
  have e1 := natsR_len t
  have e2 := natsR_len c
  refine walkX ?_
  rw [e0]
  refine AWP.loop (fun q : Nat × Nat => [(2, .list 1 (natsR c)), (3, .ptr 0 0 0 0), (7, .sc (.int .i64 (q.2 : Int))), (10, .list 1 (natsR l)), (11, .sc (.int .i64 (l.length : Int))), (12, .sc (.int .i64 (q.1 : Int)))])
    (fun _ => [[.cells 2 [[.list 1 (natsR t), .list 1 (boolsR w)]]]]) (fun q => q.1 ≤ l.length ∧ q.2 < 64 ^ q.1 ∧ alG t c 0 l = alG t c q.2 (l.drop q.1)) (fun q => l.length - q.1) (0, 0) ⟨Nat.zero_le _, by decide, rfl⟩ ?_ ?_
  · exact Sub.w [] [[(0,0)]]
  rintro ⟨k, n⟩ ⟨hk, hn, hcn⟩
  dsimp only at hk hn hcn ⊢
  refine walkX0 ?_
  refine AWP.condD rfl (fun h => ?_) (fun h => ?_)
  · have hr := natsR_ix l k h
    have hi := hl _ (List.getElem_mem h)
    have hd : alG t c n (l.drop k) = alG t c (n * t.getD l[k] 0 + c.getD l[k] 0) (l.drop (k + 1)) := by
      rw [List.drop_eq_getElem_cons h]
      rfl
    rw [hd] at hcn
    generalize l[k] = i at *
    have g1 : t.getD i 0 = t[i] := by simp [hi]
    have g2 : c.getD i 0 = c[i]'(by omega) := by simp [hi, hc]
    rw [g1, g2] at hcn
    have hrt := natsR_ix t i hi
    have hrc := natsR_ix c i (by omega)
    have ha := hs _ (List.getElem_mem hi)
    have hlt := hcr i (by omega) hi
    generalize c[i]'(by omega) = y at *
    generalize t[i] = a at *
    have hn2 := @lt_pow n a y k hn ha.2 hlt
    have hn3 := pow_le hn hk h4
    have hn4 : n * a ≤ 16777216 * 64 := Nat.mul_le_mul (by omega) ha.2
    refine walkX ?_
    refine DK.nil ⟨by kernel_rfl, ?_⟩
    refine walkX ?_
    refine ⟨(k + 1, n * a + y), ⟨by dsimp only; omega, hn2, hcn⟩, by dsimp only; omega, ?_⟩
    exact Sub.w [] [[(0,0)]]
  have hk : k = l.length := by omega
  subst hk
  rw [List.drop_length] at hcn
  have hres : AV.sc (Value.int .i64 (n : Int)) = .sc (.int .i64 (alG t c 0 l : Nat)) := by rw [hcn]; rfl
  refine walkX ?_
  exact endW [] (⟨hres, rfl⟩)
def someS (t : List Nat) (l : List Nat) : List Int := if l = [] then [1] else natI (l.map fun i => t.getD i 0)
def someW (w : List Bool) (l : List Nat) : List Bool := if l = [] then [false] else l.map fun i => w.getD i false
set_option maxHeartbeats 8000000 in
theorem some_ok (t : List Nat) (w : List Bool) (l : List Nat) (h4 : l.length ≤ 4) (hw : w.length = t.length) (hl : ∀ i ∈ l, i < t.length) :
    PureRun Try.prog 94 [gridV (natI t) w, .list 1 (natsR l)] (gridV (someS t l) (someW w l)) := by
  refine PureRun.of (allPure_cons (grid_pure _ _) (allPure_cons (.list _ _ (prs _)) allPure_nil)) (grid_pure _ _) (CallOK.mono (R := fun res H' => res = gridV (someS t l) (someW w l) ∧ H' = []) ?_ fun _ _ h => h.1)
  unfold gridV
  rw [← natsR_I]
  refine CallOK.of cF94 ?_ (Nat.le_of_ble_eq_true rfl)
  have e0 := natsR_len l
  have e1 := natsR_len t
  have e2 := boolsR_len w
  by_cases hnil : l = []
  · subst hnil
    have q1 : someS t [] = [1] := rfl
    have q2 : someW w [] = [false] := rfl
    rw [q1, q2]
    refine walkX ?_
    exact endW [] (⟨rfl, rfl⟩)
  have hl0 : l.length ≠ 0 := fun e => hnil (List.length_eq_zero_iff.1 e)
  have q1 : someS t l = natI (l.map fun i => t.getD i 0) := if_neg hnil
  have q2 : someW w l = l.map fun i => w.getD i false := if_neg hnil
  rw [q1, q2, ← natsR_I]
  refine walkX ?_
  rw [e0, decide_eq_false hl0]
  refine walkX ?_
  rw [e0]
  refine AWP.loop (fun k : Nat => [(2, .ptr 0 0 0 0), (4, .ptr 1 0 0 0), (5, .ptr 2 0 0 0), (14, .list 1 (natsR l)), (15, .sc (.int .i64 (l.length : Int))), (16, .sc (.int .i64 (k : Int)))])
    (fun k => [[.cells 2 [[.list 1 (natsR t), .list 1 (boolsR w)]]], [.cells 2 [[.sc (.slice none 0 0), .sc (.slice none 0 0)]]], [.cells 2 [[.hsl 3 0 0 k, .hsl 4 0 0 k]]], [.cells 1 (natsR ((l.take k).map fun i => t.getD i 0))], [.cells 1 (boolsR ((l.take k).map fun i => w.getD i false))]])
    (fun k => k ≤ l.length) (fun k => l.length - k) 0 (Nat.zero_le _) ?_ ?_
  · (apply Sub.to [1,1] [[(0,0)],[(1,0)],[(2,0)],[(3,0)],[(4,0)]]; all_goals (repeat' (first | exact ToAll.nil | exact famsTo.nil | exact famTo.nil | exact ToL.nil | exact ToR.nil | refine ToAll.cons ?_ ?_ | refine famsTo.cons ?_ ?_ | refine wt10 ?_ ?_ | exact To.undef _ | exact To.sc _ | exact To.hslL rfl rfl | exact To.ptrO rfl rfl rfl | exact To.mrefO rfl | exact To.nil rfl rfl rfl | exact wt1 | exact To.nilL | refine To.int ?_ | refine To.bool ?_ | refine To.hslL rfl ?_ | refine wt2 rfl ?_ ?_ ?_ | refine To.tupL ?_ | refine To.aggL ?_ | refine To.cptrL ?_ | refine wt3 ?_ | refine wt4 ?_ | refine To.cloL ?_ ?_ | refine ToB.one ?_ | exact wt5 | refine wt6 ?_ | ((with_reducible apply ToL.consE); case e9 => rfl) | refine ToL.cons ?_ ?_ | exact wt7 | refine wt8 ?_ | exact wt11 | refine wt9 ?_ ?_ | refine wt12 ?_ | (with_reducible rfl) | assumption)); all_goals (first | rfl | assumption | (simp; done) | (simp; omega) | (rw [wrap_small (by omega) (by omega)]; done) | (rw [wrap_small (by omega) (by omega)]; omega) | (refine congrArg Nat.cast ?_; assumption) | skip))
  rintro k hk
  refine walkX0 ?_
  refine AWP.condD rfl (fun h => ?_) (fun h => ?_)
  · have hr := natsR_ix l k h
    have hi := hl _ (List.getElem_mem h)
    have ht := List.take_succ_eq_append_getElem h
    have m1 : (l.take (k + 1)).map (fun i => t.getD i 0) = (l.take k).map (fun i => t.getD i 0) ++ [t.getD l[k] 0] := by rw [ht, List.map_append]; rfl
    have m2 : (l.take (k + 1)).map (fun i => w.getD i false) = (l.take k).map (fun i => w.getD i false) ++ [w.getD l[k] false] := by rw [ht, List.map_append]; rfl
    have n1 : (natsR ((l.take k).map fun i => t.getD i 0)).length = k := by rw [natsR_len, List.length_map, List.length_take]; omega
    have n2 : (boolsR ((l.take k).map fun i => w.getD i false)).length = k := by rw [boolsR_len, List.length_map, List.length_take]; omega
    generalize (l.take k).map (fun i => t.getD i 0) = o1 at *
    generalize (l.take k).map (fun i => w.getD i false) = o2 at *
    generalize l[k] = i at *
    have g1 : t.getD i 0 = t[i] := by simp [hi]
    have g2 : w.getD i false = w[i]'(by omega) := by simp [hi, hw]
    rw [g1] at m1
    rw [g2] at m2
    have hrt := natsR_ix t i hi
    have hrw := boolsR_ix w i (by omega)
    generalize w[i]'(by omega) = y at *
    generalize t[i] = a at *
    have e6 : natsR (o1 ++ [a]) = natsR o1 ++ [[.sc (.int .i64 (a : Int))]] := by simp [natsR]
    have e7 : boolsR (o2 ++ [y]) = boolsR o2 ++ [[.sc (.bool y)]] := by simp [boolsR]
    refine walkX ?_
    refine DK.nil ⟨by kernel_rfl, ?_⟩
    refine walkX ?_
    refine ⟨k + 1, by omega, by omega, ?_⟩
    rw [m1, m2, e6, e7]
    (apply Sub.to [] [[(0,0)],[(1,0)],[(2,0)],[(5,8)],[(5,17)]]; all_goals (repeat' (first | exact ToAll.nil | exact famsTo.nil | exact famTo.nil | exact ToL.nil | exact ToR.nil | refine ToAll.cons ?_ ?_ | refine famsTo.cons ?_ ?_ | refine wt10 ?_ ?_ | exact To.undef _ | exact To.sc _ | exact To.hslL rfl rfl | exact To.ptrO rfl rfl rfl | exact To.mrefO rfl | exact To.nil rfl rfl rfl | exact wt1 | exact To.nilL | refine To.int ?_ | refine To.bool ?_ | refine To.hslL rfl ?_ | refine wt2 rfl ?_ ?_ ?_ | refine To.tupL ?_ | refine To.aggL ?_ | refine To.cptrL ?_ | refine wt3 ?_ | refine wt4 ?_ | refine To.cloL ?_ ?_ | refine ToB.one ?_ | exact wt5 | refine wt6 ?_ | ((with_reducible apply ToL.consE); case e9 => rfl) | refine ToL.cons ?_ ?_ | exact wt7 | refine wt8 ?_ | exact wt11 | refine wt9 ?_ ?_ | refine wt12 ?_ | (with_reducible rfl) | assumption)); all_goals (first | rfl | assumption | (simp; done) | (simp; omega) | (rw [wrap_small (by omega) (by omega)]; done) | (rw [wrap_small (by omega) (by omega)]; omega) | (refine congrArg Nat.cast ?_; assumption) | skip))
  have hk : k = l.length := by omega
  subst hk
  rw [List.take_of_length_le (Nat.le_refl _)]
  have n1 : (natsR (l.map fun i => t.getD i 0)).length = l.length := by rw [natsR_len, List.length_map]
  have n2 : (boolsR (l.map fun i => w.getD i false)).length = l.length := by rw [boolsR_len, List.length_map]
  refine walkX ?_
  exact endW [] (⟨rfl, rfl⟩)
end Go.Proofs.Ytpkpfgpfkajkpaa
namespace Go.Proofs.Ytpkpfgpfkajkpaa
open Go.Av Go.Proofs
set_option maxRecDepth 20000
def idxL (u : List Bool) (p : Bool) (k : Nat) : List Nat := (List.range k).filter fun i => u.getD i false == p
theorem idxL_lt {u : List Bool} {p : Bool} {k : Nat} : ∀ i ∈ idxL u p k, i < k := fun _ hi => List.mem_range.1 (List.mem_filter.1 hi).1
theorem idxL_len (u : List Bool) (p : Bool) (k : Nat) : (idxL u p k).length ≤ k := by
  have := List.length_filter_le (fun i => u.getD i false == p) (List.range k)
  rwa [List.length_range] at this
theorem idxL_yes {u : List Bool} {p : Bool} {k : Nat} (h : k < u.length) (hp : u[k] = p) : idxL u p (k + 1) = idxL u p k ++ [k] := by
  unfold idxL
  rw [List.range_succ, List.filter_append]
  simp [h, hp]
theorem idxL_no {u : List Bool} {p : Bool} {k : Nat} (h : k < u.length) (hp : u[k] ≠ p) : idxL u p (k + 1) = idxL u p k := by
  unfold idxL
  rw [List.range_succ, List.filter_append]
  simp [h, hp]
abbrev SubT := (List Int × List Bool) × (List Int × List Int) × Int
def subAV (p : SubT) : AV := .tup [gridV p.1.1 p.1.2, .list 1 (intsR p.2.1.1), .list 1 (intsR p.2.1.2), .sc (.int .i64 p.2.2)]
theorem sub_pure (p : SubT) : Pure (subAV p) := .tup _ (allPure_cons (grid_pure _ _) (allPure_cons (.list _ _ (prs _)) (allPure_cons (.list _ _ (prs _)) (allPure_cons (.sc _) allPure_nil))))
def partN (t O : List Nat) (k : Nat) : List Nat := (List.range k).map fun r => alG t (coordN t r) 0 O
def subE (t : List Nat) (w u : List Bool) : SubT :=
  ((someS t (idxL u true t.length), someW w (idxL u true t.length)), (natI (partN t (idxL u false t.length) (prodN t)), natI (partN t (idxL u true t.length) (prodN t))), 0)
def subA (s : List Int) (w u : List Bool) : SubT :=
  if cntE s w = 0 then (([], []), ([], []), 2) else if u.length ≠ s.length then (([], []), ([], []), 26) else subE (nats s) w u
def fillN (n : Nat) (l : List Nat) : List Nat := l ++ List.replicate (n - l.length) 0
theorem fillN_set {n x : Nat} {l : List Nat} (h : l.length < n) : (natsR (fillN n l)).set l.length [.sc (.int .i64 (x : Int))] = natsR (fillN n (l ++ [x])) := by
  rw [natsR_set]
  congr 1
  unfold fillN
  rw [List.set_append_right _ _ (Nat.le_refl _), Nat.sub_self, List.length_append, List.length_singleton]
  obtain ⟨m, hm⟩ : ∃ m, n - l.length = m + 1 := ⟨n - l.length - 1, by omega⟩
  rw [hm, show n - (l.length + 1) = m by omega, List.replicate_succ]
  simp
theorem fillN_len {n : Nat} {l : List Nat} (h : l.length ≤ n) : (fillN n l).length = n := by simp [fillN]; omega
theorem fillN_full {n : Nat} {l : List Nat} (h : l.length = n) : fillN n l = l := by simp [fillN, h]
theorem partN_len (t O : List Nat) (k : Nat) : (partN t O k).length = k := by simp [partN]
theorem partN_succ (t O : List Nat) (k : Nat) : partN t O (k + 1) = partN t O k ++ [alG t (coordN t k) 0 O] := by simp [partN, List.range_succ]
set_option maxHeartbeats 16000000 in
theorem sub_ok (s : List Int) (w u : List Bool) : PureRun Try.prog 50 [gridV s w, .list 1 (boolsR u)] (subAV (subA s w u)) := by
  refine PureRun.of (allPure_cons (grid_pure _ _) (allPure_cons (.list _ _ (prs _)) allPure_nil)) (sub_pure _) (CallOK.mono (R := fun res H' => res = subAV (subA s w u) ∧ H' = []) ?_ fun _ _ h => h.1)
  refine CallOK.of cF50 ?_ (Nat.le_of_ble_eq_true rfl)
  have hc := count_ok s w
  have l1 := intsR_len s
  have l2 := boolsR_len u
  by_cases h : cntE s w = 0
  · have e : subA s w u = (([], []), ([], []), 2) := if_pos h
    rw [h] at hc
    rw [e]
    unfold subAV
    unfold gridV at hc ⊢
    refine walkX ?_
    exact endW [] (⟨rfl, rfl⟩)
  have e0 : subA s w u = if u.length ≠ s.length then (([], []), ([], []), 26) else subE (nats s) w u := if_neg h
  obtain ⟨t, rfl, hw, h1, h4, hs, hn, hn64⟩ := cntE_good (s := s) (w := w) (by omega)
  rw [natI_len] at l1
  rw [natI_len, nats_I] at e0
  rw [hn] at hc h
  by_cases hl : u.length = t.length
  case neg =>
    rw [if_pos hl] at e0
    rw [e0]
    generalize prodN t = n at *
    unfold subAV
    unfold gridV at hc ⊢
    refine walkX ?_
    rw [decide_eq_false h]
    refine walkX ?_
    rw [l1, l2, decide_eq_false hl]
    refine walkX ?_
    exact endW [] (⟨rfl, rfl⟩)
  rw [if_neg (by omega)] at e0
  rw [e0]
  unfold subAV subE
  dsimp only
  have hco := fun r hr H => coords_at t w r h4 hs hr H
  have hal := fun l c hl hc hcr hll => along_ok t w l c hl hs hc hcr hll
  have hso := fun l hl hll => some_ok t w l hl hw hll
  have hK := @idxL_lt u true t.length
  have hO := @idxL_lt u false t.length
  have hK2 := idxL_len u true t.length
  have hO2 := idxL_len u false t.length
  have hsm := hso _ (by omega) hK
  rw [← natsR_I, ← natsR_I]
  generalize hn' : prodN t = n at *
  unfold gridV at hc hco hal hsm ⊢
  refine walkX ?_
  rw [decide_eq_false h]
  refine walkX ?_
  rw [l1, l2, decide_eq_true hl]
  refine walkX ?_
  rw [l2]
  refine AWP.loop (fun k : Nat => [(2, .ptr 0 0 0 0), (4, .ptr 1 0 0 0), (8, .sc (.int .i64 (n : Int))), (9, .hsl 2 0 0 (idxL u true k).length), (10, .hsl 3 0 0 (idxL u false k).length), (31, .list 1 (boolsR u)), (32, .sc (.int .i64 (u.length : Int))), (33, .sc (.int .i64 (k : Int)))])
    (fun k => [[.cells 2 [[.list 1 (intsR (natI t)), .list 1 (boolsR w)]]], [.cells 2 [[.sc (.slice none 0 0), .sc (.slice none 0 0)]]], [.cells 1 (natsR (idxL u true k))], [.cells 1 (natsR (idxL u false k))]])
    (fun k => k ≤ u.length) (fun k => u.length - k) 0 (Nat.zero_le _) ?_ ?_
  · (apply Sub.to [1,1] [[(0,0)],[(1,0)],[(2,0)],[(3,0)]]; all_goals (repeat' (first | exact ToAll.nil | exact famsTo.nil | exact famTo.nil | exact ToL.nil | exact ToR.nil | refine ToAll.cons ?_ ?_ | refine famsTo.cons ?_ ?_ | refine wt10 ?_ ?_ | exact To.undef _ | exact To.sc _ | exact To.hslL rfl rfl | exact To.ptrO rfl rfl rfl | exact To.mrefO rfl | exact To.nil rfl rfl rfl | exact wt1 | exact To.nilL | refine To.int ?_ | refine To.bool ?_ | refine To.hslL rfl ?_ | refine wt2 rfl ?_ ?_ ?_ | refine To.tupL ?_ | refine To.aggL ?_ | refine To.cptrL ?_ | refine wt3 ?_ | refine wt4 ?_ | refine To.cloL ?_ ?_ | refine ToB.one ?_ | exact wt5 | refine wt6 ?_ | ((with_reducible apply ToL.consE); case e9 => rfl) | refine ToL.cons ?_ ?_ | exact wt7 | refine wt8 ?_ | exact wt11 | refine wt9 ?_ ?_ | refine wt12 ?_ | (with_reducible rfl) | assumption)); all_goals (first | rfl | assumption | (simp; done) | (simp; omega) | (rw [wrap_small (by omega) (by omega)]; done) | (rw [wrap_small (by omega) (by omega)]; omega) | (refine congrArg Nat.cast ?_; assumption) | skip))
  · rintro k hk
    refine walkX ?_
    refine AWP.condD rfl (fun h => ?_) (fun h => ?_)
    · have hr := boolsR_ix u k h
      have y1 := @idxL_yes u true k h
      have y2 := @idxL_yes u false k h
      have z1 := @idxL_no u true k h
      have z2 := @idxL_no u false k h
      have n1 := natsR_len (idxL u true k)
      have n2 := natsR_len (idxL u false k)
      have n3 := idxL_len u true k
      have n4 := idxL_len u false k
      have e6 : ∀ o : List Nat, natsR (o ++ [k]) = natsR o ++ [[.sc (.int .i64 (k : Int))]] := fun o => by simp [natsR]
      have e7 : ∀ o : List Nat, (o ++ [k]).length = o.length + 1 := fun o => by simp
      generalize idxL u true k = o1 at *
      generalize idxL u false k = o2 at *
      generalize u[k] = y at *
      cases y with
      | true =>
        refine walkX ?_
        refine ⟨k + 1, by omega, by omega, ?_⟩
        rw [y1 rfl, z2 (by simp), e6, e7]
        (apply Sub.to [] [[(0,0)],[(1,0)],[(5,0)],[(3,0)]]; all_goals (repeat' (first | exact ToAll.nil | exact famsTo.nil | exact famTo.nil | exact ToL.nil | exact ToR.nil | refine ToAll.cons ?_ ?_ | refine famsTo.cons ?_ ?_ | refine wt10 ?_ ?_ | exact To.undef _ | exact To.sc _ | exact To.hslL rfl rfl | exact To.ptrO rfl rfl rfl | exact To.mrefO rfl | exact To.nil rfl rfl rfl | exact wt1 | exact To.nilL | refine To.int ?_ | refine To.bool ?_ | refine To.hslL rfl ?_ | refine wt2 rfl ?_ ?_ ?_ | refine To.tupL ?_ | refine To.aggL ?_ | refine To.cptrL ?_ | refine wt3 ?_ | refine wt4 ?_ | refine To.cloL ?_ ?_ | refine ToB.one ?_ | exact wt5 | refine wt6 ?_ | ((with_reducible apply ToL.consE); case e9 => rfl) | refine ToL.cons ?_ ?_ | exact wt7 | refine wt8 ?_ | exact wt11 | refine wt9 ?_ ?_ | refine wt12 ?_ | (with_reducible rfl) | assumption)); all_goals (first | rfl | assumption | (simp; done) | (simp; omega) | (rw [wrap_small (by omega) (by omega)]; done) | (rw [wrap_small (by omega) (by omega)]; omega) | (refine congrArg Nat.cast ?_; assumption) | skip))
      | false =>
        refine walkX ?_
        refine ⟨k + 1, by omega, by omega, ?_⟩
        rw [y2 rfl, z1 (by simp), e6, e7]
        (apply Sub.to [] [[(0,0)],[(1,0)],[(2,0)],[(5,0)]]; all_goals (repeat' (first | exact ToAll.nil | exact famsTo.nil | exact famTo.nil | exact ToL.nil | exact ToR.nil | refine ToAll.cons ?_ ?_ | refine famsTo.cons ?_ ?_ | refine wt10 ?_ ?_ | exact To.undef _ | exact To.sc _ | exact To.hslL rfl rfl | exact To.ptrO rfl rfl rfl | exact To.mrefO rfl | exact To.nil rfl rfl rfl | exact wt1 | exact To.nilL | refine To.int ?_ | refine To.bool ?_ | refine To.hslL rfl ?_ | refine wt2 rfl ?_ ?_ ?_ | refine To.tupL ?_ | refine To.aggL ?_ | refine To.cptrL ?_ | refine wt3 ?_ | refine wt4 ?_ | refine To.cloL ?_ ?_ | refine ToB.one ?_ | exact wt5 | refine wt6 ?_ | ((with_reducible apply ToL.consE); case e9 => rfl) | refine ToL.cons ?_ ?_ | exact wt7 | refine wt8 ?_ | exact wt11 | refine wt9 ?_ ?_ | refine wt12 ?_ | (with_reducible rfl) | assumption)); all_goals (first | rfl | assumption | (simp; done) | (simp; omega) | (rw [wrap_small (by omega) (by omega)]; done) | (rw [wrap_small (by omega) (by omega)]; omega) | (refine congrArg Nat.cast ?_; assumption) | skip))
    have hk : k = t.length := by omega
    subst hk
    have n1 := natsR_len (idxL u true t.length)
    have n2 := natsR_len (idxL u false t.length)
    generalize idxL u true t.length = K at *
    generalize idxL u false t.length = O at *
    refine walkX0 ?_
    refine AWP.sub (fr' := [(2, .ptr 0 0 0 0), (4, .ptr 1 0 0 0), (8, .sc (.int .i64 (n : Int))), (9, .list 1 (natsR K)), (10, .list 1 (natsR O))]) (H' := [[.cells 2 [[.list 1 (intsR (natI t)), .list 1 (boolsR w)]]], [.cells 2 [[.sc (.slice none 0 0), .sc (.slice none 0 0)]]]]) ?_ ?_
    · exact Sub.w [] [[(0,0)],[(1,0)]]
    refine AWP.dk mixed ?_
    refine walkR ?_
    refine DK.o rfl (dstep_mk (n := n) rfl (by omega) (by omega)) ?_
    refine walkR ?_
    refine DK.o rfl (dstep_mk (n := n) rfl (by omega) (by omega)) ?_
    refine walkR ?_
    refine DK.nil ⟨by kernel_rfl, ?_⟩
    refine walkX ?_
    have hz : List.replicate n (zrow [(1, Value.int .i64 0)]) = natsR (fillN n []) := by
      simp [fillN, natsR, zrow]
    refine AWP.loop (fun k : Nat => [(2, .ptr 0 0 0 0), (4, .ptr 1 0 0 0), (9, .list 1 (natsR K)), (10, .list 1 (natsR O)), (13, .hsl 2 0 0 n), (14, .hsl 3 0 0 n), (52, .sc (.int .i64 (n : Int))), (53, .sc (.int .i64 (k : Int)))])
      (fun k => [[.cells 2 [[.list 1 (intsR (natI t)), .list 1 (boolsR w)]]], [.cells 2 [[.sc (.slice none 0 0), .sc (.slice none 0 0)]]], [.cells 1 (natsR (fillN n (partN t O k)))], [.cells 1 (natsR (fillN n (partN t K k)))]])
      (fun k => k ≤ n) (fun k => n - k) 0 (Nat.zero_le _) ?_ ?_
    · show Sub _ _ _ _ _ [[.cells 2 [[.list 1 (intsR (natI t)), .list 1 (boolsR w)]]], [.cells 2 [[.sc (.slice none 0 0), .sc (.slice none 0 0)]]], [.cells 1 (natsR (fillN n []))], [.cells 1 (natsR (fillN n []))]]
      rw [← hz]
      exact Sub.wx [] [[(0,0)],[(1,0)],[(2,1)],[(2,3)]]
    rintro k hk
    refine walkX0 ?_
    refine AWP.condD rfl (fun h => ?_) (fun h => ?_)
    · have m1 := partN_succ t O k
      have m2 := partN_succ t K k
      have m3 := partN_len t O k
      have m4 := partN_len t K k
      have f1 := @fillN_set n (alG t (coordN t k) 0 O) (partN t O k) (by omega)
      have f2 := @fillN_set n (alG t (coordN t k) 0 K) (partN t K k) (by omega)
      rw [m3, ← m1] at f1
      rw [m4, ← m2] at f2
      have f3 : (natsR (fillN n (partN t O k))).length = n := by rw [natsR_len, fillN_len (by omega)]
      have f4 : (natsR (fillN n (partN t K k))).length = n := by rw [natsR_len, fillN_len (by omega)]
      have c1 := coordN_len t k
      have v1 := hal O (coordN t k) (by omega) c1 (coord_rng t k hs) hO
      have v2 := hal K (coordN t k) (by omega) c1 (coord_rng t k hs) hK
      have c2 : (natsR (coordN t k)).length = t.length := by rw [natsR_len, c1]
      obtain ⟨x1, hx1⟩ : ∃ v : Nat, (natsR (fillN n (partN t O k)))[k]? = some [.sc (.int .i64 (v : Int))] := ⟨_, by have := natsR_ix (fillN n (partN t O k)) k (by rw [fillN_len (by omega)]; omega); rwa [rowIx_nat] at this⟩
      obtain ⟨x2, hx2⟩ : ∃ v : Nat, (natsR (fillN n (partN t K k)))[k]? = some [.sc (.int .i64 (v : Int))] := ⟨_, by have := natsR_ix (fillN n (partN t K k)) k (by rw [fillN_len (by omega)]; omega); rwa [rowIx_nat] at this⟩
      have hp1 : PRs (natsR (fillN n (partN t O k))) := inferInstance
      have hp2 : PRs (natsR (fillN n (partN t K k))) := inferInstance
      generalize natsR (fillN n (partN t O k)) = R1 at *
      generalize natsR (fillN n (partN t K k)) = R2 at *
      refine walkX0 ?_
      refine Reg.c (Nat.zero_le _) rfl ((hco k (by omega) _).mono ?_)
      rintro res H' ⟨rfl, rfl⟩
      refine walkX0 ?_
      refine AWP.sub (fr' := [(2, .ptr 0 0 0 0), (4, .ptr 1 0 0 0), (9, .list 1 (natsR K)), (10, .list 1 (natsR O)), (13, .hsl 2 0 0 n), (14, .hsl 3 0 0 n), (52, .sc (.int .i64 (n : Int))), (53, .sc (.int .i64 (k : Int))), (15, .sc (.int .i64 (k : Int))), (16, .list 1 (natsR (coordN t k)))])
        (H' := [[.cells 2 [[.list 1 (intsR (natI t)), .list 1 (boolsR w)]]], [.cells 2 [[.sc (.slice none 0 0), .sc (.slice none 0 0)]]], [.cells 1 R1], [.cells 1 R2]]) ?_ ?_
      · (apply Sub.to [] [[(0,0)],[(1,0)],[(2,0)],[(3,0)]]; all_goals (repeat' (first | exact ToAll.nil | exact famsTo.nil | exact famTo.nil | exact ToL.nil | exact ToR.nil | refine ToAll.cons ?_ ?_ | refine famsTo.cons ?_ ?_ | refine wt10 ?_ ?_ | exact To.undef _ | exact To.sc _ | exact To.hslL rfl rfl | exact To.ptrO rfl rfl rfl | exact To.mrefO rfl | exact To.nil rfl rfl rfl | exact wt1 | exact To.nilL | refine To.int ?_ | refine To.bool ?_ | refine To.hslL rfl ?_ | refine wt2 rfl ?_ ?_ ?_ | refine To.tupL ?_ | refine To.aggL ?_ | refine To.cptrL ?_ | refine wt3 ?_ | refine wt4 ?_ | refine To.cloL ?_ ?_ | refine ToB.one ?_ | exact wt5 | refine wt6 ?_ | ((with_reducible apply ToL.consE); case e9 => rfl) | refine ToL.cons ?_ ?_ | exact wt7 | refine wt8 ?_ | exact wt11 | refine wt9 ?_ ?_ | refine wt12 ?_ | (with_reducible rfl) | assumption)); all_goals (first | rfl | assumption | (simp; done) | (simp; omega) | (rw [wrap_small (by omega) (by omega)]; done) | (rw [wrap_small (by omega) (by omega)]; omega) | (refine congrArg Nat.cast ?_; assumption) | skip))
      refine walkX ?_
      refine DK.nil ⟨by kernel_rfl, ?_⟩
      refine walkX ?_
      refine ⟨k + 1, by omega, by omega, ?_⟩
      rw [← f1, ← f2]
      (apply Sub.to [] [[(0,0)],[(1,0)],[(2,0)],[(3,0)]]; all_goals (repeat' (first | exact ToAll.nil | exact famsTo.nil | exact famTo.nil | exact ToL.nil | exact ToR.nil | refine ToAll.cons ?_ ?_ | refine famsTo.cons ?_ ?_ | refine wt10 ?_ ?_ | exact To.undef _ | exact To.sc _ | exact To.hslL rfl rfl | exact To.ptrO rfl rfl rfl | exact To.mrefO rfl | exact To.nil rfl rfl rfl | exact wt1 | exact To.nilL | refine To.int ?_ | refine To.bool ?_ | refine To.hslL rfl ?_ | refine wt2 rfl ?_ ?_ ?_ | refine To.tupL ?_ | refine To.aggL ?_ | refine To.cptrL ?_ | refine wt3 ?_ | refine wt4 ?_ | refine To.cloL ?_ ?_ | refine ToB.one ?_ | exact wt5 | refine wt6 ?_ | ((with_reducible apply ToL.consE); case e9 => rfl) | refine ToL.cons ?_ ?_ | exact wt7 | refine wt8 ?_ | exact wt11 | refine wt9 ?_ ?_ | refine wt12 ?_ | (with_reducible rfl) | assumption)); all_goals (first | rfl | assumption | (simp; done) | (simp; omega) | (rw [wrap_small (by omega) (by omega)]; done) | (rw [wrap_small (by omega) (by omega)]; omega) | (refine congrArg Nat.cast ?_; assumption) | skip))
    have hk : k = n := by omega
    subst hk
    have m3 := partN_len t O k
    have m4 := partN_len t K k
    rw [fillN_full m3, fillN_full m4]
    have m5 := natsR_len (partN t O k)
    have m6 := natsR_len (partN t K k)
    rw [m3] at m5
    rw [m4] at m6
    refine walkX ?_
    exact endW [] (⟨rfl, rfl⟩)
end Go.Proofs.Ytpkpfgpfkajkpaa
namespace Go.Proofs.Ytpkpfgpfkajkpaa
open Go.Av Go.Proofs
set_option maxRecDepth 20000
end Go.Proofs.Ytpkpfgpfkajkpaa
namespace Go.Proofs.Ytpkpfgpfkajkpaa
open Go.Av Go.Proofs
set_option maxRecDepth 20000
end Go.Proofs.Ytpkpfgpfkajkpaa
namespace Go.Av
end Go.Av
namespace Go.Proofs.Ytpkpfgpfkajkpaa
open Go.Av Go.Proofs
set_option maxRecDepth 20000
def someC (c L : List Nat) : List Nat := if L = [] then [0] else L.map fun i => c.getD i 0
end Go.Proofs.Ytpkpfgpfkajkpaa
namespace Go.Proofs.Ytpkpfgpfkajkpaa
open Go.Av Go.Proofs
set_option maxRecDepth 20000
def someN (t L : List Nat) : List Nat := if L = [] then [1] else L.map fun i => t.getD i 0
theorem someS_N (t L : List Nat) : someS t L = natI (someN t L) := by
  unfold someS someN
  split <;> rfl
theorem someN_len (t L : List Nat) (c : List Nat) (w : List Bool) : (someW w L).length = (someN t L).length ∧ (someC c L).length = (someN t L).length ∧ ((someN t L).length = L.length ∨ (someN t L).length = 1) := by
  unfold someN someW someC
  by_cases hL : L = []
  · subst hL
    exact ⟨rfl, rfl, .inr rfl⟩
  · rw [if_neg hL, if_neg hL, if_neg hL]
    exact ⟨by simp, by simp, .inl (by simp)⟩
end Go.Proofs.Ytpkpfgpfkajkpaa
namespace Go.Proofs.Ytpkpfgpfkajkpaa
open Go.Av Go.Proofs
set_option maxRecDepth 20000
theorem seek_in {g : Nat → Option (List Int)} {q : List Int → Prop} {lo hi : Nat} (h : ∀ d l, lo ≤ d → d < hi → g d = some l → q l) : ∀ (c d : Nat) (l : List Int), lo ≤ d → d + c ≤ hi → seek g d c = some l → q l
  | 0, d, l, _, _, e => by cases e
  | c + 1, d, l, h1, h2, e => by
    unfold seek at e
    split at e
    · rename_i l' e1
      injection e with e
      subst e
      exact h d _ h1 (by omega) e1
    · exact seek_in h c (d + 1) l (by omega) (by omega) e
theorem seek_out {g : Nat → Option (List Int)} : ∀ (c d : Nat), seek g d c = none → ∀ j, d ≤ j → j < d + c → g j = none
  | 0, d, _, j, h1, h2 => by omega
  | c + 1, d, e, j, h1, h2 => by
    unfold seek at e
    split at e
    · cases e
    · rename_i h
      by_cases hj : j = d
      · subst hj; exact h
      · exact seek_out c (d + 1) e j (by omega) (by omega)
def descN (m : Nat) : List Nat → Prop
  | [] => True
  | a :: t => a ≤ m ∧ descN a t
theorem fac_spec : ∀ (k n most : Nat) (l : List Int), facE k n most = some l → 1 ≤ n → ∃ t : List Nat, l = natI t ∧ t.length = k ∧ prodN t = n ∧ (∀ a ∈ t, 1 ≤ a) ∧ descN most t
  | 0, n, most, l, h, hn => by
    unfold facE at h
    split at h
    · rename_i e
      injection h with h
      subst h
      exact ⟨[], rfl, rfl, e.symm, fun _ h => (by cases h), trivial⟩
    · cases h
  | k + 1, n, most, l, h, hn => by
    refine seek_in (q := fun l => ∃ t : List Nat, l = natI t ∧ t.length = k + 1 ∧ prodN t = n ∧ (∀ a ∈ t, 1 ≤ a) ∧ descN most t) (lo := 1) (hi := min n most + 1) (fun d l h1 h2 h => ?_) _ _ _ (Nat.le_refl _) (by omega) h
    unfold headE at h
    split at h
    · rename_i hd
      split at h
      · rename_i r hr
        injection h with h
        subst h
        have hnd : 1 ≤ n / d := by
          have := Nat.min_le_left n most
          exact (Nat.le_div_iff_mul_le (by omega)).2 (by omega)
        obtain ⟨t, rfl, a1, a2, a3, a4⟩ := fac_spec k (n / d) d r hr hnd
        refine ⟨d :: t, rfl, by simp [a1], ?_, fun a ha => ?_, ?_, a4⟩
        · show d * prodN t = n
          rw [a2]
          exact Nat.mul_div_cancel' (Nat.dvd_of_mod_eq_zero hd)
        · rcases List.mem_cons.1 ha with rfl | ha
          · exact h1
          · exact a3 a ha
        · have := Nat.min_le_right n most
          omega
      · cases h
    · cases h
theorem fac_unit : ∀ (k m : Nat), 1 ≤ m → ∃ l, facE k 1 m = some l
  | 0, m, _ => ⟨[], rfl⟩
  | k + 1, m, hm => by
    obtain ⟨l, hl⟩ := fac_unit k 1 (Nat.le_refl _)
    have e : min 1 m = 1 := by omega
    refine ⟨(1 : Int) :: l, ?_⟩
    show seek (headE (facE k) 1) 1 (min 1 m) = _
    rw [e]
    exact seek_hit (headE_some rfl hl)
theorem fac_some (k n : Nat) (hn : 1 ≤ n) : ∃ l, facE (k + 1) n n = some l := by
  cases h : facE (k + 1) n n with
  | some l => exact ⟨l, rfl⟩
  | none =>
    have h : seek (headE (facE k) n) 1 (min n n) = none := h
    rw [Nat.min_self] at h
    have h1 := seek_out n 1 h n hn (by omega)
    obtain ⟨l, hl⟩ := fac_unit k n hn
    rw [← Nat.div_self (show 0 < n by omega)] at hl
    rw [headE_some (Nat.mod_self n) hl] at h1
    cases h1
theorem fac_grid (d n : Nat) (hn : 1 ≤ n) : ∃ t : List Nat, (facE (d + 1) n n).getD [] = natI t ∧ t.length = d + 1 ∧ prodN t = n ∧ (∀ a ∈ t, 1 ≤ a) ∧ descN n t := by
  obtain ⟨l, hl⟩ := fac_some d n hn
  obtain ⟨t, rfl, h⟩ := fac_spec (d + 1) n n l hl hn
  exact ⟨t, by rw [hl]; rfl, h⟩
theorem prod_pos : ∀ {t : List Nat}, (∀ a ∈ t, 1 ≤ a) → 1 ≤ prodN t
  | [], _ => Nat.le_refl _
  | a :: t, h => Nat.mul_pos (h a (by simp)) (prod_pos fun b hb => h b (by simp [hb]))
theorem le_prod : ∀ {t : List Nat} {a : Nat}, (∀ a ∈ t, 1 ≤ a) → a ∈ t → a ≤ prodN t
  | b :: t, a, h, ha => by
    have h0 := prod_pos fun c hc => h c (List.mem_cons_of_mem b hc)
    have hb := h b (by simp)
    rcases List.mem_cons.1 ha with rfl | ha
    · exact Nat.le_mul_of_pos_right _ h0
    · exact Nat.le_trans (le_prod (fun c hc => h c (by simp [hc])) ha) (Nat.le_mul_of_pos_left _ hb)
theorem cnt_of : ∀ {t : List Nat} {n : Nat}, (∀ a ∈ t, 1 ≤ a) → n * prodN t ≤ 64 → 1 ≤ n → cntG n (natI t) = n * prodN t
  | [], n, _, _, _ => (Nat.mul_one n).symm
  | a :: t, n, h, hp, hn => by
    have ha := h a (by simp)
    have h0 := prod_pos fun c hc => h c (List.mem_cons_of_mem a hc)
    have e : n * prodN (a :: t) = n * a * prodN t := (Nat.mul_assoc n a (prodN t)).symm
    rw [e] at hp ⊢
    have hna : n * a ≤ 64 := Nat.le_trans (Nat.le_mul_of_pos_right _ h0) hp
    have ha2 : a ≤ 64 := Nat.le_trans (Nat.le_mul_of_pos_left _ hn) hna
    show cntG n ((a : Int) :: natI t) = _
    unfold cntG
    rw [if_neg, Int.toNat_natCast]
    · exact cnt_of (fun c hc => h c (by simp [hc])) hp (Nat.mul_pos hn ha)
    · rw [← Int.natCast_mul]
      omega
theorem cntE_of {t : List Nat} {w : List Bool} (h : ∀ a ∈ t, 1 ≤ a) (hp : prodN t ≤ 64) (hw : w.length = t.length) (h1 : 1 ≤ t.length) (h4 : t.length ≤ 4) : cntE (natI t) w = prodN t := by
  unfold cntE
  rw [natI_len, if_neg (by omega), cnt_of h (by omega) (Nat.le_refl _), Nat.one_mul]
def rkN : Nat → List Nat → List Nat → Nat
  | n, a :: t, x :: c => rkN (n * a + x) t c
  | n, _, _ => n
def inG : List Nat → List Nat → Prop
  | a :: t, x :: c => x < a ∧ inG t c
  | [], [] => True
  | _, _ => False
theorem rkN_add : ∀ (t c : List Nat) (n : Nat), inG t c → rkN n t c = n * prodN t + rkN 0 t c
  | [], [], n, _ => by show n = n * 1 + 0; omega
  | a :: t, x :: c, n, h => by
    have h1 := rkN_add t c (n * a + x) h.2
    have h2 := rkN_add t c (0 * a + x) h.2
    show rkN (n * a + x) t c = n * (a * prodN t) + rkN (0 * a + x) t c
    rw [h1, h2, Nat.zero_mul, Nat.zero_add, Nat.add_mul, Nat.mul_assoc]
    omega
  | [], _ :: _, _, h => h.elim
  | _ :: _, [], _, h => h.elim
theorem rkN_lt : ∀ (t c : List Nat), inG t c → rkN 0 t c < prodN t
  | [], [], _ => Nat.one_pos
  | a :: t, x :: c, h => by
    have h1 := rkN_add t c (0 * a + x) h.2
    have h2 := rkN_lt t c h.2
    show rkN (0 * a + x) t c < a * prodN t
    rw [h1, Nat.zero_mul, Nat.zero_add]
    have : (x + 1) * prodN t ≤ a * prodN t := Nat.mul_le_mul_right _ h.1
    rw [Nat.add_mul] at this
    omega
  | [], _ :: _, h => h.elim
  | _ :: _, [], h => h.elim
theorem coord_per : ∀ (t : List Nat) (k v : Nat), (∀ a ∈ t, 1 ≤ a) → coordN t (k * prodN t + v) = coordN t v
  | [], _, _, _ => rfl
  | a :: t, k, v, h => by
    have ht : ∀ b ∈ t, 1 ≤ b := fun b hb => h b (by simp [hb])
    have hp := prod_pos ht
    show (k * (a * prodN t) + v) / prodN t % a :: coordN t (k * (a * prodN t) + v) = v / prodN t % a :: coordN t v
    have e1 : k * (a * prodN t) + v = (k * a) * prodN t + v := by rw [Nat.mul_assoc]
    rw [e1, coord_per t (k * a) v ht]
    congr 1
    rw [Nat.add_comm, Nat.add_mul_div_right _ _ hp, Nat.add_comm, Nat.mul_comm k a, Nat.mul_add_mod]
theorem coord_rk : ∀ (t c : List Nat), (∀ a ∈ t, 1 ≤ a) → inG t c → coordN t (rkN 0 t c) = c
  | [], [], _, _ => rfl
  | a :: t, x :: c, ha, h => by
    have ht : ∀ b ∈ t, 1 ≤ b := fun b hb => ha b (by simp [hb])
    have hp := prod_pos ht
    have h1 := rkN_add t c (0 * a + x) h.2
    have h2 := rkN_lt t c h.2
    rw [Nat.zero_mul, Nat.zero_add] at h1
    show rkN (0 * a + x) t c / prodN t % a :: coordN t (rkN (0 * a + x) t c) = _
    rw [Nat.zero_mul, Nat.zero_add, h1, coord_per t x _ ht, coord_rk t c ht h.2, Nat.add_comm, Nat.add_mul_div_right _ _ hp, Nat.div_eq_of_lt h2, Nat.zero_add, Nat.mod_eq_of_lt h.1]
  | [], _ :: _, _, h => h.elim
  | _ :: _, [], _, h => h.elim
theorem coord_in : ∀ (t : List Nat) (r : Nat), (∀ a ∈ t, 1 ≤ a) → inG t (coordN t r)
  | [], _, _ => trivial
  | a :: t, r, h => ⟨Nat.mod_lt _ (h a (by simp)), coord_in t r fun b hb => h b (by simp [hb])⟩
theorem rk_coord : ∀ (t : List Nat) (r : Nat), (∀ a ∈ t, 1 ≤ a) → rkN 0 t (coordN t r) = r % prodN t
  | [], r, _ => (Nat.mod_one r).symm
  | a :: t, r, h => by
    have ht : ∀ b ∈ t, 1 ≤ b := fun b hb => h b (by simp [hb])
    have h1 := rkN_add t (coordN t r) (0 * a + r / prodN t % a) (coord_in t r ht)
    show rkN (0 * a + r / prodN t % a) t (coordN t r) = r % (a * prodN t)
    rw [h1, rk_coord t r ht, Nat.zero_mul, Nat.zero_add, Nat.mul_comm a, Nat.mod_mul, Nat.mul_comm (r / prodN t % a)]
    omega
theorem rkG_in : ∀ (t c : List Nat) (w : List Bool) (n : Nat), w.length = t.length → inG t c → rkG n t w (natI c) = (rkN n t c : Nat)
  | [], [], [], n, _, _ => rfl
  | a :: t, x :: c, b :: w, n, hw, h => by
    have e : wrapI b (x : Int) a = x := by
      unfold wrapI
      split
      · exact Int.emod_eq_of_lt (by omega) (by have := h.1; omega)
      · rfl
    have := h.1
    show (if wrapI b (x : Int) a < 0 ∨ (a : Int) ≤ wrapI b (x : Int) a then (-2 : Int) else rkG (n * a + (wrapI b (x : Int) a).toNat) t w (natI c)) = _
    rw [e, if_neg (by omega), Int.toNat_natCast]
    exact rkG_in t c w _ (by simpa using hw) h.2
  | [], [], _ :: _, _, hw, _ => by simp at hw
  | _ :: _, _ :: _, [], _, hw, _ => by simp at hw
  | [], _ :: _, _, _, _, h => h.elim
  | _ :: _, [], _, _, _, h => h.elim
theorem rkG_set : ∀ (t c : List Nat) (w : List Bool) (n d : Nat) (x : Int), w.length = t.length → inG t c → d < t.length →
    rkG n t w ((natI c).set d x) = if wrapI (w.getD d false) x (t.getD d 0) < 0 ∨ (t.getD d 0 : Int) ≤ wrapI (w.getD d false) x (t.getD d 0) then -2 else ((rkN n t (c.set d (wrapI (w.getD d false) x (t.getD d 0)).toNat) : Nat) : Int)
  | a :: t, y :: c, b :: w, n, 0, x, hw, h, _ => by
    show (if wrapI b x a < 0 ∨ (a : Int) ≤ wrapI b x a then (-2 : Int) else rkG (n * a + (wrapI b x a).toNat) t w (natI c)) = if wrapI b x a < 0 ∨ (a : Int) ≤ wrapI b x a then -2 else ((rkN n (a :: t) ((wrapI b x a).toNat :: c) : Nat) : Int)
    split
    · rfl
    · rw [rkG_in t c w _ (by simpa using hw) h.2]
      rfl
  | a :: t, y :: c, b :: w, n, d + 1, x, hw, h, hd => by
    have e : wrapI b (y : Int) a = y := by
      unfold wrapI
      split
      · exact Int.emod_eq_of_lt (by omega) (by have := h.1; omega)
      · rfl
    have := h.1
    show (if wrapI b (y : Int) a < 0 ∨ (a : Int) ≤ wrapI b (y : Int) a then (-2 : Int) else rkG (n * a + (wrapI b (y : Int) a).toNat) t w ((natI c).set d x)) = _
    rw [e, if_neg (by omega), Int.toNat_natCast, rkG_set t c w _ d x (by simpa using hw) h.2 (by simpa using hd)]
    simp only [List.getD_cons_succ]
    rfl
  | [], _, _, _, _, _, _, _, hd => by simp at hd
  | _ :: _, [], _, _, _, _, _, h, _ => h.elim
  | _ :: _, _ :: _, [], _, _, _, hw, _, _ => by simp at hw
theorem inG_set : ∀ {t c : List Nat} {d x : Nat}, inG t c → x < t.getD d 0 → inG t (c.set d x)
  | a :: t, y :: c, 0, x, h, hx => ⟨hx, h.2⟩
  | a :: t, y :: c, d + 1, x, h, hx => ⟨h.1, inG_set h.2 (by simpa using hx)⟩
  | [], [], d, x, h, hx => by simp at hx
  | [], _ :: _, _, _, h, _ => h.elim
  | _ :: _, [], _, _, h, _ => h.elim
end Go.Proofs.Ytpkpfgpfkajkpaa
namespace Go.Proofs.Ytpkpfgpfkajkpaa
open Go.Av Go.Proofs
set_option maxRecDepth 20000
theorem getD_lt : ∀ {t c : List Nat} {d : Nat}, inG t c → d < t.length → c.getD d 0 < t.getD d 0
  | a :: t, y :: c, 0, h, _ => h.1
  | a :: t, y :: c, d + 1, h, hd => by
    have := getD_lt (d := d) h.2 (by simpa using hd)
    simpa using this
  | [], _, _, _, hd => by simp at hd
  | _ :: _, [], _, h, _ => h.elim
theorem moved_rk {t c : List Nat} {w : List Bool} {d r : Nat} {y : Int} (_ : ∀ a ∈ t, 1 ≤ a) (hw : w.length = t.length) (hc : inG t c) (hr : coordN t r = c) (hd : d < t.length) :
    movedE t w r d y = if wrapI (w.getD d false) ((c.getD d 0 : Nat) + y) (t.getD d 0) < 0 ∨ (t.getD d 0 : Int) ≤ wrapI (w.getD d false) ((c.getD d 0 : Nat) + y) (t.getD d 0) then -2
      else ((rkN 0 t (c.set d (wrapI (w.getD d false) ((c.getD d 0 : Nat) + y) (t.getD d 0)).toNat) : Nat) : Int) := by
  unfold movedE
  rw [hr]
  exact rkG_set t c w 0 d _ hw hc hd
theorem getD_pos {t : List Nat} {d : Nat} (ht : ∀ a ∈ t, 1 ≤ a) (hd : d < t.length) : 1 ≤ t.getD d 0 := by
  rw [show t.getD d 0 = t[d] by simp [hd]]
  exact ht _ (List.getElem_mem hd)
end Go.Proofs.Ytpkpfgpfkajkpaa
namespace Go.Proofs.Ytpkpfgpfkajkpaa
open Go.Av Go.Proofs
set_option maxRecDepth 20000
structure GoodG (t : List Nat) (w : List Bool) : Prop where
  pos : ∀ a ∈ t, 1 ≤ a
  prod : prodN t ≤ 64
  len : w.length = t.length
  one : 1 ≤ t.length
  four : t.length ≤ 4
theorem GoodG.chk {t : List Nat} {w : List Bool} (g : GoodG t w) {r : Nat} (hr : r < prodN t) : chkE (natI t) w r = 0 := by
  unfold chkE
  rw [cntE_of g.pos g.prod g.len g.one g.four, if_neg (by omega), if_neg (by omega)]
theorem GoodG.shiftA {t : List Nat} {w : List Bool} (g : GoodG t w) {r d : Nat} {b : Int} (hr : r < prodN t) (hd : d < t.length) : shiftA (natI t) w r d b = (shiftE t w r d b, 0) := by
  unfold Proofs.Ytpkpfgpfkajkpaa.shiftA
  rw [if_pos (g.chk hr), natI_len, if_neg (by omega), nats_I, Int.toNat_natCast, Int.toNat_natCast]
theorem GoodG.shift_ok {t : List Nat} {w : List Bool} (g : GoodG t w) {r d : Nat} {b : Int} (hr : r < prodN t) (hd : d < t.length) (hb : -9223372036854775808 ≤ b ∧ b ≤ 9223372036854775807) :
    PureRun Try.prog 28 [.agg [.list 1 (intsR (natI t)), .list 1 (boolsR w)], .sc (.int .i64 (r : Int)), .sc (.int .i64 (d : Int)), .sc (.int .i64 b)] (.tup [.sc (.int .i64 (shiftE t w r d b).1), .sc (.int .i64 (shiftE t w r d b).2), .sc (.int .i64 0)]) := by
  have h := shiftX_ok (natI t) w r d b hb
  rw [g.shiftA hr hd] at h
  exact h
end Go.Proofs.Ytpkpfgpfkajkpaa
namespace Go.Proofs.Ytpkpfgpfkajkpaa
open Go.Av Go.Proofs
set_option maxRecDepth 20000
theorem prod_snoc : ∀ (l : List Nat) (a : Nat), prodN (l ++ [a]) = prodN l * a
  | [], a => by show a * 1 = 1 * a; omega
  | b :: l, a => by show b * prodN (l ++ [a]) = b * prodN l * a; rw [prod_snoc l a, Nat.mul_assoc]
theorem idx_pre {u : List Bool} {p : Bool} {i : Nat} (hi : i < u.length) (hp : u[i] = p) : ∀ n, i < n → ∃ rest, idxL u p n = idxL u p i ++ i :: rest
  | 0, h => by omega
  | n + 1, h => by
    by_cases he : n = i
    · subst he
      exact ⟨[], idxL_yes hi hp⟩
    · obtain ⟨rest, hr⟩ := idx_pre hi hp n (by omega)
      unfold idxL at hr ⊢
      rw [List.range_succ, List.filter_append, hr, List.append_assoc]
      exact ⟨_, rfl⟩
theorem idx_at {u : List Bool} {p : Bool} {i n : Nat} (hi : i < u.length) (hp : u[i] = p) (hn : i < n) : (idxL u p n)[(idxL u p i).length]? = some i := by
  obtain ⟨rest, hr⟩ := idx_pre hi hp n hn
  rw [hr, List.getElem?_append_right (Nat.le_refl _), Nat.sub_self]
  rfl
theorem idx_nodup (u : List Bool) (p : Bool) (n : Nat) : (idxL u p n).Nodup := List.nodup_range.sublist List.filter_sublist
theorem idx_mem {u : List Bool} {p : Bool} {n i : Nat} : i ∈ idxL u p n ↔ i < n ∧ (u.getD i false == p) = true := by
  unfold idxL
  rw [List.mem_filter, List.mem_range]
theorem prod_parts {t : List Nat} {u : List Bool} (hu : u.length = t.length) : ∀ k, k ≤ t.length → prodN ((idxL u true k).map fun i => t.getD i 0) * prodN ((idxL u false k).map fun i => t.getD i 0) = prodN (t.take k)
  | 0, _ => rfl
  | k + 1, h => by
    have ih := prod_parts hu k (by omega)
    have hk : k < u.length := by omega
    have ht : prodN (t.take (k + 1)) = prodN (t.take k) * t.getD k 0 := by
      rw [List.take_succ_eq_append_getElem (by omega), prod_snoc, show t.getD k 0 = t[k] by simp [show k < t.length by omega]]
    rw [ht, ← ih]
    by_cases hp : u[k] = true
    · rw [idxL_yes hk hp, idxL_no hk (by rw [hp]; decide), List.map_append, List.map_cons, List.map_nil, prod_snoc]
      simp only [Nat.mul_assoc, Nat.mul_comm, Nat.mul_left_comm]
    · have hp2 : u[k] = false := by simpa using hp
      rw [idxL_yes hk hp2, idxL_no hk hp, List.map_append, List.map_cons, List.map_nil, prod_snoc]
      simp only [Nat.mul_assoc]
theorem prod_someN (t L : List Nat) : prodN (someN t L) = prodN (L.map fun i => t.getD i 0) := by
  unfold someN
  split
  · rename_i h; subst h; rfl
  · rfl
theorem someN_prod {t : List Nat} {u : List Bool} (hu : u.length = t.length) : prodN (someN t (idxL u true t.length)) * prodN (someN t (idxL u false t.length)) = prodN t := by
  rw [prod_someN, prod_someN, prod_parts hu _ (Nat.le_refl _), List.take_length]
theorem al_rk (t c : List Nat) : ∀ (L : List Nat) (n : Nat), alG t c n L = rkN n (L.map fun i => t.getD i 0) (L.map fun i => c.getD i 0)
  | [], _ => rfl
  | _ :: L, _ => al_rk t c L _
theorem al_some (t c L : List Nat) : alG t c 0 L = rkN 0 (someN t L) (someC c L) := by
  unfold someN someC
  by_cases h : L = []
  · subst h; rfl
  · rw [if_neg h, if_neg h, al_rk]
theorem some_in {t c L : List Nat} (h : ∀ i ∈ L, c.getD i 0 < t.getD i 0) : inG (someN t L) (someC c L) := by
  have key : ∀ L : List Nat, (∀ i ∈ L, c.getD i 0 < t.getD i 0) → inG (L.map fun i => t.getD i 0) (L.map fun i => c.getD i 0) := by
    intro L
    induction L with
    | nil => exact fun _ => trivial
    | cons i L ih => exact fun h => ⟨h i (by simp), ih fun j hj => h j (by simp [hj])⟩
  unfold someN someC
  by_cases hL : L = []
  · rw [if_pos hL, if_pos hL]
    exact ⟨Nat.one_pos, trivial⟩
  · rw [if_neg hL, if_neg hL]
    exact key L h
theorem someN_pos {t L : List Nat} (ht : ∀ a ∈ t, 1 ≤ a) (hL : ∀ i ∈ L, i < t.length) : ∀ a ∈ someN t L, 1 ≤ a := by
  unfold someN
  split
  · intro a ha
    rw [List.mem_singleton.1 ha]
    exact Nat.le_refl _
  · intro a ha
    obtain ⟨i, hi, rfl⟩ := List.mem_map.1 ha
    exact getD_pos ht (hL i hi)
structure PartG (t : List Nat) (w u : List Bool) : Prop where
  g : GoodG t w
  hu : u.length = t.length
theorem PartG.lt {t : List Nat} {w u : List Bool} (_ : PartG t w u) {p : Bool} : ∀ i ∈ idxL u p t.length, i < t.length := idxL_lt
theorem PartG.cin {t : List Nat} {w u : List Bool} (h : PartG t w u) {c : List Nat} (hc : inG t c) {p : Bool} : inG (someN t (idxL u p t.length)) (someC c (idxL u p t.length)) :=
  some_in fun i hi => getD_lt hc (h.lt i hi)
theorem PartG.sub {t : List Nat} {w u : List Bool} (h : PartG t w u) : GoodG (someN t (idxL u true t.length)) (someW w (idxL u true t.length)) := by
  have hp := someN_prod h.hu
  have h1 := prod_pos (someN_pos h.g.pos (h.lt (p := false)))
  have h2 := idxL_len u true t.length
  obtain ⟨a1, _, a3⟩ := someN_len t (idxL u true t.length) [] w
  refine ⟨someN_pos h.g.pos h.lt, ?_, a1, ?_, ?_⟩
  · have := h.g.prod
    have : prodN (someN t (idxL u true t.length)) ≤ prodN t := by rw [← hp]; exact Nat.le_mul_of_pos_right _ h1
    omega
  · unfold someN
    split
    · exact Nat.le_refl _
    · rename_i hne
      rw [List.length_map]
      exact List.length_pos_iff.2 hne
  · have := h.g.four
    omega
theorem PartG.part_lt {t : List Nat} {w u : List Bool} (h : PartG t w u) {p : Bool} {r : Nat} : alG t (coordN t r) 0 (idxL u p t.length) < prodN (someN t (idxL u p t.length)) := by
  rw [al_some]
  exact rkN_lt _ _ (h.cin (coord_in t r h.g.pos))
theorem some_eq {c c' L : List Nat} (h : someC c L = someC c' L) : ∀ i ∈ L, c.getD i 0 = c'.getD i 0 := by
  intro i hi
  unfold someC at h
  have hne : L ≠ [] := fun e => by rw [e] at hi; cases hi
  rw [if_neg hne, if_neg hne] at h
  obtain ⟨k, hk, rfl⟩ := List.mem_iff_getElem.1 hi
  have := congrArg (fun l => l[k]?) h
  simpa [hk] using this
theorem PartG.inj {t : List Nat} {w u : List Bool} (h : PartG t w u) {r r' : Nat} (hr : r < prodN t) (hr' : r' < prodN t)
    (h1 : alG t (coordN t r) 0 (idxL u false t.length) = alG t (coordN t r') 0 (idxL u false t.length)) (h2 : alG t (coordN t r) 0 (idxL u true t.length) = alG t (coordN t r') 0 (idxL u true t.length)) : r = r' := by
  have hc := coord_in t r h.g.pos
  have hc' := coord_in t r' h.g.pos
  have key : ∀ p, alG t (coordN t r) 0 (idxL u p t.length) = alG t (coordN t r') 0 (idxL u p t.length) → someC (coordN t r) (idxL u p t.length) = someC (coordN t r') (idxL u p t.length) := fun p e => by
    rw [al_some, al_some] at e
    have hpos := someN_pos h.g.pos (h.lt (p := p))
    have := congrArg (coordN (someN t (idxL u p t.length))) e
    rwa [coord_rk _ _ hpos (h.cin hc), coord_rk _ _ hpos (h.cin hc')] at this
  have e1 := some_eq (key false h1)
  have e2 := some_eq (key true h2)
  have e : coordN t r = coordN t r' := by
    refine List.ext_getElem (by rw [coordN_len, coordN_len]) fun i q1 q2 => ?_
    rw [coordN_len] at q1 q2
    have q1' : i < (coordN t r).length := by rw [coordN_len]; exact q1
    have q2' : i < (coordN t r').length := by rw [coordN_len]; exact q2
    have : (coordN t r).getD i 0 = (coordN t r').getD i 0 := by
      by_cases hp : (u.getD i false == true) = true
      · exact e2 i (idx_mem.2 ⟨q1, hp⟩)
      · exact e1 i (idx_mem.2 ⟨q1, by revert hp; cases u.getD i false <;> simp⟩)
    simpa [q1', q2'] using this
  have := rk_coord t r h.g.pos
  have := rk_coord t r' h.g.pos
  rw [Nat.mod_eq_of_lt hr] at *
  rw [Nat.mod_eq_of_lt hr'] at *
  rw [e] at *
  omega
theorem some_set {c L : List Nat} {k i z : Nat} (hn : L.Nodup) (hk : L[k]? = some i) (hi : i < c.length) : someC (c.set i z) L = (someC c L).set k z := by
  obtain ⟨hkl, he⟩ := List.getElem?_eq_some_iff.1 hk
  have hne : L ≠ [] := fun e => by rw [e] at hkl; simp at hkl
  unfold someC
  rw [if_neg hne, if_neg hne]
  refine List.ext_getElem (by simp) fun j h1 h2 => ?_
  simp only [List.length_map] at h1
  simp only [List.getElem_map, List.getElem_set]
  by_cases hjk : k = j
  · subst hjk
    rw [if_pos rfl, he]
    simp [hi]
  · rw [if_neg hjk]
    have hne2 : i ≠ L[j] := fun e => hjk ((List.getElem?_inj hkl hn).1 (by rw [hk, List.getElem?_eq_getElem h1, e]))
    simp only [List.getD_eq_getElem?_getD, List.getElem?_set]
    rw [if_neg hne2]
theorem some_same {c L : List Nat} {i z : Nat} (hi : i ∉ L) : someC (c.set i z) L = someC c L := by
  unfold someC
  split
  · rfl
  · refine List.map_congr_left fun j hj => ?_
    have hne : i ≠ j := fun e => hi (by rw [e]; exact hj)
    simp only [List.getD_eq_getElem?_getD, List.getElem?_set]
    rw [if_neg hne]
theorem PartG.near {t : List Nat} {w u : List Bool} (h : PartG t w u) {r i : Nat} (hi : i < t.length) (hp : u[i]'(by rw [h.hu]; exact hi) = true) (hr : r < prodN t) :
    ((shiftE t w r i 1).2 = -2 ∧ (shiftE (someN t (idxL u true t.length)) (someW w (idxL u true t.length)) (alG t (coordN t r) 0 (idxL u true t.length)) (idxL u true i).length 1).2 = -2) ∨
    ∃ q : Nat, q < prodN t ∧ (shiftE t w r i 1).2 = q ∧ alG t (coordN t q) 0 (idxL u false t.length) = alG t (coordN t r) 0 (idxL u false t.length) ∧
      (shiftE (someN t (idxL u true t.length)) (someW w (idxL u true t.length)) (alG t (coordN t r) 0 (idxL u true t.length)) (idxL u true i).length 1).2 = ((alG t (coordN t q) 0 (idxL u true t.length) : Nat) : Int) := by
  have hc := coord_in t r h.g.pos
  have hcl := coordN_len t r
  have hat := idx_at (p := true) (by rw [h.hu]; exact hi) hp hi
  have hnd := idx_nodup u true t.length
  have hnO : i ∉ idxL u false t.length := fun hm => by
    have := (idx_mem.1 hm).2
    rw [show u.getD i false = u[i]'(by rw [h.hu]; exact hi) by simp [h.hu, hi], hp] at this
    cases this
  have hposK := someN_pos h.g.pos (h.lt (p := true))
  have hcK := h.cin hc (p := true)
  have hrkK := coord_rk _ _ hposK hcK
  have hsub := h.sub
  have hkl : (idxL u true i).length < (idxL u true t.length).length := (List.getElem?_eq_some_iff.1 hat).1
  have hne : idxL u true t.length ≠ [] := fun e => by rw [e] at hkl; simp at hkl
  have e1 : (someN t (idxL u true t.length)).getD (idxL u true i).length 0 = t.getD i 0 := by
    unfold someN
    rw [if_neg hne]
    simp [List.getD_eq_getElem?_getD, List.getElem?_map, hat]
  have e2 : (someW w (idxL u true t.length)).getD (idxL u true i).length false = w.getD i false := by
    unfold someW
    rw [if_neg hne]
    simp [List.getD_eq_getElem?_getD, List.getElem?_map, hat]
  have e3 : (someC (coordN t r) (idxL u true t.length)).getD (idxL u true i).length 0 = (coordN t r).getD i 0 := by
    unfold someC
    rw [if_neg hne]
    simp [List.getD_eq_getElem?_getD, List.getElem?_map, hat]
  have hl : (idxL u true i).length < (someN t (idxL u true t.length)).length := by
    unfold someN
    rw [if_neg hne, List.length_map]
    exact hkl
  rw [al_some t (coordN t r) (idxL u true t.length)]
  have m1 := fun y => moved_rk (r := r) (y := y) h.g.pos h.g.len hc rfl hi
  have m2 := fun y => moved_rk (y := y) hposK hsub.len hcK hrkK hl
  simp only [e1, e2, e3] at m2
  unfold shiftE
  rw [e1, e2]
  by_cases hg : wrapI (w.getD i false) 1 (t.getD i 0) ≤ -(t.getD i 0 : Int) ∨ (t.getD i 0 : Int) ≤ wrapI (w.getD i false) 1 (t.getD i 0)
  · rw [if_pos hg, if_pos hg]
    exact .inl ⟨rfl, rfl⟩
  rw [if_neg hg, if_neg hg]
  dsimp only
  rw [m1, m2]
  generalize wrapI (w.getD i false) (((coordN t r).getD i 0 : Nat) + wrapI (w.getD i false) 1 (t.getD i 0)) (t.getD i 0) = z at *
  by_cases hz : z < 0 ∨ (t.getD i 0 : Int) ≤ z
  · rw [if_pos hz, if_pos hz]
    exact .inl ⟨rfl, rfl⟩
  rw [if_neg hz, if_neg hz]
  have hin : inG t ((coordN t r).set i z.toNat) := inG_set hc (by omega)
  have hq := coord_rk t _ h.g.pos hin
  refine .inr ⟨rkN 0 t ((coordN t r).set i z.toNat), rkN_lt _ _ hin, rfl, ?_, ?_⟩
  · rw [hq, al_some, al_some, some_same hnO]
  · rw [hq, al_some, some_set hnd hat (by omega)]
end Go.Proofs.Ytpkpfgpfkajkpaa
