import Derived.Test.YtpkpfgpfkajkpaaGCoV2
import Derived.Test.YtpkpfgpfkajkpaaGCoD1
namespace Go.Proofs.Ytpkpfgpfkajkpaa
open Go.Av Go.Proofs
set_option maxRecDepth 20000
def nats (s : List Int) : List Nat := s.map Int.toNat
theorem nats_I (t : List Nat) : nats (natI t) = t := by
  simp only [nats, natI, List.map_map]
  exact (List.map_congr_left fun n _ => Int.toNat_natCast n).trans (List.map_id' t)
def chkE (s : List Int) (w : List Bool) (r : Int) : Int := if cntE s w = 0 then 2 else if r < 0 ∨ (cntE s w : Int) ≤ r then 11 else 0
theorem chk0 {s : List Int} {w : List Bool} {r : Int} (h : chkE s w r = 0) : ∃ (t : List Nat) (q : Nat), s = natI t ∧ nats s = t ∧ r = q ∧ q < 64 ∧ w.length = t.length ∧ 1 ≤ t.length ∧ t.length ≤ 4 ∧ (∀ a ∈ t, 1 ≤ a ∧ a ≤ 64) ∧ cntE s w = prodN t ∧ q < prodN t := by
  unfold chkE at h
  split at h
  · cases h
  · split at h
    · cases h
    · rename_i h1 h2
      obtain ⟨t, rfl, a1, a2, a3, a4, a5, a6⟩ := cntE_good (s := s) (w := w) (by omega)
      exact ⟨t, r.toNat, rfl, nats_I t, by omega, by omega, a1, a2, a3, a4, a5, by omega⟩
set_option maxHeartbeats 4000000 in
theorem chk_ok (s : List Int) (w : List Bool) (r : Int) : PureRun Try.prog 73 [gridV s w, .sc (.int .i64 r)] (.sc (.int .i64 (chkE s w r))) := by
  refine PureRun.of (allPure_cons (grid_pure _ _) (allPure_cons (.sc _) allPure_nil)) (.sc _) (CallOK.mono (R := fun res H' => res = .sc (.int .i64 (chkE s w r)) ∧ H' = []) ?_ fun _ _ h => h.1)
  have hc := count_ok s w
  unfold gridV at hc ⊢
  refine CallOK.of cF73 ?_ (Nat.le_of_ble_eq_true rfl)
  unfold chkE
  generalize cntE s w = n at *
  by_cases h1 : n = 0
  · subst h1
    refine walkX ?_
    exact endW [] (⟨rfl, rfl⟩)
  rw [if_neg h1]
  by_cases h2 : r < 0
  · rw [if_pos (.inl h2)]
    refine walkX ?_
    rw [decide_eq_false h1]
    refine walkX ?_
    rw [decide_eq_true h2]
    refine walkX ?_
    exact endW [] (⟨rfl, rfl⟩)
  obtain ⟨q, rfl⟩ : ∃ q : Nat, r = q := ⟨r.toNat, by omega⟩
  by_cases h3 : n ≤ q
  · rw [if_pos (.inr (by omega))]
    refine walkX ?_
    rw [decide_eq_false h1]
    refine walkX ?_
    rw [decide_eq_true h3]
    refine walkX ?_
    exact endW [] (⟨rfl, rfl⟩)
  · rw [if_neg (by omega)]
    refine walkX ?_
    rw [decide_eq_false h1]
    refine walkX ?_
    rw [decide_eq_false h3]
    refine walkX ?_
    exact endW [] (⟨rfl, rfl⟩)
def gA (e : Int) (o : List Int) : Int × List Int := if e = 0 then (0, o) else (e, [])
def coordsA (s : List Int) (w : List Bool) (r : Int) : Int × List Int := gA (chkE s w r) (natI (coordN (nats s) r.toNat))
set_option maxHeartbeats 4000000 in
theorem coordsX_ok (s : List Int) (w : List Bool) (r : Int) : PureRun Try.prog 25 [gridV s w, .sc (.int .i64 r)] (.tup [.list 1 (intsR (coordsA s w r).2), .sc (.int .i64 (coordsA s w r).1)]) := by
  refine PureRun.of (allPure_cons (grid_pure _ _) (allPure_cons (.sc _) allPure_nil)) (.tup _ (allPure_cons (.list _ _ (prs _)) (allPure_cons (.sc _) allPure_nil))) (CallOK.mono (R := fun res H' => res = .tup [.list 1 (intsR (coordsA s w r).2), .sc (.int .i64 (coordsA s w r).1)] ∧ H' = []) ?_ fun _ _ h => h.1)
  refine CallOK.of cF25 ?_ (Nat.le_of_ble_eq_true rfl)
  have hc := chk_ok s w r
  unfold coordsA
  by_cases h : chkE s w r = 0
  · rw [h] at hc
    obtain ⟨t, q, rfl, e1, rfl, hq, hw, h1, h4, hs, _⟩ := chk0 h
    rw [e1, Int.toNat_natCast]
    have hco := coords_at t w q h4 hs (by omega)
    have e2 : gA (chkE (natI t) w q) (natI (coordN t q)) = (0, natI (coordN t q)) := if_pos h
    rw [e2, ← natsR_I]
    unfold gridV at hc hco ⊢
    refine walkX ?_
    refine Reg.c (Nat.zero_le _) rfl ((hco _).mono ?_)
    rintro res H' ⟨rfl, rfl⟩
    refine walkX ?_
    have e4 : (natsR (coordN t q)).length = t.length := by rw [natsR_len, coordN_len]
    exact endW [] (⟨rfl, rfl⟩)
  · have e2 : gA (chkE s w r) (natI (coordN (nats s) r.toNat)) = (chkE s w r, []) := if_neg h
    rw [e2]
    unfold gridV at hc ⊢
    refine walkX ?_
    rw [show (chkE s w r != 0) = true from by simpa using h]
    refine walkX ?_
    exact endW [] (⟨rfl, rfl⟩)
def rankA (s : List Int) (w : List Bool) (c : List Int) : Int × Int := if cntE s w = 0 then (0, 2) else if c.length ≠ s.length then (0, 26) else if rkG 0 (nats s) w c = -2 then (0, 3) else (rkG 0 (nats s) w c, 0)
set_option maxHeartbeats 4000000 in
theorem rankX_ok (s : List Int) (w : List Bool) (c : List Int) : PureRun Try.prog 26 [gridV s w, .list 1 (intsR c)] (.tup [.sc (.int .i64 (rankA s w c).1), .sc (.int .i64 (rankA s w c).2)]) := by
  refine PureRun.of (allPure_cons (grid_pure _ _) (allPure_cons (.list _ _ (prs _)) allPure_nil)) (.tup _ (allPure_cons (.sc _) (allPure_cons (.sc _) allPure_nil))) (CallOK.mono (R := fun res H' => res = .tup [.sc (.int .i64 (rankA s w c).1), .sc (.int .i64 (rankA s w c).2)] ∧ H' = []) ?_ fun _ _ h => h.1)
  refine CallOK.of cF26 ?_ (Nat.le_of_ble_eq_true rfl)
  have hc := count_ok s w
  have l1 := intsR_len s
  have l2 := intsR_len c
  by_cases h : cntE s w = 0
  · have e : rankA s w c = (0, 2) := if_pos h
    rw [h] at hc
    rw [e]
    unfold gridV at hc ⊢
    refine walkX ?_
    exact endW [] (⟨rfl, rfl⟩)
  obtain ⟨t, rfl, hw, h1, h4, hs, _, _⟩ := cntE_good (s := s) (w := w) (by omega)
  rw [natI_len] at l1
  have e0 : rankA (natI t) w c = (if c.length ≠ (natI t).length then (0, 26) else if rkG 0 (nats (natI t)) w c = -2 then (0, 3) else (rkG 0 (nats (natI t)) w c, 0)) := if_neg h
  rw [natI_len, nats_I] at e0
  generalize cntE (natI t) w = n at *
  by_cases hl : c.length = t.length
  case neg =>
    rw [if_pos hl] at e0
    rw [e0]
    unfold gridV at hc ⊢
    refine walkX ?_
    rw [decide_eq_false h]
    refine walkX ?_
    rw [l1, l2, decide_eq_false hl]
    refine walkX ?_
    exact endW [] (⟨rfl, rfl⟩)
  have hrk := rank_ok t w c hw hl h4 hs
  rw [if_neg (by omega)] at e0
  generalize rkG 0 t w c = k at *
  unfold gridV at hc hrk ⊢
  by_cases hk : k = -2
  · subst hk
    rw [if_pos rfl] at e0
    rw [e0]
    refine walkX ?_
    rw [decide_eq_false h]
    refine walkX ?_
    rw [l1, l2, decide_eq_true hl]
    refine walkX ?_
    exact endW [] (⟨rfl, rfl⟩)
  · rw [if_neg hk] at e0
    rw [e0]
    refine walkX ?_
    rw [decide_eq_false h]
    refine walkX ?_
    rw [l1, l2, decide_eq_true hl]
    refine walkX ?_
    rw [beq_false_of_ne hk]
    refine walkX ?_
    exact endW [] (⟨rfl, rfl⟩)
def shiftA (s : List Int) (w : List Bool) (r d b : Int) : (Int × Int) × Int := if chkE s w r = 0 then (if d < 0 ∨ (s.length : Int) ≤ d then ((0, 0), 3) else (shiftE (nats s) w r.toNat d.toNat b, 0)) else ((0, 0), chkE s w r)
set_option maxHeartbeats 4000000 in
theorem shiftX_ok (s : List Int) (w : List Bool) (r d b : Int) (hb : -9223372036854775808 ≤ b ∧ b ≤ 9223372036854775807) :
    PureRun Try.prog 28 [gridV s w, .sc (.int .i64 r), .sc (.int .i64 d), .sc (.int .i64 b)] (.tup [.sc (.int .i64 (shiftA s w r d b).1.1), .sc (.int .i64 (shiftA s w r d b).1.2), .sc (.int .i64 (shiftA s w r d b).2)]) := by
  refine PureRun.of (allPure_cons (grid_pure _ _) (allPure_cons (.sc _) (allPure_cons (.sc _) (allPure_cons (.sc _) allPure_nil)))) (.tup _ (allPure_cons (.sc _) (allPure_cons (.sc _) (allPure_cons (.sc _) allPure_nil)))) (CallOK.mono (R := fun res H' => res = .tup [.sc (.int .i64 (shiftA s w r d b).1.1), .sc (.int .i64 (shiftA s w r d b).1.2), .sc (.int .i64 (shiftA s w r d b).2)] ∧ H' = []) ?_ fun _ _ h => h.1)
  refine CallOK.of cF28 ?_ (Nat.le_of_ble_eq_true rfl)
  have hc := chk_ok s w r
  have l1 := intsR_len s
  by_cases h : chkE s w r = 0
  case neg =>
    have e : shiftA s w r d b = ((0, 0), chkE s w r) := if_neg h
    rw [e]
    unfold gridV at hc ⊢
    refine walkX ?_
    rw [show (chkE s w r != 0) = true from by simpa using h]
    refine walkX ?_
    exact endW [] (⟨rfl, rfl⟩)
  have e : shiftA s w r d b = (if d < 0 ∨ (s.length : Int) ≤ d then ((0, 0), 3) else (shiftE (nats s) w r.toNat d.toNat b, 0)) := if_pos h
  obtain ⟨t, q, rfl, e1, rfl, hq, hw, h1, h4, hs, _⟩ := chk0 h
  rw [h] at hc
  rw [e1, Int.toNat_natCast, natI_len] at e
  rw [natI_len] at l1
  by_cases d1 : d < 0
  · rw [if_pos (.inl d1)] at e
    rw [e]
    unfold gridV at hc ⊢
    refine walkX ?_
    rw [decide_eq_true d1]
    refine walkX ?_
    exact endW [] (⟨rfl, rfl⟩)
  obtain ⟨k, rfl⟩ : ∃ k : Nat, d = k := ⟨d.toNat, by omega⟩
  by_cases d2 : t.length ≤ k
  · rw [if_pos (.inr (by omega))] at e
    rw [e]
    unfold gridV at hc ⊢
    refine walkX ?_
    rw [l1, decide_eq_true d2]
    refine walkX ?_
    exact endW [] (⟨rfl, rfl⟩)
  rw [if_neg (by omega), Int.toNat_natCast] at e
  rw [e]
  have hsh := shift_ok t w q k b hw h4 hs (by omega) (by omega) hb
  generalize shiftE t w q k b = p at *
  unfold gridV at hc hsh ⊢
  refine walkX ?_
  rw [l1, decide_eq_false d2]
  refine walkX ?_
  exact endW [] (⟨rfl, rfl⟩)
def nearN (t : List Nat) (w : List Bool) (r k : Nat) : List Int := (List.range k).flatMap fun i => [(shiftE t w r i 1).1, (shiftE t w r i 1).2]
theorem nearN_len (t : List Nat) (w : List Bool) (r k : Nat) : (nearN t w r k).length = 2 * k := by
  induction k with
  | zero => rfl
  | succ k ih => unfold nearN at *; rw [List.range_succ, List.flatMap_append, List.length_append, ih]; simp; omega
theorem nearN_succ (t : List Nat) (w : List Bool) (r k : Nat) : nearN t w r (k + 1) = nearN t w r k ++ [(shiftE t w r k 1).1, (shiftE t w r k 1).2] := by
  unfold nearN
  rw [List.range_succ, List.flatMap_append]
  simp
def nearA (s : List Int) (w : List Bool) (r : Int) : Int × List Int := gA (chkE s w r) (nearN (nats s) w r.toNat s.length)
set_option maxHeartbeats 4000000 in
theorem nearX_ok (s : List Int) (w : List Bool) (r : Int) : PureRun Try.prog 27 [gridV s w, .sc (.int .i64 r)] (.tup [.list 1 (intsR (nearA s w r).2), .sc (.int .i64 (nearA s w r).1)]) := by
  refine PureRun.of (allPure_cons (grid_pure _ _) (allPure_cons (.sc _) allPure_nil)) (.tup _ (allPure_cons (.list _ _ (prs _)) (allPure_cons (.sc _) allPure_nil))) (CallOK.mono (R := fun res H' => res = .tup [.list 1 (intsR (nearA s w r).2), .sc (.int .i64 (nearA s w r).1)] ∧ H' = []) ?_ fun _ _ h => h.1)
  refine CallOK.of cF27 ?_ (Nat.le_of_ble_eq_true rfl)
  have hc := chk_ok s w r
  have l1 := intsR_len s
  unfold nearA
  by_cases h : chkE s w r = 0
  case neg =>
    have e2 : gA (chkE s w r) (nearN (nats s) w r.toNat s.length) = (chkE s w r, []) := if_neg h
    rw [e2]
    unfold gridV at hc ⊢
    refine walkX ?_
    rw [show (chkE s w r != 0) = true from by simpa using h]
    refine walkX ?_
    exact endW [] (⟨rfl, rfl⟩)
  rw [h] at hc
  obtain ⟨t, q, rfl, e1, rfl, hq, hw, h1, h4, hs, _⟩ := chk0 h
  rw [natI_len] at l1
  rw [e1, Int.toNat_natCast, natI_len]
  have e2 : gA (chkE (natI t) w q) (nearN t w q t.length) = (0, nearN t w q t.length) := if_pos h
  rw [e2]
  have hsh := fun d hd => shift_ok t w q d 1 hw h4 hs (by omega) hd (by omega)
  unfold gridV at hc hsh ⊢
  refine walkX ?_
  rw [l1]
  refine AWP.loop (fun k : Nat => [(1, .sc (.int .i64 (q : Int))), (2, .ptr 0 0 0 0), (7, .hsl 1 0 0 (nearN t w q k).length), (19, .sc (.int .i64 (t.length : Int))), (20, .sc (.int .i64 (k : Int)))])
    (fun k => [[.cells 2 [[.list 1 (intsR (natI t)), .list 1 (boolsR w)]]], [.cells 1 (intsR (nearN t w q k))]]) (fun k => k ≤ t.length) (fun k => t.length - k) 0 (Nat.zero_le _) ?_ ?_
  · (apply Sub.to [1] [[(0,0)],[(1,0)]]; all_goals (repeat' (first | exact ToAll.nil | exact famsTo.nil | exact famTo.nil | exact ToL.nil | exact ToR.nil | refine ToAll.cons ?_ ?_ | refine famsTo.cons ?_ ?_ | refine wt10 ?_ ?_ | exact To.undef _ | exact To.sc _ | exact To.hslL rfl rfl | exact To.ptrO rfl rfl rfl | exact To.mrefO rfl | exact To.nil rfl rfl rfl | exact wt1 | exact To.nilL | refine To.int ?_ | refine To.bool ?_ | refine To.hslL rfl ?_ | refine wt2 rfl ?_ ?_ ?_ | refine To.tupL ?_ | refine To.aggL ?_ | refine To.cptrL ?_ | refine wt3 ?_ | refine wt4 ?_ | refine To.cloL ?_ ?_ | exact wt5 | refine wt6 ?_ | refine ToB.one ?_ | exact wt7 | ((with_reducible apply ToL.consE); case e9 => rfl) | refine wt8 ?_ | refine ToL.cons ?_ ?_ | exact wt11 | refine wt9 ?_ ?_ | refine wt12 ?_ | (with_reducible rfl) | assumption)); all_goals (first | rfl | assumption | (simp; done) | (simp; omega) | (rw [wrap_small (by omega) (by omega)]; done) | (rw [wrap_small (by omega) (by omega)]; omega) | (refine congrArg Nat.cast ?_; assumption) | skip))
  rintro k hk
  refine walkX ?_
  refine AWP.condD rfl (fun h => ?_) (fun h => ?_)
  · have hv := hsh k h
    have e3 := nearN_succ t w q k
    have e4 := nearN_len t w q k
    generalize shiftE t w q k 1 = p at *
    generalize nearN t w q k = o at *
    have e5 := intsR_len o
    have e6 : intsR (o ++ [p.1, p.2]) = intsR o ++ [[.sc (.int .i64 p.1)], [.sc (.int .i64 p.2)]] := by simp [intsR]
    have e7 : (o ++ [p.1, p.2]).length = o.length + 2 := by simp
    refine walkX ?_
    refine ⟨k + 1, by omega, by omega, ?_⟩
    rw [e3, e6, e7]
    (apply Sub.to [] [[(0,0)],[(3,0)]]; all_goals (repeat' (first | exact ToAll.nil | exact famsTo.nil | exact famTo.nil | exact ToL.nil | exact ToR.nil | refine ToAll.cons ?_ ?_ | refine famsTo.cons ?_ ?_ | refine wt10 ?_ ?_ | exact To.undef _ | exact To.sc _ | exact To.hslL rfl rfl | exact To.ptrO rfl rfl rfl | exact To.mrefO rfl | exact To.nil rfl rfl rfl | exact wt1 | exact To.nilL | refine To.int ?_ | refine To.bool ?_ | refine To.hslL rfl ?_ | refine wt2 rfl ?_ ?_ ?_ | refine To.tupL ?_ | refine To.aggL ?_ | refine To.cptrL ?_ | refine wt3 ?_ | refine wt4 ?_ | refine To.cloL ?_ ?_ | exact wt5 | refine wt6 ?_ | refine ToB.one ?_ | exact wt7 | ((with_reducible apply ToL.consE); case e9 => rfl) | refine wt8 ?_ | refine ToL.cons ?_ ?_ | exact wt11 | refine wt9 ?_ ?_ | refine wt12 ?_ | (with_reducible rfl) | assumption)); all_goals (first | rfl | assumption | (simp; done) | (simp; omega) | (rw [wrap_small (by omega) (by omega)]; done) | (rw [wrap_small (by omega) (by omega)]; omega) | (refine congrArg Nat.cast ?_; assumption) | skip))
  have hk : k = t.length := by omega
  subst hk
  refine walkX ?_
  have e4 := intsR_len (nearN t w q t.length)
  exact endW [] (⟨rfl, rfl⟩)
end Go.Proofs.Ytpkpfgpfkajkpaa
namespace Go.Proofs.Ytpkpfgpfkajkpaa
open Go.Av Go.Proofs
set_option maxRecDepth 20000
theorem seek_in {g : Nat → Option (List Int)} {q : List Int → Prop} {lo hi : Nat} (h : ∀ d l, lo ≤ d → d < hi → g d = some l → q l) : ∀ (c d : Nat) (l : List Int), lo ≤ d → d + c ≤ hi → seek g d c = some l → q l
  | 0, d, l, _, _, e => by cases e
  | c + 1, d, l, h1, h2, e => by
    unfold seek at e
    split at e
    · rename_i l' e1
      injection e with e
      subst e
      exact h d _ h1 (by omega) e1
    · exact seek_in h c (d + 1) l (by omega) (by omega) e
theorem seek_out {g : Nat → Option (List Int)} : ∀ (c d : Nat), seek g d c = none → ∀ j, d ≤ j → j < d + c → g j = none
  | 0, d, _, j, h1, h2 => by omega
  | c + 1, d, e, j, h1, h2 => by
    unfold seek at e
    split at e
    · cases e
    · rename_i h
      by_cases hj : j = d
      · subst hj; exact h
      · exact seek_out c (d + 1) e j (by omega) (by omega)
def descN (m : Nat) : List Nat → Prop
  | [] => True
  | a :: t => a ≤ m ∧ descN a t
theorem desc_at : ∀ {t : List Nat} {m i : Nat}, descN m t → (h : i + 1 < t.length) → t[i + 1] ≤ t[i]
  | [], _, _, _, h => by simp at h
  | [a], _, _, _, h => by simp at h
  | a :: b :: t, m, 0, hd, _ => hd.2.1
  | a :: b :: t, m, i + 1, hd, h => by
    have := desc_at (t := b :: t) (i := i) hd.2 (by simpa using h)
    simpa using this
theorem fac_spec : ∀ (k n most : Nat) (l : List Int), facE k n most = some l → 1 ≤ n → ∃ t : List Nat, l = natI t ∧ t.length = k ∧ prodN t = n ∧ (∀ a ∈ t, 1 ≤ a) ∧ descN most t
  | 0, n, most, l, h, hn => by
    unfold facE at h
    split at h
    · rename_i e
      injection h with h
      subst h
      exact ⟨[], rfl, rfl, e.symm, fun _ h => (by cases h), trivial⟩
    · cases h
  | k + 1, n, most, l, h, hn => by
    refine seek_in (q := fun l => ∃ t : List Nat, l = natI t ∧ t.length = k + 1 ∧ prodN t = n ∧ (∀ a ∈ t, 1 ≤ a) ∧ descN most t) (lo := 1) (hi := min n most + 1) (fun d l h1 h2 h => ?_) _ _ _ (Nat.le_refl _) (by omega) h
    unfold headE at h
    split at h
    · rename_i hd
      split at h
      · rename_i r hr
        injection h with h
        subst h
        have hnd : 1 ≤ n / d := by
          have := Nat.min_le_left n most
          exact (Nat.le_div_iff_mul_le (by omega)).2 (by omega)
        obtain ⟨t, rfl, a1, a2, a3, a4⟩ := fac_spec k (n / d) d r hr hnd
        refine ⟨d :: t, rfl, by simp [a1], ?_, fun a ha => ?_, ?_, a4⟩
        · show d * prodN t = n
          rw [a2]
          exact Nat.mul_div_cancel' (Nat.dvd_of_mod_eq_zero hd)
        · rcases List.mem_cons.1 ha with rfl | ha
          · exact h1
          · exact a3 a ha
        · have := Nat.min_le_right n most
          omega
      · cases h
    · cases h
theorem fac_unit : ∀ (k m : Nat), 1 ≤ m → ∃ l, facE k 1 m = some l
  | 0, m, _ => ⟨[], rfl⟩
  | k + 1, m, hm => by
    obtain ⟨l, hl⟩ := fac_unit k 1 (Nat.le_refl _)
    have e : min 1 m = 1 := by omega
    refine ⟨(1 : Int) :: l, ?_⟩
    show seek (headE (facE k) 1) 1 (min 1 m) = _
    rw [e]
    exact seek_hit (headE_some rfl hl)
theorem fac_some (k n : Nat) (hn : 1 ≤ n) : ∃ l, facE (k + 1) n n = some l := by
  cases h : facE (k + 1) n n with
  | some l => exact ⟨l, rfl⟩
  | none =>
    have h : seek (headE (facE k) n) 1 (min n n) = none := h
    rw [Nat.min_self] at h
    have h1 := seek_out n 1 h n hn (by omega)
    obtain ⟨l, hl⟩ := fac_unit k n hn
    rw [← Nat.div_self (show 0 < n by omega)] at hl
    rw [headE_some (Nat.mod_self n) hl] at h1
    cases h1
theorem fac_grid (d n : Nat) (hn : 1 ≤ n) : ∃ t : List Nat, (facE (d + 1) n n).getD [] = natI t ∧ t.length = d + 1 ∧ prodN t = n ∧ (∀ a ∈ t, 1 ≤ a) ∧ descN n t := by
  obtain ⟨l, hl⟩ := fac_some d n hn
  obtain ⟨t, rfl, h⟩ := fac_spec (d + 1) n n l hl hn
  exact ⟨t, by rw [hl]; rfl, h⟩
theorem prod_pos : ∀ {t : List Nat}, (∀ a ∈ t, 1 ≤ a) → 1 ≤ prodN t
  | [], _ => Nat.le_refl _
  | a :: t, h => Nat.mul_pos (h a (by simp)) (prod_pos fun b hb => h b (by simp [hb]))
theorem cnt_of : ∀ {t : List Nat} {n : Nat}, (∀ a ∈ t, 1 ≤ a) → n * prodN t ≤ 64 → 1 ≤ n → cntG n (natI t) = n * prodN t
  | [], n, _, _, _ => (Nat.mul_one n).symm
  | a :: t, n, h, hp, hn => by
    have ha := h a (by simp)
    have h0 := prod_pos fun c hc => h c (List.mem_cons_of_mem a hc)
    have e : n * prodN (a :: t) = n * a * prodN t := (Nat.mul_assoc n a (prodN t)).symm
    rw [e] at hp ⊢
    have hna : n * a ≤ 64 := Nat.le_trans (Nat.le_mul_of_pos_right _ h0) hp
    have ha2 : a ≤ 64 := Nat.le_trans (Nat.le_mul_of_pos_left _ hn) hna
    show cntG n ((a : Int) :: natI t) = _
    unfold cntG
    rw [if_neg, Int.toNat_natCast]
    · exact cnt_of (fun c hc => h c (by simp [hc])) hp (Nat.mul_pos hn ha)
    · rw [← Int.natCast_mul]
      omega
theorem cntE_of {t : List Nat} {w : List Bool} (h : ∀ a ∈ t, 1 ≤ a) (hp : prodN t ≤ 64) (hw : w.length = t.length) (h1 : 1 ≤ t.length) (h4 : t.length ≤ 4) : cntE (natI t) w = prodN t := by
  unfold cntE
  rw [natI_len, if_neg (by omega), cnt_of h (by omega) (Nat.le_refl _), Nat.one_mul]
def rkN : Nat → List Nat → List Nat → Nat
  | n, a :: t, x :: c => rkN (n * a + x) t c
  | n, _, _ => n
def inG : List Nat → List Nat → Prop
  | a :: t, x :: c => x < a ∧ inG t c
  | [], [] => True
  | _, _ => False
theorem inG_len : ∀ {t c : List Nat}, inG t c → c.length = t.length
  | [], [], _ => rfl
  | _ :: t, _ :: c, h => by simp [inG_len h.2]
  | [], _ :: _, h => h.elim
  | _ :: _, [], h => h.elim
theorem rkN_add : ∀ (t c : List Nat) (n : Nat), inG t c → rkN n t c = n * prodN t + rkN 0 t c
  | [], [], n, _ => by show n = n * 1 + 0; omega
  | a :: t, x :: c, n, h => by
    have h1 := rkN_add t c (n * a + x) h.2
    have h2 := rkN_add t c (0 * a + x) h.2
    show rkN (n * a + x) t c = n * (a * prodN t) + rkN (0 * a + x) t c
    rw [h1, h2, Nat.zero_mul, Nat.zero_add, Nat.add_mul, Nat.mul_assoc]
    omega
  | [], _ :: _, _, h => h.elim
  | _ :: _, [], _, h => h.elim
theorem rkN_lt : ∀ (t c : List Nat), inG t c → rkN 0 t c < prodN t
  | [], [], _ => Nat.one_pos
  | a :: t, x :: c, h => by
    have h1 := rkN_add t c (0 * a + x) h.2
    have h2 := rkN_lt t c h.2
    show rkN (0 * a + x) t c < a * prodN t
    rw [h1, Nat.zero_mul, Nat.zero_add]
    have : (x + 1) * prodN t ≤ a * prodN t := Nat.mul_le_mul_right _ h.1
    rw [Nat.add_mul] at this
    omega
  | [], _ :: _, h => h.elim
  | _ :: _, [], h => h.elim
theorem coord_per : ∀ (t : List Nat) (k v : Nat), (∀ a ∈ t, 1 ≤ a) → coordN t (k * prodN t + v) = coordN t v
  | [], _, _, _ => rfl
  | a :: t, k, v, h => by
    have ht : ∀ b ∈ t, 1 ≤ b := fun b hb => h b (by simp [hb])
    have hp := prod_pos ht
    show (k * (a * prodN t) + v) / prodN t % a :: coordN t (k * (a * prodN t) + v) = v / prodN t % a :: coordN t v
    have e1 : k * (a * prodN t) + v = (k * a) * prodN t + v := by rw [Nat.mul_assoc]
    rw [e1, coord_per t (k * a) v ht]
    congr 1
    rw [Nat.add_comm, Nat.add_mul_div_right _ _ hp, Nat.add_comm, Nat.mul_comm k a, Nat.mul_add_mod]
theorem coord_rk : ∀ (t c : List Nat), (∀ a ∈ t, 1 ≤ a) → inG t c → coordN t (rkN 0 t c) = c
  | [], [], _, _ => rfl
  | a :: t, x :: c, ha, h => by
    have ht : ∀ b ∈ t, 1 ≤ b := fun b hb => ha b (by simp [hb])
    have hp := prod_pos ht
    have h1 := rkN_add t c (0 * a + x) h.2
    have h2 := rkN_lt t c h.2
    rw [Nat.zero_mul, Nat.zero_add] at h1
    show rkN (0 * a + x) t c / prodN t % a :: coordN t (rkN (0 * a + x) t c) = _
    rw [Nat.zero_mul, Nat.zero_add, h1, coord_per t x _ ht, coord_rk t c ht h.2, Nat.add_comm, Nat.add_mul_div_right _ _ hp, Nat.div_eq_of_lt h2, Nat.zero_add, Nat.mod_eq_of_lt h.1]
  | [], _ :: _, _, h => h.elim
  | _ :: _, [], _, h => h.elim
theorem coord_in : ∀ (t : List Nat) (r : Nat), (∀ a ∈ t, 1 ≤ a) → inG t (coordN t r)
  | [], _, _ => trivial
  | a :: t, r, h => ⟨Nat.mod_lt _ (h a (by simp)), coord_in t r fun b hb => h b (by simp [hb])⟩
theorem rk_coord : ∀ (t : List Nat) (r : Nat), (∀ a ∈ t, 1 ≤ a) → rkN 0 t (coordN t r) = r % prodN t
  | [], r, _ => (Nat.mod_one r).symm
  | a :: t, r, h => by
    have ht : ∀ b ∈ t, 1 ≤ b := fun b hb => h b (by simp [hb])
    have h1 := rkN_add t (coordN t r) (0 * a + r / prodN t % a) (coord_in t r ht)
    show rkN (0 * a + r / prodN t % a) t (coordN t r) = r % (a * prodN t)
    rw [h1, rk_coord t r ht, Nat.zero_mul, Nat.zero_add, Nat.mul_comm a, Nat.mod_mul, Nat.mul_comm (r / prodN t % a)]
    omega
theorem rkG_in : ∀ (t c : List Nat) (w : List Bool) (n : Nat), w.length = t.length → inG t c → rkG n t w (natI c) = (rkN n t c : Nat)
  | [], [], [], n, _, _ => rfl
  | a :: t, x :: c, b :: w, n, hw, h => by
    have e : wrapI b (x : Int) a = x := by
      unfold wrapI
      split
      · exact Int.emod_eq_of_lt (by omega) (by have := h.1; omega)
      · rfl
    have := h.1
    show (if wrapI b (x : Int) a < 0 ∨ (a : Int) ≤ wrapI b (x : Int) a then (-2 : Int) else rkG (n * a + (wrapI b (x : Int) a).toNat) t w (natI c)) = _
    rw [e, if_neg (by omega), Int.toNat_natCast]
    exact rkG_in t c w _ (by simpa using hw) h.2
  | [], [], _ :: _, _, hw, _ => by simp at hw
  | _ :: _, _ :: _, [], _, hw, _ => by simp at hw
  | [], _ :: _, _, _, _, h => h.elim
  | _ :: _, [], _, _, _, h => h.elim
theorem rkG_set : ∀ (t c : List Nat) (w : List Bool) (n d : Nat) (x : Int), w.length = t.length → inG t c → d < t.length →
    rkG n t w ((natI c).set d x) = if wrapI (w.getD d false) x (t.getD d 0) < 0 ∨ (t.getD d 0 : Int) ≤ wrapI (w.getD d false) x (t.getD d 0) then -2 else ((rkN n t (c.set d (wrapI (w.getD d false) x (t.getD d 0)).toNat) : Nat) : Int)
  | a :: t, y :: c, b :: w, n, 0, x, hw, h, _ => by
    show (if wrapI b x a < 0 ∨ (a : Int) ≤ wrapI b x a then (-2 : Int) else rkG (n * a + (wrapI b x a).toNat) t w (natI c)) = if wrapI b x a < 0 ∨ (a : Int) ≤ wrapI b x a then -2 else ((rkN n (a :: t) ((wrapI b x a).toNat :: c) : Nat) : Int)
    split
    · rfl
    · rw [rkG_in t c w _ (by simpa using hw) h.2]
      rfl
  | a :: t, y :: c, b :: w, n, d + 1, x, hw, h, hd => by
    have e : wrapI b (y : Int) a = y := by
      unfold wrapI
      split
      · exact Int.emod_eq_of_lt (by omega) (by have := h.1; omega)
      · rfl
    have := h.1
    show (if wrapI b (y : Int) a < 0 ∨ (a : Int) ≤ wrapI b (y : Int) a then (-2 : Int) else rkG (n * a + (wrapI b (y : Int) a).toNat) t w ((natI c).set d x)) = _
    rw [e, if_neg (by omega), Int.toNat_natCast, rkG_set t c w _ d x (by simpa using hw) h.2 (by simpa using hd)]
    simp only [List.getD_cons_succ]
    rfl
  | [], _, _, _, _, _, _, _, hd => by simp at hd
  | _ :: _, [], _, _, _, _, _, h, _ => h.elim
  | _ :: _, _ :: _, [], _, _, _, hw, _, _ => by simp at hw
theorem inG_set : ∀ {t c : List Nat} {d x : Nat}, inG t c → x < t.getD d 0 → inG t (c.set d x)
  | a :: t, y :: c, 0, x, h, hx => ⟨hx, h.2⟩
  | a :: t, y :: c, d + 1, x, h, hx => ⟨h.1, inG_set h.2 (by simpa using hx)⟩
  | [], [], d, x, h, hx => by simp at hx
  | [], _ :: _, _, _, h, _ => h.elim
  | _ :: _, [], _, _, h, _ => h.elim
end Go.Proofs.Ytpkpfgpfkajkpaa
namespace Go.Proofs.Ytpkpfgpfkajkpaa
open Go.Av Go.Proofs
set_option maxRecDepth 20000
theorem getD_set_self {c : List Nat} {d x : Nat} (h : d < c.length) : (c.set d x).getD d 0 = x := by simp [h]
theorem getD_lt : ∀ {t c : List Nat} {d : Nat}, inG t c → d < t.length → c.getD d 0 < t.getD d 0
  | a :: t, y :: c, 0, h, _ => h.1
  | a :: t, y :: c, d + 1, h, hd => by
    have := getD_lt (d := d) h.2 (by simpa using hd)
    simpa using this
  | [], _, _, _, hd => by simp at hd
  | _ :: _, [], _, h, _ => h.elim
theorem set_back {c : List Nat} {d x : Nat} : (c.set d x).set d (c.getD d 0) = c := by
  refine List.ext_getElem (by simp) fun i h1 h2 => ?_
  simp only [List.length_set] at h1
  by_cases hi : d = i
  · subst hi
    simp [h1]
  · simp [hi]
theorem moved_rk {t c : List Nat} {w : List Bool} {d r : Nat} {y : Int} (_ : ∀ a ∈ t, 1 ≤ a) (hw : w.length = t.length) (hc : inG t c) (hr : coordN t r = c) (hd : d < t.length) :
    movedE t w r d y = if wrapI (w.getD d false) ((c.getD d 0 : Nat) + y) (t.getD d 0) < 0 ∨ (t.getD d 0 : Int) ≤ wrapI (w.getD d false) ((c.getD d 0 : Nat) + y) (t.getD d 0) then -2
      else ((rkN 0 t (c.set d (wrapI (w.getD d false) ((c.getD d 0 : Nat) + y) (t.getD d 0)).toNat) : Nat) : Int) := by
  unfold movedE
  rw [hr]
  exact rkG_set t c w 0 d _ hw hc hd
theorem emod_back {x y m : Int} {a : Nat} (hx : 0 ≤ x) (hxa : x < a) (h : y = x + a * m) : y % a = x := by
  rw [h, Int.add_mul_emod_self_left, Int.emod_eq_of_lt hx hxa]
theorem getD_pos {t : List Nat} {d : Nat} (ht : ∀ a ∈ t, 1 ≤ a) (hd : d < t.length) : 1 ≤ t.getD d 0 := by
  rw [show t.getD d 0 = t[d] by simp [hd]]
  exact ht _ (List.getElem_mem hd)
theorem wrap_ring {t : List Nat} {w : List Bool} {r d : Nat} {b : Int} (ht : ∀ a ∈ t, 1 ≤ a) (hw : w.length = t.length) (hd : d < t.length) (hwd : w.getD d false = true) :
    (shiftE t w r d b).1 ≠ -2 ∧ (shiftE t w r d b).2 ≠ -2 := by
  have ha := getD_pos ht hd
  have hm := fun y => @moved_rk t (coordN t r) w d r y ht hw (coord_in t r ht) rfl hd
  unfold shiftE
  rw [hwd] at *
  have hy : ∀ x : Int, wrapI true x (t.getD d 0) = x % (t.getD d 0 : Int) := fun _ => rfl
  have h0 : ∀ x : Int, 0 ≤ x % (t.getD d 0 : Int) := fun x => Int.emod_nonneg _ (by omega)
  have h1 : ∀ x : Int, x % (t.getD d 0 : Int) < t.getD d 0 := fun x => Int.emod_lt_of_pos _ (by omega)
  have q0 := h0 b
  have q1 := h1 b
  rw [hy, if_neg (by omega)]
  refine ⟨?_, ?_⟩
  · have r0 := h0 (((coordN t r).getD d 0 : Nat) + -(b % (t.getD d 0 : Int)))
    have r1 := h1 (((coordN t r).getD d 0 : Nat) + -(b % (t.getD d 0 : Int)))
    show movedE t w r d _ ≠ -2
    rw [hm, hy, if_neg (by omega)]
    omega
  · have r0 := h0 (((coordN t r).getD d 0 : Nat) + b % (t.getD d 0 : Int))
    have r1 := h1 (((coordN t r).getD d 0 : Nat) + b % (t.getD d 0 : Int))
    show movedE t w r d _ ≠ -2
    rw [hm, hy, if_neg (by omega)]
    omega
theorem shift_back {t : List Nat} {w : List Bool} {r d : Nat} {b : Int} (ht : ∀ a ∈ t, 1 ≤ a) (hw : w.length = t.length) (hd : d < t.length) (hr : r < prodN t) (hq : (shiftE t w r d b).2 ≠ -2) :
    ∃ q : Nat, (shiftE t w r d b).2 = q ∧ q < prodN t ∧ (shiftE t w q d b).1 = r ∧ (shiftE t w q d (-b)).2 = r := by
  have ha := getD_pos ht hd
  have hin := coord_in t r ht
  have hrk := rk_coord t r ht
  rw [Nat.mod_eq_of_lt hr] at hrk
  have hcl := inG_len hin
  have hlt := getD_lt hin hd
  have hm := fun y => @moved_rk t (coordN t r) w d r y ht hw hin rfl hd
  generalize hc : coordN t r = c at *
  generalize hcd : c.getD d 0 = cd at *
  have key : ∀ z : Int, 0 ≤ z → z < t.getD d 0 → (∀ y : Int, wrapI (w.getD d false) (z + y) (t.getD d 0) = cd → movedE t w (rkN 0 t (c.set d z.toNat)) d y = r) := by
    intro z z0 z1 y hy
    have hin2 : inG t (c.set d z.toNat) := inG_set hin (by omega)
    have hm2 := @moved_rk t (c.set d z.toNat) w d (rkN 0 t (c.set d z.toNat)) y ht hw hin2 (coord_rk t _ ht hin2) hd
    rw [getD_set_self (by omega), Int.toNat_of_nonneg z0, hy, if_neg (by omega), Int.toNat_natCast] at hm2
    rw [hm2, ← hcd, set_back, hrk]
  by_cases hwd : w.getD d false = true
  · have hy : ∀ x : Int, wrapI true x (t.getD d 0) = x % (t.getD d 0 : Int) := fun _ => rfl
    have h0 : ∀ x : Int, 0 ≤ x % (t.getD d 0 : Int) := fun x => Int.emod_nonneg _ (by omega)
    have h1 : ∀ x : Int, x % (t.getD d 0 : Int) < t.getD d 0 := fun x => Int.emod_lt_of_pos _ (by omega)
    have hg : ∀ (q : Nat) (x : Int), shiftE t w q d x = (movedE t w q d (-(x % (t.getD d 0 : Int))), movedE t w q d (x % (t.getD d 0 : Int))) := fun q x => by
      have := h0 x
      have := h1 x
      unfold shiftE
      rw [hwd, hy, if_neg (by omega)]
    have z0 := h0 (cd + b % (t.getD d 0 : Int))
    have z1 := h1 (cd + b % (t.getD d 0 : Int))
    simp only [hwd, hy] at key hm
    rw [hg]
    refine ⟨rkN 0 t (c.set d ((cd + b % (t.getD d 0 : Int)) % (t.getD d 0 : Int)).toNat), ?_, ?_, ?_, ?_⟩
    · show movedE t w r d _ = _
      rw [hm, if_neg (by omega)]
    · exact rkN_lt t _ (inG_set hin (by omega))
    · rw [hg]
      refine key _ z0 z1 _ (emod_back (m := -((cd + b % (t.getD d 0 : Int)) / (t.getD d 0 : Int))) (by omega) (by omega) ?_)
      have := Int.emod_def (cd + b % (t.getD d 0 : Int)) (t.getD d 0 : Int)
      rw [this, Int.mul_neg]
      omega
    · rw [hg]
      refine key _ z0 z1 _ (emod_back (m := -((cd + b % (t.getD d 0 : Int)) / (t.getD d 0 : Int)) - (b / (t.getD d 0 : Int)) - (-b / (t.getD d 0 : Int))) (by omega) (by omega) ?_)
      have e1 := Int.emod_def (cd + b % (t.getD d 0 : Int)) (t.getD d 0 : Int)
      have e2 := Int.emod_def b (t.getD d 0 : Int)
      have e3 := Int.emod_def (-b) (t.getD d 0 : Int)
      rw [e1, e3, Int.mul_sub, Int.mul_sub, Int.mul_neg]
      omega
  · rw [Bool.not_eq_true] at hwd
    have hy : ∀ x : Int, wrapI false x (t.getD d 0) = x := fun _ => rfl
    simp only [hwd, hy] at key hm
    have hb : ¬ (b ≤ -(t.getD d 0 : Int) ∨ (t.getD d 0 : Int) ≤ b) := fun h => by
      refine hq ?_
      unfold shiftE
      rw [hwd, hy, if_pos h]
    have hg : ∀ (q : Nat) (x : Int), ¬ (x ≤ -(t.getD d 0 : Int) ∨ (t.getD d 0 : Int) ≤ x) → shiftE t w q d x = (movedE t w q d (-x), movedE t w q d x) := fun q x hx => by
      unfold shiftE
      rw [hwd, hy, if_neg hx]
    rw [hg _ _ hb] at hq ⊢
    have hz : ¬ ((cd : Int) + b < 0 ∨ (t.getD d 0 : Int) ≤ cd + b) := fun h => by
      refine hq ?_
      show movedE t w r d b = -2
      rw [hm, if_pos h]
    refine ⟨rkN 0 t (c.set d ((cd : Int) + b).toNat), ?_, ?_, ?_, ?_⟩
    · show movedE t w r d b = _
      rw [hm, if_neg hz]
    · exact rkN_lt t _ (inG_set hin (by omega))
    · rw [hg _ _ hb]
      exact key _ (by omega) (by omega) _ (by omega)
    · rw [hg _ _ (by omega)]
      exact key _ (by omega) (by omega) _ (by omega)
theorem near_at {t : List Nat} {w : List Bool} {r : Nat} : ∀ {k i : Nat}, i < k → (nearN t w r k)[2 * i]? = some (shiftE t w r i 1).1 ∧ (nearN t w r k)[2 * i + 1]? = some (shiftE t w r i 1).2
  | 0, i, h => by omega
  | k + 1, i, h => by
    have hl := nearN_len t w r k
    rw [nearN_succ]
    by_cases hi : i < k
    · obtain ⟨h1, h2⟩ := near_at (t := t) (w := w) (r := r) hi
      rw [List.getElem?_append_left (by omega), List.getElem?_append_left (by omega)]
      exact ⟨h1, h2⟩
    · have e : i = k := by omega
      subst e
      rw [List.getElem?_append_right (by omega), List.getElem?_append_right (by omega), hl, Nat.sub_self, show 2 * i + 1 - 2 * i = 1 by omega]
      exact ⟨rfl, rfl⟩
end Go.Proofs.Ytpkpfgpfkajkpaa
namespace Go.Proofs.Ytpkpfgpfkajkpaa
open Go.Av Go.Proofs
set_option maxRecDepth 20000
structure GoodG (t : List Nat) (w : List Bool) : Prop where
  pos : ∀ a ∈ t, 1 ≤ a
  prod : prodN t ≤ 64
  len : w.length = t.length
  one : 1 ≤ t.length
  four : t.length ≤ 4
theorem GoodG.chk {t : List Nat} {w : List Bool} (g : GoodG t w) {r : Nat} (hr : r < prodN t) : chkE (natI t) w r = 0 := by
  unfold chkE
  rw [cntE_of g.pos g.prod g.len g.one g.four, if_neg (by omega), if_neg (by omega)]
theorem GoodG.shiftA {t : List Nat} {w : List Bool} (g : GoodG t w) {r d : Nat} {b : Int} (hr : r < prodN t) (hd : d < t.length) : shiftA (natI t) w r d b = (shiftE t w r d b, 0) := by
  unfold Proofs.Ytpkpfgpfkajkpaa.shiftA
  rw [if_pos (g.chk hr), natI_len, if_neg (by omega), nats_I, Int.toNat_natCast, Int.toNat_natCast]
theorem GoodG.coordsA {t : List Nat} {w : List Bool} (g : GoodG t w) {r : Nat} (hr : r < prodN t) : coordsA (natI t) w r = (0, natI (coordN t r)) := by
  unfold Proofs.Ytpkpfgpfkajkpaa.coordsA gA
  rw [if_pos (g.chk hr), nats_I, Int.toNat_natCast]
theorem GoodG.nearA {t : List Nat} {w : List Bool} (g : GoodG t w) {r : Nat} (hr : r < prodN t) : nearA (natI t) w r = (0, nearN t w r t.length) := by
  unfold Proofs.Ytpkpfgpfkajkpaa.nearA gA
  rw [if_pos (g.chk hr), nats_I, Int.toNat_natCast, natI_len]
theorem GoodG.rankA {t : List Nat} {w : List Bool} (g : GoodG t w) {r : Nat} (hr : r < prodN t) : rankA (natI t) w (natI (coordN t r)) = ((r : Int), 0) := by
  have h0 := prod_pos g.pos
  have hk : rkG 0 t w (natI (coordN t r)) = (r : Int) := by
    rw [rkG_in t _ w 0 g.len (coord_in t r g.pos), rk_coord t r g.pos, Nat.mod_eq_of_lt hr]
  unfold Proofs.Ytpkpfgpfkajkpaa.rankA
  rw [cntE_of g.pos g.prod g.len g.one g.four, if_neg (by omega), natI_len, natI_len, coordN_len, if_neg (by omega), nats_I, hk, if_neg (by omega)]
theorem GoodG.shift_ok {t : List Nat} {w : List Bool} (g : GoodG t w) {r d : Nat} {b : Int} (hr : r < prodN t) (hd : d < t.length) (hb : -9223372036854775808 ≤ b ∧ b ≤ 9223372036854775807) :
    PureRun Try.prog 28 [.agg [.list 1 (intsR (natI t)), .list 1 (boolsR w)], .sc (.int .i64 (r : Int)), .sc (.int .i64 (d : Int)), .sc (.int .i64 b)] (.tup [.sc (.int .i64 (shiftE t w r d b).1), .sc (.int .i64 (shiftE t w r d b).2), .sc (.int .i64 0)]) := by
  have h := shiftX_ok (natI t) w r d b hb
  rw [g.shiftA hr hd] at h
  exact h
set_option maxHeartbeats 8000000 in
theorem leads_ok {t : List Nat} {w : List Bool} (g : GoodG t w) {r d : Nat} {b : Int} (hr : r < prodN t) (hd : d < t.length) (hb : -9223372036854775808 ≤ b ∧ b ≤ 9223372036854775807) :
    PureRun Try.prog 29 [gridV (natI t) w, .sc (.int .i64 (r : Int)), .sc (.int .i64 (d : Int)), .sc (.int .i64 b)] (.sc (.bool true)) := by
  refine PureRun.of (allPure_cons (grid_pure _ _) (allPure_cons (.sc _) (allPure_cons (.sc _) (allPure_cons (.sc _) allPure_nil)))) (.sc _) (CallOK.mono (R := fun res H' => res = .sc (.bool true) ∧ H' = []) ?_ fun _ _ h => h.1)
  unfold gridV
  refine CallOK.of cF29 ?_ (Nat.le_of_ble_eq_true rfl)
  have h1 := g.shift_ok hr hd hb
  have hdw := boolsR_ix w d (by have := g.len; omega)
  have hring := @wrap_ring t w r d b g.pos g.len hd
  have hback := @shift_back t w r d b g.pos g.len hd hr
  have g2 : w.getD d false = w[d]'(by have := g.len; omega) := by simp [g.len, hd]
  rw [g2] at hring
  clear g2
  generalize w[d]'(by have := g.len; omega) = wd at *
  generalize hz : shiftE t w r d b = z at *
  obtain ⟨p, q⟩ := z
  dsimp only at h1 hring hback
  have b0 : -9223372036854775808 ≤ IntKind.i64.wrap (0 - b) ∧ IntKind.i64.wrap (0 - b) ≤ 9223372036854775807 := by
    by_cases hm : b = -9223372036854775808
    · subst hm; decide
    · rw [wrap_small (by omega) (by omega)]; omega
  have b1 : b = IntKind.i64.wrap (0 - b) ∨ IntKind.i64.wrap (0 - b) = -b := by
    by_cases hm : b = -9223372036854775808
    · subst hm; exact .inl (by decide)
    · rw [wrap_small (by omega) (by omega)]; exact .inr (by omega)
  refine walkX ?_
  cases wd with
  | true =>
    obtain ⟨r1, r2⟩ := hring rfl
    refine walkX ?_
    rw [beq_false_of_ne r1]
    refine walkX ?_
    rw [beq_false_of_ne r2]
    refine walkX ?_
    by_cases hq : q = -2
    · subst hq
      refine walkX ?_
      exact endW [] (⟨rfl, rfl⟩)
    obtain ⟨k, rfl, hk, k1, k2⟩ := hback hq
    have h2 := g.shift_ok (b := b) hk hd hb
    have h3 := g.shift_ok (b := IntKind.i64.wrap (0 - b)) hk hd b0
    rw [k1] at h2
    refine walkX ?_
    rw [decide_eq_true (rfl : r = r)]
    refine walkX ?_
    generalize IntKind.i64.wrap (0 - b) = b' at *
    by_cases hbb : b = b'
    · rw [← hbb] at *
      rw [bne_self]
      refine walkX ?_
      exact endW [] (⟨rfl, rfl⟩)
    · rw [show (b != b') = true from by simpa using hbb]
      have e : b' = -b := b1.resolve_left hbb
      rw [e] at h3 ⊢
      rw [k2] at h3 ⊢
      refine walkX ?_
      rw [decide_eq_true (rfl : r = r)]
      refine walkX ?_
      exact endW [] (⟨rfl, rfl⟩)
  | false =>
    refine walkX ?_
    by_cases hq : q = -2
    · subst hq
      refine walkX ?_
      exact endW [] (⟨rfl, rfl⟩)
    obtain ⟨k, rfl, hk, k1, k2⟩ := hback hq
    have h2 := g.shift_ok (b := b) hk hd hb
    have h3 := g.shift_ok (b := IntKind.i64.wrap (0 - b)) hk hd b0
    rw [k1] at h2
    refine walkX ?_
    rw [decide_eq_true (rfl : r = r)]
    refine walkX ?_
    generalize IntKind.i64.wrap (0 - b) = b' at *
    by_cases hbb : b = b'
    · rw [← hbb] at *
      rw [bne_self]
      refine walkX ?_
      exact endW [] (⟨rfl, rfl⟩)
    · rw [show (b != b') = true from by simpa using hbb]
      have e : b' = -b := b1.resolve_left hbb
      rw [e] at h3 ⊢
      rw [k2] at h3 ⊢
      refine walkX ?_
      rw [decide_eq_true (rfl : r = r)]
      refine walkX ?_
      exact endW [] (⟨rfl, rfl⟩)
end Go.Proofs.Ytpkpfgpfkajkpaa
