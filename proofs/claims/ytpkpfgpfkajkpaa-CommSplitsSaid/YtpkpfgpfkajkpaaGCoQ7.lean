import Derived.Test.YtpkpfgpfkajkpaaGCoP3
import Derived.Test.YtpkpfgpfkajkpaaGCoL4
import Derived.Test.YtpkpfgpfkajkpaaGCoLaw
import Derived.Test.YtpkpfgpfkajkpaaGCoL6
import Derived.Test.YtpkpfgpfkajkpaaGCoL9
import Derived.Test.YtpkpfgpfkajkpaaGCoS1
namespace Go.Proofs.Ytpkpfgpfkajkpaa
open Go.Av Go.Proofs
set_option maxRecDepth 20000
end Go.Proofs.Ytpkpfgpfkajkpaa
namespace Go.Proofs.Ytpkpfgpfkajkpaa
open Go.Av Go.Proofs
set_option maxRecDepth 20000
end Go.Proofs.Ytpkpfgpfkajkpaa
namespace Go.Proofs.Ytpkpfgpfkajkpaa
open Go.Av Go.Proofs
set_option maxRecDepth 20000
def BadS (x : AV) : Prop := x = .sc (.pointer none) ∨ x = .cptr [.sc (.map none)]
theorem BadS.pure {x : AV} (h : BadS x) : Pure x := by
 rcases h with rfl | rfl
 ·exact .sc _
 ·exact .cptr _ (allPure_cons (.sc _) allPure_nil)
end Go.Proofs.Ytpkpfgpfkajkpaa
namespace Go.Proofs.Ytpkpfgpfkajkpaa
open Go.Av Go.Proofs
set_option maxRecDepth 20000
theorem nm_get (P Q : List Nat) (x k : Nat) (hk : k = P.length) : (natsR (P ++ x :: Q))[k]? = some [.sc (.int .i64 (x : Int))] := by
 subst hk
 simp [natsR]
theorem nm_set (P Q : List Nat) (x y k : Nat) (hk : k = P.length) : (natsR (P ++ x :: Q)).set k [.sc (.int .i64 (y : Int))] = natsR (P ++ y :: Q) := by
 subst hk
 rw [natsR_set, List.set_append_right _ _ (Nat.le_refl _), Nat.sub_self]
 rfl
theorem nm_eq {L : List Nat} {P Q : List Nat} {x : Nat} (e : L = P ++ x :: Q) (k : Nat) (hk : k = P.length) : (natsR L)[k]? = some [.sc (.int .i64 (x : Int))] := by
 rw [e]
 exact nm_get P Q x k hk
set_option maxHeartbeats 8000000 in
theorem swapRange_ok (A X M Y B : List Nat) (cv : AV) (hXY : X.length = Y.length) (hl : (A ++ (X ++ (M ++ (Y ++ B)))).length ≤ 1000000) :
  CallOK Try.prog 138 [.hsl 0 0 0 (A ++ (X ++ (M ++ (Y ++ B)))).length, .sc (.int .i64 (A.length : Int)), .sc (.int .i64 ((A.length + X.length + M.length : Nat) : Int)), .sc (.int .i64 (X.length : Int)), cv] [[.cells 1 (natsR (A ++ (X ++ (M ++ (Y ++ B)))))]]
   fun res H' => res = .tup [] ∧ H' = [[.cells 1 (natsR (A ++ (Y ++ (M ++ (X ++ B)))))]] := by
 refine CallOK.of cF138 ?_ (Nat.le_of_ble_eq_true rfl)
 generalize hN : (A ++ (X ++ (M ++ (Y ++ B)))).length = N at *
 simp only [List.length_append] at hN
 refine walkX ?_
 refine AWP.loop (σ := List Nat × List Nat × List Nat × List Nat) (fun s => [(0, .hsl 0 0 0 N), (1, .sc (.int .i64 (A.length : Int))), (2, .sc (.int .i64 ((A.length + X.length + M.length : Nat) : Int))), (3, .sc (.int .i64 (X.length : Int))), (10, .sc (.int .i64 (s.1.length : Int)))])
  (fun s => [[.cells 1 (natsR (A ++ (s.2.2.1 ++ (s.2.1 ++ (M ++ (s.1 ++ (s.2.2.2 ++ B)))))))]]) (fun s => X = s.1 ++ s.2.1 ∧ Y = s.2.2.1 ++ s.2.2.2 ∧ s.1.length = s.2.2.1.length) (fun s => s.2.1.length) ([], X, [], Y) ⟨rfl, rfl, rfl⟩ ?_ ?_
 ·exact Sub.wx [] [[(0,0)]]
 rintro ⟨X1, X2, Y1, Y2⟩ ⟨hX, hY, h12⟩
 dsimp only at hX hY h12 ⊢
 have hXl : X.length = X1.length + X2.length := by rw [hX, List.length_append]
 have hYl : Y.length = Y1.length + Y2.length := by rw [hY, List.length_append]
 refine walkX0 ?_
 refine AWP.condD rfl (fun h => ?_) (fun h => ?_)
 ·obtain ⟨x, X3, rfl⟩ : ∃ x X3, X2 = x :: X3 := by
   cases X2 with
   | nil => simp at hXl; omega
   | cons x X3 => exact ⟨x, X3, rfl⟩
  obtain ⟨y, Y3, rfl⟩ : ∃ y Y3, Y2 = y :: Y3 := by
   cases Y2 with
   | nil => simp at hYl hXl; omega
   | cons y Y3 => exact ⟨y, Y3, rfl⟩
  simp only [List.length_cons] at hXl hYl
  have c1 : A ++ (Y1 ++ (x :: X3 ++ (M ++ (X1 ++ (y :: Y3 ++ B))))) = (A ++ Y1) ++ x :: (X3 ++ (M ++ (X1 ++ (y :: Y3 ++ B)))) := by simp
  have c2 : A ++ (Y1 ++ (x :: X3 ++ (M ++ (X1 ++ (y :: Y3 ++ B))))) = (A ++ (Y1 ++ (x :: X3 ++ (M ++ X1)))) ++ y :: (Y3 ++ B) := by simp
  have c3 : (A ++ Y1) ++ y :: (X3 ++ (M ++ (X1 ++ (y :: Y3 ++ B)))) = (A ++ (Y1 ++ (y :: X3 ++ (M ++ X1)))) ++ y :: (Y3 ++ B) := by simp
  have k1 : A.length + X1.length = (A ++ Y1).length := by rw [List.length_append]; omega
  have k2 : A.length + X.length + M.length + X1.length = (A ++ (Y1 ++ (x :: X3 ++ (M ++ X1)))).length := by simp only [List.length_append, List.length_cons]; omega
  have k3 : A.length + X.length + M.length + X1.length = (A ++ (Y1 ++ (y :: X3 ++ (M ++ X1)))).length := by simp only [List.length_append, List.length_cons]; omega
  have g1 := nm_eq c1 _ k1
  have g2 := nm_eq c2 _ k2
  have s1 := nm_set (A ++ Y1) (X3 ++ (M ++ (X1 ++ (y :: Y3 ++ B)))) x y _ k1
  rw [← c1] at s1
  have g3 : ((natsR (A ++ (Y1 ++ (x :: X3 ++ (M ++ (X1 ++ (y :: Y3 ++ B))))))).set (A.length + X1.length) [.sc (.int .i64 (y : Int))])[A.length + X.length + M.length + X1.length]? = some [.sc (.int .i64 (y : Int))] := by
   rw [s1]
   exact nm_eq c3 _ k3
  have s2 : ((natsR (A ++ (Y1 ++ (x :: X3 ++ (M ++ (X1 ++ (y :: Y3 ++ B))))))).set (A.length + X1.length) [.sc (.int .i64 (y : Int))]).set (A.length + X.length + M.length + X1.length) [.sc (.int .i64 (x : Int))] = natsR (A ++ ((Y1 ++ [y]) ++ (X3 ++ (M ++ ((X1 ++ [x]) ++ (Y3 ++ B)))))) := by
   rw [s1, c3, nm_set _ _ _ _ _ k3]
   congr 1
   simp
  have hlen : (natsR (A ++ (Y1 ++ (x :: X3 ++ (M ++ (X1 ++ (y :: Y3 ++ B))))))).length = N := by rw [natsR_len]; simp only [List.length_append, List.length_cons]; omega
  have hp : PRs (natsR (A ++ (Y1 ++ (x :: X3 ++ (M ++ (X1 ++ (y :: Y3 ++ B))))))) := inferInstance
  generalize natsR (A ++ (Y1 ++ (x :: X3 ++ (M ++ (X1 ++ (y :: Y3 ++ B)))))) = R at *
  refine walkX ?_
  refine DK.nil ⟨by kernel_rfl, ?_⟩
  refine walkX ?_
  refine ⟨(X1 ++ [x], X3, Y1 ++ [y], Y3), ⟨by simp [hX], by simp [hY], by simp [h12]⟩, by simp, ?_⟩
  dsimp only
  rw [← s2, List.length_append, List.length_singleton]
  exact Sub.wx [] [[(0,0)]]
 have e1 : X2 = [] := by cases X2 with | nil => rfl | cons => simp at hXl; omega
 have e2 : Y2 = [] := by cases Y2 with | nil => rfl | cons => simp at hYl; omega
 subst e1; subst e2
 rw [List.append_nil] at hX hY
 subst hX; subst hY
 rw [List.nil_append, List.nil_append]
 refine walkX ?_
 refine endH (res' := .tup []) [[(0,0)]] (.inl rfl) rfl ⟨rfl, rfl⟩ ?_ ?_ rfl rfl rfl
 (all_goals (repeat' (first | exact ToAll.nil | exact famsTo.nil | exact famTo.nil | exact ToL.nil | exact ToR.nil | refine ToAll.cons ?_ ?_ | refine famsTo.cons ?_ ?_ | refine wt10 ?_ ?_ | exact To.undef _ | exact To.sc _ | exact To.hslL rfl rfl | exact To.ptrO rfl rfl rfl | exact To.mrefO rfl | exact To.nil rfl rfl rfl | exact wt1 | exact To.nilL | refine To.int ?_ | refine To.bool ?_ | refine To.hslL rfl ?_ | refine wt2 rfl ?_ ?_ ?_ | refine To.tupL ?_ | refine To.aggL ?_ | refine To.cptrL ?_ | refine wt3 ?_ | refine wt4 ?_ | refine To.cloL ?_ ?_ | exact wt5 | refine wt6 ?_ | refine ToB.one ?_ | exact wt7 | ((with_reducible apply ToL.consE); case e9 => rfl) | refine wt8 ?_ | refine ToL.cons ?_ ?_ | exact wt11 | refine wt9 ?_ ?_ | refine wt12 ?_ | (with_reducible rfl) | assumption)); all_goals (first | rfl | assumption | (simp; done) | (simp; omega) | (rw [wrap_small (by omega) (by omega)]; done) | (rw [wrap_small (by omega) (by omega)]; omega) | (refine congrArg Nat.cast ?_; assumption) | skip))
end Go.Proofs.Ytpkpfgpfkajkpaa
namespace Go.Proofs.Ytpkpfgpfkajkpaa
open Go.Av Go.Proofs
set_option maxRecDepth 20000
theorem swapRange_at (A X M Y B L L' : List Nat) (a b n N : Nat) (cv : AV) (ha : a = A.length) (hb : b = A.length + X.length + M.length) (hn : n = X.length) (hXY : X.length = Y.length) (hN : N = L.length) (hL : L = A ++ (X ++ (M ++ (Y ++ B)))) (hL' : L' = A ++ (Y ++ (M ++ (X ++ B)))) (hl : L.length ≤ 1000000) :
  CallOK Try.prog 138 [.hsl 0 0 0 N, .sc (.int .i64 (a : Int)), .sc (.int .i64 (b : Int)), .sc (.int .i64 (n : Int)), cv] [[.cells 1 (natsR L)]] fun res H' => res = .tup [] ∧ H' = [[.cells 1 (natsR L')]] := by
 subst ha; subst hb; subst hn; subst hN; subst hL; subst hL'
 exact swapRange_ok A X M Y B cv hXY hl
set_option maxHeartbeats 8000000 in
theorem rotate_ok (A X Y B : List Nat) (cv : AV) (hcv : Pure cv) (hX : 0 < X.length) (hY : 0 < Y.length) (hl : (A ++ (X ++ (Y ++ B))).length ≤ 1000000) (hmv : ∃ fn fs cs, cv = .clo fn fs cs) :
  CallOK Try.prog 131 [.hsl 0 0 0 (A ++ (X ++ (Y ++ B))).length, .sc (.int .i64 (A.length : Int)), .sc (.int .i64 ((A.length + X.length : Nat) : Int)), .sc (.int .i64 ((A.length + X.length + Y.length : Nat) : Int)), cv] [[.cells 1 (natsR (A ++ (X ++ (Y ++ B))))]]
   fun res H' => res = .tup [] ∧ H' = [[.cells 1 (natsR (A ++ (Y ++ (X ++ B))))]] := by
 obtain ⟨fn, fs, cs, rfl⟩ := hmv
 have hpv : PV (AV.clo fn fs cs) := ⟨hcv⟩
 refine CallOK.of cF131 ?_ (Nat.le_of_ble_eq_true rfl)
 generalize hN : (A ++ (X ++ (Y ++ B))).length = N at *
 have hN2 := hN
 simp only [List.length_append] at hN
 generalize hm : A.length + X.length = m at *
 generalize hT : A ++ (Y ++ (X ++ B)) = T at *
 have hTl : T.length = N := by rw [← hT]; simp only [List.length_append]; omega
 refine walkX ?_
 have e1 : m - A.length = X.length := by omega
 have e2 : m + Y.length - m = Y.length := by omega
 rw [e1, e2]
 refine AWP.loop (σ := List Nat × List Nat × List Nat × List Nat) (fun s => [(0, .hsl 0 0 0 N), (2, .sc (.int .i64 (m : Int))), (4, .clo fn fs cs), (10, .sc (.int .i64 (s.2.1.length : Int))), (11, .sc (.int .i64 (s.2.2.1.length : Int)))])
  (fun s => [[.cells 1 (natsR (s.1 ++ (s.2.1 ++ (s.2.2.1 ++ s.2.2.2))))]]) (fun s => T = s.1 ++ (s.2.2.1 ++ (s.2.1 ++ s.2.2.2)) ∧ s.1.length + s.2.1.length = m ∧ 0 < s.2.1.length ∧ 0 < s.2.2.1.length) (fun s => s.2.1.length + s.2.2.1.length) (A, X, Y, B) ⟨hT.symm, hm, hX, hY⟩ ?_ ?_
 ·exact Sub.wx [] [[(0,0)]]
 rintro ⟨A1, X1, Y1, B1⟩ ⟨hT1, hm1, hx, hy⟩
 dsimp only at hT1 hm1 hx hy ⊢
 have hT2 := hTl
 rw [hT1] at hT2
 simp only [List.length_append] at hT2
 have hLl : (A1 ++ (X1 ++ (Y1 ++ B1))).length = N := by simp only [List.length_append]; omega
 refine walkX ?_
 by_cases hne : X1.length = Y1.length
 ·rw [decide_eq_true hne]
  refine walkX ?_
  refine Reg.c (Nat.le_refl _) rfl ((swapRange_at A1 X1 [] Y1 B1 _ T _ _ _ _ (.clo fn fs cs) (by omega) (by simp only [List.length_nil]; omega) rfl hne hLl.symm rfl (by rw [hT1]; rfl) (by omega)).mono ?_)
  rintro res H' ⟨rfl, rfl⟩
  refine walkX ?_
  refine endH (res' := .tup []) [[(0,0)]] (.inl rfl) rfl ⟨rfl, rfl⟩ ?_ ?_ rfl rfl rfl
  (all_goals (repeat' (first | exact ToAll.nil | exact famsTo.nil | exact famTo.nil | exact ToL.nil | exact ToR.nil | refine ToAll.cons ?_ ?_ | refine famsTo.cons ?_ ?_ | refine wt10 ?_ ?_ | exact To.undef _ | exact To.sc _ | exact To.hslL rfl rfl | exact To.ptrO rfl rfl rfl | exact To.mrefO rfl | exact To.nil rfl rfl rfl | exact wt1 | exact To.nilL | refine To.int ?_ | refine To.bool ?_ | refine To.hslL rfl ?_ | refine wt2 rfl ?_ ?_ ?_ | refine To.tupL ?_ | refine To.aggL ?_ | refine To.cptrL ?_ | refine wt3 ?_ | refine wt4 ?_ | refine To.cloL ?_ ?_ | exact wt5 | refine wt6 ?_ | refine ToB.one ?_ | exact wt7 | ((with_reducible apply ToL.consE); case e9 => rfl) | refine wt8 ?_ | refine ToL.cons ?_ ?_ | exact wt11 | refine wt9 ?_ ?_ | refine wt12 ?_ | (with_reducible rfl) | assumption)); all_goals (first | rfl | assumption | (simp; done) | (simp; omega) | (rw [wrap_small (by omega) (by omega)]; done) | (rw [wrap_small (by omega) (by omega)]; omega) | (refine congrArg Nat.cast ?_; assumption) | skip))
 ·rw [decide_eq_false hne]
  refine walkX ?_
  by_cases hgt : Y1.length < X1.length
  ·rw [decide_eq_true hgt]
   have hX1 : X1 = X1.take Y1.length ++ X1.drop Y1.length := (List.take_append_drop _ _).symm
   have q1 : (X1.take Y1.length).length = Y1.length := by rw [List.length_take]; omega
   have q2 : (X1.drop Y1.length).length = X1.length - Y1.length := List.length_drop
   generalize X1.take Y1.length = U at *
   generalize X1.drop Y1.length = V at *
   subst hX1
   have hUV : (U ++ V).length = U.length + V.length := List.length_append
   simp only [hUV] at *
   refine walkX ?_
   refine Reg.c (Nat.le_refl _) rfl ((swapRange_at A1 U V Y1 B1 _ (A1 ++ (Y1 ++ (V ++ (U ++ B1)))) _ _ _ _ (.clo fn fs cs) (by omega) (by omega) q1.symm q1 hLl.symm (by simp) rfl (by omega)).mono ?_)
   rintro res H' ⟨rfl, rfl⟩
   refine walkX ?_
   refine ⟨(A1 ++ Y1, V, U, B1), ⟨by rw [hT1]; simp, by dsimp only; rw [List.length_append]; omega, by dsimp only; omega, by dsimp only; omega⟩, by dsimp only; omega, ?_⟩
   dsimp only
   rw [List.append_assoc, q1, show Y1.length + V.length - Y1.length = V.length by omega]
   exact Sub.wx [] [[(0,0)]]
  ·rw [decide_eq_false hgt]
   have hY1 : Y1 = Y1.take (Y1.length - X1.length) ++ Y1.drop (Y1.length - X1.length) := (List.take_append_drop _ _).symm
   have q1 : (Y1.take (Y1.length - X1.length)).length = Y1.length - X1.length := by rw [List.length_take]; omega
   have q2 : (Y1.drop (Y1.length - X1.length)).length = X1.length := by rw [List.length_drop]; omega
   generalize Y1.take (Y1.length - X1.length) = U at *
   generalize Y1.drop (Y1.length - X1.length) = V at *
   subst hY1
   have hUV : (U ++ V).length = U.length + V.length := List.length_append
   simp only [hUV] at *
   refine walkX ?_
   refine Reg.c (Nat.le_refl _) rfl ((swapRange_at A1 X1 U V B1 _ (A1 ++ (V ++ (U ++ (X1 ++ B1)))) _ _ _ _ (.clo fn fs cs) (by omega) (by omega) rfl q2.symm hLl.symm (by simp) rfl (by omega)).mono ?_)
   rintro res H' ⟨rfl, rfl⟩
   refine walkX ?_
   refine ⟨(A1, V, U, X1 ++ B1), ⟨by rw [hT1]; simp, by dsimp only; omega, by dsimp only; omega, by dsimp only; omega⟩, by dsimp only; omega, ?_⟩
   dsimp only
   rw [q2, show U.length + X1.length - X1.length = U.length by omega]
   exact Sub.wx [] [[(0,0)]]
end Go.Proofs.Ytpkpfgpfkajkpaa
namespace Go.Proofs.Ytpkpfgpfkajkpaa
open Go.Av Go.Proofs
set_option maxRecDepth 20000
def keyK (ks : List Int) (x : Nat) : Int := ks.getD x 0
def cmpK (ks : List Int) (x y : Nat) : Int := if keyK ks x < keyK ks y then -1 else if keyK ks y < keyK ks x then 1 else 0
def ltK (ks : List Int) (x y : Nat) : Prop := keyK ks x < keyK ks y ∨ (keyK ks x = keyK ks y ∧ x < y)
theorem ltK_trans {ks : List Int} {x y z : Nat} (h1 : ltK ks x y) (h2 : ltK ks y z) : ltK ks x z := by
 unfold ltK at *
 omega
theorem ltK_tot {ks : List Int} {x y : Nat} (h : x ≠ y) : ltK ks x y ∨ ltK ks y x := by
 unfold ltK
 omega
theorem cmpK_lt {ks : List Int} {x y : Nat} (h : y < x) : cmpK ks x y < 0 ↔ ltK ks x y := by
 unfold cmpK ltK
 split
 ·omega
 ·split <;> omega
def cmpV (ks : List Int) : AV := .clo (.func 71) [] [.cptr [.list 1 (intsR ks)]]
theorem cmpV_pure (ks : List Int) : Pure (cmpV ks) := .clo _ _ _ (fun _ h => by cases h) (allPure_cons (.cptr _ (allPure_cons (.list _ _ (prs _)) allPure_nil)) allPure_nil)
instance (ks : List Int) : PV (cmpV ks) := ⟨cmpV_pure ks⟩
set_option maxHeartbeats 4000000 in
theorem cmp71_ok (ks : List Int) (x y : Nat) (hx : x < ks.length) (hy : y < ks.length) : PureRun Try.prog 71 [.sc (.int .i64 (x : Int)), .sc (.int .i64 (y : Int)), .cptr [.list 1 (intsR ks)]] (.sc (.int .i64 (cmpK ks x y))) := by
 refine PureRun.of (allPure_cons (.sc _) (allPure_cons (.sc _) (allPure_cons (.cptr _ (allPure_cons (.list _ _ (prs _)) allPure_nil)) allPure_nil))) (.sc _) (CallOK.mono (R := fun res H' => res = .sc (.int .i64 (cmpK ks x y)) ∧ H' = []) ?_ fun _ _ h => h.1)
 refine CallOK.of cF71 ?_ (Nat.le_of_ble_eq_true rfl)
 have rx := intsR_ix ks x hx
 have ry := intsR_ix ks y hy
 have kx : keyK ks x = ks[x] := by simp [keyK, hx]
 have ky : keyK ks y = ks[y] := by simp [keyK, hy]
 unfold cmpK
 rw [kx, ky]
 clear kx ky
 generalize ks[x] = p at *
 generalize ks[y] = q at *
 by_cases h1 : p < q
 ·rw [if_pos h1]
  refine walkX ?_
  refine DK.nil ⟨by kernel_rfl, ?_⟩
  refine walkX ?_
  rw [decide_eq_true h1]
  refine walkX ?_
  exact endW [] (⟨rfl, rfl⟩)
 ·rw [if_neg h1]
  refine walkX ?_
  refine DK.nil ⟨by kernel_rfl, ?_⟩
  refine walkX ?_
  rw [decide_eq_false h1]
  refine walkX ?_
  refine DK.nil ⟨by kernel_rfl, ?_⟩
  refine walkX ?_
  by_cases h2 : q < p
  ·rw [if_pos h2, decide_eq_true h2]
   refine walkX ?_
   exact endW [] (⟨rfl, rfl⟩)
  ·rw [if_neg h2, decide_eq_false h2]
   refine walkX ?_
   exact endW [] (⟨rfl, rfl⟩)
set_option maxHeartbeats 16000000 in
theorem insert_ok (ks : List Int) (A S B : List Nat) (hS : S.Pairwise (· < ·)) (hk : ∀ x ∈ S, x < ks.length) (hl : (A ++ (S ++ B)).length ≤ 1000000) :
  CallOK Try.prog 117 [.hsl 0 0 0 (A ++ (S ++ B)).length, .sc (.int .i64 (A.length : Int)), .sc (.int .i64 ((A.length + S.length : Nat) : Int)), cmpV ks] [[.cells 1 (natsR (A ++ (S ++ B)))]]
   fun res H' => res = .tup [] ∧ ∃ S', S'.Perm S ∧ S'.Pairwise (ltK ks) ∧ H' = [[.cells 1 (natsR (A ++ (S' ++ B)))]] := by
 unfold cmpV
 refine CallOK.of cF117 ?_ (Nat.le_of_ble_eq_true rfl)
 have hpv : PV (AV.clo (.func 71) [] [.cptr [.list 1 (intsR ks)]]) := ⟨cmpV_pure ks⟩
 generalize hN : (A ++ (S ++ B)).length = N at *
 have hN2 := hN
 simp only [List.length_append] at hN2
 cases S with
 | nil =>
  refine walkX ?_
  refine AWP.loop (fun _ : Unit => [(2, .sc (.int .i64 (A.length : Int))), (8, .sc (.int .i64 ((A.length + 1 : Nat) : Int)))]) (fun _ => [[.cells 1 (natsR (A ++ B))]]) (fun _ => True) (fun _ => 0) () trivial ?_ ?_
  ·exact Sub.wx [] [[(0,0)]]
  rintro _ _
  refine walkX0 ?_
  rw [decide_eq_false (show ¬ A.length + 1 < A.length by omega)]
  refine walkX ?_
  refine endH (res' := .tup []) [[(0,0)]] (.inl rfl) rfl ⟨rfl, [], .refl _, .nil, rfl⟩ ?_ ?_ rfl rfl rfl
  (all_goals (repeat' (first | exact ToAll.nil | exact famsTo.nil | exact famTo.nil | exact ToL.nil | exact ToR.nil | refine ToAll.cons ?_ ?_ | refine famsTo.cons ?_ ?_ | refine wt10 ?_ ?_ | exact To.undef _ | exact To.sc _ | exact To.hslL rfl rfl | exact To.ptrO rfl rfl rfl | exact To.mrefO rfl | exact To.nil rfl rfl rfl | exact wt1 | exact To.nilL | refine To.int ?_ | refine To.bool ?_ | refine To.hslL rfl ?_ | refine wt2 rfl ?_ ?_ ?_ | refine To.tupL ?_ | refine To.aggL ?_ | refine To.cptrL ?_ | refine wt3 ?_ | refine wt4 ?_ | refine To.cloL ?_ ?_ | exact wt5 | refine wt6 ?_ | refine ToB.one ?_ | exact wt7 | ((with_reducible apply ToL.consE); case e9 => rfl) | refine wt8 ?_ | refine ToL.cons ?_ ?_ | exact wt11 | refine wt9 ?_ ?_ | refine wt12 ?_ | (with_reducible rfl) | assumption)); all_goals (first | rfl | assumption | (simp; done) | (simp; omega) | (rw [wrap_small (by omega) (by omega)]; done) | (rw [wrap_small (by omega) (by omega)]; omega) | (refine congrArg Nat.cast ?_; assumption) | skip))
 | cons x0 S =>
 refine walkX ?_
 refine AWP.loop (σ := List Nat × List Nat) (fun s => [(0, .hsl 0 0 0 N), (1, .sc (.int .i64 (A.length : Int))), (2, .sc (.int .i64 ((A.length + (x0 :: S).length : Nat) : Int))), (3, .clo (.func 71) [] [.cptr [.list 1 (intsR ks)]]), (8, .sc (.int .i64 ((A.length + s.1.length : Nat) : Int)))])
  (fun s => [[.cells 1 (natsR (A ++ (s.1 ++ (s.2 ++ B))))]]) (fun s => (s.1 ++ s.2).Perm (x0 :: S) ∧ s.1.Pairwise (ltK ks) ∧ s.2.Pairwise (· < ·) ∧ (∀ x ∈ s.1, ∀ y ∈ s.2, x < y) ∧ (∀ x ∈ s.1 ++ s.2, x < ks.length)) (fun s => s.2.length) ([x0], S)
  ⟨.refl _, List.pairwise_singleton _ _, (List.pairwise_cons.1 hS).2, fun x hx y hy => by rw [List.mem_singleton.1 hx]; exact (List.pairwise_cons.1 hS).1 y hy, hk⟩ ?_ ?_
 ·exact Sub.wx [] [[(0,0)]]
 rintro ⟨T, S2⟩ ⟨i1, i2, i3, i4, i5⟩
 dsimp only at i1 i2 i3 i4 i5 ⊢
 have hTl := i1.length_eq
 rw [List.length_append] at hTl
 refine walkX0 ?_
 refine AWP.condD rfl (fun h => ?_) (fun h => ?_)
 ·obtain ⟨x, S3, rfl⟩ : ∃ x S3, S2 = x :: S3 := by
   cases S2 with
   | nil => simp at hTl; simp at h; omega
   | cons x S3 => exact ⟨x, S3, rfl⟩
  have hTx : ∀ t ∈ T, t < x := fun t ht => i4 t ht x (by simp)
  have hxk := i5 x (by simp)
  refine walkX0 ?_
  refine AWP.loop (σ := List Nat × List Nat) (fun s => [(0, .hsl 0 0 0 N), (1, .sc (.int .i64 (A.length : Int))), (2, .sc (.int .i64 ((A.length + (x0 :: S).length : Nat) : Int))), (3, .clo (.func 71) [] [.cptr [.list 1 (intsR ks)]]), (8, .sc (.int .i64 ((A.length + T.length : Nat) : Int))), (9, .sc (.int .i64 ((A.length + s.1.length : Nat) : Int)))])
   (fun s => [[.cells 1 (natsR (A ++ (s.1 ++ (x :: (s.2 ++ (S3 ++ B))))))]]) (fun s => T = s.1 ++ s.2 ∧ ∀ z ∈ s.2, ltK ks x z) (fun s => s.1.length) (T, []) ⟨(List.append_nil _).symm, fun _ h => by cases h⟩ ?_ ?_
  ·exact Sub.wx [] [[(0,0)]]
  rintro ⟨T1, T2⟩ ⟨hT, hz⟩
  dsimp only at hT hz ⊢
  have hTe : T.length = T1.length + T2.length := by rw [hT, List.length_append]
  have hSl : (x0 :: S).length = T.length + (S3.length + 1) := by simp only [List.length_cons] at hTl ⊢; omega
  have hcl : (natsR (A ++ (T1 ++ (x :: (T2 ++ (S3 ++ B)))))).length = N := by rw [natsR_len]; simp only [List.length_append, List.length_cons] at hN2 hSl ⊢; omega
  have leave : (∀ z ∈ T1, ltK ks z x) → (A ++ (T1 ++ (x :: (T2 ++ (S3 ++ B))))) = A ++ ((T1 ++ x :: T2) ++ (S3 ++ B)) ∧ ((T1 ++ x :: T2) ++ S3).Perm (x0 :: S) ∧ (T1 ++ x :: T2).Pairwise (ltK ks) ∧ S3.Pairwise (· < ·) ∧ (∀ a ∈ T1 ++ x :: T2, ∀ y ∈ S3, a < y) ∧ (∀ a ∈ (T1 ++ x :: T2) ++ S3, a < ks.length) ∧ (T1 ++ x :: T2).length = T.length + 1 := by
   intro h1
   rw [hT] at i1 i2 i4 i5
   obtain ⟨p1, p2, p3⟩ := List.pairwise_append.1 i2
   obtain ⟨q1, q2⟩ := List.pairwise_cons.1 i3
   refine ⟨by simp, ?_, ?_, q2, ?_, ?_, by simp; omega⟩
   ·refine List.Perm.trans ?_ i1
    simp only [List.append_assoc, List.cons_append]
    refine List.Perm.append_left T1 ?_
    exact (List.perm_middle (l₁ := T2) (l₂ := S3) (a := x)).symm
   ·refine List.pairwise_append.2 ⟨p1, List.pairwise_cons.2 ⟨hz, p2⟩, fun a ha c hc => ?_⟩
    rcases List.mem_cons.1 hc with rfl | hc
    ·exact h1 a ha
    ·exact p3 a ha c hc
   ·intro a ha y hy
    have ha' : a ∈ T1 ++ T2 ∨ a = x := by
     simp only [List.mem_append, List.mem_cons] at ha ⊢
     rcases ha with h | h | h
     ·exact .inl (.inl h)
     ·exact .inr h
     ·exact .inl (.inr h)
    rcases ha' with h | rfl
    ·exact i4 a h y (by simp [hy])
    ·exact q1 y hy
   ·intro a ha
    refine i5 a ?_
    simp only [List.mem_append, List.mem_cons] at ha ⊢
    rcases ha with (h | h | h) | h
    ·exact .inl (.inl h)
    ·exact .inr (.inl h)
    ·exact .inl (.inr h)
    ·exact .inr (.inr h)
  have hcc : T1 = [] ∨ ∃ T3 y, T1 = T3 ++ [y] := by
   rcases List.eq_nil_or_concat T1 with h | ⟨T3, y, h⟩
   ·exact .inl h
   ·exact .inr ⟨T3, y, by rw [h, List.concat_eq_append]⟩
  rcases hcc with rfl | ⟨T3, y, rfl⟩
  ·obtain ⟨l0, l1, l2, l3, l4, l5, l6⟩ := leave (fun _ h => by cases h)
   rw [l0]
   refine walkX0 ?_
   refine AWP.lin [(true, 0), (true, 1), (true, 2), (true, 3), (true, 4), (true, 5), (true, 6), (true, 7), (true, 8), (true, 9), (true, 10), (true, 11), (true, 12), (true, 13), (false, 14), (true, 15), (true, 16)] mixed (by kernel_rfl) (by kernel_rfl) ?_
   refine walkL ?_
   rw [decide_eq_false (show ¬ A.length < A.length + ([] : List Nat).length by simp)]
   refine walkL ?_
   refine walkX ?_
   refine ⟨([] ++ x :: T2, S3), ⟨l1, l2, l3, l4, l5⟩, by simp, ?_⟩
   dsimp only
   rw [l6]
   exact Sub.wx [] [[(0,0)]]
  ·have c0 : A ++ ((T3 ++ [y]) ++ (x :: (T2 ++ (S3 ++ B)))) = (A ++ T3) ++ y :: (x :: (T2 ++ (S3 ++ B))) := by simp
   have c1 : A ++ ((T3 ++ [y]) ++ (x :: (T2 ++ (S3 ++ B)))) = (A ++ (T3 ++ [y])) ++ x :: (T2 ++ (S3 ++ B)) := by simp
   have c2 : (A ++ (T3 ++ [y])) ++ y :: (T2 ++ (S3 ++ B)) = (A ++ T3) ++ y :: (y :: (T2 ++ (S3 ++ B))) := by simp
   have hyT : y ∈ T := by rw [hT]; simp
   have hyx := hTx y hyT
   have hyk := i5 y (List.mem_append_left _ hyT)
   have hcmp := cmp71_ok ks x y hxk hyk
   have hiff := @cmpK_lt ks x y hyx
   have len1 : (T3 ++ [y]).length = T3.length + 1 := by simp
   have k1 : A.length + (T3 ++ [y]).length = (A ++ (T3 ++ [y])).length := by simp only [List.length_append]
   have k0 : A.length + (T3 ++ [y]).length - 1 = (A ++ T3).length := by simp only [List.length_append, List.length_singleton]; omega
   have g1 := nm_eq c1 _ k1
   have g0 := nm_eq c0 _ k0
   have s1 := nm_set (A ++ (T3 ++ [y])) (T2 ++ (S3 ++ B)) x y _ k1
   rw [← c1] at s1
   have g3 : ((natsR (A ++ ((T3 ++ [y]) ++ (x :: (T2 ++ (S3 ++ B)))))).set (A.length + (T3 ++ [y]).length) [.sc (.int .i64 (y : Int))])[A.length + (T3 ++ [y]).length - 1]? = some [.sc (.int .i64 (y : Int))] := by
    rw [s1]
    exact nm_eq c2 _ k0
   have s2 : ((natsR (A ++ ((T3 ++ [y]) ++ (x :: (T2 ++ (S3 ++ B)))))).set (A.length + (T3 ++ [y]).length) [.sc (.int .i64 (y : Int))]).set (A.length + (T3 ++ [y]).length - 1) [.sc (.int .i64 (x : Int))] = natsR (A ++ (T3 ++ (x :: ((y :: T2) ++ (S3 ++ B))))) := by
    rw [s1, c2, nm_set _ _ _ _ _ k0]
    congr 1
    simp
   by_cases hlt : ltK ks x y
   ·have hneg := hiff.2 hlt
    clear leave
    have hp : PRs (natsR (A ++ ((T3 ++ [y]) ++ (x :: (T2 ++ (S3 ++ B)))))) := inferInstance
    generalize natsR (A ++ ((T3 ++ [y]) ++ (x :: (T2 ++ (S3 ++ B))))) = R at *
    generalize cmpK ks x y = cv at *
    refine walkX0 ?_
    refine AWP.lin [(true, 0), (true, 1), (true, 2), (true, 3), (true, 4), (true, 5), (true, 6), (true, 7), (true, 8), (true, 9), (true, 10), (true, 11), (true, 12), (true, 13), (false, 14), (true, 15), (true, 16)] mixed (by kernel_rfl) (by kernel_rfl) ?_
    refine walkL ?_
    rw [decide_eq_true (show A.length < A.length + (T3 ++ [y]).length by rw [len1]; omega)]
    refine walkL ?_
    rw [decide_eq_true hneg]
    refine walkL ?_
    refine walkX ?_
    refine DK.nil ⟨by kernel_rfl, ?_⟩
    refine walkX ?_
    refine ⟨(T3, y :: T2), ⟨by rw [hT]; simp, fun z hzz => ?_⟩, by dsimp only; omega, ?_⟩
    ·rcases List.mem_cons.1 hzz with rfl | h
     ·exact hlt
     ·exact hz z h
    dsimp only
    rw [← s2]
    exact Sub.wx [] [[(0,0)]]
   ·have hneg : ¬ cmpK ks x y < 0 := fun h => hlt (hiff.1 h)
    have hge : ltK ks y x := (ltK_tot (by omega)).resolve_left hlt
    have hall : ∀ z ∈ T3 ++ [y], ltK ks z x := fun z hzz => by
     rcases List.mem_append.1 hzz with h | h
     ·rw [hT] at i2
      have := (List.pairwise_append.1 (List.pairwise_append.1 i2).1).2.2 z h y (by simp)
      exact ltK_trans this hge
     ·rw [List.mem_singleton.1 h]
      exact hge
    obtain ⟨l0, l1, l2, l3, l4, l5, l6⟩ := leave hall
    clear s1 s2 g3 c2
    generalize cmpK ks x y = cv at *
    refine walkX0 ?_
    refine AWP.lin [(true, 0), (true, 1), (true, 2), (true, 3), (true, 4), (true, 5), (true, 6), (true, 7), (true, 8), (true, 9), (true, 10), (true, 11), (true, 12), (true, 13), (false, 14), (true, 15), (true, 16)] mixed (by kernel_rfl) (by kernel_rfl) ?_
    refine walkL ?_
    rw [decide_eq_true (show A.length < A.length + (T3 ++ [y]).length by rw [len1]; omega)]
    refine walkL ?_
    rw [decide_eq_false hneg]
    refine walkL ?_
    refine walkX ?_
    refine ⟨((T3 ++ [y]) ++ x :: T2, S3), ⟨l1, l2, l3, l4, l5⟩, by simp, ?_⟩
    dsimp only
    rw [l6, l0]
    exact Sub.wx [] [[(0,0)]]
 have e2 : S2 = [] := by
  cases S2 with
  | nil => rfl
  | cons => simp at hTl h; omega
 subst e2
 rw [List.append_nil] at i1
 rw [List.nil_append]
 refine walkX ?_
 refine endH (res' := .tup []) [[(0,0)]] (.inl rfl) rfl ⟨rfl, T, i1, i2, rfl⟩ ?_ ?_ rfl rfl rfl
 (all_goals (repeat' (first | exact ToAll.nil | exact famsTo.nil | exact famTo.nil | exact ToL.nil | exact ToR.nil | refine ToAll.cons ?_ ?_ | refine famsTo.cons ?_ ?_ | refine wt10 ?_ ?_ | exact To.undef _ | exact To.sc _ | exact To.hslL rfl rfl | exact To.ptrO rfl rfl rfl | exact To.mrefO rfl | exact To.nil rfl rfl rfl | exact wt1 | exact To.nilL | refine To.int ?_ | refine To.bool ?_ | refine To.hslL rfl ?_ | refine wt2 rfl ?_ ?_ ?_ | refine To.tupL ?_ | refine To.aggL ?_ | refine To.cptrL ?_ | refine wt3 ?_ | refine wt4 ?_ | refine To.cloL ?_ ?_ | exact wt5 | refine wt6 ?_ | refine ToB.one ?_ | exact wt7 | ((with_reducible apply ToL.consE); case e9 => rfl) | refine wt8 ?_ | refine ToL.cons ?_ ?_ | exact wt11 | refine wt9 ?_ ?_ | refine wt12 ?_ | (with_reducible rfl) | assumption)); all_goals (first | rfl | assumption | (simp; done) | (simp; omega) | (rw [wrap_small (by omega) (by omega)]; done) | (rw [wrap_small (by omega) (by omega)]; omega) | (refine congrArg Nat.cast ?_; assumption) | skip))
end Go.Proofs.Ytpkpfgpfkajkpaa
namespace Go.Proofs.Ytpkpfgpfkajkpaa
open Go.Av Go.Proofs
set_option maxRecDepth 20000
structure TwoK (ks : List Int) (X Y : List Nat) : Prop where
 x : X.Pairwise (ltK ks)
 y : Y.Pairwise (ltK ks)
 lt : ∀ a ∈ X, ∀ b ∈ Y, a < b
 kx : ∀ a ∈ X, a < ks.length
 ky : ∀ a ∈ Y, a < ks.length
def atN (l : List Nat) (i : Nat) : Nat := l.getD i 0
theorem atN_mem {l : List Nat} {i : Nat} (h : i < l.length) : atN l i ∈ l := by
 unfold atN
 rw [show l.getD i 0 = l[i] by simp [h]]
 exact List.getElem_mem h
theorem mem_atN {l : List Nat} {x : Nat} (h : x ∈ l) : ∃ i, i < l.length ∧ x = atN l i := by
 obtain ⟨i, hi, e⟩ := List.mem_iff_getElem.1 h
 exact ⟨i, hi, by unfold atN; simp [hi, e]⟩
theorem pw_at {ks : List Int} {l : List Nat} (h : l.Pairwise (ltK ks)) {i j : Nat} (hij : i < j) (hj : j < l.length) : ltK ks (atN l i) (atN l j) := by
 have := List.pairwise_iff_getElem.1 h i j (by omega) hj hij
 unfold atN
 rwa [show l.getD i 0 = l[i]'(by omega) by simp [show i < l.length by omega], show l.getD j 0 = l[j] by simp [hj]]
theorem pw_le {ks : List Int} {l : List Nat} (h : l.Pairwise (ltK ks)) {i j : Nat} (hij : i ≤ j) (hj : j < l.length) : atN l i = atN l j ∨ ltK ks (atN l i) (atN l j) := by
 rcases Nat.lt_or_ge i j with q | q
 ·exact .inr (pw_at h q hj)
 ·exact .inl (by rw [show i = j by omega])
structure SInv (ks : List Int) (X Y : List Nat) (a mid s0 r0 s r : Nat) : Prop where
 h0 : s0 ≤ s
 h1 : s ≤ r
 h2 : r ≤ r0
 lo : ∀ c, s0 ≤ c → c < s → ltK ks (atN X (c - a)) (atN Y (mid - 1 - c))
 hi : ∀ c, r ≤ c → c < r0 → ltK ks (atN Y (mid - 1 - c)) (atN X (c - a))
structure SRng (X Y : List Nat) (a mid s0 r0 : Nat) : Prop where
 mid2 : mid = (a + (a + X.length + Y.length)) / 2
 two : 2 ≤ X.length + Y.length
 alt : (a + X.length < mid + 1 ∧ s0 = a ∧ r0 = a + X.length) ∨ (mid < a + X.length ∧ s0 = mid - Y.length + a - a ∧ s0 + Y.length = mid ∧ r0 = mid)
theorem SRng.in {X Y : List Nat} {a mid s0 r0 c : Nat} (h : SRng X Y a mid s0 r0) (h0 : s0 ≤ c) (h1 : c < r0) : a ≤ c ∧ c - a < X.length ∧ c + 1 ≤ mid ∧ mid - 1 - c < Y.length := by
 have := h.mid2
 rcases h.alt with ⟨q1, q2, q3⟩ | ⟨q1, q2, q3, q4⟩ <;> omega
theorem SInv.step_lo {ks : List Int} {X Y : List Nat} {a mid s0 r0 s r c : Nat} (hg : SRng X Y a mid s0 r0) (ht : TwoK ks X Y) (h : SInv ks X Y a mid s0 r0 s r) (hc1 : s ≤ c) (hc2 : c < r) (hn : ¬ ltK ks (atN Y (mid - 1 - c)) (atN X (c - a))) : SInv ks X Y a mid s0 r0 (c + 1) r := by
 have := h.h0; have := h.h1; have := h.h2
 obtain ⟨q1, q2, q3, q4⟩ := hg.in (show s0 ≤ c by omega) (show c < r0 by omega)
 have hlt := ht.lt _ (atN_mem q2) _ (atN_mem q4)
 have hxy : ltK ks (atN X (c - a)) (atN Y (mid - 1 - c)) := (ltK_tot (show atN X (c - a) ≠ atN Y (mid - 1 - c) by omega)).resolve_right hn
 refine ⟨by omega, by omega, h.h2, fun d hd1 hd2 => ?_, h.hi⟩
 have e1 := pw_le ht.x (show d - a ≤ c - a by omega) q2
 have e2 := pw_le ht.y (show mid - 1 - c ≤ mid - 1 - d by omega) (by obtain ⟨_, _, _, w⟩ := hg.in hd1 (show d < r0 by omega); exact w)
 rcases e1 with e1 | e1 <;> rcases e2 with e2 | e2
 ·rw [e1, ← e2]; exact hxy
 ·rw [e1]; exact ltK_trans hxy e2
 ·rw [← e2]; exact ltK_trans e1 hxy
 ·exact ltK_trans e1 (ltK_trans hxy e2)
theorem SInv.step_hi {ks : List Int} {X Y : List Nat} {a mid s0 r0 s r c : Nat} (hg : SRng X Y a mid s0 r0) (ht : TwoK ks X Y) (h : SInv ks X Y a mid s0 r0 s r) (hc1 : s ≤ c) (hc2 : c < r) (hn : ltK ks (atN Y (mid - 1 - c)) (atN X (c - a))) : SInv ks X Y a mid s0 r0 s c := by
 have := h.h0; have := h.h1; have := h.h2
 obtain ⟨q1, q2, q3, q4⟩ := hg.in (show s0 ≤ c by omega) (show c < r0 by omega)
 refine ⟨h.h0, hc1, by omega, h.lo, fun d hd1 hd2 => ?_⟩
 have e1 := pw_le ht.x (show c - a ≤ d - a by omega) (by obtain ⟨_, w, _⟩ := hg.in (show s0 ≤ d by omega) hd2; exact w)
 have e2 := pw_le ht.y (show mid - 1 - d ≤ mid - 1 - c by omega) q4
 rcases e1 with e1 | e1 <;> rcases e2 with e2 | e2
 ·rw [← e1, e2]; exact hn
 ·rw [← e1]; exact ltK_trans e2 hn
 ·rw [e2]; exact ltK_trans hn e1
 ·exact ltK_trans e2 (ltK_trans hn e1)
theorem SInv.done {ks : List Int} {X Y : List Nat} {a mid s0 r0 s : Nat} (hg : SRng X Y a mid s0 r0) (ht : TwoK ks X Y) (h : SInv ks X Y a mid s0 r0 s s) :
  ∃ X1 X2 Y1 Y2, X = X1 ++ X2 ∧ Y = Y1 ++ Y2 ∧ a + X1.length = s ∧ mid = a + X1.length + Y1.length ∧ a < mid ∧ mid < a + X.length + Y.length ∧ (∀ x ∈ X1, ∀ y ∈ Y2, ltK ks x y) ∧ (∀ y ∈ Y1, ∀ x ∈ X2, ltK ks y x) := by
 have g0 := h.h0; have g2 := h.h2
 have hm := hg.mid2
 have h2 := hg.two
 have hsa : a ≤ s ∧ s ≤ a + X.length ∧ s ≤ mid ∧ mid - s ≤ Y.length := by
  rcases hg.alt with ⟨q1, q2, q3⟩ | ⟨q1, q2, q3, q4⟩ <;> omega
 refine ⟨X.take (s - a), X.drop (s - a), Y.take (mid - s), Y.drop (mid - s), (List.take_append_drop _ _).symm, (List.take_append_drop _ _).symm, by rw [List.length_take]; omega, by rw [List.length_take, List.length_take]; omega, by omega, by omega, ?_, ?_⟩
 ·intro x hx y hy
  obtain ⟨i, hi, rfl⟩ := mem_atN hx
  obtain ⟨j, hj, rfl⟩ := mem_atN hy
  rw [List.length_take] at hi
  rw [List.length_drop] at hj
  have ex : atN (X.take (s - a)) i = atN X i := by unfold atN; simp [List.getD_eq_getElem?_getD, List.getElem?_take, show i < s - a by omega]
  have ey : atN (Y.drop (mid - s)) j = atN Y (mid - s + j) := by unfold atN; simp [List.getD_eq_getElem?_getD, List.getElem?_drop]
  rw [ex, ey]
  have hs : s0 < s := by rcases hg.alt with ⟨q1, q2, q3⟩ | ⟨q1, q2, q3, q4⟩ <;> omega
  have hl := h.lo (s - 1) (by omega) (by omega)
  rw [show mid - 1 - (s - 1) = mid - s by omega] at hl
  have e1 := pw_le ht.x (show i ≤ s - 1 - a by omega) (show s - 1 - a < X.length by omega)
  have e2 := pw_le ht.y (show mid - s ≤ mid - s + j by omega) (by omega)
  rcases e1 with e1 | e1 <;> rcases e2 with e2 | e2
  ·rw [e1, ← e2]; exact hl
  ·rw [e1]; exact ltK_trans hl e2
  ·rw [← e2]; exact ltK_trans e1 hl
  ·exact ltK_trans e1 (ltK_trans hl e2)
 ·intro y hy x hx
  obtain ⟨j, hj, rfl⟩ := mem_atN hy
  obtain ⟨i, hi, rfl⟩ := mem_atN hx
  rw [List.length_take] at hj
  rw [List.length_drop] at hi
  have ey : atN (Y.take (mid - s)) j = atN Y j := by unfold atN; simp [List.getD_eq_getElem?_getD, List.getElem?_take, show j < mid - s by omega]
  have ex : atN (X.drop (s - a)) i = atN X (s - a + i) := by unfold atN; simp [List.getD_eq_getElem?_getD, List.getElem?_drop]
  rw [ex, ey]
  have hs : s < r0 := by rcases hg.alt with ⟨q1, q2, q3⟩ | ⟨q1, q2, q3, q4⟩ <;> omega
  have hl := h.hi s (by omega) hs
  have e1 := pw_le ht.y (show j ≤ mid - 1 - s by omega) (show mid - 1 - s < Y.length by omega)
  have e2 := pw_le ht.x (show s - a ≤ s - a + i by omega) (by omega)
  rcases e1 with e1 | e1 <;> rcases e2 with e2 | e2
  ·rw [e1, ← e2]; exact hl
  ·rw [e1]; exact ltK_trans hl e2
  ·rw [← e2]; exact ltK_trans e1 hl
  ·exact ltK_trans e1 (ltK_trans hl e2)
theorem TwoK.sub {ks : List Int} {X1 X2 Y1 Y2 : List Nat} (h : TwoK ks (X1 ++ X2) (Y1 ++ Y2)) : TwoK ks X1 Y1 ∧ TwoK ks X2 Y2 := by
 obtain ⟨p1, p2, _⟩ := List.pairwise_append.1 h.x
 obtain ⟨q1, q2, _⟩ := List.pairwise_append.1 h.y
 exact ⟨⟨p1, q1, fun a ha b hb => h.lt a (by simp [ha]) b (by simp [hb]), fun a ha => h.kx a (by simp [ha]), fun a ha => h.ky a (by simp [ha])⟩,
  ⟨p2, q2, fun a ha b hb => h.lt a (by simp [ha]) b (by simp [hb]), fun a ha => h.kx a (by simp [ha]), fun a ha => h.ky a (by simp [ha])⟩⟩
def Mrg (ks : List Int) (X Y Z : List Nat) : Prop := Z.Perm (X ++ Y) ∧ Z.Pairwise (ltK ks)
theorem Mrg.join {ks : List Int} {X1 X2 Y1 Y2 Z1 Z2 : List Nat} (ht : TwoK ks (X1 ++ X2) (Y1 ++ Y2)) (h1 : Mrg ks X1 Y1 Z1) (h2 : Mrg ks X2 Y2 Z2) (c1 : ∀ x ∈ X1, ∀ y ∈ Y2, ltK ks x y) (c2 : ∀ y ∈ Y1, ∀ x ∈ X2, ltK ks y x) : Mrg ks (X1 ++ X2) (Y1 ++ Y2) (Z1 ++ Z2) := by
 obtain ⟨_, _, p3⟩ := List.pairwise_append.1 ht.x
 obtain ⟨_, _, q3⟩ := List.pairwise_append.1 ht.y
 refine ⟨?_, List.pairwise_append.2 ⟨h1.2, h2.2, fun u hu v hv => ?_⟩⟩
 ·refine (List.Perm.append h1.1 h2.1).trans ?_
  simp only [List.append_assoc]
  refine List.Perm.append_left X1 ?_
  rw [← List.append_assoc Y1, ← List.append_assoc X2]
  exact List.Perm.append_right Y2 List.perm_append_comm
 ·rcases List.mem_append.1 (h1.1.mem_iff.1 hu) with hu | hu <;> rcases List.mem_append.1 (h2.1.mem_iff.1 hv) with hv | hv
  ·exact p3 u hu v hv
  ·exact c1 u hu v hv
  ·exact c2 u hu v hv
  ·exact q3 u hu v hv
theorem Mrg.nilL {ks : List Int} {Y : List Nat} (h : Y.Pairwise (ltK ks)) : Mrg ks [] Y Y := ⟨.refl _, h⟩
theorem Mrg.nilR {ks : List Int} {X : List Nat} (h : X.Pairwise (ltK ks)) : Mrg ks X [] X := ⟨by rw [List.append_nil], h⟩
end Go.Proofs.Ytpkpfgpfkajkpaa
namespace Go.Proofs.Ytpkpfgpfkajkpaa
open Go.Av Go.Proofs
set_option maxRecDepth 20000
theorem adjF (P Q : List Nat) (x v k : Nat) (hk : k = P.length) : (natsR (P ++ x :: v :: Q))[k]? = some [.sc (.int .i64 (x : Int))] ∧ (natsR (P ++ x :: v :: Q))[k + 1]? = some [.sc (.int .i64 (v : Int))] ∧
  ((natsR (P ++ x :: v :: Q)).set k [.sc (.int .i64 (v : Int))])[k + 1]? = some [.sc (.int .i64 (v : Int))] ∧
  ((natsR (P ++ x :: v :: Q)).set k [.sc (.int .i64 (v : Int))]).set (k + 1) [.sc (.int .i64 (x : Int))] = natsR (P ++ v :: x :: Q) := by
 have h1 : k + 1 = (P ++ [x]).length := by simp [hk]
 have h2 : k + 1 = (P ++ [v]).length := by simp [hk]
 have e1 : P ++ x :: v :: Q = (P ++ [x]) ++ v :: Q := by simp
 have e2 : P ++ v :: v :: Q = (P ++ [v]) ++ v :: Q := by simp
 have e3 : P ++ v :: x :: Q = (P ++ [v]) ++ x :: Q := by simp
 refine ⟨nm_get P _ x k hk, nm_eq e1 _ h1, ?_, ?_⟩
 ·rw [nm_set _ _ _ _ _ hk]
  exact nm_eq e2 _ h2
 ·rw [nm_set _ _ _ _ _ hk, e2, nm_set _ _ _ _ _ h2, e3]
def SymC (ks : List Int) (A X Y B : List Nat) : Prop :=
 CallOK Try.prog 118 [.hsl 0 0 0 (A ++ (X ++ (Y ++ B))).length, .sc (.int .i64 (A.length : Int)), .sc (.int .i64 ((A.length + X.length : Nat) : Int)), .sc (.int .i64 ((A.length + X.length + Y.length : Nat) : Int)), cmpV ks] [[.cells 1 (natsR (A ++ (X ++ (Y ++ B))))]]
  fun res H' => res = .tup [] ∧ ∃ Z, Mrg ks X Y Z ∧ H' = [[.cells 1 (natsR (A ++ (Z ++ B)))]]
theorem take_at {l : List Nat} {p : Nat} (hp : p ≤ l.length) : ∀ z ∈ l.take p, ∃ k, k < p ∧ z = atN l k := fun z hz => by
 obtain ⟨k, hk, rfl⟩ := mem_atN hz
 rw [List.length_take] at hk
 exact ⟨k, by omega, by unfold atN; simp [List.getD_eq_getElem?_getD, List.getElem?_take, show k < p by omega]⟩
theorem drop_at {l : List Nat} {p : Nat} : ∀ z ∈ l.drop p, ∃ k, p ≤ k ∧ k < l.length ∧ z = atN l k := fun z hz => by
 obtain ⟨k, hk, rfl⟩ := mem_atN hz
 rw [List.length_drop] at hk
 exact ⟨p + k, by omega, by omega, by unfold atN; simp [List.getD_eq_getElem?_getD, List.getElem?_drop]⟩
theorem dat {A X B : List Nat} {k : Nat} (h : k < X.length) : (natsR (A ++ (X ++ B)))[A.length + k]? = some [.sc (.int .i64 (atN X k : Nat))] := by
 have : (A ++ (X ++ B))[A.length + k]? = some (atN X k) := by
  rw [List.getElem?_append_right (by omega), List.getElem?_append_left (by omega), Nat.add_sub_cancel_left]
  unfold atN
  simp [h]
 unfold natsR
 rw [List.getElem?_map, this]
 rfl
set_option maxHeartbeats 16000000 in
theorem sym_left (ks : List Int) (A Y B : List Nat) (x : Nat) (ht : TwoK ks [x] Y) (hY : 0 < Y.length) (hl : (A ++ ([x] ++ (Y ++ B))).length ≤ 1000000) : SymC ks A [x] Y B := by
 unfold SymC cmpV
 refine CallOK.of cF118 ?_ (Nat.le_of_ble_eq_true rfl)
 have hpv : PV (AV.clo (.func 71) [] [.cptr [.list 1 (intsR ks)]]) := ⟨cmpV_pure ks⟩
 generalize hN : (A ++ ([x] ++ (Y ++ B))).length = N at *
 have hN2 := hN
 simp only [List.length_append, List.length_singleton] at hN2
 rw [show [x].length = 1 from rfl]
 generalize ha : A.length = a at *
 have hxk := ht.kx x (by simp)
 refine walkX ?_
 rw [decide_eq_true (show a + 1 - a = 1 by omega)]
 refine walkX ?_
 refine AWP.loop (σ := Nat × Nat) (fun s => [(0, .hsl 0 0 0 N), (1, .sc (.int .i64 (a : Int))), (4, .clo (.func 71) [] [.cptr [.list 1 (intsR ks)]]), (10, .sc (.int .i64 ((a + 1 + s.1 : Nat) : Int))), (11, .sc (.int .i64 ((a + 1 + s.2 : Nat) : Int)))])
  (fun s => [[.cells 1 (natsR (A ++ ([x] ++ (Y ++ B))))]]) (fun s => s.1 ≤ s.2 ∧ s.2 ≤ Y.length ∧ (∀ k, k < s.1 → ltK ks (atN Y k) x) ∧ (∀ k, s.2 ≤ k → k < Y.length → ltK ks x (atN Y k))) (fun s => s.2 - s.1) (0, Y.length)
  ⟨Nat.zero_le _, Nat.le_refl _, fun k h => by dsimp only at h; omega, fun k h1 h2 => by dsimp only at h1; omega⟩ ?_ ?_
 ·exact Sub.wx [] [[(0,0)]]
 rintro ⟨p, q⟩ ⟨i1, i2, i3, i4⟩
 dsimp only at i1 i2 i3 i4 ⊢
 refine walkX0 ?_
 refine AWP.condD rfl (fun h => ?_) (fun h => ?_)
 ·obtain ⟨k, hk⟩ : ∃ k, (a + 1 + p + (a + 1 + q)) / 2 ^ 1 = a + 1 + k := ⟨(a + 1 + p + (a + 1 + q)) / 2 - (a + 1), by omega⟩
  have hk1 : p ≤ k := by omega
  have hk2 : k < q := by omega
  have hyk := ht.ky _ (atN_mem (show k < Y.length by omega))
  have hxy := ht.lt x (by simp) _ (atN_mem (show k < Y.length by omega))
  have hcmp := cmp71_ok ks (atN Y k) x hyk hxk
  have hiff := @cmpK_lt ks (atN Y k) x hxy
  have g1 := nm_get A (Y ++ B) x a ha.symm
  have g2 := @dat (A ++ [x]) Y B k (by omega)
  rw [List.append_assoc, List.length_append, List.length_singleton, ha] at g2
  have hlen : (natsR (A ++ ([x] ++ (Y ++ B)))).length = N := by rw [natsR_len, hN]
  generalize cmpK ks (atN Y k) x = cv at *
  refine walkX0 ?_
  rw [hk]
  refine AWP.lin [(true, 0), (true, 1), (true, 2), (true, 3), (true, 4), (true, 5), (true, 6), (true, 7), (true, 8), (false, 9), (true, 10)] mixed (by kernel_rfl) (by kernel_rfl) ?_
  refine walkL ?_
  by_cases hc : cv < 0
  ·rw [decide_eq_true hc]
   refine walkL ?_
   refine walkX ?_
   refine ⟨(k + 1, q), ⟨by dsimp only; omega, i2, fun j hj => ?_, i4⟩, by dsimp only; omega, ?_⟩
   ·dsimp only at hj
    by_cases hjk : j = k
    ·rw [hjk]; exact hiff.1 hc
    ·exact ltK_trans (pw_at ht.y (show j < k by omega) (by omega)) (hiff.1 hc)
   exact Sub.wx [] [[(0,0)]]
  ·rw [decide_eq_false hc]
   refine walkL ?_
   refine walkX ?_
   have hxk2 : ltK ks x (atN Y k) := (ltK_tot (show x ≠ atN Y k by omega)).resolve_right fun h => hc (hiff.2 h)
   refine ⟨(p, k), ⟨hk1, by dsimp only; omega, i3, fun j hj1 hj2 => ?_⟩, by dsimp only; omega, ?_⟩
   ·dsimp only at hj1
    rcases pw_le ht.y hj1 hj2 with e | e
    ·rw [← e]; exact hxk2
    ·exact ltK_trans hxk2 e
   exact Sub.wx [] [[(0,0)]]
 have hpq : p = q := by omega
 subst hpq
 have hYs : Y = Y.take p ++ Y.drop p := (List.take_append_drop _ _).symm
 have hl1 : (Y.take p).length = p := by rw [List.length_take]; omega
 have hc1 : ∀ z ∈ Y.take p, ltK ks z x := fun z hz => by
  obtain ⟨k, hk, rfl⟩ := take_at i2 z hz
  exact i3 k hk
 have hc2 : ∀ z ∈ Y.drop p, ltK ks x z := fun z hz => by
  obtain ⟨k, hk1, hk2, rfl⟩ := drop_at z hz
  exact i4 k hk1 hk2
 have hys := ht.y
 generalize Y.take p = Y1 at *
 generalize Y.drop p = Y2 at *
 have hm : Mrg ks [x] Y (Y1 ++ x :: Y2) := by
  rw [hYs] at hys ⊢
  obtain ⟨p1, p2, p3⟩ := List.pairwise_append.1 hys
  refine ⟨List.perm_middle, List.pairwise_append.2 ⟨p1, List.pairwise_cons.2 ⟨hc2, p2⟩, fun u hu v hv => ?_⟩⟩
  rcases List.mem_cons.1 hv with rfl | hv
  ·exact hc1 u hu
  ·exact p3 u hu v hv
 have hYl : Y.length = Y1.length + Y2.length := by rw [hYs, List.length_append]
 refine walkX0 ?_
 refine AWP.loop (σ := List Nat × List Nat) (fun s => [(0, .hsl 0 0 0 N), (10, .sc (.int .i64 ((a + 1 + p : Nat) : Int))), (13, .sc (.int .i64 ((a + s.1.length : Nat) : Int)))])
  (fun s => [[.cells 1 (natsR (A ++ (s.1 ++ (x :: (s.2 ++ (Y2 ++ B))))))]]) (fun s => Y1 = s.1 ++ s.2) (fun s => s.2.length) ([], Y1) rfl ?_ ?_
 ·rw [hYs, List.append_assoc]
  exact Sub.wx [] [[(0,0)]]
 rintro ⟨U, V⟩ hUV
 dsimp only at hUV ⊢
 have hUl : Y1.length = U.length + V.length := by rw [hUV, List.length_append]
 have hlen : (natsR (A ++ (U ++ (x :: (V ++ (Y2 ++ B)))))).length = N := by rw [natsR_len]; simp only [List.length_append, List.length_cons]; omega
 refine walkX0 ?_
 refine AWP.condD rfl (fun h => ?_) (fun h => ?_)
 ·obtain ⟨v, V2, rfl⟩ : ∃ v V2, V = v :: V2 := by
   cases V with
   | nil => simp at hUl; omega
   | cons v V2 => exact ⟨v, V2, rfl⟩
  have c1 : A ++ (U ++ (x :: (v :: V2 ++ (Y2 ++ B)))) = (A ++ U) ++ x :: v :: (V2 ++ (Y2 ++ B)) := by simp
  have c2 : A ++ ((U ++ [v]) ++ (x :: (V2 ++ (Y2 ++ B)))) = (A ++ U) ++ v :: x :: (V2 ++ (Y2 ++ B)) := by simp
  obtain ⟨g1, g2, g3, g4⟩ := adjF (A ++ U) (V2 ++ (Y2 ++ B)) x v (a + U.length) (by rw [List.length_append, ha])
  rw [← c1, ← c2] at g4
  rw [← c1] at g1 g2 g3
  have hp : PRs (natsR (A ++ (U ++ (x :: (v :: V2 ++ (Y2 ++ B)))))) := inferInstance
  generalize natsR (A ++ (U ++ (x :: (v :: V2 ++ (Y2 ++ B))))) = R at *
  refine walkX ?_
  refine DK.nil ⟨by kernel_rfl, ?_⟩
  refine walkX ?_
  refine ⟨(U ++ [v], V2), by dsimp only; rw [hUV]; simp, by simp, ?_⟩
  dsimp only
  rw [← g4, List.length_append, List.length_singleton]
  exact Sub.wx [] [[(0,0)]]
 have hV : V = [] := by
  cases V with
  | nil => rfl
  | cons => simp at hUl; omega
 subst hV
 rw [List.append_nil] at hUV
 subst hUV
 have efin : A ++ (Y1 ++ (x :: ([] ++ (Y2 ++ B)))) = A ++ ((Y1 ++ x :: Y2) ++ B) := by simp
 rw [efin]
 refine walkX ?_
 refine endH (res' := .tup []) [[(0,0)]] (by first | exact .inl rfl | exact .inr rfl) rfl ⟨rfl, _, hm, rfl⟩ ?_ ?_ rfl rfl rfl
 (all_goals (repeat' (first | exact ToAll.nil | exact famsTo.nil | exact famTo.nil | exact ToL.nil | exact ToR.nil | refine ToAll.cons ?_ ?_ | refine famsTo.cons ?_ ?_ | refine wt10 ?_ ?_ | exact To.undef _ | exact To.sc _ | exact To.hslL rfl rfl | exact To.ptrO rfl rfl rfl | exact To.mrefO rfl | exact To.nil rfl rfl rfl | exact wt1 | exact To.nilL | refine To.int ?_ | refine To.bool ?_ | refine To.hslL rfl ?_ | refine wt2 rfl ?_ ?_ ?_ | refine To.tupL ?_ | refine To.aggL ?_ | refine To.cptrL ?_ | refine wt3 ?_ | refine wt4 ?_ | refine To.cloL ?_ ?_ | exact wt5 | refine wt6 ?_ | refine ToB.one ?_ | exact wt7 | ((with_reducible apply ToL.consE); case e9 => rfl) | refine wt8 ?_ | refine ToL.cons ?_ ?_ | exact wt11 | refine wt9 ?_ ?_ | refine wt12 ?_ | (with_reducible rfl) | assumption)); all_goals (first | rfl | assumption | (simp; done) | (simp; omega) | (rw [wrap_small (by omega) (by omega)]; done) | (rw [wrap_small (by omega) (by omega)]; omega) | (refine congrArg Nat.cast ?_; assumption) | skip))
end Go.Proofs.Ytpkpfgpfkajkpaa
namespace Go.Proofs.Ytpkpfgpfkajkpaa
open Go.Av Go.Proofs
set_option maxRecDepth 20000
theorem adjB (P Q : List Nat) (u y k : Nat) (hk : k = P.length + 1) : (natsR (P ++ u :: y :: Q))[k]? = some [.sc (.int .i64 (y : Int))] ∧ (natsR (P ++ u :: y :: Q))[k - 1]? = some [.sc (.int .i64 (u : Int))] ∧
  ((natsR (P ++ u :: y :: Q)).set k [.sc (.int .i64 (u : Int))])[k - 1]? = some [.sc (.int .i64 (u : Int))] ∧
  ((natsR (P ++ u :: y :: Q)).set k [.sc (.int .i64 (u : Int))]).set (k - 1) [.sc (.int .i64 (y : Int))] = natsR (P ++ y :: u :: Q) := by
 have h1 : k = (P ++ [u]).length := by simp [hk]
 have h0 : k - 1 = P.length := by omega
 have e1 : P ++ u :: y :: Q = (P ++ [u]) ++ y :: Q := by simp
 have e2 : (P ++ [u]) ++ u :: Q = P ++ u :: u :: Q := by simp
 have e3 : natsR (P ++ u :: y :: Q) = natsR ((P ++ [u]) ++ y :: Q) := by rw [e1]
 refine ⟨nm_eq e1 _ h1, nm_get P _ u _ h0, ?_, ?_⟩
 ·rw [e3, nm_set _ _ _ _ _ h1, e2]
  exact nm_get P _ u _ h0
 ·rw [e3, nm_set _ _ _ _ _ h1, e2, nm_set _ _ _ _ _ h0]
set_option maxHeartbeats 16000000 in
theorem sym_right (ks : List Int) (A X B : List Nat) (y : Nat) (ht : TwoK ks X [y]) (hX : 1 < X.length) (hl : (A ++ (X ++ ([y] ++ B))).length ≤ 1000000) : SymC ks A X [y] B := by
 unfold SymC cmpV
 refine CallOK.of cF118 ?_ (Nat.le_of_ble_eq_true rfl)
 have hpv : PV (AV.clo (.func 71) [] [.cptr [.list 1 (intsR ks)]]) := ⟨cmpV_pure ks⟩
 generalize hN : (A ++ (X ++ ([y] ++ B))).length = N at *
 have hN2 := hN
 simp only [List.length_append, List.length_singleton] at hN2
 rw [show [y].length = 1 from rfl]
 generalize ha : A.length = a at *
 have hyk := ht.ky y (by simp)
 refine walkX ?_
 rw [decide_eq_false (show ¬ a + X.length - a = 1 by omega)]
 refine walkX ?_
 rw [decide_eq_true (show a + X.length + 1 - (a + X.length) = 1 by omega)]
 refine walkX ?_
 refine AWP.loop (σ := Nat × Nat) (fun s => [(0, .hsl 0 0 0 N), (2, .sc (.int .i64 ((a + X.length : Nat) : Int))), (4, .clo (.func 71) [] [.cptr [.list 1 (intsR ks)]]), (14, .sc (.int .i64 ((a + s.1 : Nat) : Int))), (15, .sc (.int .i64 ((a + s.2 : Nat) : Int)))])
  (fun s => [[.cells 1 (natsR (A ++ (X ++ ([y] ++ B))))]]) (fun s => s.1 ≤ s.2 ∧ s.2 ≤ X.length ∧ (∀ k, k < s.1 → ltK ks (atN X k) y) ∧ (∀ k, s.2 ≤ k → k < X.length → ltK ks y (atN X k))) (fun s => s.2 - s.1) (0, X.length)
  ⟨Nat.zero_le _, Nat.le_refl _, fun k h => by dsimp only at h; omega, fun k h1 h2 => by dsimp only at h1; omega⟩ ?_ ?_
 ·exact Sub.wx [] [[(0,0)]]
 rintro ⟨p, q⟩ ⟨i1, i2, i3, i4⟩
 dsimp only at i1 i2 i3 i4 ⊢
 refine walkX0 ?_
 refine AWP.condD rfl (fun h => ?_) (fun h => ?_)
 ·obtain ⟨k, hk⟩ : ∃ k, (a + p + (a + q)) / 2 ^ 1 = a + k := ⟨(a + p + (a + q)) / 2 - a, by omega⟩
  have hk1 : p ≤ k := by omega
  have hk2 : k < q := by omega
  have hxk := ht.kx _ (atN_mem (show k < X.length by omega))
  have hxy := ht.lt _ (atN_mem (show k < X.length by omega)) y (by simp)
  have hcmp := cmp71_ok ks y (atN X k) hyk hxk
  have hiff := @cmpK_lt ks y (atN X k) hxy
  have g1 := nm_eq (show A ++ (X ++ ([y] ++ B)) = (A ++ X) ++ y :: B by simp) (a + X.length) (by rw [List.length_append, ha])
  have g2 := @dat A X ([y] ++ B) k (by omega)
  rw [ha] at g2
  have hlen : (natsR (A ++ (X ++ ([y] ++ B)))).length = N := by rw [natsR_len, hN]
  generalize cmpK ks y (atN X k) = cv at *
  refine walkX0 ?_
  rw [hk]
  refine AWP.lin [(true, 0), (true, 1), (true, 2), (true, 3), (true, 4), (true, 5), (true, 6), (true, 7), (true, 8), (false, 9), (true, 10), (true, 11)] mixed (by kernel_rfl) (by kernel_rfl) ?_
  refine walkL ?_
  by_cases hc : cv < 0
  ·rw [decide_eq_true hc]
   refine walkL ?_
   refine walkX ?_
   refine ⟨(p, k), ⟨hk1, by dsimp only; omega, i3, fun j hj1 hj2 => ?_⟩, by dsimp only; omega, ?_⟩
   ·dsimp only at hj1
    rcases pw_le ht.x hj1 hj2 with e | e
    ·rw [← e]; exact hiff.1 hc
    ·exact ltK_trans (hiff.1 hc) e
   exact Sub.wx [] [[(0,0)]]
  ·rw [decide_eq_false hc]
   refine walkL ?_
   refine walkX ?_
   have hxk2 : ltK ks (atN X k) y := (ltK_tot (show atN X k ≠ y by omega)).resolve_right fun h => hc (hiff.2 h)
   refine ⟨(k + 1, q), ⟨by dsimp only; omega, i2, fun j hj => ?_, i4⟩, by dsimp only; omega, ?_⟩
   ·dsimp only at hj
    by_cases hjk : j = k
    ·rw [hjk]; exact hxk2
    ·exact ltK_trans (pw_at ht.x (show j < k by omega) (by omega)) hxk2
   exact Sub.wx [] [[(0,0)]]
 have hpq : p = q := by omega
 subst hpq
 have hXs : X = X.take p ++ X.drop p := (List.take_append_drop _ _).symm
 have hl1 : (X.take p).length = p := by rw [List.length_take]; omega
 have hc1 : ∀ z ∈ X.take p, ltK ks z y := fun z hz => by
  obtain ⟨k, hk, rfl⟩ := take_at i2 z hz
  exact i3 k hk
 have hc2 : ∀ z ∈ X.drop p, ltK ks y z := fun z hz => by
  obtain ⟨k, hk1, hk2, rfl⟩ := drop_at z hz
  exact i4 k hk1 hk2
 have hxs := ht.x
 generalize X.take p = X1 at *
 generalize X.drop p = X2 at *
 have hm : Mrg ks X [y] (X1 ++ y :: X2) := by
  rw [hXs] at hxs ⊢
  obtain ⟨p1, p2, p3⟩ := List.pairwise_append.1 hxs
  refine ⟨?_, List.pairwise_append.2 ⟨p1, List.pairwise_cons.2 ⟨hc2, p2⟩, fun u hu v hv => ?_⟩⟩
  ·rw [List.append_assoc]
   exact List.Perm.append_left X1 (List.perm_append_comm (l₁ := [y]) (l₂ := X2))
  rcases List.mem_cons.1 hv with rfl | hv
  ·exact hc1 u hu
  ·exact p3 u hu v hv
 have hXl : X.length = X1.length + X2.length := by rw [hXs, List.length_append]
 refine walkX0 ?_
 refine AWP.loop (σ := List Nat × List Nat) (fun s => [(0, .hsl 0 0 0 N), (14, .sc (.int .i64 ((a + p : Nat) : Int))), (17, .sc (.int .i64 ((a + p + s.1.length : Nat) : Int)))])
  (fun s => [[.cells 1 (natsR (A ++ (X1 ++ (s.1 ++ (y :: (s.2 ++ B))))))]]) (fun s => X2 = s.1 ++ s.2) (fun s => s.1.length) (X2, []) (List.append_nil _).symm ?_ ?_
 ·have e0 : A ++ (X ++ ([y] ++ B)) = A ++ (X1 ++ (X2 ++ (y :: ([] ++ B)))) := by rw [hXs]; simp
  rw [e0]
  exact Sub.wx [] [[(0,0)]]
 rintro ⟨U, V⟩ hUV
 dsimp only at hUV ⊢
 have hUl : X2.length = U.length + V.length := by rw [hUV, List.length_append]
 have hlen : (natsR (A ++ (X1 ++ (U ++ (y :: (V ++ B)))))).length = N := by rw [natsR_len]; simp only [List.length_append, List.length_cons]; omega
 refine walkX0 ?_
 refine AWP.condD rfl (fun h => ?_) (fun h => ?_)
 ·obtain ⟨U2, u, rfl⟩ : ∃ U2 u, U = U2 ++ [u] := by
   rcases List.eq_nil_or_concat U with e | ⟨T3, z, e⟩
   ·rw [e] at h; simp at h
   ·exact ⟨T3, z, by rw [e, List.concat_eq_append]⟩
  have lu : (U2 ++ [u]).length = U2.length + 1 := by simp
  rw [lu] at hUl h ⊢
  have c1 : A ++ (X1 ++ ((U2 ++ [u]) ++ (y :: (V ++ B)))) = (A ++ (X1 ++ U2)) ++ u :: y :: (V ++ B) := by simp
  have c2 : A ++ (X1 ++ (U2 ++ (y :: ((u :: V) ++ B)))) = (A ++ (X1 ++ U2)) ++ y :: u :: (V ++ B) := by simp
  obtain ⟨g1, g2, g3, g4⟩ := adjB (A ++ (X1 ++ U2)) (V ++ B) u y (a + p + (U2.length + 1)) (by rw [List.length_append, List.length_append, ha]; omega)
  rw [← c1, ← c2] at g4
  rw [← c1] at g1 g2 g3
  have hp : PRs (natsR (A ++ (X1 ++ ((U2 ++ [u]) ++ (y :: (V ++ B)))))) := inferInstance
  generalize natsR (A ++ (X1 ++ ((U2 ++ [u]) ++ (y :: (V ++ B))))) = R at *
  refine walkX ?_
  refine DK.nil ⟨by kernel_rfl, ?_⟩
  refine walkX ?_
  refine ⟨(U2, u :: V), by dsimp only; rw [hUV]; simp, by dsimp only; omega, ?_⟩
  dsimp only
  rw [← g4]
  exact Sub.wx [] [[(0,0)]]
 have hU : U = [] := by
  cases U with
  | nil => rfl
  | cons => simp at h
 subst hU
 rw [List.nil_append] at hUV
 subst hUV
 have efin : A ++ (X1 ++ ([] ++ (y :: (X2 ++ B)))) = A ++ ((X1 ++ y :: X2) ++ B) := by simp
 rw [efin]
 refine walkX ?_
 refine endH (res' := .tup []) [[(0,0)]] (by first | exact .inl rfl | exact .inr rfl) rfl ⟨rfl, _, hm, rfl⟩ ?_ ?_ rfl rfl rfl
 (all_goals (repeat' (first | exact ToAll.nil | exact famsTo.nil | exact famTo.nil | exact ToL.nil | exact ToR.nil | refine ToAll.cons ?_ ?_ | refine famsTo.cons ?_ ?_ | refine wt10 ?_ ?_ | exact To.undef _ | exact To.sc _ | exact To.hslL rfl rfl | exact To.ptrO rfl rfl rfl | exact To.mrefO rfl | exact To.nil rfl rfl rfl | exact wt1 | exact To.nilL | refine To.int ?_ | refine To.bool ?_ | refine To.hslL rfl ?_ | refine wt2 rfl ?_ ?_ ?_ | refine To.tupL ?_ | refine To.aggL ?_ | refine To.cptrL ?_ | refine wt3 ?_ | refine wt4 ?_ | refine To.cloL ?_ ?_ | exact wt5 | refine wt6 ?_ | refine ToB.one ?_ | exact wt7 | ((with_reducible apply ToL.consE); case e9 => rfl) | refine wt8 ?_ | refine ToL.cons ?_ ?_ | exact wt11 | refine wt9 ?_ ?_ | refine wt12 ?_ | (with_reducible rfl) | assumption)); all_goals (first | rfl | assumption | (simp; done) | (simp; omega) | (rw [wrap_small (by omega) (by omega)]; done) | (rw [wrap_small (by omega) (by omega)]; omega) | (refine congrArg Nat.cast ?_; assumption) | skip))
end Go.Proofs.Ytpkpfgpfkajkpaa
namespace Go.Proofs.Ytpkpfgpfkajkpaa
open Go.Av Go.Proofs
set_option maxRecDepth 20000
theorem rotate_at (A X Y B L L' : List Nat) (a m b N : Nat) (ks : List Int) (ha : a = A.length) (hm : m = A.length + X.length) (hb : b = A.length + X.length + Y.length) (hX : 0 < X.length) (hY : 0 < Y.length) (hN : N = L.length) (hL : L = A ++ (X ++ (Y ++ B))) (hL' : L' = A ++ (Y ++ (X ++ B))) (hl : L.length ≤ 1000000) :
  CallOK Try.prog 131 [.hsl 0 0 0 N, .sc (.int .i64 (a : Int)), .sc (.int .i64 (m : Int)), .sc (.int .i64 (b : Int)), .clo (.func 71) [] [.cptr [.list 1 (intsR ks)]]] [[.cells 1 (natsR L)]] fun res H' => res = .tup [] ∧ H' = [[.cells 1 (natsR L')]] := by
 subst ha; subst hm; subst hb; subst hN; subst hL; subst hL'
 exact rotate_ok A X Y B _ (cmpV_pure ks) hX hY hl ⟨_, _, _, rfl⟩
theorem sym_at {ks : List Int} {A X Y B L : List Nat} {a m b N : Nat} (h : SymC ks A X Y B) (ha : a = A.length) (hm : m = A.length + X.length) (hb : b = A.length + X.length + Y.length) (hN : N = L.length) (hL : L = A ++ (X ++ (Y ++ B))) :
  CallOK Try.prog 118 [.hsl 0 0 0 N, .sc (.int .i64 (a : Int)), .sc (.int .i64 (m : Int)), .sc (.int .i64 (b : Int)), .clo (.func 71) [] [.cptr [.list 1 (intsR ks)]]] [[.cells 1 (natsR L)]]
   fun res H' => res = .tup [] ∧ ∃ Z, Mrg ks X Y Z ∧ H' = [[.cells 1 (natsR (A ++ (Z ++ B)))]] := by
 subst ha; subst hm; subst hb; subst hN; subst hL
 exact h
set_option maxHeartbeats 32000000 in
theorem sym_step (ks : List Int) (A X Y B : List Nat) (ht : TwoK ks X Y) (hX : 1 < X.length) (hY : 1 < Y.length) (hl : (A ++ (X ++ (Y ++ B))).length ≤ 1000000)
  (ih : ∀ A' X' Y' B', X'.length + Y'.length < X.length + Y.length → 0 < X'.length → 0 < Y'.length → TwoK ks X' Y' → (A' ++ (X' ++ (Y' ++ B'))).length ≤ 1000000 → SymC ks A' X' Y' B') : SymC ks A X Y B := by
 unfold SymC cmpV
 refine CallOK.of cF118 ?_ (Nat.le_of_ble_eq_true rfl)
 have hpv : PV (AV.clo (.func 71) [] [.cptr [.list 1 (intsR ks)]]) := ⟨cmpV_pure ks⟩
 generalize hN : (A ++ (X ++ (Y ++ B))).length = N at *
 have hN2 := hN
 simp only [List.length_append] at hN2
 generalize ha : A.length = a at *
 obtain ⟨mid, hmid⟩ : ∃ mid, (a + (a + X.length + Y.length)) / 2 ^ 1 = mid := ⟨_, rfl⟩
 have hmid2 : mid = (a + (a + X.length + Y.length)) / 2 := by rw [← hmid]
 obtain ⟨s0, r0, hg, hc1, hc2⟩ : ∃ s0 r0, SRng X Y a mid s0 r0 ∧ (mid < a + X.length → s0 = mid + (a + X.length) - (a + X.length + Y.length) ∧ r0 = mid) ∧ (¬ mid < a + X.length → s0 = a ∧ r0 = a + X.length) := by
  by_cases h : mid < a + X.length
  ·exact ⟨mid - Y.length, mid, ⟨hmid2, by omega, .inr ⟨h, by omega, by omega, rfl⟩⟩, fun _ => ⟨by omega, rfl⟩, fun q => absurd h q⟩
  ·exact ⟨a, a + X.length, ⟨hmid2, by omega, .inl ⟨by omega, rfl, rfl⟩⟩, fun q => absurd q h, fun _ => ⟨rfl, rfl⟩⟩
 refine walkX ?_
 rw [decide_eq_false (show ¬ a + X.length - a = 1 by omega)]
 refine walkX ?_
 rw [decide_eq_false (show ¬ a + X.length + Y.length - (a + X.length) = 1 by omega)]
 refine walkX ?_
 rw [hmid]
 refine AWP.joinT0 [(0, .hsl 0 0 0 N), (1, .sc (.int .i64 (a : Int))), (2, .sc (.int .i64 ((a + X.length : Nat) : Int))), (3, .sc (.int .i64 ((a + X.length + Y.length : Nat) : Int))), (4, .clo (.func 71) [] [.cptr [.list 1 (intsR ks)]]), (18, .sc (.int .i64 (mid : Int))), (19, .sc (.int .i64 ((mid + (a + X.length) : Nat) : Int))), (20, .sc (.int .i64 (s0 : Int))), (21, .sc (.int .i64 (r0 : Int)))] [[.cells 1 (natsR (A ++ (X ++ (Y ++ B))))]] ?_ ?_
 ·by_cases hc : mid < a + X.length
  ·obtain ⟨q1, q2⟩ := hc1 hc
   rw [decide_eq_true hc]
   refine walkX ?_
   rw [q1, q2]
   exact Sub.wx [] [[(0,0)]]
  ·obtain ⟨q1, q2⟩ := hc2 hc
   rw [decide_eq_false hc]
   refine walkX ?_
   rw [q1, q2]
   exact Sub.wx [] [[(0,0)]]
 refine walkX ?_
 refine AWP.loop (σ := Nat × Nat) (fun s => [(0, .hsl 0 0 0 N), (1, .sc (.int .i64 (a : Int))), (2, .sc (.int .i64 ((a + X.length : Nat) : Int))), (3, .sc (.int .i64 ((a + X.length + Y.length : Nat) : Int))), (4, .clo (.func 71) [] [.cptr [.list 1 (intsR ks)]]), (18, .sc (.int .i64 (mid : Int))), (19, .sc (.int .i64 ((mid + (a + X.length) : Nat) : Int))), (20, .sc (.int .i64 (s.1 : Int))), (21, .sc (.int .i64 (s.2 : Int))), (22, .sc (.int .i64 ((mid + (a + X.length) - 1 : Nat) : Int)))])
  (fun s => [[.cells 1 (natsR (A ++ (X ++ (Y ++ B))))]]) (fun s => SInv ks X Y a mid s0 r0 s.1 s.2) (fun s => s.2 - s.1) (s0, r0)
  ⟨Nat.le_refl _, by rcases hg.alt with ⟨q1, q2, q3⟩ | ⟨q1, q2, q3, q4⟩ <;> dsimp only <;> omega, Nat.le_refl _, fun c h1 h2 => by dsimp only at h2; omega, fun c h1 h2 => by dsimp only at h1; omega⟩ ?_ ?_
 ·exact Sub.wx [] [[(0,0)]]
 rintro ⟨s, r⟩ hI
 dsimp only at hI ⊢
 have hr0 : r0 ≤ mid + 1 + a + X.length ∧ r ≤ a + X.length := by
  have := hI.h2
  rcases hg.alt with ⟨q1, q2, q3⟩ | ⟨q1, q2, q3, q4⟩ <;> omega
 have hsr := hI.h1
 refine walkX0 ?_
 refine AWP.condD rfl (fun h => ?_) (fun h => ?_)
 ·obtain ⟨c, hc⟩ : ∃ c, (s + r) / 2 ^ 1 = c := ⟨_, rfl⟩
  have hc1 : s ≤ c := by omega
  have hc2 : c < r := by omega
  obtain ⟨q1, q2, q3, q4⟩ := hg.in (show s0 ≤ c by have := hI.h0; omega) (show c < r0 by have := hI.h2; omega)
  have hyk := ht.ky _ (atN_mem q4)
  have hxk := ht.kx _ (atN_mem q2)
  have hxy := ht.lt _ (atN_mem q2) _ (atN_mem q4)
  have hcmp := cmp71_ok ks (atN Y (mid - 1 - c)) (atN X (c - a)) hyk hxk
  have hiff := @cmpK_lt ks (atN Y (mid - 1 - c)) (atN X (c - a)) hxy
  have g1 := @dat A X (Y ++ B) (c - a) q2
  have g2 := @dat (A ++ X) Y B (mid - 1 - c) q4
  rw [ha, show a + (c - a) = c by omega] at g1
  rw [List.append_assoc, List.length_append, ha, show a + X.length + (mid - 1 - c) = mid + (a + X.length) - 1 - c by omega] at g2
  have hlen : (natsR (A ++ (X ++ (Y ++ B)))).length = N := by rw [natsR_len, hN]
  have stl := fun hn => hI.step_lo hg ht hc1 hc2 hn
  have sth := fun hn => hI.step_hi hg ht hc1 hc2 hn
  generalize cmpK ks (atN Y (mid - 1 - c)) (atN X (c - a)) = cv at *
  refine walkX0 ?_
  rw [hc]
  refine AWP.lin [(true, 0), (true, 1), (true, 2), (true, 3), (true, 4), (true, 5), (true, 6), (true, 7), (true, 8), (true, 9), (true, 10), (false, 11), (true, 12), (true, 13)] mixed (by kernel_rfl) (by kernel_rfl) ?_
  refine walkL ?_
  by_cases hcv : cv < 0
  ·rw [decide_eq_true hcv]
   refine walkL ?_
   refine walkX ?_
   refine ⟨(s, c), sth (hiff.1 hcv), by dsimp only; omega, ?_⟩
   exact Sub.wx [] [[(0,0)]]
  ·rw [decide_eq_false hcv]
   refine walkL ?_
   refine walkX ?_
   refine ⟨(c + 1, r), stl (fun q => hcv (hiff.2 q)), by dsimp only; omega, ?_⟩
   exact Sub.wx [] [[(0,0)]]
 have hsr2 : s = r := by omega
 subst hsr2
 obtain ⟨X1, X2, Y1, Y2, hX12, hY12, e1, e2, e3, e4, f1, f2⟩ := hI.done hg ht
 have hXl : X.length = X1.length + X2.length := by rw [hX12, List.length_append]
 have hYl : Y.length = Y1.length + Y2.length := by rw [hY12, List.length_append]
 obtain ⟨e, he⟩ : ∃ e, a + X.length + Y1.length = e := ⟨_, rfl⟩
 have hL0 : A ++ (X ++ (Y ++ B)) = A ++ (X1 ++ (X2 ++ (Y1 ++ (Y2 ++ B)))) := by rw [hX12, hY12]; simp
 have hN0 : N = (A ++ (X1 ++ (X2 ++ (Y1 ++ (Y2 ++ B))))).length := by rw [← hN, hL0]
 have hN1 : N = (A ++ (X1 ++ (Y1 ++ (X2 ++ (Y2 ++ B))))).length := by simp only [List.length_append]; omega
 have ht2 := ht
 rw [hX12, hY12] at ht2
 obtain ⟨ht1, ht3⟩ := ht2.sub
 refine AWP.exit ?_
 refine AWP.seq ?_
 refine AWP.joinT0 [(0, .hsl 0 0 0 N), (1, .sc (.int .i64 (a : Int))), (3, .sc (.int .i64 ((a + X.length + Y.length : Nat) : Int))), (4, .clo (.func 71) [] [.cptr [.list 1 (intsR ks)]]), (18, .sc (.int .i64 (mid : Int))), (20, .sc (.int .i64 (s : Int))), (24, .sc (.int .i64 (e : Int))), (2, .sc (.int .i64 ((a + X.length : Nat) : Int)))] [[.cells 1 (natsR (A ++ (X1 ++ (X2 ++ (Y1 ++ (Y2 ++ B))))))]] ?_ ?_
 ·refine walkX ?_
  rw [show mid + (a + X.length) - s = e by omega, hL0]
  exact Sub.wx [] [[(0,0)]]
 refine AWP.seq ?_
 refine AWP.joinT0 [(0, .hsl 0 0 0 N), (1, .sc (.int .i64 (a : Int))), (3, .sc (.int .i64 ((a + X.length + Y.length : Nat) : Int))), (4, .clo (.func 71) [] [.cptr [.list 1 (intsR ks)]]), (18, .sc (.int .i64 (mid : Int))), (20, .sc (.int .i64 (s : Int))), (24, .sc (.int .i64 (e : Int)))] [[.cells 1 (natsR (A ++ (X1 ++ (Y1 ++ (X2 ++ (Y2 ++ B))))))]] ?_ ?_
 ·have noc : ¬ (s < a + X.length ∧ a + X.length < e) → A ++ (X1 ++ (X2 ++ (Y1 ++ (Y2 ++ B)))) = A ++ (X1 ++ (Y1 ++ (X2 ++ (Y2 ++ B)))) := fun hc => by
   have hn : X2 = [] ∨ Y1 = [] := by
    by_cases h2 : s < a + X.length
    ·right
     exact List.length_eq_zero_iff.1 (by omega)
    ·left
     exact List.length_eq_zero_iff.1 (by omega)
   rcases hn with e | e <;> rw [e] <;> simp
  by_cases h1 : s < a + X.length
  ·refine walkX ?_
   rw [decide_eq_true h1]
   refine walkX ?_
   by_cases h2 : a + X.length < e
   ·rw [decide_eq_true h2]
    refine walkX ?_
    refine Reg.c (Nat.le_refl _) rfl ((rotate_at (A ++ X1) X2 Y1 (Y2 ++ B) _ (A ++ (X1 ++ (Y1 ++ (X2 ++ (Y2 ++ B))))) s (a + X.length) e N ks (by rw [List.length_append, ha]; omega) (by rw [List.length_append, ha]; omega) (by rw [List.length_append, ha]; omega) (by omega) (by omega) hN0 (by simp) (by simp) (by omega)).mono ?_)
    rintro res H' ⟨rfl, rfl⟩
    refine walkX ?_
    exact Sub.wx [] [[(0,0)]]
   ·rw [decide_eq_false h2]
    refine walkX ?_
    rw [noc (fun h => h2 h.2)]
    exact Sub.wx [] [[(0,0)]]
  ·refine walkX ?_
   rw [decide_eq_false h1]
   refine walkX ?_
   rw [noc (fun h => h1 h.1)]
   exact Sub.wx [] [[(0,0)]]

 refine AWP.seq ?_
 refine AWP.joinT (σ := List Nat) (fun Z => [(0, .hsl 0 0 0 N), (1, .sc (.int .i64 (a : Int))), (3, .sc (.int .i64 ((a + X.length + Y.length : Nat) : Int))), (4, .clo (.func 71) [] [.cptr [.list 1 (intsR ks)]]), (18, .sc (.int .i64 (mid : Int))), (20, .sc (.int .i64 (s : Int))), (24, .sc (.int .i64 (e : Int)))]) (fun Z => [[.cells 1 (natsR (A ++ (Z ++ (X2 ++ (Y2 ++ B)))))]]) (fun Z => Mrg ks X1 Y1 Z) ?_ ?_
 ·have noc2 : ¬ (a < s ∧ s < mid) → Mrg ks X1 Y1 (X1 ++ Y1) := fun hc => by
   have hn : X1 = [] ∨ Y1 = [] := by
    by_cases h2 : a < s
    ·right
     exact List.length_eq_zero_iff.1 (by omega)
    ·left
     exact List.length_eq_zero_iff.1 (by omega)
   rcases hn with e | e
   ·rw [e, List.nil_append]
    exact Mrg.nilL ht1.y
   ·rw [e, List.append_nil]
    exact Mrg.nilR ht1.x
  by_cases h1 : a < s
  ·refine walkX ?_
   rw [decide_eq_true h1]
   refine walkX ?_
   by_cases h2 : s < mid
   ·rw [decide_eq_true h2]
    refine walkX ?_
    refine Reg.c (Nat.le_refl _) rfl ((sym_at (ih A X1 Y1 (X2 ++ (Y2 ++ B)) (by omega) (by omega) (by omega) ht1 (by omega)) ha.symm (by omega) (by omega) hN1 rfl).mono ?_)
    rintro res H' ⟨rfl, Z, hZ, rfl⟩
    refine walkX ?_
    refine ⟨Z, hZ, ?_⟩
    exact Sub.wx [] [[(0,0)]]
   ·rw [decide_eq_false h2]
    refine walkX ?_
    have hc : ¬ (a < s ∧ s < mid) := fun h => h2 h.2
    have hM := noc2 hc
    rw [← List.append_assoc X1 Y1]
    exact ⟨X1 ++ Y1, hM, Sub.wx [] [[(0,0)]]⟩
  ·refine walkX ?_
   rw [decide_eq_false h1]
   refine walkX ?_
   have hc : ¬ (a < s ∧ s < mid) := fun h => h1 h.1
   have hM := noc2 hc
   rw [← List.append_assoc X1 Y1]
   exact ⟨X1 ++ Y1, hM, Sub.wx [] [[(0,0)]]⟩

 intro Z1 hZ1
 have hZl : Z1.length = X1.length + Y1.length := by rw [hZ1.1.length_eq, List.length_append]
 have fin : ∀ Z2, Mrg ks X2 Y2 Z2 → Mrg ks X Y (Z1 ++ Z2) := fun Z2 hZ2 => by
  rw [hX12, hY12]
  rw [hX12, hY12] at ht
  exact Mrg.join ht hZ1 hZ2 f1 f2
 have noc3 : ¬ (mid < e ∧ e < a + X.length + Y.length) → Mrg ks X2 Y2 (X2 ++ Y2) := fun hc => by
  have hn : X2 = [] ∨ Y2 = [] := by
   by_cases h2 : mid < e
   ·right
    exact List.length_eq_zero_iff.1 (by omega)
   ·left
    exact List.length_eq_zero_iff.1 (by omega)
  rcases hn with e | e
  ·rw [e, List.nil_append]
   exact Mrg.nilL ht3.y
  ·rw [e, List.append_nil]
   exact Mrg.nilR ht3.x
 by_cases h1 : mid < e
 ·refine walkX ?_
  rw [decide_eq_true h1]
  refine walkX ?_
  by_cases h2 : e < a + X.length + Y.length
  ·rw [decide_eq_true h2]
   refine walkX ?_
   refine Reg.c (Nat.le_refl _) rfl ((sym_at (ih (A ++ Z1) X2 Y2 B (by omega) (by omega) (by omega) ht3 (by simp only [List.length_append]; omega)) (by rw [List.length_append, hZl]; omega) (by rw [List.length_append, hZl]; omega) (by rw [List.length_append, hZl]; omega) (by simp only [List.length_append]; omega) (by simp)).mono ?_)
   rintro res H' ⟨rfl, Z2, hZ2, rfl⟩
   rw [show (A ++ Z1) ++ (Z2 ++ B) = A ++ ((Z1 ++ Z2) ++ B) by simp]
   refine walkX ?_
   refine endH (res' := .tup []) [[(0,0)]] (by first | exact .inl rfl | exact .inr rfl) rfl ⟨rfl, Z1 ++ Z2, fin Z2 hZ2, rfl⟩ ?_ ?_ rfl rfl rfl
   (all_goals (repeat' (first | exact ToAll.nil | exact famsTo.nil | exact famTo.nil | exact ToL.nil | exact ToR.nil | refine ToAll.cons ?_ ?_ | refine famsTo.cons ?_ ?_ | refine wt10 ?_ ?_ | exact To.undef _ | exact To.sc _ | exact To.hslL rfl rfl | exact To.ptrO rfl rfl rfl | exact To.mrefO rfl | exact To.nil rfl rfl rfl | exact wt1 | exact To.nilL | refine To.int ?_ | refine To.bool ?_ | refine To.hslL rfl ?_ | refine wt2 rfl ?_ ?_ ?_ | refine To.tupL ?_ | refine To.aggL ?_ | refine To.cptrL ?_ | refine wt3 ?_ | refine wt4 ?_ | refine To.cloL ?_ ?_ | exact wt5 | refine wt6 ?_ | refine ToB.one ?_ | exact wt7 | ((with_reducible apply ToL.consE); case e9 => rfl) | refine wt8 ?_ | refine ToL.cons ?_ ?_ | exact wt11 | refine wt9 ?_ ?_ | refine wt12 ?_ | (with_reducible rfl) | assumption)); all_goals (first | rfl | assumption | (simp; done) | (simp; omega) | (rw [wrap_small (by omega) (by omega)]; done) | (rw [wrap_small (by omega) (by omega)]; omega) | (refine congrArg Nat.cast ?_; assumption) | skip))
  ·rw [decide_eq_false h2]
   refine walkX ?_
   have hc : ¬ (mid < e ∧ e < a + X.length + Y.length) := fun h => h2 h.2
   have hM := noc3 hc
   rw [show A ++ (Z1 ++ (X2 ++ (Y2 ++ B))) = A ++ ((Z1 ++ (X2 ++ Y2)) ++ B) by simp]
   refine endH (res' := .tup []) [[(0,0)]] (by first | exact .inl rfl | exact .inr rfl) rfl ⟨rfl, Z1 ++ (X2 ++ Y2), fin _ hM, rfl⟩ ?_ ?_ rfl rfl rfl
   (all_goals (repeat' (first | exact ToAll.nil | exact famsTo.nil | exact famTo.nil | exact ToL.nil | exact ToR.nil | refine ToAll.cons ?_ ?_ | refine famsTo.cons ?_ ?_ | refine wt10 ?_ ?_ | exact To.undef _ | exact To.sc _ | exact To.hslL rfl rfl | exact To.ptrO rfl rfl rfl | exact To.mrefO rfl | exact To.nil rfl rfl rfl | exact wt1 | exact To.nilL | refine To.int ?_ | refine To.bool ?_ | refine To.hslL rfl ?_ | refine wt2 rfl ?_ ?_ ?_ | refine To.tupL ?_ | refine To.aggL ?_ | refine To.cptrL ?_ | refine wt3 ?_ | refine wt4 ?_ | refine To.cloL ?_ ?_ | exact wt5 | refine wt6 ?_ | refine ToB.one ?_ | exact wt7 | ((with_reducible apply ToL.consE); case e9 => rfl) | refine wt8 ?_ | refine ToL.cons ?_ ?_ | exact wt11 | refine wt9 ?_ ?_ | refine wt12 ?_ | (with_reducible rfl) | assumption)); all_goals (first | rfl | assumption | (simp; done) | (simp; omega) | (rw [wrap_small (by omega) (by omega)]; done) | (rw [wrap_small (by omega) (by omega)]; omega) | (refine congrArg Nat.cast ?_; assumption) | skip))
 ·refine walkX ?_
  rw [decide_eq_false h1]
  refine walkX ?_
  have hc : ¬ (mid < e ∧ e < a + X.length + Y.length) := fun h => h1 h.1
  have hM := noc3 hc
  rw [show A ++ (Z1 ++ (X2 ++ (Y2 ++ B))) = A ++ ((Z1 ++ (X2 ++ Y2)) ++ B) by simp]
  refine endH (res' := .tup []) [[(0,0)]] (by first | exact .inl rfl | exact .inr rfl) rfl ⟨rfl, Z1 ++ (X2 ++ Y2), fin _ hM, rfl⟩ ?_ ?_ rfl rfl rfl
  (all_goals (repeat' (first | exact ToAll.nil | exact famsTo.nil | exact famTo.nil | exact ToL.nil | exact ToR.nil | refine ToAll.cons ?_ ?_ | refine famsTo.cons ?_ ?_ | refine wt10 ?_ ?_ | exact To.undef _ | exact To.sc _ | exact To.hslL rfl rfl | exact To.ptrO rfl rfl rfl | exact To.mrefO rfl | exact To.nil rfl rfl rfl | exact wt1 | exact To.nilL | refine To.int ?_ | refine To.bool ?_ | refine To.hslL rfl ?_ | refine wt2 rfl ?_ ?_ ?_ | refine To.tupL ?_ | refine To.aggL ?_ | refine To.cptrL ?_ | refine wt3 ?_ | refine wt4 ?_ | refine To.cloL ?_ ?_ | exact wt5 | refine wt6 ?_ | refine ToB.one ?_ | exact wt7 | ((with_reducible apply ToL.consE); case e9 => rfl) | refine wt8 ?_ | refine ToL.cons ?_ ?_ | exact wt11 | refine wt9 ?_ ?_ | refine wt12 ?_ | (with_reducible rfl) | assumption)); all_goals (first | rfl | assumption | (simp; done) | (simp; omega) | (rw [wrap_small (by omega) (by omega)]; done) | (rw [wrap_small (by omega) (by omega)]; omega) | (refine congrArg Nat.cast ?_; assumption) | skip))
theorem sym_ok (ks : List Int) : ∀ (n : Nat) (A X Y B : List Nat), X.length + Y.length ≤ n → 0 < X.length → 0 < Y.length → TwoK ks X Y → (A ++ (X ++ (Y ++ B))).length ≤ 1000000 → SymC ks A X Y B
 | 0, _, _, _, _, h, h1, _, _, _ => by omega
 | n + 1, A, X, Y, B, h, h1, h2, ht, hl => by
  by_cases q1 : X.length = 1
  ·obtain ⟨x, rfl⟩ := List.length_eq_one_iff.1 q1
   exact sym_left ks A Y B x ht h2 hl
  by_cases q2 : Y.length = 1
  ·obtain ⟨y, rfl⟩ := List.length_eq_one_iff.1 q2
   exact sym_right ks A X B y ht (by omega) hl
  exact sym_step ks A X Y B ht (by omega) (by omega) hl fun A' X' Y' B' g h1 h2 ht hl => sym_ok ks n A' X' Y' B' (by omega) h1 h2 ht hl
end Go.Proofs.Ytpkpfgpfkajkpaa
