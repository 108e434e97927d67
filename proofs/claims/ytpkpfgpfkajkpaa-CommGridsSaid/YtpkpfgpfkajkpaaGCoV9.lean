import Derived.Test.YtpkpfgpfkajkpaaGCoV8
import Derived.Test.YtpkpfgpfkajkpaaGAvA
namespace Go.Proofs.Ytpkpfgpfkajkpaa
open Go.Av Go.Proofs
set_option maxRecDepth 20000
theorem rk_al (t c : List Nat) (w : List Bool) : ∀ (L : List Nat) (n : Nat), (∀ i ∈ L, c.getD i 0 < t.getD i 0) → rkG n (L.map fun i => t.getD i 0) (L.map fun i => w.getD i false) (natI (L.map fun i => c.getD i 0)) = (alG t c n L : Nat)
  | [], n, _ => rfl
  | i :: L, n, h => by
    have h0 := h i (by simp)
    have e : wrapI (w.getD i false) ((c.getD i 0 : Nat) : Int) (t.getD i 0) = (c.getD i 0 : Nat) := by
      unfold wrapI
      split
      · exact Int.emod_eq_of_lt (by omega) (by omega)
      · rfl
    show (if wrapI (w.getD i false) ((c.getD i 0 : Nat) : Int) (t.getD i 0) < 0 ∨ ((t.getD i 0 : Nat) : Int) ≤ wrapI (w.getD i false) ((c.getD i 0 : Nat) : Int) (t.getD i 0) then (-2 : Int)
      else rkG (n * t.getD i 0 + (wrapI (w.getD i false) ((c.getD i 0 : Nat) : Int) (t.getD i 0)).toNat) _ _ _) = _
    rw [e, if_neg (by omega), Int.toNat_natCast]
    exact rk_al t c w L _ fun j hj => h j (by simp [hj])
def someN (t L : List Nat) : List Nat := if L = [] then [1] else L.map fun i => t.getD i 0
theorem someS_N (t L : List Nat) : someS t L = natI (someN t L) := by
  unfold someS someN
  split <;> rfl
theorem some_rk {t c : List Nat} {w : List Bool} {L : List Nat} (h : ∀ i ∈ L, c.getD i 0 < t.getD i 0) : rkG 0 (someN t L) (someW w L) (natI (someC c L)) = (alG t c 0 L : Nat) := by
  unfold someN someW someC
  by_cases hL : L = []
  · subst hL
    rfl
  · rw [if_neg hL, if_neg hL, if_neg hL]
    exact rk_al t c w L 0 h
theorem someN_len (t L : List Nat) (c : List Nat) (w : List Bool) : (someW w L).length = (someN t L).length ∧ (someC c L).length = (someN t L).length ∧ ((someN t L).length = L.length ∨ (someN t L).length = 1) := by
  unfold someN someW someC
  by_cases hL : L = []
  · subst hL
    exact ⟨rfl, rfl, .inr rfl⟩
  · rw [if_neg hL, if_neg hL, if_neg hL]
    exact ⟨by simp, by simp, .inl (by simp)⟩
theorem someN_rng {t L : List Nat} (hs : ∀ a ∈ t, 1 ≤ a ∧ a ≤ 64) (hL : ∀ i ∈ L, i < t.length) : ∀ a ∈ someN t L, 1 ≤ a ∧ a ≤ 64 := by
  unfold someN
  split
  · intro a ha
    rw [List.mem_singleton.1 ha]
    omega
  · intro a ha
    obtain ⟨i, hi, rfl⟩ := List.mem_map.1 ha
    have := hL i hi
    rw [show t.getD i 0 = t[i] by simp [this]]
    exact hs _ (List.getElem_mem this)
theorem ren_part (n a b c : Nat) : Ren (beh n) (.tup [.agg [.hsl 0 0 0 a, .hsl 1 0 0 b], .hsl 2 0 0 c]) (.tup [.agg [.hsl n 0 0 a, .hsl (n + 1) 0 0 b], .hsl (n + 2) 0 0 c]) := by
  have h0 : beh n n 0 = some (0, 0) := by rw [beh_ge (Nat.le_refl _), Nat.sub_self]
  have h1 : beh n (n + 1) 0 = some (1, 0) := by rw [beh_ge (by omega), show n + 1 - n = 1 by omega]
  have h2 : beh n (n + 2) 0 = some (2, 0) := by rw [beh_ge (by omega), show n + 2 - n = 2 by omega]
  refine .tup _ _ rfl fun j x y p q => ?_
  match j with
  | 0 =>
    injection p with p; injection q with q; subst p; subst q
    refine .agg _ _ rfl fun j x y p q => ?_
    match j with
    | 0 => injection p with p; injection q with q; subst p; subst q; exact .hsl _ _ _ _ _ _ h0
    | 1 => injection p with p; injection q with q; subst p; subst q; exact .hsl _ _ _ _ _ _ h1
    | j + 2 => simp at p
  | 1 => injection p with p; injection q with q; subst p; subst q; exact .hsl _ _ _ _ _ _ h2
  | j + 2 => simp at p
theorem sc_intsR (l : List Int) : ∀ r ∈ intsR l, ∀ c ∈ r, ∃ v, c = AV.sc v := fun r hr c hc => by
  obtain ⟨n, _, rfl⟩ := List.mem_map.1 hr
  exact ⟨_, List.mem_singleton.1 hc⟩
theorem sc_boolsR (l : List Bool) : ∀ r ∈ boolsR l, ∀ c ∈ r, ∃ v, c = AV.sc v := fun r hr c hc => by
  obtain ⟨n, _, rfl⟩ := List.mem_map.1 hr
  exact ⟨_, List.mem_singleton.1 hc⟩
theorem part_at (t : List Nat) (w u : List Bool) (c : List Nat) (p : Bool) (hw : w.length = t.length) (hu : u.length = t.length) (hc : c.length = t.length) (h4 : t.length ≤ 4) (H : Heap) (G : List AV) (x : AV) (hG : G = [.list 1 (intsR (natI t)), .list 1 (boolsR w)])
    (hx : To (ToT (H ++ gh []) H.length (notIn [])) (rho []) x (.list 1 (natsR c))) :
    CallOK Try.prog 100 [.agg G, .list 1 (boolsR u), .sc (.bool p), x] H fun res H' =>
      res = .tup [.agg [.hsl H.length 0 0 (someS t (idxL u p t.length)).length, .hsl (H.length + 1) 0 0 (someW w (idxL u p t.length)).length], .hsl (H.length + 2) 0 0 (someC c (idxL u p t.length)).length] ∧
      H' = H ++ [[.cells 1 (intsR (someS t (idxL u p t.length)))], [.cells 1 (boolsR (someW w (idxL u p t.length)))], [.cells 1 (natsR (someC c (idxL u p t.length)))]] := by
  subst hG
  refine CallOK.viewG (part_ok t w u c p hw hu hc h4) (ToL.cons (To.pure (grid_pure _ _)) (ToL.cons (To.pure (.list _ _ (prs _))) (ToL.cons (To.sc _) (ToL.cons hx ToL.nil)))) ?_ (ren_part _ _ _ _) ?_
  · refine .tup _ fun c hc => ?_
    simp only [List.mem_cons, List.not_mem_nil, or_false] at hc
    rcases hc with rfl | rfl
    · refine .agg _ fun c hc => ?_
      simp only [List.mem_cons, List.not_mem_nil, or_false] at hc
      rcases hc with rfl | rfl <;> exact .hsl ..
    · exact .hsl ..
  · intro l hl y hy
    simp only [List.mem_cons, List.not_mem_nil, or_false] at hl
    rcases hl with rfl | rfl | rfl <;> rw [List.mem_singleton.1 hy]
    · exact ⟨_, _, rfl, sc_intsR _⟩
    · exact ⟨_, _, rfl, sc_boolsR _⟩
    · rw [natsR_I]; exact ⟨_, _, rfl, sc_intsR _⟩
set_option maxHeartbeats 16000000 in
theorem sub_doc (s : List Int) (w u : List Bool) : PureRun Try.prog 56 [gridV s w, .list 1 (boolsR u)] (subAV (subA s w u)) := by
  refine PureRun.of (allPure_cons (grid_pure _ _) (allPure_cons (.list _ _ (prs _)) allPure_nil)) (sub_pure _) (CallOK.mono (R := fun res H' => res = subAV (subA s w u) ∧ H' = []) ?_ fun _ _ h => h.1)
  refine CallOK.of cF56 ?_ (Nat.le_of_ble_eq_true rfl)
  have hc := good_ok s w
  obtain ⟨g1, g2⟩ := good_cnt s w
  have l1 := intsR_len s
  have l2 := boolsR_len u
  by_cases h : cntE s w = 0
  · have e : subA s w u = (([], []), ([], []), 2) := if_pos h
    rw [h] at g1
    rw [g1] at hc
    rw [e]
    unfold subAV
    unfold gridV at hc ⊢
    refine walkX ?_
    exact endW [] (⟨rfl, rfl⟩)
  have e0 : subA s w u = if u.length ≠ s.length then (([], []), ([], []), 26) else subE (nats s) w u := if_neg h
  obtain ⟨t, rfl, hw, h1, h4, hs, hn, hn64⟩ := cntE_good (s := s) (w := w) (by omega)
  rw [decide_eq_true (by omega)] at g1
  rw [g1, g2 g1, hn] at hc
  rw [natI_len] at l1
  rw [natI_len, nats_I] at e0
  rw [hn] at h
  by_cases hl : u.length = t.length
  case neg =>
    rw [if_pos hl] at e0
    rw [e0]
    generalize prodN t = n at *
    unfold subAV
    unfold gridV at hc ⊢
    refine walkX ?_
    rw [l1, l2, decide_eq_false hl]
    refine walkX ?_
    exact endW [] (⟨rfl, rfl⟩)
  rw [if_neg (by omega)] at e0
  rw [e0]
  unfold subAV subE
  dsimp only
  have hco := fun r hr H => coordsD_at t w r h4 hs hr H
  have hpT := fun r H G x hG hx => part_at t w u (coordN t r) true hw hl (coordN_len t r) h4 H G x hG hx
  have hpF := fun r H G x hG hx => part_at t w u (coordN t r) false hw hl (coordN_len t r) h4 H G x hG hx
  have hK := @idxL_lt u true t.length
  have hO := @idxL_lt u false t.length
  have hK2 := idxL_len u true t.length
  have hO2 := idxL_len u false t.length
  rw [← natsR_I, ← natsR_I]
  have hn0 := h
  generalize hn' : prodN t = n at *
  generalize idxL u true t.length = K at *
  generalize idxL u false t.length = O at *
  have kl := fun c => someN_len t K c w
  have ol := fun c => someN_len t O c w
  have hrk := fun r => rank_doc (someN t K) (someW w K) (natI (someC (coordN t r) K)) (kl []).1 (by rw [natI_len]; exact (kl _).2.1) (by have := (kl []).2.2; omega) (someN_rng hs hK)
  have hro := fun r => rank_doc (someN t O) (someW w O) (natI (someC (coordN t r) O)) (ol []).1 (by rw [natI_len]; exact (ol _).2.1) (by have := (ol []).2.2; omega) (someN_rng hs hO)
  have hcg : ∀ r i, i < t.length → (coordN t r).getD i 0 < t.getD i 0 := fun r i hi => by
    have h2 := coordN_len t r
    have h3 := coord_rng t r hs i (by omega) hi
    rw [show t.getD i 0 = t[i] by simp [hi], show (coordN t r).getD i 0 = (coordN t r)[i]'(by omega) by simp [hi, h2]]
    exact h3
  have ek : ∀ r, rkG 0 (someN t K) (someW w K) (natI (someC (coordN t r) K)) = (alG t (coordN t r) 0 K : Nat) := fun r => some_rk fun i hi => hcg r i (hK i hi)
  have eo : ∀ r, rkG 0 (someN t O) (someW w O) (natI (someC (coordN t r) O)) = (alG t (coordN t r) 0 O : Nat) := fun r => some_rk fun i hi => hcg r i (hO i hi)
  simp only [ek] at hrk
  simp only [eo] at hro
  simp only [← someS_N, ← natsR_I] at hrk hro
  clear ek eo hcg
  have lsK := intsR_len (someS t K)
  have lsO := intsR_len (someS t O)
  have lwK := boolsR_len (someW w K)
  have lwO := boolsR_len (someW w O)
  have lcK := fun r => natsR_len (someC (coordN t r) K)
  have lcO := fun r => natsR_len (someC (coordN t r) O)
  generalize someS t K = SK at *
  generalize someS t O = SO at *
  generalize someW w K = WK at *
  generalize someW w O = WO at *
  unfold gridV at hc hco hrk hro ⊢
  refine walkX ?_
  rw [l1, l2, decide_eq_true hl]
  refine walkX ?_
  refine AWP.loop (fun k : Nat => [(1, .list 1 (boolsR u)), (2, .ptr 0 0 0 0), (4, .ptr 1 0 0 0), (8, .sc (.int .i64 (n : Int))), (10, .ptr 2 0 0 0), (11, .hsl 3 0 0 k), (12, .hsl 4 0 0 k), (13, .sc (.int .i64 (k : Int)))])
    (fun k => [[.cells 2 [[.list 1 (intsR (natI t)), .list 1 (boolsR w)]]], [.cells 2 [[.sc (.slice none 0 0), .sc (.slice none 0 0)]]], [.cells 2 [[.list 1 (intsR (if k = 0 then [] else SK)), .list 1 (boolsR (if k = 0 then [] else WK))]]], [.cells 1 (natsR (partN t O k))], [.cells 1 (natsR (partN t K k))]])
    (fun k => k ≤ n) (fun k => n - k) 0 (Nat.zero_le _) ?_ ?_
  · (apply Sub.to [1,1] [[(0,0)],[(1,0)],[(2,0)],[(3,0)],[(4,0)]]; all_goals (repeat' (first | exact ToAll.nil | exact famsTo.nil | exact famTo.nil | exact ToL.nil | exact ToR.nil | refine ToAll.cons ?_ ?_ | refine famsTo.cons ?_ ?_ | refine wt10 ?_ ?_ | exact To.undef _ | exact To.sc _ | exact To.hslL rfl rfl | exact To.ptrO rfl rfl rfl | exact To.mrefO rfl | exact To.nil rfl rfl rfl | exact wt1 | exact To.nilL | refine To.int ?_ | refine To.bool ?_ | refine To.hslL rfl ?_ | refine wt2 rfl ?_ ?_ ?_ | refine To.tupL ?_ | refine To.aggL ?_ | refine To.cptrL ?_ | refine wt3 ?_ | refine wt4 ?_ | refine To.cloL ?_ ?_ | refine ToB.one ?_ | exact wt5 | refine wt6 ?_ | ((with_reducible apply ToL.consE); case e9 => rfl) | refine ToL.cons ?_ ?_ | exact wt7 | refine wt8 ?_ | exact wt11 | refine wt9 ?_ ?_ | refine wt12 ?_ | (with_reducible rfl) | assumption)); all_goals (first | rfl | assumption | (simp; done) | (simp; omega) | (rw [wrap_small (by omega) (by omega)]; done) | (rw [wrap_small (by omega) (by omega)]; omega) | (refine congrArg Nat.cast ?_; assumption) | skip))
  rintro k hk
  refine walkX0 ?_
  refine AWP.condD rfl (fun h => ?_) (fun h => ?_)
  · have m1 := partN_succ t O k
    have m2 := partN_succ t K k
    have n1 : (natsR (partN t O k)).length = k := by rw [natsR_len, partN_len]
    have n2 : (natsR (partN t K k)).length = k := by rw [natsR_len, partN_len]
    have c1 := coordN_len t k
    have c2 : (natsR (coordN t k)).length = t.length := by rw [natsR_len, c1]
    have vK := hrk k
    have vO := hro k
    have hpTk := hpT k
    have hpFk := hpF k
    clear hpT hpF
    have lK := lcK k
    have lO := lcO k
    have hs0 : (if k + 1 = 0 then [] else SK) = SK := if_neg (by omega)
    have hs1 : (if k + 1 = 0 then [] else WK) = WK := if_neg (by omega)
    have e6 : ∀ (o : List Nat) (x : Nat), natsR (o ++ [x]) = natsR o ++ [[.sc (.int .i64 (x : Int))]] := fun o x => by simp [natsR]
    generalize partN t O k = PO at *
    generalize partN t K k = PK at *
    generalize alG t (coordN t k) 0 O = xo at *
    generalize alG t (coordN t k) 0 K = xk at *
    generalize someC (coordN t k) O = CO at *
    generalize someC (coordN t k) K = CK at *
    generalize (if k = 0 then [] else SK) = S0 at *
    generalize (if k = 0 then [] else WK) = W0 at *
    refine walkX0 ?_
    refine AWP.joinT0 [(1, .list 1 (boolsR u)), (2, .ptr 0 0 0 0), (4, .ptr 1 0 0 0), (8, .sc (.int .i64 (n : Int))), (10, .ptr 2 0 0 0), (11, .hsl 3 0 0 k), (12, .hsl 4 0 0 k), (13, .sc (.int .i64 (k : Int))), (14, .ptr 5 0 0 0), (15, .list 1 (natsR CK))] [[.cells 2 [[.list 1 (intsR (natI t)), .list 1 (boolsR w)]]], [.cells 2 [[.sc (.slice none 0 0), .sc (.slice none 0 0)]]], [.cells 2 [[.list 1 (intsR S0), .list 1 (boolsR W0)]]], [.cells 1 (natsR PO)], [.cells 1 (natsR PK)], [.cells 2 [[.list 1 (intsR SK), .list 1 (boolsR WK)]]]] ?_ ?_
    · refine AWP.lin2 (.take 0 (.take 1 (.take 2 (.take 3 (.two 4 (.two 5 (.take 6 (.take 7 (.take 8 (.take 11 (.only 9 (.only 10 .nil)))))) 9 (.only 5 (.take 6 (.take 7 (.take 8 (.take 11 (.only 10 .nil))))))) 9 (.only 4 (.only 5 (.take 6 (.take 7 (.take 8 (.take 11 (.only 10 .nil)))))))))))) mixed (by kernel_rfl) (by kernel_rfl) ?_
      refine walkL2 ?_
      refine LP2.w ?_ ?_
      · refine RT.cc (Nat.zero_le _) rfl (hco k (by omega) _) ?_
        rintro res H' ⟨rfl, rfl⟩
        refine ⟨(by repeat (first | exact trivial | exact Keeps.refl _ _ | refine And.intro rfl ?_)), ?_⟩
        refine walkL2 ?_
        refine LP2.w ?_ ?_
        · refine RT.cc (Nat.zero_le _) rfl (hpTk _ _ _ rfl (wt2 rfl rfl c2 rfl)) ?_
          rintro res H' ⟨rfl, rfl⟩
          refine ⟨(by repeat (first | exact trivial | exact Keeps.refl _ _ | refine And.intro rfl ?_)), ?_⟩
          refine walkL2 ?_
          exact Sub.wx [] [[(0,0)],[(1,0)],[(2,0)],[(3,0)],[(4,0)],[(9,0)]]
        · refine walkL2 ?_
          refine RT.cc (Nat.zero_le _) rfl (hpTk _ _ _ rfl (wt2 rfl rfl c2 rfl)) ?_
          rintro res H' ⟨rfl, rfl⟩
          refine ⟨(by repeat (first | exact trivial | exact Keeps.refl _ _ | refine And.intro rfl ?_)), ?_⟩
          refine walkL2 ?_
          exact Sub.wx [] [[(0,0)],[(1,0)],[(2,0)],[(3,0)],[(4,0)],[(6,0)]]
      · refine walkL2 ?_
        refine RT.cc (Nat.zero_le _) rfl (hco k (by omega) _) ?_
        rintro res H' ⟨rfl, rfl⟩
        refine ⟨(by repeat (first | exact trivial | exact Keeps.refl _ _ | refine And.intro rfl ?_)), ?_⟩
        refine walkL2 ?_
        refine RT.cc (Nat.zero_le _) rfl (hpTk _ _ _ rfl (wt2 rfl rfl c2 rfl)) ?_
        rintro res H' ⟨rfl, rfl⟩
        refine ⟨(by repeat (first | exact trivial | exact Keeps.refl _ _ | refine And.intro rfl ?_)), ?_⟩
        refine walkL2 ?_
        exact Sub.wx [] [[(0,0)],[(1,0)],[(2,0)],[(3,0)],[(4,0)],[(5,0)]]
    refine walkX0 ?_
    refine AWP.joinT0 [(1, .list 1 (boolsR u)), (2, .ptr 0 0 0 0), (4, .ptr 1 0 0 0), (8, .sc (.int .i64 (n : Int))), (10, .ptr 2 0 0 0), (11, .hsl 3 0 0 k), (12, .hsl 4 0 0 k), (13, .sc (.int .i64 (k : Int))), (14, .ptr 5 0 0 0), (15, .list 1 (natsR CK)), (16, .ptr 6 0 0 0), (17, .list 1 (natsR CO))] [[.cells 2 [[.list 1 (intsR (natI t)), .list 1 (boolsR w)]]], [.cells 2 [[.sc (.slice none 0 0), .sc (.slice none 0 0)]]], [.cells 2 [[.list 1 (intsR S0), .list 1 (boolsR W0)]]], [.cells 1 (natsR PO)], [.cells 1 (natsR PK)], [.cells 2 [[.list 1 (intsR SK), .list 1 (boolsR WK)]]], [.cells 2 [[.list 1 (intsR SO), .list 1 (boolsR WO)]]]] ?_ ?_
    · refine AWP.lin2 (.take 0 (.take 1 (.take 2 (.take 3 (.two 4 (.two 5 (.take 6 (.take 7 (.take 8 (.take 11 (.only 9 (.only 10 .nil)))))) 9 (.only 5 (.take 6 (.take 7 (.take 8 (.take 11 (.only 10 .nil))))))) 9 (.only 4 (.only 5 (.take 6 (.take 7 (.take 8 (.take 11 (.only 10 .nil)))))))))))) mixed (by kernel_rfl) (by kernel_rfl) ?_
      refine walkL2 ?_
      refine LP2.w ?_ ?_
      · refine RT.cc (Nat.zero_le _) rfl (hco k (by omega) _) ?_
        rintro res H' ⟨rfl, rfl⟩
        refine ⟨(by repeat (first | exact trivial | exact Keeps.refl _ _ | refine And.intro rfl ?_)), ?_⟩
        refine walkL2 ?_
        refine LP2.w ?_ ?_
        · refine RT.cc (Nat.zero_le _) rfl (hpFk _ _ _ rfl (wt2 rfl rfl c2 rfl)) ?_
          rintro res H' ⟨rfl, rfl⟩
          refine ⟨(by repeat (first | exact trivial | exact Keeps.refl _ _ | refine And.intro rfl ?_)), ?_⟩
          refine walkL2 ?_
          exact Sub.wx [] [[(0,0)],[(1,0)],[(2,0)],[(3,0)],[(4,0)],[(5,0)],[(10,0)]]
        · refine walkL2 ?_
          refine RT.cc (Nat.zero_le _) rfl (hpFk _ _ _ rfl (wt2 rfl rfl c2 rfl)) ?_
          rintro res H' ⟨rfl, rfl⟩
          refine ⟨(by repeat (first | exact trivial | exact Keeps.refl _ _ | refine And.intro rfl ?_)), ?_⟩
          refine walkL2 ?_
          exact Sub.wx [] [[(0,0)],[(1,0)],[(2,0)],[(3,0)],[(4,0)],[(5,0)],[(7,0)]]
      · refine walkL2 ?_
        refine RT.cc (Nat.zero_le _) rfl (hco k (by omega) _) ?_
        rintro res H' ⟨rfl, rfl⟩
        refine ⟨(by repeat (first | exact trivial | exact Keeps.refl _ _ | refine And.intro rfl ?_)), ?_⟩
        refine walkL2 ?_
        refine RT.cc (Nat.zero_le _) rfl (hpFk _ _ _ rfl (wt2 rfl rfl c2 rfl)) ?_
        rintro res H' ⟨rfl, rfl⟩
        refine ⟨(by repeat (first | exact trivial | exact Keeps.refl _ _ | refine And.intro rfl ?_)), ?_⟩
        refine walkL2 ?_
        exact Sub.wx [] [[(0,0)],[(1,0)],[(2,0)],[(3,0)],[(4,0)],[(5,0)],[(6,0)]]
    refine walkX ?_
    refine DK.nil ⟨by kernel_rfl, ?_⟩
    refine walkX ?_
    refine ⟨k + 1, by omega, by omega, ?_⟩
    rw [m1, m2, e6, e6, hs0, hs1]
    (apply Sub.to [] [[(0,0)],[(1,0)],[(2,0)],[(7,5)],[(7,11)]]; all_goals (repeat' (first | exact ToAll.nil | exact famsTo.nil | exact famTo.nil | exact ToL.nil | exact ToR.nil | refine ToAll.cons ?_ ?_ | refine famsTo.cons ?_ ?_ | refine wt10 ?_ ?_ | exact To.undef _ | exact To.sc _ | exact To.hslL rfl rfl | exact To.ptrO rfl rfl rfl | exact To.mrefO rfl | exact To.nil rfl rfl rfl | exact wt1 | exact To.nilL | refine To.int ?_ | refine To.bool ?_ | refine To.hslL rfl ?_ | refine wt2 rfl ?_ ?_ ?_ | refine To.tupL ?_ | refine To.aggL ?_ | refine To.cptrL ?_ | refine wt3 ?_ | refine wt4 ?_ | refine To.cloL ?_ ?_ | refine ToB.one ?_ | exact wt5 | refine wt6 ?_ | ((with_reducible apply ToL.consE); case e9 => rfl) | refine ToL.cons ?_ ?_ | exact wt7 | refine wt8 ?_ | exact wt11 | refine wt9 ?_ ?_ | refine wt12 ?_ | (with_reducible rfl) | assumption)); all_goals (first | rfl | assumption | (simp; done) | (simp; omega) | (rw [wrap_small (by omega) (by omega)]; done) | (rw [wrap_small (by omega) (by omega)]; omega) | (refine congrArg Nat.cast ?_; assumption) | skip))
  have hk : k = n := by omega
  subst hk
  have n1 : (natsR (partN t O k)).length = k := by rw [natsR_len, partN_len]
  have n2 : (natsR (partN t K k)).length = k := by rw [natsR_len, partN_len]
  rw [if_neg hn0, if_neg hn0]
  refine walkX ?_
  exact endW [] (⟨rfl, rfl⟩)
end Go.Proofs.Ytpkpfgpfkajkpaa
