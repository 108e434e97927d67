import Derived.Test.YtnngbbiajioghaaGSuB9
import Derived.Test.YtnngbbiajioghaaGSuW2
import Derived.Test.YtnngbbiajioghaaGSuL12
import Derived.Test.YtnngbbiajioghaaGAvL2
import Derived.Test.YtnngbbiajioghaaGSuR6
namespace Go.Proofs.Ytnngbbiajioghaa
open Go.Av Go.Proofs
set_option exponentiation.threshold 4000
set_option maxRecDepth 20000

/-! SumScans: plain. -/
theorem value_lt (s : St) : s.value < 18446744073709551616 := by
  unfold St.value
  have h1 := roundN_le (2 ^ 2304 - s.n)
  have h2 := roundN_le s.n
  have h3 : roundN (2 ^ 2304 - s.n) < 2 ^ 64 := by unfold infN at h1; omega
  have h4 := Nat.or_lt_two_pow (x := signN) (n := 64) (by decide) h3
  unfold infN at h2
  split
  · decide
  · split
    · decide
    · split
      · decide
      · split
        · decide
        · split
          · exact h4
          · omega

theorem valid_zero (kind : Int) (n : Nat) : validS kind [(n, 0)] = true := by unfold validS; simp
theorem reduceS_inv {op kind : Int} (hc : checkE op kind = 0) {l : List Vl} (h0 : l ≠ []) (hb : ∀ v ∈ l, v.1 < 18446744073709551616) (hv : ∀ v ∈ l, validS kind [v] = true) :
    (reduceS op kind l).1 < 18446744073709551616 ∧ validS kind [reduceS op kind l] = true := by
  cases l with
  | nil => exact absurd rfl h0
  | cons v r =>
    rw [reduceS_cons]
    split
    · exact ⟨value_lt _, valid_zero _ _⟩
    · have hbv := hb v (List.mem_cons_self ..)
      have hvv := hv v (List.mem_cons_self ..)
      have hst : (start op kind v).1 < 18446744073709551616 ∧ validS kind [start op kind v] = true := by
        unfold start
        split
        · exact fold_inv hc [v] v hbv (by simpa using hbv) hvv (by simpa using hvv)
        · exact ⟨hbv, hvv⟩
      exact fold_inv hc r _ hst.1 (fun u hu => hb u (List.mem_cons_of_mem _ hu)) hst.2 fun u hu => hv u (List.mem_cons_of_mem _ hu)
theorem redS_good {op kind : Int} (hc : checkE op kind = 0) {l : List Vl} (h0 : l ≠ []) (hv : ∀ v ∈ l, validS kind [v] = true) : redS op kind l = (reduceS op kind l, 0) := by
  have := (validS_iff kind l).2 hv
  unfold redS
  rw [if_neg (by omega), if_neg (by simp [h0, this])]
theorem scanL_len (op kind : Int) (l : List Vl) : (scanL op kind l).length = l.length := by simp [scanL]
theorem scanL_get (op kind : Int) (l : List Vl) (i : Nat) (h : i < l.length) : (scanL op kind l)[i]? = some (reduceS op kind (l.take (i + 1))) := by simp [scanL, h]
theorem scanL_inv {op kind : Int} (hc : checkE op kind = 0) {l : List Vl} (hb : ∀ v ∈ l, v.1 < 18446744073709551616) (hv : ∀ v ∈ l, validS kind [v] = true) : ∀ v ∈ scanL op kind l, v.1 < 18446744073709551616 ∧ validS kind [v] = true := fun v hm => by
  obtain ⟨i, hi, rfl⟩ := List.mem_map.1 hm
  have hi := List.mem_range.1 hi
  exact reduceS_inv hc (take_ne hi) (fun u hu => hb u (List.mem_of_mem_take hu)) fun u hu => hv u (List.mem_of_mem_take hu)
theorem redsS_two {op kind : Int} (hc : checkE op kind = 0) {l s : List Vl} (hl : s.length = l.length) (hv : ∀ v ∈ l, validS kind [v] = true) (hs : ∀ v ∈ s, validS kind [v] = true) :
    redsS op kind [l, s] = ((List.range l.length).map fun c => reduceS op kind [l.getD c (0, 0), s.getD c (0, 0)], 0) := by
  have h1 := (validS_iff kind l).2 hv
  have h2 := (validS_iff kind s).2 hs
  unfold redsS
  rw [if_neg (by omega), if_neg (by simp), if_neg (by simp [hl]), if_neg (by simp [h1, h2])]
  rfl
/-- Values of a kind without places. -/
def clr (kind : Int) (l : List Vl) : List Vl := if kind = 3 then l else l.map fun v => (v.1, 0)
theorem clr_len (kind : Int) (l : List Vl) : (clr kind l).length = l.length := by unfold clr; split <;> simp
theorem clr_inv {kind : Int} {l : List Vl} (hb : ∀ v ∈ l, v.1 < 18446744073709551616) : ∀ v ∈ clr kind l, v.1 < 18446744073709551616 ∧ validS kind [v] = true := fun v hm => by
  unfold clr at hm
  split at hm
  · rename_i h
    exact ⟨hb v hm, by unfold validS; simp [h]⟩
  · obtain ⟨u, hu, rfl⟩ := List.mem_map.1 hm
    exact ⟨hb u hu, valid_zero _ _⟩

end Go.Proofs.Ytnngbbiajioghaa
namespace Go.Proofs.Ytnngbbiajioghaa
open Go.Av Go.Proofs
set_option exponentiation.threshold 4000
set_option maxRecDepth 20000

/-! SumScans: the walk. -/
theorem eqVn (v : Nat) (p : Int) : (true != (decide ((v : Int) = v) && (decide (p = p) && true))) = false := by simp

theorem red_view {H : Heap} {g i : Nat} {a b : Vl} {op kind : Int} {z : Vl} (hx : hget H g i = some (.cells 2 [vrow a, vrow b])) (h : PureRun Try.prog 31 [.sc (.int .i64 op), .sc (.int .i64 kind), vsV [a, b]] (.tup [.agg (vrow z), .sc (.int .i64 0)])) :
    CallOK Try.prog 31 [.sc (.int .i64 op), .sc (.int .i64 kind), .hsl g i 0 2] H fun res H' => res = .tup [.agg (vR z.1 z.2), .sc (.int .i64 0)] ∧ H' = H :=
  CallOK.view (args' := [.sc (.int .i64 op), .sc (.int .i64 kind), vsV [a, b]]) h (.tup _ (fun c hc => by
      simp only [List.mem_cons, List.not_mem_nil, or_false] at hc
      rcases hc with rfl | rfl
      · exact .agg _ (fun c hc => by simp [vrow, vR] at hc; rcases hc with rfl | rfl <;> exact .sc _)
      · exact .sc _)) (ToL.cons (To.sc _) (ToL.cons (To.sc _) (ToL.cons (wt2 (hget_gh hx) rfl rfl rfl) ToL.nil))) ⟨rfl, rfl⟩

set_option maxHeartbeats 4000000 in
theorem sc_last (op kind : Int) (L S : List Vl) (hc : checkE op kind = 0) (hn : S.length = L.length) (hl : L.length ≤ 20) (hL : ∀ v ∈ L, v.1 < 18446744073709551616 ∧ validS kind [v] = true) (hS : ∀ v ∈ S, v.1 < 18446744073709551616 ∧ validS kind [v] = true) :
    AWP Try.prog F12.n 0 (pickI [1, 1, 1, 1, 1, 1, 1, 1] F12.code) (EndP F12.res (.sc (.bool true))) [(0, .sc (.int .i64 op)), (1, .sc (.int .i64 kind)), (2, vsV L), (10, vsV S), (15, vsV ((List.range L.length).map fun c => reduceS op kind [L.getD c (0, 0), S.getD c (0, 0)]))] [] := by
  have hw := works_ok
  have eL := vsR_len L
  have eS := vsR_len S
  have hRl : ((List.range L.length).map fun c => reduceS op kind [L.getD c (0, 0), S.getD c (0, 0)]).length = L.length := by simp
  have hRg : ∀ i, i < L.length → ((List.range L.length).map fun c => reduceS op kind [L.getD c (0, 0), S.getD c (0, 0)])[i]? = some (reduceS op kind [L.getD i (0, 0), S.getD i (0, 0)]) := fun i hi => by simp [hi]
  generalize ((List.range L.length).map fun c => reduceS op kind [L.getD c (0, 0), S.getD c (0, 0)]) = R at *
  have eR := vsR_len R
  show AWP Try.prog F12.n 0 (.seq _ _) _ _ _
  refine walkX0 ?_
  rw [eR, hRl]
  refine AWP.loop (fun i : Nat => [(0, .sc (.int .i64 op)), (1, .sc (.int .i64 kind)), (2, vsV L), (10, vsV S), (15, vsV R), (116, .sc (.int .i64 (L.length : Int))), (117, .sc (.int .i64 (i : Int)))]) (fun _ => []) (fun i => i ≤ L.length) (fun i => L.length - i) 0 (Nat.zero_le _) ?_ ?_
  · exact Sub.w [] []
  intro i hi
  refine walkX0 ?_
  refine AWP.condD rfl (fun h => ?_) (fun h => ?_)
  · have x1 : rowIx (vsR L) (i : Int) = some (vR (L.getD i (0, 0)).1 (L.getD i (0, 0)).2) := by rw [vsR_ix L i h, getD_get h]; rfl
    have x2 : rowIx (vsR S) (i : Int) = some (vR (S.getD i (0, 0)).1 (S.getD i (0, 0)).2) := by rw [vsR_ix S i (by omega), getD_get (by omega)]; rfl
    have x3 : rowIx (vsR R) (i : Int) = some (vR (reduceS op kind [L.getD i (0, 0), S.getD i (0, 0)]).1 (reduceS op kind [L.getD i (0, 0), S.getD i (0, 0)]).2) := by
      have := hRg i h
      show (vsR R)[i]? = _
      unfold vsR
      rw [List.getElem?_map, this]
      rfl
    have g1 : ∀ v ∈ [L.getD i (0, 0), S.getD i (0, 0)], v.1 < 18446744073709551616 ∧ validS kind [v] = true := fun v hv => by
      simp only [List.mem_cons, List.not_mem_nil, or_false] at hv
      rcases hv with rfl | rfl
      · rw [getD_get h]; exact hL _ (List.getElem_mem h)
      · rw [getD_get (by omega)]; exact hS _ (List.getElem_mem _)
    have hr := red_ok op kind [L.getD i (0, 0), S.getD i (0, 0)] (by simp) (fun v hv => (g1 v hv).1)
    rw [redS_good hc (by simp) (fun v hv => (g1 v hv).2)] at hr
    generalize reduceS op kind [L.getD i (0, 0), S.getD i (0, 0)] = z at *
    generalize L.getD i (0, 0) = a at *
    generalize S.getD i (0, 0) = b at *
    obtain ⟨a1, a2⟩ := a
    obtain ⟨b1, b2⟩ := b
    refine AWP.skip ?_
    refine AWP.seq ?_
    refine AWP.block ?_
    refine AWP.seq ?_
    refine AWP.region ?_
    refine walkR ?_
    refine AWP.seq ?_
    refine AWP.joinT0 [(0, .sc (.int .i64 op)), (1, .sc (.int .i64 kind)), (2, vsV L), (10, vsV S), (15, vsV R), (116, .sc (.int .i64 (L.length : Int))), (117, .sc (.int .i64 (i : Int))), (17, .sc (.int .i64 (i : Int))), (18, .ptr 0 0 0 0), (19, .sc (.int .i64 0))] [[.cells 2 [vR z.1 z.2]]] ?_ ?_
    · refine AWP.lin2 (.take 0 (.take 1 (.take 2 (.take 3 (.take 4 (.take 5 (.take 6 (.take 7 (.take 8 (.take 9 (.two 10 (.two 11 (.take 12 (.take 13 (.take 14 (.take 17 (.only 15 (.only 16 .nil)))))) 15 (.only 11 (.take 12 (.take 13 (.take 14 (.take 17 (.only 16 .nil))))))) 15 (.only 10 (.only 11 (.take 12 (.take 13 (.take 14 (.take 17 (.only 16 .nil)))))))))))))))))) mixed (by kernel_rfl) (by kernel_rfl) ?_
      refine walkL2 ?_
      refine LP2.w ?_ ?_
      · refine walkL2 ?_
        refine LP2.w ?_ ?_
        · refine RT.cc (Nat.zero_le _) rfl (red_view (z := z) (a := (a1, a2)) (b := (b1, b2)) rfl hr) ?_
          rintro res H' ⟨rfl, rfl⟩
          refine ⟨(by repeat (first | exact trivial | exact Keeps.refl _ _ | refine And.intro rfl ?_)), ?_⟩
          refine walkL2 ?_
          exact Sub.w [] [[(1,0)]]
        · refine walkL2 ?_
          refine RT.cc (Nat.zero_le _) rfl (red_view (z := z) (a := (a1, a2)) (b := (b1, b2)) rfl hr) ?_
          rintro res H' ⟨rfl, rfl⟩
          refine ⟨(by repeat (first | exact trivial | exact Keeps.refl _ _ | refine And.intro rfl ?_)), ?_⟩
          refine walkL2 ?_
          exact Sub.w [] [[(1,0)]]
      · refine walkL2 ?_
        refine RT.cc (Nat.zero_le _) rfl (red_view (z := z) (a := (a1, a2)) (b := (b1, b2)) rfl hr) ?_
        rintro res H' ⟨rfl, rfl⟩
        refine ⟨(by repeat (first | exact trivial | exact Keeps.refl _ _ | refine And.intro rfl ?_)), ?_⟩
        refine walkL2 ?_
        exact Sub.w [] [[(0,0)]]
    clear hr
    obtain ⟨z1, z2⟩ := z
    refine walkX ?_
    rw [eqVn]
    refine DK.nil ⟨by kernel_rfl, ?_⟩
    refine walkX ?_
    refine ⟨i + 1, by omega, by omega, ?_⟩
    exact Sub.w [] []
  · refine walkX ?_
    exact EndP.w

end Go.Proofs.Ytnngbbiajioghaa
namespace Go.Proofs.Ytnngbbiajioghaa
open Go.Av Go.Proofs
set_option exponentiation.threshold 4000
set_option maxRecDepth 20000

set_option maxHeartbeats 4000000 in
theorem sc_rest (op kind : Int) (L : List Vl) (hc : checkE op kind = 0) (h0 : L ≠ []) (hl : L.length ≤ 20) (hL : ∀ v ∈ L, v.1 < 18446744073709551616 ∧ validS kind [v] = true) :
    AWP Try.prog F12.n 0 (pickI [1, 1, 1] F12.code) (EndP F12.res (.sc (.bool true))) [(0, .sc (.int .i64 op)), (1, .sc (.int .i64 kind)), (2, vsV L)] [] := by
  have hw := works_ok
  have eL := vsR_len L
  have hsc := scan_ok op kind L (by omega) (fun v hv => (hL v hv).1)
  have hvL : validS kind L = true := (validS_iff kind L).2 fun v hv => (hL v hv).2
  have e : scanS op kind L = (scanL op kind L, 0) := by
    unfold scanS
    rw [if_neg (by omega), if_neg (by rw [hvL]; simp)]
  rw [e] at hsc
  have hSl := scanL_len op kind L
  have hSi := scanL_inv hc (fun v hv => (hL v hv).1) (fun v hv => (hL v hv).2)
  have hSg := scanL_get op kind L
  have hlast := sc_last op kind L (scanL op kind L) hc hSl hl hL hSi
  have hreds := reds_ok op kind [L, scanL op kind L] (by simp) (fun r hr => by
    simp only [List.mem_cons, List.not_mem_nil, or_false] at hr
    rcases hr with rfl | rfl <;> omega) (fun r hr v hv => by
    simp only [List.mem_cons, List.not_mem_nil, or_false] at hr
    rcases hr with rfl | rfl
    · exact (hL v hv).1
    · exact (hSi v hv).1)
  rw [redsS_two hc hSl (fun v hv => (hL v hv).2) (fun v hv => (hSi v hv).2)] at hreds
  have hRl : ((List.range L.length).map fun c => reduceS op kind [L.getD c (0, 0), (scanL op kind L).getD c (0, 0)]).length = L.length := by simp
  generalize ((List.range L.length).map fun c => reduceS op kind [L.getD c (0, 0), (scanL op kind L).getD c (0, 0)]) = R at *
  generalize scanL op kind L = S at *
  have eS := vsR_len S
  have eR := vsR_len R
  change PureRun Try.prog 46 [_, _, vsV L] (.tup [vsV S, .sc (.int .i64 0)]) at hsc
  change PureRun Try.prog 42 [_, _, rwV [L, S]] (.tup [vsV R, .sc (.int .i64 0)]) at hreds
  show AWP Try.prog F12.n 0 (.seq _ _) _ _ _
  refine walkX0 ?_
  rw [eL, eS, hSl, show decide (L.length = L.length) = true from decide_eq_true rfl]
  refine walkX0 ?_
  rw [eS, hSl]
  refine AWP.loop (fun i : Nat => [(0, .sc (.int .i64 op)), (1, .sc (.int .i64 kind)), (2, vsV L), (10, vsV S), (72, .sc (.int .i64 (L.length : Int))), (73, .sc (.int .i64 (i : Int)))]) (fun _ => []) (fun i => i ≤ L.length) (fun i => L.length - i) 0 (Nat.zero_le _) ?_ ?_
  · exact Sub.w [] []
  intro i hi
  refine walkX0 ?_
  refine AWP.condD rfl (fun h => ?_) (fun h => ?_)
  · have x2 : rowIx (vsR S) (i : Int) = some (vR (reduceS op kind (L.take (i + 1))).1 (reduceS op kind (L.take (i + 1))).2) := by
      show (vsR S)[i]? = _
      unfold vsR
      rw [List.getElem?_map, hSg i h]
      rfl
    have hr := red_ok op kind (L.take (i + 1)) (by rw [List.length_take]; omega) (fun v hv => (hL v (List.mem_of_mem_take hv)).1)
    rw [redS_good hc (take_ne h) (fun v hv => (hL v (List.mem_of_mem_take hv)).2)] at hr
    have hvt : vsV (L.take (i + 1)) = .list 2 ((vsR L).take (i + 1)) := by unfold vsV vsR; rw [List.map_take]
    generalize reduceS op kind (L.take (i + 1)) = z at *
    obtain ⟨z1, z2⟩ := z
    rw [hvt] at hr
    change PureRun Try.prog 31 [_, _, _] (.tup [.agg (vR z1 z2), .sc (.int .i64 0)]) at hr
    refine walkX0 ?_
    refine Reg.o rfl (dstep_sl1 (rows := vsR L) (l := 0) (h := i + 1) rfl (sb_to rfl (by rw [eL]; omega))) ?_
    rw [List.drop_zero, Nat.sub_zero]
    refine walkX ?_
    rw [eqVn]
    refine DK.nil ⟨by kernel_rfl, ?_⟩
    refine walkX ?_
    refine ⟨i + 1, by omega, by omega, ?_⟩
    exact Sub.w [] []
  · refine walkX0 ?_
    refine Reg.sub (fr' := [(0, .sc (.int .i64 op)), (1, .sc (.int .i64 kind)), (2, vsV L), (10, vsV S), (98, .sc (.int .i64 op)), (99, .sc (.int .i64 kind)), (102, rwV [L, S])]) (H' := []) ?_ ?_
    · exact Sub.w [] []
    refine walkX0 ?_
    rw [eR, hRl, eL, show decide (L.length = L.length) = true from decide_eq_true rfl]
    refine AWP.condF rfl ?_
    refine AWP.skip ?_
    show AWP Try.prog F12.n 0 (.seq _ _) _ _ _
    refine AWP.sub ?_ hlast
    exact Sub.w [] []

end Go.Proofs.Ytnngbbiajioghaa
namespace Go.Proofs.Ytnngbbiajioghaa
open Go.Av Go.Proofs
set_option exponentiation.threshold 4000
set_option maxRecDepth 20000

/-! The law SumScans. -/
set_option maxHeartbeats 4000000 in
theorem sumScans_ok (op kind : Int) (l : List Vl) (hb : ∀ v ∈ l, v.1 < 18446744073709551616) : PureRun Try.prog 12 [.sc (.int .i64 op), .sc (.int .i64 kind), vsV l] (.sc (.bool true)) := by
  refine PureRun.mkI cF12 (Nat.le_of_ble_eq_true rfl) ?_
  have hw := works_ok
  have hc := check_ok op kind
  have e0 := vsR_len l
  have hrest := sc_rest op kind (clr kind l)
  have hinv := clr_inv (kind := kind) hb
  have hlen := clr_len kind l
  show AWP Try.prog F12.n 0 (.seq _ _) _ _ _
  refine walkX0 ?_
  rw [e0]
  by_cases g1 : 20 < l.length
  · rw [decide_eq_true g1]
    refine walkX0 ?_
    exact EndP.w
  rw [decide_eq_false g1]
  refine walkX0 ?_
  rw [e0]
  by_cases g2 : l.length = 0
  · rw [g2]
    refine walkX0 ?_
    exact EndP.w
  rw [decide_eq_false g2]
  refine walkX0 ?_
  by_cases g3 : checkE op kind = 0
  · rw [g3]
    refine walkX0 ?_
    by_cases g4 : kind = 3
    · rw [g4] at g3 hrest hinv hlen hc ⊢
      rw [show clr 3 l = l from if_pos rfl] at hrest hinv hlen
      refine AWP.condF rfl ?_
      refine AWP.skip ?_
      show AWP Try.prog F12.n 0 (.seq _ _) _ _ _
      refine AWP.sub ?_ (hrest g3 ?_ (by omega) hinv)
      · exact Sub.w [] []
      · rintro rfl
        exact g2 rfl
    · have g5 : (kind != 3) = true := by simpa using g4
      have hcl : clr kind l = l.map fun v => (v.1, 0) := if_neg g4
      rw [g5]
      refine walkX0 ?_
      rw [e0]
      refine Reg.o rfl (dstep_mk (n := l.length) rfl (by omega) (by omega)) ?_
      refine walkX0 ?_
      rw [e0]
      refine AWP.loop (fun k : Nat => [(0, .sc (.int .i64 op)), (1, .sc (.int .i64 kind)), (2, vsV l), (7, .hsl 0 0 0 l.length), (40, vsV l), (41, .sc (.int .i64 (l.length : Int))), (42, .sc (.int .i64 (k : Int)))])
        (fun k => [[.cells 2 (rowsF l.length fun i => if i < k then vR (l.getD i (0, 0)).1 0 else vR 0 0)]]) (fun k => k ≤ l.length) (fun k => l.length - k) 0 (Nat.zero_le _) ?_ ?_
      · (apply Sub.to [] [[(0,0)]]; all_goals (repeat' (first | exact ToAll.nil | exact famsTo.nil | exact famTo.nil | exact ToL.nil | exact ToR.nil | refine ToAll.cons ?_ ?_ | refine famsTo.cons ?_ ?_ | refine wt10 ?_ ?_ | exact To.undef _ | exact To.sc _ | exact To.hslL rfl rfl | exact To.ptrO rfl rfl rfl | exact To.mrefO rfl | exact To.nil rfl rfl rfl | exact wt1 | exact To.nilL | refine To.int ?_ | refine To.bool ?_ | refine To.hslL rfl ?_ | refine wt2 rfl ?_ ?_ ?_ | refine To.tupL ?_ | refine To.aggL ?_ | refine To.cptrL ?_ | refine wt3 ?_ | refine wt4 ?_ | refine To.cloL ?_ ?_ | exact wt5 | refine wt6 ?_ | refine ToB.one ?_ | exact wt7 | ((with_reducible apply ToL.consE); case e9 => rfl) | refine wt8 ?_ | refine ToL.cons ?_ ?_ | exact wt11 | refine wt9 ?_ ?_ | refine wt12 ?_ | (with_reducible rfl) | assumption)); all_goals (first | rfl | assumption | (simp; done) | (simp; omega) | (rw [wrap_small (by omega) (by omega)]; done) | (rw [wrap_small (by omega) (by omega)]; omega) | (refine congrArg Nat.cast ?_; assumption) | skip))
        rw [rowsF_rep]
        rfl
      intro k hk
      have e1 := rowsF_len l.length fun i => if i < k then vR (l.getD i (0, 0)).1 0 else vR 0 0
      refine walkX0 ?_
      refine AWP.condD rfl (fun g => ?_) (fun g => ?_)
      · have e2 : (rowsF l.length fun i => if i < k then vR (l.getD i (0, 0)).1 0 else vR 0 0)[k]? = some (vR 0 0) := by rw [rowsF_get g, if_neg (Nat.lt_irrefl k)]
        have x1 : rowIx (vsR l) (k : Int) = some (vR (l.getD k (0, 0)).1 (l.getD k (0, 0)).2) := by rw [vsR_ix l k g, getD_get g]; rfl
        have hset : (rowsF l.length fun i => if i < k then vR (l.getD i (0, 0)).1 0 else vR 0 0).set k (vR (l.getD k (0, 0)).1 0) = rowsF l.length fun i => if i < k + 1 then vR (l.getD i (0, 0)).1 0 else vR 0 0 := by
          rw [rowsF_set]
          refine rowsF_congr fun i hi => ?_
          by_cases e : i = k
          · subst e; rw [if_pos rfl, if_pos (by omega)]
          · rw [if_neg e]
            by_cases e2 : i < k
            · rw [if_pos e2, if_pos (by omega)]
            · rw [if_neg e2, if_neg (by omega)]
        refine walkX0 ?_
        refine ⟨k + 1, by omega, by omega, ?_⟩
        (apply Sub.to [] [[(0,0)]]; all_goals (repeat' (first | exact ToAll.nil | exact famsTo.nil | exact famTo.nil | exact ToL.nil | exact ToR.nil | refine ToAll.cons ?_ ?_ | refine famsTo.cons ?_ ?_ | refine wt10 ?_ ?_ | exact To.undef _ | exact To.sc _ | exact To.hslL rfl rfl | exact To.ptrO rfl rfl rfl | exact To.mrefO rfl | exact To.nil rfl rfl rfl | exact wt1 | exact To.nilL | refine To.int ?_ | refine To.bool ?_ | refine To.hslL rfl ?_ | refine wt2 rfl ?_ ?_ ?_ | refine To.tupL ?_ | refine To.aggL ?_ | refine To.cptrL ?_ | refine wt3 ?_ | refine wt4 ?_ | refine To.cloL ?_ ?_ | exact wt5 | refine wt6 ?_ | refine ToB.one ?_ | exact wt7 | ((with_reducible apply ToL.consE); case e9 => rfl) | refine wt8 ?_ | refine ToL.cons ?_ ?_ | exact wt11 | refine wt9 ?_ ?_ | refine wt12 ?_ | (with_reducible rfl) | assumption)); all_goals (first | rfl | assumption | (simp; done) | (simp; omega) | (rw [wrap_small (by omega) (by omega)]; done) | (rw [wrap_small (by omega) (by omega)]; omega) | (refine congrArg Nat.cast ?_; assumption) | skip))
      · have hk : k = l.length := by omega
        subst hk
        have e2 : (rowsF l.length fun i => if i < l.length then vR (l.getD i (0, 0)).1 0 else vR 0 0) = vsR (clr kind l) := by
          rw [hcl]
          unfold vsR rowsF
          apply List.ext_getElem?
          intro i
          simp only [List.getElem?_map]
          by_cases h : i < l.length
          · simp [h]
            rfl
          · simp [h]
        rw [e2]
        have e3 : (vsR (clr kind l)).length = l.length := by rw [vsR_len]; exact hlen
        refine AWP.exit ?_
        refine AWP.region ?_
        refine walkR ?_
        show AWP Try.prog F12.n 0 (.seq _ _) _ _ _
        refine AWP.sub ?_ (hrest g3 ?_ (by omega) hinv)
        · exact Sub.w [] []
        · intro e
          rw [e] at hlen
          exact g2 hlen.symm
  · have g4 : (checkE op kind != 0) = true := by simpa using g3
    rw [g4]
    refine walkX0 ?_
    exact EndP.w

end Go.Proofs.Ytnngbbiajioghaa
