import Derived.Test.YtnngbbiajioghaaGSuT20
import Derived.Test.YtnngbbiajioghaaGSuR
namespace Go.Proofs.Ytnngbbiajioghaa
open Go.Av Go.Proofs
set_option exponentiation.threshold 3000
set_option maxRecDepth 20000

/-! Reduce, Scan, Reduces. -/

/-- n rows. -/
def rowsF (n : Nat) (f : Nat → List AV) : List (List AV) := (List.range n).map f
theorem rowsF_len (n : Nat) (f : Nat → List AV) : (rowsF n f).length = n := by simp [rowsF]
theorem rowsF_get {n : Nat} {f : Nat → List AV} {i : Nat} (h : i < n) : (rowsF n f)[i]? = some (f i) := by simp [rowsF, h]
theorem rowsF_congr {n : Nat} {f g : Nat → List AV} (h : ∀ i, i < n → f i = g i) : rowsF n f = rowsF n g := List.map_congr_left fun i hi => h i (List.mem_range.1 hi)
theorem rowsF_rep (n : Nat) (r : List AV) : List.replicate n r = rowsF n fun _ => r := by
  unfold rowsF
  rw [List.map_const']
  simp
theorem rowsF_set {n : Nat} {f : Nat → List AV} {i : Nat} {r : List AV} : (rowsF n f).set i r = rowsF n fun j => if j = i then r else f j := by
  apply List.ext_getElem?
  intro j
  rw [List.getElem?_set]
  by_cases hj : j < n
  · by_cases e : i = j
    · subst e
      rw [if_pos rfl, if_pos (by rw [rowsF_len]; exact hj), rowsF_get hj, if_pos rfl]
    · rw [if_neg e, rowsF_get hj, rowsF_get hj, if_neg (fun h => e h.symm)]
  · rw [List.getElem?_eq_none (l := rowsF n fun j => if j = i then r else f j) (by rw [rowsF_len]; omega)]
    split
    · rw [if_neg (by rw [rowsF_len]; omega)]
    · exact List.getElem?_eq_none (by rw [rowsF_len]; omega)
instance (n : Nat) (f : Nat → List AV) [h : ∀ k, PR (f k)] : PRs (rowsF n f) := ⟨fun r hr => by
  obtain ⟨a, _, rfl⟩ := List.mem_map.1 hr
  exact (h a).out⟩

instance (c : Prop) [Decidable c] (a b : List AV) [PR a] [PR b] : PR (if c then a else b) := ⟨by split <;> exact pr _⟩
instance (c : Prop) [Decidable c] (a b : AV) [PV a] [PV b] : PV (if c then a else b) := ⟨by split <;> exact pv _⟩

def redS (op kind : Int) (l : List Vl) : Vl × Int :=
  if checkE op kind ≠ 0 then ((0, 0), checkE op kind)
  else if l = [] ∨ validS kind l = false then ((0, 0), 2)
  else (reduceS op kind l, 0)

theorem red_ok (op kind : Int) (l : List Vl) (hl : l.length ≤ 1000000) (hb : ∀ v ∈ l, v.1 < 18446744073709551616) :
    PureRun Try.prog 31 [.sc (.int .i64 op), .sc (.int .i64 kind), vsV l] (.tup [.agg (vrow (redS op kind l).1), .sc (.int .i64 (redS op kind l).2)]) := by
  refine PureRun.mkI cF31 (Nat.le_of_ble_eq_true rfl) ?_
  have hc := check_ok op kind
  have hv := valid_list_ok kind l hl
  have e0 := vsR_len l
  unfold redS
  refine walkW ?_
  refine AWP.cond rfl (fun h => ?_) (fun h => ?_)
  · have h : checkE op kind ≠ 0 := by simpa using h
    rw [if_pos h]
    refine walkW ?_
    exact EndP.w
  have h : checkE op kind = 0 := by simpa using h
  rw [if_neg (by omega)]
  cases l with
  | nil =>
    rw [if_pos (.inl rfl)]
    refine walkX ?_
    exact EndP.w
  | cons v r =>
    have e1 : decide (r.length + 1 = 0) = false := by simp
    rw [show (vsR (v :: r)).length = r.length + 1 by rw [e0]; rfl] at e0
    cases hq : validS kind (v :: r) with
    | false =>
      rw [if_pos (.inr rfl)]
      rw [hq] at hv
      refine walkX ?_
      exact EndP.w
    | true =>
      rw [if_neg (by simp)]
      rw [hq] at hv
      have hr := reduce_ok op kind (v :: r) (by simp) hl hb h
      generalize reduceS op kind (v :: r) = o at *
      refine walkX ?_
      exact EndP.w

theorem take_ne {l : List Vl} {k : Nat} (h : k < l.length) : l.take (k + 1) ≠ [] := by
  intro e
  have : (l.take (k + 1)).length = 0 := by rw [e]; rfl
  rw [List.length_take] at this
  omega

def scanL (op kind : Int) (l : List Vl) : List Vl := (List.range l.length).map fun i => reduceS op kind (l.take (i + 1))
def scanS (op kind : Int) (l : List Vl) : List Vl × Int :=
  if checkE op kind ≠ 0 then ([], checkE op kind)
  else if validS kind l = false then ([], 2)
  else (scanL op kind l, 0)

theorem scan_ok (op kind : Int) (l : List Vl) (hl : l.length ≤ 1000000) (hb : ∀ v ∈ l, v.1 < 18446744073709551616) :
    PureRun Try.prog 46 [.sc (.int .i64 op), .sc (.int .i64 kind), vsV l] (.tup [vsV (scanS op kind l).1, .sc (.int .i64 (scanS op kind l).2)]) := by
  refine PureRun.mkI cF46 (Nat.le_of_ble_eq_true rfl) ?_
  have hc := check_ok op kind
  have hv := valid_list_ok kind l hl
  have e0 := vsR_len l
  unfold scanS
  refine walkW ?_
  refine AWP.cond rfl (fun h => ?_) (fun h => ?_)
  · have h : checkE op kind ≠ 0 := by simpa using h
    rw [if_pos h]
    refine walkW ?_
    exact EndP.w
  have h : checkE op kind = 0 := by simpa using h
  rw [if_neg (by omega)]
  cases hq : validS kind l with
  | false =>
    rw [if_pos rfl]
    rw [hq] at hv
    refine walkW ?_
    exact EndP.w
  | true =>
    rw [if_neg (by simp)]
    rw [hq] at hv
    refine walkW ?_
    rw [e0]
    refine Reg.o rfl (dstep_mk (n := l.length) rfl (by omega) (by omega)) ?_
    refine walkW ?_
    rw [e0]
    refine AWP.loop (fun k : Nat => [(0, .sc (.int .i64 op)), (1, .sc (.int .i64 kind)), (2, vsV l), (9, .hsl 0 0 0 l.length), (25, .sc (.int .i64 (l.length : Int))), (26, .sc (.int .i64 (k : Int)))])
      (fun k => [[.cells 2 (rowsF l.length fun i => if i < k then vrow (reduceS op kind (l.take (i + 1))) else vR 0 0)]]) (fun k => k ≤ l.length) (fun k => l.length - k) 0 (Nat.zero_le _) ?_ ?_
    · (apply Sub.to [] [[(0,0)]]; all_goals (repeat' (first | exact ToAll.nil | exact famsTo.nil | exact famTo.nil | exact ToL.nil | exact ToR.nil | refine ToAll.cons ?_ ?_ | refine famsTo.cons ?_ ?_ | refine wt10 ?_ ?_ | exact To.undef _ | exact To.sc _ | exact To.hslL rfl rfl | exact To.ptrO rfl rfl rfl | exact To.mrefO rfl | exact To.nil rfl rfl rfl | exact wt1 | exact To.nilL | refine To.int ?_ | refine To.bool ?_ | refine To.hslL rfl ?_ | refine wt2 rfl ?_ ?_ ?_ | refine To.tupL ?_ | refine To.aggL ?_ | refine To.cptrL ?_ | refine wt3 ?_ | refine wt4 ?_ | refine To.cloL ?_ ?_ | exact wt5 | refine wt6 ?_ | refine ToB.one ?_ | exact wt7 | ((with_reducible apply ToL.consE); case e9 => rfl) | refine wt8 ?_ | refine ToL.cons ?_ ?_ | exact wt11 | refine wt9 ?_ ?_ | refine wt12 ?_ | (with_reducible rfl) | assumption)); all_goals (first | rfl | assumption | (simp; done) | (simp; omega) | (rw [wrap_small (by omega) (by omega)]; done) | (rw [wrap_small (by omega) (by omega)]; omega) | (refine congrArg Nat.cast ?_; assumption) | skip))
      rw [rowsF_rep]
      rfl
    intro k hk
    have e1 := rowsF_len l.length fun i => if i < k then vrow (reduceS op kind (l.take (i + 1))) else vR 0 0
    refine walkX ?_
    refine AWP.condD rfl (fun g => ?_) (fun g => ?_)
    · have e2 : (rowsF l.length fun i => if i < k then vrow (reduceS op kind (l.take (i + 1))) else vR 0 0)[k]? = some (vR 0 0) := by rw [rowsF_get g, if_neg (Nat.lt_irrefl k)]
      have hr := reduce_ok op kind (l.take (k + 1)) (take_ne g) (by rw [List.length_take]; omega) (fun v hv => hb v (List.mem_of_mem_take hv)) h
      have hset : (rowsF l.length fun i => if i < k then vrow (reduceS op kind (l.take (i + 1))) else vR 0 0).set k (vrow (reduceS op kind (l.take (k + 1)))) = rowsF l.length fun i => if i < k + 1 then vrow (reduceS op kind (l.take (i + 1))) else vR 0 0 := by
        rw [rowsF_set]
        refine rowsF_congr fun i hi => ?_
        by_cases e : i = k
        · subst e; rw [if_pos rfl, if_pos (by omega)]
        · rw [if_neg e]
          by_cases e2 : i < k
          · rw [if_pos e2, if_pos (by omega)]
          · rw [if_neg e2, if_neg (by omega)]
      have hsl : (List.drop 0 (vsR l)).take (k + 1 - 0) = vsR (l.take (k + 1)) := by
        unfold vsR
        rw [List.drop_zero, Nat.sub_zero, List.map_take]
      refine walkX ?_
      refine Reg.o rfl (dstep_sl1 (rows := vsR l) (l := 0) (h := k + 1) rfl (by rw [e0]; exact sb_to (q := k + 1) rfl (by omega))) ?_
      rw [hsl]
      have hr : PureRun Try.prog 69 [.sc (.int .i64 op), .sc (.int .i64 kind), .list 2 (vsR (l.take (k + 1)))] (.agg (vrow (reduceS op kind (l.take (k + 1))))) := hr
      generalize reduceS op kind (l.take (k + 1)) = o at *
      refine walkX ?_
      rw [hset]
      refine ⟨k + 1, by omega, by omega, ?_⟩
      exact Sub.w [] [[(0,0)]]
    · have hk : k = l.length := by omega
      subst hk
      have e2 : (rowsF l.length fun i => if i < l.length then vrow (reduceS op kind (l.take (i + 1))) else vR 0 0) = vsR (scanL op kind l) := by
        unfold vsR scanL
        rw [List.map_map]
        exact rowsF_congr fun i hi => if_pos hi
      rw [e2]
      have e3 : (vsR (scanL op kind l)).length = l.length := by rw [vsR_len]; simp [scanL]
      refine walkX ?_
      exact EndP.w

end Go.Proofs.Ytnngbbiajioghaa
namespace Go.Proofs.Ytnngbbiajioghaa
open Go.Av Go.Proofs
set_option exponentiation.threshold 3000
set_option maxRecDepth 20000

/-! Reduces. -/
def rwR (rows : List (List Vl)) : List (List AV) := rows.map fun l => [vsV l]
def rwV (rows : List (List Vl)) : AV := .list 1 (rwR rows)
instance (rows : List (List Vl)) : PRs (rwR rows) := ⟨fun r hr => by
  obtain ⟨a, _, rfl⟩ := List.mem_map.1 hr
  exact pr [vsV a]⟩
instance (rows : List (List Vl)) : PV (rwV rows) := ⟨.list _ _ (prs _)⟩
theorem rwR_len (rows : List (List Vl)) : (rwR rows).length = rows.length := by simp [rwR]
theorem rwR_ix (rows : List (List Vl)) (k : Nat) (h : k < rows.length) : rowIx (rwR rows) (k : Int) = some [vsV rows[k]] := rowIx_map (fun l => [vsV l]) rows k h

def col (rows : List (List Vl)) (c : Nat) : List Vl := rows.map fun r => r.getD c (0, 0)
def redsL (op kind : Int) (rows : List (List Vl)) : List Vl := match rows with
  | [] => []
  | r :: _ => (List.range r.length).map fun c => reduceS op kind (col rows c)
def redsS (op kind : Int) (rows : List (List Vl)) : List Vl × Int :=
  if checkE op kind ≠ 0 then ([], checkE op kind)
  else if rows = [] then ([], 2)
  else if (rows.all fun r => decide (r.length = (rows.headD []).length)) = false then ([], 26)
  else if (rows.all fun r => validS kind r) = false then ([], 2)
  else (redsL op kind rows, 0)

theorem getD_get {α : Type} {l : List α} {c : Nat} {d : α} (h : c < l.length) : l.getD c d = l[c] := by simp [List.getD, h]
theorem all_take {α : Type} {p : α → Bool} {l : List α} {k : Nat} (h : k < l.length) (h1 : (l.take k).all p = true) (h2 : p l[k] = true) : (l.take (k + 1)).all p = true := by
  rw [List.take_succ_eq_append_getElem h, List.all_append, h1]
  simp [h2]
theorem all_false {α : Type} {p : α → Bool} {l : List α} {k : Nat} (h : k < l.length) (h2 : p l[k] = false) : l.all p = false := by
  apply Bool.eq_false_iff.2
  intro hall
  rw [List.all_eq_true.1 hall _ (List.getElem_mem h)] at h2
  cases h2

set_option maxHeartbeats 2000000 in
theorem reds_ok (op kind : Int) (rows : List (List Vl)) (hl : rows.length ≤ 1000000) (hr : ∀ r ∈ rows, r.length ≤ 1000000) (hb : ∀ r ∈ rows, ∀ v ∈ r, v.1 < 18446744073709551616) :
    PureRun Try.prog 42 [.sc (.int .i64 op), .sc (.int .i64 kind), rwV rows] (.tup [vsV (redsS op kind rows).1, .sc (.int .i64 (redsS op kind rows).2)]) := by
  refine PureRun.mkI cF42 (Nat.le_of_ble_eq_true rfl) ?_
  have hc := check_ok op kind
  have e0 := rwR_len rows
  unfold redsS
  refine walkW ?_
  refine AWP.cond rfl (fun h => ?_) (fun h => ?_)
  · have h : checkE op kind ≠ 0 := by simpa using h
    rw [if_pos h]
    refine walkW ?_
    exact EndP.w
  have h : checkE op kind = 0 := by simpa using h
  rw [if_neg (by omega)]
  refine walkX ?_
  rw [e0]
  refine AWP.condN (rows = []) rfl (by rw [Bool.eq_iff_iff]; simp) (fun g => ?_) (fun g => ?_)
  · rw [if_pos g]
    refine walkX ?_
    exact EndP.w
  rw [if_neg g]
  cases hrows : rows with
  | nil => exact absurd hrows g
  | cons r0 rs =>
  rw [← hrows]
  have hx0 : rowIx (rwR rows) 0 = some [vsV r0] := by rw [hrows]; rfl
  have hh : rows.headD [] = r0 := by rw [hrows]; rfl
  have hr0 : r0.length ≤ 1000000 := hr r0 (by rw [hrows]; exact List.mem_cons_self ..)
  have el0 := vsR_len r0
  rw [hh]
  refine walkX ?_
  rw [e0]
  refine AWP.loop (fun k : Nat => [(0, .sc (.int .i64 op)), (1, .sc (.int .i64 kind)), (2, rwV rows), (27, rwV rows), (28, .sc (.int .i64 (rows.length : Int))), (29, .sc (.int .i64 (k : Int)))]) (fun _ => [])
    (fun k => k ≤ rows.length ∧ ((rows.take k).all fun r => decide (r.length = r0.length)) = true) (fun k => rows.length - k) 0 ⟨Nat.zero_le _, rfl⟩ ?_ ?_
  · exact Sub.w [] []
  rintro k ⟨hk, hall⟩
  refine walkX ?_
  refine AWP.condD rfl (fun g1 => ?_) (fun g1 => ?_)
  · have hx := rwR_ix rows k g1
    have hm := all_take (p := fun r => decide (r.length = r0.length)) g1 hall
    have hf := all_false (p := fun r => decide (r.length = r0.length)) (l := rows) (k := k) g1
    have el := vsR_len rows[k]
    generalize rows[k] = r at hx hm hf el
    refine walkX ?_
    rw [el, el0]
    refine AWP.condDn rfl (fun g2 => ?_) (fun g2 => ?_)
    · rw [if_pos (hf (decide_eq_false g2))]
      refine walkX ?_
      exact EndP.w
    · refine walkX ?_
      refine ⟨k + 1, ⟨by omega, hm (decide_eq_true g2)⟩, by omega, ?_⟩
      exact Sub.w [] []
  have hkl : k = rows.length := by omega
  subst hkl
  rw [List.take_of_length_le (Nat.le_refl _)] at hall
  rw [if_neg (by rw [hall]; simp)]
  refine walkX ?_
  rw [e0]
  refine AWP.loop (fun k : Nat => [(0, .sc (.int .i64 op)), (1, .sc (.int .i64 kind)), (2, rwV rows), (41, rwV rows), (42, .sc (.int .i64 (rows.length : Int))), (43, .sc (.int .i64 (k : Int)))]) (fun _ => [])
    (fun k => k ≤ rows.length ∧ ((rows.take k).all fun r => validS kind r) = true) (fun k => rows.length - k) 0 ⟨Nat.zero_le _, rfl⟩ ?_ ?_
  · exact Sub.w [] []
  rintro k ⟨hk, hval⟩
  refine walkX ?_
  refine AWP.condD rfl (fun g1 => ?_) (fun g1 => ?_)
  · have hx := rwR_ix rows k g1
    have hm := all_take (p := fun r => validS kind r) g1 hval
    have hf := all_false (p := fun r => validS kind r) (l := rows) (k := k) g1
    have hv := valid_list_ok kind rows[k] (hr _ (List.getElem_mem g1))
    generalize rows[k] = r at hx hm hf hv
    generalize hvq : validS kind r = q at hv hm hf
    refine walkX ?_
    cases q with
    | false =>
      rw [if_pos (hf rfl)]
      refine walkX ?_
      exact EndP.w
    | true =>
      refine walkX ?_
      refine ⟨k + 1, ⟨by omega, hm rfl⟩, by omega, ?_⟩
      exact Sub.w [] []
  have hkl : k = rows.length := by omega
  subst hkl
  rw [List.take_of_length_le (Nat.le_refl _)] at hval
  rw [if_neg (by rw [hval]; simp)]
  have hlen : ∀ r ∈ rows, r.length = r0.length := fun r hr => of_decide_eq_true (List.all_eq_true.1 hall r hr)
  have hL : redsL op kind rows = (List.range r0.length).map fun c => reduceS op kind (col rows c) := by rw [hrows]; rfl
  refine walkX ?_
  rw [el0]
  refine Reg.o rfl (dstep_mk (n := r0.length) rfl (by omega) (by omega)) ?_
  refine walkX ?_
  refine AWP.loop (fun c : Nat => [(0, .sc (.int .i64 op)), (1, .sc (.int .i64 kind)), (2, rwV rows), (13, .hsl 0 0 0 r0.length), (58, .sc (.int .i64 (r0.length : Int))), (59, .sc (.int .i64 (c : Int)))])
    (fun c => [[.cells 2 (rowsF r0.length fun i => if i < c then vrow (reduceS op kind (col rows i)) else vR 0 0)]]) (fun c => c ≤ r0.length) (fun c => r0.length - c) 0 (Nat.zero_le _) ?_ ?_
  · (apply Sub.to [] [[(0,0)]]; all_goals (repeat' (first | exact ToAll.nil | exact famsTo.nil | exact famTo.nil | exact ToL.nil | exact ToR.nil | refine ToAll.cons ?_ ?_ | refine famsTo.cons ?_ ?_ | refine wt10 ?_ ?_ | exact To.undef _ | exact To.sc _ | exact To.hslL rfl rfl | exact To.ptrO rfl rfl rfl | exact To.mrefO rfl | exact To.nil rfl rfl rfl | exact wt1 | exact To.nilL | refine To.int ?_ | refine To.bool ?_ | refine To.hslL rfl ?_ | refine wt2 rfl ?_ ?_ ?_ | refine To.tupL ?_ | refine To.aggL ?_ | refine To.cptrL ?_ | refine wt3 ?_ | refine wt4 ?_ | refine To.cloL ?_ ?_ | exact wt5 | refine wt6 ?_ | refine ToB.one ?_ | exact wt7 | ((with_reducible apply ToL.consE); case e9 => rfl) | refine wt8 ?_ | refine ToL.cons ?_ ?_ | exact wt11 | refine wt9 ?_ ?_ | refine wt12 ?_ | (with_reducible rfl) | assumption)); all_goals (first | rfl | assumption | (simp; done) | (simp; omega) | (rw [wrap_small (by omega) (by omega)]; done) | (rw [wrap_small (by omega) (by omega)]; omega) | (refine congrArg Nat.cast ?_; assumption) | skip))
    rw [rowsF_rep]
    rfl
  intro c hc1
  have e1 := rowsF_len r0.length fun i => if i < c then vrow (reduceS op kind (col rows i)) else vR 0 0
  refine walkX ?_
  refine AWP.condD rfl (fun g1 => ?_) (fun g1 => ?_)
  · have hset : (rowsF r0.length fun i => if i < c then vrow (reduceS op kind (col rows i)) else vR 0 0).set c (vrow (reduceS op kind (col rows c))) = rowsF r0.length fun i => if i < c + 1 then vrow (reduceS op kind (col rows i)) else vR 0 0 := by
      rw [rowsF_set]
      refine rowsF_congr fun i hi => ?_
      by_cases e : i = c
      · subst e; rw [if_pos rfl, if_pos (by omega)]
      · rw [if_neg e]
        by_cases e2 : i < c
        · rw [if_pos e2, if_pos (by omega)]
        · rw [if_neg e2, if_neg (by omega)]
    have e2 : (rowsF r0.length fun i => if i < c then vrow (reduceS op kind (col rows i)) else vR 0 0)[c]? = some (vR 0 0) := by rw [rowsF_get g1, if_neg (Nat.lt_irrefl c)]
    have hclen : (col rows c).length = rows.length := by simp [col]
    have hred := reduce_ok op kind (col rows c) (fun e => g (by rw [e] at hclen; exact List.length_eq_zero_iff.1 hclen.symm)) (by omega) (fun v hv => by
      obtain ⟨r, hr1, rfl⟩ := List.mem_map.1 hv
      have hcl : c < r.length := by rw [hlen r hr1]; exact g1
      rw [getD_get hcl]
      exact hb r hr1 _ (List.getElem_mem hcl)) h
    generalize hS : (rowsF r0.length fun i => if i < c then vrow (reduceS op kind (col rows i)) else vR 0 0) = S at *
    generalize reduceS op kind (col rows c) = o at *
    refine walkX ?_
    rw [e0]
    refine AWP.loop (fun k : Nat => [(0, .sc (.int .i64 op)), (1, .sc (.int .i64 kind)), (2, rwV rows), (13, .hsl 0 0 0 r0.length), (14, .sc (.int .i64 (c : Int))), (15, .hsl 1 0 0 k), (58, .sc (.int .i64 (r0.length : Int))), (59, .sc (.int .i64 (c : Int))), (62, rwV rows), (63, .sc (.int .i64 (rows.length : Int))), (64, .sc (.int .i64 (k : Int)))])
      (fun k => [[.cells 2 S], [.cells 2 (vsR ((col rows c).take k))]]) (fun k => k ≤ rows.length) (fun k => rows.length - k) 0 (Nat.zero_le _) ?_ ?_
    · have hpS : PRs S := by rw [← hS]; infer_instance
      exact Sub.w [2] [[(0,0)],[(1,0)]]
    intro k hk
    have hpS : PRs S := by rw [← hS]; infer_instance
    have ek : (vsR ((col rows c).take k)).length = k := by rw [vsR_len, List.length_take]; omega
    refine walkX ?_
    refine AWP.condD rfl (fun g2 => ?_) (fun g2 => ?_)
    · have hx := rwR_ix rows k g2
      have hcl : c < rows[k].length := by rw [hlen _ (List.getElem_mem g2)]; exact g1
      have hy : rowIx (vsR rows[k]) (c : Int) = some (vrow (rows[k].getD c (0, 0))) := by rw [vsR_ix _ _ hcl, getD_get hcl]
      have ht : vsR ((col rows c).take (k + 1)) = vsR ((col rows c).take k) ++ [vrow (rows[k].getD c (0, 0))] := by
        have hk2 : k < (col rows c).length := by omega
        rw [List.take_succ_eq_append_getElem hk2]
        simp [vsR, col]
      generalize rows[k].getD c (0, 0) = v at hy ht
      generalize rows[k] = r at hx hy
      refine walkX ?_
      refine ⟨k + 1, by omega, by omega, ?_⟩
      rw [ht]
      exact Sub.w [] [[(0,0)],[(3,0)]]
    · have hkl : k = rows.length := by omega
      rw [hkl, List.take_of_length_le (by omega)]
      have hclen2 : (vsR (col rows c)).length = rows.length := by rw [vsR_len, hclen]
      refine walkX ?_
      have hpl : Plain (.agg (vrow o)) := .agg _ (fun c hc => by simp [vrow, vR] at hc; rcases hc with rfl | rfl <;> exact .sc _)
      (refine Reg.pv (by first | exact Nat.zero_le _ | exact Nat.le_refl _ | (simp; done) | (simp; omega)) rfl hred (by first | exact .sc _ | (exact .agg _ (fun c hc => by simp at hc; rcases hc with h | h <;> subst h <;> exact .sc _)) | assumption) ?vw9 ?_; case vw9 => (all_goals (repeat' (first | exact ToAll.nil | exact famsTo.nil | exact famTo.nil | exact ToL.nil | exact ToR.nil | refine ToAll.cons ?_ ?_ | refine famsTo.cons ?_ ?_ | refine wt10 ?_ ?_ | exact To.undef _ | exact To.sc _ | exact To.hslL rfl rfl | exact To.ptrO rfl rfl rfl | exact To.mrefO rfl | exact To.nil rfl rfl rfl | exact wt1 | exact To.nilL | refine To.int ?_ | refine To.bool ?_ | refine To.hslL rfl ?_ | refine wt2 rfl ?_ ?_ ?_ | refine To.tupL ?_ | refine To.aggL ?_ | refine To.cptrL ?_ | refine wt3 ?_ | refine wt4 ?_ | refine To.cloL ?_ ?_ | exact wt5 | refine wt6 ?_ | refine ToB.one ?_ | exact wt7 | ((with_reducible apply ToL.consE); case e9 => rfl) | refine wt8 ?_ | refine ToL.cons ?_ ?_ | exact wt11 | refine wt9 ?_ ?_ | refine wt12 ?_ | (with_reducible rfl) | assumption)); all_goals (first | rfl | assumption | (simp; done) | (simp; omega))))
      refine walkX ?_
      rw [hset]
      refine ⟨c + 1, by omega, by omega, ?_⟩
      exact Sub.w [] [[(0,0)]]
  · have hcl : c = r0.length := by omega
    subst hcl
    have e2 : (rowsF r0.length fun i => if i < r0.length then vrow (reduceS op kind (col rows i)) else vR 0 0) = vsR (redsL op kind rows) := by
      rw [hL]
      unfold vsR
      rw [List.map_map]
      exact rowsF_congr fun i hi => if_pos hi
    rw [e2]
    have e3 : (vsR (redsL op kind rows)).length = r0.length := by rw [vsR_len, hL]; simp
    refine walkX ?_
    exact EndP.w

end Go.Proofs.Ytnngbbiajioghaa
namespace Go.Proofs.Ytnngbbiajioghaa
open Go.Av Go.Proofs
set_option exponentiation.threshold 3000
set_option maxRecDepth 20000

/-! The document's numbers: bytes, the highest one first. -/

/-- A byte of a number. -/
def dg (N i : Nat) : Nat := N / 256 ^ i % 256
theorem dg_lt (N i : Nat) : dg N i < 256 := Nat.mod_lt _ (by decide)
def u8c (n : Nat) : AV := .sc (.int .u8 (n : Int))
instance (n : Nat) : PV (u8c n) := ⟨.sc _⟩
/-- n bytes. -/
def bR (n N : Nat) : List (List AV) := row1 n fun i => u8c (dg N (n - 1 - i))
theorem bR_len (n N : Nat) : (bR n N).length = n := by simp [bR, row1]
instance (n N : Nat) : PRs (bR n N) := ⟨fun r hr => by
  obtain ⟨a, _, rfl⟩ := List.mem_map.1 hr
  exact allPure_cons (.sc _) allPure_nil⟩
theorem bR_get {n N i : Nat} (h : i < n) : (bR n N)[i]? = some [u8c (dg N (n - 1 - i))] := by simp [bR, row1, h]
theorem bR_ix {n N i : Nat} (h : i < n) : rowIx (bR n N) (i : Int) = some [u8c (dg N (n - 1 - i))] := bR_get h
theorem bR_drop (n N : Nat) : (bR (n + 1) N).drop 1 = bR n N := by
  apply List.ext_getElem?
  intro i
  rw [List.getElem?_drop]
  by_cases h : i < n
  · rw [bR_get h, bR_get (by omega)]
    congr 4
    omega
  · rw [List.getElem?_eq_none (by rw [bR_len]; omega), List.getElem?_eq_none (by rw [bR_len]; omega)]

/-- How many bytes a number has. -/
def nb (N : Nat) : Nat := (blen N + 7) / 8
theorem pow256 (n : Nat) : 256 ^ n = 2 ^ (8 * n) := by rw [show 256 = 2 ^ 8 from rfl, ← Nat.pow_mul]
theorem blen_iff (N k : Nat) : blen N ≤ k ↔ N < 2 ^ k := by
  constructor
  · exact fun h => Nat.lt_of_lt_of_le (blen_lt N) (Nat.pow_le_pow_right (by decide) h)
  · exact blen_le
theorem nb_le (N n : Nat) : nb N ≤ n ↔ N < 256 ^ n := by
  rw [pow256, ← blen_iff]
  unfold nb
  omega
theorem lt_nb (N : Nat) : N < 256 ^ nb N := (nb_le N _).1 (Nat.le_refl _)
theorem dg_top {n N : Nat} (h : N < 256 ^ (n + 1)) : dg N n = N / 256 ^ n := by
  unfold dg
  refine Nat.mod_eq_of_lt ?_
  rw [Nat.div_lt_iff_lt_mul (Nat.pow_pos (by decide)), Nat.mul_comm, ← Nat.pow_succ]
  exact h
theorem dg_big {n N : Nat} (h : N < 256 ^ n) {i : Nat} (hi : n ≤ i) : dg N i = 0 := by
  unfold dg
  rw [Nat.div_eq_of_lt (Nat.lt_of_lt_of_le h (Nat.pow_le_pow_right (by decide) hi))]
def bV (N : Nat) : AV := .list 1 (bR (nb N) N)
instance (N : Nat) : PV (bV N) := ⟨.list _ _ (prs _)⟩
theorem nb_zero : nb 0 = 0 := rfl
theorem bV_zero : bV 0 = .list 1 [] := rfl

theorem at_ok {n N i : Nat} (hN : N < 256 ^ n) (hn : n ≤ 1000000) (hi : i ≤ 1000000) : PureRun Try.prog 115 [.list 1 (bR n N), .sc (.int .i64 (i : Int))] (.sc (.int .i64 (dg N i : Int))) := by
  refine PureRun.mkI cF115 (Nat.le_of_ble_eq_true rfl) ?_
  have e0 := bR_len n N
  refine walkX ?_
  rw [e0]
  refine AWP.condD rfl (fun h => ?_) (fun h => ?_)
  · have hr := bR_ix (n := n) (N := N) (i := n - 1 - i) (by omega)
    rw [show n - 1 - (n - 1 - i) = i by omega] at hr
    have hd := dg_lt N i
    generalize dg N i = d at *
    refine walkX ?_
    rw [e0]
    unfold u8c at hr
    refine walkX ?_
    exact EndP.w
  · rw [dg_big hN (by omega)]
    refine walkX ?_
    exact EndP.w

theorem trim_ok {n N : Nat} (hN : N < 256 ^ n) : PureRun Try.prog 117 [.list 1 (bR n N)] (bV N) := by
  refine PureRun.mkI cF117 (Nat.le_of_ble_eq_true rfl) ?_
  have h0 := (nb_le N n).2 hN
  refine walkX ?_
  refine AWP.loop (fun k : Nat => [(0, .list 1 (bR k N))]) (fun _ => []) (fun k => k ≤ n ∧ nb N ≤ k) (fun k => k) n ⟨Nat.le_refl _, h0⟩ ?_ ?_
  · exact Sub.w [] []
  rintro k ⟨hk, hb⟩
  have e0 := bR_len k N
  have hNk := (nb_le N k).1 hb
  cases k with
  | zero =>
    refine walkX ?_
    have hz : nb N = 0 := by omega
    have e : bV N = .list 1 (bR 0 N) := by unfold bV; rw [hz]
    rw [e]
    refine walkX ?_
    exact EndP.w
  | succ j =>
    have hr : rowIx (bR (j + 1) N) 0 = some [u8c (dg N j)] := by
      have := bR_ix (n := j + 1) (N := N) (i := 0) (by omega)
      rw [show j + 1 - 1 - 0 = j by omega] at this
      exact this
    have ht := dg_top hNk
    unfold u8c at hr
    refine walkX ?_
    rw [e0]
    refine walkX ?_
    refine AWP.condD rfl (fun h => ?_) (fun h => ?_)
    · have hNj : N < 256 ^ j := by
        rcases Nat.lt_or_ge N (256 ^ j) with h1 | h1
        · exact h1
        · have := (Nat.le_div_iff_mul_le (Nat.pow_pos (show 0 < 256 by decide))).2 (show 1 * 256 ^ j ≤ N by omega)
          omega
      refine walkX ?_
      refine Reg.o rfl (dstep_sl1 (rows := bR (j + 1) N) (l := 1) (h := j + 1) rfl (by rw [bR_len]; exact sb_from (q := 1) rfl (by omega))) ?_
      rw [bR_drop, show List.take (j + 1 - 1) (bR j N) = bR j N from List.take_of_length_le (by rw [bR_len]; omega)]
      refine walkX ?_
      refine ⟨j, ⟨by omega, (nb_le N j).2 hNj⟩, by omega, ?_⟩
      exact Sub.w [] []
    · have hNj : ¬ N < 256 ^ j := fun h1 => h (by rw [ht]; exact Nat.div_eq_of_lt h1)
      have : nb N = j + 1 := by
        have : ¬ nb N ≤ j := fun h2 => hNj ((nb_le N j).1 h2)
        omega
      have e : bV N = .list 1 (bR (j + 1) N) := by unfold bV; rw [this]
      rw [e]
      refine walkX ?_
      exact EndP.w

end Go.Proofs.Ytnngbbiajioghaa
namespace Go.Proofs.Ytnngbbiajioghaa
open Go.Av Go.Proofs
set_option exponentiation.threshold 3000
set_option maxRecDepth 20000

/-! The document's sums and differences. -/

/-- The carry into a byte. -/
def carP (X Y i : Nat) : Nat := (X % 256 ^ i + Y % 256 ^ i) / 256 ^ i
theorem mod_succ (X i : Nat) : X % 256 ^ (i + 1) = X % 256 ^ i + 256 ^ i * dg X i := by
  rw [Nat.pow_succ, Nat.mod_mul]
  rfl
theorem carP_le (X Y i : Nat) : carP X Y i ≤ 1 := by
  have h0 : 0 < 256 ^ i := Nat.pow_pos (by decide)
  have h1 := Nat.mod_lt X h0
  have h2 := Nat.mod_lt Y h0
  have : carP X Y i < 2 := by
    unfold carP
    rw [Nat.div_lt_iff_lt_mul h0]
    omega
  omega
theorem carP_succ (X Y i : Nat) : carP X Y (i + 1) = (dg X i + dg Y i + carP X Y i) / 256 := by
  have h0 : 0 < 256 ^ i := Nat.pow_pos (by decide)
  unfold carP
  rw [mod_succ, mod_succ, show 256 ^ (i + 1) = 256 ^ i * 256 from Nat.pow_succ .., ← Nat.div_div_eq_div_mul,
    show X % 256 ^ i + 256 ^ i * dg X i + (Y % 256 ^ i + 256 ^ i * dg Y i) = X % 256 ^ i + Y % 256 ^ i + 256 ^ i * (dg X i + dg Y i) by rw [Nat.mul_add]; omega, Nat.add_mul_div_left _ _ h0, Nat.add_comm]
theorem dg_add (X Y i : Nat) : dg (X + Y) i = (dg X i + dg Y i + carP X Y i) % 256 := by
  have h0 : 0 < 256 ^ i := Nat.pow_pos (by decide)
  have h1 : (X + Y) / 256 ^ i = carP X Y i + (X / 256 ^ i + Y / 256 ^ i) := by
    have e1 := Nat.div_add_mod X (256 ^ i)
    have e2 := Nat.div_add_mod Y (256 ^ i)
    unfold carP
    rw [← Nat.add_mul_div_left _ _ h0]
    congr 1
    rw [Nat.mul_add]
    omega
  unfold dg
  rw [h1]
  omega
/-- The borrow from a byte. -/
def carM (X Y i : Nat) : Nat := if X % 256 ^ i < Y % 256 ^ i then 1 else 0
theorem carM_le (X Y i : Nat) : carM X Y i ≤ 1 := by unfold carM; split <;> omega
theorem carM_succ (X Y i : Nat) : carM X Y (i + 1) = if dg X i < dg Y i + carM X Y i then 1 else 0 := by
  have h0 : 0 < 256 ^ i := Nat.pow_pos (by decide)
  have h1 := Nat.mod_lt X h0
  have h2 := Nat.mod_lt Y h0
  unfold carM
  rw [mod_succ, mod_succ]
  generalize X % 256 ^ i = x at *
  generalize Y % 256 ^ i = y at *
  generalize dg X i = a
  generalize dg Y i = b
  generalize 256 ^ i = p at *
  have key : x + p * a < y + p * b ↔ a < b ∨ (a = b ∧ x < y) := by
    constructor
    · intro h
      rcases Nat.lt_trichotomy a b with h3 | h3 | h3
      · exact .inl h3
      · subst h3; exact .inr ⟨rfl, by omega⟩
      · have : p * (b + 1) ≤ p * a := Nat.mul_le_mul_left _ h3
        rw [Nat.mul_add, Nat.mul_one] at this
        omega
    · rintro (h3 | ⟨rfl, h3⟩)
      · have : p * (a + 1) ≤ p * b := Nat.mul_le_mul_left _ h3
        rw [Nat.mul_add, Nat.mul_one] at this
        omega
      · omega
  by_cases hxy : x < y
  · rw [if_pos hxy]
    by_cases h : a < b + 1
    · rw [if_pos h, if_pos (key.2 (by omega))]
    · rw [if_neg h, if_neg (fun h2 => by have := key.1 h2; omega)]
  · rw [if_neg hxy]
    by_cases h : a < b + 0
    · rw [if_pos h, if_pos (key.2 (by omega))]
    · rw [if_neg h, if_neg (fun h2 => by have := key.1 h2; omega)]
theorem dg_sub {X Y : Nat} (h : Y ≤ X) (i : Nat) : dg (X - Y) i + dg Y i + carM X Y i = dg X i + 256 * carM X Y (i + 1) := by
  obtain ⟨Z, rfl⟩ : ∃ Z, X = Y + Z := ⟨X - Y, by omega⟩
  rw [Nat.add_sub_cancel_left]
  have hc : ∀ j, carM (Y + Z) Y j = carP Y Z j := by
    intro j
    have h0 : 0 < 256 ^ j := Nat.pow_pos (by decide)
    have h1 := Nat.mod_lt Y h0
    have h2 := Nat.mod_lt Z h0
    unfold carM carP
    rw [Nat.add_mod]
    generalize Y % 256 ^ j = y at *
    generalize Z % 256 ^ j = z at *
    generalize 256 ^ j = p at *
    by_cases h : y + z < p
    · rw [Nat.mod_eq_of_lt h, if_neg (by omega), Nat.div_eq_of_lt h]
    · rw [show (y + z) % p = y + z - p by rw [Nat.mod_eq_sub_mod (by omega), Nat.mod_eq_of_lt (by omega)], if_pos (by omega)]
      have : (y + z) / p = 1 := by
        rw [Nat.div_eq_iff h0]
        omega
      exact this.symm
  rw [hc, hc, dg_add, carP_succ]
  have := carP_le Y Z i
  have := dg_lt Y i
  have := dg_lt Z i
  omega

/-- Bytes laid in from the lowest one on. -/
def inR (n i S : Nat) : List (List AV) := row1 n fun j => if n - 1 - j < i then u8c (dg S (n - 1 - j)) else u8c 0
theorem inR_len (n i S : Nat) : (inR n i S).length = n := row1_len _ _
theorem inR_set {n i S : Nat} (h : i < n) : (inR n i S).set (n - 1 - i) [u8c (dg S i)] = inR n (i + 1) S := by
  unfold inR
  rw [row1_set]
  refine row1_congr fun j hj => ?_
  by_cases e : j = n - 1 - i
  · subst e
    rw [if_pos rfl, if_pos (by omega), show n - 1 - (n - 1 - i) = i by omega]
  · rw [if_neg e]
    by_cases h2 : n - 1 - j < i
    · rw [if_pos h2, if_pos (by omega)]
    · rw [if_neg h2, if_neg (by omega)]
theorem inR_zero (n S : Nat) : List.replicate n [u8c 0] = inR n 0 S := by
  rw [row1_rep]
  exact row1_congr fun j _ => by rw [if_neg (by omega)]
theorem inR_all (n S : Nat) : inR n n S = bR n S := row1_congr fun j hj => if_pos (by omega)
instance (n i S : Nat) : PRs (inR n i S) := ⟨fun r hr => by
  obtain ⟨a, _, rfl⟩ := List.mem_map.1 hr
  exact allPure_cons (by show Pure (if n - 1 - a < i then _ else _); split <;> exact .sc _) allPure_nil⟩

set_option maxHeartbeats 1000000 in
/-- The digits come one by one. -/
theorem plus_walk (n m X Y S : Nat) (s : Int) (c : Nat → Int) (hX : X < 256 ^ n) (hY : Y < 256 ^ m) (hn : n ≤ 100000) (hm : m ≤ 100000) (hS : S < 256 ^ (max n m + 1)) (hs : s = 1 ∨ s = -1) (h0 : c 0 = 0) (hc : ∀ i, c i = 0 ∨ c i = 1 ∨ c i = -1)
    (hstep : ∀ i, (dg X i : Int) + s * dg Y i + c i = (dg S i : Int) + 256 * c (i + 1)) :
    PureRun Try.prog 116 [.list 1 (bR n X), .list 1 (bR m Y), .sc (.int .i64 s)] (bV S) := by
  refine PureRun.mkI cF116 (Nat.le_of_ble_eq_true rfl) ?_
  have e1 := bR_len n X
  have e2 := bR_len m Y
  have ht := trim_ok hS
  refine walkX ?_
  rw [e1, e2]
  generalize hN : max n m + 1 = N at *
  refine walkX ?_
  refine Reg.o rfl (dstep_mk (n := N) rfl (by omega) (by omega)) ?_
  refine walkX ?_
  refine AWP.loop (fun i : Nat => [(0, .list 1 (bR n X)), (1, .list 1 (bR m Y)), (2, .sc (.int .i64 s)), (7, .sc (.int .i64 (N : Int))), (8, .hsl 0 0 0 N), (9, .sc (.int .i64 (c i))), (10, .sc (.int .i64 (i : Int)))]) (fun i => [[.cells 1 (inR N i S)]]) (fun i => i ≤ N) (fun i => N - i) 0 (Nat.zero_le _) ?_ ?_
  · rw [h0]
    (apply Sub.to [] [[(0,0)]]; all_goals (repeat' (first | exact ToAll.nil | exact famsTo.nil | exact famTo.nil | exact ToL.nil | exact ToR.nil | refine ToAll.cons ?_ ?_ | refine famsTo.cons ?_ ?_ | refine wt10 ?_ ?_ | exact To.undef _ | exact To.sc _ | exact To.hslL rfl rfl | exact To.ptrO rfl rfl rfl | exact To.mrefO rfl | exact To.nil rfl rfl rfl | exact wt1 | exact To.nilL | refine To.int ?_ | refine To.bool ?_ | refine To.hslL rfl ?_ | refine wt2 rfl ?_ ?_ ?_ | refine To.tupL ?_ | refine To.aggL ?_ | refine To.cptrL ?_ | refine wt3 ?_ | refine wt4 ?_ | refine To.cloL ?_ ?_ | exact wt5 | refine wt6 ?_ | refine ToB.one ?_ | exact wt7 | ((with_reducible apply ToL.consE); case e9 => rfl) | refine wt8 ?_ | refine ToL.cons ?_ ?_ | exact wt11 | refine wt9 ?_ ?_ | refine wt12 ?_ | (with_reducible rfl) | assumption)); all_goals (first | rfl | assumption | (simp; done) | (simp; omega) | (rw [wrap_small (by omega) (by omega)]; done) | (rw [wrap_small (by omega) (by omega)]; omega) | (refine congrArg Nat.cast ?_; assumption) | skip))
    exact (inR_zero N S)
  intro i hi
  have e3 := inR_len N i S
  refine walkX ?_
  refine AWP.condD rfl (fun h => ?_) (fun h => ?_)
  · have a1 := at_ok (i := i) hX (by omega) (by omega)
    have a2 := at_ok (i := i) hY (by omega) (by omega)
    have hst := hstep i
    have hc1 := hc i
    have hc2 := hc (i + 1)
    have d1 := dg_lt X i
    have d2 := dg_lt Y i
    have d3 := dg_lt S i
    have hset := inR_set (S := S) h
    generalize dg X i = x at *
    generalize dg Y i = y at *
    generalize hd : dg S i = d at *
    generalize c i = ci at *
    generalize hci : c (i + 1) = cj at *
    have w1 : IntKind.i64.wrap (s * (y : Int)) = s * y := by rcases hs with rfl | rfl <;> exact wrap_small (by omega) (by omega)
    have w2 : IntKind.i64.wrap ((x : Int) + s * y) = x + s * y := by rcases hs with rfl | rfl <;> exact wrap_small (by omega) (by omega)
    have w3 : IntKind.i64.wrap ((x : Int) + s * y + ci) = x + s * y + ci := by rcases hs with rfl | rfl <;> exact wrap_small (by omega) (by omega)
    refine walkX ?_
    rw [w1, w2, w3, hst]
    have hix : N - 1 - i < N := by omega
    refine AWP.joinT2 (fun (v c' : Int) => [(0, .list 1 (bR n X)), (1, .list 1 (bR m Y)), (2, .sc (.int .i64 s)), (7, .sc (.int .i64 (N : Int))), (8, .hsl 0 0 0 N), (9, .sc (.int .i64 c')), (10, .sc (.int .i64 (i : Int))), (11, .sc (.int .i64 v))]) (fun _ _ => [[.cells 1 (inR N i S)]])
      (fun v c' => (v = d ∧ c' = -1 ∧ cj = -1) ∨ (v = d + 256 * cj ∧ c' = 0 ∧ 0 ≤ cj)) ?_ ?_
    · refine AWP.condD rfl (fun h => ?_) (fun h => ?_)
      · have hcj : cj = -1 := by omega
        have hw : IntKind.i64.wrap ((d : Int) + 256 * cj + 256) = d := by rw [hcj]; rw [wrap_small (by omega) (by omega)]; omega
        refine walkX ?_
        rw [hw]
        refine ⟨_, _, .inl ⟨rfl, rfl, hcj⟩, ?_⟩
        exact Sub.w [] [[(0,0)]]
      · refine walkX ?_
        refine ⟨_, _, .inr ⟨rfl, rfl, by omega⟩, ?_⟩
        exact Sub.w [] [[(0,0)]]
    rintro v c' hvc
    refine walkW ?_
    refine AWP.joinT0 [(0, .list 1 (bR n X)), (1, .list 1 (bR m Y)), (2, .sc (.int .i64 s)), (7, .sc (.int .i64 (N : Int))), (8, .hsl 0 0 0 N), (9, .sc (.int .i64 cj)), (10, .sc (.int .i64 (i : Int))), (11, .sc (.int .i64 (d : Int)))] [[.cells 1 (inR N i S)]] ?_ ?_
    · refine AWP.condD rfl (fun h => ?_) (fun h => ?_)
      · have hv : IntKind.i64.wrap (v - 256) = d := by rw [wrap_small (by omega) (by omega)]; omega
        have hcj : cj = 1 := by omega
        refine walkW ?_
        rw [hv]
        subst hcj
        exact Sub.w [] [[(0,0)]]
      · have hv : v = d := by omega
        have hcj : c' = cj := by omega
        subst hcj
        subst hv
        refine walkW ?_
        exact Sub.w [] [[(0,0)]]
    · unfold u8c at hset
      obtain ⟨r, hr⟩ : ∃ r, (inR N i S)[N - 1 - i]? = some [r] := by
        unfold inR
        rw [row1_get hix]
        exact ⟨_, rfl⟩
      refine walkX ?_
      rw [show [r].set 0 (AV.sc (Value.int IntKind.u8 (d : Int))) = [AV.sc (Value.int IntKind.u8 (d : Int))] from rfl, hset]
      refine ⟨i + 1, by omega, by omega, ?_⟩
      rw [hci]
      exact Sub.w [] [[(0,0)]]
  · have hi : i = N := by omega
    subst hi
    rw [inR_all]
    have e4 := bR_len i S
    refine walkX ?_
    refine Reg.sub (fr' := [(52, .list 1 (bR i S))]) (H' := []) ?_ ?_
    · exact Sub.w [] []
    refine walkX ?_
    exact EndP.w

theorem plus_ok {X Y : Nat} (hX : nb X ≤ 100000) (hY : nb Y ≤ 100000) : PureRun Try.prog 116 [bV X, bV Y, .sc (.int .i64 1)] (bV (X + Y)) := by
  have h1 : X < 256 ^ (max (nb X) (nb Y)) := Nat.lt_of_lt_of_le (lt_nb X) (Nat.pow_le_pow_right (by decide) (Nat.le_max_left _ _))
  have h2 : Y < 256 ^ (max (nb X) (nb Y)) := Nat.lt_of_lt_of_le (lt_nb Y) (Nat.pow_le_pow_right (by decide) (Nat.le_max_right _ _))
  refine plus_walk (nb X) (nb Y) X Y (X + Y) 1 (fun i => (carP X Y i : Int)) (lt_nb X) (lt_nb Y) hX hY (by rw [Nat.pow_succ]; omega) (.inl rfl) ?_ (fun i => ?_) (fun i => ?_)
  · show ((carP X Y 0 : Nat) : Int) = 0
    simp [carP, Nat.mod_one]
  · have := carP_le X Y i
    show ((carP X Y i : Nat) : Int) = 0 ∨ ((carP X Y i : Nat) : Int) = 1 ∨ ((carP X Y i : Nat) : Int) = -1
    omega
  · show (dg X i : Int) + 1 * dg Y i + ((carP X Y i : Nat) : Int) = dg (X + Y) i + 256 * ((carP X Y (i + 1) : Nat) : Int)
    rw [dg_add, carP_succ]
    omega
theorem minus_ok {X Y : Nat} (hX : nb X ≤ 100000) (hY : nb Y ≤ 100000) (hXY : Y ≤ X) : PureRun Try.prog 116 [bV X, bV Y, .sc (.int .i64 (-1))] (bV (X - Y)) := by
  have h1 : X < 256 ^ (max (nb X) (nb Y)) := Nat.lt_of_lt_of_le (lt_nb X) (Nat.pow_le_pow_right (by decide) (Nat.le_max_left _ _))
  refine plus_walk (nb X) (nb Y) X Y (X - Y) (-1) (fun i => -(carM X Y i : Int)) (lt_nb X) (lt_nb Y) hX hY (by rw [Nat.pow_succ]; omega) (.inr rfl) ?_ (fun i => ?_) (fun i => ?_)
  · show -((carM X Y 0 : Nat) : Int) = 0
    simp [carM, Nat.mod_one]
  · have := carM_le X Y i
    show -((carM X Y i : Nat) : Int) = 0 ∨ -((carM X Y i : Nat) : Int) = 1 ∨ -((carM X Y i : Nat) : Int) = -1
    omega
  · show (dg X i : Int) + -1 * dg Y i + -((carM X Y i : Nat) : Int) = dg (X - Y) i + 256 * -((carM X Y (i + 1) : Nat) : Int)
    have := dg_sub hXY i
    omega

theorem nb_mono {X Y : Nat} (h : nb X < nb Y) : X < Y := by
  have h1 := lt_nb X
  have h2 : ¬ Y < 256 ^ nb X := fun q => by have := (nb_le Y (nb X)).2 q; omega
  omega
theorem div_dg (X i : Nat) : X / 256 ^ i = 256 * (X / 256 ^ (i + 1)) + dg X i := by
  have : X / 256 ^ (i + 1) = X / 256 ^ i / 256 := by rw [Nat.div_div_eq_div_mul, ← Nat.pow_succ]
  rw [this]
  exact (Nat.div_add_mod _ _).symm

theorem order_ok {X Y : Nat} (_hX : nb X ≤ 100000) (hY : nb Y ≤ 100000) : PureRun Try.prog 73 [bV X, bV Y] (.sc (.int .i64 (cmpN X Y))) := by
  refine PureRun.mkI cF73 (Nat.le_of_ble_eq_true rfl) ?_
  have e1 := bR_len (nb X) X
  have e2 := bR_len (nb Y) Y
  unfold bV
  refine walkX ?_
  rw [e1, e2]
  refine AWP.condDn rfl (fun h => ?_) (fun h => ?_)
  · refine walkX ?_
    rw [e1, e2]
    refine AWP.condD rfl (fun h2 => ?_) (fun h2 => ?_)
    · have := nb_mono h2
      rw [show cmpN X Y = -1 by unfold cmpN; rw [if_pos this]]
      refine walkX ?_
      exact EndP.w
    · have := nb_mono (X := Y) (Y := X) (by omega)
      rw [show cmpN X Y = 1 by unfold cmpN; rw [if_neg (by omega), if_pos this]]
      refine walkX ?_
      exact EndP.w
  · have hX0 := lt_nb X
    have hY0 := lt_nb Y
    rw [← h] at hY0 e2 ⊢
    generalize nb X = n at *
    refine walkX ?_
    refine AWP.loop (fun i : Nat => [(0, .list 1 (bR n X)), (1, .list 1 (bR n Y)), (5, .sc (.int .i64 (i : Int)))]) (fun _ => []) (fun i => i ≤ n ∧ X / 256 ^ (n - i) = Y / 256 ^ (n - i)) (fun i => n - i) 0 ⟨Nat.zero_le _, ?_⟩ ?_ ?_
    · rw [Nat.sub_zero, Nat.div_eq_of_lt hX0, Nat.div_eq_of_lt hY0]
    · exact Sub.w [] []
    rintro i ⟨hi, hd⟩
    refine walkX ?_
    rw [e1]
    refine AWP.condD rfl (fun h1 => ?_) (fun h1 => ?_)
    · have r1 := bR_ix (N := X) h1
      have r2 := bR_ix (N := Y) h1
      have dx := div_dg X (n - 1 - i)
      have dy := div_dg Y (n - 1 - i)
      rw [show n - 1 - i + 1 = n - i by omega] at dx dy
      have b1 := dg_lt X (n - 1 - i)
      have b2 := dg_lt Y (n - 1 - i)
      generalize dg X (n - 1 - i) = x at *
      generalize dg Y (n - 1 - i) = y at *
      unfold u8c at r1 r2
      refine walkX ?_
      refine DK.nil ⟨by kernel_rfl, ?_⟩
      refine walkX ?_
      refine AWP.condDn rfl (fun h2 => ?_) (fun h2 => ?_)
      · refine walkX ?_
        refine DK.nil ⟨by kernel_rfl, ?_⟩
        refine walkX ?_
        refine AWP.condD rfl (fun h3 => ?_) (fun h3 => ?_)
        · have : X < Y := lt_of_div (c := 256 ^ (n - 1 - i)) (by omega)
          rw [show cmpN X Y = -1 by unfold cmpN; rw [if_pos this]]
          refine walkX ?_
          exact EndP.w
        · have : Y < X := lt_of_div (c := 256 ^ (n - 1 - i)) (by omega)
          rw [show cmpN X Y = 1 by unfold cmpN; rw [if_neg (by omega), if_pos this]]
          refine walkX ?_
          exact EndP.w
      · refine walkX ?_
        refine ⟨i + 1, ⟨by omega, ?_⟩, by omega, ?_⟩
        · rw [show n - (i + 1) = n - 1 - i by omega]
          omega
        · exact Sub.w [] []
    · rw [show n - i = 0 by omega] at hd
      simp at hd
      rw [show cmpN X Y = 0 by unfold cmpN; rw [if_neg (by omega), if_neg (by omega)]]
      refine walkX ?_
      exact EndP.w

/-- A sum of two signed numbers. -/
def addR (m : Bool) (X : Nat) (o : Bool) (Y : Nat) : Bool × Nat :=
  if m = o then (m, X + Y) else if X = Y then (false, 0) else if X < Y then (o, Y - X) else (m, X - Y)
theorem radd_ok (m o : Bool) {X Y : Nat} (hX : nb X ≤ 100000) (hY : nb Y ≤ 100000) : PureRun Try.prog 104 [.sc (.bool m), bV X, .sc (.bool o), bV Y] (.tup [.sc (.bool (addR m X o Y).1), bV (addR m X o Y).2]) := by
  refine PureRun.mkI cF104 (Nat.le_of_ble_eq_true rfl) ?_
  have h1 := plus_ok hX hY
  have h2 := order_ok hX hY
  unfold addR
  by_cases hmo : m = o
  · subst hmo
    rw [if_pos rfl]
    have e : (m == m) = true := by simp
    generalize X + Y = Z at *
    refine walkX ?_
    rw [e]
    refine walkX ?_
    exact EndP.w
  · rw [if_neg hmo]
    have e : (m == o) = false := by simpa using hmo
    by_cases hXY : X = Y
    · subst hXY
      rw [if_pos rfl]
      rw [show cmpN X X = 0 by unfold cmpN; rw [if_neg (by omega), if_neg (by omega)]] at h2
      refine walkX ?_
      rw [e]
      refine walkX ?_
      exact EndP.w
    · rw [if_neg hXY]
      by_cases hlt : X < Y
      · rw [if_pos hlt]
        rw [show cmpN X Y = -1 by unfold cmpN; rw [if_pos hlt]] at h2
        have h3 := minus_ok hY hX (by omega)
        generalize Y - X = Z at *
        refine walkX ?_
        rw [e]
        refine walkX ?_
        exact EndP.w
      · rw [if_neg hlt]
        rw [show cmpN X Y = 1 by unfold cmpN; rw [if_neg (by omega), if_pos (by omega)]] at h2
        have h3 := minus_ok hX hY (by omega)
        generalize X - Y = Z at *
        refine walkX ?_
        rw [e]
        refine walkX ?_
        exact EndP.w

end Go.Proofs.Ytnngbbiajioghaa
namespace Go.Proofs.Ytnngbbiajioghaa
open Go.Av Go.Proofs
set_option exponentiation.threshold 4000
set_option maxRecDepth 20000

/-! The document's numbers of 53 bits, shifted. -/

/-- Bytes, the lowest one first. -/
def lR (n N : Nat) : List (List AV) := row1 n fun i => u8c (dg N i)
theorem lR_len (n N : Nat) : (lR n N).length = n := row1_len _ _
instance (n N : Nat) : PRs (lR n N) := ⟨fun r hr => by
  obtain ⟨a, _, rfl⟩ := List.mem_map.1 hr
  exact allPure_cons (.sc _) allPure_nil⟩
theorem lR_succ (n N : Nat) : lR (n + 1) N = lR n N ++ [[u8c (dg N n)]] := by
  unfold lR row1
  rw [List.range_succ, List.map_append]
  rfl
theorem lR_ix {n N i : Nat} (h : i < n) : rowIx (lR n N) (i : Int) = some [u8c (dg N i)] := row1_get h
theorem dg_mshift (m k i : Nat) (h : i < k / 8) : dg (m * 2 ^ k) i = 0 := by
  unfold dg
  obtain ⟨c, rfl⟩ : ∃ c, k = 8 * i + 8 + c := ⟨k - 8 * i - 8, by omega⟩
  rw [pow256, show m * 2 ^ (8 * i + 8 + c) = m * 2 ^ c * 256 * 2 ^ (8 * i) by
    rw [show 8 * i + 8 + c = c + (8 + 8 * i) by omega, Nat.pow_add, Nat.pow_add, ← Nat.mul_assoc, ← Nat.mul_assoc], Nat.mul_div_cancel _ (Nat.pow_pos (by decide)), Nat.mul_mod_left]
theorem div_mshift (m k : Nat) : m * 2 ^ k / 256 ^ (k / 8) = m * 2 ^ (k % 8) := by
  have e : m * 2 ^ k = m * 2 ^ (k % 8) * 256 ^ (k / 8) := by
    rw [pow256, Nat.mul_assoc, ← Nat.pow_add]
    congr 2
    omega
  rw [e, Nat.mul_div_cancel _ (Nat.pow_pos (by decide))]

set_option maxHeartbeats 2000000 in
theorem rshifted_ok {m k : Nat} (hm : m < 18014398509481984) (hk : k ≤ 3000) : PureRun Try.prog 105 [.sc (.int .u64 (m : Int)), .sc (.int .i64 (k : Int))] (bV (m * 2 ^ k)) := by
  refine PureRun.mkI cF105 (Nat.le_of_ble_eq_true rfl) ?_
  have hz := dg_mshift m k
  have hdv := div_mshift m k
  have hr7 : 2 ^ (k % 8) ≤ 128 := by
    have : k % 8 ≤ 7 := by omega
    exact Nat.le_trans (Nat.pow_le_pow_right (by decide) this) (by decide)
  have hNn : nb (m * 2 ^ k) ≤ 400 := (nb_le _ _).2 (by
    rw [pow256]
    have : m * 2 ^ k < 2 ^ 54 * 2 ^ k := (Nat.mul_lt_mul_right (Nat.pow_pos (by decide))).2 hm
    rw [← Nat.pow_add] at this
    exact Nat.lt_of_lt_of_le this (Nat.pow_le_pow_right (by decide) (by omega)))
  generalize m * 2 ^ k = N at *
  refine walkX ?_
  refine AWP.loop (fun i : Nat => [(0, .sc (.int .u64 (m : Int))), (1, .sc (.int .i64 (k : Int))), (5, .hsl 0 0 0 i), (6, .sc (.int .i64 (i : Int)))]) (fun i => [[.cells 1 (lR i N)]]) (fun i => i ≤ k / 8) (fun i => k / 8 - i) 0 (Nat.zero_le _) ?_ ?_
  · exact Sub.w [1] [[(0,0)]]
  intro i hi
  have e1 := lR_len i N
  refine walkX ?_
  refine AWP.condD rfl (fun h => ?_) (fun h => ?_)
  · have hs := lR_succ i N
    rw [hz i h] at hs
    refine walkX ?_
    refine ⟨i + 1, by omega, by omega, ?_⟩
    rw [hs]
    exact Sub.w [] [[(2,0)]]
  have hik : i = k / 8 := by omega
  subst hik
  refine walkX ?_
  refine AWP.loop3 (fun (j m' c : Nat) => [(0, .sc (.int .u64 (m' : Int))), (1, .sc (.int .i64 (k : Int))), (5, .hsl 0 0 0 j), (7, .sc (.int .u64 (c : Int)))]) (fun j _ _ => [[.cells 1 (lR j N)]])
    (fun j m' c => j ≤ k / 8 + nb N ∧ m' < 18014398509481984 ∧ c < 256 ∧ N / 256 ^ j = m' * 2 ^ (k % 8) + c) (fun j _ _ => N / 256 ^ j) (k / 8) m 0 ⟨by omega, hm, by decide, by omega⟩ ?_ ?_
  · exact Sub.w [] [[(0,0)]]
  rintro j m' c ⟨hj, hm', hc, hd⟩
  have e2 := lR_len j N
  have hp : 0 < 2 ^ (k % 8) := Nat.pow_pos (by decide)
  refine AWP.seq ?_
  refine AWP.seq ?_
  refine AWP.joinT0 [(25, .sc (.bool (decide (0 < N / 256 ^ j)))), (0, .sc (.int .u64 (m' : Int))), (1, .sc (.int .i64 (k : Int))), (5, .hsl 0 0 0 j), (7, .sc (.int .u64 (c : Int)))] [[.cells 1 (lR j N)]] ?_ ?_
  · refine walkX ?_
    refine Reg.gs rfl (fun g => ?_) (fun g => ?_)
    · rw [g]
      have g := of_decide_eq_true g
      have h1 : 1 * 2 ^ (k % 8) ≤ m' * 2 ^ (k % 8) := Nat.mul_le_mul_right _ g
      have h2 : 0 < N / 256 ^ j := by omega
      rw [decide_eq_true h2]
      refine walkX ?_
      exact Sub.w [] [[(0,0)]]
    · rw [g]
      have g := of_decide_eq_false g
      have h0 : m' = 0 := by omega
      subst h0
      rw [Nat.zero_mul, Nat.zero_add] at hd
      rw [hd]
      refine walkX ?_
      exact Sub.w [] [[(0,0)]]
  refine walkX ?_
  refine AWP.condD rfl (fun g => ?_) (fun g => ?_)
  · have hd0 : m' % 256 * 2 ^ (k % 8) % 18446744073709551616 = m' % 256 * 2 ^ (k % 8) := by
      refine Nat.mod_eq_of_lt ?_
      have : m' % 256 * 2 ^ (k % 8) ≤ 255 * 128 := Nat.mul_le_mul (by omega) hr7
      omega
    have hd1 : m' % 256 * 2 ^ (k % 8) ≤ 255 * 128 := Nat.mul_le_mul (by omega) hr7
    have hsplit : m' * 2 ^ (k % 8) = 256 * (m' / 256 * 2 ^ (k % 8)) + m' % 256 * 2 ^ (k % 8) := by
      conv => lhs; rw [← Nat.div_add_mod m' 256]
      rw [Nat.add_mul, Nat.mul_assoc]
    have hdg : dg N j = (m' % 256 * 2 ^ (k % 8) + c) % 256 := by
      unfold dg
      rw [hd, hsplit]
      omega
    have hnext : N / 256 ^ (j + 1) = m' / 256 * 2 ^ (k % 8) + (m' % 256 * 2 ^ (k % 8) + c) / 256 := by
      rw [Nat.pow_succ, ← Nat.div_div_eq_div_mul, hd, hsplit]
      omega
    have hdec : N / 256 ^ (j + 1) < N / 256 ^ j := by
      rw [Nat.pow_succ, ← Nat.div_div_eq_div_mul]
      omega
    have hjn : j < k / 8 + nb N := by
      have : ¬ N < 256 ^ j := fun q => by rw [Nat.div_eq_of_lt q] at g; omega
      have : ¬ nb N ≤ j := fun q => this ((nb_le N j).1 q)
      omega
    have hs := lR_succ j N
    rw [hdg] at hs
    rw [← hd0] at hd1 hs hnext
    refine walkX ?_
    refine ⟨j + 1, m' / 256, (m' % 256 * 2 ^ (k % 8) % 18446744073709551616 + c) / 256, ⟨by omega, by omega, by omega, hnext⟩, hdec, ?_⟩
    rw [hs]
    unfold u8c
    exact Sub.w [] [[(2,0)]]
  · have hN : N < 256 ^ j := by
      rcases Nat.lt_or_ge N (256 ^ j) with h1 | h1
      · exact h1
      · have := (Nat.le_div_iff_mul_le (Nat.pow_pos (show 0 < 256 by decide))).2 (show 1 * 256 ^ j ≤ N by omega)
        omega
    have ht := trim_ok hN
    refine walkX ?_
    refine Reg.o rfl (dstep_mk (n := j) rfl (by omega) (by omega)) ?_
    refine walkX ?_
    refine AWP.loop (fun i : Nat => [(5, .list 1 (lR j N)), (9, .hsl 0 0 0 j), (10, .sc (.int .i64 (i : Int)))]) (fun i => [[.cells 1 (inR j i N)]]) (fun i => i ≤ j) (fun i => j - i) 0 (Nat.zero_le _) ?_ ?_
    · (apply Sub.to [] [[(1,0)]]; all_goals (repeat' (first | exact ToAll.nil | exact famsTo.nil | exact famTo.nil | exact ToL.nil | exact ToR.nil | refine ToAll.cons ?_ ?_ | refine famsTo.cons ?_ ?_ | refine wt10 ?_ ?_ | exact To.undef _ | exact To.sc _ | exact To.hslL rfl rfl | exact To.ptrO rfl rfl rfl | exact To.mrefO rfl | exact To.nil rfl rfl rfl | exact wt1 | exact To.nilL | refine To.int ?_ | refine To.bool ?_ | refine To.hslL rfl ?_ | refine wt2 rfl ?_ ?_ ?_ | refine To.tupL ?_ | refine To.aggL ?_ | refine To.cptrL ?_ | refine wt3 ?_ | refine wt4 ?_ | refine To.cloL ?_ ?_ | exact wt5 | refine wt6 ?_ | refine ToB.one ?_ | exact wt7 | ((with_reducible apply ToL.consE); case e9 => rfl) | refine wt8 ?_ | refine ToL.cons ?_ ?_ | exact wt11 | refine wt9 ?_ ?_ | refine wt12 ?_ | (with_reducible rfl) | assumption)); all_goals (first | rfl | assumption | (simp; done) | (simp; omega) | (rw [wrap_small (by omega) (by omega)]; done) | (rw [wrap_small (by omega) (by omega)]; omega) | (refine congrArg Nat.cast ?_; assumption) | skip))
      exact inR_zero j N
    intro i hi
    have e3 := inR_len j i N
    refine walkX ?_
    rw [e2]
    refine AWP.condD rfl (fun h => ?_) (fun h => ?_)
    · have hr := lR_ix (N := N) h
      have hset := inR_set (S := N) h
      have hix : j - 1 - i < j := by omega
      obtain ⟨r, hr2⟩ : ∃ r, (inR j i N)[j - 1 - i]? = some [r] := by
        unfold inR
        rw [row1_get hix]
        exact ⟨_, rfl⟩
      refine walkX ?_
      rw [e2]
      refine walkX ?_
      rw [show [r].set 0 (AV.sc (Value.int IntKind.u8 ((dg N i : Nat) : Int))) = [u8c (dg N i)] from rfl, hset]
      refine ⟨i + 1, by omega, by omega, ?_⟩
      exact Sub.w [] [[(0,0)]]
    · have hij : i = j := by omega
      subst hij
      rw [inR_all]
      have e4 := bR_len i N
      refine walkX ?_
      refine Reg.sub (fr' := [(63, .list 1 (bR i N))]) (H' := []) ?_ ?_
      · exact Sub.w [] []
      refine walkX ?_
      exact EndP.w

end Go.Proofs.Ytnngbbiajioghaa
namespace Go.Proofs.Ytnngbbiajioghaa
open Go.Av Go.Proofs
set_option exponentiation.threshold 4000
set_option maxRecDepth 20000

/-! What a sum of the document knows. -/

structure Rs where
  minus : Bool
  N : Nat
  nan : Bool
  plus : Bool
  below : Bool
  zero : Nat

abbrev Rs.row (r : Rs) : List AV := [.sc (.bool r.minus), bV r.N, .sc (.bool r.nan), .sc (.bool r.plus), .sc (.bool r.below), .sc (.int .i64 (r.zero : Int))]
instance (r : Rs) : PR r.row := ⟨allPure_cons (.sc _) (allPure_cons (pv _) (allPure_cons (.sc _) (allPure_cons (.sc _) (allPure_cons (.sc _) (allPure_cons (.sc _) allPure_nil)))))⟩

def oneRs (b : Nat) : Rs :=
  if infN < b % 9223372036854775808 then ⟨false, 0, true, false, false, 2⟩
  else if b = 9218868437227405312 then ⟨false, 0, false, true, false, 2⟩
  else if b = 18442240474082181120 then ⟨false, 0, false, false, true, 2⟩
  else if b = 9223372036854775808 then ⟨false, 0, false, false, false, 1⟩
  else ⟨decide (9223372036854775808 ≤ b) && decide (0 < oneN b), oneN b, false, false, false, 2⟩

theorem risnan_ok {b : Nat} (hb : b < 18446744073709551616) : PureRun Try.prog 55 [.sc (.int .u64 (b : Int))] (.sc (.bool (decide (infN < b &&& 9223372036854775807)))) := by
  refine PureRun.mkI cF55 (Nat.le_of_ble_eq_true rfl) ?_
  refine walkX ?_
  exact EndP.w

theorem nb_pos (N : Nat) : 0 < nb N ↔ 0 < N := by
  have := nb_le N 0
  simp at this
  omega
theorem nb_oneN {b : Nat} (h : ¬ infN ≤ b % 9223372036854775808) : nb (oneN b) ≤ 300 := (nb_le _ _).2 (by
  rw [pow256]
  exact Nat.lt_of_lt_of_le (oneN_lt h) (Nat.pow_le_pow_right (by decide) (by decide)))

def u6 : List AV := [.undef, .undef, .undef, .undef, .undef, .undef]

set_option maxHeartbeats 2000000 in
theorem rone_ok {b : Nat} (hb : b < 18446744073709551616) : PureRun Try.prog 71 [.sc (.int .u64 (b : Int))] (.agg (oneRs b).row) := by
  refine PureRun.mkI cF71 (Nat.le_of_ble_eq_true rfl) ?_
  have hn := risnan_ok hb
  rw [and_abs] at hn
  have hd : b / 2 ^ 52 < 18446744073709551616 := by omega
  have he : b / 2 ^ 52 &&& 2047 ≤ 9223372036854775807 := by rw [and_exp]; omega
  have hsg := and_sign hb
  refine AWP.seq ?_
  refine AWP.region ?_
  refine walkR ?_
  refine AWP.seq ?_
  refine AWP.region ?_
  refine walkR ?_
  refine AWP.seq ?_
  refine AWP.region ?_
  refine walkR ?_
  rw [and_mant, and_exp]
  have hx : b / 2 ^ 52 % 2048 ≤ 2047 := by omega
  refine AWP.seq ?_
  refine AWP.joinT (fun r : Rs => [(0, .sc (.int .u64 (b : Int))), (2, .ptr 0 0 0 0), (3, .ptr 1 0 0 0)]) (fun r => [[.cells 6 [u6]], [.cells 6 [r.row]]]) (fun r => r.minus = false ∧ nb r.N ≤ 1000000 ∧ oneRs b = ⟨decide (9223372036854775808 ≤ b) && decide (0 < r.N), r.N, r.nan, r.plus, r.below, r.zero⟩) ?_ ?_
  · by_cases c1 : infN < b % 9223372036854775808
    · rw [decide_eq_true c1] at hn
      have e : oneRs b = ⟨false, 0, true, false, false, 2⟩ := if_pos c1
      rw [e]
      clear c1 e
      refine walkX ?_
      refine ⟨⟨false, 0, true, false, false, 2⟩, ⟨rfl, by decide, by simp⟩, ?_⟩
      exact Sub.wx [] [[(0,0)],[(1,0)]]
    rw [decide_eq_false c1] at hn
    refine walkX ?_
    refine AWP.condD rfl (fun c2 => ?_) (fun c2 => ?_)
    · have e : oneRs b = ⟨false, 0, false, true, false, 2⟩ := by unfold oneRs; rw [if_neg c1, if_pos c2]
      rw [e]
      refine walkX ?_
      refine ⟨⟨false, 0, false, true, false, 2⟩, ⟨rfl, by decide, by simp⟩, ?_⟩
      exact Sub.wx [] [[(0,0)],[(1,0)]]
    refine walkX ?_
    refine AWP.condD rfl (fun c3 => ?_) (fun c3 => ?_)
    · have e : oneRs b = ⟨false, 0, false, false, true, 2⟩ := by unfold oneRs; rw [if_neg c1, if_neg c2, if_pos c3]
      rw [e]
      refine walkX ?_
      refine ⟨⟨false, 0, false, false, true, 2⟩, ⟨rfl, by decide, by simp⟩, ?_⟩
      exact Sub.wx [] [[(0,0)],[(1,0)]]
    refine walkX ?_
    refine AWP.condD rfl (fun c4 => ?_) (fun c4 => ?_)
    · have e : oneRs b = ⟨false, 0, false, false, false, 1⟩ := by unfold oneRs; rw [if_neg c1, if_neg c2, if_neg c3, if_pos c4]
      rw [e]
      refine walkX ?_
      refine ⟨⟨false, 0, false, false, false, 1⟩, ⟨rfl, by decide, by simp⟩, ?_⟩
      exact Sub.wx [] [[(0,0)],[(1,0)]]
    have e : oneRs b = ⟨decide (9223372036854775808 ≤ b) && decide (0 < oneN b), oneN b, false, false, false, 2⟩ := by unfold oneRs; rw [if_neg c1, if_neg c2, if_neg c3, if_neg c4]
    have hni : ¬ infN ≤ b % 9223372036854775808 := by unfold infN at c1 ⊢; omega
    have hN := nb_oneN hni
    rw [e]
    clear e
    refine walkX ?_
    refine AWP.condD rfl (fun c5 => ?_) (fun c5 => ?_)
    · have h105 := rshifted_ok (m := b % 4503599627370496) (k := 0) (by omega) (by decide)
      have e4 : oneN b = b % 4503599627370496 * 2 ^ 0 := if_pos c5
      rw [← e4] at h105
      generalize oneN b = N at *
      refine walkX ?_
      refine ⟨⟨false, N, false, false, false, 2⟩, ⟨rfl, by show nb N ≤ 1000000; omega, rfl⟩, ?_⟩
      exact Sub.wx [] [[(0,0)],[(1,0)]]
    · have h105 := rshifted_ok (m := b % 4503599627370496 + 4503599627370496) (k := b / 2 ^ 52 % 2048 - 1) (by omega) (by omega)
      have e4 : oneN b = (b % 4503599627370496 + 4503599627370496) * 2 ^ (b / 2 ^ 52 % 2048 - 1) := if_neg c5
      rw [← e4] at h105
      generalize oneN b = N at *
      refine walkX ?_
      refine ⟨⟨false, N, false, false, false, 2⟩, ⟨rfl, by show nb N ≤ 1000000; omega, rfl⟩, ?_⟩
      exact Sub.wx [] [[(0,0)],[(1,0)]]
  rintro ⟨mi, N, na, pl, be, ze⟩ ⟨h1, h2, h3⟩
  simp only at h1 h2 h3
  subst h1
  rw [h3]
  have hp := nb_pos N
  have e0 := bR_len (nb N) N
  clear hn hd he hx h3
  refine walkX ?_
  rw [hsg]
  by_cases c5 : 9223372036854775808 ≤ b
  · rw [if_pos c5, decide_eq_true c5]
    refine walkX ?_
    rw [e0]
    have e5 : decide (0 < nb N) = decide (0 < N) := by rw [Bool.eq_iff_iff]; simp [hp]
    rw [e5]
    refine walkX ?_
    exact EndP.w
  · rw [if_neg c5, decide_eq_false c5]
    refine walkX ?_
    exact EndP.w

end Go.Proofs.Ytnngbbiajioghaa
namespace Go.Proofs.Ytnngbbiajioghaa
open Go.Av Go.Proofs
set_option exponentiation.threshold 4000
set_option maxRecDepth 20000

/-! The document's sums are merged. -/

def mergedR (a s : Rs) : Int × Rs :=
  if 280 < nb (addR a.minus a.N s.minus s.N).2 then (14, a)
  else (0, ⟨(addR a.minus a.N s.minus s.N).1 && decide (0 < (addR a.minus a.N s.minus s.N).2), (addR a.minus a.N s.minus s.N).2, a.nan || s.nan, a.plus || s.plus, a.below || s.below, max a.zero s.zero⟩)

theorem addR_nb {m o : Bool} {X Y : Nat} (hX : nb X ≤ 1000) (hY : nb Y ≤ 1000) : nb (addR m X o Y).2 ≤ 1001 := by
  have h1 : X < 256 ^ 1000 := (nb_le _ _).1 hX
  have h2 : Y < 256 ^ 1000 := (nb_le _ _).1 hY
  refine (nb_le _ _).2 ?_
  have h3 : (256 : Nat) ^ 1001 = 256 ^ 1000 * 256 := Nat.pow_succ ..
  rw [h3]
  generalize 256 ^ 1000 = p at *
  unfold addR
  split
  · show X + Y < _; omega
  · split
    · show 0 < _; omega
    · split
      · show Y - X < _; omega
      · show X - Y < _; omega

set_option maxHeartbeats 4000000 in
theorem merged_ok (a s : Rs) (ha : nb a.N ≤ 1000) (hs : nb s.N ≤ 1000) : CallOK Try.prog 70 [.ptr 0 0 0 0, .agg s.row] [[.cells 6 [a.row]]] fun res H' => res = .sc (.int .i64 (mergedR a s).1) ∧ H' = [[.cells 6 [(mergedR a s).2.row]]] := by
  refine CallOK.of cF70 ?_ (Nat.le_of_ble_eq_true rfl)
  have hadd := radd_ok a.minus s.minus (X := a.N) (Y := s.N) (by omega) (by omega)
  have hnb := addR_nb (m := a.minus) (o := s.minus) ha hs
  have hp := nb_pos (addR a.minus a.N s.minus s.N).2
  unfold mergedR
  generalize addR a.minus a.N s.minus s.N = q at *
  obtain ⟨m, n⟩ := q
  simp only at hadd hnb hp ⊢
  have e0 := bR_len (nb n) n
  obtain ⟨ami, aN, ana, apl, abe, aze⟩ := a
  obtain ⟨smi, sN, sna, spl, sbe, sze⟩ := s
  simp only at hadd ⊢
  refine walkX ?_
  refine DK.nil ⟨by kernel_rfl, ?_⟩
  refine walkX ?_
  rw [e0]
  refine AWP.condD rfl (fun h => ?_) (fun h => ?_)
  · rw [if_pos h]
    refine walkX ?_
    (refine endH [[(0,0)]] (by first | exact .inr rfl | exact .inl rfl) rfl ⟨rfl, rfl⟩ ?_ ?_ rfl rfl rfl; all_goals (repeat' (first | exact ToAll.nil | exact famsTo.nil | exact famTo.nil | exact ToL.nil | exact ToR.nil | refine ToAll.cons ?_ ?_ | refine famsTo.cons ?_ ?_ | refine wt10 ?_ ?_ | exact To.undef _ | exact To.sc _ | exact To.hslL rfl rfl | exact To.ptrO rfl rfl rfl | exact To.mrefO rfl | exact To.nil rfl rfl rfl | exact wt1 | exact To.nilL | refine To.int ?_ | refine To.bool ?_ | refine To.hslL rfl ?_ | refine wt2 rfl ?_ ?_ ?_ | refine To.tupL ?_ | refine To.aggL ?_ | refine To.cptrL ?_ | refine wt3 ?_ | refine wt4 ?_ | refine To.cloL ?_ ?_ | exact wt5 | refine wt6 ?_ | refine ToB.one ?_ | exact wt7 | ((with_reducible apply ToL.consE); case e9 => rfl) | refine wt8 ?_ | refine ToL.cons ?_ ?_ | exact wt11 | refine wt9 ?_ ?_ | refine wt12 ?_ | (with_reducible rfl) | assumption)); all_goals (first | rfl | assumption | (simp; done) | (simp; omega) | (rw [wrap_small (by omega) (by omega)]; done) | (rw [wrap_small (by omega) (by omega)]; omega) | (refine congrArg Nat.cast ?_; assumption) | skip))
  · rw [if_neg h]
    refine AWP.skip ?_
    refine AWP.seq ?_
    refine AWP.joinT0 [(0, .ptr 0 0 0 0), (3, .ptr 1 0 0 0)] [[.cells 6 [[.sc (.bool (m && decide (0 < n))), bV n, .sc (.bool ana), .sc (.bool apl), .sc (.bool abe), .sc (.int .i64 (aze : Int))]]], [.cells 6 [Rs.row ⟨smi, sN, sna, spl, sbe, sze⟩]]] ?_ ?_
    · have e5 : decide (0 < nb n) = decide (0 < n) := by rw [Bool.eq_iff_iff]; simp [hp]
      cases m
      · refine walkX ?_
        exact Sub.wx [] [[(0,0)],[(1,0)]]
      · refine walkX ?_
        rw [e0]
        rw [e5]
        refine walkX ?_
        exact Sub.wx [] [[(0,0)],[(1,0)]]
    · generalize (m && decide (0 < n)) = mi
      clear hadd hnb hp e0 h
      cases ana <;> cases apl <;> cases abe
      all_goals
        refine walkX ?_
        refine DK.nil ⟨by kernel_rfl, ?_⟩
        refine walkX ?_
        refine DK.nil ⟨by kernel_rfl, ?_⟩
        refine walkX ?_
        (refine endH [[(0,0)]] (by first | exact .inr rfl | exact .inl rfl) rfl ⟨rfl, rfl⟩ ?_ ?_ rfl rfl rfl; all_goals (repeat' (first | exact ToAll.nil | exact famsTo.nil | exact famTo.nil | exact ToL.nil | exact ToR.nil | refine ToAll.cons ?_ ?_ | refine famsTo.cons ?_ ?_ | refine wt10 ?_ ?_ | exact To.undef _ | exact To.sc _ | exact To.hslL rfl rfl | exact To.ptrO rfl rfl rfl | exact To.mrefO rfl | exact To.nil rfl rfl rfl | exact wt1 | exact To.nilL | refine To.int ?_ | refine To.bool ?_ | refine To.hslL rfl ?_ | refine wt2 rfl ?_ ?_ ?_ | refine To.tupL ?_ | refine To.aggL ?_ | refine To.cptrL ?_ | refine wt3 ?_ | refine wt4 ?_ | refine To.cloL ?_ ?_ | exact wt5 | refine wt6 ?_ | refine ToB.one ?_ | exact wt7 | ((with_reducible apply ToL.consE); case e9 => rfl) | refine wt8 ?_ | refine ToL.cons ?_ ?_ | exact wt11 | refine wt9 ?_ ?_ | refine wt12 ?_ | (with_reducible rfl) | assumption)); all_goals (first | rfl | assumption | (simp; done) | (simp; omega) | (rw [wrap_small (by omega) (by omega)]; done) | (rw [wrap_small (by omega) (by omega)]; omega) | (refine congrArg Nat.cast ?_; assumption) | skip))

end Go.Proofs.Ytnngbbiajioghaa
namespace Go.Proofs.Ytnngbbiajioghaa
open Go.Av Go.Proofs
set_option exponentiation.threshold 4000
set_option maxRecDepth 20000

/-! The document's sums: added to, rounded. -/

theorem pureB_rrow (r : Rs) : PureB (.cells 6 [r.row]) := fun q hq => by
  rw [List.mem_singleton.1 hq]; exact pr _
theorem merged_at {H : Heap} {g i : Nat} {a : Rs} (hx : hget H g i = some (.cells 6 [a.row])) (s : Rs) (ha : nb a.N ≤ 1000) (hs : nb s.N ≤ 1000) :
    CallOK Try.prog 70 [.ptr g i 0 0, .agg s.row] H fun res H' => res = .sc (.int .i64 (mergedR a s).1) ∧ H' = hset H g i (.cells 6 [(mergedR a s).2.row]) := by
  refine (CallOK.via1 (args := [.ptr g i 0 0, .agg s.row]) (R := fun res y => res = .sc (.int .i64 (mergedR a s).1) ∧ y = .cells 6 [(mergedR a s).2.row]) g i ((merged_ok a s ha hs).mono ?_) hx (pureB_rrow _) ⟨.ptr _ _ _ _ _ _ rfl, .pure (.agg _ (pr _)), trivial⟩).mono ?_
  · rintro res H' ⟨rfl, rfl⟩
    exact ⟨_, rfl, .sc _, pureB_rrow _, rfl, rfl⟩
  · rintro res H' ⟨y, rfl, rfl, rfl⟩
    exact ⟨rfl, rfl⟩

theorem oneRs_nb (b : Nat) : nb (oneRs b).N ≤ 300 := by
  unfold oneRs
  split
  · decide
  · split
    · decide
    · split
      · decide
      · split
        · decide
        · rename_i h1 h2 h3 h4
          by_cases hni : infN ≤ b % 9223372036854775808
          · have : b % 9223372036854775808 = infN := by unfold infN at *; omega
            show nb (oneN b) ≤ 300
            refine (nb_le _ _).2 ?_
            have h5 : b % 4503599627370496 < 4503599627370496 := Nat.mod_lt _ (by decide)
            rw [pow256]
            unfold oneN
            split
            · rw [Nat.pow_zero, Nat.mul_one]
              exact Nat.lt_of_lt_of_le h5 (show (4503599627370496 : Nat) ≤ 2 ^ (8 * 300) by rw [show (4503599627370496 : Nat) = 2 ^ 52 from rfl]; exact Nat.pow_le_pow_right (by decide) (by decide))
            · have h6 : b / 4503599627370496 % 2048 - 1 ≤ 2046 := by omega
              have h7 : (2 : Nat) ^ (8 * 300) = 2 ^ 354 * 2 ^ 2046 := by rw [← Nat.pow_add]
              rw [h7]
              exact Nat.lt_of_lt_of_le ((Nat.mul_lt_mul_right (Nat.pow_pos (by decide))).2 (show _ < 2 ^ 354 from Nat.lt_of_lt_of_le (show _ < 2 ^ 53 by omega) (Nat.pow_le_pow_right (by decide) (by decide)))) (Nat.mul_le_mul_left _ (Nat.pow_le_pow_right (by decide) h6))
          · exact nb_oneN hni

theorem radd_at {H : Heap} {g i : Nat} {a : Rs} (hx : hget H g i = some (.cells 6 [a.row])) (ha : nb a.N ≤ 1000) {b : Nat} (hb : b < 18446744073709551616) :
    CallOK Try.prog 35 [.ptr g i 0 0, .sc (.int .u64 (b : Int))] H fun res H' => res = .sc (.int .i64 (mergedR a (oneRs b)).1) ∧ H' = hset H g i (.cells 6 [(mergedR a (oneRs b)).2.row]) := by
  refine CallOK.of cF35 ?_ (Nat.le_of_ble_eq_true rfl)
  have h2 := rone_ok hb
  have h3 := merged_at hx (oneRs b) ha (by have := oneRs_nb b; omega)
  generalize oneRs b = s at *
  refine walkX ?_
  refine Reg.c (Nat.le_refl _) rfl (h3.mono ?_)
  rintro res H2 ⟨rfl, rfl⟩
  refine walkX ?_
  exact ⟨.inr rfl, _, _, _, rfl, .refl _ _ _, rfl, rfl⟩

theorem truth_ok (b : Bool) : PureRun Try.prog 72 [.sc (.bool b)] (.sc (.int .u64 (b.toNat : Int))) := by
  refine PureRun.mkI cF72 (Nat.le_of_ble_eq_true rfl) ?_
  cases b
  all_goals
    refine walkX ?_
    exact EndP.w

theorem blen_pos {x : Nat} (h : 0 < x) : blen x = blen (x / 2) + 1 := by
  by_cases h1 : x = 1
  · subst h1; decide
  · have := blen_shift x 1 (by omega)
    rw [Nat.pow_one] at this
    exact this

theorem bits_ok {N : Nat} (hN : nb N ≤ 1000) : PureRun Try.prog 101 [bV N] (.sc (.int .i64 (blen N : Int))) := by
  refine PureRun.mkI cF101 (Nat.le_of_ble_eq_true rfl) ?_
  have hlt := lt_nb N
  by_cases h0 : nb N = 0
  · have hz : N = 0 := by
      rw [h0] at hlt
      simpa using hlt
    subst hz
    rw [bV_zero]
    refine walkX ?_
    exact EndP.w
  have hbl : blen N = 8 * (nb N - 1) + blen (dg N (nb N - 1)) := by
    have h1 : ¬ N < 256 ^ (nb N - 1) := fun q => by have := (nb_le N _).2 q; omega
    rw [dg_top (by rw [show nb N - 1 + 1 = nb N by omega]; exact hlt), pow256]
    have := blen_shift N (8 * (nb N - 1)) (by rw [← pow256]; omega)
    omega
  have e0 := bR_len (nb N) N
  have hr := bR_ix (n := nb N) (N := N) (i := 0) (by omega)
  have hd := dg_lt N (nb N - 1)
  unfold bV
  rw [hbl]
  generalize nb N = n at *
  rw [Nat.sub_zero] at hr
  generalize dg N (n - 1) = x0 at *
  unfold u8c at hr
  refine walkX ?_
  rw [e0]
  refine AWP.condD rfl (fun h => absurd h h0) (fun h => ?_)
  refine walkX ?_
  rw [e0]
  have h18 : 1 ≤ n := by omega
  refine walkX ?_
  refine AWP.loop2 (fun (c x : Nat) => [(3, .sc (.int .i64 (c : Int))), (4, .sc (.int .u8 (x : Int)))]) (fun _ _ => []) (fun c x => c ≤ 8 * (n - 1) + 8 ∧ x < 256 ∧ c + blen x = 8 * (n - 1) + blen x0) (fun _ x => x) (8 * (n - 1)) x0 ⟨by omega, hd, rfl⟩ ?_ ?_
  · exact Sub.w [] []
  rintro c x ⟨hc, hx, hcx⟩
  have hb0 := blen_le (n := x0) (k := 8) hd
  refine walkX ?_
  refine AWP.condD rfl (fun h => ?_) (fun h => ?_)
  · have hbp := blen_pos h
    refine walkX ?_
    have hw : IntKind.u8.wrap ((x : Int).tdiv 2) = ((x / 2 : Nat) : Int) := by
      rw [show (x : Int).tdiv 2 = ((x / 2 : Nat) : Int) from rfl, wrapB, Nat.mod_eq_of_lt (by omega)]
    rw [hw]
    refine ⟨c + 1, x / 2, ⟨by omega, by omega, by omega⟩, by omega, ?_⟩
    exact Sub.w [] []
  · have hx0 : x = 0 := by omega
    subst hx0
    rw [show 8 * (n - 1) + blen x0 = c by rw [← hcx]; rfl]
    refine walkX ?_
    exact EndP.w

/-- A bit of a number. -/
def bt (N i : Nat) : Nat := N / 2 ^ i % 2
theorem bit_ok {N i : Nat} (hN : nb N ≤ 1000) (hi : i ≤ 100000) : PureRun Try.prog 102 [bV N, .sc (.int .i64 (i : Int))] (.sc (.int .i64 (bt N i : Int))) := by
  refine PureRun.mkI cF102 (Nat.le_of_ble_eq_true rfl) ?_
  have hat := at_ok (i := i / 8) (lt_nb N) (by omega) (by omega)
  have hd := dg_lt N (i / 8)
  have hb : bt N i = dg N (i / 8) / 2 ^ (i % 8) % 2 := by
    unfold bt dg
    rw [pow256]
    obtain ⟨r, hr, hir⟩ : ∃ r, r < 8 ∧ i = 8 * (i / 8) + r := ⟨i % 8, Nat.mod_lt _ (by decide), by omega⟩
    rw [show i % 8 = r by omega]
    conv => lhs; rw [hir]
    rw [← div_pow_pow, show (256 : Nat) = 2 ^ (r + (8 - r)) by rw [show r + (8 - r) = 8 by omega], mod_div_pow, show 8 - r = 1 + (7 - r) by omega, Nat.pow_add 2 1, Nat.pow_one, Nat.mod_mul_right_mod]
  rw [hb]
  unfold bV
  generalize dg N (i / 8) = x at *
  refine walkX ?_
  exact EndP.w

end Go.Proofs.Ytnngbbiajioghaa
