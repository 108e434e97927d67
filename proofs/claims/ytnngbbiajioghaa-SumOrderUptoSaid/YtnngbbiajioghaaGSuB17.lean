import Derived.Test.YtnngbbiajioghaaGSuP3
import Derived.Test.YtnngbbiajioghaaGSuW2
import Derived.Test.YtnngbbiajioghaaGSuL6
namespace Go.Proofs.Ytnngbbiajioghaa
open Go.Av Go.Proofs
set_option exponentiation.threshold 4000
set_option maxRecDepth 20000

/-! The sum of some numbers. -/
theorem of_ok (l : List Nat) (hl : l.length ≤ 4000) (hb : ∀ b ∈ l, b < 18446744073709551616) : CallOK Try.prog 26 [.list 1 (u64R l)] [] fun res H' => res = .tup [.ptr 0 0 0 0, .sc (.bool true)] ∧ H' = [[.cells 41 [(sumL l).acc true]]] := by
  refine CallOK.of cF26 ?_ (Nat.le_of_ble_eq_true rfl)
  have e0 := u64R_len l
  refine walkS0 ?_
  refine Reg.c (Nat.zero_le _) rfl ((new_at _).mono ?_)
  rintro res H' ⟨rfl, rfl⟩
  refine walkS0 ?_
  rw [e0]
  refine AWP.loop (fun k : Nat => [(4, .ptr 0 0 0 0), (8, .list 1 (u64R l)), (9, .sc (.int .i64 (l.length : Int))), (10, .sc (.int .i64 (k : Int)))]) (fun k => [[.cells 41 [(sumL (l.take k)).acc true]]]) (fun k => k ≤ l.length) (fun k => l.length - k) 0 (Nat.zero_le _) ?_ ?_
  · exact Sub.w [] [[(0,0)]]
  intro k hk
  refine walkS0 ?_
  refine AWP.condD rfl (fun h => ?_) (fun h => ?_)
  · have hr := u64R_ix l k h
    have hv := hb l[k] (List.getElem_mem h)
    have ht : l.take (k + 1) = l.take k ++ [l[k]] := List.take_succ_eq_append_getElem h
    have hm := merge_sumL (l.take k) l[k] (fun c hc => hb c (List.mem_of_mem_take hc)) hv (by rw [List.length_take]; omega)
    rw [← ht] at hm
    generalize l[k] = b at *
    refine walkS0 ?_
    refine Reg.c (Nat.zero_le _) rfl ((add_at (a := sumL (l.take k)) (g := 0) (i := 0) (b := b) rfl hv).mono ?_)
    rintro res H' ⟨rfl, rfl⟩
    rw [hm]
    refine walkS0 ?_
    refine ⟨k + 1, by omega, by omega, ?_⟩
    exact Sub.w [] [[(0,0)]]
  · have hk : k = l.length := by omega
    subst hk
    rw [List.take_of_length_le (Nat.le_refl _)]
    refine walkS0 ?_
    (refine endH [[(0,0)]] (by first | exact .inr rfl | exact .inl rfl) rfl ⟨rfl, rfl⟩ ?_ ?_ rfl rfl rfl; all_goals (repeat' (first | exact ToAll.nil | exact famsTo.nil | exact famTo.nil | exact ToL.nil | exact ToR.nil | refine ToAll.cons ?_ ?_ | refine famsTo.cons ?_ ?_ | refine wt10 ?_ ?_ | exact To.undef _ | exact To.sc _ | exact To.hslL rfl rfl | exact To.ptrO rfl rfl rfl | exact To.mrefO rfl | exact To.nil rfl rfl rfl | exact wt1 | exact To.nilL | refine To.int ?_ | refine To.bool ?_ | refine To.hslL rfl ?_ | refine wt2 rfl ?_ ?_ ?_ | refine To.tupL ?_ | refine To.aggL ?_ | refine To.cptrL ?_ | refine wt3 ?_ | refine wt4 ?_ | refine To.cloL ?_ ?_ | exact wt5 | refine wt6 ?_ | refine ToB.one ?_ | exact wt7 | ((with_reducible apply ToL.consE); case e9 => rfl) | refine wt8 ?_ | refine ToL.cons ?_ ?_ | exact wt11 | refine wt9 ?_ ?_ | refine wt12 ?_ | (with_reducible rfl) | assumption)); all_goals (first | rfl | assumption | (simp; done) | (simp; omega) | (rw [wrap_small (by omega) (by omega)]; done) | (rw [wrap_small (by omega) (by omega)]; omega) | (refine congrArg Nat.cast ?_; assumption) | skip))

theorem of_at (H : Heap) (l : List Nat) (hl : l.length ≤ 4000) (hb : ∀ b ∈ l, b < 18446744073709551616) : CallOK Try.prog 26 [.list 1 (u64R l)] H fun res H' => res = .tup [.ptr H.length 0 0 0, .sc (.bool true)] ∧ H' = H ++ [[.cells 41 [(sumL l).acc true]]] := by
  refine (of_ok l hl hb).frame (fun a ha => by rw [List.mem_singleton.1 ha]; exact pv (.list 1 (u64R l))) H ?_
  rintro res H0 ⟨rfl, rfl⟩
  exact ⟨_, _, ren_ptr _ _, frame_acc _ _ _, fun _ _ h => h, rfl, rfl⟩

/-- Four parts. -/
def arr2 : List AV := [.ptr 1 0 0 0, .ptr 1 1 0 0, .ptr 1 2 0 0, .ptr 1 3 0 0]
def acc4 (p : Nat → St) : List Blk := [.cells 41 [(p 0).acc true], .cells 41 [(p 1).acc true], .cells 41 [(p 2).acc true], .cells 41 [(p 3).acc true]]
def ptH (a : St) (p : Nat → St) (G : Heap) : Heap := [.cells 41 [a.acc true]] :: acc4 p :: [.cells 4 [arr2]] :: G
theorem arr2_get {x : Nat} (h : x < 4) : arr2[x]? = some (.ptr 1 x 0 0) := by
  rcases (by omega : x = 0 ∨ x = 1 ∨ x = 2 ∨ x = 3) with rfl | rfl | rfl | rfl <;> rfl
theorem pt_hget {a : St} {p : Nat → St} {G : Heap} {x : Nat} (h : x < 4) : hget (ptH a p G) 1 x = some (.cells 41 [(p x).acc true]) := by
  rcases (by omega : x = 0 ∨ x = 1 ∨ x = 2 ∨ x = 3) with rfl | rfl | rfl | rfl <;> rfl
theorem pt_hset {a : St} {p : Nat → St} {G : Heap} {x : Nat} (v : St) (h : x < 4) : hset (ptH a p G) 1 x (.cells 41 [v.acc true]) = ptH a (fun i => if i = x then v else p i) G := by
  rcases (by omega : x = 0 ∨ x = 1 ∨ x = 2 ∨ x = 3) with rfl | rfl | rfl | rfl <;> rfl
theorem pt_self {p : Nat → St} {x : Nat} : (fun i => if i = x then p x else p i) = p := by
  funext i
  split
  · rename_i h; rw [h]
  · rfl
def iv : Nat → Int
  | 0 => -1
  | m + 1 => (m : Int)

/-- Into which part the number goes. -/
def pk (part : List Nat) (m : Nat) : Nat := if part.length = 0 then 0 else part.getD (m % part.length) 0 % 4
theorem pk_lt (part : List Nat) (m : Nat) : pk part m < 4 := by
  unfold pk
  split
  · decide
  · exact Nat.mod_lt _ (by decide)

end Go.Proofs.Ytnngbbiajioghaa
namespace Go.Proofs.Ytnngbbiajioghaa
open Go.Av Go.Proofs
set_option exponentiation.threshold 4000
set_option maxRecDepth 20000

/-! SumOrder: the parts that are merged. -/

/-- What has been merged so far. -/
def totS (p : Nat → St) (o : Nat) : Nat → St
  | 0 => s0
  | i + 1 => comb (totS p o i) (p ((i + o) % 4))
theorem totS_sml {p : Nat → St} {o : Nat} (hp : ∀ k, k < 4 → Sml (60 * oneB) (p k)) : ∀ i, Sml (i * (60 * oneB)) (totS p o i)
  | 0 => sml_zero.mono (Nat.zero_le _)
  | i + 1 => by
    have := (totS_sml (o := o) hp i).comb (hp ((i + o) % 4) (Nat.mod_lt _ (by decide)))
    rw [← Nat.add_one_mul] at this
    exact this
theorem totS_merge {p : Nat → St} {o : Nat} (hp : ∀ k, k < 4 → Sml (60 * oneB) (p k)) {i : Nat} (hi : i < 4) : mergeR (totS p o i) (p ((i + o) % 4)) = (0, totS p o (i + 1)) := by
  have h1 := oneB_60 ((i + 1) * 60) (by omega)
  refine mergeR_small (totS_sml hp i) (hp _ (Nat.mod_lt _ (by decide))) ?_
  rw [← Nat.mul_assoc, ← Nat.add_mul, ← Nat.add_one_mul]
  exact h1
theorem totS_four {p : Nat → St} (hp : ∀ k, k < 4 → (p k).n < big) (o : Nat) : totS p o 4 = comb4 p := comb4_rot p hp o

theorem hget_app1 {H : Heap} {g i : Nat} {x : Blk} {G : Heap} (h : hget H g i = some x) : hget (H ++ G) g i = some x := by
  unfold hget at h ⊢
  by_cases hg : g < H.length
  · rw [List.getElem?_append_left hg]; exact h
  · rw [List.getElem?_eq_none (by omega)] at h; cases h
def ordN0 (order : List Nat) : Nat := if order.length = 0 then 0 else order.getD 0 0

set_option maxHeartbeats 4000000 in
theorem so_merge (l order : List Nat) (ho : ∀ b ∈ order, b < 256) (a : St) (p : Nat → St) (hg : ∀ k, k < 4 → Good (p k) ∧ Sml (60 * oneB) (p k)) (i : Nat) (hi : i < 4) :
    AWP Try.prog F6.n 0 (pickI [1, 1, 1, 1, 1, 1, 1, 1, 0, 1, 0, 0, 1, 1, 0] F6.code) (fun e fr' H' => e = .normal ∧ Sub 0 F6.n fr' H' [(0, .list 1 (u64R l)), (2, byV order), (7, .ptr 0 0 0 0), (9, .ptr 2 0 0 0), (13, .ptr 3 0 0 0), (76, .sc (.int .i64 (i : Int)))] (ptH a p [[.cells 41 [(totS p (ordN0 order) (i + 1)).acc true]]]))
      [(0, .list 1 (u64R l)), (2, byV order), (7, .ptr 0 0 0 0), (9, .ptr 2 0 0 0), (13, .ptr 3 0 0 0), (76, .sc (.int .i64 (i : Int)))] (ptH a p [[.cells 41 [(totS p (ordN0 order) i).acc true]]]) := by
  have eo := bytR_len order
  have hk : (i + ordN0 order) % 4 < 4 := Nat.mod_lt _ (by decide)
  have hm := totS_merge (o := ordN0 order) (fun k hk => (hg k hk).2) hi
  obtain ⟨hgood, hsml⟩ := hg _ hk
  have ha := arr2_get hk
  generalize totS p (ordN0 order) (i + 1) = T' at *
  generalize hT : totS p (ordN0 order) i = T at *
  have h0 := encode_at (pt_hget (a := a) (p := p) (G := [[.cells 41 [T.acc true]]]) hk) hgood.n hgood.zero
  rw [pt_hset _ hk, pt_self] at h0
  have h1 := decode_own (ptH a p [[.cells 41 [T.acc true]]]) hgood
  have hq : hget (ptH a p [[.cells 41 [T.acc true]]] ++ [[.cells 41 [(p ((i + ordN0 order) % 4)).acc true]]]) 1 ((i + ordN0 order) % 4) = some (.cells 41 [(p ((i + ordN0 order) % 4)).acc true]) := hget_app1 (pt_hget hk)
  have h2 := same_at (H := ptH a p [[.cells 41 [T.acc true]]] ++ [[.cells 41 [(p ((i + ordN0 order) % 4)).acc true]]]) (g := 4) (i := 0) (s := p ((i + ordN0 order) % 4)) rfl hq hgood.n hgood.n
  rw [eqb_refl] at h2
  have h3 := merge2_at (H := ptH a p [[.cells 41 [T.acc true]]] ++ [[.cells 41 [(p ((i + ordN0 order) % 4)).acc true]]]) (g := 3) (i := 0) (g' := 4) (i' := 0) (a := T) (s := p ((i + ordN0 order) % 4)) rfl rfl
  rw [hm] at h3
  show AWP Try.prog F6.n 0 (.block 5 _) _ _ _
  refine AWP.block ?_
  refine AWP.seq ?_
  refine AWP.region ?_
  refine walkR ?_
  refine AWP.seq ?_
  refine AWP.region ?_
  refine walkR ?_
  refine AWP.seq ?_
  refine AWP.joinT0 [(0, .list 1 (u64R l)), (2, byV order), (7, .ptr 0 0 0 0), (9, .ptr 2 0 0 0), (13, .ptr 3 0 0 0), (76, .sc (.int .i64 (i : Int))), (15, .sc (.int .i64 (((i + ordN0 order) % 4 : Nat) : Int)))] (ptH a p [[.cells 41 [T.acc true]]]) ?_ ?_
  · have hby : byV order = .list 1 (bytR order) := rfl
    rw [hby]
    refine walkX0 ?_
    rw [eo]
    refine AWP.condD rfl (fun h => ?_) (fun h => ?_)
    · have x0 : rowIx (bytR order) 0 = some [u8c (order.getD 0 0)] := by
        have := bytR_ix order 0 h
        rw [show order.getD 0 0 = order[0] by simp [List.getD, h]]
        exact this
      have hob : order.getD 0 0 < 256 := by
        rw [show order.getD 0 0 = order[0] by simp [List.getD, h]]
        exact ho _ (List.getElem_mem h)
      have e : ordN0 order = order.getD 0 0 := if_neg (by omega)
      rw [e] at *
      generalize order.getD 0 0 = o at *
      unfold u8c at x0
      clear h0 h1 h2 h3 hgood hsml ha hm hq
      refine walkX0 ?_
      exact Sub.w [] [[(0,0)],[(1,0),(1,1),(1,2),(1,3)],[(2,0)],[(3,0)]]
    · have e : ordN0 order = 0 := if_pos (by omega)
      rw [e, show (i + 0) % 4 = i by omega]
      refine walkX0 ?_
      exact Sub.w [] [[(0,0)],[(1,0),(1,1),(1,2),(1,3)],[(2,0)],[(3,0)]]
  have hE := encV_by (p ((i + ordN0 order) % 4))
  rw [hE] at h0 h1
  generalize (flags (p ((i + ordN0 order) % 4)) :: flg (decide (2 ^ 2303 ≤ (p ((i + ordN0 order) % 4)).n)) 1 :: digs (nb (absN (p ((i + ordN0 order) % 4)).n)) (absN (p ((i + ordN0 order) % 4)).n)) = L at *
  clear hE hgood hsml hm hq
  generalize (i + ordN0 order) % 4 = x at *
  generalize hsx : p x = sx at *
  refine walkS0 ?_
  refine Reg.c (Nat.zero_le _) rfl (h0.mono ?_)
  rintro res H' ⟨rfl, rfl⟩
  refine walkS0 ?_
  refine Reg.c (Nat.zero_le _) rfl (h1.mono ?_)
  rintro res H' ⟨rfl, rfl⟩
  refine walkS0 ?_
  refine Reg.c (Nat.zero_le _) rfl (h2.mono ?_)
  rintro res H' ⟨rfl, rfl⟩
  refine walkS0 ?_
  refine Reg.c (Nat.zero_le _) rfl (h3.mono ?_)
  rintro res H' ⟨rfl, rfl⟩
  refine walkS0 ?_
  refine ⟨rfl, ?_⟩
  exact Sub.w [] [[(0,0)],[(1,0),(1,1),(1,2),(1,3)],[(2,0)],[(3,0)]]

end Go.Proofs.Ytnngbbiajioghaa
namespace Go.Proofs.Ytnngbbiajioghaa
open Go.Av Go.Proofs
set_option exponentiation.threshold 4000
set_option maxRecDepth 20000

/-! SumOrder: each number into its part. -/
def soF (l part order : List Nat) (j : Int) : Fr := [(0, .list 1 (u64R l)), (1, byV part), (2, byV order), (7, .ptr 0 0 0 0), (9, .ptr 2 0 0 0), (11, .sc (.int .i64 j))]

set_option maxHeartbeats 4000000 in
theorem so_add (l part order : List Nat) (hpb : ∀ b ∈ part, b < 256) (a : St) (p : Nat → St) (j : Nat) (hj : j < l.length) (hb : l[j] < 18446744073709551616) (hm : mergeR (p (pk part j)) (oneS l[j]) = (0, comb (p (pk part j)) (oneS l[j]))) :
    AWP Try.prog F6.n 0 (pickI [1, 1, 1, 1, 1, 1, 0, 1, 0, 0, 1, 0] F6.code) (fun e fr' H' => e = .normal ∧ Sub 0 F6.n fr' H' (soF l part order j) (ptH a (fun i => if i = pk part j then comb (p (pk part j)) (oneS l[j]) else p i) [])) (soF l part order j) (ptH a p []) := by
  have ep := bytR_len part
  have hk := pk_lt part j
  have hr := u64R_ix l j hj
  have ha := arr2_get hk
  have h0 := add_at (pt_hget (a := a) (p := p) (G := []) hk) hb
  rw [hm, pt_hset _ hk] at h0
  generalize l[j] = b at *
  clear hm
  show AWP Try.prog F6.n 0 (.block 3 _) _ _ _
  refine AWP.block ?_
  refine AWP.seq ?_
  refine AWP.region ?_
  refine walkR ?_
  refine AWP.seq ?_
  refine AWP.joinT0 ((12, .sc (.int .i64 ((pk part j : Nat) : Int))) :: soF l part order j) (ptH a p []) ?_ ?_
  · have hby : byV part = .list 1 (bytR part) := rfl
    unfold soF
    rw [hby]
    refine walkX0 ?_
    rw [ep]
    refine AWP.condD rfl (fun h => ?_) (fun h => ?_)
    · have hlt : j % part.length < part.length := Nat.mod_lt _ h
      have x0 : rowIx (bytR part) ((j % part.length : Nat) : Int) = some [u8c (part.getD (j % part.length) 0)] := by
        rw [show part.getD (j % part.length) 0 = part[j % part.length] by simp [List.getD, hlt]]
        exact bytR_ix part _ hlt
      have hob : part.getD (j % part.length) 0 < 256 := by
        rw [show part.getD (j % part.length) 0 = part[j % part.length] by simp [List.getD, hlt]]
        exact hpb _ (List.getElem_mem hlt)
      have e : pk part j = part.getD (j % part.length) 0 % 4 := if_neg (by omega)
      rw [e] at *
      generalize part.getD (j % part.length) 0 = o at *
      unfold u8c at x0
      clear h0 ha
      refine walkX0 ?_
      rw [ep]
      refine walkX0 ?_
      exact Sub.w [] [[(0,0)],[(1,0),(1,1),(1,2),(1,3)],[(2,0)]]
    · have e : pk part j = 0 := if_pos (by omega)
      rw [e]
      refine walkX0 ?_
      exact Sub.w [] [[(0,0)],[(1,0),(1,1),(1,2),(1,3)],[(2,0)]]
  generalize pk part j = x at *
  unfold soF
  refine walkS0 ?_
  refine AWP.lin [(true, 0), (true, 1), (true, 2), (true, 3), (true, 4), (true, 5), (true, 6), (false, 7), (true, 8)] mixed (by kernel_rfl) (by kernel_rfl) ?_
  refine walkLS ?_
  refine RT.cc (Nat.zero_le _) rfl h0 ?_
  rintro res H' ⟨rfl, rfl⟩
  refine ⟨(by repeat (first | exact trivial | exact Keeps.refl _ _ | refine And.intro rfl ?_)), ?_⟩
  refine walkLS ?_
  refine walkS0 ?_
  refine ⟨rfl, ?_⟩
  exact Sub.w [] [[(0,0)],[(1,0),(1,1),(1,2),(1,3)],[(2,0)]]

end Go.Proofs.Ytnngbbiajioghaa
namespace Go.Proofs.Ytnngbbiajioghaa
open Go.Av Go.Proofs
set_option exponentiation.threshold 4000
set_option maxRecDepth 20000

/-! SumOrder: the list turned, reduced; all looked at. -/
def soV (l : List Nat) (m : Nat) : List Vl := (List.range l.length).map fun i => (l.getD ((i + m) % l.length) 0, 0)
theorem soV_len (l : List Nat) (m : Nat) : (soV l m).length = l.length := by simp [soV]
theorem soV_map (l : List Nat) (m : Nat) (h0 : 0 < l.length) : (soV l m).map (·.1) = l.drop (m % l.length) ++ l.take (m % l.length) := by
  have hm : m % l.length < l.length := Nat.mod_lt _ h0
  apply List.ext_getElem
  · simp [soV]; omega
  · intro i h1 h2
    have hi : i < l.length := by simpa [soV] using h1
    have e : (i + m) % l.length = (i + m % l.length) % l.length := by simp
    simp only [soV, List.map_map, List.getElem_map, List.getElem_range, Function.comp_apply, e]
    rw [List.getElem_append]
    by_cases hc : i + m % l.length < l.length
    · rw [Nat.mod_eq_of_lt hc, dif_pos (by simp; omega), List.getElem_drop, show l.getD (i + m % l.length) 0 = l[i + m % l.length] by simp [List.getD, hc]]
      congr 1
      omega
    · have hx : (i + m % l.length) % l.length = i + m % l.length - l.length := by
        rw [Nat.mod_eq_sub_mod (by omega), Nat.mod_eq_of_lt (by omega)]
      rw [hx, dif_neg (by simp; omega), List.getElem_take, show l.getD (i + m % l.length - l.length) 0 = l[i + m % l.length - l.length]'(by omega) by simp [List.getD, show i + m % l.length - l.length < l.length by omega]]
      congr 1
      simp
      omega
theorem soV_lt (l : List Nat) (m : Nat) (hb : ∀ b ∈ l, b < 18446744073709551616) : ∀ v ∈ soV l m, v.1 < 18446744073709551616 := fun v hv => by
  obtain ⟨i, hi, rfl⟩ := List.mem_map.1 hv
  have hi := List.mem_range.1 hi
  have : (i + m) % l.length < l.length := Nat.mod_lt _ (by omega)
  show l.getD ((i + m) % l.length) 0 < _
  rw [show l.getD ((i + m) % l.length) 0 = l[(i + m) % l.length] by simp [List.getD, this]]
  exact hb _ (List.getElem_mem this)
theorem soV_red (l : List Nat) (m : Nat) (h0 : 0 < l.length) (hl : l.length ≤ 60) (hb : ∀ b ∈ l, b < 18446744073709551616) : redS 1 2 (soV l m) = (((sumL l).value, 0), 0) := by
  have hne : soV l m ≠ [] := fun h => by have := soV_len l m; rw [h] at this; simp at this; omega
  have hv : validS 2 (soV l m) = true := (validS_iff _ _).2 fun v hv => by
    obtain ⟨i, _, rfl⟩ := List.mem_map.1 hv
    rfl
  have hs : sumAll (soV l m) = sumL l := by
    rw [sumAll_sumL _ (soV_lt l m hb) (by rw [soV_len]; omega), soV_map l m h0, sumL_rot]
  unfold redS
  rw [if_neg (by decide), if_neg (by simp [hne, hv])]
  generalize soV l m = q at *
  cases q with
  | nil => exact absurd rfl hne
  | cons v r => rw [reduceS_cons, if_pos ⟨rfl, rfl⟩, hs]

set_option maxHeartbeats 4000000 in
theorem so_tail (l order : List Nat) (h0 : 0 < l.length) (hl : l.length ≤ 60) (ho : order.length ≤ 4000000000) (hb : ∀ b ∈ l, b < 18446744073709551616) :
    AWP Try.prog F6.n 0 (pickI [1, 1, 1, 1, 1, 1, 1, 1, 1] F6.code) (EndP F6.res (.sc (.bool true))) [(0, .list 1 (u64R l)), (2, byV order), (7, .ptr 0 0 0 0), (13, .ptr 1 0 0 0)] [[.cells 41 [(sumL l).acc true]], [.cells 41 [(sumL l).acc true]]] := by
  have hw := works_ok
  have e0 := u64R_len l
  have eo := bytR_len order
  have hby : byV order = .list 1 (bytR order) := rfl
  have hS := sumL_lt l
  have hred := red_ok 1 2 (soV l order.length) (by rw [soV_len]; omega) (soV_lt l _ hb)
  rw [soV_red l order.length h0 hl hb] at hred
  have hvl := soV_len l order.length
  have hvget : ∀ k, k < l.length → (soV l order.length)[k]? = some (l.getD ((k + order.length) % l.length) 0, 0) := fun k hk => by simp [soV, hk]
  generalize soV l order.length = V at *
  generalize sumL l = S at *
  show AWP Try.prog F6.n 0 (.seq _ _) _ _ _
  refine walkS0 ?_
  rw [e0]
  refine AWP.loop (fun k : Nat => [(0, .list 1 (u64R l)), (2, byV order), (7, .ptr 0 0 0 0), (13, .ptr 1 0 0 0), (20, .hsl 2 0 0 k), (124, .sc (.int .i64 (l.length : Int))), (125, .sc (.int .i64 (k : Int)))])
    (fun k => [[.cells 41 [S.acc true]], [.cells 41 [S.acc true]], [.cells 2 (vsR (V.take k))]]) (fun k => k ≤ l.length) (fun k => l.length - k) 0 (Nat.zero_le _) ?_ ?_
  · exact Sub.w [2] [[(0,0)],[(1,0)],[(2,0)]]
  intro k hk
  have ek : (vsR (V.take k)).length = k := by rw [vsR_len, List.length_take, hvl]; omega
  rw [hby]
  refine walkS0 ?_
  refine AWP.condD rfl (fun h => ?_) (fun h => ?_)
  · have hlt : (k + order.length) % l.length < l.length := Nat.mod_lt _ h0
    have hr := u64R_ix l _ hlt
    have hvk := hvget k h
    have ht : V.take (k + 1) = V.take k ++ [(l.getD ((k + order.length) % l.length) 0, 0)] := by
      have hk2 : k < V.length := by omega
      rw [List.take_succ_eq_append_getElem hk2]
      rw [List.getElem?_eq_getElem hk2] at hvk
      injection hvk with hvk
      rw [hvk]
    rw [show l.getD ((k + order.length) % l.length) 0 = l[(k + order.length) % l.length] by simp [List.getD, hlt]] at ht
    generalize l[(k + order.length) % l.length] = b at *
    refine walkS0 ?_
    rw [eo, e0]
    refine walkS0 ?_
    refine ⟨k + 1, by omega, by omega, ?_⟩
    rw [ht, show ∀ (L : List Vl), vsR (L ++ [(b, 0)]) = vsR L ++ [vrow (b, 0)] from fun L => by simp [vsR]]
    exact Sub.w [] [[(0,0)],[(1,0)],[(4,0)]]
  · have hk2 : k = l.length := by omega
    rw [hk2, List.take_of_length_le (by omega)]
    have ev := vsR_len V
    rw [hvl] at ev
    have s1 := fun H (h1 : hget H 1 0 = some (.cells 41 [S.acc true])) (h2 : hget H 0 0 = some (.cells 41 [S.acc true])) => same_at (H := H) (g := 1) (i := 0) (g' := 0) (i' := 0) (s := S) (t := S) h1 h2 hS hS
    have s2 := fun H (h1 : hget H 0 0 = some (.cells 41 [S.acc true])) (h2 : hget H 1 0 = some (.cells 41 [S.acc true])) => same_at (H := H) (g := 0) (i := 0) (g' := 1) (i' := 0) (s := S) (t := S) h1 h2 hS hS
    rw [eqb_refl] at s1 s2
    have v1 := value_ok S hS
    generalize S.value = w at *
    refine walkS0 ?_
    have hpl : Plain (.tup [.agg (vrow (w, 0)), .sc (.int .i64 0)]) := .tup _ (fun c hc => by
      simp only [List.mem_cons, List.not_mem_nil, or_false] at hc
      rcases hc with rfl | rfl
      · exact .agg _ (fun c hc => by simp [vrow, vR] at hc; rcases hc with rfl | rfl <;> exact .sc _)
      · exact .sc _)
    (refine Reg.pv (by first | exact Nat.zero_le _ | exact Nat.le_refl _ | (simp; done) | (simp; omega)) rfl hred (by first | exact .sc _ | (exact .agg _ (fun c hc => by simp at hc; rcases hc with h | h <;> subst h <;> exact .sc _)) | assumption) ?vw9 ?_; case vw9 => (all_goals (repeat' (first | exact ToAll.nil | exact famsTo.nil | exact famTo.nil | exact ToL.nil | exact ToR.nil | refine ToAll.cons ?_ ?_ | refine famsTo.cons ?_ ?_ | refine wt10 ?_ ?_ | exact To.undef _ | exact To.sc _ | exact To.hslL rfl rfl | exact To.ptrO rfl rfl rfl | exact To.mrefO rfl | exact To.nil rfl rfl rfl | exact wt1 | exact To.nilL | refine To.int ?_ | refine To.bool ?_ | refine To.hslL rfl ?_ | refine wt2 rfl ?_ ?_ ?_ | refine To.tupL ?_ | refine To.aggL ?_ | refine To.cptrL ?_ | refine wt3 ?_ | refine wt4 ?_ | refine To.cloL ?_ ?_ | exact wt5 | refine wt6 ?_ | refine ToB.one ?_ | exact wt7 | ((with_reducible apply ToL.consE); case e9 => rfl) | refine wt8 ?_ | refine ToL.cons ?_ ?_ | exact wt11 | refine wt9 ?_ ?_ | refine wt12 ?_ | (with_reducible rfl) | assumption)); all_goals (first | rfl | assumption | (simp; done) | (simp; omega))))
    unfold vrow
    refine walkS0 ?_
    refine AWP.lin [(true, 0), (true, 1), (false, 2), (true, 3), (true, 4), (true, 5), (false, 6), (true, 7), (true, 8), (true, 9), (true, 11), (false, 10), (false, 12), (true, 13), (true, 14), (true, 15), (true, 16), (true, 17), (true, 18), (true, 19), (true, 20), (true, 21), (true, 22), (false, 23), (true, 24), (true, 25), (true, 26), (false, 27), (true, 28), (true, 29)] mixed (by kernel_rfl) (by kernel_rfl) ?_
    refine walkLS ?_
    refine RT.cc (Nat.zero_le _) rfl (s1 _ rfl rfl) ?_
    rintro res H' ⟨rfl, rfl⟩
    refine ⟨(by repeat (first | exact trivial | exact Keeps.refl _ _ | refine And.intro rfl ?_)), ?_⟩
    refine walkLS ?_
    refine RT.cc (Nat.zero_le _) rfl (s2 _ rfl rfl) ?_
    rintro res H' ⟨rfl, rfl⟩
    refine ⟨(by repeat (first | exact trivial | exact Keeps.refl _ _ | refine And.intro rfl ?_)), ?_⟩
    refine walkLS ?_
    refine RT.cc (Nat.zero_le _) rfl (look_at (a := S) (m := true) rfl v1) ?_
    rintro res H' ⟨rfl, rfl⟩
    refine ⟨(by repeat (first | exact trivial | exact Keeps.refl _ _ | refine And.intro rfl ?_)), ?_⟩
    refine walkLS ?_
    refine RT.cc (Nat.zero_le _) rfl (look_at (a := S) (m := true) rfl v1) ?_
    rintro res H' ⟨rfl, rfl⟩
    refine ⟨(by repeat (first | exact trivial | exact Keeps.refl _ _ | refine And.intro rfl ?_)), ?_⟩
    refine walkLS ?_
    rw [show decide (w = w) = true from decide_eq_true rfl]
    refine walkLS ?_
    refine RT.cc (Nat.zero_le _) rfl (look_at (a := S) (m := true) rfl v1) ?_
    rintro res H' ⟨rfl, rfl⟩
    refine ⟨(by repeat (first | exact trivial | exact Keeps.refl _ _ | refine And.intro rfl ?_)), ?_⟩
    refine walkLS ?_
    rw [show decide ((((w, 0), 0) : Vl × Int).1.1 = w) = true from decide_eq_true rfl]
    refine walkLS ?_
    refine walkS0 ?_
    exact EndP.w

end Go.Proofs.Ytnngbbiajioghaa
namespace Go.Proofs.Ytnngbbiajioghaa
open Go.Av Go.Proofs
set_option exponentiation.threshold 4000
set_option maxRecDepth 20000

/-! The law SumOrder. -/
def soI (a : St) : Nat → Heap
  | 0 => [[.cells 41 [a.acc true]], [], [.cells 4 [[.sc (.pointer none), .sc (.pointer none), .sc (.pointer none), .sc (.pointer none)]]]]
  | 1 => [[.cells 41 [a.acc true]], [.cells 41 [s0.acc true]], [.cells 4 [[.ptr 1 0 0 0, .sc (.pointer none), .sc (.pointer none), .sc (.pointer none)]]]]
  | 2 => [[.cells 41 [a.acc true]], [.cells 41 [s0.acc true], .cells 41 [s0.acc true]], [.cells 4 [[.ptr 1 0 0 0, .ptr 1 1 0 0, .sc (.pointer none), .sc (.pointer none)]]]]
  | 3 => [[.cells 41 [a.acc true]], [.cells 41 [s0.acc true], .cells 41 [s0.acc true], .cells 41 [s0.acc true]], [.cells 4 [[.ptr 1 0 0 0, .ptr 1 1 0 0, .ptr 1 2 0 0, .sc (.pointer none)]]]]
  | _ => ptH a (fun _ => s0) []

/-- The parts, as far as the numbers have been added. -/
structure PartOK (l : List Nat) (m : Nat) (p : Nat → St) : Prop where
  all : comb4 p = sumL (l.drop m)
  each : ∀ k, k < 4 → Good (p k) ∧ Sml ((l.length - m) * oneB) (p k)
theorem PartOK.step {l : List Nat} {j : Nat} {p : Nat → St} {k : Nat} (h : PartOK l (j + 1) p) (hj : j < l.length) (hl : l.length ≤ 60) (hk : k < 4) (hb : l[j] < 18446744073709551616) :
    mergeR (p k) (oneS l[j]) = (0, comb (p k) (oneS l[j])) ∧ PartOK l j (fun i => if i = k then comb (p k) (oneS l[j]) else p i) := by
  obtain ⟨hg, hs⟩ := h.each k hk
  have e : (l.length - (j + 1)) * oneB + oneB = (l.length - j) * oneB := by
    rw [← Nat.add_one_mul]
    congr 1
    omega
  have hlt : (l.length - (j + 1)) * oneB + oneB < 2 ^ 2240 := by rw [e]; exact oneB_60 _ (by omega)
  have hm := mergeR_small hs (sml_one hb) hlt
  have hg2 := good_merge hg (good_one hb)
  rw [hm] at hg2
  have hs2 := hs.comb (sml_one hb)
  rw [e] at hs2
  refine ⟨hm, ⟨?_, fun i hi => ?_⟩⟩
  · rw [comb4_upd p k hk, h.all, List.drop_eq_getElem_cons hj, sumL_cons hb]
  · show Good (if i = k then comb (p k) (oneS l[j]) else p i) ∧ Sml ((l.length - j) * oneB) (if i = k then comb (p k) (oneS l[j]) else p i)
    split
    · exact ⟨hg2, hs2⟩
    · obtain ⟨a, b⟩ := h.each i hi
      exact ⟨a, b.mono (Nat.mul_le_mul_right _ (by omega))⟩

set_option maxHeartbeats 4000000 in
theorem so_parts (l part order : List Nat) (h0 : 0 < l.length) (hl : l.length ≤ 60) (hpb : ∀ b ∈ part, b < 256) (hob : ∀ b ∈ order, b < 256) (ho : order.length ≤ 4000000000) (hb : ∀ b ∈ l, b < 18446744073709551616) :
    AWP Try.prog F6.n 0 (pickI [1, 1, 1, 1, 1, 1] F6.code) (EndP F6.res (.sc (.bool true))) [(0, .list 1 (u64R l)), (1, byV part), (2, byV order), (7, .ptr 0 0 0 0), (9, .ptr 2 0 0 0)] (ptH (sumL l) (fun _ => s0) []) := by
  have e0 := u64R_len l
  show AWP Try.prog F6.n 0 (.seq _ _) _ _ _
  refine walkS0 ?_
  rw [e0]
  refine walkS0 ?_
  refine AWP.loop2 (fun m (_ : Nat → St) => soF l part order (iv m)) (fun _ p => ptH (sumL l) p []) (fun m p => m ≤ l.length ∧ PartOK l m p) (fun m _ => m) l.length (fun _ => s0) ⟨Nat.le_refl _, ⟨by rw [List.drop_length]; rfl, fun k hk => ⟨good_zero, sml_zero.mono (Nat.zero_le _)⟩⟩⟩ ?_ ?_
  · have e : iv l.length = ((l.length - 1 : Nat) : Int) := by
      cases hn : l.length with
      | zero => omega
      | succ n => rfl
    unfold soF
    rw [e]
    exact Sub.w [] [[(0,0)],[(1,0),(1,1),(1,2),(1,3)],[(2,0)]]
  rintro m p ⟨hm, hp⟩
  cases m with
  | zero =>
    unfold soF iv
    refine walkS0 ?_
    refine Reg.c (Nat.zero_le _) rfl ((new_at _).mono ?_)
    rintro res H' ⟨rfl, rfl⟩
    refine walkS0 ?_
    have hall := hp.all
    rw [List.drop_zero] at hall
    have heach : ∀ k, k < 4 → Good (p k) ∧ Sml (60 * oneB) (p k) := fun k hk => ⟨(hp.each k hk).1, (hp.each k hk).2.mono (Nat.mul_le_mul_right _ (by omega))⟩
    refine AWP.loop (fun i : Nat => [(0, .list 1 (u64R l)), (2, byV order), (7, .ptr 0 0 0 0), (9, .ptr 2 0 0 0), (13, .ptr 3 0 0 0), (76, .sc (.int .i64 (i : Int)))]) (fun i => ptH (sumL l) p [[.cells 41 [(totS p (ordN0 order) i).acc true]]]) (fun i => i ≤ 4) (fun i => 4 - i) 0 (Nat.zero_le _) ?_ ?_
    · exact Sub.w [] [[(0,0)],[(1,0),(1,1),(1,2),(1,3)],[(2,0)],[(3,0)]]
    intro i hi
    refine AWP.seq ?_
    refine AWP.region ?_
    refine walkR ?_
    refine AWP.seq ?_
    refine AWP.condD rfl (fun h4 => ?_) (fun h4 => ?_)
    · refine AWP.skip ?_
      refine AWP.seq ?_
      refine AWP.mono (AWP.sub ?_ (so_merge l order hob (sumL l) p heach i h4)) ?_
      · exact Sub.w [] [[(0,0)],[(1,0),(1,1),(1,2),(1,3)],[(2,0)],[(3,0)]]
      rintro e fr' H' ⟨rfl, hs⟩
      refine AWP.sub hs ?_
      refine walkS0 ?_
      refine ⟨i + 1, by omega, by omega, ?_⟩
      exact Sub.w [] [[(0,0)],[(1,0),(1,1),(1,2),(1,3)],[(2,0)],[(3,0)]]
    · have hi4 : i = 4 := by omega
      subst hi4
      rw [totS_four (fun k hk => (heach k hk).1.n) (ordN0 order), hall]
      refine AWP.exit ?_
      refine AWP.sub ?_ (so_tail l order h0 hl ho hb)
      exact Sub.w [] [[(0,0)],[(3,0)]]
  | succ j =>
    have hj : j < l.length := hm
    obtain ⟨s1, s2⟩ := hp.step hj hl (pk_lt part j) (hb _ (List.getElem_mem hj))
    have hadd := so_add l part order hpb (sumL l) p j hj (hb _ (List.getElem_mem hj)) s1
    generalize (fun i => if i = pk part j then comb (p (pk part j)) (oneS l[j]) else p i) = p' at *
    clear s1
    change AWP _ _ _ _ _ (soF l part order ((j : Nat) : Int)) _
    refine AWP.seq ?_
    refine AWP.seq ?_
    refine AWP.region ?_
    unfold soF
    refine walkR ?_
    refine AWP.condD rfl (fun _ => ?_) (fun h => absurd (Nat.zero_le _) h)
    refine AWP.skip ?_
    refine AWP.seq ?_
    refine AWP.mono (AWP.sub (fr' := soF l part order j) (H' := ptH (sumL l) p []) ?_ hadd) ?_
    · unfold soF
      exact Sub.w [] [[(0,0)],[(1,0),(1,1),(1,2),(1,3)],[(2,0)]]
    rintro e fr' H' ⟨rfl, hs⟩
    refine AWP.sub hs ?_
    cases j with
    | zero =>
      unfold soF
      refine walkS0 ?_
      refine ⟨0, p', ⟨by omega, s2⟩, by omega, ?_⟩
      exact Sub.w [] [[(0,0)],[(1,0),(1,1),(1,2),(1,3)],[(2,0)]]
    | succ j =>
      unfold soF
      refine walkS0 ?_
      refine ⟨j + 1, p', ⟨by omega, s2⟩, by omega, ?_⟩
      exact Sub.w [] [[(0,0)],[(1,0),(1,1),(1,2),(1,3)],[(2,0)]]

end Go.Proofs.Ytnngbbiajioghaa
namespace Go.Proofs.Ytnngbbiajioghaa
open Go.Av Go.Proofs
set_option exponentiation.threshold 4000
set_option maxRecDepth 20000

set_option maxHeartbeats 4000000 in
theorem sumOrder_ok (l part order : List Nat) (hpb : ∀ b ∈ part, b < 256) (hob : ∀ b ∈ order, b < 256) (ho : order.length ≤ 4000000000) (hb : ∀ b ∈ l, b < 18446744073709551616) : PureRun Try.prog 6 [.list 1 (u64R l), byV part, byV order] (.sc (.bool true)) := by
  refine PureRun.mkI cF6 (Nat.le_of_ble_eq_true rfl) ?_
  have hw := works_ok
  have e0 := u64R_len l
  refine walkS0 ?_
  rw [e0]
  by_cases h60 : 60 < l.length
  · rw [show decide (60 < l.length) = true from decide_eq_true h60]
    refine walkS0 ?_
    exact EndP.w
  rw [show decide (60 < l.length) = false from decide_eq_false h60]
  refine walkS0 ?_
  rw [e0]
  by_cases hz : l.length = 0
  · rw [show decide (l.length = 0) = true from decide_eq_true hz]
    refine walkS0 ?_
    exact EndP.w
  rw [show decide (l.length = 0) = false from decide_eq_false hz]
  refine walkS0 ?_
  refine Reg.c (Nat.zero_le _) rfl ((of_at _ l (by omega) hb).mono ?_)
  rintro res H' ⟨rfl, rfl⟩
  refine walkS0 ?_
  have hrest := so_parts l part order (by omega) (by omega) hpb hob ho hb
  generalize sumL l = S at *
  refine AWP.loop (fun k : Nat => [(0, .list 1 (u64R l)), (1, byV part), (2, byV order), (7, .ptr 0 0 0 0), (9, .ptr 2 0 0 0), (40, .sc (.int .i64 (k : Int)))]) (soI S) (fun k => k ≤ 4) (fun k => 4 - k) 0 (Nat.zero_le _) ?_ ?_
  · exact Sub.w [] [[(0,0)],[],[(1,0)]]
  intro k hk
  by_cases h4 : k = 4
  · subst h4
    refine AWP.seq ?_
    refine AWP.region ?_
    refine walkR ?_
    refine AWP.seq ?_
    refine AWP.condF rfl ?_
    refine AWP.exit ?_
    refine AWP.sub ?_ hrest
    exact Sub.le fun p hp => by
      simp only [List.mem_cons, List.not_mem_nil, or_false] at hp
      rcases hp with rfl | rfl | rfl | rfl | rfl
      · exact Le.refl _
      · exact Le.refl _
      · exact Le.refl _
      · exact Le.refl _
      · exact Le.refl _
  · rcases (by omega : k = 0 ∨ k = 1 ∨ k = 2 ∨ k = 3) with rfl | rfl | rfl | rfl
    · refine walkS0 ?_
      refine Reg.c (Nat.zero_le _) rfl ((new_at _).mono ?_)
      rintro res H' ⟨rfl, rfl⟩
      refine walkS0 ?_
      refine ⟨1, by omega, by omega, ?_⟩
      exact Sub.w [] [[(0,0)],[(3,0)],[(2,0)]]
    · refine walkS0 ?_
      refine Reg.c (Nat.zero_le _) rfl ((new_at _).mono ?_)
      rintro res H' ⟨rfl, rfl⟩
      refine walkS0 ?_
      refine ⟨2, by omega, by omega, ?_⟩
      exact Sub.w [] [[(0,0)],[(1,0),(3,0)],[(2,0)]]
    · refine walkS0 ?_
      refine Reg.c (Nat.zero_le _) rfl ((new_at _).mono ?_)
      rintro res H' ⟨rfl, rfl⟩
      refine walkS0 ?_
      refine ⟨3, by omega, by omega, ?_⟩
      exact Sub.w [] [[(0,0)],[(1,0),(1,1),(3,0)],[(2,0)]]
    · refine walkS0 ?_
      refine Reg.c (Nat.zero_le _) rfl ((new_at _).mono ?_)
      rintro res H' ⟨rfl, rfl⟩
      refine walkS0 ?_
      refine ⟨4, by omega, by omega, ?_⟩
      exact Sub.w [] [[(0,0)],[(1,0),(1,1),(1,2),(3,0)],[(2,0)]]

end Go.Proofs.Ytnngbbiajioghaa
