import Derived.Test.YtpkpfgpfkajkpaaGCoU2
namespace Go.Proofs.Ytpkpfgpfkajkpaa
open Go.Av Go.Proofs
set_option maxRecDepth 20000
set_option maxHeartbeats 4000000 in
theorem check_any (l : List Int) : PureRun Try.prog 33 [.list 1 (intsR l)] (.sc (.int .i64 (checkE l))) := by
  by_cases h : 64 < l.length
  case neg => exact check_ok l (by omega)
  refine PureRun.of (allPure_cons (.list _ _ (prs _)) allPure_nil) (.sc _) (CallOK.mono (R := fun res H' => res = .sc (.int .i64 (checkE l)) ∧ H' = []) ?_ fun _ _ h => h.1)
  refine CallOK.of cF33 ?_ (Nat.le_of_ble_eq_true rfl)
  have e0 := intsR_len l
  have hr : AV.sc (Value.int .i64 9) = .sc (.int .i64 (checkE l)) := by unfold checkE; rw [if_pos h]
  refine walkX ?_
  rw [e0, decide_eq_true h]
  refine walkX ?_
  (refine endH [] (by first | exact .inr rfl | exact .inl rfl) rfl ⟨hr, rfl⟩ ?_ ?_ rfl rfl rfl; all_goals (repeat' (first | exact ToAll.nil | exact famsTo.nil | exact famTo.nil | exact ToL.nil | exact ToR.nil | refine ToAll.cons ?_ ?_ | refine famsTo.cons ?_ ?_ | refine wt10 ?_ ?_ | exact To.undef _ | exact To.sc _ | exact To.hslL rfl rfl | exact To.ptrO rfl rfl rfl | exact To.mrefO rfl | exact To.nil rfl rfl rfl | exact wt1 | exact To.nilL | refine To.int ?_ | refine To.bool ?_ | refine To.hslL rfl ?_ | refine wt2 rfl ?_ ?_ ?_ | refine To.tupL ?_ | refine To.aggL ?_ | refine To.cptrL ?_ | refine wt3 ?_ | refine wt4 ?_ | refine To.cloL ?_ ?_ | exact wt5 | refine wt6 ?_ | refine ToB.one ?_ | exact wt7 | ((with_reducible apply ToL.consE); case e9 => rfl) | refine wt8 ?_ | refine ToL.cons ?_ ?_ | exact wt11 | refine wt9 ?_ ?_ | refine wt12 ?_ | (with_reducible rfl) | assumption)); all_goals (first | rfl | assumption | (simp; done) | (simp; omega) | (rw [wrap_small (by omega) (by omega)]; done) | (rw [wrap_small (by omega) (by omega)]; omega) | (refine congrArg Nat.cast ?_; assumption) | skip))
set_option maxHeartbeats 4000000 in
theorem member_ok (l : List Int) (x : Int) (hl : l.length ≤ 1000000) : PureRun Try.prog 23 [.list 1 (intsR l), .sc (.int .i64 x)] (.sc (.bool (decide (x ∈ l)))) := by
  refine PureRun.of (allPure_cons (.list _ _ (prs _)) (allPure_cons (.sc _) allPure_nil)) (.sc _) (CallOK.mono (R := fun res H' => res = .sc (.bool (decide (x ∈ l))) ∧ H' = []) ?_ fun _ _ h => h.1)
  refine CallOK.of cF23 ?_ (Nat.le_of_ble_eq_true rfl)
  have e0 := intsR_len l
  refine walkX ?_
  rw [e0]
  refine AWP.loop (fun k : Nat => [(0, .list 1 (intsR l)), (1, .sc (.int .i64 x)), (7, .list 1 (intsR l)), (8, .sc (.int .i64 (l.length : Int))), (9, .sc (.int .i64 (k : Int)))])
    (fun k => []) (fun k => k ≤ l.length ∧ x ∉ l.take k) (fun k => l.length - k) 0 ⟨Nat.zero_le _, by simp⟩ ?_ ?_
  · exact Sub.w [] []
  rintro k ⟨hk, hn⟩
  refine walkX ?_
  refine AWP.condD rfl (fun h => ?_) (fun h => ?_)
  · have hr := intsR_ix l k h
    have ht := List.take_succ_eq_append_getElem h
    by_cases he : l[k] = x
    · have hres : AV.sc (Value.bool true) = .sc (.bool (decide (x ∈ l))) := by rw [decide_eq_true (he ▸ List.getElem_mem h)]
      rw [he] at hr
      refine walkX ?_
      rw [beq_self]
      refine walkX ?_
      (refine endH [] (by first | exact .inr rfl | exact .inl rfl) rfl ⟨hres, rfl⟩ ?_ ?_ rfl rfl rfl; all_goals (repeat' (first | exact ToAll.nil | exact famsTo.nil | exact famTo.nil | exact ToL.nil | exact ToR.nil | refine ToAll.cons ?_ ?_ | refine famsTo.cons ?_ ?_ | refine wt10 ?_ ?_ | exact To.undef _ | exact To.sc _ | exact To.hslL rfl rfl | exact To.ptrO rfl rfl rfl | exact To.mrefO rfl | exact To.nil rfl rfl rfl | exact wt1 | exact To.nilL | refine To.int ?_ | refine To.bool ?_ | refine To.hslL rfl ?_ | refine wt2 rfl ?_ ?_ ?_ | refine To.tupL ?_ | refine To.aggL ?_ | refine To.cptrL ?_ | refine wt3 ?_ | refine wt4 ?_ | refine To.cloL ?_ ?_ | exact wt5 | refine wt6 ?_ | refine ToB.one ?_ | exact wt7 | ((with_reducible apply ToL.consE); case e9 => rfl) | refine wt8 ?_ | refine ToL.cons ?_ ?_ | exact wt11 | refine wt9 ?_ ?_ | refine wt12 ?_ | (with_reducible rfl) | assumption)); all_goals (first | rfl | assumption | (simp; done) | (simp; omega) | (rw [wrap_small (by omega) (by omega)]; done) | (rw [wrap_small (by omega) (by omega)]; omega) | (refine congrArg Nat.cast ?_; assumption) | skip))
    · have hn2 : x ∉ l.take (k + 1) := by
        rw [ht]
        intro q
        rcases List.mem_append.1 q with q | q
        · exact hn q
        · exact he (List.mem_singleton.1 q).symm
      generalize l[k] = y at *
      refine walkX ?_
      rw [beq_false_of_ne (fun e => he e.symm)]
      refine walkX ?_
      refine ⟨k + 1, ⟨by omega, hn2⟩, by omega, ?_⟩
      exact Sub.w [] []
  have hk : k = l.length := by omega
  subst hk
  rw [List.take_of_length_le (Nat.le_refl _)] at hn
  have hres : AV.sc (Value.bool false) = .sc (.bool (decide (x ∈ l))) := by rw [decide_eq_false hn]
  refine walkX ?_
  (refine endH [] (by first | exact .inr rfl | exact .inl rfl) rfl ⟨hres, rfl⟩ ?_ ?_ rfl rfl rfl; all_goals (repeat' (first | exact ToAll.nil | exact famsTo.nil | exact famTo.nil | exact ToL.nil | exact ToR.nil | refine ToAll.cons ?_ ?_ | refine famsTo.cons ?_ ?_ | refine wt10 ?_ ?_ | exact To.undef _ | exact To.sc _ | exact To.hslL rfl rfl | exact To.ptrO rfl rfl rfl | exact To.mrefO rfl | exact To.nil rfl rfl rfl | exact wt1 | exact To.nilL | refine To.int ?_ | refine To.bool ?_ | refine To.hslL rfl ?_ | refine wt2 rfl ?_ ?_ ?_ | refine To.tupL ?_ | refine To.aggL ?_ | refine To.cptrL ?_ | refine wt3 ?_ | refine wt4 ?_ | refine To.cloL ?_ ?_ | exact wt5 | refine wt6 ?_ | refine ToB.one ?_ | exact wt7 | ((with_reducible apply ToL.consE); case e9 => rfl) | refine wt8 ?_ | refine ToL.cons ?_ ?_ | exact wt11 | refine wt9 ?_ ?_ | refine wt12 ?_ | (with_reducible rfl) | assumption)); all_goals (first | rfl | assumption | (simp; done) | (simp; omega) | (rw [wrap_small (by omega) (by omega)]; done) | (rw [wrap_small (by omega) (by omega)]; omega) | (refine congrArg Nat.cast ?_; assumption) | skip))
set_option maxHeartbeats 4000000 in
theorem equal51_ok (l : List Int) (hl : l.length ≤ 1000000) : PureRun Try.prog 51 [.list 1 (intsR l), .list 1 (intsR l)] (.sc (.bool true)) := by
  refine PureRun.of (allPure_cons (.list _ _ (prs _)) (allPure_cons (.list _ _ (prs _)) allPure_nil)) (.sc _) (CallOK.mono (R := fun res H' => res = .sc (.bool true) ∧ H' = []) ?_ fun _ _ h => h.1)
  refine CallOK.of cF51 ?_ (Nat.le_of_ble_eq_true rfl)
  have e0 := intsR_len l
  refine walkX ?_
  rw [e0, decide_eq_true (rfl : l.length = l.length)]
  refine walkX ?_
  rw [e0]
  refine AWP.loop (fun k : Nat => [(0, .list 1 (intsR l)), (1, .list 1 (intsR l)), (12, .sc (.int .i64 (l.length : Int))), (13, .sc (.int .i64 (k : Int)))])
    (fun k => []) (fun k => k ≤ l.length) (fun k => l.length - k) 0 (Nat.zero_le _) ?_ ?_
  · exact Sub.w [] []
  rintro k hk
  refine walkX ?_
  refine AWP.condD rfl (fun h => ?_) (fun h => ?_)
  · have hr := intsR_ix l k h
    generalize l[k] = x at *
    refine walkX ?_
    refine DK.nil ⟨by kernel_rfl, ?_⟩
    rw [bne_self]
    refine walkX ?_
    refine ⟨k + 1, by omega, by omega, ?_⟩
    exact Sub.w [] []
  refine walkX ?_
  (refine endH [] (by first | exact .inr rfl | exact .inl rfl) rfl ⟨rfl, rfl⟩ ?_ ?_ rfl rfl rfl; all_goals (repeat' (first | exact ToAll.nil | exact famsTo.nil | exact famTo.nil | exact ToL.nil | exact ToR.nil | refine ToAll.cons ?_ ?_ | refine famsTo.cons ?_ ?_ | refine wt10 ?_ ?_ | exact To.undef _ | exact To.sc _ | exact To.hslL rfl rfl | exact To.ptrO rfl rfl rfl | exact To.mrefO rfl | exact To.nil rfl rfl rfl | exact wt1 | exact To.nilL | refine To.int ?_ | refine To.bool ?_ | refine To.hslL rfl ?_ | refine wt2 rfl ?_ ?_ ?_ | refine To.tupL ?_ | refine To.aggL ?_ | refine To.cptrL ?_ | refine wt3 ?_ | refine wt4 ?_ | refine To.cloL ?_ ?_ | exact wt5 | refine wt6 ?_ | refine ToB.one ?_ | exact wt7 | ((with_reducible apply ToL.consE); case e9 => rfl) | refine wt8 ?_ | refine ToL.cons ?_ ?_ | exact wt11 | refine wt9 ?_ ?_ | refine wt12 ?_ | (with_reducible rfl) | assumption)); all_goals (first | rfl | assumption | (simp; done) | (simp; omega) | (rw [wrap_small (by omega) (by omega)]; done) | (rw [wrap_small (by omega) (by omega)]; omega) | (refine congrArg Nat.cast ?_; assumption) | skip))
theorem split_len (p : Int → Bool) : ∀ a : List Int, (a.filter p).length + (a.filter fun x => !p x).length = a.length
  | [] => rfl
  | x :: a => by
    have := split_len p a
    cases h : p x <;> simp [h] <;> omega
theorem in_out_len (a b : List Int) : (a.filter (isIn' b)).length + (a.filter (notIn' b)).length = a.length := split_len (isIn' b) a
theorem both_len {a b : List Int} (na : a.Nodup) (nb : b.Nodup) : (a.filter (isIn' b)).length = (b.filter (isIn' a)).length := by
  refine Nat.le_antisymm (sub_len _ _ (na.sublist List.filter_sublist) fun x hx => ?_) (sub_len _ _ (nb.sublist List.filter_sublist) fun x hx => ?_)
  · obtain ⟨h1, h2⟩ := List.mem_filter.1 hx
    exact List.mem_filter.2 ⟨by simpa [isIn'] using h2, by simpa [isIn'] using h1⟩
  · obtain ⟨h1, h2⟩ := List.mem_filter.1 hx
    exact List.mem_filter.2 ⟨by simpa [isIn'] using h2, by simpa [isIn'] using h1⟩
theorem all_len {a b : List Int} (na : a.Nodup) (nb : b.Nodup) : (a ++ b.filter (notIn' a)).length = (a.filter (notIn' b)).length + b.length := by
  have h1 := in_out_len a b
  have h2 := in_out_len b a
  have h3 := both_len na nb
  rw [List.length_append]
  omega
theorem nodup_union {a b : List Int} (na : a.Nodup) (nb : b.Nodup) : (a ++ b.filter (notIn' a)).Nodup := by
  refine List.nodup_append.2 ⟨na, nb.sublist List.filter_sublist, fun x hx y hy => ?_⟩
  obtain ⟨_, h2⟩ := List.mem_filter.1 hy
  intro e
  subst e
  simp [notIn', hx] at h2
theorem mem_union {a b : List Int} {x : Int} : x ∈ a ++ b.filter (notIn' a) ↔ x ∈ a ∨ x ∈ b := by
  rw [List.mem_append, List.mem_filter]
  by_cases h : x ∈ a <;> simp [notIn', h]
theorem check_of {l : List Int} (hb : ∀ x ∈ l, 0 ≤ x ∧ x < 64) (hn : l.Nodup) : checkE l = 0 := by
  have hlen : l.length ≤ 64 := by
    have h1 : l ⊆ (List.range 64).map (fun n : Nat => (n : Int)) := fun x hx => by
      have := hb x hx
      exact List.mem_map.2 ⟨x.toNat, List.mem_range.2 (by omega), by omega⟩
    have := hn.length_le_of_subset h1
    simpa using this
  have key : ∀ (l s : List Int), (∀ x ∈ l, 0 ≤ x ∧ x < 64) → (∀ x ∈ l, x ∉ s) → l.Nodup → distE 64 s l = 0 := by
    intro l
    induction l with
    | nil => exact fun _ _ _ _ => rfl
    | cons y l ih =>
      intro s a b c
      obtain ⟨c1, c2⟩ := List.nodup_cons.1 c
      have := a y (by simp)
      unfold distE
      rw [if_neg (by omega), if_neg (b y (by simp))]
      refine ih _ (fun x hx => a x (List.mem_cons_of_mem _ hx)) (fun x hx hs => ?_) c2
      rcases List.mem_append.1 hs with hs | hs
      · exact b x (List.mem_cons_of_mem _ hx) hs
      · rw [List.mem_singleton.1 hs] at hx
        exact c1 hx
  unfold checkE
  rw [if_neg (by omega)]
  exact key _ _ hb (fun _ _ h => by cases h) hn
theorem union_check {a b : List Int} (ha : checkE a = 0) (hb : checkE b = 0) : checkE (a ++ b.filter (notIn' a)) = 0 := by
  obtain ⟨a1, a2, _⟩ := check0_rng ha
  obtain ⟨b1, b2, _⟩ := check0_rng hb
  refine check_of (fun x hx => ?_) (nodup_union a2 b2)
  rcases mem_union.1 hx with h | h
  · exact a1 x h
  · exact b1 x h
theorem both_of {a b : List Int} (ha : checkE a = 0) (hb : checkE b = 0) : bothE a b = 0 := by
  unfold bothE
  rw [if_pos ha, hb]
theorem union_cmp {a b : List Int} (ha : checkE a = 0) (hb : checkE b = 0) : (cmpE (a ++ b.filter (notIn' a)) (b ++ a.filter (notIn' b))).1 ≠ 3 ∧ (cmpE (a ++ b.filter (notIn' a)) (b ++ a.filter (notIn' b))).2 = 0 := by
  have h1 := union_check ha hb
  have h2 := union_check hb ha
  obtain ⟨r1, _, _⟩ := check0_rng h1
  obtain ⟨r2, _, _⟩ := check0_rng h2
  have hf : flagB (a ++ b.filter (notIn' a)) = flagB (b ++ a.filter (notIn' b)) := (flagB_iff r1 r2).2 fun x => by rw [mem_union, mem_union, or_comm]
  unfold cmpE
  rw [if_pos (both_of h1 h2), if_pos hf]
  split <;> exact ⟨by decide, rfl⟩
theorem more_out {a b : List Int} : (a ++ b.filter (notIn' a)).filter (notIn' b) = a.filter (notIn' b) := by
  have : (b.filter (notIn' a)).filter (notIn' b) = [] := List.filter_eq_nil_iff.2 fun x hx => by
    have := (List.mem_filter.1 hx).1
    simp [notIn', this]
  rw [List.filter_append, this, List.append_nil]
def upI (n : Nat) : List Int := (List.range n).map fun i : Nat => (i : Int)
theorem upI_len (n : Nat) : (upI n).length = n := by simp [upI]
theorem upI_succ (n : Nat) : upI (n + 1) = upI n ++ [(n : Int)] := by simp [upI, List.range_succ]
theorem up_rk {a : List Int} (ha : checkE a = 0) : rkE a (upI a.length) = 0 := by
  have h : distE a.length [] (upI a.length) = 0 := by
    have key : ∀ (l s : List Int) (n : Nat), (∀ x ∈ l, 0 ≤ x ∧ x < n) → (∀ x ∈ l, x ∉ s) → l.Nodup → distE n s l = 0 := by
      intro l
      induction l with
      | nil => exact fun _ _ _ _ _ => rfl
      | cons y l ih =>
        intro s n a b c
        obtain ⟨c1, c2⟩ := List.nodup_cons.1 c
        have := a y (by simp)
        unfold distE
        rw [if_neg (by omega), if_neg (b y (by simp))]
        refine ih _ _ (fun x hx => a x (List.mem_cons_of_mem _ hx)) (fun x hx hs => ?_) c2
        rcases List.mem_append.1 hs with hs | hs
        · exact b x (List.mem_cons_of_mem _ hx) hs
        · rw [List.mem_singleton.1 hs] at hx
          exact c1 hx
    refine key _ _ _ (fun x hx => ?_) (fun _ _ h => by cases h) ?_
    · obtain ⟨i, hi, rfl⟩ := List.mem_map.1 hx
      have := List.mem_range.1 hi
      omega
    · exact List.pairwise_map.2 (List.nodup_range.imp fun h e => h (by omega))
  unfold rkE
  rw [if_pos ha, h]
theorem up_sel (a : List Int) : selE a (upI a.length) = a := by
  refine List.ext_getElem (by simp [selE, upI]) fun i h1 h2 => ?_
  simp [selE, upI, List.getElem_map, List.getElem_range, h2]
theorem excl_nil {a : List Int} (ha : checkE a = 0) : exclA a [] = (0, a) := by
  have h : rkE a [] = 0 := by unfold rkE; rw [if_pos ha]; rfl
  unfold exclA ansE
  rw [if_pos h]
  have : a.filter (notIn' (selE a [])) = a := List.filter_eq_self.2 fun x _ => rfl
  rw [this]
def toL (a b : List Int) : List Int := (upI a.length).map (toE a b)
theorem toL_len (a b : List Int) : (toL a b).length = a.length := by simp [toL, upI]
theorem toL_at {a b : List Int} {k : Nat} (h : k < a.length) : (toL a b)[k]'(by rw [toL_len]; exact h) = if idxE a[k] b < 0 then -2 else idxE a[k] b := by
  unfold toL upI toE
  simp only [List.getElem_map, List.getElem_range]
  rw [if_neg (by omega), getD_at h]
theorem trans_up {a b : List Int} (ha : checkE a = 0) (hb : checkE b = 0) : transA a b (upI a.length) = (0, toL a b) := by
  unfold transA
  rw [if_pos (both_of ha hb), if_neg]
  · rfl
  · intro h
    obtain ⟨x, hx, hp⟩ := List.any_eq_true.1 h
    obtain ⟨i, hi, rfl⟩ := List.mem_map.1 hx
    have := List.mem_range.1 hi
    simp [badR] at hp
    omega
theorem toL_ok {a b : List Int} : ∀ x ∈ toL a b, badR b x = false := fun x hx => by
  obtain ⟨k, hk, rfl⟩ := List.mem_iff_getElem.1 hx
  rw [toL_len] at hk
  rw [toL_at hk]
  have := (idxE_mem a[k] b).2
  split
  · rfl
  · simp [badR]; omega
theorem trans_back {a b : List Int} (ha : checkE a = 0) (hb : checkE b = 0) : transA b a (toL a b) = (0, (toL a b).map (toE b a)) := by
  unfold transA
  rw [if_pos (both_of hb ha), if_neg]
  intro h
  obtain ⟨x, hx, hp⟩ := List.any_eq_true.1 h
  rw [toL_ok x hx] at hp
  cases hp
theorem idx_self {a : List Int} (na : a.Nodup) {k : Nat} (h : k < a.length) : idxE a[k] a = k :=
  idxE_at _ _ k h rfl fun j hj hjk e => by
    have := (List.getElem?_inj hj na).1 (show a[j]? = a[k]? by rw [List.getElem?_eq_getElem hj, List.getElem?_eq_getElem h, e])
    omega
theorem idx_get {x : Int} : ∀ {l : List Int} {q : Nat}, idxE x l = q → ∃ h : q < l.length, l[q] = x
  | [], q, h => by simp only [idxE] at h; omega
  | y :: l, q, h => by
    unfold idxE at h
    split at h
    · rename_i e
      obtain rfl : q = 0 := by omega
      exact ⟨by simp, e⟩
    · split at h
      · omega
      · obtain ⟨p, rfl⟩ : ∃ p, q = p + 1 := ⟨q - 1, by omega⟩
        obtain ⟨h1, h2⟩ := idx_get (x := x) (l := l) (q := p) (by omega)
        exact ⟨by rw [List.length_cons]; omega, by simpa using h2⟩
theorem to_cases {a b : List Int} (na : a.Nodup) {k : Nat} (h : k < a.length) :
    (a[k] ∉ b ∧ (toL a b)[k]'(by rw [toL_len]; exact h) = -2) ∨
    (a[k] ∈ b ∧ ∃ q : Nat, ∃ hq : q < b.length, (toL a b)[k]'(by rw [toL_len]; exact h) = (q : Int) ∧ b[q] = a[k] ∧ ((toL a b).map (toE b a))[k]'(by rw [List.length_map, toL_len]; exact h) = (k : Int)) := by
  obtain ⟨h1, h2, h3⟩ := idxE_mem a[k] b
  by_cases hm : a[k] ∈ b
  · right
    have h0 := h1.2 hm
    obtain ⟨q, hq⟩ : ∃ q : Nat, idxE a[k] b = q := ⟨(idxE a[k] b).toNat, by omega⟩
    obtain ⟨hl, he⟩ := idx_get hq
    refine ⟨hm, q, hl, ?_, he, ?_⟩
    · rw [toL_at h, if_neg (by omega), hq]
    · rw [List.getElem_map, toL_at h, if_neg (by omega), hq]
      unfold toE
      rw [if_neg (by omega), getD_at hl, he, idx_self na h, if_neg (by omega)]
  · left
    refine ⟨hm, ?_⟩
    rw [toL_at h, if_pos (Int.not_le.1 fun q => hm (h1.1 q))]
end Go.Proofs.Ytpkpfgpfkajkpaa
