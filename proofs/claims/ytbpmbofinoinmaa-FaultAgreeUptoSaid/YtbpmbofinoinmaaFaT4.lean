import Derived.Test.YtbpmbofinoinmaaFaT3
namespace Go.Proofs.Ytbpmbofinoinmaa
open Go.Av Go.Proofs

def seen (l : List C) (k : Nat) (q : Nat) : Bool := (l.take k).any fun c => decide (c.rank = (q : Int))

theorem checkGo_seen (n : Int) (l : List C) : ∀ (m k : Nat) (s : Nat → Bool), l.length - k = m → k ≤ l.length → (∀ q, s q = seen l k q) → checkGo n s (l.drop k) = checkGo n (seen l k) (l.drop k) := by
  intro m k s _ _ h
  rw [show s = seen l k from funext h]

theorem seen_succ {l : List C} {k : Nat} {c : C} (hk : k < l.length) (hc : l[k] = c) (h0 : 0 ≤ c.rank) : (fun i => if i = c.rank.toNat then true else seen l k i) = seen l (k + 1) := by
  funext q
  show _ = (l.take (k + 1)).any fun c => decide (c.rank = (q : Int))
  rw [List.take_succ_eq_append_getElem hk, List.any_append, hc]
  by_cases e : q = c.rank.toNat
  · have h1 : c.rank = (q : Int) := by omega
    rw [if_pos e]
    simp only [List.any_cons, List.any_nil, Bool.or_false, decide_eq_true h1, Bool.or_true]
  · have h1 : ¬ c.rank = (q : Int) := by omega
    rw [if_neg e]
    simp only [List.any_cons, List.any_nil, Bool.or_false, decide_eq_false h1]
    rfl

set_option maxHeartbeats 1000000 in
theorem refcheck_ok (n : Int) (l : List C) (hl : l.length ≤ 4000000) : CallOK Try.prog 13 [.sc (.int .i64 n), crV l] [] (fun res _ => res = .sc (.int .i64 (checkS n l))) := by
  refine CallOK.of cF13 ?_ (by simp [F13])
  repeat (first | refine Reg.o rfl rfl ?_ | refine Reg.on rfl rfl ?_ | refine Reg.s rfl ?_ | refine Reg.sn rfl ?_ | refine Reg.nil ?_ | refine DK.o rfl rfl ?_ | refine DK.on rfl rfl ?_ | refine DK.s rfl ?_ | refine DK.sn rfl ?_ | refine AWP.seq ?_ | refine AWP.region ?_ | refine AWP.dk mixed ?_ | refine AWP.condT rfl ?_ | refine AWP.condF rfl ?_ | refine AWP.skip ?_ | refine AWP.ret ?_ | refine AWP.exit ?_ | refine AWP.block ?_ )
  refine Reg.join [(0, .sc (.int .i64 n)), (1, crV l), (12, .sc (.bool (decide (n < 1) || decide (n > 64))))] [] ?_ ?_
  · repeat' (first | refine Reg.o rfl rfl ?_ | refine Reg.on rfl rfl ?_ | refine Reg.s rfl ?_ | refine Reg.sn rfl ?_ | refine Reg.nil ?_ | refine DK.o rfl rfl ?_ | refine DK.on rfl rfl ?_ | refine DK.s rfl ?_ | refine DK.sn rfl ?_ | refine AWP.seq ?_ | refine AWP.region ?_ | refine AWP.dk mixed ?_ | refine AWP.condT rfl ?_ | refine AWP.condF rfl ?_ | refine AWP.skip ?_ | refine AWP.ret ?_ | refine AWP.exit ?_ | refine AWP.block ?_ | refine Reg.gs rfl (fun _ => ?_) (fun _ => ?_) | refine AWP.cond rfl (fun _ => ?_) (fun _ => ?_))
    all_goals exact Sub.keep ⟨.refl _, .refl _, Le.bool (by (first | (simp_all; done) | (simp_all; omega) | (simp at *; omega) | (rw [Bool.eq_iff_iff]; simp at *; omega))), trivial⟩
  refine AWP.cond rfl (fun h => ?_) (fun h => ?_)
  · repeat (first | refine Reg.o rfl rfl ?_ | refine Reg.on rfl rfl ?_ | refine Reg.s rfl ?_ | refine Reg.sn rfl ?_ | refine Reg.nil ?_ | refine DK.o rfl rfl ?_ | refine DK.on rfl rfl ?_ | refine DK.s rfl ?_ | refine DK.sn rfl ?_ | refine AWP.seq ?_ | refine AWP.region ?_ | refine AWP.dk mixed ?_ | refine AWP.condT rfl ?_ | refine AWP.condF rfl ?_ | refine AWP.skip ?_ | refine AWP.ret ?_ | refine AWP.exit ?_ | refine AWP.block ?_ )
    exact fin_pure (.inr rfl) rfl (.sc _) (by simp only [checkS, h, if_true])
  have hb := h
  repeat (first | refine Reg.o rfl rfl ?_ | refine Reg.on rfl rfl ?_ | refine Reg.s rfl ?_ | refine Reg.sn rfl ?_ | refine Reg.nil ?_ | refine DK.o rfl rfl ?_ | refine DK.on rfl rfl ?_ | refine DK.s rfl ?_ | refine DK.sn rfl ?_ | refine AWP.seq ?_ | refine AWP.region ?_ | refine AWP.dk mixed ?_ | refine AWP.condT rfl ?_ | refine AWP.condF rfl ?_ | refine AWP.skip ?_ | refine AWP.ret ?_ | refine AWP.exit ?_ | refine AWP.block ?_ )
  have hn : 1 ≤ n ∧ n ≤ 64 := by simp at h; omega
  refine AWP.loop (fun k : Nat => [(0, .sc (.int .i64 n)), (1, crV l), (5, .sc (.int .i64 k))]) (fun _ => []) (fun k => k ≤ l.length ∧ checkGo n (fun _ => false) l = checkGo n (seen l k) (l.drop k)) (fun k => l.length - k) 0
    ⟨Nat.zero_le _, by rw [List.drop_zero]; congr 1⟩ (Sub.none ⟨.int rfl, .pure (pure_cr l), .int rfl, trivial⟩) ?_
  rintro k ⟨hk, hck⟩
  repeat (first | refine Reg.o rfl rfl ?_ | refine Reg.on rfl rfl ?_ | refine Reg.s rfl ?_ | refine Reg.sn rfl ?_ | refine Reg.nil ?_ | refine DK.o rfl rfl ?_ | refine DK.on rfl rfl ?_ | refine DK.s rfl ?_ | refine DK.sn rfl ?_ | refine AWP.seq ?_ | refine AWP.region ?_ | refine AWP.dk mixed ?_ | refine AWP.condT rfl ?_ | refine AWP.condF rfl ?_ | refine AWP.skip ?_ | refine AWP.ret ?_ | refine AWP.exit ?_ | refine AWP.block ?_ )
  refine AWP.cond rfl (fun h => ?_) (fun h => ?_)
  · have hlt : k < l.length := by simpa using h
    generalize hc : l[k] = c
    have hdrop : l.drop k = c :: l.drop (k + 1) := by rw [List.drop_eq_getElem_cons hlt, hc]
    have hrow : rowIx (l.map crow) (k : Int) = some (crow c) := (rowIx_map crow l k hlt).trans (by rw [hc])
    repeat (first | refine Reg.o rfl rfl ?_ | refine Reg.on rfl rfl ?_ | refine Reg.s rfl ?_ | refine Reg.sn rfl ?_ | refine Reg.nil ?_ | refine DK.o rfl rfl ?_ | refine DK.on rfl rfl ?_ | refine DK.s rfl ?_ | refine DK.sn rfl ?_ | refine AWP.seq ?_ | refine AWP.region ?_ | refine AWP.dk mixed ?_ | refine AWP.condT rfl ?_ | refine AWP.condF rfl ?_ | refine AWP.skip ?_ | refine AWP.ret ?_ | refine AWP.exit ?_ | refine AWP.block ?_ )
    refine Reg.join [(0, .sc (.int .i64 n)), (1, crV l), (5, .sc (.int .i64 k)), (33, .sc (.bool (badRank n c)))] [] ?_ ?_
    · refine Reg.o rfl (dstep_idxSl rfl rfl hrow) ?_
      repeat (first | refine Reg.o rfl rfl ?_ | refine Reg.on rfl rfl ?_ | refine Reg.s rfl ?_ | refine Reg.sn rfl ?_ | refine Reg.nil ?_ | refine DK.o rfl rfl ?_ | refine DK.on rfl rfl ?_ | refine DK.s rfl ?_ | refine DK.sn rfl ?_ | refine AWP.seq ?_ | refine AWP.region ?_ | refine AWP.dk mixed ?_ | refine AWP.condT rfl ?_ | refine AWP.condF rfl ?_ | refine AWP.skip ?_ | refine AWP.ret ?_ | refine AWP.exit ?_ | refine AWP.block ?_ )
      refine Reg.gs rfl (fun _ => ?_) (fun _ => ?_)
      · repeat (first | refine Reg.o rfl rfl ?_ | refine Reg.on rfl rfl ?_ | refine Reg.s rfl ?_ | refine Reg.sn rfl ?_ | refine Reg.nil ?_ | refine DK.o rfl rfl ?_ | refine DK.on rfl rfl ?_ | refine DK.s rfl ?_ | refine DK.sn rfl ?_ | refine AWP.seq ?_ | refine AWP.region ?_ | refine AWP.dk mixed ?_ | refine AWP.condT rfl ?_ | refine AWP.condF rfl ?_ | refine AWP.skip ?_ | refine AWP.ret ?_ | refine AWP.exit ?_ | refine AWP.block ?_ )
        exact Sub.keep ⟨.refl _, .refl _, .refl _, Le.bool (by unfold badRank; (first | (simp_all; done) | (simp_all; omega) | (simp at *; omega) | (rw [Bool.eq_iff_iff]; simp at *; omega))), trivial⟩
      · repeat (first | refine Reg.o rfl rfl ?_ | refine Reg.on rfl rfl ?_ | refine Reg.s rfl ?_ | refine Reg.sn rfl ?_ | refine Reg.nil ?_ | refine DK.o rfl rfl ?_ | refine DK.on rfl rfl ?_ | refine DK.s rfl ?_ | refine DK.sn rfl ?_ | refine AWP.seq ?_ | refine AWP.region ?_ | refine AWP.dk mixed ?_ | refine AWP.condT rfl ?_ | refine AWP.condF rfl ?_ | refine AWP.skip ?_ | refine AWP.ret ?_ | refine AWP.exit ?_ | refine AWP.block ?_ )
        refine Reg.o rfl (dstep_idxSl rfl rfl hrow) ?_
        repeat (first | refine Reg.o rfl rfl ?_ | refine Reg.on rfl rfl ?_ | refine Reg.s rfl ?_ | refine Reg.sn rfl ?_ | refine Reg.nil ?_ | refine DK.o rfl rfl ?_ | refine DK.on rfl rfl ?_ | refine DK.s rfl ?_ | refine DK.sn rfl ?_ | refine AWP.seq ?_ | refine AWP.region ?_ | refine AWP.dk mixed ?_ | refine AWP.condT rfl ?_ | refine AWP.condF rfl ?_ | refine AWP.skip ?_ | refine AWP.ret ?_ | refine AWP.exit ?_ | refine AWP.block ?_ )
        exact Sub.keep ⟨.refl _, .refl _, .refl _, Le.bool (by unfold badRank; (first | (simp_all; done) | (simp_all; omega) | (simp at *; omega) | (rw [Bool.eq_iff_iff]; simp at *; omega))), trivial⟩
    refine AWP.cond rfl (fun h => ?_) (fun h => ?_)
    · repeat (first | refine Reg.o rfl rfl ?_ | refine Reg.on rfl rfl ?_ | refine Reg.s rfl ?_ | refine Reg.sn rfl ?_ | refine Reg.nil ?_ | refine DK.o rfl rfl ?_ | refine DK.on rfl rfl ?_ | refine DK.s rfl ?_ | refine DK.sn rfl ?_ | refine AWP.seq ?_ | refine AWP.region ?_ | refine AWP.dk mixed ?_ | refine AWP.condT rfl ?_ | refine AWP.condF rfl ?_ | refine AWP.skip ?_ | refine AWP.ret ?_ | refine AWP.exit ?_ | refine AWP.block ?_ )
      refine fin_pure (.inr rfl) rfl (.sc _) ?_
      have : checkS n l = 11 := by rw [checkS, if_neg (by rw [hb]; decide), hck, hdrop, checkGo, if_pos h]
      rw [this]
    have h1 := h
    repeat (first | refine Reg.o rfl rfl ?_ | refine Reg.on rfl rfl ?_ | refine Reg.s rfl ?_ | refine Reg.sn rfl ?_ | refine Reg.nil ?_ | refine DK.o rfl rfl ?_ | refine DK.on rfl rfl ?_ | refine DK.s rfl ?_ | refine DK.sn rfl ?_ | refine AWP.seq ?_ | refine AWP.region ?_ | refine AWP.dk mixed ?_ | refine AWP.condT rfl ?_ | refine AWP.condF rfl ?_ | refine AWP.skip ?_ | refine AWP.ret ?_ | refine AWP.exit ?_ | refine AWP.block ?_ )
    refine Reg.join [(0, .sc (.int .i64 n)), (1, crV l), (5, .sc (.int .i64 k)), (64, .sc (.bool (badTime n c)))] [] ?_ ?_
    · refine Reg.o rfl (dstep_idxSl rfl rfl hrow) ?_
      repeat (first | refine Reg.o rfl rfl ?_ | refine Reg.on rfl rfl ?_ | refine Reg.s rfl ?_ | refine Reg.sn rfl ?_ | refine Reg.nil ?_ | refine DK.o rfl rfl ?_ | refine DK.on rfl rfl ?_ | refine DK.s rfl ?_ | refine DK.sn rfl ?_ | refine AWP.seq ?_ | refine AWP.region ?_ | refine AWP.dk mixed ?_ | refine AWP.condT rfl ?_ | refine AWP.condF rfl ?_ | refine AWP.skip ?_ | refine AWP.ret ?_ | refine AWP.exit ?_ | refine AWP.block ?_ )
      refine Reg.gs rfl (fun _ => ?_) (fun _ => ?_)
      · repeat (first | refine Reg.o rfl rfl ?_ | refine Reg.on rfl rfl ?_ | refine Reg.s rfl ?_ | refine Reg.sn rfl ?_ | refine Reg.nil ?_ | refine DK.o rfl rfl ?_ | refine DK.on rfl rfl ?_ | refine DK.s rfl ?_ | refine DK.sn rfl ?_ | refine AWP.seq ?_ | refine AWP.region ?_ | refine AWP.dk mixed ?_ | refine AWP.condT rfl ?_ | refine AWP.condF rfl ?_ | refine AWP.skip ?_ | refine AWP.ret ?_ | refine AWP.exit ?_ | refine AWP.block ?_ )
        exact Sub.keep ⟨.refl _, .refl _, .refl _, Le.bool (by unfold badTime; (first | (simp_all; done) | (simp_all; omega) | (simp at *; omega) | (rw [Bool.eq_iff_iff]; simp at *; omega))), trivial⟩
      repeat (first | refine Reg.o rfl rfl ?_ | refine Reg.on rfl rfl ?_ | refine Reg.s rfl ?_ | refine Reg.sn rfl ?_ | refine Reg.nil ?_ | refine DK.o rfl rfl ?_ | refine DK.on rfl rfl ?_ | refine DK.s rfl ?_ | refine DK.sn rfl ?_ | refine AWP.seq ?_ | refine AWP.region ?_ | refine AWP.dk mixed ?_ | refine AWP.condT rfl ?_ | refine AWP.condF rfl ?_ | refine AWP.skip ?_ | refine AWP.ret ?_ | refine AWP.exit ?_ | refine AWP.block ?_ )
      refine Reg.o rfl (dstep_idxSl rfl rfl hrow) ?_
      repeat (first | refine Reg.o rfl rfl ?_ | refine Reg.on rfl rfl ?_ | refine Reg.s rfl ?_ | refine Reg.sn rfl ?_ | refine Reg.nil ?_ | refine DK.o rfl rfl ?_ | refine DK.on rfl rfl ?_ | refine DK.s rfl ?_ | refine DK.sn rfl ?_ | refine AWP.seq ?_ | refine AWP.region ?_ | refine AWP.dk mixed ?_ | refine AWP.condT rfl ?_ | refine AWP.condF rfl ?_ | refine AWP.skip ?_ | refine AWP.ret ?_ | refine AWP.exit ?_ | refine AWP.block ?_ )
      refine Reg.gs rfl (fun _ => ?_) (fun _ => ?_)
      · repeat (first | refine Reg.o rfl rfl ?_ | refine Reg.on rfl rfl ?_ | refine Reg.s rfl ?_ | refine Reg.sn rfl ?_ | refine Reg.nil ?_ | refine DK.o rfl rfl ?_ | refine DK.on rfl rfl ?_ | refine DK.s rfl ?_ | refine DK.sn rfl ?_ | refine AWP.seq ?_ | refine AWP.region ?_ | refine AWP.dk mixed ?_ | refine AWP.condT rfl ?_ | refine AWP.condF rfl ?_ | refine AWP.skip ?_ | refine AWP.ret ?_ | refine AWP.exit ?_ | refine AWP.block ?_ )
        exact Sub.keep ⟨.refl _, .refl _, .refl _, Le.bool (by unfold badTime; (first | (simp_all; done) | (simp_all; omega) | (simp at *; omega) | (rw [Bool.eq_iff_iff]; simp at *; omega))), trivial⟩
      repeat (first | refine Reg.o rfl rfl ?_ | refine Reg.on rfl rfl ?_ | refine Reg.s rfl ?_ | refine Reg.sn rfl ?_ | refine Reg.nil ?_ | refine DK.o rfl rfl ?_ | refine DK.on rfl rfl ?_ | refine DK.s rfl ?_ | refine DK.sn rfl ?_ | refine AWP.seq ?_ | refine AWP.region ?_ | refine AWP.dk mixed ?_ | refine AWP.condT rfl ?_ | refine AWP.condF rfl ?_ | refine AWP.skip ?_ | refine AWP.ret ?_ | refine AWP.exit ?_ | refine AWP.block ?_ )
      refine Reg.o rfl (dstep_idxSl rfl rfl hrow) ?_
      repeat (first | refine Reg.o rfl rfl ?_ | refine Reg.on rfl rfl ?_ | refine Reg.s rfl ?_ | refine Reg.sn rfl ?_ | refine Reg.nil ?_ | refine DK.o rfl rfl ?_ | refine DK.on rfl rfl ?_ | refine DK.s rfl ?_ | refine DK.sn rfl ?_ | refine AWP.seq ?_ | refine AWP.region ?_ | refine AWP.dk mixed ?_ | refine AWP.condT rfl ?_ | refine AWP.condF rfl ?_ | refine AWP.skip ?_ | refine AWP.ret ?_ | refine AWP.exit ?_ | refine AWP.block ?_ )
      refine Reg.gs rfl (fun _ => ?_) (fun _ => ?_)
      · repeat (first | refine Reg.o rfl rfl ?_ | refine Reg.on rfl rfl ?_ | refine Reg.s rfl ?_ | refine Reg.sn rfl ?_ | refine Reg.nil ?_ | refine DK.o rfl rfl ?_ | refine DK.on rfl rfl ?_ | refine DK.s rfl ?_ | refine DK.sn rfl ?_ | refine AWP.seq ?_ | refine AWP.region ?_ | refine AWP.dk mixed ?_ | refine AWP.condT rfl ?_ | refine AWP.condF rfl ?_ | refine AWP.skip ?_ | refine AWP.ret ?_ | refine AWP.exit ?_ | refine AWP.block ?_ )
        exact Sub.keep ⟨.refl _, .refl _, .refl _, Le.bool (by unfold badTime; (first | (simp_all; done) | (simp_all; omega) | (simp at *; omega) | (rw [Bool.eq_iff_iff]; simp at *; omega))), trivial⟩
      repeat (first | refine Reg.o rfl rfl ?_ | refine Reg.on rfl rfl ?_ | refine Reg.s rfl ?_ | refine Reg.sn rfl ?_ | refine Reg.nil ?_ | refine DK.o rfl rfl ?_ | refine DK.on rfl rfl ?_ | refine DK.s rfl ?_ | refine DK.sn rfl ?_ | refine AWP.seq ?_ | refine AWP.region ?_ | refine AWP.dk mixed ?_ | refine AWP.condT rfl ?_ | refine AWP.condF rfl ?_ | refine AWP.skip ?_ | refine AWP.ret ?_ | refine AWP.exit ?_ | refine AWP.block ?_ )
      refine Reg.o rfl (dstep_idxSl rfl rfl hrow) ?_
      repeat (first | refine Reg.o rfl rfl ?_ | refine Reg.on rfl rfl ?_ | refine Reg.s rfl ?_ | refine Reg.sn rfl ?_ | refine Reg.nil ?_ | refine DK.o rfl rfl ?_ | refine DK.on rfl rfl ?_ | refine DK.s rfl ?_ | refine DK.sn rfl ?_ | refine AWP.seq ?_ | refine AWP.region ?_ | refine AWP.dk mixed ?_ | refine AWP.condT rfl ?_ | refine AWP.condF rfl ?_ | refine AWP.skip ?_ | refine AWP.ret ?_ | refine AWP.exit ?_ | refine AWP.block ?_ )
      exact Sub.keep ⟨.refl _, .refl _, .refl _, Le.bool (by unfold badTime; (first | (simp_all; done) | (simp_all; omega) | (simp at *; omega) | (rw [Bool.eq_iff_iff]; simp at *; omega))), trivial⟩
    refine AWP.cond rfl (fun h => ?_) (fun h => ?_)
    · repeat (first | refine Reg.o rfl rfl ?_ | refine Reg.on rfl rfl ?_ | refine Reg.s rfl ?_ | refine Reg.sn rfl ?_ | refine Reg.nil ?_ | refine DK.o rfl rfl ?_ | refine DK.on rfl rfl ?_ | refine DK.s rfl ?_ | refine DK.sn rfl ?_ | refine AWP.seq ?_ | refine AWP.region ?_ | refine AWP.dk mixed ?_ | refine AWP.condT rfl ?_ | refine AWP.condF rfl ?_ | refine AWP.skip ?_ | refine AWP.ret ?_ | refine AWP.exit ?_ | refine AWP.block ?_ )
      refine fin_pure (.inr rfl) rfl (.sc _) ?_
      have : checkS n l = 3 := by rw [checkS, if_neg (by rw [hb]; decide), hck, hdrop, checkGo, if_neg (by rw [h1]; decide), if_pos h]
      rw [this]
    have h2 := h
    have hr : 0 ≤ c.rank ∧ c.rank < n := by simp [badRank] at h1; omega
    have hq : c.rank = (c.rank.toNat : Int) := by omega
    repeat (first | refine Reg.o rfl rfl ?_ | refine Reg.on rfl rfl ?_ | refine Reg.s rfl ?_ | refine Reg.sn rfl ?_ | refine Reg.nil ?_ | refine DK.o rfl rfl ?_ | refine DK.on rfl rfl ?_ | refine DK.s rfl ?_ | refine DK.sn rfl ?_ | refine AWP.seq ?_ | refine AWP.region ?_ | refine AWP.dk mixed ?_ | refine AWP.condT rfl ?_ | refine AWP.condF rfl ?_ | refine AWP.skip ?_ | refine AWP.ret ?_ | refine AWP.exit ?_ | refine AWP.block ?_ )
    refine AWP.loop (fun j : Nat => [(0, .sc (.int .i64 n)), (1, crV l), (5, .sc (.int .i64 k)), (6, .sc (.int .i64 j))]) (fun _ => []) (fun j => j ≤ k ∧ seen l j c.rank.toNat = false) (fun j => k - j) 0
      ⟨Nat.zero_le _, rfl⟩ (Sub.none ⟨.int rfl, .pure (pure_cr l), .int rfl, .int rfl, trivial⟩) ?_
    rintro j ⟨hj, hsj⟩
    repeat (first | refine Reg.o rfl rfl ?_ | refine Reg.on rfl rfl ?_ | refine Reg.s rfl ?_ | refine Reg.sn rfl ?_ | refine Reg.nil ?_ | refine DK.o rfl rfl ?_ | refine DK.on rfl rfl ?_ | refine DK.s rfl ?_ | refine DK.sn rfl ?_ | refine AWP.seq ?_ | refine AWP.region ?_ | refine AWP.dk mixed ?_ | refine AWP.condT rfl ?_ | refine AWP.condF rfl ?_ | refine AWP.skip ?_ | refine AWP.ret ?_ | refine AWP.exit ?_ | refine AWP.block ?_ )
    refine AWP.cond rfl (fun h => ?_) (fun h => ?_)
    · have hjk : j < k := by simpa using h
      have hjl : j < l.length := by omega
      generalize hd : l[j] = d
      have hrowj : rowIx (l.map crow) (j : Int) = some (crow d) := (rowIx_map crow l j hjl).trans (by rw [hd])
      have hs1 : seen l (j + 1) c.rank.toNat = decide (d.rank = c.rank) := by
        show (l.take (j + 1)).any _ = _
        rw [List.take_succ_eq_append_getElem hjl, List.any_append, hd]
        have : ((l.take j).any fun c' => decide (c'.rank = (c.rank.toNat : Int))) = false := hsj
        rw [this, ← hq]
        simp
      repeat (first | refine Reg.o rfl rfl ?_ | refine Reg.on rfl rfl ?_ | refine Reg.s rfl ?_ | refine Reg.sn rfl ?_ | refine Reg.nil ?_ | refine DK.o rfl rfl ?_ | refine DK.on rfl rfl ?_ | refine DK.s rfl ?_ | refine DK.sn rfl ?_ | refine AWP.seq ?_ | refine AWP.region ?_ | refine AWP.dk mixed ?_ | refine AWP.condT rfl ?_ | refine AWP.condF rfl ?_ | refine AWP.skip ?_ | refine AWP.ret ?_ | refine AWP.exit ?_ | refine AWP.block ?_ )
      refine DK.o rfl (dstep_idxSl rfl rfl hrowj) ?_
      repeat (first | refine Reg.o rfl rfl ?_ | refine Reg.on rfl rfl ?_ | refine Reg.s rfl ?_ | refine Reg.sn rfl ?_ | refine Reg.nil ?_ | refine DK.o rfl rfl ?_ | refine DK.on rfl rfl ?_ | refine DK.s rfl ?_ | refine DK.sn rfl ?_ | refine AWP.seq ?_ | refine AWP.region ?_ | refine AWP.dk mixed ?_ | refine AWP.condT rfl ?_ | refine AWP.condF rfl ?_ | refine AWP.skip ?_ | refine AWP.ret ?_ | refine AWP.exit ?_ | refine AWP.block ?_ )
      refine DK.o rfl (dstep_idxSl rfl rfl hrow) ?_
      repeat (first | refine Reg.o rfl rfl ?_ | refine Reg.on rfl rfl ?_ | refine Reg.s rfl ?_ | refine Reg.sn rfl ?_ | refine Reg.nil ?_ | refine DK.o rfl rfl ?_ | refine DK.on rfl rfl ?_ | refine DK.s rfl ?_ | refine DK.sn rfl ?_ | refine AWP.seq ?_ | refine AWP.region ?_ | refine AWP.dk mixed ?_ | refine AWP.condT rfl ?_ | refine AWP.condF rfl ?_ | refine AWP.skip ?_ | refine AWP.ret ?_ | refine AWP.exit ?_ | refine AWP.block ?_ )
      refine DK.nil ⟨by kernel_rfl, ?_⟩
      refine AWP.cond rfl (fun hc' => ?_) (fun hc' => ?_)
      · repeat (first | refine Reg.o rfl rfl ?_ | refine Reg.on rfl rfl ?_ | refine Reg.s rfl ?_ | refine Reg.sn rfl ?_ | refine Reg.nil ?_ | refine DK.o rfl rfl ?_ | refine DK.on rfl rfl ?_ | refine DK.s rfl ?_ | refine DK.sn rfl ?_ | refine AWP.seq ?_ | refine AWP.region ?_ | refine AWP.dk mixed ?_ | refine AWP.condT rfl ?_ | refine AWP.condF rfl ?_ | refine AWP.skip ?_ | refine AWP.ret ?_ | refine AWP.exit ?_ | refine AWP.block ?_ )
        refine fin_pure (.inr rfl) rfl (.sc _) ?_
        have hsk : seen l k c.rank.toNat = true := by
          show (l.take k).any _ = true
          rw [List.any_eq_true]
          refine ⟨d, ?_, ?_⟩
          · rw [← hd]
            rw [List.mem_take_iff_getElem]
            exact ⟨j, by omega, rfl⟩
          · rw [← hq]; exact hc'
        have : checkS n l = 5 := by rw [checkS, if_neg (by rw [hb]; decide), hck, hdrop, checkGo, if_neg (by rw [h1]; decide), if_neg (by rw [h2]; decide), if_pos hsk]
        rw [this]
      · repeat (first | refine Reg.o rfl rfl ?_ | refine Reg.on rfl rfl ?_ | refine Reg.s rfl ?_ | refine Reg.sn rfl ?_ | refine Reg.nil ?_ | refine DK.o rfl rfl ?_ | refine DK.on rfl rfl ?_ | refine DK.s rfl ?_ | refine DK.sn rfl ?_ | refine AWP.seq ?_ | refine AWP.region ?_ | refine AWP.dk mixed ?_ | refine AWP.condT rfl ?_ | refine AWP.condF rfl ?_ | refine AWP.skip ?_ | refine AWP.ret ?_ | refine AWP.exit ?_ | refine AWP.block ?_ )
        refine ⟨j + 1, ⟨by omega, by rw [hs1]; exact hc'⟩, by omega, Sub.none ⟨.int rfl, .pure (pure_cr l), .int rfl, .int ?_, trivial⟩⟩
        rw [wrap_small (by omega) (by omega)]; omega
    · have hjk : j = k := by
        have : ¬ j < k := by simpa using h
        omega
      subst hjk
      repeat (first | refine Reg.o rfl rfl ?_ | refine Reg.on rfl rfl ?_ | refine Reg.s rfl ?_ | refine Reg.sn rfl ?_ | refine Reg.nil ?_ | refine DK.o rfl rfl ?_ | refine DK.on rfl rfl ?_ | refine DK.s rfl ?_ | refine DK.sn rfl ?_ | refine AWP.seq ?_ | refine AWP.region ?_ | refine AWP.dk mixed ?_ | refine AWP.condT rfl ?_ | refine AWP.condF rfl ?_ | refine AWP.skip ?_ | refine AWP.ret ?_ | refine AWP.exit ?_ | refine AWP.block ?_ )
      refine ⟨j + 1, ⟨by omega, ?_⟩, by omega, Sub.none ⟨.int rfl, .pure (pure_cr l), .int ?_, trivial⟩⟩
      · rw [hck, hdrop, checkGo, if_neg (by rw [h1]; decide), if_neg (by rw [h2]; decide), if_neg (by rw [hsj]; decide), seen_succ hlt hc hr.1]
      · rw [wrap_small (by omega) (by omega)]; omega
  · have hkl : k = l.length := by
      have : ¬ k < l.length := by simpa using h
      omega
    repeat (first | refine Reg.o rfl rfl ?_ | refine Reg.on rfl rfl ?_ | refine Reg.s rfl ?_ | refine Reg.sn rfl ?_ | refine Reg.nil ?_ | refine DK.o rfl rfl ?_ | refine DK.on rfl rfl ?_ | refine DK.s rfl ?_ | refine DK.sn rfl ?_ | refine AWP.seq ?_ | refine AWP.region ?_ | refine AWP.dk mixed ?_ | refine AWP.condT rfl ?_ | refine AWP.condF rfl ?_ | refine AWP.skip ?_ | refine AWP.ret ?_ | refine AWP.exit ?_ | refine AWP.block ?_ )
    refine fin_pure (.inr rfl) rfl (.sc _) ?_
    have : checkS n l = 0 := by rw [checkS, if_neg (by rw [hb]; decide), hck, hkl, List.drop_length, checkGo]
    rw [this]

end Go.Proofs.Ytbpmbofinoinmaa
