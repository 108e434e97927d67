import Derived.Test.YtbpmbofinoinmaaFaN3
namespace Go.Proofs.Ytbpmbofinoinmaa
open Go.Av Go.Proofs

/-! The document's News: who fails when, who lives, whom it reaches. -/

def failsS (l : List C) (i : Int) : Int × Int := match findC l i with
  | none => (1100, 0)
  | some c => (c.round, c.sent)

theorem findC_take {l : List C} {i : Int} {k : Nat} (h : findC (l.take k) i = none) (hk : k < l.length) : findC l i = (if i = l[k].rank then some l[k] else findC (l.drop (k + 1)) i) ∧ findC (l.take (k + 1)) i = if i = l[k].rank then some l[k] else none := by
  unfold findC at h ⊢
  constructor
  · conv => lhs; rw [← List.take_append_drop k l, List.drop_eq_getElem_cons hk]
    rw [List.find?_append, h, Option.none_or, List.find?_cons]
    by_cases e : i = l[k].rank
    · rw [if_pos e, decide_eq_true e]
    · rw [if_neg e, decide_eq_false e]
  · rw [List.take_succ_eq_append_getElem hk, List.find?_append, h, Option.none_or, List.find?_cons]
    by_cases e : i = l[k].rank
    · rw [if_pos e, decide_eq_true e]
    · rw [if_neg e, decide_eq_false e]
      rfl

theorem fails_ok (l : List C) (i : Int) (hl : l.length ≤ 4000000) : CallOK Try.prog 71 [crV l, .sc (.int .i64 i)] [] (fun res _ => res = .tup [.sc (.int .i64 (failsS l i).1), .sc (.int .i64 (failsS l i).2)]) := by
  refine CallOK.of cF71 ?_ (by simp [F71])
  repeat (first | refine Reg.o rfl rfl ?_ | refine Reg.on rfl rfl ?_ | refine Reg.s rfl ?_ | refine Reg.sn rfl ?_ | refine Reg.nil ?_ | refine DK.o rfl rfl ?_ | refine DK.on rfl rfl ?_ | refine DK.s rfl ?_ | refine DK.sn rfl ?_ | refine AWP.seq ?_ | refine AWP.region ?_ | refine AWP.dk mixed ?_ | refine AWP.condT rfl ?_ | refine AWP.condF rfl ?_ | refine AWP.skip ?_ | refine AWP.ret ?_ | refine AWP.exit ?_ | refine AWP.block ?_ )
  refine AWP.loop (fun k : Nat => [(0, crV l), (1, .sc (.int .i64 i)), (6, .sc (.int .i64 k))]) (fun _ => []) (fun k => k ≤ l.length ∧ findC (l.take k) i = none) (fun k => l.length - k) 0 ⟨Nat.zero_le _, rfl⟩
    (Sub.none ⟨.pure (pure_cr l), .int rfl, .int rfl, trivial⟩) ?_
  rintro k ⟨hk, hf⟩
  have hk1 : IntKind.i64.wrap ((k : Int) + 1) = ((k + 1 : Nat) : Int) := by rw [wrap_small (by omega) (by omega)]; omega
  repeat (first | refine Reg.o rfl rfl ?_ | refine Reg.on rfl rfl ?_ | refine Reg.s rfl ?_ | refine Reg.sn rfl ?_ | refine Reg.nil ?_ | refine DK.o rfl rfl ?_ | refine DK.on rfl rfl ?_ | refine DK.s rfl ?_ | refine DK.sn rfl ?_ | refine AWP.seq ?_ | refine AWP.region ?_ | refine AWP.dk mixed ?_ | refine AWP.condT rfl ?_ | refine AWP.condF rfl ?_ | refine AWP.skip ?_ | refine AWP.ret ?_ | refine AWP.exit ?_ | refine AWP.block ?_ )
  refine AWP.cond rfl (fun h => ?_) (fun h => ?_)
  · have hlt : k < l.length := by simpa using h
    obtain ⟨f1, f2⟩ := findC_take hf hlt
    generalize hc : l[k] = c at f1 f2
    have hrow : rowIx (l.map crow) (k : Int) = some (crow c) := (rowIx_map crow l k hlt).trans (by rw [hc])
    repeat (first | refine Reg.o rfl rfl ?_ | refine Reg.on rfl rfl ?_ | refine Reg.s rfl ?_ | refine Reg.sn rfl ?_ | refine Reg.nil ?_ | refine DK.o rfl rfl ?_ | refine DK.on rfl rfl ?_ | refine DK.s rfl ?_ | refine DK.sn rfl ?_ | refine AWP.seq ?_ | refine AWP.region ?_ | refine AWP.dk mixed ?_ | refine AWP.condT rfl ?_ | refine AWP.condF rfl ?_ | refine AWP.skip ?_ | refine AWP.ret ?_ | refine AWP.exit ?_ | refine AWP.block ?_ )
    refine Reg.o rfl (dstep_idxSl rfl rfl hrow) ?_
    repeat (first | refine Reg.o rfl rfl ?_ | refine Reg.on rfl rfl ?_ | refine Reg.s rfl ?_ | refine Reg.sn rfl ?_ | refine Reg.nil ?_ | refine DK.o rfl rfl ?_ | refine DK.on rfl rfl ?_ | refine DK.s rfl ?_ | refine DK.sn rfl ?_ | refine AWP.seq ?_ | refine AWP.region ?_ | refine AWP.dk mixed ?_ | refine AWP.condT rfl ?_ | refine AWP.condF rfl ?_ | refine AWP.skip ?_ | refine AWP.ret ?_ | refine AWP.exit ?_ | refine AWP.block ?_ )
    refine AWP.cond rfl (fun he => ?_) (fun he => ?_)
    · have he' : c.rank = i := by simpa using he
      repeat (first | refine Reg.o rfl rfl ?_ | refine Reg.on rfl rfl ?_ | refine Reg.s rfl ?_ | refine Reg.sn rfl ?_ | refine Reg.nil ?_ | refine DK.o rfl rfl ?_ | refine DK.on rfl rfl ?_ | refine DK.s rfl ?_ | refine DK.sn rfl ?_ | refine AWP.seq ?_ | refine AWP.region ?_ | refine AWP.dk mixed ?_ | refine AWP.condT rfl ?_ | refine AWP.condF rfl ?_ | refine AWP.skip ?_ | refine AWP.ret ?_ | refine AWP.exit ?_ | refine AWP.block ?_ )
      refine DK.o rfl (dstep_idxSl rfl rfl hrow) ?_
      repeat (first | refine Reg.o rfl rfl ?_ | refine Reg.on rfl rfl ?_ | refine Reg.s rfl ?_ | refine Reg.sn rfl ?_ | refine Reg.nil ?_ | refine DK.o rfl rfl ?_ | refine DK.on rfl rfl ?_ | refine DK.s rfl ?_ | refine DK.sn rfl ?_ | refine AWP.seq ?_ | refine AWP.region ?_ | refine AWP.dk mixed ?_ | refine AWP.condT rfl ?_ | refine AWP.condF rfl ?_ | refine AWP.skip ?_ | refine AWP.ret ?_ | refine AWP.exit ?_ | refine AWP.block ?_ )
      refine DK.o rfl (dstep_idxSl rfl rfl hrow) ?_
      repeat (first | refine Reg.o rfl rfl ?_ | refine Reg.on rfl rfl ?_ | refine Reg.s rfl ?_ | refine Reg.sn rfl ?_ | refine Reg.nil ?_ | refine DK.o rfl rfl ?_ | refine DK.on rfl rfl ?_ | refine DK.s rfl ?_ | refine DK.sn rfl ?_ | refine AWP.seq ?_ | refine AWP.region ?_ | refine AWP.dk mixed ?_ | refine AWP.condT rfl ?_ | refine AWP.condF rfl ?_ | refine AWP.skip ?_ | refine AWP.ret ?_ | refine AWP.exit ?_ | refine AWP.block ?_ )
      refine DK.nil ⟨by kernel_rfl, ?_⟩
      repeat (first | refine Reg.o rfl rfl ?_ | refine Reg.on rfl rfl ?_ | refine Reg.s rfl ?_ | refine Reg.sn rfl ?_ | refine Reg.nil ?_ | refine DK.o rfl rfl ?_ | refine DK.on rfl rfl ?_ | refine DK.s rfl ?_ | refine DK.sn rfl ?_ | refine AWP.seq ?_ | refine AWP.region ?_ | refine AWP.dk mixed ?_ | refine AWP.condT rfl ?_ | refine AWP.condF rfl ?_ | refine AWP.skip ?_ | refine AWP.ret ?_ | refine AWP.exit ?_ | refine AWP.block ?_ )
      refine fin_pure (.inr rfl) rfl (.tup _ (allPure_cons (.sc _) (allPure_cons (.sc _) allPure_nil))) ?_
      have : failsS l i = (c.round, c.sent) := by unfold failsS; rw [f1, if_pos he'.symm]
      rw [this]
    · have he' : c.rank ≠ i := by simpa using he
      repeat (first | refine Reg.o rfl rfl ?_ | refine Reg.on rfl rfl ?_ | refine Reg.s rfl ?_ | refine Reg.sn rfl ?_ | refine Reg.nil ?_ | refine DK.o rfl rfl ?_ | refine DK.on rfl rfl ?_ | refine DK.s rfl ?_ | refine DK.sn rfl ?_ | refine AWP.seq ?_ | refine AWP.region ?_ | refine AWP.dk mixed ?_ | refine AWP.condT rfl ?_ | refine AWP.condF rfl ?_ | refine AWP.skip ?_ | refine AWP.ret ?_ | refine AWP.exit ?_ | refine AWP.block ?_ )
      exact ⟨k + 1, ⟨by omega, by rw [f2, if_neg (fun e => he' e.symm)]⟩, by omega, Sub.none ⟨.pure (pure_cr l), .int rfl, .int hk1, trivial⟩⟩
  · have hkl : k = l.length := by
      have : ¬ k < l.length := by simpa using h
      omega
    repeat (first | refine Reg.o rfl rfl ?_ | refine Reg.on rfl rfl ?_ | refine Reg.s rfl ?_ | refine Reg.sn rfl ?_ | refine Reg.nil ?_ | refine DK.o rfl rfl ?_ | refine DK.on rfl rfl ?_ | refine DK.s rfl ?_ | refine DK.sn rfl ?_ | refine AWP.seq ?_ | refine AWP.region ?_ | refine AWP.dk mixed ?_ | refine AWP.condT rfl ?_ | refine AWP.condF rfl ?_ | refine AWP.skip ?_ | refine AWP.ret ?_ | refine AWP.exit ?_ | refine AWP.block ?_ )
    refine fin_pure (.inr rfl) rfl (.tup _ (allPure_cons (.sc _) (allPure_cons (.sc _) allPure_nil))) ?_
    rw [hkl, List.take_of_length_le (Nat.le_refl _)] at hf
    have : failsS l i = (1100, 0) := by unfold failsS; rw [hf]
    rw [this]

theorem pure_ci (l : List C) (i : Int) : ∀ a ∈ [crV l, .sc (.int .i64 i)], Pure a := allPure_cons (pure_cr l) (allPure_cons (.sc _) allPure_nil)

theorem alive_ok (l : List C) (i r : Int) (hl : l.length ≤ 4000000) (hr : r < 1100) : CallOK Try.prog 48 [crV l, .sc (.int .i64 i), .sc (.int .i64 r)] [] (fun res _ => res = .sc (.bool (livesS l i r))) := by
  refine CallOK.of cF48 ?_ (by simp [F48])
  repeat (first | refine Reg.o rfl rfl ?_ | refine Reg.on rfl rfl ?_ | refine Reg.s rfl ?_ | refine Reg.sn rfl ?_ | refine Reg.nil ?_ | refine DK.o rfl rfl ?_ | refine DK.on rfl rfl ?_ | refine DK.s rfl ?_ | refine DK.sn rfl ?_ | refine AWP.seq ?_ | refine AWP.region ?_ | refine AWP.dk mixed ?_ | refine AWP.condT rfl ?_ | refine AWP.condF rfl ?_ | refine AWP.skip ?_ | refine AWP.ret ?_ | refine AWP.exit ?_ | refine AWP.block ?_ )
  refine Reg.c (Nat.le_refl _) rfl (CallOK.ofPure (PureRun.of (pure_ci l i) (.tup _ (allPure_cons (.sc _) (allPure_cons (.sc _) allPure_nil))) (fails_ok l i hl)) _ ?_)
  repeat (first | refine Reg.o rfl rfl ?_ | refine Reg.on rfl rfl ?_ | refine Reg.s rfl ?_ | refine Reg.sn rfl ?_ | refine Reg.nil ?_ | refine DK.o rfl rfl ?_ | refine DK.on rfl rfl ?_ | refine DK.s rfl ?_ | refine DK.sn rfl ?_ | refine AWP.seq ?_ | refine AWP.region ?_ | refine AWP.dk mixed ?_ | refine AWP.condT rfl ?_ | refine AWP.condF rfl ?_ | refine AWP.skip ?_ | refine AWP.ret ?_ | refine AWP.exit ?_ | refine AWP.block ?_ )
  refine fin_pure (.inr rfl) rfl (.sc _) ?_
  congr 2
  unfold failsS livesS
  cases findC l i with
  | none => simp; omega
  | some c => rfl

def reachB (l : List C) (i j : Nat) (r : Int) : Bool := match findC l i with
  | none => true
  | some c => if c.round = r then decide ((X51.place i j : Int) < c.sent) else decide (c.round > r)

theorem reach_ok (l : List C) (i j : Nat) (r : Int) (hl : l.length ≤ 4000000) (hr : r < 1100) (hi : i ≤ 1000) (hj : j ≤ 1000) : CallOK Try.prog 54 [crV l, .sc (.int .i64 i), .sc (.int .i64 j), .sc (.int .i64 r)] [] (fun res _ => res = .sc (.bool (reachB l i j r))) := by
  refine CallOK.of cF54 ?_ (by simp [F54])
  repeat (first | refine Reg.o rfl rfl ?_ | refine Reg.on rfl rfl ?_ | refine Reg.s rfl ?_ | refine Reg.sn rfl ?_ | refine Reg.nil ?_ | refine DK.o rfl rfl ?_ | refine DK.on rfl rfl ?_ | refine DK.s rfl ?_ | refine DK.sn rfl ?_ | refine AWP.seq ?_ | refine AWP.region ?_ | refine AWP.dk mixed ?_ | refine AWP.condT rfl ?_ | refine AWP.condF rfl ?_ | refine AWP.skip ?_ | refine AWP.ret ?_ | refine AWP.exit ?_ | refine AWP.block ?_ )
  refine Reg.c (Nat.le_refl _) rfl (CallOK.ofPure (PureRun.of (pure_ci l i) (.tup _ (allPure_cons (.sc _) (allPure_cons (.sc _) allPure_nil))) (fails_ok l i hl)) _ ?_)
  repeat (first | refine Reg.o rfl rfl ?_ | refine Reg.on rfl rfl ?_ | refine Reg.s rfl ?_ | refine Reg.sn rfl ?_ | refine Reg.nil ?_ | refine DK.o rfl rfl ?_ | refine DK.on rfl rfl ?_ | refine DK.s rfl ?_ | refine DK.sn rfl ?_ | refine AWP.seq ?_ | refine AWP.region ?_ | refine AWP.dk mixed ?_ | refine AWP.condT rfl ?_ | refine AWP.condF rfl ?_ | refine AWP.skip ?_ | refine AWP.ret ?_ | refine AWP.exit ?_ | refine AWP.block ?_ )
  refine AWP.cond rfl (fun h1 => ?_) (fun h1 => ?_)
  · repeat (first | refine Reg.o rfl rfl ?_ | refine Reg.on rfl rfl ?_ | refine Reg.s rfl ?_ | refine Reg.sn rfl ?_ | refine Reg.nil ?_ | refine DK.o rfl rfl ?_ | refine DK.on rfl rfl ?_ | refine DK.s rfl ?_ | refine DK.sn rfl ?_ | refine AWP.seq ?_ | refine AWP.region ?_ | refine AWP.dk mixed ?_ | refine AWP.condT rfl ?_ | refine AWP.condF rfl ?_ | refine AWP.skip ?_ | refine AWP.ret ?_ | refine AWP.exit ?_ | refine AWP.block ?_ )
    refine fin_pure (.inr rfl) rfl (.sc _) ?_
    congr 2
    unfold failsS at h1 ⊢
    unfold reachB
    cases e : findC l i with
    | none => simp; omega
    | some c =>
      rw [e] at h1
      have h1' : ¬ c.round = r := by simpa using h1
      show decide (c.round > r) = (if c.round = r then _ else _)
      rw [if_neg h1']
  · repeat (first | refine Reg.o rfl rfl ?_ | refine Reg.on rfl rfl ?_ | refine Reg.s rfl ?_ | refine Reg.sn rfl ?_ | refine Reg.nil ?_ | refine DK.o rfl rfl ?_ | refine DK.on rfl rfl ?_ | refine DK.s rfl ?_ | refine DK.sn rfl ?_ | refine AWP.seq ?_ | refine AWP.region ?_ | refine AWP.dk mixed ?_ | refine AWP.condT rfl ?_ | refine AWP.condF rfl ?_ | refine AWP.skip ?_ | refine AWP.ret ?_ | refine AWP.exit ?_ | refine AWP.block ?_ )
    refine AWP.cond rfl (fun h2 => ?_) (fun h2 => ?_)
    · have hw : IntKind.i64.wrap ((j : Int) - 1) = ((j : Int) - 1) := wrap_small (by omega) (by omega)
      repeat (first | refine Reg.o rfl rfl ?_ | refine Reg.on rfl rfl ?_ | refine Reg.s rfl ?_ | refine Reg.sn rfl ?_ | refine Reg.nil ?_ | refine DK.o rfl rfl ?_ | refine DK.on rfl rfl ?_ | refine DK.s rfl ?_ | refine DK.sn rfl ?_ | refine AWP.seq ?_ | refine AWP.region ?_ | refine AWP.dk mixed ?_ | refine AWP.condT rfl ?_ | refine AWP.condF rfl ?_ | refine AWP.skip ?_ | refine AWP.ret ?_ | refine AWP.exit ?_ | refine AWP.block ?_ )
      refine fin_pure (.inr rfl) rfl (.sc _) ?_
      congr 2
      unfold failsS at h1 ⊢
      unfold reachB
      cases e : findC l i with
      | none => rw [e] at h1; simp at h1; omega
      | some c =>
        rw [e] at h1
        have h1' : c.round = r := by simpa using h1
        have h3 : ((X51.place i j : Nat) : Int) = (j : Int) - 1 := by
          have : (j : Int) > i := by simpa using h2
          unfold X51.place
          split <;> omega
        show decide (_ < c.sent) = (if c.round = r then _ else _)
        rw [if_pos h1', h3, hw]
    · repeat (first | refine Reg.o rfl rfl ?_ | refine Reg.on rfl rfl ?_ | refine Reg.s rfl ?_ | refine Reg.sn rfl ?_ | refine Reg.nil ?_ | refine DK.o rfl rfl ?_ | refine DK.on rfl rfl ?_ | refine DK.s rfl ?_ | refine DK.sn rfl ?_ | refine AWP.seq ?_ | refine AWP.region ?_ | refine AWP.dk mixed ?_ | refine AWP.condT rfl ?_ | refine AWP.condF rfl ?_ | refine AWP.skip ?_ | refine AWP.ret ?_ | refine AWP.exit ?_ | refine AWP.block ?_ )
      refine fin_pure (.inr rfl) rfl (.sc _) ?_
      congr 2
      unfold failsS at h1 ⊢
      unfold reachB
      cases e : findC l i with
      | none => rw [e] at h1; simp at h1; omega
      | some c =>
        rw [e] at h1
        have h1' : c.round = r := by simpa using h1
        have h3 : ((X51.place i j : Nat) : Int) = (j : Int) := by
          have : ¬ (j : Int) > i := by simpa using h2
          unfold X51.place
          split <;> omega
        show decide (_ < c.sent) = (if c.round = r then _ else _)
        rw [if_pos h1', h3]

end Go.Proofs.Ytbpmbofinoinmaa
