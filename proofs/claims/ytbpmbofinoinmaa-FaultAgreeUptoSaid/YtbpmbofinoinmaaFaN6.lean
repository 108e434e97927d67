import Derived.Test.YtbpmbofinoinmaaFaN5
namespace Go.Proofs.Ytbpmbofinoinmaa
open Go.Av Go.Proofs

/-! The document's News, walked. -/

theorem refnews_bad (n src : Int) (l : List C) (hl : l.length ≤ 4000000) (hb : checkS n l ≠ 0 ∨ (src < 0 ∨ src ≥ n)) : CallOK Try.prog 20 [.sc (.int .i64 n), .sc (.int .i64 src), crV l] [] (fun res _ => res = newsV (newsR n src l)) := by
  refine CallOK.of cF20 ?_ (by simp [F20])
  repeat (first | refine Reg.o rfl rfl ?_ | refine Reg.on rfl rfl ?_ | refine Reg.s rfl ?_ | refine Reg.sn rfl ?_ | refine Reg.nil ?_ | refine DK.o rfl rfl ?_ | refine DK.on rfl rfl ?_ | refine DK.s rfl ?_ | refine DK.sn rfl ?_ | refine AWP.seq ?_ | refine AWP.region ?_ | refine AWP.dk mixed ?_ | refine AWP.condT rfl ?_ | refine AWP.condF rfl ?_ | refine AWP.skip ?_ | refine AWP.ret ?_ | refine AWP.exit ?_ | refine AWP.block ?_ )
  refine Reg.c (Nat.le_refl _) rfl (CallOK.ofPure (PureRun.of (allPure_cons (.sc _) (allPure_cons (pure_cr l) allPure_nil)) (.sc _) (refcheck_ok n l hl)) _ ?_)
  repeat (first | refine Reg.o rfl rfl ?_ | refine Reg.on rfl rfl ?_ | refine Reg.s rfl ?_ | refine Reg.sn rfl ?_ | refine Reg.nil ?_ | refine DK.o rfl rfl ?_ | refine DK.on rfl rfl ?_ | refine DK.s rfl ?_ | refine DK.sn rfl ?_ | refine AWP.seq ?_ | refine AWP.region ?_ | refine AWP.dk mixed ?_ | refine AWP.condT rfl ?_ | refine AWP.condF rfl ?_ | refine AWP.skip ?_ | refine AWP.ret ?_ | refine AWP.exit ?_ | refine AWP.block ?_ )
  refine AWP.cond rfl (fun hc => ?_) (fun hc => ?_)
  · have hc' : checkS n l ≠ 0 := by simpa using hc
    repeat (first | refine Reg.o rfl rfl ?_ | refine Reg.on rfl rfl ?_ | refine Reg.s rfl ?_ | refine Reg.sn rfl ?_ | refine Reg.nil ?_ | refine DK.o rfl rfl ?_ | refine DK.on rfl rfl ?_ | refine DK.s rfl ?_ | refine DK.sn rfl ?_ | refine AWP.seq ?_ | refine AWP.region ?_ | refine AWP.dk mixed ?_ | refine AWP.condT rfl ?_ | refine AWP.condF rfl ?_ | refine AWP.skip ?_ | refine AWP.ret ?_ | refine AWP.exit ?_ | refine AWP.block ?_ )
    refine fin_nil3 (.inr rfl) rfl 1 (.tup _ (allPure_cons (.list _ _ (fun r hr => by cases hr)) (allPure_cons (.sc _) (allPure_cons (.sc _) allPure_nil)))) ?_
    unfold newsR
    rw [if_neg hc']
    rfl
  · have hc' : checkS n l = 0 := by simpa using hc
    have hb' : src < 0 ∨ src ≥ n := hb.resolve_left fun h => h hc'
    have e : newsR n src l = ([], 0, 11) := by unfold newsR; rw [if_pos hc', if_pos hb']
    repeat (first | refine Reg.o rfl rfl ?_ | refine Reg.on rfl rfl ?_ | refine Reg.s rfl ?_ | refine Reg.sn rfl ?_ | refine Reg.nil ?_ | refine DK.o rfl rfl ?_ | refine DK.on rfl rfl ?_ | refine DK.s rfl ?_ | refine DK.sn rfl ?_ | refine AWP.seq ?_ | refine AWP.region ?_ | refine AWP.dk mixed ?_ | refine AWP.condT rfl ?_ | refine AWP.condF rfl ?_ | refine AWP.skip ?_ | refine AWP.ret ?_ | refine AWP.exit ?_ | refine AWP.block ?_ )
    refine Reg.gs rfl (fun h1 => ?_) (fun h1 => ?_)
    · repeat (first | refine Reg.o rfl rfl ?_ | refine Reg.on rfl rfl ?_ | refine Reg.s rfl ?_ | refine Reg.sn rfl ?_ | refine Reg.nil ?_ | refine DK.o rfl rfl ?_ | refine DK.on rfl rfl ?_ | refine DK.s rfl ?_ | refine DK.sn rfl ?_ | refine AWP.seq ?_ | refine AWP.region ?_ | refine AWP.dk mixed ?_ | refine AWP.condT rfl ?_ | refine AWP.condF rfl ?_ | refine AWP.skip ?_ | refine AWP.ret ?_ | refine AWP.exit ?_ | refine AWP.block ?_ )
      refine fin_nil3 (.inr rfl) rfl 1 (.tup _ (allPure_cons (.list _ _ (fun r hr => by cases hr)) (allPure_cons (.sc _) (allPure_cons (.sc _) allPure_nil)))) ?_
      rw [e]
      rfl
    · repeat (first | refine Reg.o rfl rfl ?_ | refine Reg.on rfl rfl ?_ | refine Reg.s rfl ?_ | refine Reg.sn rfl ?_ | refine Reg.nil ?_ | refine DK.o rfl rfl ?_ | refine DK.on rfl rfl ?_ | refine DK.s rfl ?_ | refine DK.sn rfl ?_ | refine AWP.seq ?_ | refine AWP.region ?_ | refine AWP.dk mixed ?_ | refine AWP.condT rfl ?_ | refine AWP.condF rfl ?_ | refine AWP.skip ?_ | refine AWP.ret ?_ | refine AWP.exit ?_ | refine AWP.block ?_ )
      refine AWP.cond rfl (fun h2 => ?_) (fun h2 => ?_)
      · repeat (first | refine Reg.o rfl rfl ?_ | refine Reg.on rfl rfl ?_ | refine Reg.s rfl ?_ | refine Reg.sn rfl ?_ | refine Reg.nil ?_ | refine DK.o rfl rfl ?_ | refine DK.on rfl rfl ?_ | refine DK.s rfl ?_ | refine DK.sn rfl ?_ | refine AWP.seq ?_ | refine AWP.region ?_ | refine AWP.dk mixed ?_ | refine AWP.condT rfl ?_ | refine AWP.condF rfl ?_ | refine AWP.skip ?_ | refine AWP.ret ?_ | refine AWP.exit ?_ | refine AWP.block ?_ )
        refine fin_nil3 (.inr rfl) rfl 1 (.tup _ (allPure_cons (.list _ _ (fun r hr => by cases hr)) (allPure_cons (.sc _) (allPure_cons (.sc _) allPure_nil)))) ?_
        rw [e]
        rfl
      · exfalso
        simp at h1 h2
        omega

theorem wrapN {k : Nat} (h : k ≤ 1000000000) : IntKind.i64.wrap ((k : Int) + 1) = ((k + 1 : Nat) : Int) := by rw [wrap_small (by omega) (by omega)]; omega
theorem Ren.hslL {ρ : Nat → Nat → Option (Nat × Nat)} {g i g' i' s len len' : Nat} (e : len = len') (h : ρ g' i' = some (g, i)) : Ren ρ (.hsl g i s len) (.hsl g' i' s len') := by
  subst e
  exact .hsl _ _ _ _ _ _ h
theorem rh_eq {l : List C} {r : Int} {out : List Int} {k j : Nat} (h : rSend l r out k = true) : rHear l r out k j = (decide (j ≠ k) && (decide ((out[j]?).getD 0 < 0) && (livesS l j r && reachB l k j r))) := by
  unfold rHear
  rw [h, Bool.true_and]

def nextJ (l : List C) (r : Int) (out : List Int) (i j : Nat) : List Int := nextL r out fun q => rNext l r out i q || (decide (q < j) && rHear l r out i q)
theorem nextJ_len (l : List C) (r : Int) (out : List Int) (i j : Nat) : (nextJ l r out i j).length = out.length := nextL_len _ _ _
theorem nextJ_zero (l : List C) (r : Int) (out : List Int) (i : Nat) : nextJ l r out i 0 = nextL r out (rNext l r out i) := nextL_congr fun j _ => by simp
theorem nextJ_end (l : List C) (r : Int) (out : List Int) (i : Nat) : nextJ l r out i out.length = nextL r out (rNext l r out (i + 1)) := nextL_congr fun j hj => by rw [rNext_succ]; simp [hj]
theorem nextJ_false {l : List C} {r : Int} {out : List Int} {i j : Nat} (h : rHear l r out i j = false) : nextJ l r out i (j + 1) = nextJ l r out i j := nextL_congr fun q _ => by
  by_cases e : q = j
  · subst e; simp [h]
  · have : (q < j + 1) ↔ (q < j) := by omega
    simp only [this]
theorem nextJ_true {l : List C} {r : Int} {out : List Int} {i j : Nat} (h : rHear l r out i j = true) : (nextJ l r out i j).set j r = nextJ l r out i (j + 1) := by
  unfold nextJ
  rw [nextL_set]
  refine nextL_congr fun q _ => ?_
  by_cases e : q = j
  · subst e; simp [h]
  · have : (q < j + 1) ↔ (q < j) := by omega
    simp [e, this]
theorem next_same {l : List C} {r : Int} {out : List Int} {i : Nat} (h : rSend l r out i = false) : nextL r out (rNext l r out (i + 1)) = nextL r out (rNext l r out i) := nextL_congr fun j _ => by rw [rNext_succ]; simp [rHear, h]
theorem any_same {l : List C} {r : Int} {out : List Int} {i : Nat} (h : rSend l r out i = false) : rAny l r out (i + 1) = rAny l r out i := by rw [rAny_succ, h, Bool.or_false]

set_option maxHeartbeats 2000000 in
theorem refnews_good (n src : Nat) (l : List C) (hl : l.length ≤ 4000000) (hc : checkS n l = 0) (hs : src < n) : CallOK Try.prog 20 [.sc (.int .i64 n), .sc (.int .i64 src), crV l] [] (fun res _ => res = newsV (newsR n src l)) := by
  obtain ⟨⟨hn1, hn⟩, hg, hd⟩ := check_zero hc
  have hn1 : 1 ≤ n := by omega
  have hn : n ≤ 64 := by omega
  refine CallOK.of cF20 ?_ (by simp [F20])
  repeat (first | refine Reg.o rfl rfl ?_ | refine Reg.on rfl rfl ?_ | refine Reg.s rfl ?_ | refine Reg.sn rfl ?_ | refine Reg.nil ?_ | refine DK.o rfl rfl ?_ | refine DK.on rfl rfl ?_ | refine DK.s rfl ?_ | refine DK.sn rfl ?_ | refine AWP.seq ?_ | refine AWP.region ?_ | refine AWP.dk mixed ?_ | refine AWP.condT rfl ?_ | refine AWP.condF rfl ?_ | refine AWP.skip ?_ | refine AWP.ret ?_ | refine AWP.exit ?_ | refine AWP.block ?_ )
  refine Reg.c (Nat.le_refl _) rfl (CallOK.ofPure (PureRun.of (allPure_cons (.sc _) (allPure_cons (pure_cr l) allPure_nil)) (.sc _) (refcheck_ok n l hl)) _ ?_)
  rw [hc]
  repeat (first | refine Reg.o rfl rfl ?_ | refine Reg.on rfl rfl ?_ | refine Reg.s rfl ?_ | refine Reg.sn rfl ?_ | refine Reg.nil ?_ | refine DK.o rfl rfl ?_ | refine DK.on rfl rfl ?_ | refine DK.s rfl ?_ | refine DK.sn rfl ?_ | refine AWP.seq ?_ | refine AWP.region ?_ | refine AWP.dk mixed ?_ | refine AWP.condT rfl ?_ | refine AWP.condF rfl ?_ | refine AWP.skip ?_ | refine AWP.ret ?_ | refine AWP.exit ?_ | refine AWP.block ?_ )
  refine AWP.cond rfl (fun h2 => ?_) (fun h2 => ?_)
  · simp at h2
    omega
  repeat (first | refine Reg.o rfl rfl ?_ | refine Reg.on rfl rfl ?_ | refine Reg.s rfl ?_ | refine Reg.sn rfl ?_ | refine Reg.nil ?_ | refine DK.o rfl rfl ?_ | refine DK.on rfl rfl ?_ | refine DK.s rfl ?_ | refine DK.sn rfl ?_ | refine AWP.seq ?_ | refine AWP.region ?_ | refine AWP.dk mixed ?_ | refine AWP.condT rfl ?_ | refine AWP.condF rfl ?_ | refine AWP.skip ?_ | refine AWP.ret ?_ | refine AWP.exit ?_ | refine AWP.block ?_ )
  refine Reg.o rfl (dstep_mk (n := n) rfl (by omega) (by omega)) ?_
  repeat (first | refine Reg.o rfl rfl ?_ | refine Reg.on rfl rfl ?_ | refine Reg.s rfl ?_ | refine Reg.sn rfl ?_ | refine Reg.nil ?_ | refine DK.o rfl rfl ?_ | refine DK.on rfl rfl ?_ | refine DK.s rfl ?_ | refine DK.sn rfl ?_ | refine AWP.seq ?_ | refine AWP.region ?_ | refine AWP.dk mixed ?_ | refine AWP.condT rfl ?_ | refine AWP.condF rfl ?_ | refine AWP.skip ?_ | refine AWP.ret ?_ | refine AWP.exit ?_ | refine AWP.block ?_ )
  refine AWP.loop (fun k : Nat => [(0, .sc (.int .i64 n)), (1, .sc (.int .i64 src)), (2, crV l), (10, .hsl 0 0 0 n), (11, .sc (.int .i64 k))]) (fun k => [[newsB (initL n k)]]) (fun k => k ≤ n) (fun k => n - k) 0 (Nat.zero_le _) ?_ ?_
  · exact Sub.re [[(0, 0)]] rfl rfl rfl ⟨⟨⟨_, rfl, RenB.rows (rows := List.replicate n [.sc (.int .i64 0)]) (by rw [intsR_rep]; rfl) (pure_intsR _)⟩, trivial⟩, trivial⟩ ⟨.int rfl, .int rfl, .pure (pure_cr l), .hsl _ _ _ _ _ _ rfl, .int rfl, trivial⟩
  · intro k hk
    have hk1 := wrapN (k := k) (by omega)
    have hlenk := initL_len n k hk
    repeat (first | refine Reg.o rfl rfl ?_ | refine Reg.on rfl rfl ?_ | refine Reg.s rfl ?_ | refine Reg.sn rfl ?_ | refine Reg.nil ?_ | refine DK.o rfl rfl ?_ | refine DK.on rfl rfl ?_ | refine DK.s rfl ?_ | refine DK.sn rfl ?_ | refine AWP.seq ?_ | refine AWP.region ?_ | refine AWP.dk mixed ?_ | refine AWP.condT rfl ?_ | refine AWP.condF rfl ?_ | refine AWP.skip ?_ | refine AWP.ret ?_ | refine AWP.exit ?_ | refine AWP.block ?_ )
    refine AWP.cond rfl (fun h => ?_) (fun h => ?_)
    · have hlt : k < n := by simpa using h
      repeat (first | refine Reg.o rfl rfl ?_ | refine Reg.on rfl rfl ?_ | refine Reg.s rfl ?_ | refine Reg.sn rfl ?_ | refine Reg.nil ?_ | refine DK.o rfl rfl ?_ | refine DK.on rfl rfl ?_ | refine DK.s rfl ?_ | refine DK.sn rfl ?_ | refine AWP.seq ?_ | refine AWP.region ?_ | refine AWP.dk mixed ?_ | refine AWP.condT rfl ?_ | refine AWP.condF rfl ?_ | refine AWP.skip ?_ | refine AWP.ret ?_ | refine AWP.exit ?_ | refine AWP.block ?_ )
      refine Reg.o rfl (dstep_idxH (q := k) rfl rfl rfl hlt (by simp [intsR, hlenk])) ?_
      refine Reg.on rfl (dstep_stN rfl rfl rfl (by rw [Nat.zero_add]; exact intsR_get (by omega)) rfl (Nat.le_refl _) rfl) ?_
      repeat (first | refine Reg.o rfl rfl ?_ | refine Reg.on rfl rfl ?_ | refine Reg.s rfl ?_ | refine Reg.sn rfl ?_ | refine Reg.nil ?_ | refine DK.o rfl rfl ?_ | refine DK.on rfl rfl ?_ | refine DK.s rfl ?_ | refine DK.sn rfl ?_ | refine AWP.seq ?_ | refine AWP.region ?_ | refine AWP.dk mixed ?_ | refine AWP.condT rfl ?_ | refine AWP.condF rfl ?_ | refine AWP.skip ?_ | refine AWP.ret ?_ | refine AWP.exit ?_ | refine AWP.block ?_ )
      refine ⟨k + 1, by omega, by omega, Sub.re [[(0, 0)]] rfl rfl rfl ⟨⟨⟨_, rfl, RenB.rows (rows := (intsR (initL n k)).set (0 + k) [.sc (.int .i64 (-1))]) ?_ (pure_intsR _)⟩, trivial⟩, trivial⟩ ⟨.int rfl, .int rfl, .pure (pure_cr l), .hsl _ _ _ _ _ _ rfl, .int hk1, trivial⟩⟩
      rw [Nat.zero_add, intsR_set, initL_set n k hlt]
    have hkn : k = n := by
      have : ¬ k < n := by simpa using h
      omega
    subst hkn
    repeat (first | refine Reg.o rfl rfl ?_ | refine Reg.on rfl rfl ?_ | refine Reg.s rfl ?_ | refine Reg.sn rfl ?_ | refine Reg.nil ?_ | refine DK.o rfl rfl ?_ | refine DK.on rfl rfl ?_ | refine DK.s rfl ?_ | refine DK.sn rfl ?_ | refine AWP.seq ?_ | refine AWP.region ?_ | refine AWP.dk mixed ?_ | refine AWP.condT rfl ?_ | refine AWP.condF rfl ?_ | refine AWP.skip ?_ | refine AWP.ret ?_ | refine AWP.exit ?_ | refine AWP.block ?_ )
    refine Reg.o rfl (dstep_idxH (q := src) rfl rfl rfl hs (by simp [intsR, hlenk])) ?_
    refine Reg.on rfl (dstep_stN rfl rfl rfl (by rw [Nat.zero_add]; exact intsR_get (by omega)) rfl (Nat.le_refl _) rfl) ?_
    repeat (first | refine Reg.o rfl rfl ?_ | refine Reg.on rfl rfl ?_ | refine Reg.s rfl ?_ | refine Reg.sn rfl ?_ | refine Reg.nil ?_ | refine DK.o rfl rfl ?_ | refine DK.on rfl rfl ?_ | refine DK.s rfl ?_ | refine DK.sn rfl ?_ | refine AWP.seq ?_ | refine AWP.region ?_ | refine AWP.dk mixed ?_ | refine AWP.condT rfl ?_ | refine AWP.condF rfl ?_ | refine AWP.skip ?_ | refine AWP.ret ?_ | refine AWP.exit ?_ | refine AWP.block ?_ )
    refine AWP.loop (σ := Nat × Nat × List Int × Int) (fun s => [(0, .sc (.int .i64 k)), (2, crV l), (10, .hsl 0 0 0 k), (12, .sc (.int .i64 s.2.2.2)), (13, .sc (.int .i64 s.2.1))]) (fun s => [[newsB s.2.2.1]])
      (fun s => s.2.2.1.length = k ∧ 1 ≤ s.2.1 ∧ s.2.1 + s.1 = k + 2 ∧ refGo l (k + 1) 1 (news0 k src) 0 = refGo l s.1 s.2.1 s.2.2.1 s.2.2.2) (fun s => s.1) (k + 1, 1, news0 k src, 0) ?_ ?_ ?_
    · exact ⟨by simp [news0], by simp, by simp only; omega, rfl⟩
    · refine Sub.re [[(0, 0)]] rfl rfl rfl ⟨⟨⟨_, rfl, RenB.rows (rows := (intsR (initL k k)).set (0 + src) [.sc (.int .i64 0)]) ?_ (pure_intsR _)⟩, trivial⟩, trivial⟩ ⟨.int rfl, .pure (pure_cr l), .hsl _ _ _ _ _ _ rfl, .int rfl, .int rfl, trivial⟩
      rw [Nat.zero_add, intsR_set]
      simp [initL, news0]
    rintro ⟨f, r, out, rd⟩ ⟨hlen, hr1, hrf, hgo⟩
    simp only at hlen hr1 hrf hgo
    have hw : IntKind.i64.wrap ((r : Int) - 1) = (r : Int) - 1 := wrap_small (by omega) (by omega)
    have hw1 : IntKind.i64.wrap ((k : Int) + 1) = (k : Int) + 1 := wrap_small (by omega) (by omega)
    have hr2 := wrapN (k := r) (by omega)
    repeat (first | refine Reg.o rfl rfl ?_ | refine Reg.on rfl rfl ?_ | refine Reg.s rfl ?_ | refine Reg.sn rfl ?_ | refine Reg.nil ?_ | refine DK.o rfl rfl ?_ | refine DK.on rfl rfl ?_ | refine DK.s rfl ?_ | refine DK.sn rfl ?_ | refine AWP.seq ?_ | refine AWP.region ?_ | refine AWP.dk mixed ?_ | refine AWP.condT rfl ?_ | refine AWP.condF rfl ?_ | refine AWP.skip ?_ | refine AWP.ret ?_ | refine AWP.exit ?_ | refine AWP.block ?_ )
    refine AWP.cond rfl (fun h => ?_) (fun h => ?_)
    · have hlt : r ≤ k + 1 := by
        have : (r : Int) ≤ IntKind.i64.wrap ((k : Int) + 1) := of_decide_eq_true h
        rw [hw1] at this
        omega
      obtain ⟨f', rfl⟩ : ∃ f', f = f' + 1 := ⟨f - 1, by omega⟩
      repeat (first | refine Reg.o rfl rfl ?_ | refine Reg.on rfl rfl ?_ | refine Reg.s rfl ?_ | refine Reg.sn rfl ?_ | refine Reg.nil ?_ | refine DK.o rfl rfl ?_ | refine DK.on rfl rfl ?_ | refine DK.s rfl ?_ | refine DK.sn rfl ?_ | refine AWP.seq ?_ | refine AWP.region ?_ | refine AWP.dk mixed ?_ | refine AWP.condT rfl ?_ | refine AWP.condF rfl ?_ | refine AWP.skip ?_ | refine AWP.ret ?_ | refine AWP.exit ?_ | refine AWP.block ?_ )
      have hro : rowsX 1 [[newsB out], [.cells 1 []]] (.hsl 0 0 0 k) = some (1, intsR out) := by
        have e1 : ((intsR out).drop 0).take k = intsR out := by rw [List.drop_zero, List.take_of_length_le (by simp [intsR, hlen])]
        have e2 : Nat.ble (0 + k) (intsR out).length = true := by simp [intsR, hlen]
        show (match Nat.ble (0 + k) (intsR out).length with | true => some (1, ((intsR out).drop 0).take k) | false => none) = _
        rw [e2, e1]
      refine Reg.o rfl (dstep_app (rows1 := []) (rows2 := intsR out) rfl hro rfl rfl (by simp [intsR]; omega) rfl) ?_
      repeat (first | refine Reg.o rfl rfl ?_ | refine Reg.on rfl rfl ?_ | refine Reg.s rfl ?_ | refine Reg.sn rfl ?_ | refine Reg.nil ?_ | refine DK.o rfl rfl ?_ | refine DK.on rfl rfl ?_ | refine DK.s rfl ?_ | refine DK.sn rfl ?_ | refine AWP.seq ?_ | refine AWP.region ?_ | refine AWP.dk mixed ?_ | refine AWP.condT rfl ?_ | refine AWP.condF rfl ?_ | refine AWP.skip ?_ | refine AWP.ret ?_ | refine AWP.exit ?_ | refine AWP.block ?_ )
      refine AWP.loop (fun i : Nat => [(0, .sc (.int .i64 k)), (2, crV l), (10, .hsl 0 0 0 k), (12, .sc (.int .i64 (if rAny l r out i = true then (r : Int) else rd))), (13, .sc (.int .i64 r)), (14, .hsl 1 0 0 k), (15, .sc (.int .i64 i))])
        (fun i => [[newsB out], [newsB (nextL r out (rNext l r out i))]]) (fun i => i ≤ k) (fun i => k - i) 0 (Nat.zero_le _) ?_ ?_
      · refine Sub.re [[(0, 0)], [(2, 0)]] rfl rfl rfl ⟨⟨⟨_, rfl, RenB.rows (rows := intsR out) rfl (pure_intsR _)⟩, trivial⟩, ⟨⟨_, rfl, RenB.rows (rows := [] ++ intsR out) ?_ (pure_intsR _)⟩, trivial⟩, trivial⟩ ⟨.int rfl, .pure (pure_cr l), .hsl _ _ _ _ _ _ rfl, .int ?_, .int rfl, Ren.hslL ?_ rfl, .int rfl, trivial⟩
        · rw [List.nil_append]
          show intsR out = intsR (nextL r out fun _ => false)
          rw [nextL_none]
        · rfl
        · simp [intsR, hlen]
      intro i hi
      have hi1 := wrapN (k := i) (by omega)
      repeat (first | refine Reg.o rfl rfl ?_ | refine Reg.on rfl rfl ?_ | refine Reg.s rfl ?_ | refine Reg.sn rfl ?_ | refine Reg.nil ?_ | refine DK.o rfl rfl ?_ | refine DK.on rfl rfl ?_ | refine DK.s rfl ?_ | refine DK.sn rfl ?_ | refine AWP.seq ?_ | refine AWP.region ?_ | refine AWP.dk mixed ?_ | refine AWP.condT rfl ?_ | refine AWP.condF rfl ?_ | refine AWP.skip ?_ | refine AWP.ret ?_ | refine AWP.exit ?_ | refine AWP.block ?_ )
      refine AWP.cond rfl (fun h => ?_) (fun h => ?_)
      · have hik : i < k := by simpa using h
        have hio : i < out.length := by omega
        repeat (first | refine Reg.o rfl rfl ?_ | refine Reg.on rfl rfl ?_ | refine Reg.s rfl ?_ | refine Reg.sn rfl ?_ | refine Reg.nil ?_ | refine DK.o rfl rfl ?_ | refine DK.on rfl rfl ?_ | refine DK.s rfl ?_ | refine DK.sn rfl ?_ | refine AWP.seq ?_ | refine AWP.region ?_ | refine AWP.dk mixed ?_ | refine AWP.condT rfl ?_ | refine AWP.condF rfl ?_ | refine AWP.skip ?_ | refine AWP.ret ?_ | refine AWP.exit ?_ | refine AWP.block ?_ )
        refine Reg.o rfl (dstep_idxH (q := i) rfl rfl rfl hik (by simp [intsR, hlen])) ?_
        refine Reg.o rfl (dstep_ld1 rfl rfl (by rw [Nat.zero_add]; exact intsR_get hio) rfl) ?_
        repeat (first | refine Reg.o rfl rfl ?_ | refine Reg.on rfl rfl ?_ | refine Reg.s rfl ?_ | refine Reg.sn rfl ?_ | refine Reg.nil ?_ | refine DK.o rfl rfl ?_ | refine DK.on rfl rfl ?_ | refine DK.s rfl ?_ | refine DK.sn rfl ?_ | refine AWP.seq ?_ | refine AWP.region ?_ | refine AWP.dk mixed ?_ | refine AWP.condT rfl ?_ | refine AWP.condF rfl ?_ | refine AWP.skip ?_ | refine AWP.ret ?_ | refine AWP.exit ?_ | refine AWP.block ?_ )
        have hget : (out[i]?).getD 0 = out[i] := by rw [List.getElem?_eq_getElem hio]; rfl
        refine Reg.gs rfl (fun hq => ?_) (fun hq => ?_)
        · have hs0 : rSend l r out i = false := by
            rw [hw] at hq
            unfold rSend
            rw [hget]
            have : ¬ out[i] = (r : Int) - 1 := by simpa using hq
            simp [this]
          repeat (first | refine Reg.o rfl rfl ?_ | refine Reg.on rfl rfl ?_ | refine Reg.s rfl ?_ | refine Reg.sn rfl ?_ | refine Reg.nil ?_ | refine DK.o rfl rfl ?_ | refine DK.on rfl rfl ?_ | refine DK.s rfl ?_ | refine DK.sn rfl ?_ | refine AWP.seq ?_ | refine AWP.region ?_ | refine AWP.dk mixed ?_ | refine AWP.condT rfl ?_ | refine AWP.condF rfl ?_ | refine AWP.skip ?_ | refine AWP.ret ?_ | refine AWP.exit ?_ | refine AWP.block ?_ )
          refine ⟨i + 1, by omega, by omega, Sub.re [[(0, 0)], [(1, 0)]] rfl rfl rfl ⟨⟨⟨_, rfl, RenB.rows (rows := intsR out) rfl (pure_intsR _)⟩, trivial⟩, ⟨⟨_, rfl, RenB.rows (rows := intsR (nextL r out (rNext l r out i))) (by rw [next_same hs0]) (pure_intsR _)⟩, trivial⟩, trivial⟩ ⟨.int rfl, .pure (pure_cr l), .hsl _ _ _ _ _ _ rfl, .int (by rw [any_same hs0]), .int rfl, .hsl _ _ _ _ _ _ rfl, .int hi1, trivial⟩⟩
        · have heq : (out[i]?).getD 0 = (r : Int) - 1 := by
            rw [hw] at hq
            rw [hget]
            simpa using hq
          repeat (first | refine Reg.o rfl rfl ?_ | refine Reg.on rfl rfl ?_ | refine Reg.s rfl ?_ | refine Reg.sn rfl ?_ | refine Reg.nil ?_ | refine DK.o rfl rfl ?_ | refine DK.on rfl rfl ?_ | refine DK.s rfl ?_ | refine DK.sn rfl ?_ | refine AWP.seq ?_ | refine AWP.region ?_ | refine AWP.dk mixed ?_ | refine AWP.condT rfl ?_ | refine AWP.condF rfl ?_ | refine AWP.skip ?_ | refine AWP.ret ?_ | refine AWP.exit ?_ | refine AWP.block ?_ )
          refine Reg.c (Nat.zero_le _) rfl (CallOK.ofPure (PureRun.of (allPure_cons (pure_cr l) (allPure_cons (.sc _) (allPure_cons (.sc _) allPure_nil))) (.sc _) (alive_ok l i (IntKind.i64.wrap (r - 1)) hl (by rw [hw]; omega))) _ ?_)
          repeat (first | refine Reg.o rfl rfl ?_ | refine Reg.on rfl rfl ?_ | refine Reg.s rfl ?_ | refine Reg.sn rfl ?_ | refine Reg.nil ?_ | refine DK.o rfl rfl ?_ | refine DK.on rfl rfl ?_ | refine DK.s rfl ?_ | refine DK.sn rfl ?_ | refine AWP.seq ?_ | refine AWP.region ?_ | refine AWP.dk mixed ?_ | refine AWP.condT rfl ?_ | refine AWP.condF rfl ?_ | refine AWP.skip ?_ | refine AWP.ret ?_ | refine AWP.exit ?_ | refine AWP.block ?_ )
          refine AWP.cond rfl (fun hA => ?_) (fun hA => ?_)
          · have hs0 : rSend l r out i = false := by
              rw [hw] at hA
              unfold rSend
              simp at hA
              rw [hA, Bool.and_false]
            repeat (first | refine Reg.o rfl rfl ?_ | refine Reg.on rfl rfl ?_ | refine Reg.s rfl ?_ | refine Reg.sn rfl ?_ | refine Reg.nil ?_ | refine DK.o rfl rfl ?_ | refine DK.on rfl rfl ?_ | refine DK.s rfl ?_ | refine DK.sn rfl ?_ | refine AWP.seq ?_ | refine AWP.region ?_ | refine AWP.dk mixed ?_ | refine AWP.condT rfl ?_ | refine AWP.condF rfl ?_ | refine AWP.skip ?_ | refine AWP.ret ?_ | refine AWP.exit ?_ | refine AWP.block ?_ )
            refine ⟨i + 1, by omega, by omega, Sub.re [[(0, 0)], [(1, 0)]] rfl rfl rfl ⟨⟨⟨_, rfl, RenB.rows (rows := intsR out) rfl (pure_intsR _)⟩, trivial⟩, ⟨⟨_, rfl, RenB.rows (rows := intsR (nextL r out (rNext l r out i))) (by rw [next_same hs0]) (pure_intsR _)⟩, trivial⟩, trivial⟩ ⟨.int rfl, .pure (pure_cr l), .hsl _ _ _ _ _ _ rfl, .int (by rw [any_same hs0]), .int rfl, .hsl _ _ _ _ _ _ rfl, .int hi1, trivial⟩⟩
          · have hs0 : rSend l r out i = true := by
              rw [hw] at hA
              unfold rSend
              simp at hA
              rw [hA, heq]
              simp
            repeat (first | refine Reg.o rfl rfl ?_ | refine Reg.on rfl rfl ?_ | refine Reg.s rfl ?_ | refine Reg.sn rfl ?_ | refine Reg.nil ?_ | refine DK.o rfl rfl ?_ | refine DK.on rfl rfl ?_ | refine DK.s rfl ?_ | refine DK.sn rfl ?_ | refine AWP.seq ?_ | refine AWP.region ?_ | refine AWP.dk mixed ?_ | refine AWP.condT rfl ?_ | refine AWP.condF rfl ?_ | refine AWP.skip ?_ | refine AWP.ret ?_ | refine AWP.exit ?_ | refine AWP.block ?_ )
            refine AWP.loop (fun j : Nat => [(0, .sc (.int .i64 k)), (2, crV l), (10, .hsl 0 0 0 k), (12, .sc (.int .i64 r)), (13, .sc (.int .i64 r)), (14, .hsl 1 0 0 k), (15, .sc (.int .i64 i)), (16, .sc (.int .i64 j))])
              (fun j => [[newsB out], [newsB (nextJ l r out i j)]]) (fun j => j ≤ k) (fun j => k - j) 0 (Nat.zero_le _) ?_ ?_
            · exact Sub.re [[(0, 0)], [(1, 0)]] rfl rfl rfl ⟨⟨⟨_, rfl, RenB.rows (rows := intsR out) rfl (pure_intsR _)⟩, trivial⟩, ⟨⟨_, rfl, RenB.rows (rows := intsR (nextL r out (rNext l r out i))) (by rw [nextJ_zero]) (pure_intsR _)⟩, trivial⟩, trivial⟩ ⟨.int rfl, .pure (pure_cr l), .hsl _ _ _ _ _ _ rfl, .int rfl, .int rfl, .hsl _ _ _ _ _ _ rfl, .int rfl, .int rfl, trivial⟩
            intro j hj
            have hj1 := wrapN (k := j) (by omega)
            repeat (first | refine Reg.o rfl rfl ?_ | refine Reg.on rfl rfl ?_ | refine Reg.s rfl ?_ | refine Reg.sn rfl ?_ | refine Reg.nil ?_ | refine DK.o rfl rfl ?_ | refine DK.on rfl rfl ?_ | refine DK.s rfl ?_ | refine DK.sn rfl ?_ | refine AWP.seq ?_ | refine AWP.region ?_ | refine AWP.dk mixed ?_ | refine AWP.condT rfl ?_ | refine AWP.condF rfl ?_ | refine AWP.skip ?_ | refine AWP.ret ?_ | refine AWP.exit ?_ | refine AWP.block ?_ )
            refine AWP.cond rfl (fun hjk => ?_) (fun hjk => ?_)
            · have hjk : j < k := by simpa using hjk
              have hjo : j < out.length := by omega
              have hgj : (out[j]?).getD 0 = out[j] := by rw [List.getElem?_eq_getElem hjo]; rfl
              have hR := rh_eq (j := j) hs0
              rw [hgj] at hR
              repeat (first | refine Reg.o rfl rfl ?_ | refine Reg.on rfl rfl ?_ | refine Reg.s rfl ?_ | refine Reg.sn rfl ?_ | refine Reg.nil ?_ | refine DK.o rfl rfl ?_ | refine DK.on rfl rfl ?_ | refine DK.s rfl ?_ | refine DK.sn rfl ?_ | refine AWP.seq ?_ | refine AWP.region ?_ | refine AWP.dk mixed ?_ | refine AWP.condT rfl ?_ | refine AWP.condF rfl ?_ | refine AWP.skip ?_ | refine AWP.ret ?_ | refine AWP.exit ?_ | refine AWP.block ?_ )
              refine Reg.gs rfl (fun g1 => ?_) (fun g1 => ?_)
              · have g1' : ¬ j = i := by simp at g1; omega
                repeat (first | refine Reg.o rfl rfl ?_ | refine Reg.on rfl rfl ?_ | refine Reg.s rfl ?_ | refine Reg.sn rfl ?_ | refine Reg.nil ?_ | refine DK.o rfl rfl ?_ | refine DK.on rfl rfl ?_ | refine DK.s rfl ?_ | refine DK.sn rfl ?_ | refine AWP.seq ?_ | refine AWP.region ?_ | refine AWP.dk mixed ?_ | refine AWP.condT rfl ?_ | refine AWP.condF rfl ?_ | refine AWP.skip ?_ | refine AWP.ret ?_ | refine AWP.exit ?_ | refine AWP.block ?_ )
                refine Reg.o rfl (dstep_idxH (q := j) rfl rfl rfl hjk (by simp [intsR, hlen])) ?_
                refine Reg.o rfl (dstep_ld1 rfl rfl (by rw [Nat.zero_add]; exact intsR_get hjo) rfl) ?_
                repeat (first | refine Reg.o rfl rfl ?_ | refine Reg.on rfl rfl ?_ | refine Reg.s rfl ?_ | refine Reg.sn rfl ?_ | refine Reg.nil ?_ | refine DK.o rfl rfl ?_ | refine DK.on rfl rfl ?_ | refine DK.s rfl ?_ | refine DK.sn rfl ?_ | refine AWP.seq ?_ | refine AWP.region ?_ | refine AWP.dk mixed ?_ | refine AWP.condT rfl ?_ | refine AWP.condF rfl ?_ | refine AWP.skip ?_ | refine AWP.ret ?_ | refine AWP.exit ?_ | refine AWP.block ?_ )
                refine Reg.gs rfl (fun g2 => ?_) (fun g2 => ?_)
                · repeat (first | refine Reg.o rfl rfl ?_ | refine Reg.on rfl rfl ?_ | refine Reg.s rfl ?_ | refine Reg.sn rfl ?_ | refine Reg.nil ?_ | refine DK.o rfl rfl ?_ | refine DK.on rfl rfl ?_ | refine DK.s rfl ?_ | refine DK.sn rfl ?_ | refine AWP.seq ?_ | refine AWP.region ?_ | refine AWP.dk mixed ?_ | refine AWP.condT rfl ?_ | refine AWP.condF rfl ?_ | refine AWP.skip ?_ | refine AWP.ret ?_ | refine AWP.exit ?_ | refine AWP.block ?_ )
                  refine Reg.c (Nat.zero_le _) rfl (CallOK.ofPure (PureRun.of (allPure_cons (pure_cr l) (allPure_cons (.sc _) (allPure_cons (.sc _) allPure_nil))) (.sc _) (alive_ok l j r hl (by omega))) _ ?_)
                  repeat (first | refine Reg.o rfl rfl ?_ | refine Reg.on rfl rfl ?_ | refine Reg.s rfl ?_ | refine Reg.sn rfl ?_ | refine Reg.nil ?_ | refine DK.o rfl rfl ?_ | refine DK.on rfl rfl ?_ | refine DK.s rfl ?_ | refine DK.sn rfl ?_ | refine AWP.seq ?_ | refine AWP.region ?_ | refine AWP.dk mixed ?_ | refine AWP.condT rfl ?_ | refine AWP.condF rfl ?_ | refine AWP.skip ?_ | refine AWP.ret ?_ | refine AWP.exit ?_ | refine AWP.block ?_ )
                  refine Reg.gs rfl (fun g3 => ?_) (fun g3 => ?_)
                  · repeat (first | refine Reg.o rfl rfl ?_ | refine Reg.on rfl rfl ?_ | refine Reg.s rfl ?_ | refine Reg.sn rfl ?_ | refine Reg.nil ?_ | refine DK.o rfl rfl ?_ | refine DK.on rfl rfl ?_ | refine DK.s rfl ?_ | refine DK.sn rfl ?_ | refine AWP.seq ?_ | refine AWP.region ?_ | refine AWP.dk mixed ?_ | refine AWP.condT rfl ?_ | refine AWP.condF rfl ?_ | refine AWP.skip ?_ | refine AWP.ret ?_ | refine AWP.exit ?_ | refine AWP.block ?_ )
                    refine Reg.c (Nat.zero_le _) rfl (CallOK.ofPure (PureRun.of (allPure_cons (pure_cr l) (allPure_cons (.sc _) (allPure_cons (.sc _) (allPure_cons (.sc _) allPure_nil)))) (.sc _) (reach_ok l i j r hl (by omega) (by omega) (by omega))) _ ?_)
                    repeat (first | refine Reg.o rfl rfl ?_ | refine Reg.on rfl rfl ?_ | refine Reg.s rfl ?_ | refine Reg.sn rfl ?_ | refine Reg.nil ?_ | refine DK.o rfl rfl ?_ | refine DK.on rfl rfl ?_ | refine DK.s rfl ?_ | refine DK.sn rfl ?_ | refine AWP.seq ?_ | refine AWP.region ?_ | refine AWP.dk mixed ?_ | refine AWP.condT rfl ?_ | refine AWP.condF rfl ?_ | refine AWP.skip ?_ | refine AWP.ret ?_ | refine AWP.exit ?_ | refine AWP.block ?_ )
                    refine AWP.cond rfl (fun g4 => ?_) (fun g4 => ?_)
                    · have hH : rHear l r out i j = true := by rw [hR]; simp [g1', g2, g3, g4]
                      repeat (first | refine Reg.o rfl rfl ?_ | refine Reg.on rfl rfl ?_ | refine Reg.s rfl ?_ | refine Reg.sn rfl ?_ | refine Reg.nil ?_ | refine DK.o rfl rfl ?_ | refine DK.on rfl rfl ?_ | refine DK.s rfl ?_ | refine DK.sn rfl ?_ | refine AWP.seq ?_ | refine AWP.region ?_ | refine AWP.dk mixed ?_ | refine AWP.condT rfl ?_ | refine AWP.condF rfl ?_ | refine AWP.skip ?_ | refine AWP.ret ?_ | refine AWP.exit ?_ | refine AWP.block ?_ )
                      refine Reg.o rfl (dstep_idxH (q := j) rfl rfl rfl hjk (by simp [intsR, nextJ_len, hlen])) ?_
                      refine Reg.on rfl (dstep_stN rfl rfl rfl (by rw [Nat.zero_add]; exact intsR_get (by rw [nextJ_len]; exact hjo)) rfl (Nat.le_refl _) rfl) ?_
                      repeat (first | refine Reg.o rfl rfl ?_ | refine Reg.on rfl rfl ?_ | refine Reg.s rfl ?_ | refine Reg.sn rfl ?_ | refine Reg.nil ?_ | refine DK.o rfl rfl ?_ | refine DK.on rfl rfl ?_ | refine DK.s rfl ?_ | refine DK.sn rfl ?_ | refine AWP.seq ?_ | refine AWP.region ?_ | refine AWP.dk mixed ?_ | refine AWP.condT rfl ?_ | refine AWP.condF rfl ?_ | refine AWP.skip ?_ | refine AWP.ret ?_ | refine AWP.exit ?_ | refine AWP.block ?_ )
                      refine ⟨j + 1, by omega, by omega, Sub.re [[(0, 0)], [(1, 0)]] rfl rfl rfl ⟨⟨⟨_, rfl, RenB.rows (rows := intsR out) rfl (pure_intsR _)⟩, trivial⟩, ⟨⟨_, rfl, RenB.rows (rows := (intsR (nextJ l r out i j)).set (0 + j) [.sc (.int .i64 r)]) (by rw [Nat.zero_add, intsR_set, nextJ_true hH]) (pure_intsR _)⟩, trivial⟩, trivial⟩ ⟨.int rfl, .pure (pure_cr l), .hsl _ _ _ _ _ _ rfl, .int rfl, .int rfl, .hsl _ _ _ _ _ _ rfl, .int rfl, .int hj1, trivial⟩⟩
                    · have hH : rHear l r out i j = false := by rw [hR]; simp [g4]
                      repeat (first | refine Reg.o rfl rfl ?_ | refine Reg.on rfl rfl ?_ | refine Reg.s rfl ?_ | refine Reg.sn rfl ?_ | refine Reg.nil ?_ | refine DK.o rfl rfl ?_ | refine DK.on rfl rfl ?_ | refine DK.s rfl ?_ | refine DK.sn rfl ?_ | refine AWP.seq ?_ | refine AWP.region ?_ | refine AWP.dk mixed ?_ | refine AWP.condT rfl ?_ | refine AWP.condF rfl ?_ | refine AWP.skip ?_ | refine AWP.ret ?_ | refine AWP.exit ?_ | refine AWP.block ?_ )
                      refine ⟨j + 1, by omega, by omega, Sub.re [[(0, 0)], [(1, 0)]] rfl rfl rfl ⟨⟨⟨_, rfl, RenB.rows (rows := intsR out) rfl (pure_intsR _)⟩, trivial⟩, ⟨⟨_, rfl, RenB.rows (rows := intsR (nextJ l r out i j)) (by rw [nextJ_false hH]) (pure_intsR _)⟩, trivial⟩, trivial⟩ ⟨.int rfl, .pure (pure_cr l), .hsl _ _ _ _ _ _ rfl, .int rfl, .int rfl, .hsl _ _ _ _ _ _ rfl, .int rfl, .int hj1, trivial⟩⟩
                  · have hH : rHear l r out i j = false := by rw [hR]; simp [g3]
                    repeat (first | refine Reg.o rfl rfl ?_ | refine Reg.on rfl rfl ?_ | refine Reg.s rfl ?_ | refine Reg.sn rfl ?_ | refine Reg.nil ?_ | refine DK.o rfl rfl ?_ | refine DK.on rfl rfl ?_ | refine DK.s rfl ?_ | refine DK.sn rfl ?_ | refine AWP.seq ?_ | refine AWP.region ?_ | refine AWP.dk mixed ?_ | refine AWP.condT rfl ?_ | refine AWP.condF rfl ?_ | refine AWP.skip ?_ | refine AWP.ret ?_ | refine AWP.exit ?_ | refine AWP.block ?_ )
                    refine ⟨j + 1, by omega, by omega, Sub.re [[(0, 0)], [(1, 0)]] rfl rfl rfl ⟨⟨⟨_, rfl, RenB.rows (rows := intsR out) rfl (pure_intsR _)⟩, trivial⟩, ⟨⟨_, rfl, RenB.rows (rows := intsR (nextJ l r out i j)) (by rw [nextJ_false hH]) (pure_intsR _)⟩, trivial⟩, trivial⟩ ⟨.int rfl, .pure (pure_cr l), .hsl _ _ _ _ _ _ rfl, .int rfl, .int rfl, .hsl _ _ _ _ _ _ rfl, .int rfl, .int hj1, trivial⟩⟩
                · have hH : rHear l r out i j = false := by
                    rw [hR]
                    have : ¬ out[j] < 0 := by simpa using g2
                    simp [this]
                  repeat (first | refine Reg.o rfl rfl ?_ | refine Reg.on rfl rfl ?_ | refine Reg.s rfl ?_ | refine Reg.sn rfl ?_ | refine Reg.nil ?_ | refine DK.o rfl rfl ?_ | refine DK.on rfl rfl ?_ | refine DK.s rfl ?_ | refine DK.sn rfl ?_ | refine AWP.seq ?_ | refine AWP.region ?_ | refine AWP.dk mixed ?_ | refine AWP.condT rfl ?_ | refine AWP.condF rfl ?_ | refine AWP.skip ?_ | refine AWP.ret ?_ | refine AWP.exit ?_ | refine AWP.block ?_ )
                  refine ⟨j + 1, by omega, by omega, Sub.re [[(0, 0)], [(1, 0)]] rfl rfl rfl ⟨⟨⟨_, rfl, RenB.rows (rows := intsR out) rfl (pure_intsR _)⟩, trivial⟩, ⟨⟨_, rfl, RenB.rows (rows := intsR (nextJ l r out i j)) (by rw [nextJ_false hH]) (pure_intsR _)⟩, trivial⟩, trivial⟩ ⟨.int rfl, .pure (pure_cr l), .hsl _ _ _ _ _ _ rfl, .int rfl, .int rfl, .hsl _ _ _ _ _ _ rfl, .int rfl, .int hj1, trivial⟩⟩
              · have hH : rHear l r out i j = false := by
                  rw [hR]
                  have : j = i := by simp at g1; omega
                  simp [this]
                repeat (first | refine Reg.o rfl rfl ?_ | refine Reg.on rfl rfl ?_ | refine Reg.s rfl ?_ | refine Reg.sn rfl ?_ | refine Reg.nil ?_ | refine DK.o rfl rfl ?_ | refine DK.on rfl rfl ?_ | refine DK.s rfl ?_ | refine DK.sn rfl ?_ | refine AWP.seq ?_ | refine AWP.region ?_ | refine AWP.dk mixed ?_ | refine AWP.condT rfl ?_ | refine AWP.condF rfl ?_ | refine AWP.skip ?_ | refine AWP.ret ?_ | refine AWP.exit ?_ | refine AWP.block ?_ )
                refine ⟨j + 1, by omega, by omega, Sub.re [[(0, 0)], [(1, 0)]] rfl rfl rfl ⟨⟨⟨_, rfl, RenB.rows (rows := intsR out) rfl (pure_intsR _)⟩, trivial⟩, ⟨⟨_, rfl, RenB.rows (rows := intsR (nextJ l r out i j)) (by rw [nextJ_false hH]) (pure_intsR _)⟩, trivial⟩, trivial⟩ ⟨.int rfl, .pure (pure_cr l), .hsl _ _ _ _ _ _ rfl, .int rfl, .int rfl, .hsl _ _ _ _ _ _ rfl, .int rfl, .int hj1, trivial⟩⟩
            · have hjk : j = k := by
                have : ¬ j < k := by simpa using hjk
                omega
              repeat (first | refine Reg.o rfl rfl ?_ | refine Reg.on rfl rfl ?_ | refine Reg.s rfl ?_ | refine Reg.sn rfl ?_ | refine Reg.nil ?_ | refine DK.o rfl rfl ?_ | refine DK.on rfl rfl ?_ | refine DK.s rfl ?_ | refine DK.sn rfl ?_ | refine AWP.seq ?_ | refine AWP.region ?_ | refine AWP.dk mixed ?_ | refine AWP.condT rfl ?_ | refine AWP.condF rfl ?_ | refine AWP.skip ?_ | refine AWP.ret ?_ | refine AWP.exit ?_ | refine AWP.block ?_ )
              refine ⟨i + 1, by omega, by omega, Sub.re [[(0, 0)], [(1, 0)]] rfl rfl rfl ⟨⟨⟨_, rfl, RenB.rows (rows := intsR out) rfl (pure_intsR _)⟩, trivial⟩, ⟨⟨_, rfl, RenB.rows (rows := intsR (nextJ l r out i j)) (by rw [hjk, ← hlen, nextJ_end]) (pure_intsR _)⟩, trivial⟩, trivial⟩ ⟨.int rfl, .pure (pure_cr l), .hsl _ _ _ _ _ _ rfl, .int (by rw [rAny_succ, hs0, Bool.or_true, if_pos rfl]), .int rfl, .hsl _ _ _ _ _ _ rfl, .int hi1, trivial⟩⟩
      · have hik : i = k := by
          have : ¬ i < k := by simpa using h
          omega
        repeat (first | refine Reg.o rfl rfl ?_ | refine Reg.on rfl rfl ?_ | refine Reg.s rfl ?_ | refine Reg.sn rfl ?_ | refine Reg.nil ?_ | refine DK.o rfl rfl ?_ | refine DK.on rfl rfl ?_ | refine DK.s rfl ?_ | refine DK.sn rfl ?_ | refine AWP.seq ?_ | refine AWP.region ?_ | refine AWP.dk mixed ?_ | refine AWP.condT rfl ?_ | refine AWP.condF rfl ?_ | refine AWP.skip ?_ | refine AWP.ret ?_ | refine AWP.exit ?_ | refine AWP.block ?_ )
        refine ⟨(f', r + 1, refStep l r out, if rAny l r out out.length = true then (r : Int) else rd), ⟨?_, ?_, ?_, ?_⟩, Nat.lt_succ_self _, ?_⟩
        · show (refStep l r out).length = k
          rw [refStep_len, hlen]
        · simp only; omega
        · simp only; omega
        · rw [hgo]
          rfl
        · refine Sub.re [[(1, 0)]] rfl rfl rfl ⟨⟨⟨_, rfl, RenB.rows (rows := intsR (nextL r out (rNext l r out i))) (by rw [hik, ← hlen]; rfl) (pure_intsR _)⟩, trivial⟩, trivial⟩ ⟨.int rfl, .pure (pure_cr l), .hsl _ _ _ _ _ _ rfl, .int (by rw [hik, ← hlen]), .int hr2, trivial⟩
    · have hlt : ¬ r ≤ k + 1 := by
        have : ¬ (r : Int) ≤ IntKind.i64.wrap ((k : Int) + 1) := of_decide_eq_false h
        rw [hw1] at this
        omega
      have hf : f = 0 := by omega
      subst hf
      repeat (first | refine Reg.o rfl rfl ?_ | refine Reg.on rfl rfl ?_ | refine Reg.s rfl ?_ | refine Reg.sn rfl ?_ | refine Reg.nil ?_ | refine DK.o rfl rfl ?_ | refine DK.on rfl rfl ?_ | refine DK.s rfl ?_ | refine DK.sn rfl ?_ | refine AWP.seq ?_ | refine AWP.region ?_ | refine AWP.dk mixed ?_ | refine AWP.condT rfl ?_ | refine AWP.condF rfl ?_ | refine AWP.skip ?_ | refine AWP.ret ?_ | refine AWP.exit ?_ | refine AWP.block ?_ )
      refine fin_frz (R := fun res' _ => res' = newsV (newsR k src l)) (.inr rfl) (res := .tup [.hsl 0 0 0 k, .sc (.int .i64 rd), .sc (.int .i64 0)]) (res' := newsV (newsR k src l)) rfl ?_ (pure_newsV _) rfl
      have e : newsR k src l = (out, rd, 0) := by
        unfold newsR
        rw [if_pos hc, if_neg (by omega)]
        show ((newsGo k l (k + 2) 1 (news0 k src)).1, (newsGo k l (k + 2) 1 (news0 k src)).2, (0 : Int)) = _
        rw [news_ref, hgo]
        rfl
      rw [e]
      refine Cong.tupL (l := [.hsl 0 0 0 k, .sc (.int .i64 rd), .sc (.int .i64 0)]) (m := [.list 1 (intsR out), .sc (.int .i64 rd), .sc (.int .i64 0)]) ⟨?_, .refl _, .refl _, trivial⟩
      exact FzA.all rfl (by simp [intsR, hlen])

end Go.Proofs.Ytbpmbofinoinmaa
