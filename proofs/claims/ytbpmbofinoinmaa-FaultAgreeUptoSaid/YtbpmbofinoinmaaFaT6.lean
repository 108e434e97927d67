import Derived.Test.YtbpmbofinoinmaaFaT4
namespace Go.Proofs.Ytbpmbofinoinmaa
open Go.Av Go.Proofs

theorem dstep_box {g i : Nat} {fr : Fr} {H : Heap} {x : Operand} {cs : List AV} {n : Nat} (hx : (ev fr x).cs = some cs) (h1 : cs.all AV.cell1 = true) (hn : cs.length = n) : dstep g i (.box x) fr H = some (.ptr g i 0 0, hset H g i (.cells n [cs])) := by
  subst hn
  simp only [dstep, hx, h1]

theorem first_ok (n : Nat) (hn : n ≤ 64) : CallOK Try.prog 39 [.sc (.int .i64 n)] [] (fun res _ => res = .agg (bset 64 fun i => decide (i < n))) := by
  refine CallOK.of cF39 ?_ (by simp [F39])
  repeat (first | refine Reg.o rfl rfl ?_ | refine Reg.on rfl rfl ?_ | refine Reg.s rfl ?_ | refine Reg.sn rfl ?_ | refine Reg.nil ?_ | refine DK.o rfl rfl ?_ | refine DK.on rfl rfl ?_ | refine DK.s rfl ?_ | refine DK.sn rfl ?_ | refine AWP.seq ?_ | refine AWP.region ?_ | refine AWP.dk mixed ?_ | refine AWP.condT rfl ?_ | refine AWP.condF rfl ?_ | refine AWP.skip ?_ | refine AWP.ret ?_ | refine AWP.exit ?_ | refine AWP.block ?_ )
  refine AWP.loop (fun k : Nat => [(2, .ptr 0 0 0 0), (4, .sc (.int .i64 n)), (5, .sc (.int .i64 k))]) (fun k => [[.cells 64 [bset 64 fun i => decide (i < k)]]]) (fun k => k ≤ n) (fun k => n - k) 0 (Nat.zero_le _)
    (Sub.re [[(0, 0)]] rfl rfl rfl ⟨⟨⟨_, rfl, RenB.row rfl (pure_bset _ _)⟩, trivial⟩, trivial⟩ ⟨.ptr _ _ _ _ _ _ rfl, .int rfl, .int rfl, trivial⟩) ?_
  intro k hk
  repeat (first | refine Reg.o rfl rfl ?_ | refine Reg.on rfl rfl ?_ | refine Reg.s rfl ?_ | refine Reg.sn rfl ?_ | refine Reg.nil ?_ | refine DK.o rfl rfl ?_ | refine DK.on rfl rfl ?_ | refine DK.s rfl ?_ | refine DK.sn rfl ?_ | refine AWP.seq ?_ | refine AWP.region ?_ | refine AWP.dk mixed ?_ | refine AWP.condT rfl ?_ | refine AWP.condF rfl ?_ | refine AWP.skip ?_ | refine AWP.ret ?_ | refine AWP.exit ?_ | refine AWP.block ?_ )
  refine AWP.cond rfl (fun h => ?_) (fun h => ?_)
  · have hlt : k < n := by simpa using h
    repeat (first | refine Reg.o rfl rfl ?_ | refine Reg.on rfl rfl ?_ | refine Reg.s rfl ?_ | refine Reg.sn rfl ?_ | refine Reg.nil ?_ | refine DK.o rfl rfl ?_ | refine DK.on rfl rfl ?_ | refine DK.s rfl ?_ | refine DK.sn rfl ?_ | refine AWP.seq ?_ | refine AWP.region ?_ | refine AWP.dk mixed ?_ | refine AWP.condT rfl ?_ | refine AWP.condF rfl ?_ | refine AWP.skip ?_ | refine AWP.ret ?_ | refine AWP.exit ?_ | refine AWP.block ?_ )
    refine Reg.o rfl (dstep_idxArr (q := k) rfl rfl rfl (by omega)) ?_
    refine Reg.on rfl (dstep_stN rfl rfl rfl rfl rfl (by rw [bset_len]; omega) rfl) ?_
    repeat (first | refine Reg.o rfl rfl ?_ | refine Reg.on rfl rfl ?_ | refine Reg.s rfl ?_ | refine Reg.sn rfl ?_ | refine Reg.nil ?_ | refine DK.o rfl rfl ?_ | refine DK.on rfl rfl ?_ | refine DK.s rfl ?_ | refine DK.sn rfl ?_ | refine AWP.seq ?_ | refine AWP.region ?_ | refine AWP.dk mixed ?_ | refine AWP.condT rfl ?_ | refine AWP.condF rfl ?_ | refine AWP.skip ?_ | refine AWP.ret ?_ | refine AWP.exit ?_ | refine AWP.block ?_ )
    refine ⟨k + 1, by omega, by omega, ?_⟩
    refine Sub.re [[(0, 0)]] rfl rfl rfl ⟨⟨⟨_, rfl, RenB.row ?_ (pure_bset _ _)⟩, trivial⟩, trivial⟩ ⟨.ptr _ _ _ _ _ _ rfl, .int rfl, .int ?_, trivial⟩
    · show lsplice (bset 64 _) _ _ = _
      rw [Nat.mul_one, Nat.zero_add]
      refine (bset_splice 64 _ k true).trans (bset_congr fun i hi => ?_)
      by_cases e : i = k
      · simp [e]
      · rw [if_neg e]; simp; omega
    · rw [wrap_small (by omega) (by omega)]; omega
  · have hkn : k = n := by
      have : ¬ k < n := by simpa using h
      omega
    subst hkn
    repeat (first | refine Reg.o rfl rfl ?_ | refine Reg.on rfl rfl ?_ | refine Reg.s rfl ?_ | refine Reg.sn rfl ?_ | refine Reg.nil ?_ | refine DK.o rfl rfl ?_ | refine DK.on rfl rfl ?_ | refine DK.s rfl ?_ | refine DK.sn rfl ?_ | refine AWP.seq ?_ | refine AWP.region ?_ | refine AWP.dk mixed ?_ | refine AWP.condT rfl ?_ | refine AWP.condF rfl ?_ | refine AWP.skip ?_ | refine AWP.ret ?_ | refine AWP.exit ?_ | refine AWP.block ?_ )
    have e1 := take_drop0 (bset_len 64 fun i => decide (i < k))
    refine fin_pure (.inr rfl) (res := .agg (bset 64 fun i => decide (i < k))) ?_ (.agg _ (pure_bset _ _)) rfl
    show some (AV.agg (List.take 64 (List.drop 0 (lsplice (bset 64 fun i => decide (i < k)) 0 (List.take 64 (List.drop 0 (bset 64 fun i => decide (i < k)))))))) = _
    rw [e1, lsplice_all _ _ rfl, e1]

def elems (n : Nat) (s : Nat → Bool) : List Int := ((List.range n).filter s).map fun i : Nat => (i : Int)

theorem elems_succ (k : Nat) (s : Nat → Bool) : elems (k + 1) s = elems k s ++ if s k = true then [(k : Int)] else [] := by
  unfold elems
  rw [List.range_succ, List.filter_append, List.map_append]
  cases h : s k <;> simp [h]

theorem elems_len (n : Nat) (s : Nat → Bool) : (elems n s).length ≤ n := by
  unfold elems
  rw [List.length_map]
  exact Nat.le_trans (List.length_filter_le _ _) (by simp)

theorem pure_intsR (l : List Int) : ∀ r ∈ intsR l, ∀ c ∈ r, Pure c := allPure_map (fun _ => allPure_cons (.sc _) allPure_nil) l

theorem list_ok (s : Nat → Bool) : CallOK Try.prog 55 [.agg (bset 64 s)] [] (fun res _ => res = intsV (elems 64 s)) := by
  refine CallOK.of cF55 ?_ (by simp [F55])
  repeat (first | refine Reg.o rfl rfl ?_ | refine Reg.on rfl rfl ?_ | refine Reg.s rfl ?_ | refine Reg.sn rfl ?_ | refine Reg.nil ?_ | refine DK.o rfl rfl ?_ | refine DK.on rfl rfl ?_ | refine DK.s rfl ?_ | refine DK.sn rfl ?_ | refine AWP.seq ?_ | refine AWP.region ?_ | refine AWP.dk mixed ?_ | refine AWP.condT rfl ?_ | refine AWP.condF rfl ?_ | refine AWP.skip ?_ | refine AWP.ret ?_ | refine AWP.exit ?_ | refine AWP.block ?_ )
  refine AWP.loop (fun k : Nat => [(3, .hsl 0 0 0 (elems k s).length), (6, .agg (bset 64 s)), (7, .sc (.int .i64 k))]) (fun k => [[.cells 1 (intsR (elems k s))]]) (fun k => k ≤ 64) (fun k => 64 - k) 0 (Nat.zero_le _)
    (Sub.trans (Sub.nilBlk (fr' := [(3, .hsl 1 0 0 0), (6, .agg (bset 64 s)), (7, .sc (.int .i64 (0 : Nat)))]) 1 ⟨.base (GhT.push _ 1), .refl _, .refl _, trivial⟩)
      (Sub.re [[(1, 0)]] rfl rfl rfl ⟨⟨⟨_, rfl, RenB.pure 1 [] (fun r h => by cases h)⟩, trivial⟩, trivial⟩ ⟨.hsl _ _ _ _ _ _ rfl, .pure (.agg _ (pure_bset _ _)), .int rfl, trivial⟩)) ?_
  intro k hk
  repeat (first | refine Reg.o rfl rfl ?_ | refine Reg.on rfl rfl ?_ | refine Reg.s rfl ?_ | refine Reg.sn rfl ?_ | refine Reg.nil ?_ | refine DK.o rfl rfl ?_ | refine DK.on rfl rfl ?_ | refine DK.s rfl ?_ | refine DK.sn rfl ?_ | refine AWP.seq ?_ | refine AWP.region ?_ | refine AWP.dk mixed ?_ | refine AWP.condT rfl ?_ | refine AWP.condF rfl ?_ | refine AWP.skip ?_ | refine AWP.ret ?_ | refine AWP.exit ?_ | refine AWP.block ?_ )
  refine AWP.cond rfl (fun h => ?_) (fun h => ?_)
  · have hlt : k < 64 := by
      have : (k : Int) < 64 := by simpa using h
      omega
    have hlen := elems_len k s
    repeat (first | refine Reg.o rfl rfl ?_ | refine Reg.on rfl rfl ?_ | refine Reg.s rfl ?_ | refine Reg.sn rfl ?_ | refine Reg.nil ?_ | refine DK.o rfl rfl ?_ | refine DK.on rfl rfl ?_ | refine DK.s rfl ?_ | refine DK.sn rfl ?_ | refine AWP.seq ?_ | refine AWP.region ?_ | refine AWP.dk mixed ?_ | refine AWP.condT rfl ?_ | refine AWP.condF rfl ?_ | refine AWP.skip ?_ | refine AWP.ret ?_ | refine AWP.exit ?_ | refine AWP.block ?_ )
    refine Reg.o rfl (dstep_idxVal (q := k) rfl rfl rfl hlt (bset_get hlt)) ?_
    repeat (first | refine Reg.o rfl rfl ?_ | refine Reg.on rfl rfl ?_ | refine Reg.s rfl ?_ | refine Reg.sn rfl ?_ | refine Reg.nil ?_ | refine DK.o rfl rfl ?_ | refine DK.on rfl rfl ?_ | refine DK.s rfl ?_ | refine DK.sn rfl ?_ | refine AWP.seq ?_ | refine AWP.region ?_ | refine AWP.dk mixed ?_ | refine AWP.condT rfl ?_ | refine AWP.condF rfl ?_ | refine AWP.skip ?_ | refine AWP.ret ?_ | refine AWP.exit ?_ | refine AWP.block ?_ )
    refine AWP.cond rfl (fun hs => ?_) (fun hs => ?_)
    · repeat (first | refine Reg.o rfl rfl ?_ | refine Reg.on rfl rfl ?_ | refine Reg.s rfl ?_ | refine Reg.sn rfl ?_ | refine Reg.nil ?_ | refine DK.o rfl rfl ?_ | refine DK.on rfl rfl ?_ | refine DK.s rfl ?_ | refine DK.sn rfl ?_ | refine AWP.seq ?_ | refine AWP.region ?_ | refine AWP.dk mixed ?_ | refine AWP.condT rfl ?_ | refine AWP.condF rfl ?_ | refine AWP.skip ?_ | refine AWP.ret ?_ | refine AWP.exit ?_ | refine AWP.block ?_ )
      refine Reg.o rfl (dstep_app rfl rfl rfl (by simp [intsR]) (by simp; omega) rfl) ?_
      repeat (first | refine Reg.o rfl rfl ?_ | refine Reg.on rfl rfl ?_ | refine Reg.s rfl ?_ | refine Reg.sn rfl ?_ | refine Reg.nil ?_ | refine DK.o rfl rfl ?_ | refine DK.on rfl rfl ?_ | refine DK.s rfl ?_ | refine DK.sn rfl ?_ | refine AWP.seq ?_ | refine AWP.region ?_ | refine AWP.dk mixed ?_ | refine AWP.condT rfl ?_ | refine AWP.condF rfl ?_ | refine AWP.skip ?_ | refine AWP.ret ?_ | refine AWP.exit ?_ | refine AWP.block ?_ )
      have e : elems (k + 1) s = elems k s ++ [(k : Int)] := by rw [elems_succ, if_pos hs]
      refine ⟨k + 1, by omega, by omega, Sub.re [[(2, 0)]] rfl rfl rfl ⟨⟨⟨_, rfl, ?_⟩, trivial⟩, trivial⟩ ⟨?_, .pure (.agg _ (pure_bset _ _)), .int ?_, trivial⟩⟩
      · refine RenB.rows ?_ (pure_intsR _)
        rw [e]
        simp [intsR]
      · rw [e, List.length_append]
        exact .hsl _ _ _ _ _ _ rfl
      · rw [wrap_small (by omega) (by omega)]; omega
    · repeat (first | refine Reg.o rfl rfl ?_ | refine Reg.on rfl rfl ?_ | refine Reg.s rfl ?_ | refine Reg.sn rfl ?_ | refine Reg.nil ?_ | refine DK.o rfl rfl ?_ | refine DK.on rfl rfl ?_ | refine DK.s rfl ?_ | refine DK.sn rfl ?_ | refine AWP.seq ?_ | refine AWP.region ?_ | refine AWP.dk mixed ?_ | refine AWP.condT rfl ?_ | refine AWP.condF rfl ?_ | refine AWP.skip ?_ | refine AWP.ret ?_ | refine AWP.exit ?_ | refine AWP.block ?_ )
      have e : elems (k + 1) s = elems k s := by rw [elems_succ, if_neg (by rw [hs]; decide), List.append_nil]
      refine ⟨k + 1, by omega, by omega, Sub.re [[(0, 0)]] rfl rfl rfl ⟨⟨⟨_, rfl, ?_⟩, trivial⟩, trivial⟩ ⟨?_, .pure (.agg _ (pure_bset _ _)), .int ?_, trivial⟩⟩
      · exact RenB.rows (by rw [e]) (pure_intsR _)
      · rw [e]
        exact .hsl _ _ _ _ _ _ rfl
      · rw [wrap_small (by omega) (by omega)]; omega
  · have hk64 : k = 64 := by
      have : (64 : Int) ≤ k := by simpa using h
      omega
    subst hk64
    repeat (first | refine Reg.o rfl rfl ?_ | refine Reg.on rfl rfl ?_ | refine Reg.s rfl ?_ | refine Reg.sn rfl ?_ | refine Reg.nil ?_ | refine DK.o rfl rfl ?_ | refine DK.on rfl rfl ?_ | refine DK.s rfl ?_ | refine DK.sn rfl ?_ | refine AWP.seq ?_ | refine AWP.region ?_ | refine AWP.dk mixed ?_ | refine AWP.condT rfl ?_ | refine AWP.condF rfl ?_ | refine AWP.skip ?_ | refine AWP.ret ?_ | refine AWP.exit ?_ | refine AWP.block ?_ )
    exact fin_frz (.inr rfl) rfl (FzA.all rfl (by simp [intsR])) (pure_ints _) rfl

def orS (s t : Nat → Bool) (i : Nat) : Bool := s i || t i

theorem join_ok (s t : Nat → Bool) : CallOK Try.prog 70 [.ptr 0 0 0 0, .agg (bset 64 t)] [[.cells 64 [bset 64 s]]] (fun res H' => res = .tup [] ∧ H' = [[.cells 64 [bset 64 (orS s t)]]]) := by
  refine CallOK.of cF70 ?_ (by simp [F70])
  repeat (first | refine Reg.o rfl rfl ?_ | refine Reg.on rfl rfl ?_ | refine Reg.s rfl ?_ | refine Reg.sn rfl ?_ | refine Reg.nil ?_ | refine DK.o rfl rfl ?_ | refine DK.on rfl rfl ?_ | refine DK.s rfl ?_ | refine DK.sn rfl ?_ | refine AWP.seq ?_ | refine AWP.region ?_ | refine AWP.dk mixed ?_ | refine AWP.condT rfl ?_ | refine AWP.condF rfl ?_ | refine AWP.skip ?_ | refine AWP.ret ?_ | refine AWP.exit ?_ | refine AWP.block ?_ )
  refine AWP.loop (fun k : Nat => [(0, .ptr 0 0 0 0), (6, .agg (bset 64 t)), (7, .sc (.int .i64 k))]) (fun k => [[.cells 64 [bset 64 fun i => if i < k then orS s t i else s i]]]) (fun k => k ≤ 64) (fun k => 64 - k) 0 (Nat.zero_le _)
    (Sub.re [[(0, 0)]] rfl rfl rfl ⟨⟨⟨_, rfl, RenB.row (bset_congr fun i _ => by simp) (pure_bset _ _)⟩, trivial⟩, trivial⟩ ⟨.ptr _ _ _ _ _ _ rfl, .of_eq (congrArg AV.agg (take_drop0 (bset_len 64 t))) (.agg _ (pure_bset _ _)), .int rfl, trivial⟩) ?_
  intro k hk
  repeat (first | refine Reg.o rfl rfl ?_ | refine Reg.on rfl rfl ?_ | refine Reg.s rfl ?_ | refine Reg.sn rfl ?_ | refine Reg.nil ?_ | refine DK.o rfl rfl ?_ | refine DK.on rfl rfl ?_ | refine DK.s rfl ?_ | refine DK.sn rfl ?_ | refine AWP.seq ?_ | refine AWP.region ?_ | refine AWP.dk mixed ?_ | refine AWP.condT rfl ?_ | refine AWP.condF rfl ?_ | refine AWP.skip ?_ | refine AWP.ret ?_ | refine AWP.exit ?_ | refine AWP.block ?_ )
  refine AWP.cond rfl (fun h => ?_) (fun h => ?_)
  · have hlt : k < 64 := by
      have : (k : Int) < 64 := by simpa using h
      omega
    repeat (first | refine Reg.o rfl rfl ?_ | refine Reg.on rfl rfl ?_ | refine Reg.s rfl ?_ | refine Reg.sn rfl ?_ | refine Reg.nil ?_ | refine DK.o rfl rfl ?_ | refine DK.on rfl rfl ?_ | refine DK.s rfl ?_ | refine DK.sn rfl ?_ | refine AWP.seq ?_ | refine AWP.region ?_ | refine AWP.dk mixed ?_ | refine AWP.condT rfl ?_ | refine AWP.condF rfl ?_ | refine AWP.skip ?_ | refine AWP.ret ?_ | refine AWP.exit ?_ | refine AWP.block ?_ )
    refine Reg.o rfl (dstep_idxVal (q := k) rfl rfl rfl hlt (bset_get hlt)) ?_
    repeat (first | refine Reg.o rfl rfl ?_ | refine Reg.on rfl rfl ?_ | refine Reg.s rfl ?_ | refine Reg.sn rfl ?_ | refine Reg.nil ?_ | refine DK.o rfl rfl ?_ | refine DK.on rfl rfl ?_ | refine DK.s rfl ?_ | refine DK.sn rfl ?_ | refine AWP.seq ?_ | refine AWP.region ?_ | refine AWP.dk mixed ?_ | refine AWP.condT rfl ?_ | refine AWP.condF rfl ?_ | refine AWP.skip ?_ | refine AWP.ret ?_ | refine AWP.exit ?_ | refine AWP.block ?_ )
    rcases Bool.eq_false_or_eq_true (s k) with hsk | hsk
    all_goals
      refine DK.o rfl (dstep_idxArr (q := k) rfl rfl rfl hlt) ?_
      refine DK.o rfl (dstep_ld1 rfl rfl rfl (c := .sc (.bool _)) (by rw [Nat.mul_one, Nat.zero_add]; exact (bset_get hlt).trans (by rw [if_neg (Nat.lt_irrefl k), hsk]))) ?_
      repeat (first | refine Reg.o rfl rfl ?_ | refine Reg.on rfl rfl ?_ | refine Reg.s rfl ?_ | refine Reg.sn rfl ?_ | refine Reg.nil ?_ | refine DK.o rfl rfl ?_ | refine DK.on rfl rfl ?_ | refine DK.s rfl ?_ | refine DK.sn rfl ?_ | refine AWP.seq ?_ | refine AWP.region ?_ | refine AWP.dk mixed ?_ | refine AWP.condT rfl ?_ | refine AWP.condF rfl ?_ | refine AWP.skip ?_ | refine AWP.ret ?_ | refine AWP.exit ?_ | refine AWP.block ?_ )
      refine DK.o rfl (dstep_idxArr (q := k) rfl rfl rfl hlt) ?_
      refine DK.on rfl (dstep_stN rfl rfl rfl rfl rfl (by rw [bset_len]; omega) rfl) ?_
      refine DK.nil ⟨by kernel_rfl, ?_⟩
      repeat (first | refine Reg.o rfl rfl ?_ | refine Reg.on rfl rfl ?_ | refine Reg.s rfl ?_ | refine Reg.sn rfl ?_ | refine Reg.nil ?_ | refine DK.o rfl rfl ?_ | refine DK.on rfl rfl ?_ | refine DK.s rfl ?_ | refine DK.sn rfl ?_ | refine AWP.seq ?_ | refine AWP.region ?_ | refine AWP.dk mixed ?_ | refine AWP.condT rfl ?_ | refine AWP.condF rfl ?_ | refine AWP.skip ?_ | refine AWP.ret ?_ | refine AWP.exit ?_ | refine AWP.block ?_ )
      refine ⟨k + 1, by omega, by omega, Sub.re [[(0, 0)]] rfl rfl rfl ⟨⟨⟨_, rfl, RenB.row ?_ (pure_bset _ _)⟩, trivial⟩, trivial⟩ ⟨.ptr _ _ _ _ _ _ rfl, .pure (.agg _ (pure_bset _ _)), .int ?_, trivial⟩⟩
      · show lsplice (bset 64 _) _ _ = _
        rw [Nat.mul_one, Nat.zero_add]
        refine (bset_splice 64 _ k _).trans (bset_congr fun i hi => ?_)
        by_cases e : i = k
        · subst e
          simp [orS, hsk]
        · rw [if_neg e]
          by_cases h2 : i < k
          · rw [if_pos h2, if_pos (by omega)]
          · rw [if_neg h2, if_neg (by omega)]
      · rw [wrap_small (by omega) (by omega)]; omega
  · have hk64 : k = 64 := by
      have : (64 : Int) ≤ k := by simpa using h
      omega
    subst hk64
    repeat (first | refine Reg.o rfl rfl ?_ | refine Reg.on rfl rfl ?_ | refine Reg.s rfl ?_ | refine Reg.sn rfl ?_ | refine Reg.nil ?_ | refine DK.o rfl rfl ?_ | refine DK.on rfl rfl ?_ | refine DK.s rfl ?_ | refine DK.sn rfl ?_ | refine AWP.seq ?_ | refine AWP.region ?_ | refine AWP.dk mixed ?_ | refine AWP.condT rfl ?_ | refine AWP.condF rfl ?_ | refine AWP.skip ?_ | refine AWP.ret ?_ | refine AWP.exit ?_ | refine AWP.block ?_ )
    refine ⟨.inl rfl, _, .tup [], [[.cells 64 [bset 64 (orS s t)]]], rfl, SubV.ren (rho [[(0, 0)]]) (Numb.list rfl rfl rfl ⟨⟨⟨_, rfl, RenB.row (bset_congr fun i hi => if_pos hi) (pure_bset _ _)⟩, trivial⟩, trivial⟩) (.pure (.tup _ allPure_nil)), rfl, rfl⟩

theorem join_at {H : Heap} {g i : Nat} {s t : Nat → Bool} (hx : hget H g i = some (.cells 64 [bset 64 s])) : CallOK Try.prog 70 [.ptr g i 0 0, .agg (bset 64 t)] H (fun res H' => res = .tup [] ∧ H' = hset H g i (.cells 64 [bset 64 (orS s t)])) := by
  have hp : PureB (.cells 64 [bset 64 s]) := fun r hr => by
    rw [List.mem_singleton.1 hr]; exact pure_bset _ _
  refine (CallOK.via1 (args := [.ptr g i 0 0, .agg (bset 64 t)]) (R := fun res y => res = .tup [] ∧ y = .cells 64 [bset 64 (orS s t)]) g i ((join_ok s t).mono ?_) hx hp ⟨.ptr _ _ _ _ _ _ rfl, .pure (.agg _ (pure_bset _ _)), trivial⟩).mono ?_
  · rintro res H' ⟨rfl, rfl⟩
    refine ⟨_, rfl, .tup _ allPure_nil, fun r hr => ?_, rfl, rfl⟩
    rw [List.mem_singleton.1 hr]; exact pure_bset _ _
  · rintro res H' ⟨y, rfl, rfl, rfl⟩
    exact ⟨rfl, rfl⟩

end Go.Proofs.Ytbpmbofinoinmaa
