import Derived.Test.YtbpmbofinoinmaaFaB1
namespace Go.Proofs.Ytbpmbofinoinmaa
open Go.Av Go.Proofs

/-! The document's processes; begin. -/

def rRow (n : Nat) (p : Pr) : List AV := [boolsV n p.w, boolsV n p.h, .sc (.bool (decide (p.dec > 0))), .sc (.bool p.done), .sc (.int .i64 p.dec)]
theorem pure_rRow (n : Nat) (p : Pr) : ∀ c ∈ rRow n p, Pure c := allPure_cons (pure_boolsV _ _) (allPure_cons (pure_boolsV _ _) (allPure_cons (.sc _) (allPure_cons (.sc _) (allPure_cons (.sc _) allPure_nil))))
def nowR (n : Nat) (ps : List Pr) : List (List AV) := ps.map (rRow n)
def nowB (n : Nat) (ps : List Pr) : Blk := .cells 5 (nowR n ps)
theorem pure_nowR (n : Nat) (ps : List Pr) : ∀ r ∈ nowR n ps, ∀ c ∈ r, Pure c := allPure_map (pure_rRow n) ps
theorem nowR_get {n : Nat} {ps : List Pr} {i : Nat} {p : Pr} (h : ps[i]? = some p) : (nowR n ps)[i]? = some (rRow n p) := by unfold nowR; rw [List.getElem?_map, h]; rfl

theorem CongB.snoc {T : AV → AV → Prop} {sz : Nat} {rows : List (List AV)} {row row' : List AV} (h : CongL T row row') : CongB T (.cells sz (rows ++ [row])) (.cells sz (rows ++ [row'])) := by
  obtain ⟨h1, h2⟩ := h.spec
  have hg : ∀ (i : Nat) (r r' : List AV), (rows ++ [row])[i]? = some r → (rows ++ [row'])[i]? = some r' → r = r' ∨ (r = row ∧ r' = row') := by
    intro i r r' a b
    rcases Nat.lt_or_ge i rows.length with hlt | hge
    · rw [List.getElem?_append_left hlt] at a b
      rw [a] at b
      injection b with b
      exact .inl b
    · rw [List.getElem?_append_right hge] at a b
      rcases Nat.eq_zero_or_pos (i - rows.length) with e | e
      · rw [e] at a b
        simp at a b
        exact .inr ⟨a.symm, b.symm⟩
      · rw [List.getElem?_eq_none (by simp; omega)] at a
        cases a
  refine .cells sz _ _ (by simp) (fun i r r' a b => ?_) fun i r r' j x y a b c d => ?_
  · rcases hg i r r' a b with e | ⟨rfl, rfl⟩
    · rw [e]
    · exact h1
  · rcases hg i r r' a b with e | ⟨rfl, rfl⟩
    · subst e
      rw [c] at d
      injection d with d
      subst d
      exact .refl _
    · exact h2 j x y c d

theorem RenB.snoc {ρ : Nat → Nat → Option (Nat × Nat)} {sz : Nat} {rows : List (List AV)} {row row' : List AV} (hp : ∀ r ∈ rows, ∀ c ∈ r, Pure c) (h : RenArgs ρ row row') : RenB ρ (.cells sz (rows ++ [row])) (.cells sz (rows ++ [row'])) := by
  obtain ⟨h1, h2⟩ := h.spec
  have hg : ∀ (i : Nat) (r r' : List AV), (rows ++ [row])[i]? = some r → (rows ++ [row'])[i]? = some r' → (r = r' ∧ r ∈ rows) ∨ (r = row ∧ r' = row') := by
    intro i r r' a b
    rcases Nat.lt_or_ge i rows.length with hlt | hge
    · rw [List.getElem?_append_left hlt] at a b
      rw [a] at b
      injection b with b
      exact .inl ⟨b, List.mem_of_getElem? a⟩
    · rw [List.getElem?_append_right hge] at a b
      rcases Nat.eq_zero_or_pos (i - rows.length) with e | e
      · rw [e] at a b
        simp at a b
        exact .inr ⟨a.symm, b.symm⟩
      · rw [List.getElem?_eq_none (by simp; omega)] at a
        cases a
  refine .cells sz _ _ (by simp) (fun i r r' a b => ?_) fun i r r' j x y a b c d => ?_
  · rcases hg i r r' a b with ⟨e, _⟩ | ⟨rfl, rfl⟩
    · rw [e]
    · exact h1
  · rcases hg i r r' a b with ⟨e, hm⟩ | ⟨rfl, rfl⟩
    · subst e
      rw [c] at d
      injection d with d
      subst d
      exact .pure (hp r hm x (List.mem_of_getElem? c))
    · exact h2 j x y c d

def s12 (g _ : Nat) : Bool := Nat.ble 1 g

theorem frz12 {sz : Nat} {rows : List (List AV)} {row row' : List AV} {x y : Blk} (h : CongL (FzT [[.cells sz (rows ++ [row])], [x], [y]] s12) row row') : Frozen [[.cells sz (rows ++ [row])], [x], [y]] s12 [[.cells sz (rows ++ [row'])], [.dead], [.dead]] := by
  refine ⟨fun g i x' hx hl => ?_, fun g i h => ?_⟩
  · match g, i, hx with
    | 0, 0, hx => cases hx; exact ⟨rfl, _, rfl, CongB.snoc h⟩
    | 0, i + 1, hx => cases hx
    | 1, 0, hx => cases hx; cases hl
    | 1, i + 1, hx => cases hx
    | 2, 0, hx => cases hx; cases hl
    | 2, i + 1, hx => cases hx
    | g + 3, i, hx => cases hx
  · match g, i, h with
    | 0, 0, h => rfl
    | 0, i + 1, h => cases h
    | 1, 0, h => rfl
    | 1, i + 1, h => cases h
    | 2, 0, h => rfl
    | 2, i + 1, h => cases h
    | g + 3, i, h => cases h

theorem init_take {n k : Nat} (h : k < n) : (init0 n).take (k + 1) = (init0 n).take k ++ [pr0 n k] := by
  have hl : k < (init0 n).length := by simp [init0, h]
  rw [List.take_succ_eq_append_getElem hl]
  simp [init0]

def row5 (n : Nat) : List AV := [.hsl 1 0 0 n, .hsl 2 0 0 n, .sc (.bool false), .sc (.bool false), .sc (.int .i64 0)]

set_option maxHeartbeats 2000000 in
theorem begin_ok (n : Nat) (hn : n ≤ 1000) : CallOK Try.prog 47 [.sc (.int .i64 n)] [] (fun res _ => res = .list 5 (nowR n (init0 n))) := by
  refine CallOK.of cF47 ?_ (by simp [F47])
  repeat (first | refine Reg.o rfl rfl ?_ | refine Reg.on rfl rfl ?_ | refine Reg.s rfl ?_ | refine Reg.sn rfl ?_ | refine Reg.nil ?_ | refine DK.o rfl rfl ?_ | refine DK.on rfl rfl ?_ | refine DK.s rfl ?_ | refine DK.sn rfl ?_ | refine AWP.seq ?_ | refine AWP.region ?_ | refine AWP.dk mixed ?_ | refine AWP.condT rfl ?_ | refine AWP.condF rfl ?_ | refine AWP.skip ?_ | refine AWP.ret ?_ | refine AWP.exit ?_ | refine AWP.block ?_ )
  refine AWP.loop (fun k : Nat => [(0, .sc (.int .i64 n)), (3, .hsl 0 0 0 k), (4, .sc (.int .i64 k))]) (fun k => [[nowB n ((init0 n).take k)]]) (fun k => k ≤ n) (fun k => n - k) 0 (Nat.zero_le _)
    (Sub.trans (Sub.nilBlk (fr' := [(0, .sc (.int .i64 n)), (3, .hsl 0 0 0 0), (4, .sc (.int .i64 (0 : Nat)))]) 5 ⟨.refl _, .base (GhT.push [] 5), .refl _, trivial⟩) (Sub.refl _ _ _ _)) ?_
  intro k hk
  have hk1 : IntKind.i64.wrap ((k : Int) + 1) = ((k + 1 : Nat) : Int) := by rw [wrap_small (by omega) (by omega)]; omega
  have hlk : ((init0 n).take k).length = k := by simp [init0]; omega
  repeat (first | refine Reg.o rfl rfl ?_ | refine Reg.on rfl rfl ?_ | refine Reg.s rfl ?_ | refine Reg.sn rfl ?_ | refine Reg.nil ?_ | refine DK.o rfl rfl ?_ | refine DK.on rfl rfl ?_ | refine DK.s rfl ?_ | refine DK.sn rfl ?_ | refine AWP.seq ?_ | refine AWP.region ?_ | refine AWP.dk mixed ?_ | refine AWP.condT rfl ?_ | refine AWP.condF rfl ?_ | refine AWP.skip ?_ | refine AWP.ret ?_ | refine AWP.exit ?_ | refine AWP.block ?_ )
  refine AWP.cond rfl (fun h => ?_) (fun h => ?_)
  · have hkn : k < n := by simpa using h
    repeat (first | refine Reg.o rfl rfl ?_ | refine Reg.on rfl rfl ?_ | refine Reg.s rfl ?_ | refine Reg.sn rfl ?_ | refine Reg.nil ?_ | refine DK.o rfl rfl ?_ | refine DK.on rfl rfl ?_ | refine DK.s rfl ?_ | refine DK.sn rfl ?_ | refine AWP.seq ?_ | refine AWP.region ?_ | refine AWP.dk mixed ?_ | refine AWP.condT rfl ?_ | refine AWP.condF rfl ?_ | refine AWP.skip ?_ | refine AWP.ret ?_ | refine AWP.exit ?_ | refine AWP.block ?_ )
    refine DK.o rfl (dstep_mk (n := n) rfl (by omega) (by omega)) ?_
    repeat (first | refine Reg.o rfl rfl ?_ | refine Reg.on rfl rfl ?_ | refine Reg.s rfl ?_ | refine Reg.sn rfl ?_ | refine Reg.nil ?_ | refine DK.o rfl rfl ?_ | refine DK.on rfl rfl ?_ | refine DK.s rfl ?_ | refine DK.sn rfl ?_ | refine AWP.seq ?_ | refine AWP.region ?_ | refine AWP.dk mixed ?_ | refine AWP.condT rfl ?_ | refine AWP.condF rfl ?_ | refine AWP.skip ?_ | refine AWP.ret ?_ | refine AWP.exit ?_ | refine AWP.block ?_ )
    refine DK.o rfl (dstep_mk (n := n) rfl (by omega) (by omega)) ?_
    repeat (first | refine Reg.o rfl rfl ?_ | refine Reg.on rfl rfl ?_ | refine Reg.s rfl ?_ | refine Reg.sn rfl ?_ | refine Reg.nil ?_ | refine DK.o rfl rfl ?_ | refine DK.on rfl rfl ?_ | refine DK.s rfl ?_ | refine DK.sn rfl ?_ | refine AWP.seq ?_ | refine AWP.region ?_ | refine AWP.dk mixed ?_ | refine AWP.condT rfl ?_ | refine AWP.condF rfl ?_ | refine AWP.skip ?_ | refine AWP.ret ?_ | refine AWP.exit ?_ | refine AWP.block ?_ )
    refine DK.nil ⟨by kernel_rfl, ?_⟩
    repeat (first | refine Reg.o rfl rfl ?_ | refine Reg.on rfl rfl ?_ | refine Reg.s rfl ?_ | refine Reg.sn rfl ?_ | refine Reg.nil ?_ | refine DK.o rfl rfl ?_ | refine DK.on rfl rfl ?_ | refine DK.s rfl ?_ | refine DK.sn rfl ?_ | refine AWP.seq ?_ | refine AWP.region ?_ | refine AWP.dk mixed ?_ | refine AWP.condT rfl ?_ | refine AWP.condF rfl ?_ | refine AWP.skip ?_ | refine AWP.ret ?_ | refine AWP.exit ?_ | refine AWP.block ?_ )
    refine Reg.o rfl (dstep_idxH (q := k) rfl rfl rfl hkn (by simp)) ?_
    have hz : List.replicate n (zrow [(1, .bool false)]) = boolsR n fun _ => false := boolsR_rep n
    refine Reg.on rfl (dstep_stN (r := [.sc (.bool false)]) rfl rfl rfl (by rw [Nat.zero_add, hz]; exact boolsR_get hkn) rfl (Nat.le_refl _) rfl) ?_
    repeat (first | refine Reg.o rfl rfl ?_ | refine Reg.on rfl rfl ?_ | refine Reg.s rfl ?_ | refine Reg.sn rfl ?_ | refine Reg.nil ?_ | refine DK.o rfl rfl ?_ | refine DK.on rfl rfl ?_ | refine DK.s rfl ?_ | refine DK.sn rfl ?_ | refine AWP.seq ?_ | refine AWP.region ?_ | refine AWP.dk mixed ?_ | refine AWP.condT rfl ?_ | refine AWP.condF rfl ?_ | refine AWP.skip ?_ | refine AWP.ret ?_ | refine AWP.exit ?_ | refine AWP.block ?_ )
    refine AWP.loop (fun q : Nat => [(0, .sc (.int .i64 n)), (3, .hsl 0 0 0 k), (4, .sc (.int .i64 k)), (5, .ptr 3 0 0 0), (6, .sc (.int .i64 q))]) (fun q => [[nowB n ((init0 n).take k)], [.cells 1 (boolsR n (pr0 n k).w)], [.cells 1 (boolsR n fun j => decide (j < q))], [.cells 5 [row5 n]]]) (fun q => q ≤ n) (fun q => n - q) 0 (Nat.zero_le _) ?_ ?_
    · refine Sub.re [[(0, 0)], [(1, 1)], [(1, 3)], [(1, 5)]] rfl rfl rfl ⟨⟨⟨_, rfl, RenB.rows (rows := nowR n ((init0 n).take k)) rfl (pure_nowR _ _)⟩, trivial⟩, ⟨⟨_, rfl, RenB.rows (rows := (List.replicate n [.sc (.bool false)]).set (0 + k) [.sc (.bool true)]) ?_ (pure_boolsR _ _)⟩, trivial⟩,
        ⟨⟨_, rfl, RenB.rows (rows := List.replicate n [.sc (.bool false)]) ?_ (pure_boolsR _ _)⟩, trivial⟩, ⟨⟨_, rfl, RenB.one (sz := 5) (xs := [.hsl 1 1 0 n, .hsl 1 3 0 n, .sc (.bool false), .sc (.bool false), .sc (.int .i64 0)]) ⟨.hsl _ _ _ _ _ _ rfl, .hsl _ _ _ _ _ _ rfl, .sc _, .sc _, .sc _, trivial⟩⟩, trivial⟩, trivial⟩
        ⟨.int rfl, .hsl _ _ _ _ _ _ rfl, .int rfl, .ptr _ _ _ _ _ _ rfl, .int rfl, trivial⟩
      · rw [boolsR_rep, Nat.zero_add, boolsR_set]
        refine boolsR_congr fun j _ => ?_
        unfold pr0
        by_cases e : j = k <;> simp [e]
      · rw [boolsR_rep]
        exact boolsR_congr fun j _ => by simp
    intro q hq
    have hq1 : IntKind.i64.wrap ((q : Int) + 1) = ((q + 1 : Nat) : Int) := by rw [wrap_small (by omega) (by omega)]; omega
    repeat (first | refine Reg.o rfl rfl ?_ | refine Reg.on rfl rfl ?_ | refine Reg.s rfl ?_ | refine Reg.sn rfl ?_ | refine Reg.nil ?_ | refine DK.o rfl rfl ?_ | refine DK.on rfl rfl ?_ | refine DK.s rfl ?_ | refine DK.sn rfl ?_ | refine AWP.seq ?_ | refine AWP.region ?_ | refine AWP.dk mixed ?_ | refine AWP.condT rfl ?_ | refine AWP.condF rfl ?_ | refine AWP.skip ?_ | refine AWP.ret ?_ | refine AWP.exit ?_ | refine AWP.block ?_ )
    refine AWP.cond rfl (fun h => ?_) (fun h => ?_)
    · have hqn : q < n := by simpa using h
      repeat (first | refine Reg.o rfl rfl ?_ | refine Reg.on rfl rfl ?_ | refine Reg.s rfl ?_ | refine Reg.sn rfl ?_ | refine Reg.nil ?_ | refine DK.o rfl rfl ?_ | refine DK.on rfl rfl ?_ | refine DK.s rfl ?_ | refine DK.sn rfl ?_ | refine AWP.seq ?_ | refine AWP.region ?_ | refine AWP.dk mixed ?_ | refine AWP.condT rfl ?_ | refine AWP.condF rfl ?_ | refine AWP.skip ?_ | refine AWP.ret ?_ | refine AWP.exit ?_ | refine AWP.block ?_ )
      refine Reg.o rfl (dstep_idxH (q := q) rfl rfl rfl hqn (by simp [boolsR_len])) ?_
      refine Reg.on rfl (dstep_stN rfl rfl rfl (by rw [Nat.zero_add]; exact boolsR_get hqn) rfl (Nat.le_refl _) rfl) ?_
      repeat (first | refine Reg.o rfl rfl ?_ | refine Reg.on rfl rfl ?_ | refine Reg.s rfl ?_ | refine Reg.sn rfl ?_ | refine Reg.nil ?_ | refine DK.o rfl rfl ?_ | refine DK.on rfl rfl ?_ | refine DK.s rfl ?_ | refine DK.sn rfl ?_ | refine AWP.seq ?_ | refine AWP.region ?_ | refine AWP.dk mixed ?_ | refine AWP.condT rfl ?_ | refine AWP.condF rfl ?_ | refine AWP.skip ?_ | refine AWP.ret ?_ | refine AWP.exit ?_ | refine AWP.block ?_ )
      refine ⟨q + 1, by omega, by omega, Sub.re [[(0, 0)], [(1, 0)], [(2, 0)], [(3, 0)]] rfl rfl rfl ⟨⟨⟨_, rfl, RenB.rows (rows := nowR n ((init0 n).take k)) rfl (pure_nowR _ _)⟩, trivial⟩, ⟨⟨_, rfl, RenB.rows (rows := boolsR n (pr0 n k).w) rfl (pure_boolsR _ _)⟩, trivial⟩,
        ⟨⟨_, rfl, RenB.rows (rows := (boolsR n fun j => decide (j < q)).set (0 + q) [.sc (.bool true)]) ?_ (pure_boolsR _ _)⟩, trivial⟩, ⟨⟨_, rfl, RenB.one (sz := 5) (xs := row5 n) ⟨.hsl _ _ _ _ _ _ rfl, .hsl _ _ _ _ _ _ rfl, .sc _, .sc _, .sc _, trivial⟩⟩, trivial⟩, trivial⟩
        ⟨.int rfl, .hsl _ _ _ _ _ _ rfl, .int rfl, .ptr _ _ _ _ _ _ rfl, .int hq1, trivial⟩⟩
      rw [Nat.zero_add, boolsR_set]
      refine boolsR_congr fun j _ => ?_
      by_cases e : j = q
      · simp [e]
      · have : (j < q + 1) ↔ (j < q) := by omega
        simp [e, this]
    · have hqn : q = n := by
        have : ¬ q < n := by simpa using h
        omega
      repeat (first | refine Reg.o rfl rfl ?_ | refine Reg.on rfl rfl ?_ | refine Reg.s rfl ?_ | refine Reg.sn rfl ?_ | refine Reg.nil ?_ | refine DK.o rfl rfl ?_ | refine DK.on rfl rfl ?_ | refine DK.s rfl ?_ | refine DK.sn rfl ?_ | refine AWP.seq ?_ | refine AWP.region ?_ | refine AWP.dk mixed ?_ | refine AWP.condT rfl ?_ | refine AWP.condF rfl ?_ | refine AWP.skip ?_ | refine AWP.ret ?_ | refine AWP.exit ?_ | refine AWP.block ?_ )
      refine Reg.o rfl (dstep_app (rows1 := nowR n ((init0 n).take k)) (rows2 := [row5 n]) rfl rfl rfl (by unfold nowR; rw [List.length_map, hlk]) (by simp; omega) rfl) ?_
      repeat (first | refine Reg.o rfl rfl ?_ | refine Reg.on rfl rfl ?_ | refine Reg.s rfl ?_ | refine Reg.sn rfl ?_ | refine Reg.nil ?_ | refine DK.o rfl rfl ?_ | refine DK.on rfl rfl ?_ | refine DK.s rfl ?_ | refine DK.sn rfl ?_ | refine AWP.seq ?_ | refine AWP.region ?_ | refine AWP.dk mixed ?_ | refine AWP.condT rfl ?_ | refine AWP.condF rfl ?_ | refine AWP.skip ?_ | refine AWP.ret ?_ | refine AWP.exit ?_ | refine AWP.block ?_ )
      have hrow : rRow n (pr0 n k) = [boolsV n (pr0 n k).w, boolsV n (pr0 n k).h, .sc (.bool false), .sc (.bool false), .sc (.int .i64 0)] := rfl
      have hh : boolsR n (fun j => decide (j < q)) = boolsR n (pr0 n k).h := boolsR_congr fun j _ => by rw [hqn]; rfl
      refine ⟨k + 1, by omega, by omega, ?_⟩
      refine Sub.trans (Sub.re (fr' := [(0, .sc (.int .i64 n)), (3, .hsl 0 0 0 (k + 1)), (4, .sc (.int .i64 ((k + 1 : Nat) : Int)))]) (H' := [[.cells 5 (nowR n ((init0 n).take k) ++ [row5 n])], [.cells 1 (boolsR n (pr0 n k).w)], [.cells 1 (boolsR n (pr0 n k).h)]]) [[(5, 0)], [(1, 0)], [(2, 0)]] rfl rfl rfl
        ⟨⟨⟨_, rfl, RenB.snoc (pure_nowR _ _) (row := row5 n) ⟨.hsl _ _ _ _ _ _ rfl, .hsl _ _ _ _ _ _ rfl, .sc _, .sc _, .sc _, trivial⟩⟩, trivial⟩, ⟨⟨_, rfl, RenB.rows (rows := boolsR n (pr0 n k).w) rfl (pure_boolsR _ _)⟩, trivial⟩, ⟨⟨_, rfl, RenB.rows (rows := boolsR n fun j => decide (j < q)) hh (pure_boolsR _ _)⟩, trivial⟩, trivial⟩
        ⟨.int rfl, .hsl _ _ _ _ _ _ rfl, .int hk1, trivial⟩) ?_
      refine Sub.trans (Sub.frz s12 (frz12 (row' := rRow n (pr0 n k)) ?_) (fr' := [(0, .sc (.int .i64 n)), (3, .hsl 0 0 0 (k + 1)), (4, .sc (.int .i64 ((k + 1 : Nat) : Int)))]) (CongAll.mem ⟨.refl _, .refl _, .refl _, trivial⟩)) ?_
      · rw [hrow]
        exact ⟨X42.fzt_all rfl rfl (boolsR_len _ _), X42.fzt_all rfl rfl (boolsR_len _ _), .refl _, .refl _, .refl _, trivial⟩
      · refine Sub.re [[(0, 0)]] rfl rfl rfl ⟨⟨⟨_, rfl, RenB.rows (rows := nowR n ((init0 n).take k) ++ [rRow n (pr0 n k)]) ?_ (pure_nowR _ _)⟩, trivial⟩, trivial⟩ ⟨.int rfl, .hsl _ _ _ _ _ _ rfl, .int rfl, trivial⟩
        rw [init_take hkn]
        simp [nowR]
  · have hkn : k = n := by
      have : ¬ k < n := by simpa using h
      omega
    repeat (first | refine Reg.o rfl rfl ?_ | refine Reg.on rfl rfl ?_ | refine Reg.s rfl ?_ | refine Reg.sn rfl ?_ | refine Reg.nil ?_ | refine DK.o rfl rfl ?_ | refine DK.on rfl rfl ?_ | refine DK.s rfl ?_ | refine DK.sn rfl ?_ | refine AWP.seq ?_ | refine AWP.region ?_ | refine AWP.dk mixed ?_ | refine AWP.condT rfl ?_ | refine AWP.condF rfl ?_ | refine AWP.skip ?_ | refine AWP.ret ?_ | refine AWP.exit ?_ | refine AWP.block ?_ )
    refine fin_frz (R := fun res' _ => res' = .list 5 (nowR n (init0 n))) (.inr rfl) (res := .hsl 0 0 0 k) (res' := .list 5 (nowR n (init0 n))) rfl ?_ (.list _ _ (pure_nowR _ _)) rfl
    have e : (init0 n).take k = init0 n := List.take_of_length_le (by simp [init0]; omega)
    have e2 : nowR n (init0 n) = nowR n ((init0 n).take k) := by rw [e]
    rw [e2]
    exact FzA.all rfl (by unfold nowR; rw [List.length_map, hlk])

end Go.Proofs.Ytbpmbofinoinmaa
