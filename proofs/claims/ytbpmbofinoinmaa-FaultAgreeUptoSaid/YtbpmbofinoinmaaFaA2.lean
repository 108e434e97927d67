import Derived.Test.YtbpmbofinoinmaaFaA1
namespace Go.Proofs.Ytbpmbofinoinmaa
open Go.Av Go.Proofs

/-! take, walked. -/

def gInts (G : List (Nat × Msg)) : List (List AV) := G.map fun x => [.sc (.int .i64 (x.1 : Int))]
def gMsgs (G : List (Nat × Msg)) : List (List AV) := G.map fun x => msgRow x.2
theorem pure_gInts (G : List (Nat × Msg)) : Pure (.list 1 (gInts G)) := .list _ _ (allPure_map (fun _ => allPure_cons (.sc _) allPure_nil) G)
theorem pure_gMsgs (G : List (Nat × Msg)) : Pure (.list 65 (gMsgs G)) := .list _ _ (allPure_map (f := fun x : Nat × Msg => msgRow x.2) (fun x => pure_msgRow x.2) G)

theorem fin_procs {e : Exit} (he : e = .normal ∨ e = .ret) {rs : List IRes} {fr : Fr} {rows : List (List AV)} {X : Heap} {qs : List Pr} (hres : resOf fr ([.cells 130 rows] :: X) rs = some (.tup [])) (hr : rows = qs.map prRow) :
    (e = .normal ∨ e = .ret) ∧ ∃ res res' H2, resOf fr ([.cells 130 rows] :: X) rs = some res ∧ SubV 1 ([.cells 130 rows] :: X) res H2 res' ∧ (Pure res' ∧ H2 = [[procsB qs]]) :=
  ⟨he, .tup [], .tup [], [[procsB qs]], hres, SubV.ren (rho [[(0, 0)]]) (Numb.list rfl rfl rfl ⟨⟨⟨_, rfl, RenB.rows hr (pure_procs qs)⟩, trivial⟩, trivial⟩) (.pure (.tup _ allPure_nil)), .tup _ allPure_nil, rfl⟩

theorem zrow_b (n : Nat) : List.replicate n (AV.sc (.bool false)) = bset n fun _ => false := by simp [bset, List.map_const']

set_option maxHeartbeats 2000000 in
theorem take1_ok (ps : List Pr) (i : Nat) (p : Pr) (hp : ps[i]? = some p) (hi : i < 64) (r : Int) (G : List (Nat × Msg)) (hG : ∀ x ∈ G, x.1 < 64) (hl : G.length ≤ 1000) :
    CallOK Try.prog 45 [.ptr 0 0 i 0, .sc (.int .i64 i), .sc (.int .i64 r), .list 1 (gInts G), .list 65 (gMsgs G)] [[procsB ps]] (fun res H' => Pure res ∧ H' = [[procsB (ps.set i (takeS p i r G))]]) := by
  have hrow := procs_get hp
  have hlen := pr_len p
  have hil : i < ps.length := (List.getElem?_eq_some_iff.1 hp).1
  refine CallOK.of cF45 ?_ (by simp [F45])
  repeat (first | refine Reg.o rfl rfl ?_ | refine Reg.on rfl rfl ?_ | refine Reg.s rfl ?_ | refine Reg.sn rfl ?_ | refine Reg.nil ?_ | refine DK.o rfl rfl ?_ | refine DK.on rfl rfl ?_ | refine DK.s rfl ?_ | refine DK.sn rfl ?_ | refine AWP.seq ?_ | refine AWP.region ?_ | refine AWP.dk mixed ?_ | refine AWP.condT rfl ?_ | refine AWP.condF rfl ?_ | refine AWP.skip ?_ | refine AWP.ret ?_ | refine AWP.exit ?_ | refine AWP.block ?_ )
  refine Reg.o rfl (dstep_ld1 rfl rfl hrow (pr_d p)) ?_
  repeat (first | refine Reg.o rfl rfl ?_ | refine Reg.on rfl rfl ?_ | refine Reg.s rfl ?_ | refine Reg.sn rfl ?_ | refine Reg.nil ?_ | refine DK.o rfl rfl ?_ | refine DK.on rfl rfl ?_ | refine DK.s rfl ?_ | refine DK.sn rfl ?_ | refine AWP.seq ?_ | refine AWP.region ?_ | refine AWP.dk mixed ?_ | refine AWP.condT rfl ?_ | refine AWP.condF rfl ?_ | refine AWP.skip ?_ | refine AWP.ret ?_ | refine AWP.exit ?_ | refine AWP.block ?_ )
  refine AWP.cond rfl (fun hd => ?_) (fun hd => ?_)
  · have hd' : p.dec > 0 := by simpa using hd
    have e : takeS p i r G = { p with done := true } := by unfold takeS; rw [if_pos hd']
    repeat (first | refine Reg.o rfl rfl ?_ | refine Reg.on rfl rfl ?_ | refine Reg.s rfl ?_ | refine Reg.sn rfl ?_ | refine Reg.nil ?_ | refine DK.o rfl rfl ?_ | refine DK.on rfl rfl ?_ | refine DK.s rfl ?_ | refine DK.sn rfl ?_ | refine AWP.seq ?_ | refine AWP.region ?_ | refine AWP.dk mixed ?_ | refine AWP.condT rfl ?_ | refine AWP.condF rfl ?_ | refine AWP.skip ?_ | refine AWP.ret ?_ | refine AWP.exit ?_ | refine AWP.block ?_ )
    refine Reg.on rfl (dstep_stN rfl rfl rfl hrow rfl (by rw [hlen]; omega) rfl) ?_
    repeat (first | refine Reg.o rfl rfl ?_ | refine Reg.on rfl rfl ?_ | refine Reg.s rfl ?_ | refine Reg.sn rfl ?_ | refine Reg.nil ?_ | refine DK.o rfl rfl ?_ | refine DK.on rfl rfl ?_ | refine DK.s rfl ?_ | refine DK.sn rfl ?_ | refine AWP.seq ?_ | refine AWP.region ?_ | refine AWP.dk mixed ?_ | refine AWP.condT rfl ?_ | refine AWP.condF rfl ?_ | refine AWP.skip ?_ | refine AWP.ret ?_ | refine AWP.exit ?_ | refine AWP.block ?_ )
    exact fin_procs (.inr rfl) rfl (by rw [e, ← procs_set, Nat.zero_add, pr_setf])
  have hd' : ¬ p.dec > 0 := by simpa using hd
  have e : takeS p i r G = takeGo p r (addS (fun _ => false) i) p.w G := by unfold takeS; rw [if_neg hd']
  rw [e]
  repeat (first | refine Reg.o rfl rfl ?_ | refine Reg.on rfl rfl ?_ | refine Reg.s rfl ?_ | refine Reg.sn rfl ?_ | refine Reg.nil ?_ | refine DK.o rfl rfl ?_ | refine DK.on rfl rfl ?_ | refine DK.s rfl ?_ | refine DK.sn rfl ?_ | refine AWP.seq ?_ | refine AWP.region ?_ | refine AWP.dk mixed ?_ | refine AWP.condT rfl ?_ | refine AWP.condF rfl ?_ | refine AWP.skip ?_ | refine AWP.ret ?_ | refine AWP.exit ?_ | refine AWP.block ?_ )
  refine Reg.o rfl (dstep_idxArr (q := i) rfl rfl rfl hi) ?_
  refine Reg.on rfl (dstep_stN rfl rfl rfl rfl rfl (by show 0 + i * 1 + 1 ≤ 64; omega) rfl) ?_
  repeat (first | refine Reg.o rfl rfl ?_ | refine Reg.on rfl rfl ?_ | refine Reg.s rfl ?_ | refine Reg.sn rfl ?_ | refine Reg.nil ?_ | refine DK.o rfl rfl ?_ | refine DK.on rfl rfl ?_ | refine DK.s rfl ?_ | refine DK.sn rfl ?_ | refine AWP.seq ?_ | refine AWP.region ?_ | refine AWP.dk mixed ?_ | refine AWP.condT rfl ?_ | refine AWP.condF rfl ?_ | refine AWP.skip ?_ | refine AWP.ret ?_ | refine AWP.exit ?_ | refine AWP.block ?_ )
  refine Reg.o rfl (dstep_ldN rfl rfl hrow (by rw [hlen]; omega) (pr_w p)) ?_
  repeat (first | refine Reg.o rfl rfl ?_ | refine Reg.on rfl rfl ?_ | refine Reg.s rfl ?_ | refine Reg.sn rfl ?_ | refine Reg.nil ?_ | refine DK.o rfl rfl ?_ | refine DK.on rfl rfl ?_ | refine DK.s rfl ?_ | refine DK.sn rfl ?_ | refine AWP.seq ?_ | refine AWP.region ?_ | refine AWP.dk mixed ?_ | refine AWP.condT rfl ?_ | refine AWP.condF rfl ?_ | refine AWP.skip ?_ | refine AWP.ret ?_ | refine AWP.exit ?_ | refine AWP.block ?_ )
  refine AWP.loop (σ := Nat × (Nat → Bool) × (Nat → Bool)) (fun s => [(0, .ptr 0 0 i 0), (2, .sc (.int .i64 r)), (3, .list 1 (gInts G)), (10, .ptr 1 0 0 0), (11, .ptr 2 0 0 0), (28, .list 65 (gMsgs G)), (29, .sc (.int .i64 G.length)), (30, .sc (.int .i64 s.1))]) (fun s => [[procsB ps], [.cells 64 [bset 64 s.2.1]], [.cells 64 [bset 64 s.2.2]]])
    (fun s => s.1 ≤ G.length ∧ takeGo p r (addS (fun _ => false) i) p.w G = takeGo p r s.2.1 s.2.2 (G.drop s.1)) (fun s => G.length - s.1) (0, addS (fun _ => false) i, p.w) ⟨Nat.zero_le _, rfl⟩ ?_ ?_
  · refine Sub.re [[(0, 0)], [(1, 0)], [(2, 0)]] rfl rfl rfl ⟨⟨⟨_, rfl, RenB.rows (rows := ps.map prRow) rfl (pure_procs ps)⟩, trivial⟩, ⟨⟨_, rfl, RenB.row ?_ (pure_bset _ _)⟩, trivial⟩, ⟨⟨_, rfl, RenB.row ?_ (pure_bset _ _)⟩, trivial⟩, trivial⟩ ⟨.ptr _ _ _ _ _ _ rfl, .int rfl, .pure (pure_gInts G), .ptr _ _ _ _ _ _ rfl, .ptr _ _ _ _ _ _ rfl, .pure (pure_gMsgs G), .int (by simp [gMsgs]), .int rfl, trivial⟩
    · show lsplice (bset 64 fun _ => false) _ _ = _
      rw [Nat.mul_one, Nat.zero_add]
      exact bset_splice 64 _ i true
    · exact lsplice_all _ _ (by rw [bset_len]; rfl)
  rintro ⟨k, R, w⟩ ⟨hk, hgo⟩
  simp only at hk hgo
  have hk1 : IntKind.i64.wrap ((k : Int) + 1) = ((k + 1 : Nat) : Int) := by rw [wrap_small (by omega) (by omega)]; omega
  repeat (first | refine Reg.o rfl rfl ?_ | refine Reg.on rfl rfl ?_ | refine Reg.s rfl ?_ | refine Reg.sn rfl ?_ | refine Reg.nil ?_ | refine DK.o rfl rfl ?_ | refine DK.on rfl rfl ?_ | refine DK.s rfl ?_ | refine DK.sn rfl ?_ | refine AWP.seq ?_ | refine AWP.region ?_ | refine AWP.dk mixed ?_ | refine AWP.condT rfl ?_ | refine AWP.condF rfl ?_ | refine AWP.skip ?_ | refine AWP.ret ?_ | refine AWP.exit ?_ | refine AWP.block ?_ )
  refine AWP.cond rfl (fun h => ?_) (fun h => ?_)
  · have hkl : k < G.length := by simpa using h
    have hx1 : rowIx (gMsgs G) (k : Int) = some (msgRow G[k].2) := rowIx_map _ G k hkl
    have hx2 : rowIx (gInts G) (k : Int) = some [.sc (.int .i64 (G[k].1 : Int))] := rowIx_map _ G k hkl
    have hx3 := hG G[k] (List.getElem_mem hkl)
    have hdrop : G.drop k = G[k] :: G.drop (k + 1) := List.drop_eq_getElem_cons hkl
    generalize G[k] = x at hx1 hx2 hx3 hdrop
    rw [hdrop] at hgo
    have hml := msg_len x.2
    have eW : List.take 64 (List.drop (0 + 0) (lsplice (zrow [(65, .bool false)]) 0 (msgRow x.2))) = bset 64 x.2.w := by
      rw [lsplice_all _ _ (by rw [hml]; rfl)]
      exact msg_w x.2
    repeat (first | refine Reg.o rfl rfl ?_ | refine Reg.on rfl rfl ?_ | refine Reg.s rfl ?_ | refine Reg.sn rfl ?_ | refine Reg.nil ?_ | refine DK.o rfl rfl ?_ | refine DK.on rfl rfl ?_ | refine DK.s rfl ?_ | refine DK.sn rfl ?_ | refine AWP.seq ?_ | refine AWP.region ?_ | refine AWP.dk mixed ?_ | refine AWP.condT rfl ?_ | refine AWP.condF rfl ?_ | refine AWP.skip ?_ | refine AWP.ret ?_ | refine AWP.exit ?_ | refine AWP.block ?_ )
    refine Reg.o rfl (dstep_idxSl rfl rfl hx1) ?_
    refine Reg.o rfl (dstep_ldNC (cs := msgRow x.2) rfl (by rw [hml]; exact Nat.le_refl _) (List.take_of_length_le (by rw [hml]; exact Nat.le_refl _))) ?_
    repeat (first | refine Reg.o rfl rfl ?_ | refine Reg.on rfl rfl ?_ | refine Reg.s rfl ?_ | refine Reg.sn rfl ?_ | refine Reg.nil ?_ | refine DK.o rfl rfl ?_ | refine DK.on rfl rfl ?_ | refine DK.s rfl ?_ | refine DK.sn rfl ?_ | refine AWP.seq ?_ | refine AWP.region ?_ | refine AWP.dk mixed ?_ | refine AWP.condT rfl ?_ | refine AWP.condF rfl ?_ | refine AWP.skip ?_ | refine AWP.ret ?_ | refine AWP.exit ?_ | refine AWP.block ?_ )
    refine AWP.cond rfl (fun hf => ?_) (fun hf => ?_)
    · have e2 : takeGo p r R w (x :: G.drop (k + 1)) = { p with w := x.2.w, dec := r } := if_pos hf
      rw [hgo, e2]
      repeat (first | refine Reg.o rfl rfl ?_ | refine Reg.on rfl rfl ?_ | refine Reg.s rfl ?_ | refine Reg.sn rfl ?_ | refine Reg.nil ?_ | refine DK.o rfl rfl ?_ | refine DK.on rfl rfl ?_ | refine DK.s rfl ?_ | refine DK.sn rfl ?_ | refine AWP.seq ?_ | refine AWP.region ?_ | refine AWP.dk mixed ?_ | refine AWP.condT rfl ?_ | refine AWP.condF rfl ?_ | refine AWP.skip ?_ | refine AWP.ret ?_ | refine AWP.exit ?_ | refine AWP.block ?_ )
      rw [eW]
      refine Reg.on rfl (dstep_stN rfl rfl rfl hrow (bset_len _ _) (by rw [hlen]; omega) (bset_cell1 _ _)) ?_
      have e3 : (ps.map prRow).set i (lsplice (prRow p) (0 + 0) (bset 64 x.2.w)) = (ps.set i { p with w := x.2.w }).map prRow := by rw [← procs_set, Nat.zero_add, pr_setw]
      rw [e3]
      have hrow3 : ((ps.set i { p with w := x.2.w }).map prRow)[i]? = some (prRow { p with w := x.2.w }) := procs_get (List.getElem?_set_self hil)
      repeat (first | refine Reg.o rfl rfl ?_ | refine Reg.on rfl rfl ?_ | refine Reg.s rfl ?_ | refine Reg.sn rfl ?_ | refine Reg.nil ?_ | refine DK.o rfl rfl ?_ | refine DK.on rfl rfl ?_ | refine DK.s rfl ?_ | refine DK.sn rfl ?_ | refine AWP.seq ?_ | refine AWP.region ?_ | refine AWP.dk mixed ?_ | refine AWP.condT rfl ?_ | refine AWP.condF rfl ?_ | refine AWP.skip ?_ | refine AWP.ret ?_ | refine AWP.exit ?_ | refine AWP.block ?_ )
      refine Reg.on rfl (dstep_stN rfl rfl rfl hrow3 rfl (by rw [pr_len]; omega) rfl) ?_
      repeat (first | refine Reg.o rfl rfl ?_ | refine Reg.on rfl rfl ?_ | refine Reg.s rfl ?_ | refine Reg.sn rfl ?_ | refine Reg.nil ?_ | refine DK.o rfl rfl ?_ | refine DK.on rfl rfl ?_ | refine DK.s rfl ?_ | refine DK.sn rfl ?_ | refine AWP.seq ?_ | refine AWP.region ?_ | refine AWP.dk mixed ?_ | refine AWP.condT rfl ?_ | refine AWP.condF rfl ?_ | refine AWP.skip ?_ | refine AWP.ret ?_ | refine AWP.exit ?_ | refine AWP.block ?_ )
      refine fin_procs (qs := ps.set i { p with w := x.2.w, dec := r }) (.inr rfl) rfl ?_
      rw [Nat.zero_add, pr_setd, procs_set, List.set_set]
    · have e2 : takeGo p r R w (x :: G.drop (k + 1)) = takeGo p r (addS R x.1) (orS w x.2.w) (G.drop (k + 1)) := if_neg (by rw [hf]; decide)
      repeat (first | refine Reg.o rfl rfl ?_ | refine Reg.on rfl rfl ?_ | refine Reg.s rfl ?_ | refine Reg.sn rfl ?_ | refine Reg.nil ?_ | refine DK.o rfl rfl ?_ | refine DK.on rfl rfl ?_ | refine DK.s rfl ?_ | refine DK.sn rfl ?_ | refine AWP.seq ?_ | refine AWP.region ?_ | refine AWP.dk mixed ?_ | refine AWP.condT rfl ?_ | refine AWP.condF rfl ?_ | refine AWP.skip ?_ | refine AWP.ret ?_ | refine AWP.exit ?_ | refine AWP.block ?_ )
      refine Reg.o rfl (dstep_idxSl rfl rfl hx2) ?_
      repeat (first | refine Reg.o rfl rfl ?_ | refine Reg.on rfl rfl ?_ | refine Reg.s rfl ?_ | refine Reg.sn rfl ?_ | refine Reg.nil ?_ | refine DK.o rfl rfl ?_ | refine DK.on rfl rfl ?_ | refine DK.s rfl ?_ | refine DK.sn rfl ?_ | refine AWP.seq ?_ | refine AWP.region ?_ | refine AWP.dk mixed ?_ | refine AWP.condT rfl ?_ | refine AWP.condF rfl ?_ | refine AWP.skip ?_ | refine AWP.ret ?_ | refine AWP.exit ?_ | refine AWP.block ?_ )
      refine Reg.o rfl (dstep_idxArr (q := x.1) rfl rfl rfl hx3) ?_
      refine Reg.on rfl (dstep_stN rfl rfl rfl rfl rfl (by show 0 + x.1 * 1 + 1 ≤ (bset 64 R).length; rw [bset_len]; omega) rfl) ?_
      repeat (first | refine Reg.o rfl rfl ?_ | refine Reg.on rfl rfl ?_ | refine Reg.s rfl ?_ | refine Reg.sn rfl ?_ | refine Reg.nil ?_ | refine DK.o rfl rfl ?_ | refine DK.on rfl rfl ?_ | refine DK.s rfl ?_ | refine DK.sn rfl ?_ | refine AWP.seq ?_ | refine AWP.region ?_ | refine AWP.dk mixed ?_ | refine AWP.condT rfl ?_ | refine AWP.condF rfl ?_ | refine AWP.skip ?_ | refine AWP.ret ?_ | refine AWP.exit ?_ | refine AWP.block ?_ )
      rw [eW]
      refine Reg.c (show 1 ≤ 4 by omega) rfl ((join_at (s := w) (t := x.2.w) rfl).mono ?_)
      rintro res H' ⟨rfl, rfl⟩
      repeat (first | refine Reg.o rfl rfl ?_ | refine Reg.on rfl rfl ?_ | refine Reg.s rfl ?_ | refine Reg.sn rfl ?_ | refine Reg.nil ?_ | refine DK.o rfl rfl ?_ | refine DK.on rfl rfl ?_ | refine DK.s rfl ?_ | refine DK.sn rfl ?_ | refine AWP.seq ?_ | refine AWP.region ?_ | refine AWP.dk mixed ?_ | refine AWP.condT rfl ?_ | refine AWP.condF rfl ?_ | refine AWP.skip ?_ | refine AWP.ret ?_ | refine AWP.exit ?_ | refine AWP.block ?_ )
      refine ⟨(k + 1, addS R x.1, orS w x.2.w), ⟨by simp only; omega, by rw [hgo, e2]⟩, by simp only; omega, ?_⟩
      refine Sub.re [[(0, 0)], [(1, 0)], [(2, 0)]] rfl rfl rfl ⟨⟨⟨_, rfl, RenB.rows (rows := ps.map prRow) rfl (pure_procs ps)⟩, trivial⟩, ⟨⟨_, rfl, RenB.row ?_ (pure_bset _ _)⟩, trivial⟩, ⟨⟨_, rfl, RenB.row rfl (pure_bset _ _)⟩, trivial⟩, trivial⟩ ⟨.ptr _ _ _ _ _ _ rfl, .int rfl, .pure (pure_gInts G), .ptr _ _ _ _ _ _ rfl, .ptr _ _ _ _ _ _ rfl, .pure (pure_gMsgs G), .int rfl, .int hk1, trivial⟩
      show lsplice (bset 64 R) _ _ = _
      rw [Nat.mul_one, Nat.zero_add]
      exact bset_splice 64 R x.1 true
  · have hkl : k = G.length := by
      have : ¬ k < G.length := by simpa using h
      omega
    have hgo' : takeGo p r (addS (fun _ => false) i) p.w G = { p with w := w, dec := if eqB R p.h = true then r else p.dec, h := R } := by
      rw [hgo, hkl, List.drop_length]
      rfl
    rw [hgo']
    repeat (first | refine Reg.o rfl rfl ?_ | refine Reg.on rfl rfl ?_ | refine Reg.s rfl ?_ | refine Reg.sn rfl ?_ | refine Reg.nil ?_ | refine DK.o rfl rfl ?_ | refine DK.on rfl rfl ?_ | refine DK.s rfl ?_ | refine DK.sn rfl ?_ | refine AWP.seq ?_ | refine AWP.region ?_ | refine AWP.dk mixed ?_ | refine AWP.condT rfl ?_ | refine AWP.condF rfl ?_ | refine AWP.skip ?_ | refine AWP.ret ?_ | refine AWP.exit ?_ | refine AWP.block ?_ )
    have hwt : List.take 64 (List.drop 0 (bset 64 w)) = bset 64 w := take_drop0 (bset_len _ _)
    have hRt : List.take 64 (List.drop 0 (bset 64 R)) = bset 64 R := take_drop0 (bset_len _ _)
    refine Reg.on rfl (dstep_stN (cs := bset 64 w) rfl (by exact congrArg some hwt) rfl hrow (bset_len _ _) (by rw [hlen]; omega) (bset_cell1 _ _)) ?_
    have e3 : (ps.map prRow).set i (lsplice (prRow p) (0 + 0) (bset 64 w)) = (ps.set i { p with w := w }).map prRow := by rw [← procs_set, Nat.zero_add, pr_setw]
    rw [e3]
    have hrow3 : ((ps.set i { p with w := w }).map prRow)[i]? = some (prRow { p with w := w }) := procs_get (List.getElem?_set_self hil)
    repeat (first | refine Reg.o rfl rfl ?_ | refine Reg.on rfl rfl ?_ | refine Reg.s rfl ?_ | refine Reg.sn rfl ?_ | refine Reg.nil ?_ | refine DK.o rfl rfl ?_ | refine DK.on rfl rfl ?_ | refine DK.s rfl ?_ | refine DK.sn rfl ?_ | refine AWP.seq ?_ | refine AWP.region ?_ | refine AWP.dk mixed ?_ | refine AWP.condT rfl ?_ | refine AWP.condF rfl ?_ | refine AWP.skip ?_ | refine AWP.ret ?_ | refine AWP.exit ?_ | refine AWP.block ?_ )
    refine DK.o rfl (dstep_ldN rfl rfl hrow3 (by rw [pr_len]; omega) (pr_h _)) ?_
    refine DK.o rfl (dstep_eqArr (a := (List.range 64).map R) (b := (List.range 64).map p.h) (by exact congrArg AV.agg (hRt.trans (bset_bools 64 R))) (by exact congrArg AV.agg (bset_bools 64 p.h)) (by simp) (by simp)) ?_
    refine DK.nil ⟨by kernel_rfl, ?_⟩
    refine AWP.cond rfl (fun he => ?_) (fun he => ?_)
    · have he' : eqB R p.h = true := by unfold eqB; simpa using he
      rw [if_pos he']
      repeat (first | refine Reg.o rfl rfl ?_ | refine Reg.on rfl rfl ?_ | refine Reg.s rfl ?_ | refine Reg.sn rfl ?_ | refine Reg.nil ?_ | refine DK.o rfl rfl ?_ | refine DK.on rfl rfl ?_ | refine DK.s rfl ?_ | refine DK.sn rfl ?_ | refine AWP.seq ?_ | refine AWP.region ?_ | refine AWP.dk mixed ?_ | refine AWP.condT rfl ?_ | refine AWP.condF rfl ?_ | refine AWP.skip ?_ | refine AWP.ret ?_ | refine AWP.exit ?_ | refine AWP.block ?_ )
      refine Reg.on rfl (dstep_stN rfl rfl rfl hrow3 rfl (by rw [pr_len]; omega) rfl) ?_
      have e4 : ((ps.set i { p with w := w }).map prRow).set i (lsplice (prRow { p with w := w }) (0 + 128) [.sc (.int .i64 r)]) = (ps.set i { p with w := w, dec := r }).map prRow := by rw [Nat.zero_add, pr_setd, procs_set, List.set_set]
      rw [e4]
      have hrow4 : ((ps.set i { p with w := w, dec := r }).map prRow)[i]? = some (prRow { p with w := w, dec := r }) := procs_get (List.getElem?_set_self hil)
      repeat (first | refine Reg.o rfl rfl ?_ | refine Reg.on rfl rfl ?_ | refine Reg.s rfl ?_ | refine Reg.sn rfl ?_ | refine Reg.nil ?_ | refine DK.o rfl rfl ?_ | refine DK.on rfl rfl ?_ | refine DK.s rfl ?_ | refine DK.sn rfl ?_ | refine AWP.seq ?_ | refine AWP.region ?_ | refine AWP.dk mixed ?_ | refine AWP.condT rfl ?_ | refine AWP.condF rfl ?_ | refine AWP.skip ?_ | refine AWP.ret ?_ | refine AWP.exit ?_ | refine AWP.block ?_ )
      refine Reg.on rfl (dstep_stN (cs := bset 64 R) rfl (by exact congrArg some hRt) rfl hrow4 (bset_len _ _) (by rw [pr_len]; omega) (bset_cell1 _ _)) ?_
      repeat (first | refine Reg.o rfl rfl ?_ | refine Reg.on rfl rfl ?_ | refine Reg.s rfl ?_ | refine Reg.sn rfl ?_ | refine Reg.nil ?_ | refine DK.o rfl rfl ?_ | refine DK.on rfl rfl ?_ | refine DK.s rfl ?_ | refine DK.sn rfl ?_ | refine AWP.seq ?_ | refine AWP.region ?_ | refine AWP.dk mixed ?_ | refine AWP.condT rfl ?_ | refine AWP.condF rfl ?_ | refine AWP.skip ?_ | refine AWP.ret ?_ | refine AWP.exit ?_ | refine AWP.block ?_ )
      refine fin_procs (qs := ps.set i { p with w := w, dec := r, h := R }) (.inl rfl) rfl ?_
      rw [Nat.zero_add, pr_seth, procs_set, List.set_set]
    · have he' : ¬ eqB R p.h = true := by unfold eqB; simpa using he
      rw [if_neg he']
      repeat (first | refine Reg.o rfl rfl ?_ | refine Reg.on rfl rfl ?_ | refine Reg.s rfl ?_ | refine Reg.sn rfl ?_ | refine Reg.nil ?_ | refine DK.o rfl rfl ?_ | refine DK.on rfl rfl ?_ | refine DK.s rfl ?_ | refine DK.sn rfl ?_ | refine AWP.seq ?_ | refine AWP.region ?_ | refine AWP.dk mixed ?_ | refine AWP.condT rfl ?_ | refine AWP.condF rfl ?_ | refine AWP.skip ?_ | refine AWP.ret ?_ | refine AWP.exit ?_ | refine AWP.block ?_ )
      refine Reg.on rfl (dstep_stN (cs := bset 64 R) rfl (by exact congrArg some hRt) rfl hrow3 (bset_len _ _) (by rw [pr_len]; omega) (bset_cell1 _ _)) ?_
      repeat (first | refine Reg.o rfl rfl ?_ | refine Reg.on rfl rfl ?_ | refine Reg.s rfl ?_ | refine Reg.sn rfl ?_ | refine Reg.nil ?_ | refine DK.o rfl rfl ?_ | refine DK.on rfl rfl ?_ | refine DK.s rfl ?_ | refine DK.sn rfl ?_ | refine AWP.seq ?_ | refine AWP.region ?_ | refine AWP.dk mixed ?_ | refine AWP.condT rfl ?_ | refine AWP.condF rfl ?_ | refine AWP.skip ?_ | refine AWP.ret ?_ | refine AWP.exit ?_ | refine AWP.block ?_ )
      refine fin_procs (qs := ps.set i { p with w := w, h := R }) (.inl rfl) rfl ?_
      rw [Nat.zero_add, pr_seth, procs_set, List.set_set]

end Go.Proofs.Ytbpmbofinoinmaa
