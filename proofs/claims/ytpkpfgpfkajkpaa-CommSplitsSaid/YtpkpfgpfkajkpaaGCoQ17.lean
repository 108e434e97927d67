import Derived.Test.YtpkpfgpfkajkpaaGCoQ15
namespace Go.Proofs.Ytpkpfgpfkajkpaa
open Go.Av Go.Proofs
set_option maxRecDepth 20000
set_option maxHeartbeats 32000000 in
theorem split_one1 (cs : List (List Nat)) (ks : List Int) (n : Nat) (sn : List Nat) (f : Nat → Nat) (E : List Nat) (R2 R3 R4 : List (List AV)) (PR : List (List AV)) (hPR : PRs PR) (hR2 : PRs R2) (hR3 : PRs R3) (hR4 : PRs R4) (W : Nat → Int) (i m : Nat) (hcb : ∀ c ∈ sn, c = 1 ∨ c = 2 ∨ c = 3 ∨ c = 4) (hs : 1 ∈ sn) (hE : E.Pairwise (· < ·)) (hlt : ∀ x ∈ E, x < n) (hE0 : 0 < E.length) (hE1 : E.length ≤ 64) (hf : f 1 = E.length) (hkl : ks.length = n) (hn : n ≤ 64) (hc : 0 < cs.length) (hcn : cs.length < 64) (h0 : ∀ c ∈ cs, 0 < c.length ∧ c.length ≤ 64) (hi : rowIx PR (i : Int) = some [.sc (.int .i64 ((1 : Nat) : Int))]) :
  AWP Try.prog F22.n 2 (pickI [1, 1, 1, 1, 1, 1, 1, 0, 1, 0, 0, 1, 1, 0] F22.code) (fun e fr' H' => e = .normal ∧ ∃ D : List Nat, D.Perm E ∧ D.Pairwise (ltK ks) ∧ Sub 2 F22.n fr' H' [(0, .ptr 0 0 0 0), (7, .cptr [.list 1 (intsR ks)]), (10, .list 1 (natsR (List.range n))), (12, .mref 2 0), (15, .hsl 7 0 0 n), (84, .list 1 PR), (85, .sc (.int .i64 (m : Int))), (86, .sc (.int .i64 (i : Int)))] [[.cells 1 [[.mref 1 0]]], [.map (docM (cs ++ [D]))], [.map (colG sn (slotV f))], [.cells 1 (natsR D)], [.cells 1 (R2)], [.cells 1 (R3)], [.cells 1 (R4)], [.cells 1 (fnR n (fun r => if r ∈ D then (cs.length : Int) else W r))]]) [(0, .ptr 0 0 0 0), (7, .cptr [.list 1 (intsR ks)]), (10, .list 1 (natsR (List.range n))), (12, .mref 2 0), (15, .hsl 7 0 0 n), (84, .list 1 PR), (85, .sc (.int .i64 (m : Int))), (86, .sc (.int .i64 (i : Int)))] [[.cells 1 [[.mref 1 0]]], [.map (docM cs)], [.map (colG sn (slotV f))], [.cells 1 (natsR E)], [.cells 1 (R2)], [.cells 1 (R3)], [.cells 1 (R4)], [.cells 1 (fnR n W)]] := by
 have hm : mfind .i64 ((1 : Nat) : Int) (colG sn (slotV f)) = some (some (.hsl 3 0 0 E.length)) := by
  have := colG_find (slotV f) 1 sn
  rw [if_pos hs] at this
  rw [this, ← hf]
  rfl
 have hst := stable_at (H := [[.cells 1 [[.mref 1 0]]], [.map (docM cs)], [.map (colG sn (slotV f))], [.cells 1 (natsR E)], [.cells 1 (R2)], [.cells 1 (R3)], [.cells 1 (R4)], [.cells 1 (fnR n W)]]) (g := 3) (i := 0) (n := E.length) ks E hE (fun x hx => by rw [hkl]; exact hlt x hx) hE1 rfl rfl
 have hp1 : PRs (natsR (List.range n)) := inferInstance
 have e2 := intsR_len ks
 show AWP Try.prog F22.n 2 (.block 4 _) _ _ _
 refine AWP.block ?_
 refine AWP.seq ?_
 refine AWP.region ?_
 refine walkX ?_
 refine Reg.o rfl (dstep_lookD (es := colG sn (slotV f)) rfl rfl rfl hm) ?_
 refine walkX ?_
 refine Reg.c (Nat.le_of_ble_eq_true rfl) rfl (hst.mono ?_)
 rintro res H' ⟨rfl, D, hD1, hD2, rfl⟩
 show Reg _ _ _ _ _ [[.cells 1 [[.mref 1 0]]], [.map (docM cs)], [.map (colG sn (slotV f))], [.cells 1 (natsR D)], [.cells 1 (R2)], [.cells 1 (R3)], [.cells 1 (R4)], [.cells 1 (fnR n W)]] _
 have hnd : D.Nodup := hD1.nodup_iff.2 (hE.imp fun h => Nat.ne_of_lt h)
 have hDl : D.length = E.length := hD1.length_eq
 have hDlt : ∀ x ∈ D, x < n := fun x hx => hlt x (hD1.mem_iff.1 hx)
 have hin := incl_at (H := [[.cells 1 [[.mref 1 0]]], [.map (docM cs)], [.map (colG sn (slotV f))], [.cells 1 (natsR D)], [.cells 1 (R2)], [.cells 1 (R3)], [.cells 1 (R4)], [.cells 1 (fnR n W)]]) (g := 3) (i := 0) (m := E.length) hn hnd hDlt (by omega) hDl.symm rfl
 have e0 := natsR_len D
 rw [hDl] at e0
 clear hst
 refine walkX ?_
 refine Reg.o rfl (dstep_lookD (es := colG sn (slotV f)) rfl rfl rfl hm) ?_
 refine Reg.c (Nat.le_of_ble_eq_true rfl) rfl (hin.mono ?_)
 rintro res H' ⟨rfl, rfl⟩
 show Reg _ _ _ _ _ [[.cells 1 [[.mref 1 0]]], [.map (docM cs)], [.map (colG sn (slotV f))], [.cells 1 (natsR D)], [.cells 1 (R2)], [.cells 1 (R3)], [.cells 1 (R4)], [.cells 1 (fnR n W)], [.cells 1 (natsR D)]] _
 clear hin
 refine walkX ?_
 refine Reg.sub (fr' := [(0, .ptr 0 0 0 0), (7, .cptr [.list 1 (intsR ks)]), (10, .list 1 (natsR (List.range n))), (12, .mref 2 0), (15, .hsl 7 0 0 n), (84, .list 1 PR), (85, .sc (.int .i64 (m : Int))), (86, .sc (.int .i64 (i : Int))), (17, .sc (.int .i64 ((1 : Nat) : Int))), (104, .ptr 0 0 0 0), (105, natsV D)]) (H' := [[.cells 1 [[.mref 1 0]]], [.map (docM cs)], [.map (colG sn (slotV f))], [.cells 1 (natsR D)], [.cells 1 (R2)], [.cells 1 (R3)], [.cells 1 (R4)], [.cells 1 (fnR n W)]]) ?_ ?_
 ·exact sub_wm [] [[(0,0)],[(1,0)],[(2,0)],[(3,0)],[(4,0)],[(5,0)],[(6,0)],[(7,0)]]
 have had := CallOK.doc (R := fun res cs' => res = .tup [.sc (.int .i64 (cs.length : Int)), .sc (.int .i64 0)] ∧ cs' = cs ++ [D]) [[.map (colG sn (slotV f))], [.cells 1 (natsR D)], [.cells 1 (R2)], [.cells 1 (R3)], [.cells 1 (R4)], [.cells 1 (fnR n W)]] ((add_ok cs D hc hcn h0 (by omega)).mono fun res H' hq => ⟨cs ++ [D], hq.2, by rw [hq.1]; exact .tup _ (allPure_cons (.sc _) (allPure_cons (.sc _) allPure_nil)), hq.1, rfl⟩) (fun a ha => by
  rcases List.mem_cons.1 ha with rfl | ha
  ·exact .inl rfl
  ·rw [List.mem_singleton.1 ha]
   exact .inr (pv _))
 refine Reg.c (Nat.le_of_ble_eq_true rfl) rfl (had.mono ?_)
 rintro res H' ⟨cs', rfl, rfl, rfl⟩
 clear had
 show Reg _ _ _ _ _ [[.cells 1 [[.mref 1 0]]], [.map (docM (cs ++ [D]))], [.map (colG sn (slotV f))], [.cells 1 (natsR D)], [.cells 1 (R2)], [.cells 1 (R3)], [.cells 1 (R4)], [.cells 1 (fnR n W)]] _
 have hp2 : PM (docM (cs ++ [D])) := inferInstance
 refine walkX ?_
 refine Reg.o rfl (dstep_lookD (es := colG sn (slotV f)) rfl rfl rfl hm) ?_
 refine walkX ?_
 refine AWP.loop (fun k : Nat => [(0, .ptr 0 0 0 0), (7, .cptr [.list 1 (intsR ks)]), (10, .list 1 (natsR (List.range n))), (12, .mref 2 0), (15, .hsl 7 0 0 n), (84, .list 1 PR), (85, .sc (.int .i64 (m : Int))), (86, .sc (.int .i64 (i : Int))), (20, .sc (.int .i64 (cs.length : Int))), (114, .hsl 3 0 0 E.length), (115, .sc (.int .i64 (E.length : Int))), (116, .sc (.int .i64 (k : Int)))]) (fun k => [[.cells 1 [[.mref 1 0]]], [.map (docM (cs ++ [D]))], [.map (colG sn (slotV f))], [.cells 1 (natsR D)], [.cells 1 (R2)], [.cells 1 (R3)], [.cells 1 (R4)], [.cells 1 (fnR n (fun r => if r ∈ D.take k then (cs.length : Int) else W r))]]) (fun k => k ≤ E.length) (fun k => E.length - k) 0 (Nat.zero_le _) ?_ ?_
 ·have hw : fnR n (fun r => if r ∈ D.take 0 then (cs.length : Int) else W r) = fnR n W := fnR_congr fun j _ => by simp
  rw [hw]
  exact sub_wm [] [[(0,0)],[(1,0)],[(2,0)],[(3,0)],[(4,0)],[(5,0)],[(6,0)],[(7,0)]]
 rintro k hk
 refine walkX0 ?_
 refine AWP.condD rfl (fun h => ?_) (fun h => ?_)
 ·have hkD : k < D.length := by omega
  have g0 := natsR_ix D k hkD
  have hx : D[k] < n := hDlt _ (List.getElem_mem _)
  have g1 := fnR_ix (n := n) (fun r => if r ∈ D.take k then (cs.length : Int) else W r) hx
  have g2 := fnR_set (n := n) (fun r => if r ∈ D.take k then (cs.length : Int) else W r) (k := D[k]) (cs.length : Int)
  have g3 : fnR n (fun j => if j = D[k] then (cs.length : Int) else if j ∈ D.take k then (cs.length : Int) else W j) = fnR n (fun r => if r ∈ D.take (k + 1) then (cs.length : Int) else W r) := fnR_congr fun j _ => by
   rw [List.take_succ_eq_append_getElem hkD]
   by_cases q1 : j = D[k]
   ·rw [if_pos q1, if_pos (List.mem_append_right _ (List.mem_singleton.2 q1))]
   ·rw [if_neg q1]
    by_cases q2 : j ∈ D.take k
    ·rw [if_pos q2, if_pos (List.mem_append_left _ q2)]
    ·rw [if_neg q2, if_neg]
     intro e
     rcases List.mem_append.1 e with e | e
     ·exact q2 e
     ·exact q1 (List.mem_singleton.1 e)
  have g4 := fnR_len n (fun r => if r ∈ D.take k then (cs.length : Int) else W r)
  have hp3 : PRs (fnR n (fun r => if r ∈ D.take k then (cs.length : Int) else W r)) := inferInstance
  rw [g3] at g2
  clear g3
  have hp4 : PRs (natsR D) := inferInstance
  generalize D[k] = x at *
  generalize (if x ∈ D.take k then (cs.length : Int) else W x) = v0 at *
  generalize fnR n (fun r => if r ∈ D.take k then (cs.length : Int) else W r) = WR at *
  refine walkX ?_
  refine ⟨k + 1, by omega, by omega, ?_⟩
  rw [← g2]
  exact sub_wm [] [[(0,0)],[(1,0)],[(2,0)],[(3,0)],[(4,0)],[(5,0)],[(6,0)],[(7,0)]]
 have hk2 : k = D.length := by omega
 subst hk2
 rw [List.take_length]
 refine walkX ?_
 refine And.intro rfl ⟨D, hD1, hD2, ?_⟩
 exact sub_wm [] [[(0,0)],[(1,0)],[(2,0)],[(3,0)],[(4,0)],[(5,0)],[(6,0)],[(7,0)]]
end Go.Proofs.Ytpkpfgpfkajkpaa
namespace Go.Proofs.Ytpkpfgpfkajkpaa
open Go.Av Go.Proofs
set_option maxRecDepth 20000
set_option maxHeartbeats 32000000 in
theorem split_one2 (cs : List (List Nat)) (ks : List Int) (n : Nat) (sn : List Nat) (f : Nat → Nat) (E : List Nat) (R1 R3 R4 : List (List AV)) (PR : List (List AV)) (hPR : PRs PR) (hR1 : PRs R1) (hR3 : PRs R3) (hR4 : PRs R4) (W : Nat → Int) (i m : Nat) (hcb : ∀ c ∈ sn, c = 1 ∨ c = 2 ∨ c = 3 ∨ c = 4) (hs : 2 ∈ sn) (hE : E.Pairwise (· < ·)) (hlt : ∀ x ∈ E, x < n) (hE0 : 0 < E.length) (hE1 : E.length ≤ 64) (hf : f 2 = E.length) (hkl : ks.length = n) (hn : n ≤ 64) (hc : 0 < cs.length) (hcn : cs.length < 64) (h0 : ∀ c ∈ cs, 0 < c.length ∧ c.length ≤ 64) (hi : rowIx PR (i : Int) = some [.sc (.int .i64 ((2 : Nat) : Int))]) :
  AWP Try.prog F22.n 2 (pickI [1, 1, 1, 1, 1, 1, 1, 0, 1, 0, 0, 1, 1, 0] F22.code) (fun e fr' H' => e = .normal ∧ ∃ D : List Nat, D.Perm E ∧ D.Pairwise (ltK ks) ∧ Sub 2 F22.n fr' H' [(0, .ptr 0 0 0 0), (7, .cptr [.list 1 (intsR ks)]), (10, .list 1 (natsR (List.range n))), (12, .mref 2 0), (15, .hsl 7 0 0 n), (84, .list 1 PR), (85, .sc (.int .i64 (m : Int))), (86, .sc (.int .i64 (i : Int)))] [[.cells 1 [[.mref 1 0]]], [.map (docM (cs ++ [D]))], [.map (colG sn (slotV f))], [.cells 1 (R1)], [.cells 1 (natsR D)], [.cells 1 (R3)], [.cells 1 (R4)], [.cells 1 (fnR n (fun r => if r ∈ D then (cs.length : Int) else W r))]]) [(0, .ptr 0 0 0 0), (7, .cptr [.list 1 (intsR ks)]), (10, .list 1 (natsR (List.range n))), (12, .mref 2 0), (15, .hsl 7 0 0 n), (84, .list 1 PR), (85, .sc (.int .i64 (m : Int))), (86, .sc (.int .i64 (i : Int)))] [[.cells 1 [[.mref 1 0]]], [.map (docM cs)], [.map (colG sn (slotV f))], [.cells 1 (R1)], [.cells 1 (natsR E)], [.cells 1 (R3)], [.cells 1 (R4)], [.cells 1 (fnR n W)]] := by
 have hm : mfind .i64 ((2 : Nat) : Int) (colG sn (slotV f)) = some (some (.hsl 4 0 0 E.length)) := by
  have := colG_find (slotV f) 2 sn
  rw [if_pos hs] at this
  rw [this, ← hf]
  rfl
 have hst := stable_at (H := [[.cells 1 [[.mref 1 0]]], [.map (docM cs)], [.map (colG sn (slotV f))], [.cells 1 (R1)], [.cells 1 (natsR E)], [.cells 1 (R3)], [.cells 1 (R4)], [.cells 1 (fnR n W)]]) (g := 4) (i := 0) (n := E.length) ks E hE (fun x hx => by rw [hkl]; exact hlt x hx) hE1 rfl rfl
 have hp1 : PRs (natsR (List.range n)) := inferInstance
 have e2 := intsR_len ks
 show AWP Try.prog F22.n 2 (.block 4 _) _ _ _
 refine AWP.block ?_
 refine AWP.seq ?_
 refine AWP.region ?_
 refine walkX ?_
 refine Reg.o rfl (dstep_lookD (es := colG sn (slotV f)) rfl rfl rfl hm) ?_
 refine walkX ?_
 refine Reg.c (Nat.le_of_ble_eq_true rfl) rfl (hst.mono ?_)
 rintro res H' ⟨rfl, D, hD1, hD2, rfl⟩
 show Reg _ _ _ _ _ [[.cells 1 [[.mref 1 0]]], [.map (docM cs)], [.map (colG sn (slotV f))], [.cells 1 (R1)], [.cells 1 (natsR D)], [.cells 1 (R3)], [.cells 1 (R4)], [.cells 1 (fnR n W)]] _
 have hnd : D.Nodup := hD1.nodup_iff.2 (hE.imp fun h => Nat.ne_of_lt h)
 have hDl : D.length = E.length := hD1.length_eq
 have hDlt : ∀ x ∈ D, x < n := fun x hx => hlt x (hD1.mem_iff.1 hx)
 have hin := incl_at (H := [[.cells 1 [[.mref 1 0]]], [.map (docM cs)], [.map (colG sn (slotV f))], [.cells 1 (R1)], [.cells 1 (natsR D)], [.cells 1 (R3)], [.cells 1 (R4)], [.cells 1 (fnR n W)]]) (g := 4) (i := 0) (m := E.length) hn hnd hDlt (by omega) hDl.symm rfl
 have e0 := natsR_len D
 rw [hDl] at e0
 clear hst
 refine walkX ?_
 refine Reg.o rfl (dstep_lookD (es := colG sn (slotV f)) rfl rfl rfl hm) ?_
 refine Reg.c (Nat.le_of_ble_eq_true rfl) rfl (hin.mono ?_)
 rintro res H' ⟨rfl, rfl⟩
 show Reg _ _ _ _ _ [[.cells 1 [[.mref 1 0]]], [.map (docM cs)], [.map (colG sn (slotV f))], [.cells 1 (R1)], [.cells 1 (natsR D)], [.cells 1 (R3)], [.cells 1 (R4)], [.cells 1 (fnR n W)], [.cells 1 (natsR D)]] _
 clear hin
 refine walkX ?_
 refine Reg.sub (fr' := [(0, .ptr 0 0 0 0), (7, .cptr [.list 1 (intsR ks)]), (10, .list 1 (natsR (List.range n))), (12, .mref 2 0), (15, .hsl 7 0 0 n), (84, .list 1 PR), (85, .sc (.int .i64 (m : Int))), (86, .sc (.int .i64 (i : Int))), (17, .sc (.int .i64 ((2 : Nat) : Int))), (104, .ptr 0 0 0 0), (105, natsV D)]) (H' := [[.cells 1 [[.mref 1 0]]], [.map (docM cs)], [.map (colG sn (slotV f))], [.cells 1 (R1)], [.cells 1 (natsR D)], [.cells 1 (R3)], [.cells 1 (R4)], [.cells 1 (fnR n W)]]) ?_ ?_
 ·exact sub_wm [] [[(0,0)],[(1,0)],[(2,0)],[(3,0)],[(4,0)],[(5,0)],[(6,0)],[(7,0)]]
 have had := CallOK.doc (R := fun res cs' => res = .tup [.sc (.int .i64 (cs.length : Int)), .sc (.int .i64 0)] ∧ cs' = cs ++ [D]) [[.map (colG sn (slotV f))], [.cells 1 (R1)], [.cells 1 (natsR D)], [.cells 1 (R3)], [.cells 1 (R4)], [.cells 1 (fnR n W)]] ((add_ok cs D hc hcn h0 (by omega)).mono fun res H' hq => ⟨cs ++ [D], hq.2, by rw [hq.1]; exact .tup _ (allPure_cons (.sc _) (allPure_cons (.sc _) allPure_nil)), hq.1, rfl⟩) (fun a ha => by
  rcases List.mem_cons.1 ha with rfl | ha
  ·exact .inl rfl
  ·rw [List.mem_singleton.1 ha]
   exact .inr (pv _))
 refine Reg.c (Nat.le_of_ble_eq_true rfl) rfl (had.mono ?_)
 rintro res H' ⟨cs', rfl, rfl, rfl⟩
 clear had
 show Reg _ _ _ _ _ [[.cells 1 [[.mref 1 0]]], [.map (docM (cs ++ [D]))], [.map (colG sn (slotV f))], [.cells 1 (R1)], [.cells 1 (natsR D)], [.cells 1 (R3)], [.cells 1 (R4)], [.cells 1 (fnR n W)]] _
 have hp2 : PM (docM (cs ++ [D])) := inferInstance
 refine walkX ?_
 refine Reg.o rfl (dstep_lookD (es := colG sn (slotV f)) rfl rfl rfl hm) ?_
 refine walkX ?_
 refine AWP.loop (fun k : Nat => [(0, .ptr 0 0 0 0), (7, .cptr [.list 1 (intsR ks)]), (10, .list 1 (natsR (List.range n))), (12, .mref 2 0), (15, .hsl 7 0 0 n), (84, .list 1 PR), (85, .sc (.int .i64 (m : Int))), (86, .sc (.int .i64 (i : Int))), (20, .sc (.int .i64 (cs.length : Int))), (114, .hsl 4 0 0 E.length), (115, .sc (.int .i64 (E.length : Int))), (116, .sc (.int .i64 (k : Int)))]) (fun k => [[.cells 1 [[.mref 1 0]]], [.map (docM (cs ++ [D]))], [.map (colG sn (slotV f))], [.cells 1 (R1)], [.cells 1 (natsR D)], [.cells 1 (R3)], [.cells 1 (R4)], [.cells 1 (fnR n (fun r => if r ∈ D.take k then (cs.length : Int) else W r))]]) (fun k => k ≤ E.length) (fun k => E.length - k) 0 (Nat.zero_le _) ?_ ?_
 ·have hw : fnR n (fun r => if r ∈ D.take 0 then (cs.length : Int) else W r) = fnR n W := fnR_congr fun j _ => by simp
  rw [hw]
  exact sub_wm [] [[(0,0)],[(1,0)],[(2,0)],[(3,0)],[(4,0)],[(5,0)],[(6,0)],[(7,0)]]
 rintro k hk
 refine walkX0 ?_
 refine AWP.condD rfl (fun h => ?_) (fun h => ?_)
 ·have hkD : k < D.length := by omega
  have g0 := natsR_ix D k hkD
  have hx : D[k] < n := hDlt _ (List.getElem_mem _)
  have g1 := fnR_ix (n := n) (fun r => if r ∈ D.take k then (cs.length : Int) else W r) hx
  have g2 := fnR_set (n := n) (fun r => if r ∈ D.take k then (cs.length : Int) else W r) (k := D[k]) (cs.length : Int)
  have g3 : fnR n (fun j => if j = D[k] then (cs.length : Int) else if j ∈ D.take k then (cs.length : Int) else W j) = fnR n (fun r => if r ∈ D.take (k + 1) then (cs.length : Int) else W r) := fnR_congr fun j _ => by
   rw [List.take_succ_eq_append_getElem hkD]
   by_cases q1 : j = D[k]
   ·rw [if_pos q1, if_pos (List.mem_append_right _ (List.mem_singleton.2 q1))]
   ·rw [if_neg q1]
    by_cases q2 : j ∈ D.take k
    ·rw [if_pos q2, if_pos (List.mem_append_left _ q2)]
    ·rw [if_neg q2, if_neg]
     intro e
     rcases List.mem_append.1 e with e | e
     ·exact q2 e
     ·exact q1 (List.mem_singleton.1 e)
  have g4 := fnR_len n (fun r => if r ∈ D.take k then (cs.length : Int) else W r)
  have hp3 : PRs (fnR n (fun r => if r ∈ D.take k then (cs.length : Int) else W r)) := inferInstance
  rw [g3] at g2
  clear g3
  have hp4 : PRs (natsR D) := inferInstance
  generalize D[k] = x at *
  generalize (if x ∈ D.take k then (cs.length : Int) else W x) = v0 at *
  generalize fnR n (fun r => if r ∈ D.take k then (cs.length : Int) else W r) = WR at *
  refine walkX ?_
  refine ⟨k + 1, by omega, by omega, ?_⟩
  rw [← g2]
  exact sub_wm [] [[(0,0)],[(1,0)],[(2,0)],[(3,0)],[(4,0)],[(5,0)],[(6,0)],[(7,0)]]
 have hk2 : k = D.length := by omega
 subst hk2
 rw [List.take_length]
 refine walkX ?_
 refine And.intro rfl ⟨D, hD1, hD2, ?_⟩
 exact sub_wm [] [[(0,0)],[(1,0)],[(2,0)],[(3,0)],[(4,0)],[(5,0)],[(6,0)],[(7,0)]]
end Go.Proofs.Ytpkpfgpfkajkpaa
namespace Go.Proofs.Ytpkpfgpfkajkpaa
open Go.Av Go.Proofs
set_option maxRecDepth 20000
set_option maxHeartbeats 32000000 in
theorem split_one3 (cs : List (List Nat)) (ks : List Int) (n : Nat) (sn : List Nat) (f : Nat → Nat) (E : List Nat) (R1 R2 R4 : List (List AV)) (PR : List (List AV)) (hPR : PRs PR) (hR1 : PRs R1) (hR2 : PRs R2) (hR4 : PRs R4) (W : Nat → Int) (i m : Nat) (hcb : ∀ c ∈ sn, c = 1 ∨ c = 2 ∨ c = 3 ∨ c = 4) (hs : 3 ∈ sn) (hE : E.Pairwise (· < ·)) (hlt : ∀ x ∈ E, x < n) (hE0 : 0 < E.length) (hE1 : E.length ≤ 64) (hf : f 3 = E.length) (hkl : ks.length = n) (hn : n ≤ 64) (hc : 0 < cs.length) (hcn : cs.length < 64) (h0 : ∀ c ∈ cs, 0 < c.length ∧ c.length ≤ 64) (hi : rowIx PR (i : Int) = some [.sc (.int .i64 ((3 : Nat) : Int))]) :
  AWP Try.prog F22.n 2 (pickI [1, 1, 1, 1, 1, 1, 1, 0, 1, 0, 0, 1, 1, 0] F22.code) (fun e fr' H' => e = .normal ∧ ∃ D : List Nat, D.Perm E ∧ D.Pairwise (ltK ks) ∧ Sub 2 F22.n fr' H' [(0, .ptr 0 0 0 0), (7, .cptr [.list 1 (intsR ks)]), (10, .list 1 (natsR (List.range n))), (12, .mref 2 0), (15, .hsl 7 0 0 n), (84, .list 1 PR), (85, .sc (.int .i64 (m : Int))), (86, .sc (.int .i64 (i : Int)))] [[.cells 1 [[.mref 1 0]]], [.map (docM (cs ++ [D]))], [.map (colG sn (slotV f))], [.cells 1 (R1)], [.cells 1 (R2)], [.cells 1 (natsR D)], [.cells 1 (R4)], [.cells 1 (fnR n (fun r => if r ∈ D then (cs.length : Int) else W r))]]) [(0, .ptr 0 0 0 0), (7, .cptr [.list 1 (intsR ks)]), (10, .list 1 (natsR (List.range n))), (12, .mref 2 0), (15, .hsl 7 0 0 n), (84, .list 1 PR), (85, .sc (.int .i64 (m : Int))), (86, .sc (.int .i64 (i : Int)))] [[.cells 1 [[.mref 1 0]]], [.map (docM cs)], [.map (colG sn (slotV f))], [.cells 1 (R1)], [.cells 1 (R2)], [.cells 1 (natsR E)], [.cells 1 (R4)], [.cells 1 (fnR n W)]] := by
 have hm : mfind .i64 ((3 : Nat) : Int) (colG sn (slotV f)) = some (some (.hsl 5 0 0 E.length)) := by
  have := colG_find (slotV f) 3 sn
  rw [if_pos hs] at this
  rw [this, ← hf]
  rfl
 have hst := stable_at (H := [[.cells 1 [[.mref 1 0]]], [.map (docM cs)], [.map (colG sn (slotV f))], [.cells 1 (R1)], [.cells 1 (R2)], [.cells 1 (natsR E)], [.cells 1 (R4)], [.cells 1 (fnR n W)]]) (g := 5) (i := 0) (n := E.length) ks E hE (fun x hx => by rw [hkl]; exact hlt x hx) hE1 rfl rfl
 have hp1 : PRs (natsR (List.range n)) := inferInstance
 have e2 := intsR_len ks
 show AWP Try.prog F22.n 2 (.block 4 _) _ _ _
 refine AWP.block ?_
 refine AWP.seq ?_
 refine AWP.region ?_
 refine walkX ?_
 refine Reg.o rfl (dstep_lookD (es := colG sn (slotV f)) rfl rfl rfl hm) ?_
 refine walkX ?_
 refine Reg.c (Nat.le_of_ble_eq_true rfl) rfl (hst.mono ?_)
 rintro res H' ⟨rfl, D, hD1, hD2, rfl⟩
 show Reg _ _ _ _ _ [[.cells 1 [[.mref 1 0]]], [.map (docM cs)], [.map (colG sn (slotV f))], [.cells 1 (R1)], [.cells 1 (R2)], [.cells 1 (natsR D)], [.cells 1 (R4)], [.cells 1 (fnR n W)]] _
 have hnd : D.Nodup := hD1.nodup_iff.2 (hE.imp fun h => Nat.ne_of_lt h)
 have hDl : D.length = E.length := hD1.length_eq
 have hDlt : ∀ x ∈ D, x < n := fun x hx => hlt x (hD1.mem_iff.1 hx)
 have hin := incl_at (H := [[.cells 1 [[.mref 1 0]]], [.map (docM cs)], [.map (colG sn (slotV f))], [.cells 1 (R1)], [.cells 1 (R2)], [.cells 1 (natsR D)], [.cells 1 (R4)], [.cells 1 (fnR n W)]]) (g := 5) (i := 0) (m := E.length) hn hnd hDlt (by omega) hDl.symm rfl
 have e0 := natsR_len D
 rw [hDl] at e0
 clear hst
 refine walkX ?_
 refine Reg.o rfl (dstep_lookD (es := colG sn (slotV f)) rfl rfl rfl hm) ?_
 refine Reg.c (Nat.le_of_ble_eq_true rfl) rfl (hin.mono ?_)
 rintro res H' ⟨rfl, rfl⟩
 show Reg _ _ _ _ _ [[.cells 1 [[.mref 1 0]]], [.map (docM cs)], [.map (colG sn (slotV f))], [.cells 1 (R1)], [.cells 1 (R2)], [.cells 1 (natsR D)], [.cells 1 (R4)], [.cells 1 (fnR n W)], [.cells 1 (natsR D)]] _
 clear hin
 refine walkX ?_
 refine Reg.sub (fr' := [(0, .ptr 0 0 0 0), (7, .cptr [.list 1 (intsR ks)]), (10, .list 1 (natsR (List.range n))), (12, .mref 2 0), (15, .hsl 7 0 0 n), (84, .list 1 PR), (85, .sc (.int .i64 (m : Int))), (86, .sc (.int .i64 (i : Int))), (17, .sc (.int .i64 ((3 : Nat) : Int))), (104, .ptr 0 0 0 0), (105, natsV D)]) (H' := [[.cells 1 [[.mref 1 0]]], [.map (docM cs)], [.map (colG sn (slotV f))], [.cells 1 (R1)], [.cells 1 (R2)], [.cells 1 (natsR D)], [.cells 1 (R4)], [.cells 1 (fnR n W)]]) ?_ ?_
 ·exact sub_wm [] [[(0,0)],[(1,0)],[(2,0)],[(3,0)],[(4,0)],[(5,0)],[(6,0)],[(7,0)]]
 have had := CallOK.doc (R := fun res cs' => res = .tup [.sc (.int .i64 (cs.length : Int)), .sc (.int .i64 0)] ∧ cs' = cs ++ [D]) [[.map (colG sn (slotV f))], [.cells 1 (R1)], [.cells 1 (R2)], [.cells 1 (natsR D)], [.cells 1 (R4)], [.cells 1 (fnR n W)]] ((add_ok cs D hc hcn h0 (by omega)).mono fun res H' hq => ⟨cs ++ [D], hq.2, by rw [hq.1]; exact .tup _ (allPure_cons (.sc _) (allPure_cons (.sc _) allPure_nil)), hq.1, rfl⟩) (fun a ha => by
  rcases List.mem_cons.1 ha with rfl | ha
  ·exact .inl rfl
  ·rw [List.mem_singleton.1 ha]
   exact .inr (pv _))
 refine Reg.c (Nat.le_of_ble_eq_true rfl) rfl (had.mono ?_)
 rintro res H' ⟨cs', rfl, rfl, rfl⟩
 clear had
 show Reg _ _ _ _ _ [[.cells 1 [[.mref 1 0]]], [.map (docM (cs ++ [D]))], [.map (colG sn (slotV f))], [.cells 1 (R1)], [.cells 1 (R2)], [.cells 1 (natsR D)], [.cells 1 (R4)], [.cells 1 (fnR n W)]] _
 have hp2 : PM (docM (cs ++ [D])) := inferInstance
 refine walkX ?_
 refine Reg.o rfl (dstep_lookD (es := colG sn (slotV f)) rfl rfl rfl hm) ?_
 refine walkX ?_
 refine AWP.loop (fun k : Nat => [(0, .ptr 0 0 0 0), (7, .cptr [.list 1 (intsR ks)]), (10, .list 1 (natsR (List.range n))), (12, .mref 2 0), (15, .hsl 7 0 0 n), (84, .list 1 PR), (85, .sc (.int .i64 (m : Int))), (86, .sc (.int .i64 (i : Int))), (20, .sc (.int .i64 (cs.length : Int))), (114, .hsl 5 0 0 E.length), (115, .sc (.int .i64 (E.length : Int))), (116, .sc (.int .i64 (k : Int)))]) (fun k => [[.cells 1 [[.mref 1 0]]], [.map (docM (cs ++ [D]))], [.map (colG sn (slotV f))], [.cells 1 (R1)], [.cells 1 (R2)], [.cells 1 (natsR D)], [.cells 1 (R4)], [.cells 1 (fnR n (fun r => if r ∈ D.take k then (cs.length : Int) else W r))]]) (fun k => k ≤ E.length) (fun k => E.length - k) 0 (Nat.zero_le _) ?_ ?_
 ·have hw : fnR n (fun r => if r ∈ D.take 0 then (cs.length : Int) else W r) = fnR n W := fnR_congr fun j _ => by simp
  rw [hw]
  exact sub_wm [] [[(0,0)],[(1,0)],[(2,0)],[(3,0)],[(4,0)],[(5,0)],[(6,0)],[(7,0)]]
 rintro k hk
 refine walkX0 ?_
 refine AWP.condD rfl (fun h => ?_) (fun h => ?_)
 ·have hkD : k < D.length := by omega
  have g0 := natsR_ix D k hkD
  have hx : D[k] < n := hDlt _ (List.getElem_mem _)
  have g1 := fnR_ix (n := n) (fun r => if r ∈ D.take k then (cs.length : Int) else W r) hx
  have g2 := fnR_set (n := n) (fun r => if r ∈ D.take k then (cs.length : Int) else W r) (k := D[k]) (cs.length : Int)
  have g3 : fnR n (fun j => if j = D[k] then (cs.length : Int) else if j ∈ D.take k then (cs.length : Int) else W j) = fnR n (fun r => if r ∈ D.take (k + 1) then (cs.length : Int) else W r) := fnR_congr fun j _ => by
   rw [List.take_succ_eq_append_getElem hkD]
   by_cases q1 : j = D[k]
   ·rw [if_pos q1, if_pos (List.mem_append_right _ (List.mem_singleton.2 q1))]
   ·rw [if_neg q1]
    by_cases q2 : j ∈ D.take k
    ·rw [if_pos q2, if_pos (List.mem_append_left _ q2)]
    ·rw [if_neg q2, if_neg]
     intro e
     rcases List.mem_append.1 e with e | e
     ·exact q2 e
     ·exact q1 (List.mem_singleton.1 e)
  have g4 := fnR_len n (fun r => if r ∈ D.take k then (cs.length : Int) else W r)
  have hp3 : PRs (fnR n (fun r => if r ∈ D.take k then (cs.length : Int) else W r)) := inferInstance
  rw [g3] at g2
  clear g3
  have hp4 : PRs (natsR D) := inferInstance
  generalize D[k] = x at *
  generalize (if x ∈ D.take k then (cs.length : Int) else W x) = v0 at *
  generalize fnR n (fun r => if r ∈ D.take k then (cs.length : Int) else W r) = WR at *
  refine walkX ?_
  refine ⟨k + 1, by omega, by omega, ?_⟩
  rw [← g2]
  exact sub_wm [] [[(0,0)],[(1,0)],[(2,0)],[(3,0)],[(4,0)],[(5,0)],[(6,0)],[(7,0)]]
 have hk2 : k = D.length := by omega
 subst hk2
 rw [List.take_length]
 refine walkX ?_
 refine And.intro rfl ⟨D, hD1, hD2, ?_⟩
 exact sub_wm [] [[(0,0)],[(1,0)],[(2,0)],[(3,0)],[(4,0)],[(5,0)],[(6,0)],[(7,0)]]
end Go.Proofs.Ytpkpfgpfkajkpaa
namespace Go.Proofs.Ytpkpfgpfkajkpaa
open Go.Av Go.Proofs
set_option maxRecDepth 20000
set_option maxHeartbeats 32000000 in
theorem split_one4 (cs : List (List Nat)) (ks : List Int) (n : Nat) (sn : List Nat) (f : Nat → Nat) (E : List Nat) (R1 R2 R3 : List (List AV)) (PR : List (List AV)) (hPR : PRs PR) (hR1 : PRs R1) (hR2 : PRs R2) (hR3 : PRs R3) (W : Nat → Int) (i m : Nat) (hcb : ∀ c ∈ sn, c = 1 ∨ c = 2 ∨ c = 3 ∨ c = 4) (hs : 4 ∈ sn) (hE : E.Pairwise (· < ·)) (hlt : ∀ x ∈ E, x < n) (hE0 : 0 < E.length) (hE1 : E.length ≤ 64) (hf : f 4 = E.length) (hkl : ks.length = n) (hn : n ≤ 64) (hc : 0 < cs.length) (hcn : cs.length < 64) (h0 : ∀ c ∈ cs, 0 < c.length ∧ c.length ≤ 64) (hi : rowIx PR (i : Int) = some [.sc (.int .i64 ((4 : Nat) : Int))]) :
  AWP Try.prog F22.n 2 (pickI [1, 1, 1, 1, 1, 1, 1, 0, 1, 0, 0, 1, 1, 0] F22.code) (fun e fr' H' => e = .normal ∧ ∃ D : List Nat, D.Perm E ∧ D.Pairwise (ltK ks) ∧ Sub 2 F22.n fr' H' [(0, .ptr 0 0 0 0), (7, .cptr [.list 1 (intsR ks)]), (10, .list 1 (natsR (List.range n))), (12, .mref 2 0), (15, .hsl 7 0 0 n), (84, .list 1 PR), (85, .sc (.int .i64 (m : Int))), (86, .sc (.int .i64 (i : Int)))] [[.cells 1 [[.mref 1 0]]], [.map (docM (cs ++ [D]))], [.map (colG sn (slotV f))], [.cells 1 (R1)], [.cells 1 (R2)], [.cells 1 (R3)], [.cells 1 (natsR D)], [.cells 1 (fnR n (fun r => if r ∈ D then (cs.length : Int) else W r))]]) [(0, .ptr 0 0 0 0), (7, .cptr [.list 1 (intsR ks)]), (10, .list 1 (natsR (List.range n))), (12, .mref 2 0), (15, .hsl 7 0 0 n), (84, .list 1 PR), (85, .sc (.int .i64 (m : Int))), (86, .sc (.int .i64 (i : Int)))] [[.cells 1 [[.mref 1 0]]], [.map (docM cs)], [.map (colG sn (slotV f))], [.cells 1 (R1)], [.cells 1 (R2)], [.cells 1 (R3)], [.cells 1 (natsR E)], [.cells 1 (fnR n W)]] := by
 have hm : mfind .i64 ((4 : Nat) : Int) (colG sn (slotV f)) = some (some (.hsl 6 0 0 E.length)) := by
  have := colG_find (slotV f) 4 sn
  rw [if_pos hs] at this
  rw [this, ← hf]
  rfl
 have hst := stable_at (H := [[.cells 1 [[.mref 1 0]]], [.map (docM cs)], [.map (colG sn (slotV f))], [.cells 1 (R1)], [.cells 1 (R2)], [.cells 1 (R3)], [.cells 1 (natsR E)], [.cells 1 (fnR n W)]]) (g := 6) (i := 0) (n := E.length) ks E hE (fun x hx => by rw [hkl]; exact hlt x hx) hE1 rfl rfl
 have hp1 : PRs (natsR (List.range n)) := inferInstance
 have e2 := intsR_len ks
 show AWP Try.prog F22.n 2 (.block 4 _) _ _ _
 refine AWP.block ?_
 refine AWP.seq ?_
 refine AWP.region ?_
 refine walkX ?_
 refine Reg.o rfl (dstep_lookD (es := colG sn (slotV f)) rfl rfl rfl hm) ?_
 refine walkX ?_
 refine Reg.c (Nat.le_of_ble_eq_true rfl) rfl (hst.mono ?_)
 rintro res H' ⟨rfl, D, hD1, hD2, rfl⟩
 show Reg _ _ _ _ _ [[.cells 1 [[.mref 1 0]]], [.map (docM cs)], [.map (colG sn (slotV f))], [.cells 1 (R1)], [.cells 1 (R2)], [.cells 1 (R3)], [.cells 1 (natsR D)], [.cells 1 (fnR n W)]] _
 have hnd : D.Nodup := hD1.nodup_iff.2 (hE.imp fun h => Nat.ne_of_lt h)
 have hDl : D.length = E.length := hD1.length_eq
 have hDlt : ∀ x ∈ D, x < n := fun x hx => hlt x (hD1.mem_iff.1 hx)
 have hin := incl_at (H := [[.cells 1 [[.mref 1 0]]], [.map (docM cs)], [.map (colG sn (slotV f))], [.cells 1 (R1)], [.cells 1 (R2)], [.cells 1 (R3)], [.cells 1 (natsR D)], [.cells 1 (fnR n W)]]) (g := 6) (i := 0) (m := E.length) hn hnd hDlt (by omega) hDl.symm rfl
 have e0 := natsR_len D
 rw [hDl] at e0
 clear hst
 refine walkX ?_
 refine Reg.o rfl (dstep_lookD (es := colG sn (slotV f)) rfl rfl rfl hm) ?_
 refine Reg.c (Nat.le_of_ble_eq_true rfl) rfl (hin.mono ?_)
 rintro res H' ⟨rfl, rfl⟩
 show Reg _ _ _ _ _ [[.cells 1 [[.mref 1 0]]], [.map (docM cs)], [.map (colG sn (slotV f))], [.cells 1 (R1)], [.cells 1 (R2)], [.cells 1 (R3)], [.cells 1 (natsR D)], [.cells 1 (fnR n W)], [.cells 1 (natsR D)]] _
 clear hin
 refine walkX ?_
 refine Reg.sub (fr' := [(0, .ptr 0 0 0 0), (7, .cptr [.list 1 (intsR ks)]), (10, .list 1 (natsR (List.range n))), (12, .mref 2 0), (15, .hsl 7 0 0 n), (84, .list 1 PR), (85, .sc (.int .i64 (m : Int))), (86, .sc (.int .i64 (i : Int))), (17, .sc (.int .i64 ((4 : Nat) : Int))), (104, .ptr 0 0 0 0), (105, natsV D)]) (H' := [[.cells 1 [[.mref 1 0]]], [.map (docM cs)], [.map (colG sn (slotV f))], [.cells 1 (R1)], [.cells 1 (R2)], [.cells 1 (R3)], [.cells 1 (natsR D)], [.cells 1 (fnR n W)]]) ?_ ?_
 ·exact sub_wm [] [[(0,0)],[(1,0)],[(2,0)],[(3,0)],[(4,0)],[(5,0)],[(6,0)],[(7,0)]]
 have had := CallOK.doc (R := fun res cs' => res = .tup [.sc (.int .i64 (cs.length : Int)), .sc (.int .i64 0)] ∧ cs' = cs ++ [D]) [[.map (colG sn (slotV f))], [.cells 1 (R1)], [.cells 1 (R2)], [.cells 1 (R3)], [.cells 1 (natsR D)], [.cells 1 (fnR n W)]] ((add_ok cs D hc hcn h0 (by omega)).mono fun res H' hq => ⟨cs ++ [D], hq.2, by rw [hq.1]; exact .tup _ (allPure_cons (.sc _) (allPure_cons (.sc _) allPure_nil)), hq.1, rfl⟩) (fun a ha => by
  rcases List.mem_cons.1 ha with rfl | ha
  ·exact .inl rfl
  ·rw [List.mem_singleton.1 ha]
   exact .inr (pv _))
 refine Reg.c (Nat.le_of_ble_eq_true rfl) rfl (had.mono ?_)
 rintro res H' ⟨cs', rfl, rfl, rfl⟩
 clear had
 show Reg _ _ _ _ _ [[.cells 1 [[.mref 1 0]]], [.map (docM (cs ++ [D]))], [.map (colG sn (slotV f))], [.cells 1 (R1)], [.cells 1 (R2)], [.cells 1 (R3)], [.cells 1 (natsR D)], [.cells 1 (fnR n W)]] _
 have hp2 : PM (docM (cs ++ [D])) := inferInstance
 refine walkX ?_
 refine Reg.o rfl (dstep_lookD (es := colG sn (slotV f)) rfl rfl rfl hm) ?_
 refine walkX ?_
 refine AWP.loop (fun k : Nat => [(0, .ptr 0 0 0 0), (7, .cptr [.list 1 (intsR ks)]), (10, .list 1 (natsR (List.range n))), (12, .mref 2 0), (15, .hsl 7 0 0 n), (84, .list 1 PR), (85, .sc (.int .i64 (m : Int))), (86, .sc (.int .i64 (i : Int))), (20, .sc (.int .i64 (cs.length : Int))), (114, .hsl 6 0 0 E.length), (115, .sc (.int .i64 (E.length : Int))), (116, .sc (.int .i64 (k : Int)))]) (fun k => [[.cells 1 [[.mref 1 0]]], [.map (docM (cs ++ [D]))], [.map (colG sn (slotV f))], [.cells 1 (R1)], [.cells 1 (R2)], [.cells 1 (R3)], [.cells 1 (natsR D)], [.cells 1 (fnR n (fun r => if r ∈ D.take k then (cs.length : Int) else W r))]]) (fun k => k ≤ E.length) (fun k => E.length - k) 0 (Nat.zero_le _) ?_ ?_
 ·have hw : fnR n (fun r => if r ∈ D.take 0 then (cs.length : Int) else W r) = fnR n W := fnR_congr fun j _ => by simp
  rw [hw]
  exact sub_wm [] [[(0,0)],[(1,0)],[(2,0)],[(3,0)],[(4,0)],[(5,0)],[(6,0)],[(7,0)]]
 rintro k hk
 refine walkX0 ?_
 refine AWP.condD rfl (fun h => ?_) (fun h => ?_)
 ·have hkD : k < D.length := by omega
  have g0 := natsR_ix D k hkD
  have hx : D[k] < n := hDlt _ (List.getElem_mem _)
  have g1 := fnR_ix (n := n) (fun r => if r ∈ D.take k then (cs.length : Int) else W r) hx
  have g2 := fnR_set (n := n) (fun r => if r ∈ D.take k then (cs.length : Int) else W r) (k := D[k]) (cs.length : Int)
  have g3 : fnR n (fun j => if j = D[k] then (cs.length : Int) else if j ∈ D.take k then (cs.length : Int) else W j) = fnR n (fun r => if r ∈ D.take (k + 1) then (cs.length : Int) else W r) := fnR_congr fun j _ => by
   rw [List.take_succ_eq_append_getElem hkD]
   by_cases q1 : j = D[k]
   ·rw [if_pos q1, if_pos (List.mem_append_right _ (List.mem_singleton.2 q1))]
   ·rw [if_neg q1]
    by_cases q2 : j ∈ D.take k
    ·rw [if_pos q2, if_pos (List.mem_append_left _ q2)]
    ·rw [if_neg q2, if_neg]
     intro e
     rcases List.mem_append.1 e with e | e
     ·exact q2 e
     ·exact q1 (List.mem_singleton.1 e)
  have g4 := fnR_len n (fun r => if r ∈ D.take k then (cs.length : Int) else W r)
  have hp3 : PRs (fnR n (fun r => if r ∈ D.take k then (cs.length : Int) else W r)) := inferInstance
  rw [g3] at g2
  clear g3
  have hp4 : PRs (natsR D) := inferInstance
  generalize D[k] = x at *
  generalize (if x ∈ D.take k then (cs.length : Int) else W x) = v0 at *
  generalize fnR n (fun r => if r ∈ D.take k then (cs.length : Int) else W r) = WR at *
  refine walkX ?_
  refine ⟨k + 1, by omega, by omega, ?_⟩
  rw [← g2]
  exact sub_wm [] [[(0,0)],[(1,0)],[(2,0)],[(3,0)],[(4,0)],[(5,0)],[(6,0)],[(7,0)]]
 have hk2 : k = D.length := by omega
 subst hk2
 rw [List.take_length]
 refine walkX ?_
 refine And.intro rfl ⟨D, hD1, hD2, ?_⟩
 exact sub_wm [] [[(0,0)],[(1,0)],[(2,0)],[(3,0)],[(4,0)],[(5,0)],[(6,0)],[(7,0)]]
end Go.Proofs.Ytpkpfgpfkajkpaa
namespace Go.Proofs.Ytpkpfgpfkajkpaa
open Go.Av Go.Proofs
set_option maxRecDepth 20000
def updD (D : Nat → List Nat) (c : Nat) (x : List Nat) (d : Nat) : List Nat := if d = c then x else D d
theorem updD_ne {D : Nat → List Nat} {c d : Nat} {x : List Nat} (h : d ≠ c) : updD D c x d = D d := if_neg h
theorem updD_eq {D : Nat → List Nat} {c : Nat} {x : List Nat} : updD D c x c = x := if_pos rfl
theorem memC_pos {cl : List Nat} {c n : Nat} (hn : cl.length = n) (h4 : ∀ c ∈ cl, c ≤ 4) (h : c ∈ presC cl) : 0 < (memC cl c n).length := by
 obtain ⟨_, j, h2, h3⟩ := mem_seen.1 ((pres_perm hn h4).mem_iff.2 h)
 exact List.length_pos_of_mem (mem_memC.2 ⟨h2, h3⟩)
set_option maxHeartbeats 16000000 in
theorem keys_split (cs : List (List Nat)) (sn : List Nat) (f : Nat → Nat) (R1 R2 R3 R4 : List (List AV)) (h1 : PRs R1) (h2 : PRs R2) (h3 : PRs R3) (h4 : PRs R4) (O : List (List AV)) (h5 : PRs O) (hcb : ∀ c ∈ sn, c = 1 ∨ c = 2 ∨ c = 3 ∨ c = 4) :
  CallOK Try.prog 66 [.mref 2 0] [[.cells 1 [[.mref 1 0]]], [.map (docM cs)], [.map (colG sn (slotV f))], [.cells 1 R1], [.cells 1 R2], [.cells 1 R3], [.cells 1 R4], [.cells 1 O]] fun res H' => res = .clo (.func 103) [] [.ptr 8 0 0 0] ∧ H' = [[.cells 1 [[.mref 1 0]]], [.map (docM cs)], [.map (colG sn (slotV f))], [.cells 1 R1], [.cells 1 R2], [.cells 1 R3], [.cells 1 R4], [.cells 1 O], [.cells 1 [[.mref 2 0]]]] := by
 refine CallOK.of cF66 ?_ (Nat.le_of_ble_eq_true rfl)
 have hp : PM (docM cs) := inferInstance
 generalize docM cs = es at *
 refine walkX ?_
 refine endH (res' := .clo (.func 103) [] [.ptr 8 0 0 0]) [[(0,0)],[(1,0)],[(2,0)],[(3,0)],[(4,0)],[(5,0)],[(6,0)],[(7,0)],[(8,0)]] (by first | exact .inl rfl | exact .inr rfl) rfl ⟨rfl, rfl⟩ ?_ ?_ rfl rfl rfl
 ·(all_goals (repeat' (first | exact ToAll.nil | exact famsTo.nil | exact famTo.nil | exact ToL.nil | exact ToR.nil | refine ToAll.cons ?_ ?_ | refine famsTo.cons ?_ ?_ | refine wt10 ?_ ?_ | exact To.undef _ | exact To.sc _ | exact To.hslL rfl rfl | exact To.ptrO rfl rfl rfl | exact To.mrefO rfl | exact To.nil rfl rfl rfl | exact wt1 | exact To.nilL | refine To.int ?_ | refine To.bool ?_ | refine To.hslL rfl ?_ | refine wt2 rfl ?_ ?_ ?_ | refine To.tupL ?_ | refine To.aggL ?_ | refine To.cptrL ?_ | refine wt3 ?_ | refine wt4 ?_ | refine To.cloL ?_ ?_ | exact wt5 | refine wt6 ?_ | refine ToB.one ?_ | exact wt7 | ((with_reducible apply ToL.consE); case e9 => rfl) | refine wt8 ?_ | refine ToL.cons ?_ ?_ | exact wt11 | refine wt9 ?_ ?_ | refine wt12 ?_ | (with_reducible rfl) | assumption)); all_goals (first | rfl | assumption | (simp; done) | (simp; omega) | (rw [wrap_small (by omega) (by omega)]; done) | (rw [wrap_small (by omega) (by omega)]; omega) | (refine congrArg Nat.cast ?_; assumption) | skip))
 ·(all_goals (repeat' (first | exact ToAll.nil | exact famsTo.nil | exact famTo.nil | exact ToL.nil | exact ToR.nil | refine ToAll.cons ?_ ?_ | refine famsTo.cons ?_ ?_ | refine wt10 ?_ ?_ | exact To.undef _ | exact To.sc _ | exact To.hslL rfl rfl | exact To.ptrO rfl rfl rfl | exact To.mrefO rfl | exact To.nil rfl rfl rfl | exact wt1 | exact To.nilL | refine To.int ?_ | refine To.bool ?_ | refine To.hslL rfl ?_ | refine wt2 rfl ?_ ?_ ?_ | refine To.tupL ?_ | refine To.aggL ?_ | refine To.cptrL ?_ | refine wt3 ?_ | refine wt4 ?_ | refine To.cloL ?_ ?_ | exact wt5 | refine wt6 ?_ | refine ToB.one ?_ | exact wt7 | ((with_reducible apply ToL.consE); case e9 => rfl) | refine wt8 ?_ | refine ToL.cons ?_ ?_ | exact wt11 | refine wt9 ?_ ?_ | refine wt12 ?_ | (with_reducible rfl) | assumption)); all_goals (first | rfl | assumption | (simp; done) | (simp; omega) | (rw [wrap_small (by omega) (by omega)]; done) | (rw [wrap_small (by omega) (by omega)]; omega) | (refine congrArg Nat.cast ?_; assumption) | skip))
  refine colG_to fun c hc => ?_
  rcases hcb c hc with rfl | rfl | rfl | rfl <;> exact .ren (.hsl _ _ _ _ _ _ rfl)
set_option maxHeartbeats 32000000 in
theorem split_tail (cs : List (List Nat)) (cl : List Nat) (ks : List Int) (n : Nat) (hn0 : 0 < n) (hn : n ≤ 64) (hc : 0 < cs.length) (hcn : cs.length ≤ 10) (h0 : ∀ c ∈ cs, 0 < c.length ∧ c.length ≤ 64) (hcl : cl.length = n) (hkl : ks.length = n) (h4 : ∀ c ∈ cl, c ≤ 4) :
  AWP Try.prog F22.n 2 (pickI [1, 1, 1, 1, 1] F22.code) (fun e fr' H' => (e = .normal ∨ e = .ret) ∧ ∃ res res' H2, resOf fr' H' F22.res = some res ∧ SubV 2 H' res H2 res' ∧ ∃ D : Nat → List Nat, (∀ c ∈ presC cl, (D c).Perm (memC cl c n) ∧ (D c).Pairwise (ltK ks)) ∧ res' = .tup [.list 1 (fnR n (outI cl cs.length (presC cl))), .sc (.int .i64 0)] ∧ H2 = worldH (cs ++ (presC cl).map D))
   [(0, .ptr 0 0 0 0), (7, .cptr [.list 1 (intsR ks)]), (10, .list 1 (natsR (List.range n))), (12, .mref 2 0)]
   [[.cells 1 [[.mref 1 0]]], [.map (docM cs)], [.map (colG (seenC cl n) (slotV fun c => (memC cl c n).length))], [.cells 1 (natsR (memC cl 1 n))], [.cells 1 (natsR (memC cl 2 n))], [.cells 1 (natsR (memC cl 3 n))], [.cells 1 (natsR (memC cl 4 n))]] := by
 have hcb : ∀ c ∈ seenC cl n, c = 1 ∨ c = 2 ∨ c = 3 ∨ c = 4 := fun c hc => (pres_mem ((pres_perm hcl h4).mem_iff.1 hc)).1
 have hsl : (seenC cl n).length = (presC cl).length := (pres_perm hcl h4).length_eq
 have hpl := pres_len cl
 have el := docM_len cs
 have el2 : (colG (seenC cl n) (slotV fun c => (memC cl c n).length)).length = (presC cl).length := by unfold colG; rw [List.length_map, hsl]
 have e0 := natsR_len (List.range n)
 rw [List.length_range] at e0
 have hp0 : PRs (natsR (List.range n)) := inferInstance
 have hp1 : PRs (natsR (memC cl 1 n)) := inferInstance
 have hp2 : PRs (natsR (memC cl 2 n)) := inferInstance
 have hp3 : PRs (natsR (memC cl 3 n)) := inferInstance
 have hp4 : PRs (natsR (memC cl 4 n)) := inferInstance
 have hpm : PM (docM cs) := inferInstance
 show AWP Try.prog F22.n 2 (.seq _ _) _ _ _
 refine AWP.seq ?_
 refine walkX ?_
 rw [el, el2, decide_eq_false (show ¬ 64 < cs.length + (presC cl).length by omega)]
 refine walkX ?_
 refine Reg.sub (fr' := [(0, .ptr 0 0 0 0), (7, .cptr [.list 1 (intsR ks)]), (10, .list 1 (natsR (List.range n))), (12, .mref 2 0), (78, .list 1 (intsR [-2])), (80, .sc (.int .i64 (n : Int)))]) (H' := [[.cells 1 [[.mref 1 0]]], [.map (docM cs)], [.map (colG (seenC cl n) (slotV fun c => (memC cl c n).length))], [.cells 1 (natsR (memC cl 1 n))], [.cells 1 (natsR (memC cl 2 n))], [.cells 1 (natsR (memC cl 3 n))], [.cells 1 (natsR (memC cl 4 n))]]) ?_ ?_
 ·exact sub_wm [] [[(0,0)],[(1,0)],[(2,0)],[(3,0)],[(4,0)],[(5,0)],[(6,0)]]
 refine Reg.c (Nat.le_of_ble_eq_true rfl) rfl ((repeat_at _ n hn0 hn).mono ?_)
 rintro res H' ⟨rfl, rfl⟩
 show Reg _ _ _ _ _ [[.cells 1 [[.mref 1 0]]], [.map (docM cs)], [.map (colG (seenC cl n) (slotV fun c => (memC cl c n).length))], [.cells 1 (natsR (memC cl 1 n))], [.cells 1 (natsR (memC cl 2 n))], [.cells 1 (natsR (memC cl 3 n))], [.cells 1 (natsR (memC cl 4 n))], [.cells 1 (intsR (outs n))]] _
 rw [fnR_outs]
 have hpw : PRs (fnR n fun _ => -2) := inferInstance
 have ew := fnR_len n fun _ => -2
 refine walkX ?_
 refine Reg.c (Nat.le_of_ble_eq_true rfl) rfl ((keys_split cs (seenC cl n) (fun c => (memC cl c n).length) _ _ _ _ hp1 hp2 hp3 hp4 _ hpw hcb).mono ?_)
 rintro res H' ⟨rfl, rfl⟩
 have hs := sorted_at (H := [[.cells 1 [[.mref 1 0]]], [.map (docM cs)], [.map (colG (seenC cl n) (slotV fun c => (memC cl c n).length))], [.cells 1 (natsR (memC cl 1 n))], [.cells 1 (natsR (memC cl 2 n))], [.cells 1 (natsR (memC cl 3 n))], [.cells 1 (natsR (memC cl 4 n))], [.cells 1 (fnR n fun _ => -2)], [.cells 1 [[.mref 2 0]]]]) (g := 8) (i := 0) (g' := 2) (i' := 0) ((seenC cl n).map fun c : Nat => ((c : Int), slotV (fun c => (memC cl c n).length) c)) rfl (by rw [← colG_keyM]; rfl) (by rw [List.length_map]; omega)
 rw [List.length_map, hsl, List.map_map, show ((fun p : Int × AV => p.1) ∘ fun c : Nat => ((c : Int), slotV (fun c => (memC cl c n).length) c)) = fun j : Nat => (j : Int) from rfl, pres_sort hcl h4, intsR_nats] at hs
 refine Reg.c (Nat.le_of_ble_eq_true rfl) rfl (hs.mono ?_)
 rintro res H' ⟨rfl, rfl⟩
 clear hs
 have ep := natsR_len (presC cl)
 have hpp : PRs (natsR (presC cl)) := inferInstance
 refine walkX ?_
 refine AWP.loop (fun s : Nat × (Nat → List Nat) => [(0, .ptr 0 0 0 0), (7, .cptr [.list 1 (intsR ks)]), (10, .list 1 (natsR (List.range n))), (12, .mref 2 0), (15, .hsl 7 0 0 n), (84, .list 1 (natsR (presC cl))), (85, .sc (.int .i64 ((presC cl).length : Int))), (86, .sc (.int .i64 (s.1 : Int)))]) (fun s => [[.cells 1 [[.mref 1 0]]], [.map (docM (cs ++ ((presC cl).take s.1).map s.2))], [.map (colG (seenC cl n) (slotV fun c => (memC cl c n).length))], [.cells 1 (natsR (s.2 1))], [.cells 1 (natsR (s.2 2))], [.cells 1 (natsR (s.2 3))], [.cells 1 (natsR (s.2 4))], [.cells 1 (fnR n (outI cl cs.length ((presC cl).take s.1)))]]) (fun s => s.1 ≤ (presC cl).length ∧ (∀ c, (s.2 c).Perm (memC cl c n)) ∧ (∀ c ∈ (presC cl).take s.1, (s.2 c).Pairwise (ltK ks)) ∧ ∀ c, c ∉ (presC cl).take s.1 → s.2 c = memC cl c n) (fun s => (presC cl).length - s.1) (0, fun c => memC cl c n) ⟨Nat.zero_le _, fun c => .refl _, fun c hc => (by cases hc), fun c _ => rfl⟩ ?_ ?_
 ·have w0 : cs ++ ((presC cl).take 0).map (fun c => memC cl c n) = cs := List.append_nil cs
  have w1 : fnR n (outI cl cs.length ((presC cl).take 0)) = fnR n fun _ => -2 := rfl
  rw [w0, w1]
  exact sub_wm [] [[(0,0)],[(1,0)],[(2,0)],[(3,0)],[(4,0)],[(5,0)],[(6,0)],[(7,0)]]
 rintro ⟨i, D⟩ ⟨q1, q2, q3, q4⟩
 dsimp only at q1 q2 q3 q4 ⊢
 refine walkX0 ?_
 refine AWP.condD rfl (fun h => ?_) (fun h => ?_)
 ·have hi := natsR_ix (presC cl) i h
  have hmem : (presC cl)[i] ∈ presC cl := List.getElem_mem _
  have hnt : (presC cl)[i] ∉ (presC cl).take i := fun e => by
   obtain ⟨j, hj, ej⟩ := List.getElem_of_mem e
   rw [List.length_take] at hj
   rw [List.getElem_take] at ej
   have := (List.nodup_iff_pairwise_ne.1 (pres_nodup cl))
   exact (List.pairwise_iff_getElem.1 this) j i (by omega) h (by omega) ej
  have htk : (presC cl).take (i + 1) = (presC cl).take i ++ [(presC cl)[i]] := by rw [List.take_succ_eq_append_getElem h]
  have hlen : ((presC cl).take i).length = i := by rw [List.length_take]; omega
  generalize (presC cl)[i] = c at *
  have hDc : D c = memC cl c n := q4 c hnt
  have hupd : ∀ D1 : List Nat, (presC cl).take i ++ [c] = (presC cl).take i ++ [c] → cs ++ ((presC cl).take i).map D ++ [D1] = cs ++ ((presC cl).take i ++ [c]).map (updD D c D1) := fun D1 _ => by
   rw [List.map_append, List.append_assoc]
   congr 1
   refine congr (congrArg _ (List.map_congr_left fun d hd => (updD_ne fun e => hnt (by rw [← e]; exact hd)).symm)) ?_
   show [D1] = [updD D c D1 c]
   rw [updD_eq]
  have hlen2 : (cs ++ ((presC cl).take i).map D).length = cs.length + ((presC cl).take i).length := by rw [List.length_append, List.length_map]
  have hW : ∀ D1 : List Nat, D1.Perm (memC cl c n) → fnR n (fun r => if r ∈ D1 then ((cs ++ ((presC cl).take i).map D).length : Int) else outI cl cs.length ((presC cl).take i) r) = fnR n (outI cl cs.length ((presC cl).take i ++ [c])) := fun D1 hp => fnR_congr fun j hj => by
   rw [outI_snoc hnt hp hj, hlen2]
  have hg0 : ∀ x ∈ cs ++ ((presC cl).take i).map D, 0 < x.length ∧ x.length ≤ 64 := fun x hx => by
   rcases List.mem_append.1 hx with hx | hx
   ·exact h0 x hx
   ·obtain ⟨d, hd, rfl⟩ := List.mem_map.1 hx
    have hdm : d ∈ presC cl := List.mem_of_mem_take hd
    rw [(q2 d).length_eq]
    refine ⟨memC_pos hcl h4 hdm, ?_⟩
    have := memC_len cl d n
    omega
  have hcs : c ∈ seenC cl n := (pres_perm hcl h4).mem_iff.2 hmem
  have hE0 := memC_pos hcl h4 hmem
  have hE1 := memC_len cl c n
  have hE2 := memC_asc cl c n
  have hE3 : ∀ x ∈ memC cl c n, x < n := fun x hx => (memC_lt hx).1
  have hgl : (cs ++ ((presC cl).take i).map D).length < 64 := by rw [hlen2, hlen]; omega
  have hgc : 0 < (cs ++ ((presC cl).take i).map D).length := by rw [hlen2]; omega
  have hnew : ∀ D1 : List Nat, D1.Perm (memC cl c n) → D1.Pairwise (ltK ks) → (i + 1 ≤ (presC cl).length ∧ (∀ d, (updD D c D1 d).Perm (memC cl d n)) ∧ (∀ d ∈ (presC cl).take (i + 1), (updD D c D1 d).Pairwise (ltK ks)) ∧ ∀ d, d ∉ (presC cl).take (i + 1) → updD D c D1 d = memC cl d n) := fun D1 hp1 hp2 => by
   rw [htk]
   refine ⟨h, fun d => ?_, fun d hd => ?_, fun d hd => ?_⟩
   ·by_cases hdc : d = c
    ·subst hdc
     rw [updD_eq]
     exact hp1
    ·rw [updD_ne hdc]
     exact q2 d
   ·by_cases hdc : d = c
    ·subst hdc
     rw [updD_eq]
     exact hp2
    ·rw [updD_ne hdc]
     rcases List.mem_append.1 hd with hd | hd
     ·exact q3 d hd
     ·exact absurd (List.mem_singleton.1 hd) hdc
   ·have h1 : d ≠ c := fun e => hd (List.mem_append_right _ (List.mem_singleton.2 e))
    rw [updD_ne h1]
    exact q4 d fun e => hd (List.mem_append_left _ e)
  rcases (pres_mem hmem).1 with rfl | rfl | rfl | rfl
  ·have hb := split_one1 (cs ++ ((presC cl).take i).map D) ks n (seenC cl n) (fun c => (memC cl c n).length) (D 1) (natsR (D 2)) (natsR (D 3)) (natsR (D 4)) (natsR (presC cl)) inferInstance inferInstance inferInstance inferInstance (outI cl cs.length ((presC cl).take i)) i (presC cl).length hcb hcs (by rw [hDc]; exact hE2) (by rw [hDc]; exact hE3) (by rw [hDc]; exact hE0) (by rw [hDc]; omega) (by rw [hDc]) hkl hn hgc hgl hg0 hi
   refine AWP.skip ?_
   refine AWP.seq (AWP.sub (fr' := [(0, .ptr 0 0 0 0), (7, .cptr [.list 1 (intsR ks)]), (10, .list 1 (natsR (List.range n))), (12, .mref 2 0), (15, .hsl 7 0 0 n), (84, .list 1 (natsR (presC cl))), (85, .sc (.int .i64 ((presC cl).length : Int))), (86, .sc (.int .i64 (i : Int)))]) (H' := [[.cells 1 [[.mref 1 0]]], [.map (docM (cs ++ ((presC cl).take i).map D))], [.map (colG (seenC cl n) (slotV fun c => (memC cl c n).length))], [.cells 1 (natsR (D 1))], [.cells 1 (natsR (D 2))], [.cells 1 (natsR (D 3))], [.cells 1 (natsR (D 4))], [.cells 1 (fnR n (outI cl cs.length ((presC cl).take i)))]]) ?_ (AWP.mono hb ?_))
   ·exact sub_wm [] [[(0,0)],[(1,0)],[(2,0)],[(3,0)],[(4,0)],[(5,0)],[(6,0)],[(7,0)]]
   rintro e fr' H' ⟨rfl, D1, p1, p2, hsub⟩
   rw [hDc] at p1
   rw [hupd D1 rfl, hW D1 p1, ← htk] at hsub
   refine AWP.sub hsub ?_
   refine walkX ?_
   refine ⟨(i + 1, updD D 1 D1), hnew D1 p1 p2, by dsimp only; omega, ?_⟩
   dsimp only
   have hpw2 : PRs (fnR n (outI cl cs.length ((presC cl).take (i + 1)))) := inferInstance
   have hpm2 : PM (docM (cs ++ ((presC cl).take (i + 1)).map (updD D 1 D1))) := inferInstance
   rw [updD_eq (D := D) (c := 1) (x := D1), updD_ne (D := D) (c := 1) (d := 2) (x := D1) (by decide), updD_ne (D := D) (c := 1) (d := 3) (x := D1) (by decide), updD_ne (D := D) (c := 1) (d := 4) (x := D1) (by decide)]
   exact sub_wm [] [[(0,0)],[(1,0)],[(2,0)],[(3,0)],[(4,0)],[(5,0)],[(6,0)],[(7,0)]]
  ·have hb := split_one2 (cs ++ ((presC cl).take i).map D) ks n (seenC cl n) (fun c => (memC cl c n).length) (D 2) (natsR (D 1)) (natsR (D 3)) (natsR (D 4)) (natsR (presC cl)) inferInstance inferInstance inferInstance inferInstance (outI cl cs.length ((presC cl).take i)) i (presC cl).length hcb hcs (by rw [hDc]; exact hE2) (by rw [hDc]; exact hE3) (by rw [hDc]; exact hE0) (by rw [hDc]; omega) (by rw [hDc]) hkl hn hgc hgl hg0 hi
   refine AWP.skip ?_
   refine AWP.seq (AWP.sub (fr' := [(0, .ptr 0 0 0 0), (7, .cptr [.list 1 (intsR ks)]), (10, .list 1 (natsR (List.range n))), (12, .mref 2 0), (15, .hsl 7 0 0 n), (84, .list 1 (natsR (presC cl))), (85, .sc (.int .i64 ((presC cl).length : Int))), (86, .sc (.int .i64 (i : Int)))]) (H' := [[.cells 1 [[.mref 1 0]]], [.map (docM (cs ++ ((presC cl).take i).map D))], [.map (colG (seenC cl n) (slotV fun c => (memC cl c n).length))], [.cells 1 (natsR (D 1))], [.cells 1 (natsR (D 2))], [.cells 1 (natsR (D 3))], [.cells 1 (natsR (D 4))], [.cells 1 (fnR n (outI cl cs.length ((presC cl).take i)))]]) ?_ (AWP.mono hb ?_))
   ·exact sub_wm [] [[(0,0)],[(1,0)],[(2,0)],[(3,0)],[(4,0)],[(5,0)],[(6,0)],[(7,0)]]
   rintro e fr' H' ⟨rfl, D1, p1, p2, hsub⟩
   rw [hDc] at p1
   rw [hupd D1 rfl, hW D1 p1, ← htk] at hsub
   refine AWP.sub hsub ?_
   refine walkX ?_
   refine ⟨(i + 1, updD D 2 D1), hnew D1 p1 p2, by dsimp only; omega, ?_⟩
   dsimp only
   have hpw2 : PRs (fnR n (outI cl cs.length ((presC cl).take (i + 1)))) := inferInstance
   have hpm2 : PM (docM (cs ++ ((presC cl).take (i + 1)).map (updD D 2 D1))) := inferInstance
   rw [updD_ne (D := D) (c := 2) (d := 1) (x := D1) (by decide), updD_eq (D := D) (c := 2) (x := D1), updD_ne (D := D) (c := 2) (d := 3) (x := D1) (by decide), updD_ne (D := D) (c := 2) (d := 4) (x := D1) (by decide)]
   exact sub_wm [] [[(0,0)],[(1,0)],[(2,0)],[(3,0)],[(4,0)],[(5,0)],[(6,0)],[(7,0)]]
  ·have hb := split_one3 (cs ++ ((presC cl).take i).map D) ks n (seenC cl n) (fun c => (memC cl c n).length) (D 3) (natsR (D 1)) (natsR (D 2)) (natsR (D 4)) (natsR (presC cl)) inferInstance inferInstance inferInstance inferInstance (outI cl cs.length ((presC cl).take i)) i (presC cl).length hcb hcs (by rw [hDc]; exact hE2) (by rw [hDc]; exact hE3) (by rw [hDc]; exact hE0) (by rw [hDc]; omega) (by rw [hDc]) hkl hn hgc hgl hg0 hi
   refine AWP.skip ?_
   refine AWP.seq (AWP.sub (fr' := [(0, .ptr 0 0 0 0), (7, .cptr [.list 1 (intsR ks)]), (10, .list 1 (natsR (List.range n))), (12, .mref 2 0), (15, .hsl 7 0 0 n), (84, .list 1 (natsR (presC cl))), (85, .sc (.int .i64 ((presC cl).length : Int))), (86, .sc (.int .i64 (i : Int)))]) (H' := [[.cells 1 [[.mref 1 0]]], [.map (docM (cs ++ ((presC cl).take i).map D))], [.map (colG (seenC cl n) (slotV fun c => (memC cl c n).length))], [.cells 1 (natsR (D 1))], [.cells 1 (natsR (D 2))], [.cells 1 (natsR (D 3))], [.cells 1 (natsR (D 4))], [.cells 1 (fnR n (outI cl cs.length ((presC cl).take i)))]]) ?_ (AWP.mono hb ?_))
   ·exact sub_wm [] [[(0,0)],[(1,0)],[(2,0)],[(3,0)],[(4,0)],[(5,0)],[(6,0)],[(7,0)]]
   rintro e fr' H' ⟨rfl, D1, p1, p2, hsub⟩
   rw [hDc] at p1
   rw [hupd D1 rfl, hW D1 p1, ← htk] at hsub
   refine AWP.sub hsub ?_
   refine walkX ?_
   refine ⟨(i + 1, updD D 3 D1), hnew D1 p1 p2, by dsimp only; omega, ?_⟩
   dsimp only
   have hpw2 : PRs (fnR n (outI cl cs.length ((presC cl).take (i + 1)))) := inferInstance
   have hpm2 : PM (docM (cs ++ ((presC cl).take (i + 1)).map (updD D 3 D1))) := inferInstance
   rw [updD_ne (D := D) (c := 3) (d := 1) (x := D1) (by decide), updD_ne (D := D) (c := 3) (d := 2) (x := D1) (by decide), updD_eq (D := D) (c := 3) (x := D1), updD_ne (D := D) (c := 3) (d := 4) (x := D1) (by decide)]
   exact sub_wm [] [[(0,0)],[(1,0)],[(2,0)],[(3,0)],[(4,0)],[(5,0)],[(6,0)],[(7,0)]]
  ·have hb := split_one4 (cs ++ ((presC cl).take i).map D) ks n (seenC cl n) (fun c => (memC cl c n).length) (D 4) (natsR (D 1)) (natsR (D 2)) (natsR (D 3)) (natsR (presC cl)) inferInstance inferInstance inferInstance inferInstance (outI cl cs.length ((presC cl).take i)) i (presC cl).length hcb hcs (by rw [hDc]; exact hE2) (by rw [hDc]; exact hE3) (by rw [hDc]; exact hE0) (by rw [hDc]; omega) (by rw [hDc]) hkl hn hgc hgl hg0 hi
   refine AWP.skip ?_
   refine AWP.seq (AWP.sub (fr' := [(0, .ptr 0 0 0 0), (7, .cptr [.list 1 (intsR ks)]), (10, .list 1 (natsR (List.range n))), (12, .mref 2 0), (15, .hsl 7 0 0 n), (84, .list 1 (natsR (presC cl))), (85, .sc (.int .i64 ((presC cl).length : Int))), (86, .sc (.int .i64 (i : Int)))]) (H' := [[.cells 1 [[.mref 1 0]]], [.map (docM (cs ++ ((presC cl).take i).map D))], [.map (colG (seenC cl n) (slotV fun c => (memC cl c n).length))], [.cells 1 (natsR (D 1))], [.cells 1 (natsR (D 2))], [.cells 1 (natsR (D 3))], [.cells 1 (natsR (D 4))], [.cells 1 (fnR n (outI cl cs.length ((presC cl).take i)))]]) ?_ (AWP.mono hb ?_))
   ·exact sub_wm [] [[(0,0)],[(1,0)],[(2,0)],[(3,0)],[(4,0)],[(5,0)],[(6,0)],[(7,0)]]
   rintro e fr' H' ⟨rfl, D1, p1, p2, hsub⟩
   rw [hDc] at p1
   rw [hupd D1 rfl, hW D1 p1, ← htk] at hsub
   refine AWP.sub hsub ?_
   refine walkX ?_
   refine ⟨(i + 1, updD D 4 D1), hnew D1 p1 p2, by dsimp only; omega, ?_⟩
   dsimp only
   have hpw2 : PRs (fnR n (outI cl cs.length ((presC cl).take (i + 1)))) := inferInstance
   have hpm2 : PM (docM (cs ++ ((presC cl).take (i + 1)).map (updD D 4 D1))) := inferInstance
   rw [updD_ne (D := D) (c := 4) (d := 1) (x := D1) (by decide), updD_ne (D := D) (c := 4) (d := 2) (x := D1) (by decide), updD_ne (D := D) (c := 4) (d := 3) (x := D1) (by decide), updD_eq (D := D) (c := 4) (x := D1)]
   exact sub_wm [] [[(0,0)],[(1,0)],[(2,0)],[(3,0)],[(4,0)],[(5,0)],[(6,0)],[(7,0)]]
 have hi2 : i = (presC cl).length := by omega
 subst hi2
 rw [List.take_length] at *
 have hpw2 : PRs (fnR n (outI cl cs.length (presC cl))) := inferInstance
 have ew2 := fnR_len n (outI cl cs.length (presC cl))
 have hpm2 : PM (docM (cs ++ (presC cl).map D)) := inferInstance
 refine walkX ?_
 refine endH (res' := .tup [.list 1 (fnR n (outI cl cs.length (presC cl))), .sc (.int .i64 0)]) [[(0,0)],[(1,0)]] (by first | exact .inl rfl | exact .inr rfl) rfl ⟨D, fun c hc => ⟨q2 c, q3 c hc⟩, rfl, rfl⟩ ?_ ?_ rfl rfl rfl
 ·(all_goals (repeat' (first | exact ToAll.nil | exact famsTo.nil | exact famTo.nil | exact ToL.nil | exact ToR.nil | refine ToAll.cons ?_ ?_ | refine famsTo.cons ?_ ?_ | refine wt10 ?_ ?_ | exact To.undef _ | exact To.sc _ | exact To.hslL rfl rfl | exact To.ptrO rfl rfl rfl | exact To.mrefO rfl | exact To.nil rfl rfl rfl | exact wt1 | exact To.nilL | refine To.int ?_ | refine To.bool ?_ | refine To.hslL rfl ?_ | refine wt2 rfl ?_ ?_ ?_ | refine To.tupL ?_ | refine To.aggL ?_ | refine To.cptrL ?_ | refine wt3 ?_ | refine wt4 ?_ | refine To.cloL ?_ ?_ | exact wt5 | refine wt6 ?_ | refine ToB.one ?_ | exact wt7 | ((with_reducible apply ToL.consE); case e9 => rfl) | refine wt8 ?_ | refine ToL.cons ?_ ?_ | exact wt11 | refine wt9 ?_ ?_ | refine wt12 ?_ | (with_reducible rfl) | assumption)); all_goals (first | rfl | assumption | (simp; done) | (simp; omega) | (rw [wrap_small (by omega) (by omega)]; done) | (rw [wrap_small (by omega) (by omega)]; omega) | (refine congrArg Nat.cast ?_; assumption) | skip))
 ·(all_goals (repeat' (first | exact ToAll.nil | exact famsTo.nil | exact famTo.nil | exact ToL.nil | exact ToR.nil | refine ToAll.cons ?_ ?_ | refine famsTo.cons ?_ ?_ | refine wt10 ?_ ?_ | exact To.undef _ | exact To.sc _ | exact To.hslL rfl rfl | exact To.ptrO rfl rfl rfl | exact To.mrefO rfl | exact To.nil rfl rfl rfl | exact wt1 | exact To.nilL | refine To.int ?_ | refine To.bool ?_ | refine To.hslL rfl ?_ | refine wt2 rfl ?_ ?_ ?_ | refine To.tupL ?_ | refine To.aggL ?_ | refine To.cptrL ?_ | refine wt3 ?_ | refine wt4 ?_ | refine To.cloL ?_ ?_ | exact wt5 | refine wt6 ?_ | refine ToB.one ?_ | exact wt7 | ((with_reducible apply ToL.consE); case e9 => rfl) | refine wt8 ?_ | refine ToL.cons ?_ ?_ | exact wt11 | refine wt9 ?_ ?_ | refine wt12 ?_ | (with_reducible rfl) | assumption)); all_goals (first | rfl | assumption | (simp; done) | (simp; omega) | (rw [wrap_small (by omega) (by omega)]; done) | (rw [wrap_small (by omega) (by omega)]; omega) | (refine congrArg Nat.cast ?_; assumption) | skip))
end Go.Proofs.Ytpkpfgpfkajkpaa
