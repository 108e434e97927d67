import Derived.Test.YtpkpfgpfkajkpaaGCoQ17
import Derived.Test.YtpkpfgpfkajkpaaGCoL5
import Derived.Test.YtpkpfgpfkajkpaaGCoP3
namespace Go.Proofs.Ytpkpfgpfkajkpaa
open Go.Av Go.Proofs
set_option maxRecDepth 20000
def colsR (cl : List Nat) : List (List AV) := intsR (cl.map colV)
theorem colsR_len (cl : List Nat) : (colsR cl).length = cl.length := by simp [colsR, intsR]
theorem colsR_ix (cl : List Nat) (k : Nat) (h : k < cl.length) : rowIx (colsR cl) (k : Int) = some [.sc (.int .i64 (colV (cl.getD k 0)))] := by
 have := intsR_ix (cl.map colV) k (by rw [List.length_map]; exact h)
 unfold colsR
 rw [this]
 simp [h]
instance (cl : List Nat) : PRs (colsR cl) := inferInstanceAs (PRs (intsR _))
theorem dstep_mapPut {g i : Nat} {fr : Fr} {H : Heap} {m ix x : Operand} {g' i' : Nat} {n : Int} {es : List (Value × AV)} {o : AV} (hm : ev fr m = .mref g' i') (hi : ev fr ix = .sc (.int .i64 n)) (hh : hget H g' i' = some (.map es)) (hf : mfind .i64 n es = some (some o)) :
  dstep g i (.mapUpdate .i64 m ix x) fr H = some (.undef, hset H g' i' (.map (mput n (ev fr x) es))) := by
 simp only [dstep, hm, hi, decide_true, hh, hf]
set_option maxHeartbeats 32000000 in
theorem split_ok (cs : List (List Nat)) (cl : List Nat) (ks : List Int) (n : Nat) (hn0 : 0 < n) (hn : n ≤ 64) (hc : 0 < cs.length) (hc0 : cs[0] = List.range n) (hcn : cs.length ≤ 10) (h0 : ∀ c ∈ cs, 0 < c.length ∧ c.length ≤ 64) (hcl : cl.length = n) (hkl : ks.length = n) (h4 : ∀ c ∈ cl, c ≤ 4) :
  CallOK Try.prog 22 [.ptr 0 0 0 0, .sc (.int .i64 0), .list 1 (colsR cl), .list 1 (intsR ks)] (worldH cs) fun res' H2 => ∃ D : Nat → List Nat, (∀ c ∈ presC cl, (D c).Perm (memC cl c n) ∧ (D c).Pairwise (ltK ks)) ∧ res' = .tup [.list 1 (fnR n (outI cl cs.length (presC cl))), .sc (.int .i64 0)] ∧ H2 = worldH (cs ++ (presC cl).map D) := by
 refine CallOK.of cF22 ?_ (Nat.le_of_ble_eq_true rfl)
 have hg := group_ok cs 0 hc h0
 rw [hc0] at hg
 have e0 := natsR_len (List.range n)
 rw [List.length_range] at e0
 have e1 := colsR_len cl
 have e2 := intsR_len ks
 rw [hcl] at e1
 rw [hkl] at e2
 have hcon : PureRun Try.prog 67 [.list 1 (colsR cl), .sc (.func (.func 68) #[] #[])] (.sc (.bool false)) := contains_ok (cl.map colV) (by rw [List.length_map]; omega) (fun x hx => by
  obtain ⟨c, hc, rfl⟩ := List.mem_map.1 hx
  unfold colV
  split <;> omega)
 have hp : PM (docM cs) := inferInstance
 have hp1 : PRs (natsR (List.range n)) := inferInstance
 unfold worldH natsV at *
 generalize hG : natsR (List.range n) = G at *
 refine walkX ?_
 show Reg _ _ _ _ ((26, .sc (.int .i64 0)) :: (25, .ptr 0 0 0 0) :: (9, .sc (.int .i64 0)) :: (8, .sc (.slice none 0 0)) :: (7, .ptr 2 0 0 0) :: argsFr 0 [.ptr 0 0 0 0, .sc (.int .i64 0), .list 1 (colsR cl), .list 1 (intsR ks)]) [[.cells 1 [[.mref 1 0]]], [.map (docM cs)], [.cells 1 [[.list 1 (intsR ks)]]]] _
 refine Reg.sub (fr' := [(0, .ptr 0 0 0 0), (2, .list 1 (colsR cl)), (7, .cptr [.list 1 (intsR ks)]), (25, .ptr 0 0 0 0), (26, .sc (.int .i64 0))]) (H' := [[.cells 1 [[.mref 1 0]]], [.map (docM cs)]]) ?_ ?_
 ·apply Sub.to [] [[(0,0)],[(1,0)]]
  ·refine ToAll.cons ?_ (ToAll.cons ?_ (ToAll.cons ?_ (ToAll.cons ?_ (ToAll.cons ?_ ToAll.nil))))
   ·(all_goals (repeat' (first | exact ToAll.nil | exact famsTo.nil | exact famTo.nil | exact ToL.nil | exact ToR.nil | refine ToAll.cons ?_ ?_ | refine famsTo.cons ?_ ?_ | refine wt10 ?_ ?_ | exact To.undef _ | exact To.sc _ | exact To.hslL rfl rfl | exact To.ptrO rfl rfl rfl | exact To.mrefO rfl | exact To.nil rfl rfl rfl | exact wt1 | exact To.nilL | refine To.int ?_ | refine To.bool ?_ | refine To.hslL rfl ?_ | refine wt2 rfl ?_ ?_ ?_ | refine To.tupL ?_ | refine To.aggL ?_ | refine To.cptrL ?_ | refine wt3 ?_ | refine wt4 ?_ | refine To.cloL ?_ ?_ | exact wt5 | refine wt6 ?_ | refine ToB.one ?_ | exact wt7 | ((with_reducible apply ToL.consE); case e9 => rfl) | refine wt8 ?_ | refine ToL.cons ?_ ?_ | exact wt11 | refine wt9 ?_ ?_ | refine wt12 ?_ | (with_reducible rfl) | assumption)); all_goals (first | rfl | assumption | (simp; done) | (simp; omega) | (rw [wrap_small (by omega) (by omega)]; done) | (rw [wrap_small (by omega) (by omega)]; omega) | (refine congrArg Nat.cast ?_; assumption) | skip))
   ·(all_goals (repeat' (first | exact ToAll.nil | exact famsTo.nil | exact famTo.nil | exact ToL.nil | exact ToR.nil | refine ToAll.cons ?_ ?_ | refine famsTo.cons ?_ ?_ | refine wt10 ?_ ?_ | exact To.undef _ | exact To.sc _ | exact To.hslL rfl rfl | exact To.ptrO rfl rfl rfl | exact To.mrefO rfl | exact To.nil rfl rfl rfl | exact wt1 | exact To.nilL | refine To.int ?_ | refine To.bool ?_ | refine To.hslL rfl ?_ | refine wt2 rfl ?_ ?_ ?_ | refine To.tupL ?_ | refine To.aggL ?_ | refine To.cptrL ?_ | refine wt3 ?_ | refine wt4 ?_ | refine To.cloL ?_ ?_ | exact wt5 | refine wt6 ?_ | refine ToB.one ?_ | exact wt7 | ((with_reducible apply ToL.consE); case e9 => rfl) | refine wt8 ?_ | refine ToL.cons ?_ ?_ | exact wt11 | refine wt9 ?_ ?_ | refine wt12 ?_ | (with_reducible rfl) | assumption)); all_goals (first | rfl | assumption | (simp; done) | (simp; omega) | (rw [wrap_small (by omega) (by omega)]; done) | (rw [wrap_small (by omega) (by omega)]; omega) | (refine congrArg Nat.cast ?_; assumption) | skip))
   ·exact To.fzp (r := [.list 1 (intsR ks)]) (g := 2) (i := 0) (row := 0) rfl rfl rfl (To.cptrL (ToL.cons (To.pure (.list _ _ (prs _))) ToL.nil))
   ·(all_goals (repeat' (first | exact ToAll.nil | exact famsTo.nil | exact famTo.nil | exact ToL.nil | exact ToR.nil | refine ToAll.cons ?_ ?_ | refine famsTo.cons ?_ ?_ | refine wt10 ?_ ?_ | exact To.undef _ | exact To.sc _ | exact To.hslL rfl rfl | exact To.ptrO rfl rfl rfl | exact To.mrefO rfl | exact To.nil rfl rfl rfl | exact wt1 | exact To.nilL | refine To.int ?_ | refine To.bool ?_ | refine To.hslL rfl ?_ | refine wt2 rfl ?_ ?_ ?_ | refine To.tupL ?_ | refine To.aggL ?_ | refine To.cptrL ?_ | refine wt3 ?_ | refine wt4 ?_ | refine To.cloL ?_ ?_ | exact wt5 | refine wt6 ?_ | refine ToB.one ?_ | exact wt7 | ((with_reducible apply ToL.consE); case e9 => rfl) | refine wt8 ?_ | refine ToL.cons ?_ ?_ | exact wt11 | refine wt9 ?_ ?_ | refine wt12 ?_ | (with_reducible rfl) | assumption)); all_goals (first | rfl | assumption | (simp; done) | (simp; omega) | (rw [wrap_small (by omega) (by omega)]; done) | (rw [wrap_small (by omega) (by omega)]; omega) | (refine congrArg Nat.cast ?_; assumption) | skip))
   ·(all_goals (repeat' (first | exact ToAll.nil | exact famsTo.nil | exact famTo.nil | exact ToL.nil | exact ToR.nil | refine ToAll.cons ?_ ?_ | refine famsTo.cons ?_ ?_ | refine wt10 ?_ ?_ | exact To.undef _ | exact To.sc _ | exact To.hslL rfl rfl | exact To.ptrO rfl rfl rfl | exact To.mrefO rfl | exact To.nil rfl rfl rfl | exact wt1 | exact To.nilL | refine To.int ?_ | refine To.bool ?_ | refine To.hslL rfl ?_ | refine wt2 rfl ?_ ?_ ?_ | refine To.tupL ?_ | refine To.aggL ?_ | refine To.cptrL ?_ | refine wt3 ?_ | refine wt4 ?_ | refine To.cloL ?_ ?_ | exact wt5 | refine wt6 ?_ | refine ToB.one ?_ | exact wt7 | ((with_reducible apply ToL.consE); case e9 => rfl) | refine wt8 ?_ | refine ToL.cons ?_ ?_ | exact wt11 | refine wt9 ?_ ?_ | refine wt12 ?_ | (with_reducible rfl) | assumption)); all_goals (first | rfl | assumption | (simp; done) | (simp; omega) | (rw [wrap_small (by omega) (by omega)]; done) | (rw [wrap_small (by omega) (by omega)]; omega) | (refine congrArg Nat.cast ?_; assumption) | skip))
  ·(all_goals (repeat' (first | exact ToAll.nil | exact famsTo.nil | exact famTo.nil | exact ToL.nil | exact ToR.nil | refine ToAll.cons ?_ ?_ | refine famsTo.cons ?_ ?_ | refine wt10 ?_ ?_ | exact To.undef _ | exact To.sc _ | exact To.hslL rfl rfl | exact To.ptrO rfl rfl rfl | exact To.mrefO rfl | exact To.nil rfl rfl rfl | exact wt1 | exact To.nilL | refine To.int ?_ | refine To.bool ?_ | refine To.hslL rfl ?_ | refine wt2 rfl ?_ ?_ ?_ | refine To.tupL ?_ | refine To.aggL ?_ | refine To.cptrL ?_ | refine wt3 ?_ | refine wt4 ?_ | refine To.cloL ?_ ?_ | exact wt5 | refine wt6 ?_ | refine ToB.one ?_ | exact wt7 | ((with_reducible apply ToL.consE); case e9 => rfl) | refine wt8 ?_ | refine ToL.cons ?_ ?_ | exact wt11 | refine wt9 ?_ ?_ | refine wt12 ?_ | (with_reducible rfl) | assumption)); all_goals (first | rfl | assumption | (simp; done) | (simp; omega) | (rw [wrap_small (by omega) (by omega)]; done) | (rw [wrap_small (by omega) (by omega)]; omega) | (refine congrArg Nat.cast ?_; assumption) | skip))
  ·rfl
  ·rfl
  ·rfl
 refine Reg.c (Nat.le_refl _) rfl (hg.mono ?_)
 rintro res H' ⟨rfl, rfl⟩
 refine walkX ?_
 rw [e1, e0, decide_eq_true (rfl : n = n)]
 refine walkX ?_
 rw [e2, e0, decide_eq_true (rfl : n = n)]
 refine walkX ?_
 rw [e1]
 refine AWP.loop (fun k : Nat => [(0, .ptr 0 0 0 0), (7, .cptr [.list 1 (intsR ks)]), (10, .list 1 G), (12, .mref 2 0), (51, .list 1 (colsR cl)), (52, .sc (.int .i64 (n : Int))), (53, .sc (.int .i64 (k : Int)))]) (fun k => [[.cells 1 [[.mref 1 0]]], [.map (docM cs)], [.map (colG (seenC cl k) (slotV fun c => (memC cl c k).length))], [.cells 1 (natsR (memC cl 1 k))], [.cells 1 (natsR (memC cl 2 k))], [.cells 1 (natsR (memC cl 3 k))], [.cells 1 (natsR (memC cl 4 k))]]) (fun k => k ≤ n) (fun k => n - k) 0 (Nat.zero_le _) ?_ ?_
 ·have i0 : colG (seenC cl 0) (slotV fun c => (memC cl c 0).length) = [] := rfl
  have i1 : ∀ c, natsR (memC cl c 0) = [] := fun _ => rfl
  rw [i0, i1, i1, i1, i1]
  exact Sub.wx [1,1,1,1] [[(0,0)],[(1,0)],[(2,0)],[(3,0)],[(4,0)],[(5,0)],[(6,0)]]
 rintro k hk
 refine walkX0 ?_
 refine AWP.condD rfl (fun h => ?_) (fun h => ?_)
 ·have hr := colsR_ix cl k (by omega)
  have hc4 : cl.getD k 0 ≤ 4 := by
   rw [show cl.getD k 0 = cl[k] by simp [show k < cl.length by omega]]
   exact h4 _ (List.getElem_mem _)
  have hsn : seenC cl (k + 1) = if cl.getD k 0 = 0 ∨ cl.getD k 0 ∈ seenC cl k then seenC cl k else seenC cl k ++ [cl.getD k 0] := rfl
  have hms := fun c => memC_succ cl c k
  have hcb : ∀ c ∈ seenC cl k, c = 1 ∨ c = 2 ∨ c = 3 ∨ c = 4 := fun c hc => by
   obtain ⟨q1, j, q2, q3⟩ := mem_seen.1 hc
   have : cl.getD j 0 ≤ 4 := by
    rw [show cl.getD j 0 = cl[j] by simp [show j < cl.length by omega]]
    exact h4 _ (List.getElem_mem _)
   omega
  generalize cl.getD k 0 = c at *
  by_cases hc0 : c = 0
  ·subst hc0
   rw [show colV 0 = -2 from rfl] at hr
   rw [if_pos (.inl rfl)] at hsn
   have hm : ∀ c, c ≠ 0 → memC cl c (k + 1) = memC cl c k := fun c hc => by rw [hms, if_neg (fun e => hc e.symm), List.append_nil]
   refine walkX ?_
   refine ⟨k + 1, by omega, by omega, ?_⟩
   rw [hsn, hm 1 (by decide), hm 2 (by decide), hm 3 (by decide), hm 4 (by decide), colG_congr (v := slotV fun c => (memC cl c (k + 1)).length) (w := slotV fun c => (memC cl c k).length) (fun c hc => by unfold slotV; dsimp only; rw [hm c (mem_seen.1 hc).1])]
   exact sub_wm [] [[(0,0)],[(1,0)],[(2,0)],[(3,0)],[(4,0)],[(5,0)],[(6,0)]]
  ·have hne : colV c ≠ -2 := by unfold colV; rw [if_neg hc0]; omega
   have hcv : colV c = (c : Int) := if_neg hc0
   rw [hcv] at hr hne
   by_cases hs : c ∈ seenC cl k
   ·rw [if_pos (.inr hs)] at hsn
    have hf := colG_find (slotV fun c => (memC cl c k).length) c (seenC cl k)
    rw [if_pos hs] at hf
    refine walkX ?_
    rw [show ((c : Int) != -2) = true by simp]
    refine walkX ?_
    rcases hcb c hs with rfl | rfl | rfl | rfl
    ·have hf' : mfind .i64 ((1 : Nat) : Int) (colG (seenC cl k) (slotV fun c => (memC cl c k).length)) = some (some (.hsl 3 0 0 (memC cl 1 k).length)) := hf
     have hlen := natsR_len (memC cl 1 k)
     have hml := memC_len cl 1 k
     have hpr : PRs (natsR (memC cl 1 k)) := inferInstance
     refine Reg.o rfl (dstep_lookD (es := colG (seenC cl k) (slotV fun c => (memC cl c k).length)) rfl rfl rfl hf') ?_
     refine walkX ?_
     refine Reg.on rfl (dstep_mapPut (es := colG (seenC cl k) (slotV fun c => (memC cl c k).length)) rfl rfl rfl hf') ?_
     rw [colG_put _ _ _ _ (seen_nodup cl k)]
     refine walkX ?_
     refine ⟨k + 1, by omega, by omega, ?_⟩
     have hm : ∀ c, c ≠ 1 → memC cl c (k + 1) = memC cl c k := fun c hc => by rw [hms, if_neg (fun e => hc e.symm), List.append_nil]
     have hm1 : memC cl 1 (k + 1) = memC cl 1 k ++ [k] := by rw [hms, if_pos rfl]
     have hmr : natsR (memC cl 1 k ++ [k]) = natsR (memC cl 1 k) ++ [[.sc (.int .i64 (k : Int))]] := by unfold natsR; rw [List.map_append]; rfl
     rw [hsn, hm 2 (by decide), hm 3 (by decide), hm 4 (by decide), hm1, hmr]
     (apply Sub.to [] [[(0,0)],[(1,0)],[(2,0)],[(8,0)],[(4,0)],[(5,0)],[(6,0)]]; all_goals (repeat' (first | exact ToAll.nil | exact famsTo.nil | exact famTo.nil | exact ToL.nil | exact ToR.nil | refine ToAll.cons ?_ ?_ | refine famsTo.cons ?_ ?_ | refine wt10 ?_ ?_ | exact To.undef _ | exact To.sc _ | exact To.hslL rfl rfl | exact To.ptrO rfl rfl rfl | exact To.mrefO rfl | exact To.nil rfl rfl rfl | exact wt1 | exact To.nilL | refine To.int ?_ | refine To.bool ?_ | refine To.hslL rfl ?_ | refine wt2 rfl ?_ ?_ ?_ | refine To.tupL ?_ | refine To.aggL ?_ | refine To.cptrL ?_ | refine wt3 ?_ | refine wt4 ?_ | refine To.cloL ?_ ?_ | exact wt5 | refine wt6 ?_ | refine ToB.one ?_ | exact wt7 | ((with_reducible apply ToL.consE); case e9 => rfl) | refine wt8 ?_ | refine ToL.cons ?_ ?_ | exact wt11 | refine wt9 ?_ ?_ | refine wt12 ?_ | (with_reducible rfl) | assumption)); all_goals (first | rfl | assumption | (simp; done) | (simp; omega) | (rw [wrap_small (by omega) (by omega)]; done) | (rw [wrap_small (by omega) (by omega)]; omega) | (refine congrArg Nat.cast ?_; assumption) | skip))
     refine colG_to fun c hc => ?_
     rcases hcb c hc with rfl | rfl | rfl | rfl
     ·rw [updV_eq]
      unfold slotV
      dsimp only
      rw [hm1, List.length_append]
      exact .ren (.hsl _ _ _ _ _ _ rfl)
     ·rw [updV_ne (by decide)]
      unfold slotV
      dsimp only
      rw [hm 2 (by decide)]
      exact .ren (.hsl _ _ _ _ _ _ rfl)
     ·rw [updV_ne (by decide)]
      unfold slotV
      dsimp only
      rw [hm 3 (by decide)]
      exact .ren (.hsl _ _ _ _ _ _ rfl)
     ·rw [updV_ne (by decide)]
      unfold slotV
      dsimp only
      rw [hm 4 (by decide)]
      exact .ren (.hsl _ _ _ _ _ _ rfl)
    ·have hf' : mfind .i64 ((2 : Nat) : Int) (colG (seenC cl k) (slotV fun c => (memC cl c k).length)) = some (some (.hsl 4 0 0 (memC cl 2 k).length)) := hf
     have hlen := natsR_len (memC cl 2 k)
     have hml := memC_len cl 2 k
     have hpr : PRs (natsR (memC cl 2 k)) := inferInstance
     refine Reg.o rfl (dstep_lookD (es := colG (seenC cl k) (slotV fun c => (memC cl c k).length)) rfl rfl rfl hf') ?_
     refine walkX ?_
     refine Reg.on rfl (dstep_mapPut (es := colG (seenC cl k) (slotV fun c => (memC cl c k).length)) rfl rfl rfl hf') ?_
     rw [colG_put _ _ _ _ (seen_nodup cl k)]
     refine walkX ?_
     refine ⟨k + 1, by omega, by omega, ?_⟩
     have hm : ∀ c, c ≠ 2 → memC cl c (k + 1) = memC cl c k := fun c hc => by rw [hms, if_neg (fun e => hc e.symm), List.append_nil]
     have hm1 : memC cl 2 (k + 1) = memC cl 2 k ++ [k] := by rw [hms, if_pos rfl]
     have hmr : natsR (memC cl 2 k ++ [k]) = natsR (memC cl 2 k) ++ [[.sc (.int .i64 (k : Int))]] := by unfold natsR; rw [List.map_append]; rfl
     rw [hsn, hm 1 (by decide), hm 3 (by decide), hm 4 (by decide), hm1, hmr]
     (apply Sub.to [] [[(0,0)],[(1,0)],[(2,0)],[(3,0)],[(8,0)],[(5,0)],[(6,0)]]; all_goals (repeat' (first | exact ToAll.nil | exact famsTo.nil | exact famTo.nil | exact ToL.nil | exact ToR.nil | refine ToAll.cons ?_ ?_ | refine famsTo.cons ?_ ?_ | refine wt10 ?_ ?_ | exact To.undef _ | exact To.sc _ | exact To.hslL rfl rfl | exact To.ptrO rfl rfl rfl | exact To.mrefO rfl | exact To.nil rfl rfl rfl | exact wt1 | exact To.nilL | refine To.int ?_ | refine To.bool ?_ | refine To.hslL rfl ?_ | refine wt2 rfl ?_ ?_ ?_ | refine To.tupL ?_ | refine To.aggL ?_ | refine To.cptrL ?_ | refine wt3 ?_ | refine wt4 ?_ | refine To.cloL ?_ ?_ | exact wt5 | refine wt6 ?_ | refine ToB.one ?_ | exact wt7 | ((with_reducible apply ToL.consE); case e9 => rfl) | refine wt8 ?_ | refine ToL.cons ?_ ?_ | exact wt11 | refine wt9 ?_ ?_ | refine wt12 ?_ | (with_reducible rfl) | assumption)); all_goals (first | rfl | assumption | (simp; done) | (simp; omega) | (rw [wrap_small (by omega) (by omega)]; done) | (rw [wrap_small (by omega) (by omega)]; omega) | (refine congrArg Nat.cast ?_; assumption) | skip))
     refine colG_to fun c hc => ?_
     rcases hcb c hc with rfl | rfl | rfl | rfl
     ·rw [updV_ne (by decide)]
      unfold slotV
      dsimp only
      rw [hm 1 (by decide)]
      exact .ren (.hsl _ _ _ _ _ _ rfl)
     ·rw [updV_eq]
      unfold slotV
      dsimp only
      rw [hm1, List.length_append]
      exact .ren (.hsl _ _ _ _ _ _ rfl)
     ·rw [updV_ne (by decide)]
      unfold slotV
      dsimp only
      rw [hm 3 (by decide)]
      exact .ren (.hsl _ _ _ _ _ _ rfl)
     ·rw [updV_ne (by decide)]
      unfold slotV
      dsimp only
      rw [hm 4 (by decide)]
      exact .ren (.hsl _ _ _ _ _ _ rfl)
    ·have hf' : mfind .i64 ((3 : Nat) : Int) (colG (seenC cl k) (slotV fun c => (memC cl c k).length)) = some (some (.hsl 5 0 0 (memC cl 3 k).length)) := hf
     have hlen := natsR_len (memC cl 3 k)
     have hml := memC_len cl 3 k
     have hpr : PRs (natsR (memC cl 3 k)) := inferInstance
     refine Reg.o rfl (dstep_lookD (es := colG (seenC cl k) (slotV fun c => (memC cl c k).length)) rfl rfl rfl hf') ?_
     refine walkX ?_
     refine Reg.on rfl (dstep_mapPut (es := colG (seenC cl k) (slotV fun c => (memC cl c k).length)) rfl rfl rfl hf') ?_
     rw [colG_put _ _ _ _ (seen_nodup cl k)]
     refine walkX ?_
     refine ⟨k + 1, by omega, by omega, ?_⟩
     have hm : ∀ c, c ≠ 3 → memC cl c (k + 1) = memC cl c k := fun c hc => by rw [hms, if_neg (fun e => hc e.symm), List.append_nil]
     have hm1 : memC cl 3 (k + 1) = memC cl 3 k ++ [k] := by rw [hms, if_pos rfl]
     have hmr : natsR (memC cl 3 k ++ [k]) = natsR (memC cl 3 k) ++ [[.sc (.int .i64 (k : Int))]] := by unfold natsR; rw [List.map_append]; rfl
     rw [hsn, hm 1 (by decide), hm 2 (by decide), hm 4 (by decide), hm1, hmr]
     (apply Sub.to [] [[(0,0)],[(1,0)],[(2,0)],[(3,0)],[(4,0)],[(8,0)],[(6,0)]]; all_goals (repeat' (first | exact ToAll.nil | exact famsTo.nil | exact famTo.nil | exact ToL.nil | exact ToR.nil | refine ToAll.cons ?_ ?_ | refine famsTo.cons ?_ ?_ | refine wt10 ?_ ?_ | exact To.undef _ | exact To.sc _ | exact To.hslL rfl rfl | exact To.ptrO rfl rfl rfl | exact To.mrefO rfl | exact To.nil rfl rfl rfl | exact wt1 | exact To.nilL | refine To.int ?_ | refine To.bool ?_ | refine To.hslL rfl ?_ | refine wt2 rfl ?_ ?_ ?_ | refine To.tupL ?_ | refine To.aggL ?_ | refine To.cptrL ?_ | refine wt3 ?_ | refine wt4 ?_ | refine To.cloL ?_ ?_ | exact wt5 | refine wt6 ?_ | refine ToB.one ?_ | exact wt7 | ((with_reducible apply ToL.consE); case e9 => rfl) | refine wt8 ?_ | refine ToL.cons ?_ ?_ | exact wt11 | refine wt9 ?_ ?_ | refine wt12 ?_ | (with_reducible rfl) | assumption)); all_goals (first | rfl | assumption | (simp; done) | (simp; omega) | (rw [wrap_small (by omega) (by omega)]; done) | (rw [wrap_small (by omega) (by omega)]; omega) | (refine congrArg Nat.cast ?_; assumption) | skip))
     refine colG_to fun c hc => ?_
     rcases hcb c hc with rfl | rfl | rfl | rfl
     ·rw [updV_ne (by decide)]
      unfold slotV
      dsimp only
      rw [hm 1 (by decide)]
      exact .ren (.hsl _ _ _ _ _ _ rfl)
     ·rw [updV_ne (by decide)]
      unfold slotV
      dsimp only
      rw [hm 2 (by decide)]
      exact .ren (.hsl _ _ _ _ _ _ rfl)
     ·rw [updV_eq]
      unfold slotV
      dsimp only
      rw [hm1, List.length_append]
      exact .ren (.hsl _ _ _ _ _ _ rfl)
     ·rw [updV_ne (by decide)]
      unfold slotV
      dsimp only
      rw [hm 4 (by decide)]
      exact .ren (.hsl _ _ _ _ _ _ rfl)
    ·have hf' : mfind .i64 ((4 : Nat) : Int) (colG (seenC cl k) (slotV fun c => (memC cl c k).length)) = some (some (.hsl 6 0 0 (memC cl 4 k).length)) := hf
     have hlen := natsR_len (memC cl 4 k)
     have hml := memC_len cl 4 k
     have hpr : PRs (natsR (memC cl 4 k)) := inferInstance
     refine Reg.o rfl (dstep_lookD (es := colG (seenC cl k) (slotV fun c => (memC cl c k).length)) rfl rfl rfl hf') ?_
     refine walkX ?_
     refine Reg.on rfl (dstep_mapPut (es := colG (seenC cl k) (slotV fun c => (memC cl c k).length)) rfl rfl rfl hf') ?_
     rw [colG_put _ _ _ _ (seen_nodup cl k)]
     refine walkX ?_
     refine ⟨k + 1, by omega, by omega, ?_⟩
     have hm : ∀ c, c ≠ 4 → memC cl c (k + 1) = memC cl c k := fun c hc => by rw [hms, if_neg (fun e => hc e.symm), List.append_nil]
     have hm1 : memC cl 4 (k + 1) = memC cl 4 k ++ [k] := by rw [hms, if_pos rfl]
     have hmr : natsR (memC cl 4 k ++ [k]) = natsR (memC cl 4 k) ++ [[.sc (.int .i64 (k : Int))]] := by unfold natsR; rw [List.map_append]; rfl
     rw [hsn, hm 1 (by decide), hm 2 (by decide), hm 3 (by decide), hm1, hmr]
     (apply Sub.to [] [[(0,0)],[(1,0)],[(2,0)],[(3,0)],[(4,0)],[(5,0)],[(8,0)]]; all_goals (repeat' (first | exact ToAll.nil | exact famsTo.nil | exact famTo.nil | exact ToL.nil | exact ToR.nil | refine ToAll.cons ?_ ?_ | refine famsTo.cons ?_ ?_ | refine wt10 ?_ ?_ | exact To.undef _ | exact To.sc _ | exact To.hslL rfl rfl | exact To.ptrO rfl rfl rfl | exact To.mrefO rfl | exact To.nil rfl rfl rfl | exact wt1 | exact To.nilL | refine To.int ?_ | refine To.bool ?_ | refine To.hslL rfl ?_ | refine wt2 rfl ?_ ?_ ?_ | refine To.tupL ?_ | refine To.aggL ?_ | refine To.cptrL ?_ | refine wt3 ?_ | refine wt4 ?_ | refine To.cloL ?_ ?_ | exact wt5 | refine wt6 ?_ | refine ToB.one ?_ | exact wt7 | ((with_reducible apply ToL.consE); case e9 => rfl) | refine wt8 ?_ | refine ToL.cons ?_ ?_ | exact wt11 | refine wt9 ?_ ?_ | refine wt12 ?_ | (with_reducible rfl) | assumption)); all_goals (first | rfl | assumption | (simp; done) | (simp; omega) | (rw [wrap_small (by omega) (by omega)]; done) | (rw [wrap_small (by omega) (by omega)]; omega) | (refine congrArg Nat.cast ?_; assumption) | skip))
     refine colG_to fun c hc => ?_
     rcases hcb c hc with rfl | rfl | rfl | rfl
     ·rw [updV_ne (by decide)]
      unfold slotV
      dsimp only
      rw [hm 1 (by decide)]
      exact .ren (.hsl _ _ _ _ _ _ rfl)
     ·rw [updV_ne (by decide)]
      unfold slotV
      dsimp only
      rw [hm 2 (by decide)]
      exact .ren (.hsl _ _ _ _ _ _ rfl)
     ·rw [updV_ne (by decide)]
      unfold slotV
      dsimp only
      rw [hm 3 (by decide)]
      exact .ren (.hsl _ _ _ _ _ _ rfl)
     ·rw [updV_eq]
      unfold slotV
      dsimp only
      rw [hm1, List.length_append]
      exact .ren (.hsl _ _ _ _ _ _ rfl)
   ·rw [if_neg (fun q => q.elim hc0 hs)] at hsn
    have hf := colG_find (slotV fun c => (memC cl c k).length) c (seenC cl k)
    rw [if_neg hs] at hf
    have hnil : memC cl c k = [] := by
     refine List.filter_eq_nil_iff.2 fun j hj hq => hs (mem_seen.2 ⟨hc0, j, List.mem_range.1 hj, ?_⟩)
     simpa using hq
    have hcb2 : ∀ d ∈ seenC cl k ++ [c], d = 1 ∨ d = 2 ∨ d = 3 ∨ d = 4 := fun d hd => by
     rcases List.mem_append.1 hd with q | q
     ·exact hcb d q
     ·rw [List.mem_singleton.1 q]
      omega
    refine walkX ?_
    rw [show ((c : Int) != -2) = true by simp]
    refine walkX ?_
    have hc5 : c = 1 ∨ c = 2 ∨ c = 3 ∨ c = 4 := by omega
    rcases hc5 with rfl | rfl | rfl | rfl
    ·refine Reg.o rfl (dstep_lookD (es := colG (seenC cl k) (slotV fun c => (memC cl c k).length)) rfl rfl rfl hf) ?_
     refine walkX ?_
     refine Reg.on rfl (dstep_mapNew (es := colG (seenC cl k) (slotV fun c => (memC cl c k).length)) rfl rfl rfl hf) ?_
     rw [colG_snoc _ _ _ _ hs]
     refine walkX ?_
     refine ⟨k + 1, by omega, by omega, ?_⟩
     have hm : ∀ c, c ≠ 1 → memC cl c (k + 1) = memC cl c k := fun c hc => by rw [hms, if_neg (fun e => hc e.symm), List.append_nil]
     have hm1 : memC cl 1 (k + 1) = [k] := by rw [hms, if_pos rfl, hnil]; rfl
     rw [hsn, hm 2 (by decide), hm 3 (by decide), hm 4 (by decide), hm1]
     (apply Sub.to [] [[(0,0)],[(1,0)],[(2,0)],[(8,0)],[(4,0)],[(5,0)],[(6,0)]]; all_goals (repeat' (first | exact ToAll.nil | exact famsTo.nil | exact famTo.nil | exact ToL.nil | exact ToR.nil | refine ToAll.cons ?_ ?_ | refine famsTo.cons ?_ ?_ | refine wt10 ?_ ?_ | exact To.undef _ | exact To.sc _ | exact To.hslL rfl rfl | exact To.ptrO rfl rfl rfl | exact To.mrefO rfl | exact To.nil rfl rfl rfl | exact wt1 | exact To.nilL | refine To.int ?_ | refine To.bool ?_ | refine To.hslL rfl ?_ | refine wt2 rfl ?_ ?_ ?_ | refine To.tupL ?_ | refine To.aggL ?_ | refine To.cptrL ?_ | refine wt3 ?_ | refine wt4 ?_ | refine To.cloL ?_ ?_ | exact wt5 | refine wt6 ?_ | refine ToB.one ?_ | exact wt7 | ((with_reducible apply ToL.consE); case e9 => rfl) | refine wt8 ?_ | refine ToL.cons ?_ ?_ | exact wt11 | refine wt9 ?_ ?_ | refine wt12 ?_ | (with_reducible rfl) | assumption)); all_goals (first | rfl | assumption | (simp; done) | (simp; omega) | (rw [wrap_small (by omega) (by omega)]; done) | (rw [wrap_small (by omega) (by omega)]; omega) | (refine congrArg Nat.cast ?_; assumption) | skip))
     refine colG_to fun c hc => ?_
     rcases hcb2 c hc with rfl | rfl | rfl | rfl
     ·rw [updV_eq]
      unfold slotV
      dsimp only
      rw [hm1]
      exact .ren (.hsl _ _ _ _ _ _ rfl)
     ·rw [updV_ne (by decide)]
      unfold slotV
      dsimp only
      rw [hm 2 (by decide)]
      exact .ren (.hsl _ _ _ _ _ _ rfl)
     ·rw [updV_ne (by decide)]
      unfold slotV
      dsimp only
      rw [hm 3 (by decide)]
      exact .ren (.hsl _ _ _ _ _ _ rfl)
     ·rw [updV_ne (by decide)]
      unfold slotV
      dsimp only
      rw [hm 4 (by decide)]
      exact .ren (.hsl _ _ _ _ _ _ rfl)
    ·refine Reg.o rfl (dstep_lookD (es := colG (seenC cl k) (slotV fun c => (memC cl c k).length)) rfl rfl rfl hf) ?_
     refine walkX ?_
     refine Reg.on rfl (dstep_mapNew (es := colG (seenC cl k) (slotV fun c => (memC cl c k).length)) rfl rfl rfl hf) ?_
     rw [colG_snoc _ _ _ _ hs]
     refine walkX ?_
     refine ⟨k + 1, by omega, by omega, ?_⟩
     have hm : ∀ c, c ≠ 2 → memC cl c (k + 1) = memC cl c k := fun c hc => by rw [hms, if_neg (fun e => hc e.symm), List.append_nil]
     have hm1 : memC cl 2 (k + 1) = [k] := by rw [hms, if_pos rfl, hnil]; rfl
     rw [hsn, hm 1 (by decide), hm 3 (by decide), hm 4 (by decide), hm1]
     (apply Sub.to [] [[(0,0)],[(1,0)],[(2,0)],[(3,0)],[(8,0)],[(5,0)],[(6,0)]]; all_goals (repeat' (first | exact ToAll.nil | exact famsTo.nil | exact famTo.nil | exact ToL.nil | exact ToR.nil | refine ToAll.cons ?_ ?_ | refine famsTo.cons ?_ ?_ | refine wt10 ?_ ?_ | exact To.undef _ | exact To.sc _ | exact To.hslL rfl rfl | exact To.ptrO rfl rfl rfl | exact To.mrefO rfl | exact To.nil rfl rfl rfl | exact wt1 | exact To.nilL | refine To.int ?_ | refine To.bool ?_ | refine To.hslL rfl ?_ | refine wt2 rfl ?_ ?_ ?_ | refine To.tupL ?_ | refine To.aggL ?_ | refine To.cptrL ?_ | refine wt3 ?_ | refine wt4 ?_ | refine To.cloL ?_ ?_ | exact wt5 | refine wt6 ?_ | refine ToB.one ?_ | exact wt7 | ((with_reducible apply ToL.consE); case e9 => rfl) | refine wt8 ?_ | refine ToL.cons ?_ ?_ | exact wt11 | refine wt9 ?_ ?_ | refine wt12 ?_ | (with_reducible rfl) | assumption)); all_goals (first | rfl | assumption | (simp; done) | (simp; omega) | (rw [wrap_small (by omega) (by omega)]; done) | (rw [wrap_small (by omega) (by omega)]; omega) | (refine congrArg Nat.cast ?_; assumption) | skip))
     refine colG_to fun c hc => ?_
     rcases hcb2 c hc with rfl | rfl | rfl | rfl
     ·rw [updV_ne (by decide)]
      unfold slotV
      dsimp only
      rw [hm 1 (by decide)]
      exact .ren (.hsl _ _ _ _ _ _ rfl)
     ·rw [updV_eq]
      unfold slotV
      dsimp only
      rw [hm1]
      exact .ren (.hsl _ _ _ _ _ _ rfl)
     ·rw [updV_ne (by decide)]
      unfold slotV
      dsimp only
      rw [hm 3 (by decide)]
      exact .ren (.hsl _ _ _ _ _ _ rfl)
     ·rw [updV_ne (by decide)]
      unfold slotV
      dsimp only
      rw [hm 4 (by decide)]
      exact .ren (.hsl _ _ _ _ _ _ rfl)
    ·refine Reg.o rfl (dstep_lookD (es := colG (seenC cl k) (slotV fun c => (memC cl c k).length)) rfl rfl rfl hf) ?_
     refine walkX ?_
     refine Reg.on rfl (dstep_mapNew (es := colG (seenC cl k) (slotV fun c => (memC cl c k).length)) rfl rfl rfl hf) ?_
     rw [colG_snoc _ _ _ _ hs]
     refine walkX ?_
     refine ⟨k + 1, by omega, by omega, ?_⟩
     have hm : ∀ c, c ≠ 3 → memC cl c (k + 1) = memC cl c k := fun c hc => by rw [hms, if_neg (fun e => hc e.symm), List.append_nil]
     have hm1 : memC cl 3 (k + 1) = [k] := by rw [hms, if_pos rfl, hnil]; rfl
     rw [hsn, hm 1 (by decide), hm 2 (by decide), hm 4 (by decide), hm1]
     (apply Sub.to [] [[(0,0)],[(1,0)],[(2,0)],[(3,0)],[(4,0)],[(8,0)],[(6,0)]]; all_goals (repeat' (first | exact ToAll.nil | exact famsTo.nil | exact famTo.nil | exact ToL.nil | exact ToR.nil | refine ToAll.cons ?_ ?_ | refine famsTo.cons ?_ ?_ | refine wt10 ?_ ?_ | exact To.undef _ | exact To.sc _ | exact To.hslL rfl rfl | exact To.ptrO rfl rfl rfl | exact To.mrefO rfl | exact To.nil rfl rfl rfl | exact wt1 | exact To.nilL | refine To.int ?_ | refine To.bool ?_ | refine To.hslL rfl ?_ | refine wt2 rfl ?_ ?_ ?_ | refine To.tupL ?_ | refine To.aggL ?_ | refine To.cptrL ?_ | refine wt3 ?_ | refine wt4 ?_ | refine To.cloL ?_ ?_ | exact wt5 | refine wt6 ?_ | refine ToB.one ?_ | exact wt7 | ((with_reducible apply ToL.consE); case e9 => rfl) | refine wt8 ?_ | refine ToL.cons ?_ ?_ | exact wt11 | refine wt9 ?_ ?_ | refine wt12 ?_ | (with_reducible rfl) | assumption)); all_goals (first | rfl | assumption | (simp; done) | (simp; omega) | (rw [wrap_small (by omega) (by omega)]; done) | (rw [wrap_small (by omega) (by omega)]; omega) | (refine congrArg Nat.cast ?_; assumption) | skip))
     refine colG_to fun c hc => ?_
     rcases hcb2 c hc with rfl | rfl | rfl | rfl
     ·rw [updV_ne (by decide)]
      unfold slotV
      dsimp only
      rw [hm 1 (by decide)]
      exact .ren (.hsl _ _ _ _ _ _ rfl)
     ·rw [updV_ne (by decide)]
      unfold slotV
      dsimp only
      rw [hm 2 (by decide)]
      exact .ren (.hsl _ _ _ _ _ _ rfl)
     ·rw [updV_eq]
      unfold slotV
      dsimp only
      rw [hm1]
      exact .ren (.hsl _ _ _ _ _ _ rfl)
     ·rw [updV_ne (by decide)]
      unfold slotV
      dsimp only
      rw [hm 4 (by decide)]
      exact .ren (.hsl _ _ _ _ _ _ rfl)
    ·refine Reg.o rfl (dstep_lookD (es := colG (seenC cl k) (slotV fun c => (memC cl c k).length)) rfl rfl rfl hf) ?_
     refine walkX ?_
     refine Reg.on rfl (dstep_mapNew (es := colG (seenC cl k) (slotV fun c => (memC cl c k).length)) rfl rfl rfl hf) ?_
     rw [colG_snoc _ _ _ _ hs]
     refine walkX ?_
     refine ⟨k + 1, by omega, by omega, ?_⟩
     have hm : ∀ c, c ≠ 4 → memC cl c (k + 1) = memC cl c k := fun c hc => by rw [hms, if_neg (fun e => hc e.symm), List.append_nil]
     have hm1 : memC cl 4 (k + 1) = [k] := by rw [hms, if_pos rfl, hnil]; rfl
     rw [hsn, hm 1 (by decide), hm 2 (by decide), hm 3 (by decide), hm1]
     (apply Sub.to [] [[(0,0)],[(1,0)],[(2,0)],[(3,0)],[(4,0)],[(5,0)],[(8,0)]]; all_goals (repeat' (first | exact ToAll.nil | exact famsTo.nil | exact famTo.nil | exact ToL.nil | exact ToR.nil | refine ToAll.cons ?_ ?_ | refine famsTo.cons ?_ ?_ | refine wt10 ?_ ?_ | exact To.undef _ | exact To.sc _ | exact To.hslL rfl rfl | exact To.ptrO rfl rfl rfl | exact To.mrefO rfl | exact To.nil rfl rfl rfl | exact wt1 | exact To.nilL | refine To.int ?_ | refine To.bool ?_ | refine To.hslL rfl ?_ | refine wt2 rfl ?_ ?_ ?_ | refine To.tupL ?_ | refine To.aggL ?_ | refine To.cptrL ?_ | refine wt3 ?_ | refine wt4 ?_ | refine To.cloL ?_ ?_ | exact wt5 | refine wt6 ?_ | refine ToB.one ?_ | exact wt7 | ((with_reducible apply ToL.consE); case e9 => rfl) | refine wt8 ?_ | refine ToL.cons ?_ ?_ | exact wt11 | refine wt9 ?_ ?_ | refine wt12 ?_ | (with_reducible rfl) | assumption)); all_goals (first | rfl | assumption | (simp; done) | (simp; omega) | (rw [wrap_small (by omega) (by omega)]; done) | (rw [wrap_small (by omega) (by omega)]; omega) | (refine congrArg Nat.cast ?_; assumption) | skip))
     refine colG_to fun c hc => ?_
     rcases hcb2 c hc with rfl | rfl | rfl | rfl
     ·rw [updV_ne (by decide)]
      unfold slotV
      dsimp only
      rw [hm 1 (by decide)]
      exact .ren (.hsl _ _ _ _ _ _ rfl)
     ·rw [updV_ne (by decide)]
      unfold slotV
      dsimp only
      rw [hm 2 (by decide)]
      exact .ren (.hsl _ _ _ _ _ _ rfl)
     ·rw [updV_ne (by decide)]
      unfold slotV
      dsimp only
      rw [hm 3 (by decide)]
      exact .ren (.hsl _ _ _ _ _ _ rfl)
     ·rw [updV_eq]
      unfold slotV
      dsimp only
      rw [hm1]
      exact .ren (.hsl _ _ _ _ _ _ rfl)
 have hk2 : k = n := by omega
 subst hk2
 subst hG
 have hcb : ∀ c ∈ seenC cl k, c = 1 ∨ c = 2 ∨ c = 3 ∨ c = 4 := fun c hc => (pres_mem ((pres_perm hcl h4).mem_iff.1 hc)).1
 refine AWP.exit ?_
 show AWP Try.prog F22.n 2 (pickI [1, 1, 1, 1, 1] F22.code) _ _ _
 refine AWP.sub ?_ (split_tail cs cl ks k hn0 hn hc hcn h0 hcl hkl h4)
 exact sub_wm [] [[(0,0)],[(1,0)],[(2,0)],[(3,0)],[(4,0)],[(5,0)],[(6,0)]]
end Go.Proofs.Ytpkpfgpfkajkpaa
namespace Go.Proofs.Ytpkpfgpfkajkpaa
open Go.Av Go.Proofs
set_option maxRecDepth 20000
set_option maxHeartbeats 32000000 in
theorem rank_out (cs : List (List Nat)) (N n : Nat) (cv kv W : Nat → Int) (i : Nat) (hi : i < n) (h1 : cv i = -2) (h2 : W i = -2) :
  AWP Try.prog F5.n 0 (pickI [1, 1, 1, 1, 1, 1, 1, 1, 1, 1, 1, 0, 1, 0, 0, 1, 1, 0] F5.code) (fun e fr' H' => e = .normal ∧ Sub 0 F5.n fr' H' [(9, .sc (.int .i64 (n : Int))), (10, .ptr 0 0 0 0), (14, natsV (List.range N)), (15, .list 1 (fnR n cv)), (16, .list 1 (fnR n kv)), (18, .list 1 (fnR n W)), (136, .list 1 (fnR n W)), (137, .sc (.int .i64 (n : Int))), (138, .sc (.int .i64 (i : Int)))] (worldH cs))
   [(9, .sc (.int .i64 (n : Int))), (10, .ptr 0 0 0 0), (14, natsV (List.range N)), (15, .list 1 (fnR n cv)), (16, .list 1 (fnR n kv)), (18, .list 1 (fnR n W)), (136, .list 1 (fnR n W)), (137, .sc (.int .i64 (n : Int))), (138, .sc (.int .i64 (i : Int)))] (worldH cs) := by
 have g1 := fnR_ix cv hi
 have g2 := fnR_ix W hi
 rw [h1] at g1
 rw [h2] at g2
 have e1 := fnR_len n cv
 have e2 := fnR_len n W
 have q1 : PRs (fnR n cv) := inferInstance
 have q2 : PRs (fnR n kv) := inferInstance
 have q3 : PRs (fnR n W) := inferInstance
 have q4 : PM (docM cs) := inferInstance
 have q5 : PRs (natsR (List.range N)) := inferInstance
 unfold worldH natsV
 generalize fnR n cv = C at *
 generalize fnR n kv = K at *
 generalize fnR n W = M at *
 generalize natsR (List.range N) = O at *
 show AWP Try.prog F5.n 0 (.block 5 _) _ _ _
 refine walkX ?_
 refine And.intro rfl ?_
 (apply Sub.to [] [[(0,0)],[(1,0)]]; all_goals (repeat' (first | exact ToAll.nil | exact famsTo.nil | exact famTo.nil | exact ToL.nil | exact ToR.nil | refine ToAll.cons ?_ ?_ | refine famsTo.cons ?_ ?_ | refine wt10 ?_ ?_ | exact To.undef _ | exact To.sc _ | exact To.hslL rfl rfl | exact To.ptrO rfl rfl rfl | exact To.mrefO rfl | exact To.nil rfl rfl rfl | exact wt1 | exact To.nilL | refine To.int ?_ | refine To.bool ?_ | refine To.hslL rfl ?_ | refine wt2 rfl ?_ ?_ ?_ | refine To.tupL ?_ | refine To.aggL ?_ | refine To.cptrL ?_ | refine wt3 ?_ | refine wt4 ?_ | refine To.cloL ?_ ?_ | exact wt5 | refine wt6 ?_ | refine ToB.one ?_ | exact wt7 | ((with_reducible apply ToL.consE); case e9 => rfl) | refine wt8 ?_ | refine ToL.cons ?_ ?_ | exact wt11 | refine wt9 ?_ ?_ | refine wt12 ?_ | (with_reducible rfl) | assumption)); all_goals (first | rfl | assumption | (simp; done) | (simp; omega) | (rw [wrap_small (by omega) (by omega)]; done) | (rw [wrap_small (by omega) (by omega)]; omega) | (refine congrArg Nat.cast ?_; assumption) | skip))
set_option maxHeartbeats 32000000 in
theorem rank_in (cs : List (List Nat)) (N n x : Nat) (cv kv W : Nat → Int) (L : List Nat) (i : Nat) (hi : i < n) (hn : n ≤ 64) (hN : N ≤ 1000000) (h1 : cv i ≠ -2) (h2 : W i = (x : Int)) (hx : N ≤ x) (hg : CallOK Try.prog 24 [.ptr 0 0 0 0, .sc (.int .i64 (x : Int))] (worldH cs) fun res H' => res = .tup [natsV L, .sc (.int .i64 0)] ∧ H' = worldH cs)
  (hL : ∀ p, p ∈ L ↔ p < n ∧ cv p = cv i) (hLl : L.length ≤ 64) (hLs : L.Pairwise fun a b => kv a < kv b ∨ kv a = kv b ∧ a < b) (heq : ∀ p, p < n → (cv p = cv i ↔ W p = (x : Int))) :
  AWP Try.prog F5.n 0 (pickI [1, 1, 1, 1, 1, 1, 1, 1, 1, 1, 1, 0, 1, 0, 0, 1, 1, 0] F5.code) (fun e fr' H' => e = .normal ∧ Sub 0 F5.n fr' H' [(9, .sc (.int .i64 (n : Int))), (10, .ptr 0 0 0 0), (14, natsV (List.range N)), (15, .list 1 (fnR n cv)), (16, .list 1 (fnR n kv)), (18, .list 1 (fnR n W)), (136, .list 1 (fnR n W)), (137, .sc (.int .i64 (n : Int))), (138, .sc (.int .i64 (i : Int)))] (worldH cs))
   [(9, .sc (.int .i64 (n : Int))), (10, .ptr 0 0 0 0), (14, natsV (List.range N)), (15, .list 1 (fnR n cv)), (16, .list 1 (fnR n kv)), (18, .list 1 (fnR n W)), (136, .list 1 (fnR n W)), (137, .sc (.int .i64 (n : Int))), (138, .sc (.int .i64 (i : Int)))] (worldH cs) := by
 have m1 := member_ok (castL (List.range N)) (x : Int) (by rw [castL_len, List.length_range]; omega)
 rw [decide_eq_false (fun e => by obtain ⟨j, hj, ej⟩ := castL_mem e; have := List.mem_range.1 hj; omega), show intsR (castL (List.range N)) = natsR (List.range N) from intsR_nats _] at m1
 have m2 : ∀ p, p < n → cv p = cv i → PureRun Try.prog 23 [.list 1 (natsR L), .sc (.int .i64 (p : Int))] (.sc (.bool true)) := fun p hp he => by
  have := member_ok (castL L) (p : Int) (by rw [castL_len]; omega)
  rw [decide_eq_true (show (p : Int) ∈ castL L from List.mem_map.2 ⟨p, (hL p).2 ⟨hp, he⟩, rfl⟩), show intsR (castL L) = natsR L from intsR_nats _] at this
  exact this
 have m3 := m2 i hi rfl
 have gC := fun p (hp : p < n) => fnR_ix cv hp
 have gM := fun p (hp : p < n) => fnR_ix W hp
 have gK := fun p (hp : p < n) => fnR_ix kv hp
 have g1 := gC i hi
 have g2 := gM i hi
 rw [h2] at g2
 have e1 := fnR_len n cv
 have e2 := fnR_len n W
 have e3 := fnR_len n kv
 have e4 := natsR_len L
 have q1 : PRs (fnR n cv) := inferInstance
 have q2 : PRs (fnR n kv) := inferInstance
 have q3 : PRs (fnR n W) := inferInstance
 have q4 : PM (docM cs) := inferInstance
 have q5 : PRs (natsR (List.range N)) := inferInstance
 have q6 : PRs (natsR L) := inferInstance
 have hgL := fun j (hj : j < L.length) => natsR_ix L j hj
 unfold worldH natsV at *
 generalize fnR n cv = C at *
 generalize fnR n kv = K at *
 generalize fnR n W = M at *
 generalize natsR (List.range N) = O at *
 generalize natsR L = G at *
 show AWP Try.prog F5.n 0 (.block 5 _) _ _ _
 refine walkX ?_
 rw [beq_false_of_ne h1]
 refine walkX ?_
 refine Reg.c (Nat.zero_le _) rfl (hg.mono ?_)
 rintro res H' ⟨rfl, rfl⟩
 refine walkX ?_
 refine AWP.loop (fun j : Nat => [(9, .sc (.int .i64 (n : Int))), (10, .ptr 0 0 0 0), (14, .list 1 O), (15, .list 1 C), (16, .list 1 K), (18, .list 1 M), (136, .list 1 M), (137, .sc (.int .i64 (n : Int))), (138, .sc (.int .i64 (i : Int))), (19, .sc (.int .i64 (i : Int))), (20, .sc (.int .i64 (x : Int))), (21, .list 1 G), (176, .list 1 G), (177, .sc (.int .i64 (L.length : Int))), (178, .sc (.int .i64 (j : Int)))]) (fun _ => [[.cells 1 [[.mref 1 0]]], [.map (docM cs)]]) (fun j => j ≤ L.length) (fun j => L.length - j) 0 (Nat.zero_le _) ?_ ?_
 ·exact Sub.wx [] [[(0,0)],[(1,0)]]
 ·rintro j hj
  refine walkX0 ?_
  refine AWP.condD rfl (fun h => ?_) (fun h => ?_)
  ·have hpm : L[j] ∈ L := List.getElem_mem _
   obtain ⟨hp, hpc⟩ := (hL _).1 hpm
   have k1 := hgL j h
   have k2 := gM _ hp
   rw [(heq _ hp).1 hpc] at k2
   have k3 := gC _ hp
   rw [hpc] at k3
   have k4 := gK _ hp
   cases j with
   | zero =>
    generalize L[0] = p at *
    refine walkX ?_
    rw [decide_eq_false (show ¬ n ≤ p by omega)]
    refine walkX ?_
    rw [decide_eq_true (rfl : x = x)]
    refine walkX ?_
    rw [bne_self_eq_false]
    refine walkX ?_
    refine DK.nil ⟨by kernel_rfl, ?_⟩
    refine walkX ?_
    refine ⟨1, by omega, by omega, ?_⟩
    exact Sub.wx [] [[(0,0)],[(1,0)]]
   | succ j =>
    have k5 := hgL j (by omega)
    have hqm : L[j] ∈ L := List.getElem_mem _
    obtain ⟨hq, hqc⟩ := (hL _).1 hqm
    have k6 := gK _ hq
    have k7 := (List.pairwise_iff_getElem.1 hLs) j (j + 1) (by omega) h (by omega)
    generalize L[j] = q at *
    generalize L[j + 1] = p at *
    refine walkX ?_
    rw [decide_eq_false (show ¬ n ≤ p by omega)]
    refine walkX ?_
    rw [decide_eq_true (rfl : x = x)]
    refine walkX ?_
    rw [bne_self_eq_false]
    refine walkX ?_
    rw [decide_eq_false (show ¬ kv p < kv q by omega)]
    refine walkX ?_
    rcases k7 with k7 | ⟨k7, k8⟩
    ·rw [beq_false_of_ne (show kv q ≠ kv p by omega)]
     refine walkX ?_
     refine DK.nil ⟨by kernel_rfl, ?_⟩
     refine walkX ?_
     refine ⟨j + 2, by omega, by omega, ?_⟩
     exact Sub.wx [] [[(0,0)],[(1,0)]]
    ·rw [show (kv q == kv p) = true by simp [k7]]
     refine walkX ?_
     rw [decide_eq_false (show ¬ p ≤ q by omega)]
     refine walkX ?_
     refine DK.nil ⟨by kernel_rfl, ?_⟩
     refine walkX ?_
     refine ⟨j + 2, by omega, by omega, ?_⟩
     exact Sub.wx [] [[(0,0)],[(1,0)]]
  have hj2 : j = L.length := by omega
  subst hj2
  refine walkX ?_
  refine AWP.loop (fun p : Nat => [(9, .sc (.int .i64 (n : Int))), (10, .ptr 0 0 0 0), (14, .list 1 O), (15, .list 1 C), (16, .list 1 K), (18, .list 1 M), (136, .list 1 M), (137, .sc (.int .i64 (n : Int))), (138, .sc (.int .i64 (i : Int))), (19, .sc (.int .i64 (i : Int))), (20, .sc (.int .i64 (x : Int))), (21, .list 1 G), (253, .sc (.int .i64 (n : Int))), (254, .sc (.int .i64 (p : Int)))]) (fun _ => [[.cells 1 [[.mref 1 0]]], [.map (docM cs)]]) (fun p => p ≤ n) (fun p => n - p) 0 (Nat.zero_le _) ?_ ?_
  ·exact Sub.wx [] [[(0,0)],[(1,0)]]
  ·rintro p hp
   refine walkX0 ?_
   refine AWP.condD rfl (fun h => ?_) (fun h => ?_)
   ·have k1 := gM p h
    have k2 := gC p h
    have k3 := heq p h
    have k4 := m2 p h
    by_cases hpc : cv p = cv i
    ·rw [k3.1 hpc] at k1
     rw [hpc] at k2
     have k5 := k4 hpc
     refine walkX0 ?_
     refine AWP.lin [(true, 0), (true, 1), (true, 2), (true, 3), (true, 4), (true, 5), (true, 6), (true, 7), (true, 8), (true, 9), (true, 10), (true, 11), (true, 12), (true, 13), (true, 14), (true, 15), (true, 16), (true, 17), (true, 18), (true, 19), (true, 20), (true, 21), (true, 22), (true, 23), (true, 24), (true, 25), (true, 26), (true, 27), (true, 28), (false, 29), (true, 30), (true, 31), (true, 32)] mixed (by kernel_rfl) (by kernel_rfl) ?_
     refine walkL ?_
     rw [show (cv i == cv i) = true by simp, decide_eq_true (rfl : x = x)]
     refine walkL ?_
     rw [show (cv i == cv i) = true by simp]
     refine walkL ?_
     refine walkX ?_
     refine ⟨p + 1, by omega, by omega, ?_⟩
     exact Sub.wx [] [[(0,0)],[(1,0)]]
    ·have k5 : W p ≠ (x : Int) := fun e => hpc (k3.2 e)
     refine walkX0 ?_
     refine AWP.lin [(true, 0), (true, 1), (true, 2), (true, 3), (true, 4), (true, 5), (true, 6), (true, 7), (true, 8), (true, 9), (true, 10), (true, 11), (true, 12), (true, 13), (true, 14), (true, 15), (true, 16), (true, 17), (true, 18), (true, 19), (true, 20), (true, 21), (true, 22), (true, 23), (true, 24), (true, 25), (true, 26), (true, 27), (true, 28), (false, 29), (true, 30), (true, 31), (true, 32)] mixed (by kernel_rfl) (by kernel_rfl) ?_
     refine walkL ?_
     rw [beq_false_of_ne hpc, beq_false_of_ne k5]
     refine walkL ?_
     rw [beq_false_of_ne hpc]
     refine walkL ?_
     refine walkX ?_
     refine ⟨p + 1, by omega, by omega, ?_⟩
     exact Sub.wx [] [[(0,0)],[(1,0)]]
   have hp2 : p = n := by omega
   subst hp2
   refine walkX ?_
   refine And.intro rfl ?_
   (apply Sub.to [] [[(0,0)],[(1,0)]]; all_goals (repeat' (first | exact ToAll.nil | exact famsTo.nil | exact famTo.nil | exact ToL.nil | exact ToR.nil | refine ToAll.cons ?_ ?_ | refine famsTo.cons ?_ ?_ | refine wt10 ?_ ?_ | exact To.undef _ | exact To.sc _ | exact To.hslL rfl rfl | exact To.ptrO rfl rfl rfl | exact To.mrefO rfl | exact To.nil rfl rfl rfl | exact wt1 | exact To.nilL | refine To.int ?_ | refine To.bool ?_ | refine To.hslL rfl ?_ | refine wt2 rfl ?_ ?_ ?_ | refine To.tupL ?_ | refine To.aggL ?_ | refine To.cptrL ?_ | refine wt3 ?_ | refine wt4 ?_ | refine To.cloL ?_ ?_ | exact wt5 | refine wt6 ?_ | refine ToB.one ?_ | exact wt7 | ((with_reducible apply ToL.consE); case e9 => rfl) | refine wt8 ?_ | refine ToL.cons ?_ ?_ | exact wt11 | refine wt9 ?_ ?_ | refine wt12 ?_ | (with_reducible rfl) | assumption)); all_goals (first | rfl | assumption | (simp; done) | (simp; omega) | (rw [wrap_small (by omega) (by omega)]; done) | (rw [wrap_small (by omega) (by omega)]; omega) | (refine congrArg Nat.cast ?_; assumption) | skip))
end Go.Proofs.Ytpkpfgpfkajkpaa
namespace Go.Proofs.Ytpkpfgpfkajkpaa
open Go.Av Go.Proofs
set_option maxRecDepth 20000
def rankFr (N n : Nat) (cv kv W : Nat → Int) (i : Nat) : Fr := [(9, .sc (.int .i64 (n : Int))), (10, .ptr 0 0 0 0), (14, natsV (List.range N)), (15, .list 1 (fnR n cv)), (16, .list 1 (fnR n kv)), (18, .list 1 (fnR n W)), (136, .list 1 (fnR n W)), (137, .sc (.int .i64 (n : Int))), (138, .sc (.int .i64 (i : Int)))]
set_option maxHeartbeats 32000000 in
theorem law_tail (cs : List (List Nat)) (N n : Nat) (cv kv W : Nat → Int) (hn : n ≤ 64) (hN : N ≤ 10)
  (hr : ∀ i, i < n → AWP Try.prog F5.n 0 (pickI [1, 1, 1, 1, 1, 1, 1, 1, 1, 1, 1, 0, 1, 0, 0, 1, 1, 0] F5.code) (fun e fr' H' => e = .normal ∧ Sub 0 F5.n fr' H' (rankFr N n cv kv W i) (worldH cs)) (rankFr N n cv kv W i) (worldH cs))
  (ho : ∀ j, j < N → CallOK Try.prog 24 [.ptr 0 0 0 0, .sc (.int .i64 (j : Int))] (worldH cs) fun res H' => res = .tup [natsV (List.range n), .sc (.int .i64 0)] ∧ H' = worldH cs) :
  AWP Try.prog F5.n 0 (pickI [1, 1, 1, 1, 1, 1, 1, 1, 1, 1, 1] F5.code) (fun e fr' H' => (e = .normal ∨ e = .ret) ∧ ∃ res res' H2, resOf fr' H' F5.res = some res ∧ SubV 0 H' res H2 res' ∧ res' = .sc (.bool true) ∧ H2 = [])
   [(9, .sc (.int .i64 (n : Int))), (10, .ptr 0 0 0 0), (14, natsV (List.range N)), (15, .list 1 (fnR n cv)), (16, .list 1 (fnR n kv)), (18, .list 1 (fnR n W))] (worldH cs) := by
 have hw := works_ok
 have e2 := fnR_len n W
 have e3 := natsR_len (List.range N)
 have e4 := natsR_len (List.range n)
 rw [List.length_range] at e3 e4
 have hO := fun j (hj : j < N) => natsR_ix (List.range N) j (by rw [List.length_range]; exact hj)
 have q1 : PRs (fnR n cv) := inferInstance
 have q2 : PRs (fnR n kv) := inferInstance
 have q3 : PRs (fnR n W) := inferInstance
 have q4 : PM (docM cs) := inferInstance
 have q5 : PRs (natsR (List.range N)) := inferInstance
 have q6 : PRs (natsR (List.range n)) := inferInstance
 unfold rankFr worldH natsV at *
 generalize fnR n cv = C at *
 generalize fnR n kv = K at *
 generalize fnR n W = M at *
 generalize docM cs = es at *
 generalize natsR (List.range n) = G at *
 show AWP Try.prog F5.n 0 (.seq _ _) _ _ _
 refine AWP.seq ?_
 refine walkX ?_
 refine AWP.loop (fun i : Nat => [(9, .sc (.int .i64 (n : Int))), (10, .ptr 0 0 0 0), (14, .list 1 (natsR (List.range N))), (15, .list 1 C), (16, .list 1 K), (18, .list 1 M), (136, .list 1 M), (137, .sc (.int .i64 (n : Int))), (138, .sc (.int .i64 (i : Int)))]) (fun _ => [[.cells 1 [[.mref 1 0]]], [.map es]]) (fun i => i ≤ n) (fun i => n - i) 0 (Nat.zero_le _) ?_ ?_
 ·exact Sub.wx [] [[(0,0)],[(1,0)]]
 rintro i hi
 refine walkX0 ?_
 refine AWP.condD rfl (fun h => ?_) (fun h => ?_)
 ·refine AWP.skip ?_
  refine AWP.seq (AWP.sub (fr' := [(9, .sc (.int .i64 (n : Int))), (10, .ptr 0 0 0 0), (14, .list 1 (natsR (List.range N))), (15, .list 1 C), (16, .list 1 K), (18, .list 1 M), (136, .list 1 M), (137, .sc (.int .i64 (n : Int))), (138, .sc (.int .i64 (i : Int)))]) (H' := [[.cells 1 [[.mref 1 0]]], [.map es]]) ?_ (AWP.mono (hr i h) ?_))
  ·exact Sub.wx [] [[(0,0)],[(1,0)]]
  rintro e fr' H' ⟨rfl, hsub⟩
  refine AWP.sub hsub ?_
  refine walkX ?_
  refine ⟨i + 1, by omega, by omega, ?_⟩
  exact Sub.wx [] [[(0,0)],[(1,0)]]
 have hi2 : i = n := by omega
 subst hi2
 clear hr
 refine walkX ?_
 refine AWP.loop (fun j : Nat => [(9, .sc (.int .i64 (i : Int))), (10, .ptr 0 0 0 0), (292, .list 1 (natsR (List.range N))), (293, .sc (.int .i64 (N : Int))), (294, .sc (.int .i64 (j : Int)))]) (fun _ => [[.cells 1 [[.mref 1 0]]], [.map es]]) (fun j => j ≤ N) (fun j => N - j) 0 (Nat.zero_le _) ?_ ?_
 ·exact Sub.wx [] [[(0,0)],[(1,0)]]
 rintro j hj
 refine walkX0 ?_
 refine AWP.condD rfl (fun h => ?_) (fun h => ?_)
 ·have hg := ho j h
  have k1 := hO j h
  rw [List.getElem_range] at k1
  generalize natsR (List.range N) = O at *
  refine walkX ?_
  refine Reg.c (Nat.zero_le _) rfl (hg.mono ?_)
  rintro res H' ⟨rfl, rfl⟩
  refine walkX ?_
  rw [e4, decide_eq_true (rfl : i = i)]
  refine walkX ?_
  refine ⟨j + 1, by omega, by omega, ?_⟩
  exact Sub.wx [] [[(0,0)],[(1,0)]]
 have hj2 : j = N := by omega
 subst hj2
 refine walkX ?_
 exact endW [] (⟨rfl, rfl⟩)
end Go.Proofs.Ytpkpfgpfkajkpaa
namespace Go.Proofs.Ytpkpfgpfkajkpaa
open Go.Av Go.Proofs
set_option maxRecDepth 20000
theorem colV_inj {a b : Nat} (h : colV a = colV b) : a = b := by
 unfold colV at h
 split at h <;> split at h <;> omega
theorem colsR_fn {cl : List Nat} {n : Nat} (h : cl.length = n) : colsR cl = fnR n fun j => colV (cl.getD j 0) := by
 unfold colsR fnR
 congr 1
 refine List.ext_getElem (by simp [h]) fun j h1 h2 => ?_
 simp at h1 h2 ⊢
 rw [List.getElem?_eq_getElem h1]
 rfl
theorem keysR_fn {ks : List Int} {n : Nat} (h : ks.length = n) : intsR ks = fnR n (keyK ks) := by
 unfold fnR
 congr 1
 refine List.ext_getElem (by simp [h]) fun j h1 h2 => ?_
 simp at h1 h2 ⊢
 unfold keyK
 rw [List.getD_eq_getElem?_getD, List.getElem?_eq_getElem h1]
 rfl
theorem rounds_ok (cs : List (List Nat)) (cl : List Nat) (ks : List Int) (n : Nat) (D : Nat → List Nat) (hn : n ≤ 64) (hc : 0 < cs.length) (hcn : cs.length ≤ 10) (h0 : ∀ c ∈ cs, 0 < c.length ∧ c.length ≤ 64) (hcl : cl.length = n) (h4 : ∀ c ∈ cl, c ≤ 4)
  (hD : ∀ c ∈ presC cl, (D c).Perm (memC cl c n) ∧ (D c).Pairwise (ltK ks)) (i : Nat) (hi : i < n) :
  AWP Try.prog F5.n 0 (pickI [1, 1, 1, 1, 1, 1, 1, 1, 1, 1, 1, 0, 1, 0, 0, 1, 1, 0] F5.code) (fun e fr' H' => e = .normal ∧ Sub 0 F5.n fr' H' (rankFr cs.length n (fun j => colV (cl.getD j 0)) (keyK ks) (outI cl cs.length (presC cl)) i) (worldH (cs ++ (presC cl).map D)))
   (rankFr cs.length n (fun j => colV (cl.getD j 0)) (keyK ks) (outI cl cs.length (presC cl)) i) (worldH (cs ++ (presC cl).map D)) := by
 have hmem : cl.getD i 0 ≠ 0 → cl.getD i 0 ∈ presC cl := fun h => (pres_perm hcl h4).mem_iff.1 (mem_seen.2 ⟨h, i, hi, rfl⟩)
 by_cases hz : cl.getD i 0 = 0
 ·refine rank_out _ _ _ _ _ _ _ hi (by rw [hz]; rfl) ?_
  unfold outI
  rw [if_neg]
  rw [hz]
  intro h
  have := (pres_mem h).1
  omega
 have hm := hmem hz
 obtain ⟨d1, d2⟩ := hD _ hm
 have hlt : (presC cl).idxOf (cl.getD i 0) < (presC cl).length := List.idxOf_lt_length_of_mem hm
 have hx : (cs ++ (presC cl).map D)[cs.length + (presC cl).idxOf (cl.getD i 0)]'(by rw [List.length_append, List.length_map]; omega) = D (cl.getD i 0) := by
  rw [List.getElem_append_right (by omega)]
  simp
 have hall : ∀ c ∈ cs ++ (presC cl).map D, 0 < c.length ∧ c.length ≤ 64 := fun c hc => by
  rcases List.mem_append.1 hc with hc | hc
  ·exact h0 c hc
  ·obtain ⟨d, hd, rfl⟩ := List.mem_map.1 hc
   rw [(hD d hd).1.length_eq]
   refine ⟨memC_pos hcl h4 hd, ?_⟩
   have := memC_len cl d n
   omega
 have hg := group_ok (cs ++ (presC cl).map D) (cs.length + (presC cl).idxOf (cl.getD i 0)) (by rw [List.length_append, List.length_map]; omega) hall
 rw [hx] at hg
 refine rank_in _ _ _ (cs.length + (presC cl).idxOf (cl.getD i 0)) _ _ _ (D (cl.getD i 0)) _ hi hn (by omega) ?_ ?_ (by omega) hg ?_ ?_ d2 ?_
 ·intro h
  exact hz (colV_inj (h.trans (show (-2 : Int) = colV 0 from rfl)))
 ·unfold outI
  rw [if_pos hm]
 ·intro p
  rw [d1.mem_iff, mem_memC]
  constructor
  ·rintro ⟨h1, h2⟩
   exact ⟨h1, by rw [h2]⟩
  ·rintro ⟨h1, h2⟩
   exact ⟨h1, colV_inj h2⟩
 ·rw [d1.length_eq]
  have := memC_len cl (cl.getD i 0) n
  omega
 ·intro p hp
  unfold outI
  constructor
  ·intro h
   rw [colV_inj h, if_pos hm]
  ·intro h
   split at h
   ·rename_i hpm
    have h2 : (presC cl).idxOf (cl.getD p 0) = (presC cl).idxOf (cl.getD i 0) := by omega
    have h3 := List.getElem_idxOf (List.idxOf_lt_length_of_mem hpm)
    have h4 := List.getElem_idxOf hlt
    simp only [h2] at h3
    exact congrArg colV (h3.symm.trans h4)
   ·omega
def bytR (l : List Nat) : List (List AV) := l.map fun b : Nat => [.sc (.int .u8 (b : Int))]
theorem bytR_len (l : List Nat) : (bytR l).length = l.length := by simp [bytR]
instance (l : List Nat) : PRs (bytR l) := ⟨fun r hr => by
 obtain ⟨a, _, rfl⟩ := List.mem_map.1 hr
 exact allPure_cons (.sc _) allPure_nil⟩
theorem bytR_ix (l : List Nat) (k : Nat) (h : k < l.length) : rowIx (bytR l) (k : Int) = some [.sc (.int .u8 (l.getD k 0 : Int))] := by
 have := rowIx_map (fun n : Nat => [AV.sc (.int .u8 (n : Int))]) l k h
 unfold bytR
 rw [this, List.getD_eq_getElem?_getD, List.getElem?_eq_getElem h]
 rfl
def clF (l : List Nat) (j : Nat) : Nat := if l.length = 0 then 0 else l.getD (j % l.length) 0 % 5
def kvF (l : List Nat) (j : Nat) : Int := if l.length = 0 then 0 else (l.getD (j % l.length) 0 : Int) - 100
def fillR (m : Nat) (F : Nat → Int) (i : Nat) : List (List AV) := fnR m fun j => if j < i then F j else 0
instance (m : Nat) (F : Nat → Int) (i : Nat) : PRs (fillR m F i) := inferInstanceAs (PRs (intsR _))
theorem fillR_len (m : Nat) (F : Nat → Int) (i : Nat) : (fillR m F i).length = m := fnR_len _ _
theorem fillR_ix {m : Nat} (F : Nat → Int) {i : Nat} (h : i < m) : rowIx (fillR m F i) (i : Int) = some [.sc (.int .i64 0)] := by
 unfold fillR
 rw [fnR_ix _ h, if_neg (Nat.lt_irrefl i)]
theorem fillR_zero (m : Nat) (F : Nat → Int) : List.replicate m (zrow [(1, Value.int .i64 0)]) = fillR m F 0 := by
 unfold fillR fnR intsR
 refine List.ext_getElem (by simp) fun _ h1 h2 => ?_
 simp [zrow]
theorem fillR_set {m : Nat} (F : Nat → Int) {i : Nat} {x : Int} (h : F i = x) : (fillR m F i).set i [.sc (.int .i64 x)] = fillR m F (i + 1) := by
 unfold fillR
 rw [fnR_set]
 refine fnR_congr fun j _ => ?_
 by_cases q : j = i
 ·subst q
  rw [if_pos rfl, if_pos (Nat.lt_succ_self _), h]
 ·rw [if_neg q]
  by_cases q2 : j < i
  ·rw [if_pos q2, if_pos (by omega)]
  ·rw [if_neg q2, if_neg (by omega)]
theorem fillR_full (m : Nat) (F : Nat → Int) : fillR m F m = fnR m F := fnR_congr fun _ h => if_pos h
end Go.Proofs.Ytpkpfgpfkajkpaa
namespace Go.Proofs.Ytpkpfgpfkajkpaa
open Go.Av Go.Proofs
set_option maxRecDepth 20000
def repW (m k : Nat) : List (List Nat) := List.replicate k (List.range m)
theorem repW_all {m k : Nat} (h1 : 0 < m) (h2 : m ≤ 64) : ∀ c ∈ repW m k, 0 < c.length ∧ c.length ≤ 64 := fun c hc => by
 rw [List.eq_of_mem_replicate hc, List.length_range]
 exact ⟨h1, h2⟩
theorem repW_snoc (m k : Nat) : repW m k ++ [List.range m] = repW m (k + 1) := (List.replicate_succ' ..).symm
theorem getD_mem {l : List Nat} {k : Nat} (h : k < l.length) : l.getD k 0 ∈ l := by
 rw [List.getD_eq_getElem?_getD, List.getElem?_eq_getElem h]
 exact List.getElem_mem _
theorem rowIx_set (R : List (List AV)) {i : Nat} (h : i < R.length) (v : List AV) : rowIx (R.set i v) (i : Int) = some v := by
 show (R.set i v)[i]? = some v
 rw [List.getElem?_set_self h]
set_option maxHeartbeats 32000000 in
theorem commSplits_ok (n before : Nat) (colors keys : List Nat) (hn : n ≤ 255) (hb : before ≤ 255) (hc : ∀ b ∈ colors, b ≤ 255) (hk : ∀ b ∈ keys, b ≤ 255) :
  CallOK Try.prog 5 [.sc (.int .u8 (n : Int)), .sc (.int .u8 (before : Int)), .list 1 (bytR colors), .list 1 (bytR keys)] [] fun res _ => res = .sc (.bool true) := by
 refine CallOK.mono (R := fun res H' => res = .sc (.bool true) ∧ H' = []) ?_ fun _ _ h => h.1
 refine CallOK.of cF5 ?_ (Nat.le_of_ble_eq_true rfl)
 have hw := works_ok
 have ec := bytR_len colors
 have ek := bytR_len keys
 refine walkX ?_
 by_cases hA : 64 < colors.length
 ·rw [ec, decide_eq_true hA]
  refine walkX ?_
  exact endW [] (⟨rfl, rfl⟩)
 rw [ec, decide_eq_false hA]
 refine walkX ?_
 by_cases hB : 64 < keys.length
 ·rw [ek, decide_eq_true hB]
  refine walkX ?_
  exact endW [] (⟨rfl, rfl⟩)
 rw [ek, decide_eq_false hB]
 refine walkX ?_
 obtain ⟨m, hm, hm0, hm1⟩ : ∃ m, 1 + n % 64 = m ∧ 0 < m ∧ m ≤ 64 := ⟨_, rfl, by omega, by omega⟩
 rw [hm]
 clear hm
 have hnew : CallOK Try.prog 19 [.sc (.int .i64 (m : Int))] [] fun res H' => res = .tup [.ptr 0 0 0 0, .sc (.int .i64 0)] ∧ H' = [[.cells 1 [[.mref 1 0]]], [.map (docM (repW m (1)))]] := new_ok m hm0 hm1
 refine Reg.c (Nat.le_refl _) rfl (hnew.mono ?_)
 rintro res H' ⟨rfl, rfl⟩
 clear hnew
 have hpm : PM (docM (repW m 1)) := inferInstance
 refine walkX ?_
 obtain ⟨b, hbe, hb9⟩ : ∃ b, before % 10 = b ∧ b ≤ 9 := ⟨_, rfl, by omega⟩
 rw [hbe]
 clear hbe
 refine AWP.loop (fun k : Nat => [(2, .list 1 (bytR colors)), (3, .list 1 (bytR keys)), (9, .sc (.int .i64 (m : Int))), (10, .ptr 0 0 0 0), (52, .sc (.int .i64 (b : Int))), (53, .sc (.int .i64 (k : Int)))]) (fun k => [[.cells 1 [[.mref 1 0]]], [.map (docM (repW m (k + 1)))]]) (fun k => k ≤ b) (fun k => b - k) 0 (Nat.zero_le _) ?_ ?_
 ·exact Sub.wx [] [[(0,0)],[(1,0)]]
 ·rintro k hkb
  refine walkX0 ?_
  have hpk : PM (docM (repW m (k + 1))) := inferInstance
  have hpk2 : PM (docM (repW m (k + 1 + 1))) := inferInstance
  refine AWP.condD rfl (fun h => ?_) (fun h => ?_)
  ·have hrl : (repW m (k + 1)).length = k + 1 := List.length_replicate
   have hd : CallOK Try.prog 20 [.ptr 0 0 0 0, .sc (.int .i64 ((0 : Nat) : Int))] [[.cells 1 [[.mref 1 0]]], [.map (docM (repW m (k + 1)))]] fun res H' => res = .tup [.sc (.int .i64 ((k + 1 : Nat) : Int)), .sc (.int .i64 0)] ∧ H' = [[.cells 1 [[.mref 1 0]]], [.map (docM (repW m (k + 1 + 1)))]] := by
    have := dup_ok (repW m (k + 1)) 0 (by omega) (by omega) (repW_all hm0 hm1)
    rw [show (repW m (k + 1))[0]'(by omega) = List.range m from List.getElem_replicate .., repW_snoc, hrl] at this
    exact this
   generalize docM (repW m (k + 1)) = es at *
   refine walkX ?_
   refine Reg.c (Nat.zero_le _) rfl (hd.mono ?_)
   rintro res H' ⟨rfl, rfl⟩
   refine walkX ?_
   refine ⟨k + 1, by omega, by omega, ?_⟩
   exact Sub.wx [] [[(0,0)],[(1,0)]]
  have hkb2 : k = b := by omega
  subst hkb2
  have hrl : (repW m (k + 1)).length = k + 1 := List.length_replicate
  have hcx : CallOK Try.prog 21 [.ptr 0 0 0 0] [[.cells 1 [[.mref 1 0]]], [.map (docM (repW m (k + 1)))]] fun res H' => res = natsV (List.range (k + 1)) ∧ H' = [[.cells 1 [[.mref 1 0]]], [.map (docM (repW m (k + 1)))]] := by
   have := contexts_ok (repW m (k + 1)) (by omega)
   rw [hrl] at this
   exact this
  have hpn : PRs (natsR (List.range (k + 1))) := inferInstance
  unfold natsV at hcx
  refine walkX ?_
  refine Reg.c (Nat.zero_le _) rfl (hcx.mono ?_)
  rintro res H' ⟨rfl, rfl⟩
  generalize hO : natsR (List.range (k + 1)) = O at *
  clear hcx hpk2
  refine walkX ?_
  refine DK.o rfl (dstep_mk (n := m) rfl (by omega) (by omega)) ?_
  refine walkX ?_
  refine DK.o rfl (dstep_mk (n := m) rfl (by omega) (by omega)) ?_
  refine walkX ?_
  refine DK.nil ⟨by kernel_rfl, ?_⟩
  refine walkX ?_
  refine AWP.loop (fun i : Nat => [(2, .list 1 (bytR colors)), (3, .list 1 (bytR keys)), (9, .sc (.int .i64 (m : Int))), (10, .ptr 0 0 0 0), (14, .list 1 O), (15, .hsl 2 0 0 m), (16, .hsl 3 0 0 m), (69, .sc (.int .i64 (m : Int))), (70, .sc (.int .i64 (i : Int)))]) (fun i => [[.cells 1 [[.mref 1 0]]], [.map (docM (repW m (k + 1)))], [.cells 1 (fillR m (fun j => colV (clF colors j)) i)], [.cells 1 (fillR m (kvF keys) i)]]) (fun i => i ≤ m) (fun i => m - i) 0 (Nat.zero_le _) ?_ ?_
  ·rw [← fillR_zero, ← fillR_zero]
   exact Sub.wx [] [[(0,0)],[(1,0)],[(2,1)],[(2,3)]]
  ·rintro i hi
   refine walkX0 ?_
   refine AWP.condD rfl (fun h => ?_) (fun h => ?_)
   ·have s1 := fun x (e : colV (clF colors i) = x) => fillR_set (m := m) (fun j => colV (clF colors j)) (i := i) (x := x) e
    have s2 := fun x (e : kvF keys i = x) => fillR_set (m := m) (kvF keys) (i := i) (x := x) e
    have l1 := fillR_len m (fun j => colV (clF colors j)) i
    have l2 := fillR_len m (kvF keys) i
    have g1 := fillR_ix (fun j => colV (clF colors j)) h
    have g2 := fillR_ix (kvF keys) h
    have p1 : PRs (fillR m (fun j => colV (clF colors j)) i) := inferInstance
    have p2 : PRs (fillR m (kvF keys) i) := inferInstance
    generalize fillR m (fun j => colV (clF colors j)) i = C0 at *
    generalize fillR m (kvF keys) i = K0 at *
    refine walkX ?_
    show Reg _ _ _ _ _ [[.cells 1 [[.mref 1 0]]], [.map (docM (repW m (k + 1)))], [.cells 1 (C0.set i [AV.sc (.int .i64 (-2))])], [.cells 1 (K0.set i [AV.sc (.int .i64 0)])]] _
    have t1 : ∀ x, colV (clF colors i) = x → (C0.set i [AV.sc (.int .i64 (-2))]).set i [AV.sc (.int .i64 x)] = fillR m (fun j => colV (clF colors j)) (i + 1) := fun x e => by rw [List.set_set]; exact s1 x e
    have t2 : ∀ x, kvF keys i = x → (K0.set i [AV.sc (.int .i64 0)]).set i [AV.sc (.int .i64 x)] = fillR m (kvF keys) (i + 1) := fun x e => by rw [List.set_set]; exact s2 x e
    have t1' := s1 (-2)
    have t2' := s2 0
    have l3 : (C0.set i [AV.sc (.int .i64 (-2))]).length = m := by rw [List.length_set]; exact l1
    have l4 : (K0.set i [AV.sc (.int .i64 0)]).length = m := by rw [List.length_set]; exact l2
    have g5 := rowIx_set C0 (i := i) (by omega) [AV.sc (.int .i64 (-2))]
    have g6 := rowIx_set K0 (i := i) (by omega) [AV.sc (.int .i64 0)]
    have p3 : PRs (C0.set i [AV.sc (.int .i64 (-2))]) := ⟨fun r hr => by
     rcases List.mem_or_eq_of_mem_set hr with hr | rfl
     ·exact prs _ r hr
     ·exact allPure_cons (.sc _) allPure_nil⟩
    have p4 : PRs (K0.set i [AV.sc (.int .i64 0)]) := ⟨fun r hr => by
     rcases List.mem_or_eq_of_mem_set hr with hr | rfl
     ·exact prs _ r hr
     ·exact allPure_cons (.sc _) allPure_nil⟩
    clear s1 s2 g1 g2 p1 p2 l1 l2
    generalize C0.set i [AV.sc (.int .i64 (-2))] = C1 at *
    generalize K0.set i [AV.sc (.int .i64 0)] = K1 at *
    by_cases hc0 : colors.length = 0
    ·have hcv : colV (clF colors i) = -2 := by
      have : clF colors i = 0 := if_pos hc0
      rw [this]
      rfl
     rw [ec, decide_eq_false (show ¬ 0 < colors.length by omega)]
     refine walkX ?_
     have hCe : C1 = fillR m (fun j => colV (clF colors j)) (i + 1) := t1' hcv
     by_cases hk0 : keys.length = 0
     ·have hkv : kvF keys i = 0 := if_pos hk0
      rw [ek, decide_eq_false (show ¬ 0 < keys.length by omega)]
      refine walkX ?_
      refine ⟨i + 1, by omega, by omega, ?_⟩
      rw [← hCe, ← t2' hkv]
      exact Sub.wx [] [[(0,0)],[(1,0)],[(2,0)],[(3,0)]]
     ·have hkl : i % keys.length < keys.length := Nat.mod_lt _ (by omega)
      have hy := hk _ (getD_mem hkl)
      have g4 := bytR_ix keys _ hkl
      rw [← ek] at g4
      have hkv : kvF keys i = (keys.getD (i % (bytR keys).length) 0 : Int) - 100 := by
       rw [ek]
       exact if_neg hk0
      rw [← ek] at hy
      have ekp : 0 < (bytR keys).length := by omega
      generalize keys.getD (i % (bytR keys).length) 0 = y at *
      rw [decide_eq_true ekp]
      refine walkX ?_
      rw [wrap_small (by omega) (by omega)]
      refine walkX ?_
      refine ⟨i + 1, by omega, by omega, ?_⟩
      rw [← hCe, ← t2 _ hkv]
      exact Sub.wx [] [[(0,0)],[(1,0)],[(2,0)],[(3,0)]]
    ·have hcl : i % colors.length < colors.length := Nat.mod_lt _ (by omega)
     have hx := hc _ (getD_mem hcl)
     have g3 := bytR_ix colors _ hcl
     rw [← ec] at g3 hx
     have hcf : clF colors i = colors.getD (i % (bytR colors).length) 0 % 5 := by
      rw [ec]
      exact if_neg hc0
     have ecp : 0 < (bytR colors).length := by omega
     generalize colors.getD (i % (bytR colors).length) 0 = x at *
     rw [decide_eq_true ecp]
     refine walkX ?_
     by_cases hx5 : 0 < x % 5
     ·have hcv : colV (clF colors i) = ((x % 5 : Nat) : Int) := by
       rw [hcf]
       exact if_neg (by omega)
      rw [decide_eq_true hx5]
      refine walkX ?_
      have hCe : C1.set i [AV.sc (.int .i64 ((x % 5 : Nat) : Int))] = fillR m (fun j => colV (clF colors j)) (i + 1) := t1 _ hcv
      by_cases hk0 : keys.length = 0
      ·have hkv : kvF keys i = 0 := if_pos hk0
       rw [ek, decide_eq_false (show ¬ 0 < keys.length by omega)]
       refine walkX ?_
       refine ⟨i + 1, by omega, by omega, ?_⟩
       rw [← hCe, ← t2' hkv]
       exact Sub.wx [] [[(0,0)],[(1,0)],[(2,0)],[(3,0)]]
      ·have hkl : i % keys.length < keys.length := Nat.mod_lt _ (by omega)
       have hy := hk _ (getD_mem hkl)
       have g4 := bytR_ix keys _ hkl
       rw [← ek] at g4
       have hkv : kvF keys i = (keys.getD (i % (bytR keys).length) 0 : Int) - 100 := by
        rw [ek]
        exact if_neg hk0
       rw [← ek] at hy
       have ekp : 0 < (bytR keys).length := by omega
       generalize keys.getD (i % (bytR keys).length) 0 = y at *
       rw [decide_eq_true ekp]
       refine walkX ?_
       rw [wrap_small (by omega) (by omega)]
       refine walkX ?_
       refine ⟨i + 1, by omega, by omega, ?_⟩
       rw [← hCe, ← t2 _ hkv]
       exact Sub.wx [] [[(0,0)],[(1,0)],[(2,0)],[(3,0)]]
     ·have hcv : colV (clF colors i) = -2 := by
       rw [hcf, show x % 5 = 0 by omega]
       rfl
      rw [decide_eq_false hx5]
      refine walkX ?_
      have hCe : C1 = fillR m (fun j => colV (clF colors j)) (i + 1) := t1' hcv
      by_cases hk0 : keys.length = 0
      ·have hkv : kvF keys i = 0 := if_pos hk0
       rw [ek, decide_eq_false (show ¬ 0 < keys.length by omega)]
       refine walkX ?_
       refine ⟨i + 1, by omega, by omega, ?_⟩
       rw [← hCe, ← t2' hkv]
       exact Sub.wx [] [[(0,0)],[(1,0)],[(2,0)],[(3,0)]]
      ·have hkl : i % keys.length < keys.length := Nat.mod_lt _ (by omega)
       have hy := hk _ (getD_mem hkl)
       have g4 := bytR_ix keys _ hkl
       rw [← ek] at g4
       have hkv : kvF keys i = (keys.getD (i % (bytR keys).length) 0 : Int) - 100 := by
        rw [ek]
        exact if_neg hk0
       rw [← ek] at hy
       have ekp : 0 < (bytR keys).length := by omega
       generalize keys.getD (i % (bytR keys).length) 0 = y at *
       rw [decide_eq_true ekp]
       refine walkX ?_
       rw [wrap_small (by omega) (by omega)]
       refine walkX ?_
       refine ⟨i + 1, by omega, by omega, ?_⟩
       rw [← hCe, ← t2 _ hkv]
       exact Sub.wx [] [[(0,0)],[(1,0)],[(2,0)],[(3,0)]]
   have him : i = m := by omega
   subst him
   rw [fillR_full, fillR_full]
   have hcl : ((List.range i).map (clF colors)).length = i := by rw [List.length_map, List.length_range]
   have hks : ((List.range i).map (kvF keys)).length = i := by rw [List.length_map, List.length_range]
   have hC : fnR i (fun j => colV (clF colors j)) = colsR ((List.range i).map (clF colors)) := by
    unfold fnR colsR
    rw [List.map_map]
    rfl
   have hK : fnR i (kvF keys) = intsR ((List.range i).map (kvF keys)) := rfl
   rw [hC, hK]
   have h4 : ∀ c ∈ (List.range i).map (clF colors), c ≤ 4 := fun c hc => by
    obtain ⟨j, _, rfl⟩ := List.mem_map.1 hc
    unfold clF
    split
    ·omega
    ·omega
   clear hC hK
   generalize (List.range i).map (clF colors) = cl at *
   generalize (List.range i).map (kvF keys) = ks at *
   have hrl : (repW i (k + 1)).length = k + 1 := List.length_replicate
   have hsp := split_ok (repW i (k + 1)) cl ks i hm0 hm1 (by omega) (List.getElem_replicate ..) (by omega) (repW_all hm0 hm1) hcl hks h4
   have eC := colsR_len cl
   have eK := intsR_len ks
   rw [hcl] at eC
   rw [hks] at eK
   have p1 : PRs (colsR cl) := inferInstance
   have p2 : PRs (intsR ks) := inferInstance
   refine walkX ?_
   refine Reg.sub (fr' := [(9, .sc (.int .i64 (i : Int))), (10, .ptr 0 0 0 0), (14, .list 1 O), (15, .list 1 (colsR cl)), (16, .list 1 (intsR ks)), (122, .ptr 0 0 0 0), (123, .list 1 (colsR cl)), (124, .list 1 (intsR ks))]) (H' := [[.cells 1 [[.mref 1 0]]], [.map (docM (repW i (k + 1)))]]) ?_ ?_
   ·exact Sub.wx [] [[(0,0)],[(1,0)]]
   refine Reg.c (Nat.zero_le _) rfl (hsp.mono ?_)
   rintro res H' ⟨D, hD, rfl, rfl⟩
   have eW := fnR_len i (outI cl (repW i (k + 1)).length (presC cl))
   have pW : PRs (fnR i (outI cl (repW i (k + 1)).length (presC cl))) := inferInstance
   refine walkX ?_
   rw [eW, decide_eq_true (rfl : i = i)]
   refine AWP.condF rfl ?_
   refine AWP.skip ?_
   show AWP Try.prog F5.n 0 (pickI [1, 1, 1, 1, 1, 1, 1, 1, 1, 1, 1] F5.code) _ _ _
   have hr := rounds_ok (repW i (k + 1)) cl ks i D hm1 (by omega) (by omega) (repW_all hm0 hm1) hcl h4 hD
   have hall : ∀ c ∈ repW i (k + 1) ++ (presC cl).map D, 0 < c.length ∧ c.length ≤ 64 := fun c hc => by
    rcases List.mem_append.1 hc with hc | hc
    ·exact repW_all hm0 hm1 c hc
    ·obtain ⟨d, hd, rfl⟩ := List.mem_map.1 hc
     rw [(hD d hd).1.length_eq]
     refine ⟨memC_pos hcl h4 hd, ?_⟩
     have := memC_len cl d i
     omega
   have ho : ∀ j, j < k + 1 → CallOK Try.prog 24 [.ptr 0 0 0 0, .sc (.int .i64 (j : Int))] (worldH (repW i (k + 1) ++ (presC cl).map D)) fun res H' => res = .tup [natsV (List.range i), .sc (.int .i64 0)] ∧ H' = worldH (repW i (k + 1) ++ (presC cl).map D) := fun j hj => by
    have := group_ok (repW i (k + 1) ++ (presC cl).map D) j (by rw [List.length_append]; omega) hall
    rw [List.getElem_append_left (by omega), show (repW i (k + 1))[j]'(by omega) = List.range i from List.getElem_replicate ..] at this
    exact this
   rw [hrl] at hr pW ⊢
   have hmain := law_tail _ (k + 1) i _ _ _ hm1 (by omega) hr ho
   rw [← colsR_fn hcl, ← keysR_fn hks, natsV, hO] at hmain
   refine AWP.sub ?_ hmain
   have hpd : PM (docM (repW i (k + 1) ++ (presC cl).map D)) := inferInstance
   unfold worldH
   exact Sub.wx [] [[(0,0)],[(1,0)]]
end Go.Proofs.Ytpkpfgpfkajkpaa
