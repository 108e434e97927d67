import Derived.Test.YtbpmbofinoinmaaGFaW7
import Derived.Test.YtbpmbofinoinmaaGFaL8
import Derived.Test.YtbpmbofinoinmaaGFaL9
namespace Go.Proofs.Ytbpmbofinoinmaa
open Go.Av Go.Proofs
set_option maxRecDepth 20000
theorem agR_facts {al : Nat → Bool} {kn : Nat → Nat → Bool} {g : List Nat} {fl : List Int} {l : List C} (hfl : fl.length = g.length) (hd : ∀ i j, kn i j = true → al j = false)
  (hc : checkS g.length l = 0) (ha : anyDead al g l = false) : (agreeR fl (knL kn g) (l ++ deadK al g g.length)).1.length = g.length ∧ ∀ k, FOK g.length (rpAt (agreeR fl (knL kn g) (l ++ deadK al g g.length)).1 k).failed := by
 obtain ⟨rs, r, e1, e2, _⟩ := agree_facts (L := knL kn g) hfl (crash_check hc ha) (knL_len kn g) (knL_ok hd l)
 have hf := agreeR_fok (L := knL kn g) (l := l ++ deadK al g g.length) hfl (knL_rng kn g)
 rw [e1] at *
 exact ⟨e2, hf⟩
instance : PR z4 := ⟨pure_z4⟩
instance (x : Rp) : PR (rpRow x) := ⟨pure_rpRow x⟩
def nilR : AV := .sc (.slice none 0 0)
def ksF (kn : Nat → Nat → Bool) (g : List Nat) (r : Nat) (j : Nat) : AV := if j < r then intsV (knRow kn g j g.length) else nilR
def ksO (kn : Nat → Nat → Bool) (g : List Nat) (r m : Nat) (j : Nat) : AV := if j = r then .hsl 6 0 0 m else ksF kn g r j
instance (kn : Nat → Nat → Bool) (g : List Nat) (r j : Nat) : PV (ksF kn g r j) := ⟨by unfold ksF; split; exact pv _; exact .sc _⟩
theorem noteF_snoc (al : Nat → Bool) (g : List Nat) (p : Nat) (k : Int) : ∀ (D : List Int) (kn : Nat → Nat → Bool), noteF al g p (D ++ [k]) kn = if al (gAt g k) = true then noteF al g p D kn else setK (noteF al g p D kn) p (gAt g k)
 | [], _ => rfl
 | d :: D, kn => by
  show noteF al g p (D ++ [k]) _ = _
  rw [noteF_snoc al g p k D]
  rfl
theorem fok_len {n : Nat} {D : List Int} (h : FOK n D) : D.length ≤ n := by
 have h1 : (D.map Int.toNat).Nodup := List.pairwise_map.2 (h.pw.imp_of_mem fun {a b} ha hb hab e => by
  have := h.rng a ha
  have := h.rng b hb
  omega)
 have := pigeonL (D.map Int.toNat) (List.range n) h1 fun x hx => by
  obtain ⟨y, hy, rfl⟩ := List.mem_map.1 hx
  have := h.rng y hy
  exact List.mem_range.2 (by omega)
 rwa [List.length_map, List.length_range] at this
set_option maxHeartbeats 16000000 in
theorem agree_at (w : Wd) (g : List Nat) (fl : List Int) (l : List C) (hn : w.n ≤ 64) (hg : GOK w.n g) (hfl : fl.length = g.length) (hd : ∀ i j, w.kn i j = true → w.al j = false) (hl : l.length ≤ 9223372036854775807) :
  CallOK Try.prog 60 [.ptr 0 0 0 0, tG g, intsV fl, crV l] (worldH w) fun res H' => res = .tup [.agg (rpRow (agW w.al w.kn g fl l).rp), .sc (.int .i64 (agW w.al w.kn g fl l).e)] ∧ H' = worldH { w with al := (agW w.al w.kn g fl l).al, kn := (agW w.al w.kn g fl l).kn } := by
 refine CallOK.of cF60 ?_ (Nat.le_of_ble_eq_true rfl)
 have hgl := hg.len
 have e0 := natsR_len g
 have hcr := fun G => crashes_more w g l G hn hg hl
 have hw0 : worldH w = [[.cells 67 [boxR w.n w.al]], [.cells 64 (knR w.n w.kn)], [.map (tmE w.ts)], rvF w.ts] := rfl
 by_cases hc : (crashW w.al g l).2 ≠ 0
 ·rw [agW_bad hc]
  rw [hw0] at hcr ⊢
  unfold tG crV intsV at *
  refine walkX ?_
  refine Reg.c (Nat.le_of_ble_eq_true rfl) rfl ((hcr _).mono ?_)
  rintro res H' ⟨rfl, rfl⟩
  refine walkX ?_
  rw [show ((crashW w.al g l).2 != 0) = true by simpa using hc]
  refine walkX ?_
  refine endWd (.tup [.agg (rpRow noRp), .sc (.int .i64 (crashW w.al g l).2)]) w ⟨rfl, rfl⟩ (h5 := ?_)
  refine To.tupL (ToL.cons (To.aggL ?_) (ToL.cons (To.sc _) ToL.nil))
  change ToL _ _ [AV.sc (.bool false), AV.sc (.int .i64 0), AV.sc (.int .i64 0), AV.sc (.slice none 0 0)] _
  exact ToL.cons (To.sc _) (ToL.cons (To.sc _) (ToL.cons (To.sc _) (ToL.cons To.nilL ToL.nil)))
 obtain ⟨h1, h2, h3⟩ : checkS g.length l = 0 ∧ anyDead w.al g l = false ∧ crashW w.al g l = (l ++ deadK w.al g g.length, 0) := by
  rcases crashW_cases w.al g l with ⟨h1, h2⟩ | ⟨h1, h2, h3⟩ | h
  ·rw [h2] at hc; exact absurd h1 (fun h => hc h)
  ·rw [h3] at hc; exact absurd (show (6 : Int) ≠ 0 by decide) hc
  ·exact h
 obtain ⟨f1, f2⟩ := agR_facts hfl hd h1 h2
 rw [h3] at hcr
 have hks : ∀ ks ∈ knL w.kn g, ks.length ≤ 1000000 := fun ks hk => by
  obtain ⟨r, _, rfl⟩ := List.mem_map.1 hk
  have := knRow_len w.kn g r g.length
  omega
 have hdl := deadK_len w.al g g.length
 have hl64 : l.length ≤ 64 := good_len h1
 have hA := agree_run fl (knL w.kn g) (l ++ deadK w.al g g.length) (by omega) (by rw [knL_len]; omega) hks (by rw [List.length_append]; omega)
 have hbu := fun G => bury_more w g l G hn hg hl64 fun c hc => by
  have := (check_zero h1).2.1 c hc
  exact ⟨this.r0, this.r1⟩
 have hag : agW w.al w.kn g fl l = (let a := agreeR fl (knL w.kn g) (l ++ deadK w.al g g.length); let n := noteG (buryW w.al g l) g a.1 w.kn g.length; ⟨if n.1.dec = true then { n.1 with round := a.2.1 } else noRp, if n.1.dec = true then 0 else 16, buryW w.al g l, n.2⟩) := by
  unfold agW
  rw [h3]
  exact if_neg (fun h => h rfl)
 rw [hag]
 clear hag
 generalize agreeR fl (knL w.kn g) (l ++ deadK w.al g g.length) = a at *
 obtain ⟨rs, rd, er⟩ := a
 dsimp only at *
 generalize l ++ deadK w.al g g.length = all at *
 rw [hw0] at hcr ⊢
 unfold tG crV intsV at *
 refine walkX ?_
 refine Reg.c (Nat.le_of_ble_eq_true rfl) rfl ((hcr _).mono ?_)
 rintro res H' ⟨rfl, rfl⟩
 refine walkX ?_
 rw [e0]
 refine walkX ?_
 refine Reg.o rfl (dstep_mk (n := g.length) rfl (by omega) (by omega)) ?_
 refine walkX ?_
 rw [e0]
 refine AWP.loop (fun r : Nat => [(0, .ptr 0 0 0 0), (1, .cptr [.list 1 (E.natsR g), .undef]), (2, .list 1 (intsR fl)), (3, .list 3 (l.map crow)), (8, .ptr 4 0 0 0), (10, .list 3 (all.map crow)), (12, .hsl 5 0 0 g.length), (46, .list 1 (E.natsR g)), (47, .sc (.int .i64 (g.length : Int))), (48, .sc (.int .i64 (r : Int)))])
  (fun r => [[.cells 67 [boxR w.n w.al]], [.cells 64 (knR w.n w.kn)], [.map (tmE w.ts)], rvF w.ts, [.cells 4 [z4]], [.cells 1 (row1 g.length (ksF w.kn g r))]]) (fun r => r ≤ g.length) (fun r => g.length - r) 0 (Nat.zero_le _) ?_ ?_
 ·refine Sub.wdx (k := 4) w [] [[(4,0)],[(5,0)]] [[.cells 4 [z4]], [.cells 1 (row1 g.length (ksF w.kn g 0))]] ?_ ?_
  ·(all_goals (repeat' (first | exact ToAll.nil | exact famsTo.nil | exact famTo.nil | exact ToL.nil | exact ToR.nil | refine ToAll.cons ?_ ?_ | refine famsTo.cons ?_ ?_ | refine wt10 ?_ ?_ | exact To.undef _ | exact To.sc _ | exact To.hslL rfl rfl | exact To.ptrO rfl rfl rfl | exact To.mrefO rfl | exact To.nil rfl rfl rfl | exact wt1 | exact To.nilL | refine To.int ?_ | refine To.bool ?_ | refine To.hslL rfl ?_ | refine wt2 rfl ?_ ?_ ?_ | refine To.tupL ?_ | refine To.aggL ?_ | refine To.cptrL ?_ | refine wt3 ?_ | refine wt4 ?_ | refine To.cloL ?_ ?_ | exact wt5 | refine wt6 ?_ | refine ToB.one ?_ | exact wt7 | ((with_reducible apply ToL.consE); case e9 => rfl) | refine wt8 ?_ | refine ToL.cons ?_ ?_ | exact wt11 | refine wt9 ?_ ?_ | refine wt12 ?_ | (with_reducible rfl) | assumption)); all_goals (first | rfl | assumption | (simp; done) | (simp; omega) | (rw [wrap_small (by omega) (by omega)]; done) | (rw [wrap_small (by omega) (by omega)]; omega) | (refine congrArg Nat.cast ?_; assumption) | skip))
  ·exact famsTo.cons (wt10 (wt5) famTo.nil) (famsTo.cons (wt10 (ToB.rows (row1_rep _ _) (prs (row1 g.length (ksF w.kn g 0)))) famTo.nil) famsTo.nil)
 ·intro r hr
  refine walkX0 ?_
  refine AWP.condD rfl (fun h => ?_) (fun h => ?_)
  ·have hri := natsR_at hg (q := r) h
   have hp := hg.at (r := r) h
   generalize hgp : gAt g (r : Int) = p at *
   have hkp := knR_get (kn := w.kn) hp
   have hkl := knR_len w.n w.kn
   have h65 := boxR_kn w.n w.al
   refine walkX ?_
   rw [e0]
   refine AWP.loop (fun k : Nat => [(0, .ptr 0 0 0 0), (1, .cptr [.list 1 (E.natsR g), .undef]), (2, .list 1 (intsR fl)), (3, .list 3 (l.map crow)), (8, .ptr 4 0 0 0), (10, .list 3 (all.map crow)), (12, .hsl 5 0 0 g.length), (13, .sc (.int .i64 (r : Int))), (14, .sc (.int .i64 (p : Int))), (46, .list 1 (E.natsR g)), (47, .sc (.int .i64 (g.length : Int))), (48, .sc (.int .i64 (r : Int))), (56, .list 1 (E.natsR g)), (57, .sc (.int .i64 (g.length : Int))), (58, .sc (.int .i64 (k : Int)))])
    (fun k => [[.cells 67 [boxR w.n w.al]], [.cells 64 (knR w.n w.kn)], [.map (tmE w.ts)], rvF w.ts, [.cells 4 [z4]], [.cells 1 (row1 g.length (ksO w.kn g r (knRow w.kn g r k).length))], [.cells 1 (intsR (knRow w.kn g r k))]]) (fun k => k ≤ g.length) (fun k => g.length - k) 0 (Nat.zero_le _) ?_ ?_
   ·refine Sub.wdx (k := 4) w [1] [[(4,0)],[(5,0)],[(6,0)]] [[.cells 4 [z4]], [.cells 1 (row1 g.length (ksO w.kn g r 0))], [.cells 1 []]] ?_ ?_
    ·(all_goals (repeat' (first | exact ToAll.nil | exact famsTo.nil | exact famTo.nil | exact ToL.nil | exact ToR.nil | refine ToAll.cons ?_ ?_ | refine famsTo.cons ?_ ?_ | refine wt10 ?_ ?_ | exact To.undef _ | exact To.sc _ | exact To.hslL rfl rfl | exact To.ptrO rfl rfl rfl | exact To.mrefO rfl | exact To.nil rfl rfl rfl | exact wt1 | exact To.nilL | refine To.int ?_ | refine To.bool ?_ | refine To.hslL rfl ?_ | refine wt2 rfl ?_ ?_ ?_ | refine To.tupL ?_ | refine To.aggL ?_ | refine To.cptrL ?_ | refine wt3 ?_ | refine wt4 ?_ | refine To.cloL ?_ ?_ | exact wt5 | refine wt6 ?_ | refine ToB.one ?_ | exact wt7 | ((with_reducible apply ToL.consE); case e9 => rfl) | refine wt8 ?_ | refine ToL.cons ?_ ?_ | exact wt11 | refine wt9 ?_ ?_ | refine wt12 ?_ | (with_reducible rfl) | assumption)); all_goals (first | rfl | assumption | (simp; done) | (simp; omega) | (rw [wrap_small (by omega) (by omega)]; done) | (rw [wrap_small (by omega) (by omega)]; omega) | (refine congrArg Nat.cast ?_; assumption) | skip))
    ·refine famsTo.cons (wt10 (wt5) famTo.nil) (famsTo.cons (wt10 (ToB.row1 fun j hj => ?_) famTo.nil) (famsTo.cons (wt10 wt5 famTo.nil) famsTo.nil))
     unfold ksO
     split
     ·rename_i e
      subst e
      unfold ksF
      rw [if_neg (Nat.lt_irrefl _)]
      exact To.nil rfl rfl rfl
     ·exact .pure (pv _)
   ·intro k hk
    generalize hB : boxR w.n w.al = B at *
    refine walkX0 ?_
    refine AWP.condD rfl (fun h2 => ?_) (fun h2 => ?_)
    ·have hrk := natsR_at hg (q := k) h2
     have hq := hg.at (r := k) h2
     generalize hgq : gAt g (k : Int) = q at *
     have hbq : (bset 64 (w.kn p))[q]? = some (.sc (.bool (w.kn p q))) := bset_get (by omega)
     have hkr : knRow w.kn g r (k + 1) = knRow w.kn g r k ++ if w.kn p q = true then [(k : Int)] else [] := by rw [← hgp, ← hgq]; rfl
     have hro : (row1 g.length (ksO w.kn g r (knRow w.kn g r k).length))[r]? = some [.hsl 6 0 0 (knRow w.kn g r k).length] := by
      rw [row1_get h]
      unfold ksO
      rw [if_pos rfl]
     have hrl := row1_len g.length (ksO w.kn g r (knRow w.kn g r k).length)
     have hil := intsLen (knRow w.kn g r k)
     have hol := knRow_len w.kn g r k
     generalize knRow w.kn g r k = o at *
     by_cases hb : w.kn p q = true
     ·rw [if_pos hb] at hkr
      rw [hb] at hbq
      generalize hRO : row1 g.length (ksO w.kn g r o.length) = RO at *
      refine walkX ?_
      refine ⟨k + 1, by omega, by omega, ?_⟩
      rw [hkr, ← hB]
      refine Sub.wdx (k := 4) w [] [[(4,0)],[(5,0)],[(8,0)]] [[.cells 4 [z4]], [.cells 1 (row1 g.length (ksO w.kn g r (o ++ [(k : Int)]).length))], [.cells 1 (intsR (o ++ [(k : Int)]))]] ?_ ?_
      ·(all_goals (repeat' (first | exact ToAll.nil | exact famsTo.nil | exact famTo.nil | exact ToL.nil | exact ToR.nil | refine ToAll.cons ?_ ?_ | refine famsTo.cons ?_ ?_ | refine wt10 ?_ ?_ | exact To.undef _ | exact To.sc _ | exact To.hslL rfl rfl | exact To.ptrO rfl rfl rfl | exact To.mrefO rfl | exact To.nil rfl rfl rfl | exact wt1 | exact To.nilL | refine To.int ?_ | refine To.bool ?_ | refine To.hslL rfl ?_ | refine wt2 rfl ?_ ?_ ?_ | refine To.tupL ?_ | refine To.aggL ?_ | refine To.cptrL ?_ | refine wt3 ?_ | refine wt4 ?_ | refine To.cloL ?_ ?_ | exact wt5 | refine wt6 ?_ | refine ToB.one ?_ | exact wt7 | ((with_reducible apply ToL.consE); case e9 => rfl) | refine wt8 ?_ | refine ToL.cons ?_ ?_ | exact wt11 | refine wt9 ?_ ?_ | refine wt12 ?_ | (with_reducible rfl) | assumption)); all_goals (first | rfl | assumption | (simp; done) | (simp; omega) | (rw [wrap_small (by omega) (by omega)]; done) | (rw [wrap_small (by omega) (by omega)]; omega) | (refine congrArg Nat.cast ?_; assumption) | skip))
      ·refine famsTo.cons (wt10 wt5 famTo.nil) (famsTo.cons (wt10 ?_ famTo.nil) (famsTo.cons (wt10 (wt6 ?_) famTo.nil) famsTo.nil))
       ·rw [← hRO]
        refine ToB.row1S (i := r) ?_ fun j _ hj => ?_
        ·unfold ksO
         rw [if_pos rfl]
         exact To.hslL rfl (by simp)
        ·unfold ksO
         rw [if_neg hj, if_neg hj]
         exact .pure (pv _)
       ·simp [intsR]
     ·rw [if_neg hb, List.append_nil] at hkr
      rw [show w.kn p q = false by simpa using hb] at hbq
      refine walkX ?_
      refine ⟨k + 1, by omega, by omega, ?_⟩
      rw [hkr, ← hB]
      refine Sub.wdx (k := 4) w [] [[(4,0)],[(5,0)],[(6,0)]] [[.cells 4 [z4]], [.cells 1 (row1 g.length (ksO w.kn g r o.length))], [.cells 1 (intsR o)]] ?_ ?_
      ·(all_goals (repeat' (first | exact ToAll.nil | exact famsTo.nil | exact famTo.nil | exact ToL.nil | exact ToR.nil | refine ToAll.cons ?_ ?_ | refine famsTo.cons ?_ ?_ | refine wt10 ?_ ?_ | exact To.undef _ | exact To.sc _ | exact To.hslL rfl rfl | exact To.ptrO rfl rfl rfl | exact To.mrefO rfl | exact To.nil rfl rfl rfl | exact wt1 | exact To.nilL | refine To.int ?_ | refine To.bool ?_ | refine To.hslL rfl ?_ | refine wt2 rfl ?_ ?_ ?_ | refine To.tupL ?_ | refine To.aggL ?_ | refine To.cptrL ?_ | refine wt3 ?_ | refine wt4 ?_ | refine To.cloL ?_ ?_ | exact wt5 | refine wt6 ?_ | refine ToB.one ?_ | exact wt7 | ((with_reducible apply ToL.consE); case e9 => rfl) | refine wt8 ?_ | refine ToL.cons ?_ ?_ | exact wt11 | refine wt9 ?_ ?_ | refine wt12 ?_ | (with_reducible rfl) | assumption)); all_goals (first | rfl | assumption | (simp; done) | (simp; omega) | (rw [wrap_small (by omega) (by omega)]; done) | (rw [wrap_small (by omega) (by omega)]; omega) | (refine congrArg Nat.cast ?_; assumption) | skip))
      ·refine famsTo.cons (wt10 wt5 famTo.nil) (famsTo.cons (wt10 (ToB.row1 fun j hj => ?_) famTo.nil) (famsTo.cons (wt10 wt5 famTo.nil) famsTo.nil))
       unfold ksO
       split
       ·exact To.hslL rfl rfl
       ·exact .pure (pv _)
    ·have hk2 : k = g.length := by omega
     subst hk2
     have hil := intsLen (knRow w.kn g r g.length)
     refine walkX ?_
     refine ⟨r + 1, by omega, by omega, ?_⟩
     rw [← hB]
     refine Sub.wdx (k := 4) w [] [[(4,0)],[(5,0)]] [[.cells 4 [z4]], [.cells 1 (row1 g.length (ksF w.kn g (r + 1)))]] ?_ ?_
     ·(all_goals (repeat' (first | exact ToAll.nil | exact famsTo.nil | exact famTo.nil | exact ToL.nil | exact ToR.nil | refine ToAll.cons ?_ ?_ | refine famsTo.cons ?_ ?_ | refine wt10 ?_ ?_ | exact To.undef _ | exact To.sc _ | exact To.hslL rfl rfl | exact To.ptrO rfl rfl rfl | exact To.mrefO rfl | exact To.nil rfl rfl rfl | exact wt1 | exact To.nilL | refine To.int ?_ | refine To.bool ?_ | refine To.hslL rfl ?_ | refine wt2 rfl ?_ ?_ ?_ | refine To.tupL ?_ | refine To.aggL ?_ | refine To.cptrL ?_ | refine wt3 ?_ | refine wt4 ?_ | refine To.cloL ?_ ?_ | exact wt5 | refine wt6 ?_ | refine ToB.one ?_ | exact wt7 | ((with_reducible apply ToL.consE); case e9 => rfl) | refine wt8 ?_ | refine ToL.cons ?_ ?_ | exact wt11 | refine wt9 ?_ ?_ | refine wt12 ?_ | (with_reducible rfl) | assumption)); all_goals (first | rfl | assumption | (simp; done) | (simp; omega) | (rw [wrap_small (by omega) (by omega)]; done) | (rw [wrap_small (by omega) (by omega)]; omega) | (refine congrArg Nat.cast ?_; assumption) | skip))
     ·refine famsTo.cons (wt10 wt5 famTo.nil) (famsTo.cons (wt10 (ToB.row1 fun j hj => ?_) famTo.nil) famsTo.nil)
      unfold ksO
      split
      ·rename_i e
       subst e
       unfold ksF
       rw [if_pos (Nat.lt_succ_self _)]
       exact To.fz rfl rfl hil rfl (prs _)
      ·rename_i e
       have e2 : ksF w.kn g (r + 1) j = ksF w.kn g r j := by
        unfold ksF
        by_cases hjr : j < r
        ·rw [if_pos hjr, if_pos (by omega)]
        ·rw [if_neg hjr, if_neg (by omega)]
       rw [e2]
       exact .pure (pv _)
  ·have hr2 : r = g.length := by omega
   subst hr2
   refine walkX0 ?_
   unfold agreeV rpsV at hA
   refine Reg.sub (fr' := [(85, .list 1 (intsR fl)), (86, knownV (knL w.kn g)), (87, .list 3 (all.map crow)), (0, .ptr 0 0 0 0), (1, .cptr [.list 1 (E.natsR g), .undef]), (3, .list 3 (l.map crow)), (8, .ptr 4 0 0 0)])
    (H' := [[.cells 67 [boxR w.n w.al]], [.cells 64 (knR w.n w.kn)], [.map (tmE w.ts)], rvF w.ts, [.cells 4 [z4]]]) ?_ ?_
   ·refine Sub.wdx (k := 4) w [] [[(4,0)]] [[.cells 4 [z4]]] ?_ ?_
    ·refine ToAll.cons (.pure (pv (.list 1 (intsR fl)))) (ToAll.cons (To.fz rfl rfl (row1_len _ _) ?_ (prs _)) ?_)
     ·unfold knL
      rw [List.map_map]
      refine List.map_congr_left fun j hj => ?_
      have := List.mem_range.1 hj
      unfold ksF
      rw [if_pos this]
      rfl
     ·(all_goals (repeat' (first | exact ToAll.nil | exact famsTo.nil | exact famTo.nil | exact ToL.nil | exact ToR.nil | refine ToAll.cons ?_ ?_ | refine famsTo.cons ?_ ?_ | refine wt10 ?_ ?_ | exact To.undef _ | exact To.sc _ | exact To.hslL rfl rfl | exact To.ptrO rfl rfl rfl | exact To.mrefO rfl | exact To.nil rfl rfl rfl | exact wt1 | exact To.nilL | refine To.int ?_ | refine To.bool ?_ | refine To.hslL rfl ?_ | refine wt2 rfl ?_ ?_ ?_ | refine To.tupL ?_ | refine To.aggL ?_ | refine To.cptrL ?_ | refine wt3 ?_ | refine wt4 ?_ | refine To.cloL ?_ ?_ | exact wt5 | refine wt6 ?_ | refine ToB.one ?_ | exact wt7 | ((with_reducible apply ToL.consE); case e9 => rfl) | refine wt8 ?_ | refine ToL.cons ?_ ?_ | exact wt11 | refine wt9 ?_ ?_ | refine wt12 ?_ | (with_reducible rfl) | assumption)); all_goals (first | rfl | assumption | (simp; done) | (simp; omega) | (rw [wrap_small (by omega) (by omega)]; done) | (rw [wrap_small (by omega) (by omega)]; omega) | (refine congrArg Nat.cast ?_; assumption) | skip))
    ·exact famsTo.cons (wt10 wt5 famTo.nil) famsTo.nil
   have hbu2 : ∀ G, CallOK Try.prog 64 [.ptr 0 0 0 0, .cptr [.list 1 (E.natsR g), .undef], .list 3 (l.map crow)] ([[.cells 67 [boxR w.n w.al]], [.cells 64 (knR w.n w.kn)], [.map (tmE w.ts)], rvF w.ts] ++ G) fun res H' => res = .tup [] ∧ H' = [[.cells 67 [boxR w.n (buryW w.al g l)]], [.cells 64 (knR w.n w.kn)], [.map (tmE w.ts)], rvF w.ts] ++ G := hbu
   clear hbu hcr hks h3
   generalize buryW w.al g l = A at *
   refine walkX ?_
   refine Reg.c (Nat.le_of_ble_eq_true rfl) rfl ((hbu2 _).mono ?_)
   rintro res H' ⟨rfl, rfl⟩
   refine walkX ?_
   rw [e0]
   refine AWP.loop (fun r : Nat => [(0, .ptr 0 0 0 0), (1, .cptr [.list 1 (E.natsR g), .undef]), (8, .ptr 4 0 0 0), (17, .list 4 (rs.map rpRow)), (18, .sc (.int .i64 rd)), (20, .ptr 5 0 0 0), (100, .list 1 (E.natsR g)), (101, .sc (.int .i64 (g.length : Int))), (102, .sc (.int .i64 (r : Int)))])
    (fun r => [[.cells 67 [boxR w.n A]], [.cells 64 (knR w.n (noteG A g rs w.kn r).2)], [.map (tmE w.ts)], rvF w.ts, [.cells 4 [z4]], [.cells 4 [rpRow (noteG A g rs w.kn r).1]]]) (fun r => r ≤ g.length) (fun r => g.length - r) 0 (Nat.zero_le _) ?_ ?_
   ·refine Sub.wdx (k := 4) { w with al := A } [] [[(4,0)],[(5,0)]] [[.cells 4 [z4]], [.cells 4 [rpRow noRp]]] ?_ ?_
    ·(all_goals (repeat' (first | exact ToAll.nil | exact famsTo.nil | exact famTo.nil | exact ToL.nil | exact ToR.nil | refine ToAll.cons ?_ ?_ | refine famsTo.cons ?_ ?_ | refine wt10 ?_ ?_ | exact To.undef _ | exact To.sc _ | exact To.hslL rfl rfl | exact To.ptrO rfl rfl rfl | exact To.mrefO rfl | exact To.nil rfl rfl rfl | exact wt1 | exact To.nilL | refine To.int ?_ | refine To.bool ?_ | refine To.hslL rfl ?_ | refine wt2 rfl ?_ ?_ ?_ | refine To.tupL ?_ | refine To.aggL ?_ | refine To.cptrL ?_ | refine wt3 ?_ | refine wt4 ?_ | refine To.cloL ?_ ?_ | exact wt5 | refine wt6 ?_ | refine ToB.one ?_ | exact wt7 | ((with_reducible apply ToL.consE); case e9 => rfl) | refine wt8 ?_ | refine ToL.cons ?_ ?_ | exact wt11 | refine wt9 ?_ ?_ | refine wt12 ?_ | (with_reducible rfl) | assumption)); all_goals (first | rfl | assumption | (simp; done) | (simp; omega) | (rw [wrap_small (by omega) (by omega)]; done) | (rw [wrap_small (by omega) (by omega)]; omega) | (refine congrArg Nat.cast ?_; assumption) | skip))
    ·refine famsTo.cons (wt10 wt5 famTo.nil) (famsTo.cons (wt10 (ToB.one ?_) famTo.nil) famsTo.nil)
     change ToL _ _ [AV.sc (.bool false), AV.sc (.int .i64 0), AV.sc (.int .i64 0), AV.sc (.slice none 0 0)] _
     exact ToL.cons (To.sc _) (ToL.cons (To.sc _) (ToL.cons (To.sc _) (ToL.cons To.nilL ToL.nil)))
   ·intro r hr
    have hnr : noteG A g rs w.kn (r + 1) = if A (gAt g r) = true then (rpAt rs r, noteF A g (gAt g r) (rpAt rs r).failed (noteG A g rs w.kn r).2) else noteG A g rs w.kn r := rfl
    have hal := fun p (h : p < 64) => boxR_al (n := w.n) (al := A) h
    have h65 := boxR_kn w.n A
    generalize hB : boxR w.n A = B at *
    refine walkX0 ?_
    refine AWP.condD rfl (fun h => ?_) (fun h => ?_)
    ·have hri := natsR_at hg (q := r) h
     have hp := hg.at (r := r) h
     generalize hgp : gAt g (r : Int) = p at *
     have hp64 : p < 64 := by omega
     have hbp := hal p hp64
     by_cases ha : A p = true
     ·rw [if_pos ha] at hnr
      rw [ha] at hbp
      have hrx : rowIx (rs.map rpRow) (r : Int) = some (rpRow rs[r]) := rowIx_map rpRow rs r (by omega)
      have hra : rpAt rs r = rs[r] := by unfold rpAt; rw [List.getElem?_eq_getElem (by omega)]; rfl
      have hfk := f2 r
      rw [hra] at hnr hfk
      have hpn : PRs (rs.map rpRow) := ⟨allPure_map pure_rpRow rs⟩
      generalize rs[r] = x at *
      have hfl := fok_len hfk
      have hil := intsLen x.failed
      generalize (noteG A g rs w.kn r).1 = y at *
      generalize (noteG A g rs w.kn r).2 = kn1 at *
      refine walkX0 ?_
      refine Reg.o rfl (dstep_idxArr (q := p) rfl rfl rfl hp64) ?_
      refine Reg.o rfl (dstep_ld1 rfl rfl rfl (by rw [Nat.mul_one]; exact hbp)) ?_
      refine walkX0 ?_
      rw [hil, ← hB]
      refine AWP.loop (fun j : Nat => [(0, .ptr 0 0 0 0), (1, .cptr [.list 1 (E.natsR g), .undef]), (8, .ptr 4 0 0 0), (17, .list 4 (rs.map rpRow)), (18, .sc (.int .i64 rd)), (20, .ptr 5 0 0 0), (22, .sc (.int .i64 (p : Int))), (100, .list 1 (E.natsR g)), (101, .sc (.int .i64 (g.length : Int))), (102, .sc (.int .i64 (r : Int))), (119, .list 1 (intsR x.failed)), (120, .sc (.int .i64 (x.failed.length : Int))), (121, .sc (.int .i64 (j : Int)))])
       (fun j => [[.cells 67 [boxR w.n A]], [.cells 64 (knR w.n (noteF A g p (x.failed.take j) kn1))], [.map (tmE w.ts)], rvF w.ts, [.cells 4 [z4]], [.cells 4 [rpRow x]]]) (fun j => j ≤ x.failed.length) (fun j => x.failed.length - j) 0 (Nat.zero_le _) ?_ ?_
      ·refine Sub.wdx (k := 4) { w with al := A, kn := kn1 } [] [[(4,0)],[(5,0)]] [[.cells 4 [z4]], [.cells 4 [rpRow x]]] ?_ ?_
       ·(all_goals (repeat' (first | exact ToAll.nil | exact famsTo.nil | exact famTo.nil | exact ToL.nil | exact ToR.nil | refine ToAll.cons ?_ ?_ | refine famsTo.cons ?_ ?_ | refine wt10 ?_ ?_ | exact To.undef _ | exact To.sc _ | exact To.hslL rfl rfl | exact To.ptrO rfl rfl rfl | exact To.mrefO rfl | exact To.nil rfl rfl rfl | exact wt1 | exact To.nilL | refine To.int ?_ | refine To.bool ?_ | refine To.hslL rfl ?_ | refine wt2 rfl ?_ ?_ ?_ | refine To.tupL ?_ | refine To.aggL ?_ | refine To.cptrL ?_ | refine wt3 ?_ | refine wt4 ?_ | refine To.cloL ?_ ?_ | exact wt5 | refine wt6 ?_ | refine ToB.one ?_ | exact wt7 | ((with_reducible apply ToL.consE); case e9 => rfl) | refine wt8 ?_ | refine ToL.cons ?_ ?_ | exact wt11 | refine wt9 ?_ ?_ | refine wt12 ?_ | (with_reducible rfl) | assumption)); all_goals (first | rfl | assumption | (simp; done) | (simp; omega) | (rw [wrap_small (by omega) (by omega)]; done) | (rw [wrap_small (by omega) (by omega)]; omega) | (refine congrArg Nat.cast ?_; assumption) | skip))
       ·exact famsTo.cons (wt10 wt5 famTo.nil) (famsTo.cons (wt10 (ToB.rows rfl (fun r hr => by rw [List.mem_singleton.1 hr]; exact pure_rpRow x)) famTo.nil) famsTo.nil)
      ·intro j hj
       rw [hB]
       refine walkX0 ?_
       refine AWP.condD rfl (fun h2 => ?_) (fun h2 => ?_)
       ·have hdx : rowIx (intsR x.failed) (j : Int) = some [.sc (.int .i64 x.failed[j])] := rowIx_map (fun n : Int => [AV.sc (.int .i64 n)]) x.failed j h2
        have hkk := hfk.rng _ (List.getElem_mem h2)
        have hsn := noteF_snoc A g p x.failed[j] (x.failed.take j) kn1
        rw [← List.take_succ_eq_append_getElem h2] at hsn
        generalize x.failed[j] = v at *
        obtain ⟨q, rfl⟩ : ∃ q : Nat, v = (q : Int) := ⟨v.toNat, by omega⟩
        have hrq := natsR_at hg (q := q) (by omega)
        have hq := hg.at (r := q) (by omega)
        generalize hgq : gAt g (q : Int) = u at *
        have hu64 : u < 64 := by omega
        have hbu := hal u hu64
        generalize noteF A g p (x.failed.take j) kn1 = kn2 at *
        by_cases hau : A u = true
        ·rw [if_pos hau] at hsn
         rw [hau] at hbu
         refine walkX0 ?_
         refine Reg.o rfl (dstep_idxArr (q := u) rfl rfl rfl hu64) ?_
         refine Reg.o rfl (dstep_ld1 rfl rfl rfl (by rw [Nat.mul_one]; exact hbu)) ?_
         refine walkX ?_
         refine ⟨j + 1, by omega, by omega, ?_⟩
         rw [hsn, ← hB]
         refine Sub.wdx (k := 4) { w with al := A, kn := kn2 } [] [[(4,0)],[(5,0)]] [[.cells 4 [z4]], [.cells 4 [rpRow x]]] ?_ ?_
         ·(all_goals (repeat' (first | exact ToAll.nil | exact famsTo.nil | exact famTo.nil | exact ToL.nil | exact ToR.nil | refine ToAll.cons ?_ ?_ | refine famsTo.cons ?_ ?_ | refine wt10 ?_ ?_ | exact To.undef _ | exact To.sc _ | exact To.hslL rfl rfl | exact To.ptrO rfl rfl rfl | exact To.mrefO rfl | exact To.nil rfl rfl rfl | exact wt1 | exact To.nilL | refine To.int ?_ | refine To.bool ?_ | refine To.hslL rfl ?_ | refine wt2 rfl ?_ ?_ ?_ | refine To.tupL ?_ | refine To.aggL ?_ | refine To.cptrL ?_ | refine wt3 ?_ | refine wt4 ?_ | refine To.cloL ?_ ?_ | exact wt5 | refine wt6 ?_ | refine ToB.one ?_ | exact wt7 | ((with_reducible apply ToL.consE); case e9 => rfl) | refine wt8 ?_ | refine ToL.cons ?_ ?_ | exact wt11 | refine wt9 ?_ ?_ | refine wt12 ?_ | (with_reducible rfl) | assumption)); all_goals (first | rfl | assumption | (simp; done) | (simp; omega) | (rw [wrap_small (by omega) (by omega)]; done) | (rw [wrap_small (by omega) (by omega)]; omega) | (refine congrArg Nat.cast ?_; assumption) | skip))
         ·exact famsTo.cons (wt10 wt5 famTo.nil) (famsTo.cons (wt10 wt5 famTo.nil) famsTo.nil)
        ·rw [if_neg hau] at hsn
         rw [show A u = false by simpa using hau] at hbu
         have hkp := knR_get (kn := kn2) hp
         have hkl := knR_len w.n kn2
         have hks := knR_set (n := w.n) (p := p) (q := u) (kn := kn2)
         have hbl := bset_len 64 (kn2 p)
         refine walkX0 ?_
         refine Reg.o rfl (dstep_idxArr (q := u) rfl rfl rfl hu64) ?_
         refine Reg.o rfl (dstep_ld1 rfl rfl rfl (by rw [Nat.mul_one]; exact hbu)) ?_
         refine walkX ?_
         refine ⟨j + 1, by omega, by omega, ?_⟩
         rw [hsn, ← hB]
         refine Sub.wdx (k := 4) { w with al := A, kn := setK kn2 p u } [] [[(4,0)],[(5,0)]] [[.cells 4 [z4]], [.cells 4 [rpRow x]]] ?_ ?_ (e1 := ?_)
         ·(all_goals (repeat' (first | exact ToAll.nil | exact famsTo.nil | exact famTo.nil | exact ToL.nil | exact ToR.nil | refine ToAll.cons ?_ ?_ | refine famsTo.cons ?_ ?_ | refine wt10 ?_ ?_ | exact To.undef _ | exact To.sc _ | exact To.hslL rfl rfl | exact To.ptrO rfl rfl rfl | exact To.mrefO rfl | exact To.nil rfl rfl rfl | exact wt1 | exact To.nilL | refine To.int ?_ | refine To.bool ?_ | refine To.hslL rfl ?_ | refine wt2 rfl ?_ ?_ ?_ | refine To.tupL ?_ | refine To.aggL ?_ | refine To.cptrL ?_ | refine wt3 ?_ | refine wt4 ?_ | refine To.cloL ?_ ?_ | exact wt5 | refine wt6 ?_ | refine ToB.one ?_ | exact wt7 | ((with_reducible apply ToL.consE); case e9 => rfl) | refine wt8 ?_ | refine ToL.cons ?_ ?_ | exact wt11 | refine wt9 ?_ ?_ | refine wt12 ?_ | (with_reducible rfl) | assumption)); all_goals (first | rfl | assumption | (simp; done) | (simp; omega) | (rw [wrap_small (by omega) (by omega)]; done) | (rw [wrap_small (by omega) (by omega)]; omega) | (refine congrArg Nat.cast ?_; assumption) | skip))
         ·exact famsTo.cons (wt10 wt5 famTo.nil) (famsTo.cons (wt10 wt5 famTo.nil) famsTo.nil)
         ·rw [← hks]
          rfl
       ·have hj2 : j = x.failed.length := by omega
        subst hj2
        rw [List.take_of_length_le (Nat.le_refl _)]
        refine walkX ?_
        refine ⟨r + 1, by omega, by omega, ?_⟩
        rw [hnr, ← hB]
        refine Sub.wdx (k := 4) { w with al := A, kn := noteF A g p x.failed kn1 } [] [[(4,0)],[(5,0)]] [[.cells 4 [z4]], [.cells 4 [rpRow x]]] ?_ ?_
        ·(all_goals (repeat' (first | exact ToAll.nil | exact famsTo.nil | exact famTo.nil | exact ToL.nil | exact ToR.nil | refine ToAll.cons ?_ ?_ | refine famsTo.cons ?_ ?_ | refine wt10 ?_ ?_ | exact To.undef _ | exact To.sc _ | exact To.hslL rfl rfl | exact To.ptrO rfl rfl rfl | exact To.mrefO rfl | exact To.nil rfl rfl rfl | exact wt1 | exact To.nilL | refine To.int ?_ | refine To.bool ?_ | refine To.hslL rfl ?_ | refine wt2 rfl ?_ ?_ ?_ | refine To.tupL ?_ | refine To.aggL ?_ | refine To.cptrL ?_ | refine wt3 ?_ | refine wt4 ?_ | refine To.cloL ?_ ?_ | exact wt5 | refine wt6 ?_ | refine ToB.one ?_ | exact wt7 | ((with_reducible apply ToL.consE); case e9 => rfl) | refine wt8 ?_ | refine ToL.cons ?_ ?_ | exact wt11 | refine wt9 ?_ ?_ | refine wt12 ?_ | (with_reducible rfl) | assumption)); all_goals (first | rfl | assumption | (simp; done) | (simp; omega) | (rw [wrap_small (by omega) (by omega)]; done) | (rw [wrap_small (by omega) (by omega)]; omega) | (refine congrArg Nat.cast ?_; assumption) | skip))
        ·exact famsTo.cons (wt10 wt5 famTo.nil) (famsTo.cons (wt10 wt5 famTo.nil) famsTo.nil)
     ·rw [if_neg ha] at hnr
      rw [show A p = false by simpa using ha] at hbp
      have hpn : PRs (rs.map rpRow) := ⟨allPure_map pure_rpRow rs⟩
      refine walkX0 ?_
      refine Reg.o rfl (dstep_idxArr (q := p) rfl rfl rfl hp64) ?_
      refine Reg.o rfl (dstep_ld1 rfl rfl rfl (by rw [Nat.mul_one]; exact hbp)) ?_
      refine walkX0 ?_
      refine ⟨r + 1, by omega, by omega, ?_⟩
      rw [hnr, ← hB]
      refine Sub.wdx (k := 4) { w with al := A, kn := (noteG A g rs w.kn r).2 } [] [[(4,0)],[(5,0)]] [[.cells 4 [z4]], [.cells 4 [rpRow (noteG A g rs w.kn r).1]]] ?_ ?_
      ·(all_goals (repeat' (first | exact ToAll.nil | exact famsTo.nil | exact famTo.nil | exact ToL.nil | exact ToR.nil | refine ToAll.cons ?_ ?_ | refine famsTo.cons ?_ ?_ | refine wt10 ?_ ?_ | exact To.undef _ | exact To.sc _ | exact To.hslL rfl rfl | exact To.ptrO rfl rfl rfl | exact To.mrefO rfl | exact To.nil rfl rfl rfl | exact wt1 | exact To.nilL | refine To.int ?_ | refine To.bool ?_ | refine To.hslL rfl ?_ | refine wt2 rfl ?_ ?_ ?_ | refine To.tupL ?_ | refine To.aggL ?_ | refine To.cptrL ?_ | refine wt3 ?_ | refine wt4 ?_ | refine To.cloL ?_ ?_ | exact wt5 | refine wt6 ?_ | refine ToB.one ?_ | exact wt7 | ((with_reducible apply ToL.consE); case e9 => rfl) | refine wt8 ?_ | refine ToL.cons ?_ ?_ | exact wt11 | refine wt9 ?_ ?_ | refine wt12 ?_ | (with_reducible rfl) | assumption)); all_goals (first | rfl | assumption | (simp; done) | (simp; omega) | (rw [wrap_small (by omega) (by omega)]; done) | (rw [wrap_small (by omega) (by omega)]; omega) | (refine congrArg Nat.cast ?_; assumption) | skip))
      ·exact famsTo.cons (wt10 wt5 famTo.nil) (famsTo.cons (wt10 wt5 famTo.nil) famsTo.nil)
    ·have hr2 : r = g.length := by omega
     subst hr2
     rw [← hB]
     generalize (noteG A g rs w.kn g.length).1 = y at *
     generalize (noteG A g rs w.kn g.length).2 = kn1 at *
     by_cases hdy : y.dec = true
     ·rw [if_pos hdy, if_pos hdy]
      have hpy : rpRow y = [.sc (.bool true), .sc (.int .i64 y.round), .sc (.int .i64 y.flag), intsV y.failed] := by unfold rpRow; rw [hdy]
      rw [hpy]
      refine walkX ?_
      refine endWd (.tup [.agg (rpRow { y with round := rd }), .sc (.int .i64 0)]) { w with al := A, kn := kn1 } ⟨rfl, rfl⟩ (h5 := ?_)
      refine To.tupL (ToL.cons (To.aggL ?_) (ToL.cons (To.sc _) ToL.nil))
      have e9 : rpRow { y with round := rd } = [.sc (.bool true), .sc (.int .i64 rd), .sc (.int .i64 y.flag), intsV y.failed] := by unfold rpRow; rw [hdy]
      rw [e9]
      change ToL _ _ [AV.sc (.bool true), AV.sc (.int .i64 rd), AV.sc (.int .i64 y.flag), intsV y.failed] _
      exact ToL.cons (To.sc _) (ToL.cons (To.sc _) (ToL.cons (To.sc _) (ToL.cons (.pure (pv _)) ToL.nil)))
     ·rw [if_neg hdy, if_neg hdy]
      have hpy : rpRow y = [.sc (.bool false), .sc (.int .i64 y.round), .sc (.int .i64 y.flag), intsV y.failed] := by unfold rpRow; rw [show y.dec = false by simpa using hdy]
      rw [hpy]
      refine walkX ?_
      refine endWd (.tup [.agg (rpRow noRp), .sc (.int .i64 16)]) { w with al := A, kn := kn1 } ⟨rfl, rfl⟩ (h5 := ?_)
      refine To.tupL (ToL.cons (To.aggL ?_) (ToL.cons (To.sc _) ToL.nil))
      change ToL _ _ [AV.sc (.bool false), AV.sc (.int .i64 0), AV.sc (.int .i64 0), AV.sc (.slice none 0 0)] _
      exact ToL.cons (To.sc _) (ToL.cons (To.sc _) (ToL.cons (To.sc _) (ToL.cons To.nilL ToL.nil)))
theorem CallOK.post {P : Program} {f : FuncId} {args : List AV} {H : Heap} {R R' : AV → Heap → Prop} (h : CallOK P f args H R) (hp : ∀ res H', R res H' → ∃ res' H2, SubV H.length H' res H2 res' ∧ R' res' H2) : CallOK P f args H R' :=
 ⟨h.1, fun M J w cargs a b c d => (h.2 M J w cargs a b c d).mono fun _ _ ⟨v, M', J', res, H', h1, h2, h3, h4⟩ => by
  obtain ⟨res', H2, s, h5⟩ := hp res H' h4
  obtain ⟨M2, J2, s2, r2⟩ := s M' J' v _ h3 h2.hrep h2.mrep
  exact ⟨v, M2, J2, res', H2, h1, h2.trans s2, r2, h5⟩⟩
theorem dist_intro {n : Int} : ∀ {l s : List Int}, (∀ x ∈ l, 0 ≤ x ∧ x < n) → (∀ x ∈ l, x ∉ s) → l.Nodup → E.distE n s l = 0
 | [], _, _, _, _ => rfl
 | y :: l, s, a, b, c => by
  obtain ⟨c1, c2⟩ := List.nodup_cons.1 c
  have := a y (by simp)
  unfold E.distE
  rw [if_neg (by omega), if_neg (b y (by simp))]
  refine dist_intro (fun x hx => a x (by simp [hx])) (fun x hx hs => ?_) c2
  rcases List.mem_append.1 hs with hs | hs
  ·exact b x (by simp [hx]) hs
  ·rw [List.mem_singleton.1 hs] at hx
   exact c1 hx
def gI (g : List Nat) : List Int := g.map fun n : Nat => (n : Int)
theorem gI_len (g : List Nat) : (gI g).length = g.length := List.length_map ..
theorem excl_drop {n : Nat} {g : List Nat} {D : List Int} (hn : n ≤ 64) (hg : GOK n g) (hD : FOK g.length D) : E.exclA (gI g) D = (0, gI (dropG g D)) := by
 have hgl := hg.len
 have h1 : E.checkE (gI g) = 0 := by
  unfold E.checkE
  rw [if_neg (by rw [gI_len]; omega)]
  refine dist_intro (fun x hx => ?_) (fun x _ h => by cases h) (List.pairwise_map.2 (hg.nd.imp fun h e => h (by omega)))
  obtain ⟨y, hy, rfl⟩ := List.mem_map.1 hx
  have := hg.lt y hy
  omega
 have h2 : E.distE (gI g).length [] D = 0 := by
  rw [gI_len]
  exact dist_intro hD.rng (fun x _ h => by cases h) (hD.pw.imp fun h => by omega)
 have h3 : E.rkE (gI g) D = 0 := by
  unfold E.rkE
  rw [if_pos h1, h2]
 unfold E.exclA E.ansE
 rw [if_pos h3]
 have e : dropG g D = g.filter fun x : Nat => E.notIn' (E.selE (gI g) D) (x : Int) := by
  refine asc_eq ?_ (hg.pw.filter _) fun x => ?_
  ·unfold dropG
   refine List.pairwise_map.2 ((List.pairwise_lt_range.filter _).imp_of_mem fun {a b} ha hb hab => ?_)
   have ha := List.mem_range.1 (List.mem_filter.1 ha).1
   have hb := List.mem_range.1 (List.mem_filter.1 hb).1
   rw [gAt_get ha, gAt_get hb]
   exact (List.pairwise_iff_getElem.1 hg.pw) a b ha hb hab
  ·rw [dropG_mem, List.mem_filter]
   unfold E.notIn' E.selE
   have hsel : ∀ x : Nat, (x : Int) ∈ D.map (fun r => (gI g).getD r.toNat 0) ↔ ∃ r : Nat, (r : Int) ∈ D ∧ gAt g r = x := by
    intro x
    rw [List.mem_map]
    constructor
    ·rintro ⟨r, h1, h2⟩
     have := hD.rng r h1
     obtain ⟨q, rfl⟩ : ∃ q : Nat, r = (q : Int) := ⟨r.toNat, by omega⟩
     refine ⟨q, h1, ?_⟩
     have hq : q < g.length := by omega
     rw [gAt_get hq]
     unfold gI at h2
     rw [show ((q : Int)).toNat = q from rfl, List.getD_eq_getElem?_getD, List.getElem?_map, List.getElem?_eq_getElem hq] at h2
     have h2 : ((g[q] : Nat) : Int) = (x : Int) := h2
     omega
    ·rintro ⟨q, h1, h2⟩
     have := hD.rng _ h1
     have hq : q < g.length := by omega
     refine ⟨(q : Int), h1, ?_⟩
     unfold gI
     rw [show ((q : Int)).toNat = q from rfl, List.getD_eq_getElem?_getD, List.getElem?_map, List.getElem?_eq_getElem hq]
     rw [gAt_get hq] at h2
     exact congrArg Nat.cast h2
   rw [Bool.not_eq_true', decide_eq_false_iff_not, hsel]
   constructor
   ·rintro ⟨r, h1, h2, rfl⟩
    refine ⟨by rw [gAt_get h1]; exact List.getElem_mem h1, ?_⟩
    rintro ⟨q, h3, h4⟩
    have := hD.rng _ h3
    have := gAt_inj hg.nd (show q < g.length by omega) h1 h4
    subst this
    exact h2 h3
   ·rintro ⟨h1, h2⟩
    obtain ⟨r, hr, rfl⟩ := List.getElem_of_mem h1
    exact ⟨r, hr, fun h => h2 ⟨r, h, gAt_get hr⟩, gAt_get hr⟩
 rw [e]
 unfold gI
 rw [List.filter_map]
 rfl
theorem excl_run {n : Nat} {g : List Nat} {D : List Int} (hn : n ≤ 64) (hg : GOK n g) (hD : FOK g.length D) : PureRun Try.prog 61 [.list 1 (E.natsR g), intsV D] (.tup [.list 1 (E.natsR (dropG g D)), .sc (.int .i64 0)]) := by
 have h := E.excl_ok (gI g) D (by have := hg.len; rw [gI_len]; omega) (by have := fok_len hD; have := hg.len; omega)
 rw [excl_drop hn hg hD] at h
 have e1 : intsR (gI g) = E.natsR g := (natsR_ints g).symm
 have e2 : intsR (gI (dropG g D)) = E.natsR (dropG g D) := (natsR_ints _).symm
 rw [e1] at h
 refine PureRun.of (allPure_cons (pv _) (allPure_cons (pv (.list 1 (intsR D))) allPure_nil)) (pv _) (CallOK.post h fun res H' hr => ?_)
 obtain ⟨rfl, rfl⟩ := hr
 refine ⟨_, [], SubV.to [] [] (To.tupL (ToL.cons (To.fz rfl rfl ?_ e2 (prs _)) (ToL.cons (To.sc _) ToL.nil))) trivial rfl rfl rfl, rfl⟩
 rw [intsLen]
theorem tmAt_old {ts : List Tm} {t : Tm} {i : Nat} (h : i < ts.length) : tmAt (ts ++ [t]) i = tmAt ts i := by
 unfold tmAt
 rw [List.getElem?_append_left h]
theorem tmAt_new {ts : List Tm} {t : Tm} : tmAt (ts ++ [t]) ts.length = t := by
 unfold tmAt
 rw [List.getElem?_append_right (Nat.le_refl _), Nat.sub_self]
 rfl
theorem tmE_snoc (ts : List Tm) (t : Tm) : tmE (ts ++ [t]) = tmE ts ++ [(.int .i64 (ts.length : Int), tmV ts.length t)] := by
 unfold tmE
 rw [List.length_append, show [t].length = 1 from rfl, List.range_succ, List.map_append]
 congr 1
 ·refine List.map_congr_left fun i hi => ?_
  rw [tmAt_old (List.mem_range.1 hi)]
 ·show [(Value.int IntKind.i64 (ts.length : Int), tmV ts.length (tmAt (ts ++ [t]) ts.length))] = [_]
  rw [tmAt_new]
def nK (k : Nat) (p : Nat × Nat) : List FK := [.c [(0,0)], .c [(1,0)], .c [(2,0)], .w 3 k [p]]
theorem wd_famsN {T : AV → AV → Prop} {w : Wd} {t : Tm} {H : Heap} {p : Nat × Nat} {v : AV} (h0 : H[0]? = some [.cells 67 [boxR w.n w.al]]) (h1 : H[1]? = some [.cells 64 (knR w.n w.kn)]) (h2 : H[2]? = some [.map (tmE w.ts ++ [(.int .i64 (w.ts.length : Int), v)])]) (h3 : H[3]? = some (rvF w.ts))
  (hv : To T (rho (idK (nK w.ts.length p))) v (tmV w.ts.length t)) (hp : hget H p.1 p.2 = some (.cells 1 (rvR t))) : famsTo (ToB T (rho (idK (nK w.ts.length p)))) H (idK (nK w.ts.length p)) (worldH { w with ts := w.ts ++ [t] }) := by
 have g : ∀ {g i : Nat} {F : List Blk}, H[g]? = some F → hget H g i = F[i]? := fun h => by unfold hget; rw [h]
 refine ⟨⟨⟨_, (g h0).trans rfl, ToB.one (To.boxL rfl rfl)⟩, trivial⟩, ⟨⟨_, (g h1).trans rfl, ToB.rows rfl (prs _)⟩, trivial⟩, ⟨⟨_, (g h2).trans rfl, ?_⟩, trivial⟩, ?_, trivial⟩
 ·show ToB _ _ _ (.map (tmE (w.ts ++ [t])))
  rw [tmE_snoc]
  refine .map _ _ (by simp) (fun j x y a b => ?_) fun j x y a b => ?_
  ·by_cases hj : j < (tmE w.ts).length
   ·rw [List.getElem?_append_left hj] at a b
    rw [a] at b
    injection b with b
    rw [b]
   ·rw [List.getElem?_append_right (by omega)] at a b
    cases e : j - (tmE w.ts).length with
    | zero => rw [e] at a b; injection a with a; injection b with b; rw [← a, ← b]
    | succ q => rw [e] at a; simp at a
  ·by_cases hj : j < (tmE w.ts).length
   ·rw [List.getElem?_append_left hj] at a b
    rw [a] at b
    injection b with b
    subst b
    rw [tmE_len] at hj
    unfold tmE at a
    rw [List.getElem?_map, List.getElem?_range hj] at a
    injection a with a
    subst a
    exact To.tmV (rho_w rfl hj)
   ·rw [List.getElem?_append_right (by omega)] at a b
    cases e : j - (tmE w.ts).length with
    | zero => rw [e] at a b; injection a with a; injection b with b; rw [← a, ← b]; exact hv
    | succ q => rw [e] at a; simp at a
 ·show famTo _ _ _ (rvF (w.ts ++ [t]))
  unfold rvF
  rw [List.length_append]
  refine famTo.famS (fun i hi => ?_) hp (ToB.rows ?_ (prs _))
  ·exact ⟨_, (g h3).trans (rvF_get hi), ToB.rows (by rw [tmAt_old hi]) (prs _)⟩
  ·rw [tmAt_new]
def shrF (w : Wd) (g : List Nat) (l : List C) : Int × Int × Wd :=
 let a := agW w.al w.kn g (List.replicate g.length 0) l
 let w' := { w with al := a.al, kn := a.kn }
 if a.e ≠ 0 then (0, a.e, w') else if w.ts.length = 64 then (0, 18, w') else ((w.ts.length : Int), 0, { w' with ts := w.ts ++ [⟨dropG g a.rp.failed, fun _ => false⟩] })
theorem agW_fok {n : Nat} {al : Nat → Bool} {kn : Nat → Nat → Bool} {g : List Nat} {fl : List Int} {l : List C} (hg : GOK n g) (hfl : fl.length = g.length) (hd : ∀ i j, kn i j = true → al j = false) : FOK g.length (agW al kn g fl l).rp.failed := by
 rcases crashW_cases al g l with ⟨h1, h2⟩ | ⟨h1, h2, h3⟩ | ⟨h1, h2, _⟩
 ·rw [agW_bad (by rw [h2]; exact h1)]
  exact ⟨fun k hk => (by cases hk), List.Pairwise.nil⟩
 ·rw [agW_bad (by rw [h3]; decide)]
  exact ⟨fun k hk => (by cases hk), List.Pairwise.nil⟩
 ·exact (agW_ok hg hfl hd h1 h2).fok
set_option maxHeartbeats 16000000 in
theorem shrink_at (w : Wd) (c : Nat) (l : List C) (hw : WOK w) (hc : c < w.ts.length) (ht0 : w.ts.length ≤ 64) (hd : ∀ i j, w.kn i j = true → w.al j = false) (hl : l.length ≤ 9223372036854775807) :
  CallOK Try.prog 29 [.ptr 0 0 0 0, .sc (.int .i64 (c : Int)), crV l] (worldH w) fun res H' => res = .tup [.sc (.int .i64 (shrF w (tmAt w.ts c).g l).1), .sc (.int .i64 (shrF w (tmAt w.ts c).g l).2.1)] ∧ H' = worldH (shrF w (tmAt w.ts c).g l).2.2 := by
 refine CallOK.of cF29 ?_ (Nat.le_of_ble_eq_true rfl)
 have hg := hw.gs c hc
 have hn := hw.n1
 have hgl := hg.len
 have e0 := natsR_len (tmAt w.ts c).g
 have hf := find_at (H := worldH w) (c := (c : Int)) rfl (boxR_tm w.n w.al) rfl (tmE_at hc)
 have hag := agree_at w (tmAt w.ts c).g (List.replicate (tmAt w.ts c).g.length 0) l hn hg (by simp) hd hl
 have hfk := agW_fok (fl := List.replicate (tmAt w.ts c).g.length 0) (l := l) hg (by simp) hd
 have hex := excl_run hn hg hfk
 unfold shrF
 generalize agW w.al w.kn (tmAt w.ts c).g (List.replicate (tmAt w.ts c).g.length 0) l = a at *
 have hw0 : worldH w = [[.cells 67 [boxR w.n w.al]], [.cells 64 (knR w.n w.kn)], [.map (tmE w.ts)], rvF w.ts] := rfl
 rw [hw0] at hf ⊢
 unfold crV
 refine walkX ?_
 refine Reg.c (Nat.le_refl _) rfl (hf.mono ?_)
 rintro res H' ⟨rfl, rfl⟩
 refine walkX ?_
 rw [e0]
 refine walkX ?_
 refine Reg.o rfl (dstep_mk (n := (tmAt w.ts c).g.length) rfl (by omega) (by omega)) ?_
 refine walkX ?_
 refine Reg.sub (fr' := [(0, .ptr 0 0 0 0), (8, tmV c (tmAt w.ts c)), (23, .ptr 0 0 0 0), (24, tG (tmAt w.ts c).g), (30, intsV (List.replicate (tmAt w.ts c).g.length 0)), (31, .list 3 (l.map crow))]) (H' := worldH w) ?_ ?_
 ·refine Sub.wd (w := w) [] ?_
  refine ToAll.cons (To.ptrO rfl rfl rfl) (ToAll.cons (To.tmV (rho_w rfl hc)) (ToAll.cons (To.ptrO rfl rfl rfl) (ToAll.cons (To.cptrL (ToL.cons (.pure (pv (.list 1 (E.natsR _)))) (ToL.cons (.undef _) ToL.nil))) (ToAll.cons (To.fz rfl rfl ?_ ?_ (prs _)) ?_))))
  ·simp
  ·simp [intsR]
   exact .inr rfl
  ·(all_goals (repeat' (first | exact ToAll.nil | exact famsTo.nil | exact famTo.nil | exact ToL.nil | exact ToR.nil | refine ToAll.cons ?_ ?_ | refine famsTo.cons ?_ ?_ | refine wt10 ?_ ?_ | exact To.undef _ | exact To.sc _ | exact To.hslL rfl rfl | exact To.ptrO rfl rfl rfl | exact To.mrefO rfl | exact To.nil rfl rfl rfl | exact wt1 | exact To.nilL | refine To.int ?_ | refine To.bool ?_ | refine To.hslL rfl ?_ | refine wt2 rfl ?_ ?_ ?_ | refine To.tupL ?_ | refine To.aggL ?_ | refine To.cptrL ?_ | refine wt3 ?_ | refine wt4 ?_ | refine To.cloL ?_ ?_ | exact wt5 | refine wt6 ?_ | refine ToB.one ?_ | exact wt7 | ((with_reducible apply ToL.consE); case e9 => rfl) | refine wt8 ?_ | refine ToL.cons ?_ ?_ | exact wt11 | refine wt9 ?_ ?_ | refine wt12 ?_ | (with_reducible rfl) | assumption)); all_goals (first | rfl | assumption | (simp; done) | (simp; omega) | (rw [wrap_small (by omega) (by omega)]; done) | (rw [wrap_small (by omega) (by omega)]; omega) | (refine congrArg Nat.cast ?_; assumption) | skip))
 have hw1 : worldH { w with al := a.al, kn := a.kn } = [[.cells 67 [boxR w.n a.al]], [.cells 64 (knR w.n a.kn)], [.map (tmE w.ts)], rvF w.ts] := rfl
 rw [hw1] at hag
 refine Reg.c (Nat.le_refl _) rfl (hag.mono ?_)
 rintro res H' ⟨rfl, rfl⟩
 refine walkX ?_
 by_cases he : a.e ≠ 0
 ·rw [if_pos he, show (a.e != 0) = true by simpa using he]
  refine walkX ?_
  refine endWd (.tup [.sc (.int .i64 0), .sc (.int .i64 a.e)]) { w with al := a.al, kn := a.kn } ⟨rfl, rfl⟩
 rw [if_neg he, show (a.e != 0) = false by simpa using he]
 refine walkX ?_
 rw [tmE_len]
 by_cases ht : w.ts.length = 64
 ·rw [if_pos ht, decide_eq_true ht]
  refine walkX ?_
  refine endWd (.tup [.sc (.int .i64 0), .sc (.int .i64 18)]) { w with al := a.al, kn := a.kn } ⟨rfl, rfl⟩
 rw [if_neg ht, decide_eq_false ht]
 refine walkX ?_
 refine DK.nil ⟨by kernel_rfl, ?_⟩
 refine walkX ?_
 have hg2 : (dropG (tmAt w.ts c).g a.rp.failed).length ≤ 64 := by
  unfold dropG
  rw [List.length_map]
  refine Nat.le_trans (List.length_filter_le _ _) ?_
  rw [List.length_range]
  omega
 generalize dropG (tmAt w.ts c).g a.rp.failed = g2 at *
 refine AWP.loop (fun k : Nat => [(0, .ptr 0 0 0 0), (11, .list 1 (E.natsR g2)), (12, .sc (.int .i64 (k : Int)))]) (fun k => [[.cells 67 [boxR w.n a.al]], [.cells 64 (knR w.n a.kn)], [.map (tmE w.ts)], rvF w.ts]) (fun k => 1 ≤ k ∧ k ≤ w.ts.length) (fun k => w.ts.length - k) 1 ⟨Nat.le_refl _, by omega⟩ ?_ ?_
 ·refine Sub.wd (w := { w with al := a.al, kn := a.kn }) [] ?_
  (all_goals (repeat' (first | exact ToAll.nil | exact famsTo.nil | exact famTo.nil | exact ToL.nil | exact ToR.nil | refine ToAll.cons ?_ ?_ | refine famsTo.cons ?_ ?_ | refine wt10 ?_ ?_ | exact To.undef _ | exact To.sc _ | exact To.hslL rfl rfl | exact To.ptrO rfl rfl rfl | exact To.mrefO rfl | exact To.nil rfl rfl rfl | exact wt1 | exact To.nilL | refine To.int ?_ | refine To.bool ?_ | refine To.hslL rfl ?_ | refine wt2 rfl ?_ ?_ ?_ | refine To.tupL ?_ | refine To.aggL ?_ | refine To.cptrL ?_ | refine wt3 ?_ | refine wt4 ?_ | refine To.cloL ?_ ?_ | exact wt5 | refine wt6 ?_ | refine ToB.one ?_ | exact wt7 | ((with_reducible apply ToL.consE); case e9 => rfl) | refine wt8 ?_ | refine ToL.cons ?_ ?_ | exact wt11 | refine wt9 ?_ ?_ | refine wt12 ?_ | (with_reducible rfl) | assumption)); all_goals (first | rfl | assumption | (simp; done) | (simp; omega) | (rw [wrap_small (by omega) (by omega)]; done) | (rw [wrap_small (by omega) (by omega)]; omega) | (refine congrArg Nat.cast ?_; assumption) | skip))
 rintro k ⟨hk1, hk2⟩
 have h66 := boxR_tm w.n a.al
 by_cases hk : k < w.ts.length
 ·have hfk := tmE_at hk
  generalize hB : boxR w.n a.al = B at *
  refine walkX0 ?_
  refine Reg.o rfl (dstep_lookAt rfl rfl rfl hfk) ?_
  unfold tmV
  refine walkX ?_
  refine ⟨k + 1, ⟨by omega, by omega⟩, by omega, ?_⟩
  rw [← hB]
  refine Sub.wd (w := { w with al := a.al, kn := a.kn }) [] ?_
  (all_goals (repeat' (first | exact ToAll.nil | exact famsTo.nil | exact famTo.nil | exact ToL.nil | exact ToR.nil | refine ToAll.cons ?_ ?_ | refine famsTo.cons ?_ ?_ | refine wt10 ?_ ?_ | exact To.undef _ | exact To.sc _ | exact To.hslL rfl rfl | exact To.ptrO rfl rfl rfl | exact To.mrefO rfl | exact To.nil rfl rfl rfl | exact wt1 | exact To.nilL | refine To.int ?_ | refine To.bool ?_ | refine To.hslL rfl ?_ | refine wt2 rfl ?_ ?_ ?_ | refine To.tupL ?_ | refine To.aggL ?_ | refine To.cptrL ?_ | refine wt3 ?_ | refine wt4 ?_ | refine To.cloL ?_ ?_ | exact wt5 | refine wt6 ?_ | refine ToB.one ?_ | exact wt7 | ((with_reducible apply ToL.consE); case e9 => rfl) | refine wt8 ?_ | refine ToL.cons ?_ ?_ | exact wt11 | refine wt9 ?_ ?_ | refine wt12 ?_ | (with_reducible rfl) | assumption)); all_goals (first | rfl | assumption | (simp; done) | (simp; omega) | (rw [wrap_small (by omega) (by omega)]; done) | (rw [wrap_small (by omega) (by omega)]; omega) | (refine congrArg Nat.cast ?_; assumption) | skip))
 ·have hk3 : k = w.ts.length := by omega
  subst hk3
  have hfk := tmE_no (Nat.le_refl w.ts.length)
  have hgl2 := natsR_len g2
  generalize hB : boxR w.n a.al = B at *
  refine walkX0 ?_
  refine Reg.o rfl (dstep_lookAt rfl rfl rfl hfk) ?_
  refine walkX ?_
  rw [hgl2]
  have hrep : List.replicate g2.length (zrow [(1, Value.bool false)]) = rvR ⟨g2, fun _ => false⟩ := row1_rep _ _
  refine DK.o rfl (dstep_mk (n := g2.length) rfl (by omega) (by omega)) ?_
  rw [hrep]
  refine walkX ?_
  refine DK.on rfl (dstep_mapNew (es := tmE w.ts) rfl rfl rfl hfk) ?_
  refine DK.nil ⟨by kernel_rfl, ?_⟩
  refine walkX ?_
  refine endKs (nK w.ts.length (4, 8)) (res' := .tup [.sc (.int .i64 (w.ts.length : Int)), .sc (.int .i64 0)]) (H2 := worldH { w with al := a.al, kn := a.kn, ts := w.ts ++ [⟨g2, fun _ => false⟩] }) ⟨rfl, rfl⟩ (.inr rfl) rfl ?_ ?_ ?_
  ·(all_goals (repeat' (first | exact ToAll.nil | exact famsTo.nil | exact famTo.nil | exact ToL.nil | exact ToR.nil | refine ToAll.cons ?_ ?_ | refine famsTo.cons ?_ ?_ | refine wt10 ?_ ?_ | exact To.undef _ | exact To.sc _ | exact To.hslL rfl rfl | exact To.ptrO rfl rfl rfl | exact To.mrefO rfl | exact To.nil rfl rfl rfl | exact wt1 | exact To.nilL | refine To.int ?_ | refine To.bool ?_ | refine To.hslL rfl ?_ | refine wt2 rfl ?_ ?_ ?_ | refine To.tupL ?_ | refine To.aggL ?_ | refine To.cptrL ?_ | refine wt3 ?_ | refine wt4 ?_ | refine To.cloL ?_ ?_ | exact wt5 | refine wt6 ?_ | refine ToB.one ?_ | exact wt7 | ((with_reducible apply ToL.consE); case e9 => rfl) | refine wt8 ?_ | refine ToL.cons ?_ ?_ | exact wt11 | refine wt9 ?_ ?_ | refine wt12 ?_ | (with_reducible rfl) | assumption)); all_goals (first | rfl | assumption | (simp; done) | (simp; omega) | (rw [wrap_small (by omega) (by omega)]; done) | (rw [wrap_small (by omega) (by omega)]; omega) | (refine congrArg Nat.cast ?_; assumption) | skip))
  ·refine wd_famsN (w := { w with al := a.al, kn := a.kn }) (by rw [← hB]; rfl) rfl rfl rfl ?_ rfl
   refine To.fzp rfl rfl rfl (To.cptrL (ToL.consE rfl (.pure (pv (.list 1 (E.natsR g2)))) (ToL.consE rfl (To.hslL (rho_w2 (i := 0) rfl rfl) rfl) ToL.nil)))
  ·exact ⟨.c _ rfl rfl, .c _ rfl rfl, .c _ rfl rfl, .w _ _ (Nat.le_of_eq (rvF_len _)), trivial⟩
def al0 (n : Nat) (i : Nat) : Bool := decide (i < n)
def wd0 (n : Nat) : Wd := ⟨n, al0 n, fun _ _ => false, [⟨List.range n, fun _ => false⟩]⟩
theorem first_run (n : Nat) (hn : n ≤ 64) : PureRun Try.prog 39 [.sc (.int .i64 (n : Int))] (.agg (bset 64 (al0 n))) := PureRun.ofI (first_ok n hn)
theorem elems_al0 {n : Nat} (hn : n ≤ 64) : intsR (elems 64 (al0 n)) = E.natsR (List.range n) := by
 unfold elems
 have : (List.range 64).filter (al0 n) = List.range n := asc_eq (List.pairwise_lt_range.filter _) List.pairwise_lt_range fun x => by
  rw [List.mem_filter, List.mem_range, List.mem_range]
  unfold al0
  simp
  omega
 rw [this, natsR_ints]
theorem mapTo1 {T : AV → AV → Prop} {ρ : Nat → Nat → Option (Nat × Nat)} {v : Value} {x y : AV} (h : To T ρ x y) : ToB T ρ (.map [(v, x)]) (.map [(v, y)]) :=
 .map _ _ rfl (fun j x y a b => by match j with | 0 => (simp at a b; rw [← a, ← b]) | j + 1 => simp at a) fun j x y a b => by
  match j with
  | 0 => simp at a b; rw [← a, ← b]; exact h
  | j + 1 => simp at a
theorem spl_box (n : Nat) (s : Nat → Bool) (h m : AV) : lsplice (lsplice (lsplice (lsplice (zrow [(1, .int .i64 0), (64, .bool false), (1, .slice none 0 0), (1, .map none)]) 0 [AV.sc (.int .i64 (n : Int))]) 1 (bset 64 s)) 65 [h]) 66 [m] = .sc (.int .i64 (n : Int)) :: (bset 64 s ++ [h, m]) := by
 have e0 : zrow [(1, .int .i64 0), (64, .bool false), (1, .slice none 0 0), (1, .map none)] = .sc (.int .i64 0) :: ((bset 64 fun _ => false) ++ [AV.sc (.slice none 0 0), .sc (.map none)]) := rfl
 have e1 : lsplice (AV.sc (.int .i64 0) :: ((bset 64 fun _ => false) ++ [AV.sc (.slice none 0 0), .sc (.map none)])) 0 [AV.sc (.int .i64 (n : Int))] = .sc (.int .i64 (n : Int)) :: ((bset 64 fun _ => false) ++ [AV.sc (.slice none 0 0), .sc (.map none)]) := by rw [lsplice_one]; rfl
 have e2 : lsplice (AV.sc (.int .i64 (n : Int)) :: ((bset 64 fun _ => false) ++ [AV.sc (.slice none 0 0), .sc (.map none)])) 1 (bset 64 s) = .sc (.int .i64 (n : Int)) :: (bset 64 s ++ [AV.sc (.slice none 0 0), .sc (.map none)]) := by
  have h := splice_right [AV.sc (.int .i64 (n : Int))] ((bset 64 fun _ => false) ++ [AV.sc (.slice none 0 0), .sc (.map none)]) (bset 64 s) 0
  exact h.trans (congrArg (AV.sc (.int .i64 (n : Int)) :: ·) (splice_left _ _ _ (by simp [bset_len])))
 have e3 : lsplice (AV.sc (.int .i64 (n : Int)) :: (bset 64 s ++ [AV.sc (.slice none 0 0), .sc (.map none)])) 65 [h] = .sc (.int .i64 (n : Int)) :: (bset 64 s ++ [h, .sc (.map none)]) := by
  rw [lsplice_one, List.set_cons_succ, List.set_append_right _ _ (by rw [bset_len]; exact Nat.le_refl _), bset_len]
  rfl
 have e4 : lsplice (AV.sc (.int .i64 (n : Int)) :: (bset 64 s ++ [h, .sc (.map none)])) 66 [m] = .sc (.int .i64 (n : Int)) :: (bset 64 s ++ [h, m]) := by
  rw [lsplice_one, List.set_cons_succ, List.set_append_right _ _ (by rw [bset_len]; omega), bset_len]
  rfl
 rw [e0, e1, e2, e3, e4]
set_option maxHeartbeats 8000000 in
theorem new_at (n : Nat) (h1 : 1 ≤ n) (hn : n ≤ 64) : CallOK Try.prog 24 [.sc (.int .i64 (n : Int))] [] fun res H' => res = .tup [.ptr 0 0 0 0, .sc (.int .i64 0)] ∧ H' = worldH (wd0 n) := by
 refine CallOK.of cF24 ?_ (Nat.le_of_ble_eq_true rfl)
 have hfi := first_run n hn
 have hlv : intsV (elems 64 (al0 n)) = .list 1 (E.natsR (List.range n)) := by unfold intsV; rw [elems_al0 hn]
 have hli := list_run (al0 n)
 have hbl := bset_len 64 (al0 n)
 have hk0 : List.replicate n (zrow [(64, Value.bool false)]) = knR n fun _ _ => false := by
  unfold knR
  rw [List.map_const', List.length_range]
  rfl
 have hr0 : List.replicate n (zrow [(1, Value.bool false)]) = rvR ⟨List.range n, fun _ => false⟩ := by
  unfold rvR
  rw [List.length_range]
  exact row1_rep _ _
 have htk : ((bset 64 (al0 n)).drop 0).take 64 = bset 64 (al0 n) := List.take_of_length_le (by rw [List.drop_zero, hbl]; exact Nat.le_refl _)
 have hsp : lsplice (zrow [(64, Value.bool false)]) 0 (bset 64 (al0 n)) = bset 64 (al0 n) := lsplice_all _ _ (by rw [hbl]; rfl)
 refine walkX ?_
 rw [decide_eq_false (show ¬ n < 1 by omega)]
 refine walkX ?_
 rw [decide_eq_false (show ¬ 64 < n by omega)]
 refine walkX ?_
 refine DK.o rfl (dstep_mk (n := n) rfl (by omega) (by omega)) ?_
 rw [hk0]
 refine walkX ?_
 refine DK.o rfl (dstep_mk (n := n) rfl (by omega) (by omega)) ?_
 rw [hr0]
 refine walkX ?_
 refine DK.nil ⟨by kernel_rfl, ?_⟩
 refine walkX ?_
 refine endH (res' := .tup [.ptr 0 0 0 0, .sc (.int .i64 0)]) [[(1,14)],[(1,3)],[(1,4)],[(1,8)]] (.inr rfl) rfl ⟨rfl, rfl⟩ ?_ ?_ rfl rfl rfl
 ·(all_goals (repeat' (first | exact ToAll.nil | exact famsTo.nil | exact famTo.nil | exact ToL.nil | exact ToR.nil | refine ToAll.cons ?_ ?_ | refine famsTo.cons ?_ ?_ | refine wt10 ?_ ?_ | exact To.undef _ | exact To.sc _ | exact To.hslL rfl rfl | exact To.ptrO rfl rfl rfl | exact To.mrefO rfl | exact To.nil rfl rfl rfl | exact wt1 | exact To.nilL | refine To.int ?_ | refine To.bool ?_ | refine To.hslL rfl ?_ | refine wt2 rfl ?_ ?_ ?_ | refine To.tupL ?_ | refine To.aggL ?_ | refine To.cptrL ?_ | refine wt3 ?_ | refine wt4 ?_ | refine To.cloL ?_ ?_ | exact wt5 | refine wt6 ?_ | refine ToB.one ?_ | exact wt7 | ((with_reducible apply ToL.consE); case e9 => rfl) | refine wt8 ?_ | refine ToL.cons ?_ ?_ | exact wt11 | refine wt9 ?_ ?_ | refine wt12 ?_ | (with_reducible rfl) | assumption)); all_goals (first | rfl | assumption | (simp; done) | (simp; omega) | (rw [wrap_small (by omega) (by omega)]; done) | (rw [wrap_small (by omega) (by omega)]; omega) | (refine congrArg Nat.cast ?_; assumption) | skip))
 ·refine famsTo.cons (famTo.cons (y := .cells 67 [_]) rfl (ToB.one ?_) famTo.nil) (famsTo.cons (wt10 wt5 famTo.nil) (famsTo.cons (wt10 (mapTo1 ?_) famTo.nil) (famsTo.cons (wt10 wt5 famTo.nil) famsTo.nil)))
  ·change ToL _ _ (lsplice (lsplice (lsplice (lsplice (zrow [(1, .int .i64 0), (64, .bool false), (1, .slice none 0 0), (1, .map none)]) 0 [AV.sc (.int .i64 (n : Int))]) 1 (bset 64 (al0 n))) 65 [AV.hsl 1 3 0 n]) 66 [AV.mref 1 4]) _
   rw [spl_box]
   change ToL _ _ (AV.sc (.int .i64 (n : Int)) :: (bset 64 (al0 n) ++ [AV.hsl 1 3 0 n, AV.mref 1 4])) (AV.sc (.int .i64 (n : Int)) :: (bset 64 (al0 n) ++ [AV.hsl 1 0 0 n, AV.mref 2 0]))
   exact ToL.cons (To.sc _) (ToL.pad (l := bset 64 (al0 n)) (pr _) (ToL.cons (To.hslL rfl rfl) (ToL.cons (To.mrefO rfl) ToL.nil)))
  ·refine To.fzp rfl rfl rfl (To.cptrL (ToL.consE rfl ?_ (ToL.consE rfl (To.hslL rfl ?_) ToL.nil)))
   ·exact .eq hlv (pv (.list 1 (E.natsR (List.range n))))
   ·exact (List.length_range).symm
def memS (l : List Int) (j : Nat) : AV := .sc (.bool (decide ((j : Int) ∈ l)))
instance (l : List Int) (j : Nat) : PV (memS l j) := ⟨.sc _⟩
set_option maxHeartbeats 4000000 in
theorem members_ok (n : Nat) (l : List Int) (hn : n ≤ 1000000) (hl : l.length ≤ 1000000) : PureRun Try.prog 27 [.sc (.int .i64 (n : Int)), intsV l] (.list 1 (row1 n (memS l))) := by
 refine PureRun.mkI cF27 (Nat.le_of_ble_eq_true rfl) ?_
 unfold intsV
 have e0 := intsLen l
 refine walkX ?_
 refine Reg.o rfl (dstep_mk (n := n) rfl (by omega) (by omega)) ?_
 refine walkX ?_
 refine AWP.loop (fun k : Nat => [(0, .sc (.int .i64 (n : Int))), (1, .list 1 (intsR l)), (5, .hsl 0 0 0 n), (6, .sc (.int .i64 (k : Int)))]) (fun k => [[.cells 1 (row1 n (memS (l.take k)))]]) (fun k => k ≤ l.length) (fun k => l.length - k) 0 (Nat.zero_le _) ?_ ?_
 ·(apply Sub.to [] [[(0,0)]]; all_goals (repeat' (first | exact ToAll.nil | exact famsTo.nil | exact famTo.nil | exact ToL.nil | exact ToR.nil | refine ToAll.cons ?_ ?_ | refine famsTo.cons ?_ ?_ | refine wt10 ?_ ?_ | exact To.undef _ | exact To.sc _ | exact To.hslL rfl rfl | exact To.ptrO rfl rfl rfl | exact To.mrefO rfl | exact To.nil rfl rfl rfl | exact wt1 | exact To.nilL | refine To.int ?_ | refine To.bool ?_ | refine To.hslL rfl ?_ | refine wt2 rfl ?_ ?_ ?_ | refine To.tupL ?_ | refine To.aggL ?_ | refine To.cptrL ?_ | refine wt3 ?_ | refine wt4 ?_ | refine To.cloL ?_ ?_ | exact wt5 | refine wt6 ?_ | refine ToB.one ?_ | exact wt7 | ((with_reducible apply ToL.consE); case e9 => rfl) | refine wt8 ?_ | refine ToL.cons ?_ ?_ | exact wt11 | refine wt9 ?_ ?_ | refine wt12 ?_ | (with_reducible rfl) | assumption)); all_goals (first | rfl | assumption | (simp; done) | (simp; omega) | (rw [wrap_small (by omega) (by omega)]; done) | (rw [wrap_small (by omega) (by omega)]; omega) | (refine congrArg Nat.cast ?_; assumption) | skip))
  exact (row1_rep n (.sc (.bool false))).trans (row1_congr fun j _ => by simp [memS])
 intro k hk
 have hrl := row1_len n (memS (l.take k))
 refine walkX0 ?_
 rw [e0]
 refine AWP.condD rfl (fun h => ?_) (fun h => ?_)
 ·have hx : rowIx (intsR l) (k : Int) = some [.sc (.int .i64 l[k])] := rowIx_map (fun n : Int => [AV.sc (.int .i64 n)]) l k h
  have hts := List.take_succ_eq_append_getElem h
  generalize l[k] = x at *
  have hsame : ¬ (0 ≤ x ∧ x < n) → row1 n (memS (l.take (k + 1))) = row1 n (memS (l.take k)) := fun hx => row1_congr fun j hj => by
   unfold memS
   rw [hts]
   have : decide ((j : Int) ∈ l.take k ++ [x]) = decide ((j : Int) ∈ l.take k) := by
    rw [Bool.eq_iff_iff, decide_eq_true_iff, decide_eq_true_iff, List.mem_append, List.mem_singleton]
    constructor
    ·rintro (h | h)
     ·exact h
     ·omega
    ·exact .inl
   rw [this]
  by_cases h1 : x < 0
  ·have hs := hsame (by omega)
   refine walkX0 ?_
   rw [decide_eq_false (show ¬ x ≥ 0 by omega)]
   refine walkX0 ?_
   refine ⟨k + 1, by omega, by omega, ?_⟩
   rw [hs]
   exact Sub.w [] [[(0,0)]]
  obtain ⟨q, rfl⟩ : ∃ q : Nat, x = (q : Int) := ⟨x.toNat, by omega⟩
  by_cases h2 : n ≤ q
  ·have hs := hsame (by omega)
   refine walkX0 ?_
   rw [decide_eq_false (show ¬ q < n by omega)]
   refine walkX0 ?_
   refine ⟨k + 1, by omega, by omega, ?_⟩
   rw [hs]
   exact Sub.w [] [[(0,0)]]
  ·have hgq := row1_get (f := memS (l.take k)) (show q < n by omega)
   have hs : row1 n (memS (l.take (k + 1))) = (row1 n (memS (l.take k))).set q [.sc (.bool true)] := by
    rw [row1_set]
    refine row1_congr fun j _ => ?_
    unfold memS
    rw [hts]
    by_cases e : j = q
    ·subst e
     simp
    ·rw [if_neg e]
     have : decide ((j : Int) ∈ l.take k ++ [(q : Int)]) = decide ((j : Int) ∈ l.take k) := by
      rw [Bool.eq_iff_iff, decide_eq_true_iff, decide_eq_true_iff, List.mem_append, List.mem_singleton]
      constructor
      ·rintro (h | h)
       ·exact h
       ·omega
      ·exact .inl
     rw [this]
   have hpR : PRs (row1 n (memS (l.take k))) := inferInstance
   generalize memS (l.take k) q = z at *
   generalize row1 n (memS (l.take k)) = R at *
   have hq : q < n := by omega
   refine walkX0 ?_
   rw [decide_eq_true hq]
   refine walkX ?_
   refine ⟨k + 1, by omega, by omega, ?_⟩
   rw [hs]
   exact Sub.w [] [[(0,0)]]
 ·have hk2 : k = l.length := by omega
  subst hk2
  rw [List.take_of_length_le (Nat.le_refl _)] at *
  refine walkX ?_
  exact EndP.w
theorem noteG_rng {al : Nat → Bool} {g : List Nat} {rs : List Rp} {kn : Nat → Nat → Bool} {n : Nat} (hg : GOK n g) (hf : ∀ k, FOK g.length (rpAt rs k).failed) (h : ∀ i j, kn i j = true → j < n) : ∀ k i j, (noteG al g rs kn k).2 i j = true → j < n
 | 0, i, j, hk => h i j hk
 | k + 1, i, j, hk => by
  unfold noteG at hk
  split at hk
  ·rcases (noteF_spec al g _ _ _ i j).1 hk with h1 | ⟨_, _, q, h1, rfl⟩
   ·exact noteG_rng hg hf h k i j h1
   ·have := (hf k).rng q h1
    obtain ⟨r, rfl⟩ : ∃ r : Nat, q = (r : Int) := ⟨q.toNat, by omega⟩
    exact hg.at (by omega)
  ·exact noteG_rng hg hf h k i j hk
theorem agW_rng {n : Nat} {al : Nat → Bool} {kn : Nat → Nat → Bool} {g : List Nat} {fl : List Int} {l : List C} (hg : GOK n g) (hfl : fl.length = g.length) (h : ∀ i j, kn i j = true → j < n) : ∀ i j, (agW al kn g fl l).kn i j = true → j < n := by
 unfold agW
 split
 ·exact h
 ·exact noteG_rng hg (agreeR_fok hfl (knL_rng kn g)) h _
structure ShrOK (w : Wd) (g : List Nat) (l : List C) (al : Nat → Bool) (kn : Nat → Nat → Bool) (g2 : List Nat) : Prop where
 eq : shrF w g l = ((w.ts.length : Int), 0, { w with al := al, kn := kn, ts := w.ts ++ [⟨g2, fun _ => false⟩] })
 hal : al = buryW w.al g l
 dead : ∀ i j, kn i j = true → al j = false
 rng : ∀ i j, kn i j = true → j < w.n
 ok : GOK w.n g2
 keep : ∀ x ∈ g, al x = true → x ∈ g2
 drop : ∀ x ∈ g2, x ∈ g ∧ w.al x = true
theorem shr_good {w : Wd} {g : List Nat} {l : List C} (hg : GOK w.n g) (hd : ∀ i j, w.kn i j = true → w.al j = false) (hk : ∀ i j, w.kn i j = true → j < w.n) (hc : checkS g.length l = 0) (ha : anyDead w.al g l = false)
  (hex : ∃ r : Nat, r < g.length ∧ buryW w.al g l (gAt g r) = true) (ht : w.ts.length ≠ 64) : ∃ al kn g2, ShrOK w g l al kn g2 := by
 have hok := agW_ok (fl := List.replicate g.length 0) hg (by simp) hd hc ha
 have hrg := agW_rng (al := w.al) (fl := List.replicate g.length 0) (l := l) hg (by simp) hk
 obtain ⟨r, hr, hr2⟩ := hex
 rcases hok.res with ⟨h1, _⟩ | ⟨_, h2, _, h4, h5⟩
 ·have := h1 r hr
  rw [hok.hal, hr2] at this
  cases this
 ·refine ⟨_, _, dropG g (agW w.al w.kn g (List.replicate g.length 0) l).rp.failed, ?_, hok.hal, hok.dead, hrg, dropG_ok hg ⟨r, hr, h4 r hr (by rw [hok.hal]; exact hr2)⟩, fun x hx hax => ?_, fun x hx => ?_⟩
  ·unfold shrF
   dsimp only
   rw [if_neg (fun h => h h2), if_neg ht]
  ·obtain ⟨q, hq, rfl⟩ := List.getElem_of_mem hx
   exact dropG_mem.2 ⟨q, hq, h4 q hq (by rw [gAt_get hq]; exact hax), gAt_get hq⟩
  ·obtain ⟨q, hq, hq2, rfl⟩ := dropG_mem.1 hx
   refine ⟨by rw [gAt_get hq]; exact List.getElem_mem hq, ?_⟩
   cases e : w.al (gAt g q) with
   | true => rfl
   | false => exact absurd (h5 q hq e) hq2
theorem gAt_range {n q : Nat} (h : q < n) : gAt (List.range n) (q : Int) = q := by
 rw [gAt_get (by simpa using h)]
 simp
theorem range_ok {n : Nat} (h : 1 ≤ n) : GOK n (List.range n) := ⟨fun x hx => List.mem_range.1 hx, List.pairwise_lt_range, by simp; omega⟩
def stepK (n x : Nat) (w : Wd) : Wd := (sendT (killW w ((x % n : Nat) : Int)).2 (tmAt (killW w ((x % n : Nat) : Int)).2.ts 0) ((x / 2 % n : Nat) : Int) ((x % n : Nat) : Int)).2
def kS (n : Nat) (ks : List Nat) : Nat → Wd
 | 0 => wd0 n
 | k + 1 => stepK n ((ks[k]?).getD 0) (kS n ks k)
structure KInv (n : Nat) (w : Wd) : Prop where
 n0 : w.n = n
 ts : w.ts = [⟨List.range n, fun _ => false⟩]
 dead : ∀ i j, w.kn i j = true → w.al j = false
 rng : ∀ i j, w.kn i j = true → j < n
 al : ∀ x, w.al x = true → x < n
theorem KInv.ok {n : Nat} {w : Wd} (h : KInv n w) (h1 : 1 ≤ n) (hn : n ≤ 64) : WOK w := by
 refine ⟨by rw [h.n0]; exact hn, fun c hc => ?_⟩
 rw [h.ts] at hc ⊢
 have : c = 0 := by simpa using hc
 subst this
 rw [h.n0]
 exact range_ok h1
theorem KInv.kill {n : Nat} {w : Wd} (h : KInv n w) (p : Int) : KInv n (killW w p).2 := by
 unfold killW
 split
 ·exact h
 ·split
  ·refine ⟨h.n0, h.ts, fun i j hk => ?_, h.rng, fun x hx => ?_⟩
   ·show setAl w.al p.toNat j = false
    unfold setAl
    split
    ·rfl
    ·exact h.dead i j hk
   ·have hx : setAl w.al p.toNat x = true := hx
    unfold setAl at hx
    split at hx
    ·cases hx
    ·exact h.al x hx
  ·exact h
theorem KInv.send {n : Nat} {w : Wd} (h : KInv n w) (a b : Nat) (hb : b < n) : KInv n (sendT w (tmAt w.ts 0) (a : Int) (b : Int)).2 := by
 have ht : (tmAt w.ts 0).g = List.range n := by rw [h.ts]; rfl
 unfold sendT
 split
 ·exact h
 ·split
  ·split
   ·exact h
   ·split
    ·exact h
    ·rename_i hd
     rw [ht, gAt_range hb] at hd ⊢
     refine ⟨h.n0, h.ts, fun i j hk => ?_, fun i j hk => ?_, h.al⟩
     ·have hk : setK w.kn (gAt (List.range n) (a : Int)) b i j = true := hk
      unfold setK at hk
      split at hk
      ·rename_i e
       rw [e.2]
       show w.al b = false
       simpa using hd
      ·exact h.dead i j hk
     ·have hk : setK w.kn (gAt (List.range n) (a : Int)) b i j = true := hk
      unfold setK at hk
      split at hk
      ·rename_i e
       omega
      ·exact h.rng i j hk
  ·exact h
theorem KInv.step {n : Nat} {w : Wd} (h : KInv n w) (h1 : 1 ≤ n) (x : Nat) : KInv n (stepK n x w) := (h.kill _).send _ _ (Nat.mod_lt _ (by omega))
theorem KInv.all {n : Nat} (h1 : 1 ≤ n) (ks : List Nat) : ∀ k, KInv n (kS n ks k)
 | 0 => ⟨rfl, rfl, fun i j h => (by cases h), fun i j h => (by cases h), fun x h => of_decide_eq_true h⟩
 | k + 1 => (KInv.all h1 ks k).step h1 _
theorem elems_mem2 {s : Nat → Bool} {n j : Nat} : (j : Int) ∈ elems n s ↔ j < n ∧ s j = true := by
 unfold elems
 rw [List.mem_map]
 constructor
 ·rintro ⟨i, hi, e⟩
  have : i = j := by omega
  subst this
  obtain ⟨h1, h2⟩ := List.mem_filter.1 hi
  exact ⟨List.mem_range.1 h1, h2⟩
 ·rintro ⟨h1, h2⟩
  exact ⟨j, List.mem_filter.2 ⟨List.mem_range.2 h1, h2⟩, rfl⟩
def boolV (s : Nat → Bool) (j : Nat) : AV := .sc (.bool (s j))
instance (s : Nat → Bool) (j : Nat) : PV (boolV s j) := ⟨.sc _⟩
theorem mem_row {s : Nat → Bool} {n : Nat} (hn : n ≤ 64) : row1 n (memS (elems 64 s)) = row1 n (boolV s) := row1_congr fun j hj => by
 unfold memS boolV
 have : decide ((j : Int) ∈ elems 64 s) = s j := by
  rw [Bool.eq_iff_iff, decide_eq_true_iff, elems_mem2]
  constructor
  ·exact fun h => h.2
  ·exact fun h => ⟨by omega, h⟩
 rw [this]
theorem check_none {n : Nat} (h1 : 1 ≤ n) (hn : n ≤ 64) : checkS (n : Int) [] = 0 := by
 unfold checkS
 rw [if_neg (by simp; omega)]
 rfl
end Go.Proofs.Ytbpmbofinoinmaa
