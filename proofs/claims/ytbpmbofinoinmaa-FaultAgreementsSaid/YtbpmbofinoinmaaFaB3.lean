import Derived.Test.YtbpmbofinoinmaaFaB2
import Derived.Test.YtbpmbofinoinmaaFaA8
import Derived.Test.YtbpmbofinoinmaaFaN4
import Derived.Test.YtbpmbofinoinmaaGAvR
namespace Go.Proofs.Ytbpmbofinoinmaa
open Go.Av Go.Proofs

/-! The document's process behind a round. -/

def nowV (n : Nat) (ps : List Pr) : AV := .list 5 (nowR n ps)
theorem pure_nowV (n : Nat) (ps : List Pr) : Pure (nowV n ps) := .list _ _ (pure_nowR n ps)
def z5 : List AV := [.sc (.slice none 0 0), .sc (.slice none 0 0), .sc (.bool false), .sc (.bool false), .sc (.int .i64 0)]
instance (l : List C) : PV (crV l) := ⟨pure_cr l⟩
instance (n : Nat) (s : Nat → Bool) : PV (boolsV n s) := ⟨pure_boolsV n s⟩
instance (n : Nat) (s : Nat → Bool) : PRs (boolsR n s) := ⟨pure_boolsR n s⟩
instance (n : Nat) (p : Pr) : PR (rRow n p) := ⟨pure_rRow n p⟩
instance (n : Nat) (ps : List Pr) : PRs (nowR n ps) := ⟨pure_nowR n ps⟩
instance (n : Nat) (ps : List Pr) : PV (nowV n ps) := ⟨pure_nowV n ps⟩
instance : PR z5 := ⟨allPure_cons (.sc _) (allPure_cons (.sc _) (allPure_cons (.sc _) (allPure_cons (.sc _) (allPure_cons (.sc _) allPure_nil))))⟩
instance : PR z4 := ⟨pure_z4⟩
instance (a b : Int) : PR (rp4 a b) := ⟨pure_rp4 a b⟩
instance (l : List Int) : PV (intsV l) := ⟨pure_ints l⟩
instance (l : List Int) : PRs (intsR l) := ⟨pure_intsR l⟩
instance (l : List (List Int)) : PV (knownV l) := ⟨pure_knownV l⟩
instance (p : Rp) : PR (rpRow p) := ⟨pure_rpRow p⟩
instance (fl : List Int) (L : List (List Int)) (ps : List Pr) (n i : Nat) : PRs (outR fl L ps n i) := ⟨pure_outR fl L ps n i⟩
instance (p : AgR) : PV (agreeV p) := ⟨pure_agreeV p⟩
instance (l : List Rp) : PV (rpsV l) := ⟨pure_rps l⟩
attribute [simp] boolsR_len outR_len

def heardK (l : List C) (r : Int) (ps : List Pr) (i k : Nat) : List (Nat × Msg) := ((List.range k).filter fun q => hearsA l r ps q i).map fun q => (q, mOf (prAt ps q))
theorem heardK_end {n : Nat} {l : List C} {r : Int} {ps : List Pr} {i : Nat} (hlen : ps.length = n) (hi : i < n) : heardK l r ps i n = hearA n l r ps i := by
  unfold heardK hearA X42.from'
  congr 1
  refine List.filter_congr fun q hq => ?_
  rw [hears_eq hlen (List.mem_range.1 hq) hi]
theorem heardK_succ (l : List C) (r : Int) (ps : List Pr) (i k : Nat) : heardK l r ps i (k + 1) = heardK l r ps i k ++ if hearsA l r ps k i = true then [(k, mOf (prAt ps k))] else [] := by
  unfold heardK
  rw [List.range_succ, List.filter_append, List.map_append]
  congr 1
  by_cases h : hearsA l r ps k i = true <;> simp [h]

theorem wAll_snoc : ∀ (G : List (Nat × Msg)) (w : Nat → Bool) (x : Nat × Msg), wAll w (G ++ [x]) = orS (wAll w G) x.2.w
  | [], _, _ => rfl
  | _ :: G, _, x => wAll_snoc G _ x
def finalI (G : List (Nat × Msg)) : Int := match G.find? fun x => x.2.fin with
  | some x => x.1
  | none => -1
theorem finalI_snoc (G : List (Nat × Msg)) (x : Nat × Msg) : finalI (G ++ [x]) = if finalI G < 0 then (if x.2.fin = true then (x.1 : Int) else -1) else finalI G := by
  unfold finalI
  rw [List.find?_append]
  cases G.find? fun x => x.2.fin with
  | none => by_cases h : x.2.fin = true <;> simp [h]
  | some y => simp; omega
theorem finalI_neg {G : List (Nat × Msg)} (h : finalI G < 0) : finalI G = -1 := by
  unfold finalI at h ⊢
  split
  · rename_i x e; rw [e] at h; simp at h; omega
  · rfl
theorem finalI_pos {G : List (Nat × Msg)} (h : 0 ≤ finalI G) : ∃ x ∈ G, G.find? (fun x => x.2.fin) = some x ∧ finalI G = x.1 := by
  unfold finalI at h ⊢
  cases e : G.find? fun x => x.2.fin with
  | none => rw [e] at h; simp at h
  | some x => exact ⟨x, List.mem_of_find?_eq_some e, rfl, rfl⟩
theorem takeGo_find (p : Pr) (r : Int) : ∀ (G : List (Nat × Msg)) (R w : Nat → Bool), takeGo p r R w G = match G.find? fun x => x.2.fin with
    | some x => { p with w := x.2.w, dec := r }
    | none => { p with w := wAll w G, dec := if eqB (RAll R G) p.h = true then r else p.dec, h := RAll R G }
  | [], R, w => by
    have : RAll R [] = R := by funext k; simp [RAll]
    rw [this]
    rfl
  | x :: G, R, w => by
    unfold takeGo
    by_cases h : x.2.fin = true
    · rw [if_pos h, List.find?_cons_of_pos (p := fun x : Nat × Msg => x.2.fin) h]
    · rw [if_neg h, List.find?_cons_of_neg (p := fun x : Nat × Msg => x.2.fin) h, takeGo_find p r G, RAll_cons]
      rfl

theorem reach_lives {l : List C} {i j : Nat} {r : Int} (h : reachB l i j r = true) : livesS l i (r - 1) = true := by
  unfold reachB at h
  unfold livesS
  split at h
  · rename_i e; rw [e]
  · rename_i c e
    rw [e]
    simp only [decide_eq_true_eq]
    split at h
    · omega
    · have := of_decide_eq_true h
      omega

theorem sameN_eqB {n : Nat} {a b : Nat → Bool} (hn : n ≤ 64) (ha : ∀ k, n ≤ k → a k = false) (hb : ∀ k, n ≤ k → b k = false) : sameN n a b = eqB a b := by
  unfold sameN eqB
  rw [Bool.eq_iff_iff, List.all_eq_true, beq_iff_eq]
  constructor
  · intro h
    refine List.map_congr_left fun k _ => ?_
    rcases Nat.lt_or_ge k n with hk | hk
    · have := h k (List.mem_range.2 hk)
      simpa using this
    · rw [ha k hk, hb k hk]
  · intro h k hk
    have := List.map_inj_left.1 h k (List.mem_range.2 (by have := List.mem_range.1 hk; omega))
    simpa using this

set_option maxHeartbeats 2000000 in
theorem heard_ok {n : Nat} {l : List C} {r : Int} {ps : List Pr} {i : Nat} {p : Pr} (hn : n ≤ 64) (hl : l.length ≤ 100000) (hr : 1 ≤ r ∧ r ≤ 1000) (hlen : ps.length = n) (hi : i < n) (hp : ps[i]? = some p) (hd : ¬ p.dec > 0) (hh : ∀ k, n ≤ k → p.h k = false) :
    PureRun Try.prog 49 [nowV n ps, crV l, .sc (.int .i64 i), .sc (.int .i64 r)] (.agg (rRow n (takeS p i r (hearA n l r ps i)))) := by
  refine PureRun.mkI cF49 (by simp [F49]) ?_
  have hrow : rowIx (nowR n ps) (i : Int) = some (rRow n p) := (rowIx_nat _ _).trans (nowR_get hp)
  have hnl : (nowR n ps).length = n := by simp [nowR, hlen]
  repeat (first | refine wr1 ?_ | refine wr2 ?_ | refine wr3 ?_ | refine wr4 ?_ | refine Reg.nil ?_ | refine wd1 ?_ | refine wd2 ?_ | refine wd3 ?_ | refine wd4 ?_ | refine AWP.seq ?_ | refine AWP.region ?_ | refine AWP.dk mixed ?_ | refine AWP.condT rfl ?_ | refine AWP.condF rfl ?_ | refine AWP.skip ?_ | refine AWP.ret ?_ | refine AWP.exit ?_ | refine AWP.block ?_ | refine wr5 ?_ | refine wr6 ?_ | refine wr7 ?_ | refine wr8 ?_ | refine wr9 ?_ | refine wr10 ?_ | refine wd5 ?_ | refine wd6 ?_ | refine wd7 ?_ | refine wd8 ?_ | refine wd10 ?_ )
  rw [hnl]
  refine Reg.o rfl (dstep_mk (n := n) rfl (by omega) (by omega)) ?_
  rw [show List.replicate n (zrow [(1, Value.bool false)]) = boolsR n (fun _ => false) from boolsR_rep n]
  have hg0 : (boolsR n fun _ => false)[i]? = some [.sc (.bool false)] := boolsR_get hi
  repeat (first | refine wr1 ?_ | refine wr2 ?_ | refine wr3 ?_ | refine wr4 ?_ | refine Reg.nil ?_ | refine wd1 ?_ | refine wd2 ?_ | refine wd3 ?_ | refine wd4 ?_ | refine AWP.seq ?_ | refine AWP.region ?_ | refine AWP.dk mixed ?_ | refine AWP.condT rfl ?_ | refine AWP.condF rfl ?_ | refine AWP.skip ?_ | refine AWP.ret ?_ | refine AWP.exit ?_ | refine AWP.block ?_ | refine wr5 ?_ | refine wr6 ?_ | refine wr7 ?_ | refine wr8 ?_ | refine wr9 ?_ | refine wr10 ?_ | refine wd5 ?_ | refine wd6 ?_ | refine wd7 ?_ | refine wd8 ?_ | refine wd10 ?_ )
  refine AWP.loop (fun k : Nat => [(0, nowV n ps), (1, crV l), (2, .sc (.int .i64 i)), (3, .sc (.int .i64 r)), (8, .ptr 0 0 0 0), (9, .ptr 1 0 0 0), (10, .hsl 2 0 0 n), (11, .sc (.int .i64 (finalI (heardK l r ps i k)))), (12, boolsV n (wAll p.w (heardK l r ps i k))), (13, .sc (.int .i64 k))])
    (fun k => [[.cells 5 [z5]], [.cells 5 [rRow n p]], [.cells 1 (boolsR n (RAll (addS (fun _ => false) i) (heardK l r ps i k)))]]) (fun k => k ≤ n) (fun k => n - k) 0 (Nat.zero_le _) ?_ ?_
  · (apply Sub.to [] [[_],[_],[_]]; all_goals (repeat' (first | exact ToAll.nil | exact famsTo.nil | exact famTo.nil | exact ToL.nil | exact ToR.nil | refine ToAll.cons ?_ ?_ | refine famsTo.cons ?_ ?_ | refine wt10 ?_ ?_ | exact To.undef _ | exact To.sc _ | exact To.hslL rfl rfl | exact To.ptrO rfl rfl rfl | exact To.mrefO rfl | exact To.nil rfl rfl rfl | exact wt1 | exact To.nilL | refine To.int ?_ | refine To.bool ?_ | refine To.hslL rfl ?_ | refine wt2 rfl ?_ ?_ ?_ | refine To.tupL ?_ | refine To.aggL ?_ | refine To.cptrL ?_ | refine wt3 ?_ | refine wt4 ?_ | refine To.cloL ?_ ?_ | exact wt5 | refine wt6 ?_ | refine ToB.one ?_ | exact wt7 | ((with_reducible apply ToL.consE); case e9 => rfl) | refine wt8 ?_ | refine ToL.cons ?_ ?_ | exact wt11 | refine wt9 ?_ ?_ | refine wt12 ?_ | (with_reducible rfl) | assumption)); all_goals (first | rfl | assumption | (simp; done) | skip))
    refine boolsR_set.trans (boolsR_congr fun j _ => ?_)
    unfold RAll addS
    by_cases e : j = i <;> simp [e, heardK]
  intro k hk
  have hk1 := wrap_succ (k := k) (by omega)
  repeat (first | refine wr1 ?_ | refine wr2 ?_ | refine wr3 ?_ | refine wr4 ?_ | refine Reg.nil ?_ | refine wd1 ?_ | refine wd2 ?_ | refine wd3 ?_ | refine wd4 ?_ | refine AWP.seq ?_ | refine AWP.region ?_ | refine AWP.dk mixed ?_ | refine AWP.condT rfl ?_ | refine AWP.condF rfl ?_ | refine AWP.skip ?_ | refine AWP.ret ?_ | refine AWP.exit ?_ | refine AWP.block ?_ | refine wr5 ?_ | refine wr6 ?_ | refine wr7 ?_ | refine wr8 ?_ | refine wr9 ?_ | refine wr10 ?_ | refine wd5 ?_ | refine wd6 ?_ | refine wd7 ?_ | refine wd8 ?_ | refine wd10 ?_ )
  refine AWP.condN (k < n) rfl (by simp [hnl]) (fun h => ?_) (fun h => ?_)
  · obtain ⟨q, hq⟩ : ∃ q, ps[k]? = some q := ⟨_, List.getElem?_eq_getElem (by omega)⟩
    have hrq : rowIx (nowR n ps) (k : Int) = some (rRow n q) := (rowIx_nat _ _).trans (nowR_get hq)
    have hat : prAt ps k = q := by unfold prAt; rw [hq]; rfl
    have hR : PureRun Try.prog 54 [crV l, .sc (.int .i64 k), .sc (.int .i64 i), .sc (.int .i64 r)] (.sc (.bool (reachB l k i r))) := PureRun.ofI (reach_ok l k i r hl (by omega) (by omega) (by omega))
    have hS := heardK_succ l r ps i k
    have hH : hearsA l r ps k i = (!q.done && (decide (i ≠ k) && reachB l k i r)) := by
      unfold hearsA
      rw [hat]
      cases e : reachB l k i r
      · simp
      · rw [reach_lives e]; simp
    repeat (first | refine wr1 ?_ | refine wr2 ?_ | refine wr3 ?_ | refine wr4 ?_ | refine Reg.nil ?_ | refine wd1 ?_ | refine wd2 ?_ | refine wd3 ?_ | refine wd4 ?_ | refine AWP.seq ?_ | refine AWP.region ?_ | refine AWP.dk mixed ?_ | refine AWP.condT rfl ?_ | refine AWP.condF rfl ?_ | refine AWP.skip ?_ | refine AWP.ret ?_ | refine AWP.exit ?_ | refine AWP.block ?_ | refine wr5 ?_ | refine wr6 ?_ | refine wr7 ?_ | refine wr8 ?_ | refine wr9 ?_ | refine wr10 ?_ | refine wd5 ?_ | refine wd6 ?_ | refine wd7 ?_ | refine wd8 ?_ | refine wd10 ?_ )
    refine Reg.gs rfl (fun g1 => ?_) (fun g1 => ?_)
    · have g1' : ¬ i = k := by simp at g1; omega
      repeat (first | refine wr1 ?_ | refine wr2 ?_ | refine wr3 ?_ | refine wr4 ?_ | refine Reg.nil ?_ | refine wd1 ?_ | refine wd2 ?_ | refine wd3 ?_ | refine wd4 ?_ | refine AWP.seq ?_ | refine AWP.region ?_ | refine AWP.dk mixed ?_ | refine AWP.condT rfl ?_ | refine AWP.condF rfl ?_ | refine AWP.skip ?_ | refine AWP.ret ?_ | refine AWP.exit ?_ | refine AWP.block ?_ | refine wr5 ?_ | refine wr6 ?_ | refine wr7 ?_ | refine wr8 ?_ | refine wr9 ?_ | refine wr10 ?_ | refine wd5 ?_ | refine wd6 ?_ | refine wd7 ?_ | refine wd8 ?_ | refine wd10 ?_ )
      refine Reg.gs rfl (fun g2 => ?_) (fun g2 => ?_)
      · repeat (first | refine wr1 ?_ | refine wr2 ?_ | refine wr3 ?_ | refine wr4 ?_ | refine Reg.nil ?_ | refine wd1 ?_ | refine wd2 ?_ | refine wd3 ?_ | refine wd4 ?_ | refine AWP.seq ?_ | refine AWP.region ?_ | refine AWP.dk mixed ?_ | refine AWP.condT rfl ?_ | refine AWP.condF rfl ?_ | refine AWP.skip ?_ | refine AWP.ret ?_ | refine AWP.exit ?_ | refine AWP.block ?_ | refine wr5 ?_ | refine wr6 ?_ | refine wr7 ?_ | refine wr8 ?_ | refine wr9 ?_ | refine wr10 ?_ | refine wd5 ?_ | refine wd6 ?_ | refine wd7 ?_ | refine wd8 ?_ | refine wd10 ?_ )
        refine AWP.cond rfl (fun g3 => ?_) (fun g3 => ?_)
        · have hf : hearsA l r ps k i = false := by rw [hH]; simp at g3; simp [g3]
          rw [hf, if_neg (by decide), List.append_nil] at hS
          repeat (first | refine wr1 ?_ | refine wr2 ?_ | refine wr3 ?_ | refine wr4 ?_ | refine Reg.nil ?_ | refine wd1 ?_ | refine wd2 ?_ | refine wd3 ?_ | refine wd4 ?_ | refine AWP.seq ?_ | refine AWP.region ?_ | refine AWP.dk mixed ?_ | refine AWP.condT rfl ?_ | refine AWP.condF rfl ?_ | refine AWP.skip ?_ | refine AWP.ret ?_ | refine AWP.exit ?_ | refine AWP.block ?_ | refine wr5 ?_ | refine wr6 ?_ | refine wr7 ?_ | refine wr8 ?_ | refine wr9 ?_ | refine wr10 ?_ | refine wd5 ?_ | refine wd6 ?_ | refine wd7 ?_ | refine wd8 ?_ | refine wd10 ?_ )
          refine ⟨k + 1, by omega, by omega, ?_⟩
          simp only [hS]
          (apply Sub.to [] [[_],[_],[_]]; all_goals (repeat' (first | exact ToAll.nil | exact famsTo.nil | exact famTo.nil | exact ToL.nil | exact ToR.nil | refine ToAll.cons ?_ ?_ | refine famsTo.cons ?_ ?_ | refine wt10 ?_ ?_ | exact To.undef _ | exact To.sc _ | exact To.hslL rfl rfl | exact To.ptrO rfl rfl rfl | exact To.mrefO rfl | exact To.nil rfl rfl rfl | exact wt1 | exact To.nilL | refine To.int ?_ | refine To.bool ?_ | refine To.hslL rfl ?_ | refine wt2 rfl ?_ ?_ ?_ | refine To.tupL ?_ | refine To.aggL ?_ | refine To.cptrL ?_ | refine wt3 ?_ | refine wt4 ?_ | refine To.cloL ?_ ?_ | exact wt5 | refine wt6 ?_ | refine ToB.one ?_ | exact wt7 | ((with_reducible apply ToL.consE); case e9 => rfl) | refine wt8 ?_ | refine ToL.cons ?_ ?_ | exact wt11 | refine wt9 ?_ ?_ | refine wt12 ?_ | (with_reducible rfl) | assumption)); all_goals (first | rfl | assumption | (simp; done) | skip))
        · have ht : hearsA l r ps k i = true := by rw [hH]; simp at g2 g3; simp [g2, g3, g1']
          rw [ht, if_pos rfl, hat] at hS
          have hgk : (boolsR n (RAll (addS (fun _ => false) i) (heardK l r ps i k)))[k]? = some [.sc (.bool (RAll (addS (fun _ => false) i) (heardK l r ps i k) k))] := boolsR_get h
          have hU : PureRun Try.prog 72 [boolsV n (wAll p.w (heardK l r ps i k)), boolsV n q.w] (boolsV n (orS (wAll p.w (heardK l r ps i k)) q.w)) := PureRun.ofI (union_ok n (by omega) _ _)
          have hF := finalI_snoc (heardK l r ps i k) (k, mOf q)
          have hW := wAll_snoc (heardK l r ps i k) p.w (k, mOf q)
          have hRs : RAll (addS (fun _ => false) i) (heardK l r ps i k ++ [(k, mOf q)]) = fun j => if j = k then true else RAll (addS (fun _ => false) i) (heardK l r ps i k) j := by
            funext j
            unfold RAll
            by_cases e : j = k
            · subst e; simp
            · have e' : ¬ k = j := fun h => e h.symm
              simp [e, e']
          repeat (first | refine wr1 ?_ | refine wr2 ?_ | refine wr3 ?_ | refine wr4 ?_ | refine Reg.nil ?_ | refine wd1 ?_ | refine wd2 ?_ | refine wd3 ?_ | refine wd4 ?_ | refine AWP.seq ?_ | refine AWP.region ?_ | refine AWP.dk mixed ?_ | refine AWP.condT rfl ?_ | refine AWP.condF rfl ?_ | refine AWP.skip ?_ | refine AWP.ret ?_ | refine AWP.exit ?_ | refine AWP.block ?_ | refine wr5 ?_ | refine wr6 ?_ | refine wr7 ?_ | refine wr8 ?_ | refine wr9 ?_ | refine wr10 ?_ | refine wd5 ?_ | refine wd6 ?_ | refine wd7 ?_ | refine wd8 ?_ | refine wd10 ?_ )
          refine Reg.gs rfl (fun g4 => ?_) (fun g4 => ?_)
          · have g4' : (mOf q).fin = true := g4
            repeat (first | refine wr1 ?_ | refine wr2 ?_ | refine wr3 ?_ | refine wr4 ?_ | refine Reg.nil ?_ | refine wd1 ?_ | refine wd2 ?_ | refine wd3 ?_ | refine wd4 ?_ | refine AWP.seq ?_ | refine AWP.region ?_ | refine AWP.dk mixed ?_ | refine AWP.condT rfl ?_ | refine AWP.condF rfl ?_ | refine AWP.skip ?_ | refine AWP.ret ?_ | refine AWP.exit ?_ | refine AWP.block ?_ | refine wr5 ?_ | refine wr6 ?_ | refine wr7 ?_ | refine wr8 ?_ | refine wr9 ?_ | refine wr10 ?_ | refine wd5 ?_ | refine wd6 ?_ | refine wd7 ?_ | refine wd8 ?_ | refine wd10 ?_ )
            refine AWP.cond rfl (fun g5 => ?_) (fun g5 => ?_)
            · have hF' : finalI (heardK l r ps i k ++ [(k, mOf q)]) = k := by rw [hF, if_pos (by simpa using g5), if_pos g4']
              repeat (first | refine wr1 ?_ | refine wr2 ?_ | refine wr3 ?_ | refine wr4 ?_ | refine Reg.nil ?_ | refine wd1 ?_ | refine wd2 ?_ | refine wd3 ?_ | refine wd4 ?_ | refine AWP.seq ?_ | refine AWP.region ?_ | refine AWP.dk mixed ?_ | refine AWP.condT rfl ?_ | refine AWP.condF rfl ?_ | refine AWP.skip ?_ | refine AWP.ret ?_ | refine AWP.exit ?_ | refine AWP.block ?_ | refine wr5 ?_ | refine wr6 ?_ | refine wr7 ?_ | refine wr8 ?_ | refine wr9 ?_ | refine wr10 ?_ | refine wd5 ?_ | refine wd6 ?_ | refine wd7 ?_ | refine wd8 ?_ | refine wd10 ?_ )
              refine ⟨k + 1, by omega, by omega, ?_⟩
              simp only [hS, hW, hRs, hF']
              (apply Sub.to [] [[_],[_],[_]]; all_goals (repeat' (first | exact ToAll.nil | exact famsTo.nil | exact famTo.nil | exact ToL.nil | exact ToR.nil | refine ToAll.cons ?_ ?_ | refine famsTo.cons ?_ ?_ | refine wt10 ?_ ?_ | exact To.undef _ | exact To.sc _ | exact To.hslL rfl rfl | exact To.ptrO rfl rfl rfl | exact To.mrefO rfl | exact To.nil rfl rfl rfl | exact wt1 | exact To.nilL | refine To.int ?_ | refine To.bool ?_ | refine To.hslL rfl ?_ | refine wt2 rfl ?_ ?_ ?_ | refine To.tupL ?_ | refine To.aggL ?_ | refine To.cptrL ?_ | refine wt3 ?_ | refine wt4 ?_ | refine To.cloL ?_ ?_ | exact wt5 | refine wt6 ?_ | refine ToB.one ?_ | exact wt7 | ((with_reducible apply ToL.consE); case e9 => rfl) | refine wt8 ?_ | refine ToL.cons ?_ ?_ | exact wt11 | refine wt9 ?_ ?_ | refine wt12 ?_ | (with_reducible rfl) | assumption)); all_goals (first | rfl | assumption | (simp; done) | skip))
              exact boolsR_set
            · have hF' : finalI (heardK l r ps i k ++ [(k, mOf q)]) = finalI (heardK l r ps i k) := by rw [hF, if_neg (by simpa using g5)]
              repeat (first | refine wr1 ?_ | refine wr2 ?_ | refine wr3 ?_ | refine wr4 ?_ | refine Reg.nil ?_ | refine wd1 ?_ | refine wd2 ?_ | refine wd3 ?_ | refine wd4 ?_ | refine AWP.seq ?_ | refine AWP.region ?_ | refine AWP.dk mixed ?_ | refine AWP.condT rfl ?_ | refine AWP.condF rfl ?_ | refine AWP.skip ?_ | refine AWP.ret ?_ | refine AWP.exit ?_ | refine AWP.block ?_ | refine wr5 ?_ | refine wr6 ?_ | refine wr7 ?_ | refine wr8 ?_ | refine wr9 ?_ | refine wr10 ?_ | refine wd5 ?_ | refine wd6 ?_ | refine wd7 ?_ | refine wd8 ?_ | refine wd10 ?_ )
              refine ⟨k + 1, by omega, by omega, ?_⟩
              simp only [hS, hW, hRs, hF']
              (apply Sub.to [] [[_],[_],[_]]; all_goals (repeat' (first | exact ToAll.nil | exact famsTo.nil | exact famTo.nil | exact ToL.nil | exact ToR.nil | refine ToAll.cons ?_ ?_ | refine famsTo.cons ?_ ?_ | refine wt10 ?_ ?_ | exact To.undef _ | exact To.sc _ | exact To.hslL rfl rfl | exact To.ptrO rfl rfl rfl | exact To.mrefO rfl | exact To.nil rfl rfl rfl | exact wt1 | exact To.nilL | refine To.int ?_ | refine To.bool ?_ | refine To.hslL rfl ?_ | refine wt2 rfl ?_ ?_ ?_ | refine To.tupL ?_ | refine To.aggL ?_ | refine To.cptrL ?_ | refine wt3 ?_ | refine wt4 ?_ | refine To.cloL ?_ ?_ | exact wt5 | refine wt6 ?_ | refine ToB.one ?_ | exact wt7 | ((with_reducible apply ToL.consE); case e9 => rfl) | refine wt8 ?_ | refine ToL.cons ?_ ?_ | exact wt11 | refine wt9 ?_ ?_ | refine wt12 ?_ | (with_reducible rfl) | assumption)); all_goals (first | rfl | assumption | (simp; done) | skip))
              exact boolsR_set
          · have g4' : (mOf q).fin = false := g4
            have hF' : finalI (heardK l r ps i k ++ [(k, mOf q)]) = finalI (heardK l r ps i k) := by
              rw [hF]
              split
              · rename_i e
                rw [if_neg (by rw [g4']; decide)]
                have := finalI_neg e
                omega
              · rfl
            repeat (first | refine wr1 ?_ | refine wr2 ?_ | refine wr3 ?_ | refine wr4 ?_ | refine Reg.nil ?_ | refine wd1 ?_ | refine wd2 ?_ | refine wd3 ?_ | refine wd4 ?_ | refine AWP.seq ?_ | refine AWP.region ?_ | refine AWP.dk mixed ?_ | refine AWP.condT rfl ?_ | refine AWP.condF rfl ?_ | refine AWP.skip ?_ | refine AWP.ret ?_ | refine AWP.exit ?_ | refine AWP.block ?_ | refine wr5 ?_ | refine wr6 ?_ | refine wr7 ?_ | refine wr8 ?_ | refine wr9 ?_ | refine wr10 ?_ | refine wd5 ?_ | refine wd6 ?_ | refine wd7 ?_ | refine wd8 ?_ | refine wd10 ?_ )
            refine ⟨k + 1, by omega, by omega, ?_⟩
            simp only [hS, hW, hRs, hF']
            (apply Sub.to [] [[_],[_],[_]]; all_goals (repeat' (first | exact ToAll.nil | exact famsTo.nil | exact famTo.nil | exact ToL.nil | exact ToR.nil | refine ToAll.cons ?_ ?_ | refine famsTo.cons ?_ ?_ | refine wt10 ?_ ?_ | exact To.undef _ | exact To.sc _ | exact To.hslL rfl rfl | exact To.ptrO rfl rfl rfl | exact To.mrefO rfl | exact To.nil rfl rfl rfl | exact wt1 | exact To.nilL | refine To.int ?_ | refine To.bool ?_ | refine To.hslL rfl ?_ | refine wt2 rfl ?_ ?_ ?_ | refine To.tupL ?_ | refine To.aggL ?_ | refine To.cptrL ?_ | refine wt3 ?_ | refine wt4 ?_ | refine To.cloL ?_ ?_ | exact wt5 | refine wt6 ?_ | refine ToB.one ?_ | exact wt7 | ((with_reducible apply ToL.consE); case e9 => rfl) | refine wt8 ?_ | refine ToL.cons ?_ ?_ | exact wt11 | refine wt9 ?_ ?_ | refine wt12 ?_ | (with_reducible rfl) | assumption)); all_goals (first | rfl | assumption | (simp; done) | skip))
            exact boolsR_set
      · have hf : hearsA l r ps k i = false := by rw [hH]; simp at g2; simp [g2]
        rw [hf, if_neg (by decide), List.append_nil] at hS
        repeat (first | refine wr1 ?_ | refine wr2 ?_ | refine wr3 ?_ | refine wr4 ?_ | refine Reg.nil ?_ | refine wd1 ?_ | refine wd2 ?_ | refine wd3 ?_ | refine wd4 ?_ | refine AWP.seq ?_ | refine AWP.region ?_ | refine AWP.dk mixed ?_ | refine AWP.condT rfl ?_ | refine AWP.condF rfl ?_ | refine AWP.skip ?_ | refine AWP.ret ?_ | refine AWP.exit ?_ | refine AWP.block ?_ | refine wr5 ?_ | refine wr6 ?_ | refine wr7 ?_ | refine wr8 ?_ | refine wr9 ?_ | refine wr10 ?_ | refine wd5 ?_ | refine wd6 ?_ | refine wd7 ?_ | refine wd8 ?_ | refine wd10 ?_ )
        refine ⟨k + 1, by omega, by omega, ?_⟩
        simp only [hS]
        (apply Sub.to [] [[_],[_],[_]]; all_goals (repeat' (first | exact ToAll.nil | exact famsTo.nil | exact famTo.nil | exact ToL.nil | exact ToR.nil | refine ToAll.cons ?_ ?_ | refine famsTo.cons ?_ ?_ | refine wt10 ?_ ?_ | exact To.undef _ | exact To.sc _ | exact To.hslL rfl rfl | exact To.ptrO rfl rfl rfl | exact To.mrefO rfl | exact To.nil rfl rfl rfl | exact wt1 | exact To.nilL | refine To.int ?_ | refine To.bool ?_ | refine To.hslL rfl ?_ | refine wt2 rfl ?_ ?_ ?_ | refine To.tupL ?_ | refine To.aggL ?_ | refine To.cptrL ?_ | refine wt3 ?_ | refine wt4 ?_ | refine To.cloL ?_ ?_ | exact wt5 | refine wt6 ?_ | refine ToB.one ?_ | exact wt7 | ((with_reducible apply ToL.consE); case e9 => rfl) | refine wt8 ?_ | refine ToL.cons ?_ ?_ | exact wt11 | refine wt9 ?_ ?_ | refine wt12 ?_ | (with_reducible rfl) | assumption)); all_goals (first | rfl | assumption | (simp; done) | skip))
    · have hf : hearsA l r ps k i = false := by rw [hH]; simp at g1; simp; intro _ h; omega
      rw [hf, if_neg (by decide), List.append_nil] at hS
      repeat (first | refine wr1 ?_ | refine wr2 ?_ | refine wr3 ?_ | refine wr4 ?_ | refine Reg.nil ?_ | refine wd1 ?_ | refine wd2 ?_ | refine wd3 ?_ | refine wd4 ?_ | refine AWP.seq ?_ | refine AWP.region ?_ | refine AWP.dk mixed ?_ | refine AWP.condT rfl ?_ | refine AWP.condF rfl ?_ | refine AWP.skip ?_ | refine AWP.ret ?_ | refine AWP.exit ?_ | refine AWP.block ?_ | refine wr5 ?_ | refine wr6 ?_ | refine wr7 ?_ | refine wr8 ?_ | refine wr9 ?_ | refine wr10 ?_ | refine wd5 ?_ | refine wd6 ?_ | refine wd7 ?_ | refine wd8 ?_ | refine wd10 ?_ )
      refine ⟨k + 1, by omega, by omega, ?_⟩
      simp only [hS]
      (apply Sub.to [] [[_],[_],[_]]; all_goals (repeat' (first | exact ToAll.nil | exact famsTo.nil | exact famTo.nil | exact ToL.nil | exact ToR.nil | refine ToAll.cons ?_ ?_ | refine famsTo.cons ?_ ?_ | refine wt10 ?_ ?_ | exact To.undef _ | exact To.sc _ | exact To.hslL rfl rfl | exact To.ptrO rfl rfl rfl | exact To.mrefO rfl | exact To.nil rfl rfl rfl | exact wt1 | exact To.nilL | refine To.int ?_ | refine To.bool ?_ | refine To.hslL rfl ?_ | refine wt2 rfl ?_ ?_ ?_ | refine To.tupL ?_ | refine To.aggL ?_ | refine To.cptrL ?_ | refine wt3 ?_ | refine wt4 ?_ | refine To.cloL ?_ ?_ | exact wt5 | refine wt6 ?_ | refine ToB.one ?_ | exact wt7 | ((with_reducible apply ToL.consE); case e9 => rfl) | refine wt8 ?_ | refine ToL.cons ?_ ?_ | exact wt11 | refine wt9 ?_ ?_ | refine wt12 ?_ | (with_reducible rfl) | assumption)); all_goals (first | rfl | assumption | (simp; done) | skip))
  · have hkn : k = n := by omega
    subst hkn
    have hG := heardK_end (l := l) (r := r) hlen hi
    have hmem : ∀ x ∈ hearA k l r ps i, x.1 < k ∧ x.2 = mOf (prAt ps x.1) := by
      intro x hx
      obtain ⟨q, h1, _, rfl⟩ := (mem_hear hlen hi).1 hx
      exact ⟨h1, rfl⟩
    have hT : takeS p i r (hearA k l r ps i) = takeGo p r (addS (fun _ => false) i) p.w (hearA k l r ps i) := if_neg hd
    rw [takeGo_find] at hT
    simp only [hG]
    obtain ⟨G, hGd⟩ : ∃ G, hearA k l r ps i = G := ⟨_, rfl⟩
    rw [hGd] at hmem hT
    rw [hGd]
    repeat (first | refine wr1 ?_ | refine wr2 ?_ | refine wr3 ?_ | refine wr4 ?_ | refine Reg.nil ?_ | refine wd1 ?_ | refine wd2 ?_ | refine wd3 ?_ | refine wd4 ?_ | refine AWP.seq ?_ | refine AWP.region ?_ | refine AWP.dk mixed ?_ | refine AWP.condT rfl ?_ | refine AWP.condF rfl ?_ | refine AWP.skip ?_ | refine AWP.ret ?_ | refine AWP.exit ?_ | refine AWP.block ?_ | refine wr5 ?_ | refine wr6 ?_ | refine wr7 ?_ | refine wr8 ?_ | refine wr9 ?_ | refine wr10 ?_ | refine wd5 ?_ | refine wd6 ?_ | refine wd7 ?_ | refine wd8 ?_ | refine wd10 ?_ )
    refine AWP.condN (0 ≤ finalI G) rfl (by simp) (fun h2 => ?_) (fun h2 => ?_)
    · obtain ⟨x, hx, hf, he⟩ := finalI_pos h2
      obtain ⟨h3, h4⟩ := hmem x hx
      obtain ⟨q, hq⟩ : ∃ q, ps[x.1]? = some q := ⟨_, List.getElem?_eq_getElem (by omega)⟩
      have hat : prAt ps x.1 = q := by unfold prAt; rw [hq]; rfl
      have hrq : rowIx (nowR k ps) (finalI G) = some (rRow k q) := by rw [he]; exact (rowIx_nat _ _).trans (nowR_get hq)
      have eX : rRow k (takeS p i r G) = [boolsV k q.w, boolsV k p.h, .sc (.bool true), .sc (.bool p.done), .sc (.int .i64 r)] := by
        rw [hT, hf]
        show rRow k { p with w := x.2.w, dec := r } = _
        rw [h4, hat]
        unfold rRow
        rw [decide_eq_true (show r > 0 by omega)]
        rfl
      rw [eX]
      repeat (first | refine wr1 ?_ | refine wr2 ?_ | refine wr3 ?_ | refine wr4 ?_ | refine Reg.nil ?_ | refine wd1 ?_ | refine wd2 ?_ | refine wd3 ?_ | refine wd4 ?_ | refine AWP.seq ?_ | refine AWP.region ?_ | refine AWP.dk mixed ?_ | refine AWP.condT rfl ?_ | refine AWP.condF rfl ?_ | refine AWP.skip ?_ | refine AWP.ret ?_ | refine AWP.exit ?_ | refine AWP.block ?_ | refine wr5 ?_ | refine wr6 ?_ | refine wr7 ?_ | refine wr8 ?_ | refine wr9 ?_ | refine wr10 ?_ | refine wd5 ?_ | refine wd6 ?_ | refine wd7 ?_ | refine wd8 ?_ | refine wd10 ?_ )
      (refine EndP.mk (.inr rfl) rfl rfl ?_; all_goals (repeat' (first | exact ToAll.nil | exact famsTo.nil | exact famTo.nil | exact ToL.nil | exact ToR.nil | refine ToAll.cons ?_ ?_ | refine famsTo.cons ?_ ?_ | refine wt10 ?_ ?_ | exact To.undef _ | exact To.sc _ | exact To.hslL rfl rfl | exact To.ptrO rfl rfl rfl | exact To.mrefO rfl | exact To.nil rfl rfl rfl | exact wt1 | exact To.nilL | refine To.int ?_ | refine To.bool ?_ | refine To.hslL rfl ?_ | refine wt2 rfl ?_ ?_ ?_ | refine To.tupL ?_ | refine To.aggL ?_ | refine To.cptrL ?_ | refine wt3 ?_ | refine wt4 ?_ | refine To.cloL ?_ ?_ | exact wt5 | refine wt6 ?_ | refine ToB.one ?_ | exact wt7 | ((with_reducible apply ToL.consE); case e9 => rfl) | refine wt8 ?_ | refine ToL.cons ?_ ?_ | exact wt11 | refine wt9 ?_ ?_ | refine wt12 ?_ | (with_reducible rfl) | assumption)); all_goals (first | rfl | assumption | (simp; done) | skip))
    · have hnone : G.find? (fun x => x.2.fin) = none := by
        cases e : G.find? fun x => x.2.fin with
        | none => rfl
        | some x => unfold finalI at h2; rw [e] at h2; simp at h2
      have hS : PureRun Try.prog 73 [boolsV k (RAll (addS (fun _ => false) i) G), boolsV k p.h] (.sc (.bool (sameN k (RAll (addS (fun _ => false) i) G) p.h))) := PureRun.ofI (same_ok k (by omega) _ _)
      have hE : sameN k (RAll (addS (fun _ => false) i) G) p.h = eqB (RAll (addS (fun _ => false) i) G) p.h := by
        refine sameN_eqB hn (fun j hj => ?_) hh
        unfold RAll addS
        have e1 : ¬ j = i := by omega
        rw [if_neg e1, Bool.false_or, List.any_eq_false]
        intro x hx
        have := (hmem x hx).1
        simp
        omega
      rw [hE] at hS
      rw [hnone] at hT
      repeat (first | refine wr1 ?_ | refine wr2 ?_ | refine wr3 ?_ | refine wr4 ?_ | refine Reg.nil ?_ | refine wd1 ?_ | refine wd2 ?_ | refine wd3 ?_ | refine wd4 ?_ | refine AWP.seq ?_ | refine AWP.region ?_ | refine AWP.dk mixed ?_ | refine AWP.condT rfl ?_ | refine AWP.condF rfl ?_ | refine AWP.skip ?_ | refine AWP.ret ?_ | refine AWP.exit ?_ | refine AWP.block ?_ | refine wr5 ?_ | refine wr6 ?_ | refine wr7 ?_ | refine wr8 ?_ | refine wr9 ?_ | refine wr10 ?_ | refine wd5 ?_ | refine wd6 ?_ | refine wd7 ?_ | refine wd8 ?_ | refine wd10 ?_ )
      (refine Reg.pv (by first | exact Nat.zero_le _ | exact Nat.le_refl _ | (simp; done) | (simp; omega)) rfl hS (.sc _) ?vw9 ?_; case vw9 => (all_goals (repeat' (first | exact ToAll.nil | exact famsTo.nil | exact famTo.nil | exact ToL.nil | exact ToR.nil | refine ToAll.cons ?_ ?_ | refine famsTo.cons ?_ ?_ | refine wt10 ?_ ?_ | exact To.undef _ | exact To.sc _ | exact To.hslL rfl rfl | exact To.ptrO rfl rfl rfl | exact To.mrefO rfl | exact To.nil rfl rfl rfl | exact wt1 | exact To.nilL | refine To.int ?_ | refine To.bool ?_ | refine To.hslL rfl ?_ | refine wt2 rfl ?_ ?_ ?_ | refine To.tupL ?_ | refine To.aggL ?_ | refine To.cptrL ?_ | refine wt3 ?_ | refine wt4 ?_ | refine To.cloL ?_ ?_ | exact wt5 | refine wt6 ?_ | refine ToB.one ?_ | exact wt7 | ((with_reducible apply ToL.consE); case e9 => rfl) | refine wt8 ?_ | refine ToL.cons ?_ ?_ | exact wt11 | refine wt9 ?_ ?_ | refine wt12 ?_ | (with_reducible rfl) | assumption)); all_goals (first | rfl | assumption | (simp; done))))
      repeat (first | refine wr1 ?_ | refine wr2 ?_ | refine wr3 ?_ | refine wr4 ?_ | refine Reg.nil ?_ | refine wd1 ?_ | refine wd2 ?_ | refine wd3 ?_ | refine wd4 ?_ | refine AWP.seq ?_ | refine AWP.region ?_ | refine AWP.dk mixed ?_ | refine AWP.condT rfl ?_ | refine AWP.condF rfl ?_ | refine AWP.skip ?_ | refine AWP.ret ?_ | refine AWP.exit ?_ | refine AWP.block ?_ | refine wr5 ?_ | refine wr6 ?_ | refine wr7 ?_ | refine wr8 ?_ | refine wr9 ?_ | refine wr10 ?_ | refine wd5 ?_ | refine wd6 ?_ | refine wd7 ?_ | refine wd8 ?_ | refine wd10 ?_ )
      refine AWP.cond rfl (fun h3 => ?_) (fun h3 => ?_)
      · have eX : rRow k (takeS p i r G) = [boolsV k (wAll p.w G), boolsV k (RAll (addS (fun _ => false) i) G), .sc (.bool true), .sc (.bool p.done), .sc (.int .i64 r)] := by
          rw [hT]
          simp only [h3, if_true]
          unfold rRow
          rw [decide_eq_true (show r > 0 by omega)]
        rw [eX]
        repeat (first | refine wr1 ?_ | refine wr2 ?_ | refine wr3 ?_ | refine wr4 ?_ | refine Reg.nil ?_ | refine wd1 ?_ | refine wd2 ?_ | refine wd3 ?_ | refine wd4 ?_ | refine AWP.seq ?_ | refine AWP.region ?_ | refine AWP.dk mixed ?_ | refine AWP.condT rfl ?_ | refine AWP.condF rfl ?_ | refine AWP.skip ?_ | refine AWP.ret ?_ | refine AWP.exit ?_ | refine AWP.block ?_ | refine wr5 ?_ | refine wr6 ?_ | refine wr7 ?_ | refine wr8 ?_ | refine wr9 ?_ | refine wr10 ?_ | refine wd5 ?_ | refine wd6 ?_ | refine wd7 ?_ | refine wd8 ?_ | refine wd10 ?_ )
        (refine EndP.mk (.inr rfl) rfl rfl ?_; all_goals (repeat' (first | exact ToAll.nil | exact famsTo.nil | exact famTo.nil | exact ToL.nil | exact ToR.nil | refine ToAll.cons ?_ ?_ | refine famsTo.cons ?_ ?_ | refine wt10 ?_ ?_ | exact To.undef _ | exact To.sc _ | exact To.hslL rfl rfl | exact To.ptrO rfl rfl rfl | exact To.mrefO rfl | exact To.nil rfl rfl rfl | exact wt1 | exact To.nilL | refine To.int ?_ | refine To.bool ?_ | refine To.hslL rfl ?_ | refine wt2 rfl ?_ ?_ ?_ | refine To.tupL ?_ | refine To.aggL ?_ | refine To.cptrL ?_ | refine wt3 ?_ | refine wt4 ?_ | refine To.cloL ?_ ?_ | exact wt5 | refine wt6 ?_ | refine ToB.one ?_ | exact wt7 | ((with_reducible apply ToL.consE); case e9 => rfl) | refine wt8 ?_ | refine ToL.cons ?_ ?_ | exact wt11 | refine wt9 ?_ ?_ | refine wt12 ?_ | (with_reducible rfl) | assumption)); all_goals (first | rfl | assumption | (simp; done) | skip))
      · have eX : rRow k (takeS p i r G) = [boolsV k (wAll p.w G), boolsV k (RAll (addS (fun _ => false) i) G), .sc (.bool (decide (p.dec > 0))), .sc (.bool p.done), .sc (.int .i64 p.dec)] := by
          rw [hT]
          simp only [h3]
          rfl
        rw [eX]
        repeat (first | refine wr1 ?_ | refine wr2 ?_ | refine wr3 ?_ | refine wr4 ?_ | refine Reg.nil ?_ | refine wd1 ?_ | refine wd2 ?_ | refine wd3 ?_ | refine wd4 ?_ | refine AWP.seq ?_ | refine AWP.region ?_ | refine AWP.dk mixed ?_ | refine AWP.condT rfl ?_ | refine AWP.condF rfl ?_ | refine AWP.skip ?_ | refine AWP.ret ?_ | refine AWP.exit ?_ | refine AWP.block ?_ | refine wr5 ?_ | refine wr6 ?_ | refine wr7 ?_ | refine wr8 ?_ | refine wr9 ?_ | refine wr10 ?_ | refine wd5 ?_ | refine wd6 ?_ | refine wd7 ?_ | refine wd8 ?_ | refine wd10 ?_ )
        (refine EndP.mk (.inr rfl) rfl rfl ?_; all_goals (repeat' (first | exact ToAll.nil | exact famsTo.nil | exact famTo.nil | exact ToL.nil | exact ToR.nil | refine ToAll.cons ?_ ?_ | refine famsTo.cons ?_ ?_ | refine wt10 ?_ ?_ | exact To.undef _ | exact To.sc _ | exact To.hslL rfl rfl | exact To.ptrO rfl rfl rfl | exact To.mrefO rfl | exact To.nil rfl rfl rfl | exact wt1 | exact To.nilL | refine To.int ?_ | refine To.bool ?_ | refine To.hslL rfl ?_ | refine wt2 rfl ?_ ?_ ?_ | refine To.tupL ?_ | refine To.aggL ?_ | refine To.cptrL ?_ | refine wt3 ?_ | refine wt4 ?_ | refine To.cloL ?_ ?_ | exact wt5 | refine wt6 ?_ | refine ToB.one ?_ | exact wt7 | ((with_reducible apply ToL.consE); case e9 => rfl) | refine wt8 ?_ | refine ToL.cons ?_ ?_ | exact wt11 | refine wt9 ?_ ?_ | refine wt12 ?_ | (with_reducible rfl) | assumption)); all_goals (first | rfl | assumption | (simp; done) | skip))
end Go.Proofs.Ytbpmbofinoinmaa
