import Derived.Test.YtbpmbofinoinmaaGFaW11
namespace Go.Proofs.Ytbpmbofinoinmaa
open Go.Av Go.Proofs
set_option maxRecDepth 20000
def rvK (rv : Nat → Bool) (out : List Int) (k r : Nat) : Bool := rv r || (decide (r < k) && decide ((out[r]?).getD 0 ≥ 0))
def revF (w : Wd) (c frm : Nat) (l : List C) : Int × Wd :=
 let t := tmAt w.ts c
 if w.al (gAt t.g frm) = true then (if (crashW w.al t.g l).2 ≠ 0 then ((crashW w.al t.g l).2, w) else (0, { w with al := buryW w.al t.g l, ts := w.ts.set c ⟨t.g, rvK t.rv (newsR t.g.length frm (crashW w.al t.g l).1).1 t.g.length⟩ })) else (6, w)
theorem tmAt_set {ts : List Tm} {t : Tm} {c j : Nat} (hc : c < ts.length) : tmAt (ts.set c t) j = if j = c then t else tmAt ts j := by
 unfold tmAt
 rw [List.getElem?_set]
 by_cases h : c = j
 ·subst h
  rw [if_pos rfl, if_pos hc, if_pos rfl]
  rfl
 ·rw [if_neg h, if_neg fun e => h e.symm]
theorem tmE_set {ts : List Tm} {t : Tm} {c : Nat} (hc : c < ts.length) (hg : t.g = (tmAt ts c).g) : tmE (ts.set c t) = tmE ts := by
 unfold tmE
 rw [List.length_set]
 refine List.map_congr_left fun i _ => ?_
 rw [tmAt_set hc]
 split
 ·rename_i e
  subst e
  unfold tmV
  rw [hg]
 ·rfl
theorem rvF_set {ts : List Tm} {t : Tm} {c : Nat} (hc : c < ts.length) : (rvF ts).set c (.cells 1 (rvR t)) = rvF (ts.set c t) := by
 unfold rvF
 rw [fam_set, List.length_set]
 refine fam_congr fun i _ => ?_
 rw [tmAt_set hc]
 split <;> rfl
theorem rvR_set {g : List Nat} {rv : Nat → Bool} {k : Nat} {b : Bool} : (rvR ⟨g, rv⟩).set k [.sc (.bool b)] = rvR ⟨g, fun r => if r = k then b else rv r⟩ := by
 unfold rvR
 rw [row1_set]
 refine row1_congr fun j _ => ?_
 dsimp only
 split <;> rfl
theorem rvK_succ {rv : Nat → Bool} {out : List Int} {k : Nat} : (fun r => if r = k then (rvK rv out k k || decide ((out[k]?).getD 0 ≥ 0)) else rvK rv out k r) = rvK rv out (k + 1) := by
 funext r
 unfold rvK
 split
 ·rename_i e
  subst e
  simp
 ·rename_i e
  have : decide (r < k + 1) = decide (r < k) := by
   rw [Bool.eq_iff_iff, decide_eq_true_iff, decide_eq_true_iff]
   omega
  rw [this]
theorem set_self {ts : List Tm} {c : Nat} (hc : c < ts.length) {out : List Int} : ts.set c ⟨(tmAt ts c).g, rvK (tmAt ts c).rv out 0⟩ = ts := by
 have e : (⟨(tmAt ts c).g, rvK (tmAt ts c).rv out 0⟩ : Tm) = ts[c] := by
  have h1 : tmAt ts c = ts[c] := by unfold tmAt; rw [List.getElem?_eq_getElem hc]; rfl
  rw [h1]
  have : rvK ts[c].rv out 0 = ts[c].rv := funext fun r => by unfold rvK; simp
  rw [this]
 rw [e]
 exact List.set_getElem_self hc
def Deaf (l : List C) (src : Nat) (out : List Int) : Prop := ∀ (j : Nat) (v : Int), out[j]? = some v → 0 ≤ v → j = src ∨ ∃ r : Int, 1 ≤ r ∧ livesS l (j : Int) r = true
theorem Deaf.step {l : List C} {src : Nat} {r : Int} {out : List Int} (hr : 1 ≤ r) (h : Deaf l src out) : Deaf l src (refStep l r out) := fun j v hj hv => by
 rcases refStep_back hj with h1 | ⟨_, h1⟩
 ·exact h j v h1 hv
 ·exact .inr ⟨r, hr, (rNext_imp h1).2⟩
theorem Deaf.init (l : List C) (n src : Nat) : Deaf l src (news0 n src) := fun j v hj hv => by
 unfold news0 at hj
 rw [List.getElem?_set] at hj
 split at hj
 ·rename_i e
  exact .inl e.symm
 ·rw [List.getElem?_replicate] at hj
  split at hj
  ·injection hj with hj
   omega
  ·cases hj
theorem newsGo_deaf {l : List C} {n src : Nat} : ∀ (f : Nat) (r : Int) (out : List Int), 1 ≤ r → out.length = n → Deaf l src out → Deaf l src (newsGo n l f r out).1
 | 0, _, _, _, _, h => h
 | f + 1, r, out, hr, hn, h => by
  unfold newsGo
  split
  ·have h2 := h.step hr
   rw [← step_eq, hn] at h2
   refine newsGo_deaf f (r + 1) _ (by omega) ?_ h2
   unfold stepN
   rw [outI_len]
   exact hn
  ·exact h
theorem news_alive {al : Nat → Bool} {g : List Nat} {s : Nat} (hs : s < g.length) (hg : g.length ≤ 64) (hal : al (gAt g s) = true) :
  (newsR g.length s (deadK al g g.length)).1.length = g.length ∧ ∀ r : Nat, r < g.length → decide (((newsR g.length s (deadK al g g.length)).1[r]?).getD 0 ≥ 0) = al (gAt g r) := by
 have hc : checkS g.length (deadK al g g.length) = 0 := crash_check (l := []) (check_none (by omega) hg) rfl
 have e : newsR g.length s (deadK al g g.length) = ((newsGo g.length (deadK al g g.length) (g.length + 2) 1 (news0 g.length s)).1, (newsGo g.length (deadK al g g.length) (g.length + 2) 1 (news0 g.length s)).2, 0) := by
  unfold newsR
  rw [if_pos hc, if_neg (by omega)]
  rfl
 have hend := newsEnd g.length s (deadK al g g.length) hs
 have hdf := newsGo_deaf (n := g.length) (g.length + 2) 1 (news0 g.length s) (by omega) (by simp [news0]) (Deaf.init (deadK al g g.length) g.length s)
 rw [e]
 generalize (newsGo g.length (deadK al g g.length) (g.length + 2) 1 (news0 g.length s)).1 = out at *
 refine ⟨hend.len, fun r hr => ?_⟩
 have hor : r < out.length := by rw [hend.len]; exact hr
 have hfn : ∀ q : Nat, q < g.length → al (gAt g q) = true → findC (deadK al g g.length) (q : Int) = none := fun q hq ha => findC_none.2 fun c hc e => by
  obtain ⟨p, _, h2, rfl⟩ := deadK_mem.1 hc
  have e : (p : Int) = (q : Int) := e
  rw [show p = q by omega, ha] at h2
  cases h2
 rw [List.getElem?_eq_getElem hor]
 show decide (out[r] ≥ 0) = _
 cases ha : al (gAt g r) with
 | true =>
  obtain ⟨v, h1, h2, _⟩ := hend.bound hend.src0 (Int.le_refl 0) (hfn s hs hal) r hr (hfn r hr ha)
  rw [List.getElem?_eq_getElem hor] at h1
  injection h1 with h1
  rw [h1]
  exact decide_eq_true h2
 | false =>
  refine decide_eq_false fun h => ?_
  rcases hdf r _ (List.getElem?_eq_getElem hor) h with rfl | ⟨q, h1, h2⟩
  ·rw [hal] at ha
   cases ha
  ·have hm : (⟨(r : Int), 0, 0⟩ : C) ∈ deadK al g g.length := deadK_mem.2 ⟨r, hr, ha, rfl⟩
   have hd := (check_zero hc).2.2
   have hf := findC_dist hd hm
   unfold livesS at h2
   rw [hf] at h2
   have h2 := of_decide_eq_true h2
   have h2 : (0 : Int) > q := h2
   omega
set_option maxHeartbeats 16000000 in
theorem revoke_at (w : Wd) (c frm : Nat) (l : List C) (hw : WOK w) (hc : c < w.ts.length) (hfr : frm < (tmAt w.ts c).g.length) (hl : l.length ≤ 9223372036854775807) :
  CallOK Try.prog 32 [.ptr 0 0 0 0, .sc (.int .i64 (c : Int)), .sc (.int .i64 (frm : Int)), crV l] (worldH w) fun res H' => res = .sc (.int .i64 (revF w c frm l).1) ∧ H' = worldH (revF w c frm l).2 := by
 refine CallOK.of cF32 ?_ (Nat.le_of_ble_eq_true rfl)
 have hg := hw.gs c hc
 have hn := hw.n1
 have hgl := hg.len
 have e0 := natsR_len (tmAt w.ts c).g
 have hf := find_at (H := worldH w) (c := (c : Int)) rfl (boxR_tm w.n w.al) rfl (tmE_at hc)
 have hh := has_ok (tmAt w.ts c).g [(frm : Int)] (by omega) (by simp)
 rw [show [(frm : Int)].any (outB (tmAt w.ts c).g) = false by simp [outB]; omega] at hh
 have hri := natsR_at hg hfr
 have hp := hg.at hfr
 have hcr := crashes_at w (tmAt w.ts c).g l hn hg hl
 unfold revF
 dsimp only
 generalize hgp : gAt (tmAt w.ts c).g (frm : Int) = p at *
 have hp64 : p < 64 := by omega
 have hbp := boxR_al (n := w.n) (al := w.al) hp64
 have hw0 : worldH w = [[.cells 67 [boxR w.n w.al]], [.cells 64 (knR w.n w.kn)], [.map (tmE w.ts)], rvF w.ts] := rfl
 unfold crV at *
 rw [hw0] at hf
 rw [hw0]
 refine walkX ?_
 refine Reg.c (Nat.le_refl _) rfl (hf.mono ?_)
 rintro res H' ⟨rfl, rfl⟩
 refine walkX ?_
 refine Reg.pv (Nat.le_succ _) rfl hh (.sc _) (ToL.cons (To.cptrL (ToL.cons (.pure (pv (.list 1 (E.natsR _)))) (ToL.cons (.undef _) ToL.nil))) (ToL.cons (To.fz rfl rfl rfl rfl (prs _)) ToL.nil)) ?_
 refine walkX ?_
 refine DK.o rfl (dstep_idxArr (q := p) rfl rfl rfl hp64) ?_
 refine DK.o rfl (dstep_ld1 rfl rfl rfl (by rw [Nat.mul_one]; exact hbp)) ?_
 refine walkX ?_
 refine DK.nil ⟨by kernel_rfl, ?_⟩
 by_cases ha : w.al p = true
 ·rw [if_pos ha, ha]
  refine walkX ?_
  refine Reg.sub (fr' := [(0, .ptr 0 0 0 0), (2, .sc (.int .i64 (frm : Int))), (3, .list 3 (l.map crow)), (9, tmV c (tmAt w.ts c)), (48, .ptr 0 0 0 0), (49, tG (tmAt w.ts c).g), (50, .list 3 (l.map crow))]) (H' := worldH w) ?_ ?_
  ·refine Sub.wd (w := w) [] ?_
   refine ToAll.cons (To.ptrO rfl rfl rfl) (ToAll.cons (.sc _) (ToAll.cons (.pure (pv (.list 3 (l.map crow)))) (ToAll.cons (To.tmV (rho_w rfl hc)) (ToAll.cons (To.ptrO rfl rfl rfl) (ToAll.cons (To.cptrL (ToL.cons (.pure (pv (.list 1 (E.natsR _)))) (ToL.cons (.undef _) ToL.nil))) ?_)))))
   (all_goals (repeat' (first | exact ToAll.nil | exact famsTo.nil | exact famTo.nil | exact ToL.nil | exact ToR.nil | refine ToAll.cons ?_ ?_ | refine famsTo.cons ?_ ?_ | refine wt10 ?_ ?_ | exact To.undef _ | exact To.sc _ | exact To.hslL rfl rfl | exact To.ptrO rfl rfl rfl | exact To.mrefO rfl | exact To.nil rfl rfl rfl | exact wt1 | exact To.nilL | refine To.int ?_ | refine To.bool ?_ | refine To.hslL rfl ?_ | refine wt2 rfl ?_ ?_ ?_ | refine To.tupL ?_ | refine To.aggL ?_ | refine To.cptrL ?_ | refine wt3 ?_ | refine wt4 ?_ | refine To.cloL ?_ ?_ | exact wt5 | refine wt6 ?_ | refine ToB.one ?_ | exact wt7 | ((with_reducible apply ToL.consE); case e9 => rfl) | refine wt8 ?_ | refine ToL.cons ?_ ?_ | exact wt11 | refine wt9 ?_ ?_ | refine wt12 ?_ | (with_reducible rfl) | assumption)); all_goals (first | rfl | assumption | (simp; done) | (simp; omega) | (rw [wrap_small (by omega) (by omega)]; done) | (rw [wrap_small (by omega) (by omega)]; omega) | (refine congrArg Nat.cast ?_; assumption) | skip))
  refine Reg.c (Nat.le_of_ble_eq_true rfl) rfl (hcr.mono ?_)
  rintro res H' ⟨rfl, rfl⟩
  by_cases he : (crashW w.al (tmAt w.ts c).g l).2 ≠ 0
  ·rw [if_pos he]
   refine walkX ?_
   rw [show ((crashW w.al (tmAt w.ts c).g l).2 != 0) = true by simpa using he]
   refine walkX ?_
   refine endWd (.sc (.int .i64 (crashW w.al (tmAt w.ts c).g l).2)) w ⟨rfl, rfl⟩
  rw [if_neg he]
  obtain ⟨h1, h2, h3⟩ : checkS (tmAt w.ts c).g.length l = 0 ∧ anyDead w.al (tmAt w.ts c).g l = false ∧ crashW w.al (tmAt w.ts c).g l = (l ++ deadK w.al (tmAt w.ts c).g (tmAt w.ts c).g.length, 0) := by
   rcases crashW_cases w.al (tmAt w.ts c).g l with ⟨h1, h2⟩ | ⟨h1, h2, h3⟩ | h
   ·rw [h2] at he; exact absurd h1 (fun h => he h)
   ·rw [h3] at he; exact absurd (show (6 : Int) ≠ 0 by decide) he
   ·exact h
  have hl64 := good_len h1
  have hcc := crash_check h1 h2
  have hdl := deadK_len w.al (tmAt w.ts c).g (tmAt w.ts c).g.length
  have hbu := fun rv => bury_at { w with ts := w.ts.set c ⟨(tmAt w.ts c).g, rv⟩ } (tmAt w.ts c).g l hn hg hl64 fun x hx => by
   have := (check_zero h1).2.1 x hx
   exact ⟨this.r0, this.r1⟩
  rw [h3]
  dsimp only
  have hne : newsR (tmAt w.ts c).g.length frm (l ++ deadK w.al (tmAt w.ts c).g (tmAt w.ts c).g.length) = ((newsGo (tmAt w.ts c).g.length (l ++ deadK w.al (tmAt w.ts c).g (tmAt w.ts c).g.length) ((tmAt w.ts c).g.length + 2) 1 (news0 (tmAt w.ts c).g.length frm)).1, (newsGo (tmAt w.ts c).g.length (l ++ deadK w.al (tmAt w.ts c).g (tmAt w.ts c).g.length) ((tmAt w.ts c).g.length + 2) 1 (news0 (tmAt w.ts c).g.length frm)).2, 0) := by
   unfold newsR
   rw [if_pos hcc, if_neg (by omega)]
   rfl
  have hlo := (newsEnd (tmAt w.ts c).g.length frm (l ++ deadK w.al (tmAt w.ts c).g (tmAt w.ts c).g.length) hfr).len
  have hnw := PureRun.of (three_pure (tmAt w.ts c).g.length frm (l ++ deadK w.al (tmAt w.ts c).g (tmAt w.ts c).g.length)) (pure_newsV _) (news_ok (tmAt w.ts c).g.length frm (l ++ deadK w.al (tmAt w.ts c).g (tmAt w.ts c).g.length) (by rw [List.length_append]; omega))
  rw [hne] at hnw ⊢
  generalize (newsGo (tmAt w.ts c).g.length (l ++ deadK w.al (tmAt w.ts c).g (tmAt w.ts c).g.length) ((tmAt w.ts c).g.length + 2) 1 (news0 (tmAt w.ts c).g.length frm)).1 = out at *
  generalize (newsGo (tmAt w.ts c).g.length (l ++ deadK w.al (tmAt w.ts c).g (tmAt w.ts c).g.length) ((tmAt w.ts c).g.length + 2) 1 (news0 (tmAt w.ts c).g.length frm)).2 = rd at *
  generalize l ++ deadK w.al (tmAt w.ts c).g (tmAt w.ts c).g.length = all at *
  unfold newsV crV at hnw
  dsimp only at *
  have hil := intsLen out
  have hcs : ∀ k, c < (w.ts.set c ⟨(tmAt w.ts c).g, rvK (tmAt w.ts c).rv out k⟩).length := fun k => by rw [List.length_set]; exact hc
  have hlen : ∀ k, (w.ts.set c ⟨(tmAt w.ts c).g, rvK (tmAt w.ts c).rv out k⟩).length = w.ts.length := fun k => List.length_set ..
  refine walkX ?_
  rw [e0]
  refine walkX ?_
  rw [hil]
  refine AWP.loop (fun k : Nat => [(0, .ptr 0 0 0 0), (3, .list 3 (l.map crow)), (9, tmV c (tmAt w.ts c)), (69, .list 1 (intsR out)), (70, .sc (.int .i64 (out.length : Int))), (71, .sc (.int .i64 (k : Int)))])
   (fun k => worldH { w with ts := w.ts.set c ⟨(tmAt w.ts c).g, rvK (tmAt w.ts c).rv out k⟩ }) (fun k => k ≤ out.length) (fun k => out.length - k) 0 (Nat.zero_le _) ?_ ?_
  ·rw [set_self hc]
   refine Sub.wd (w := w) [] ?_
   refine ToAll.cons (To.ptrO rfl rfl rfl) (ToAll.cons (.pure (pv (.list 3 (l.map crow)))) (ToAll.cons (To.tmV (rho_w rfl hc)) ?_))
   (all_goals (repeat' (first | exact ToAll.nil | exact famsTo.nil | exact famTo.nil | exact ToL.nil | exact ToR.nil | refine ToAll.cons ?_ ?_ | refine famsTo.cons ?_ ?_ | refine wt10 ?_ ?_ | exact To.undef _ | exact To.sc _ | exact To.hslL rfl rfl | exact To.ptrO rfl rfl rfl | exact To.mrefO rfl | exact To.nil rfl rfl rfl | exact wt1 | exact To.nilL | refine To.int ?_ | refine To.bool ?_ | refine To.hslL rfl ?_ | refine wt2 rfl ?_ ?_ ?_ | refine To.tupL ?_ | refine To.aggL ?_ | refine To.cptrL ?_ | refine wt3 ?_ | refine wt4 ?_ | refine To.cloL ?_ ?_ | exact wt5 | refine wt6 ?_ | refine ToB.one ?_ | exact wt7 | ((with_reducible apply ToL.consE); case e9 => rfl) | refine wt8 ?_ | refine ToL.cons ?_ ?_ | exact wt11 | refine wt9 ?_ ?_ | refine wt12 ?_ | (with_reducible rfl) | assumption)); all_goals (first | rfl | assumption | (simp; done) | (simp; omega) | (rw [wrap_small (by omega) (by omega)]; done) | (rw [wrap_small (by omega) (by omega)]; omega) | (refine congrArg Nat.cast ?_; assumption) | skip))
  intro k hk
  have hset := @rvF_set w.ts ⟨(tmAt w.ts c).g, rvK (tmAt w.ts c).rv out k⟩ c hc
  have hset2 := @rvF_set w.ts ⟨(tmAt w.ts c).g, rvK (tmAt w.ts c).rv out (k + 1)⟩ c hc
  have hte : ∀ k, tmE (w.ts.set c ⟨(tmAt w.ts c).g, rvK (tmAt w.ts c).rv out k⟩) = tmE w.ts := fun k => tmE_set hc rfl
  have hwk : worldH { w with ts := w.ts.set c ⟨(tmAt w.ts c).g, rvK (tmAt w.ts c).rv out k⟩ } = [[.cells 67 [boxR w.n w.al]], [.cells 64 (knR w.n w.kn)], [.map (tmE (w.ts.set c ⟨(tmAt w.ts c).g, rvK (tmAt w.ts c).rv out k⟩))], rvF (w.ts.set c ⟨(tmAt w.ts c).g, rvK (tmAt w.ts c).rv out k⟩)] := rfl
  have hF : (rvF (w.ts.set c ⟨(tmAt w.ts c).g, rvK (tmAt w.ts c).rv out k⟩))[c]? = some (.cells 1 (rvR ⟨(tmAt w.ts c).g, rvK (tmAt w.ts c).rv out k⟩)) := by
   rw [rvF_get (hcs k), tmAt_set hc, if_pos rfl]
  have hss : (rvF (w.ts.set c ⟨(tmAt w.ts c).g, rvK (tmAt w.ts c).rv out k⟩)).set c (.cells 1 (rvR ⟨(tmAt w.ts c).g, rvK (tmAt w.ts c).rv out (k + 1)⟩)) = rvF (w.ts.set c ⟨(tmAt w.ts c).g, rvK (tmAt w.ts c).rv out (k + 1)⟩) := by
   rw [rvF_set (hcs k), List.set_set]
  rw [hwk, hte]
  generalize hFg : rvF (w.ts.set c ⟨(tmAt w.ts c).g, rvK (tmAt w.ts c).rv out k⟩) = F at *
  refine walkX0 ?_
  refine AWP.condD rfl (fun h => ?_) (fun h => ?_)
  ·have hx : rowIx (intsR out) (k : Int) = some [.sc (.int .i64 out[k])] := rowIx_map (fun n : Int => [AV.sc (.int .i64 n)]) out k h
   have hgo : (out[k]?).getD 0 = out[k] := by rw [List.getElem?_eq_getElem h]; rfl
   have hrx : (rvR ⟨(tmAt w.ts c).g, rvK (tmAt w.ts c).rv out k⟩)[k]? = some [.sc (.bool (rvK (tmAt w.ts c).rv out k k))] := rvR_get (by show k < (tmAt w.ts c).g.length; omega)
   have hrl : (rvR ⟨(tmAt w.ts c).g, rvK (tmAt w.ts c).rv out k⟩).length = (tmAt w.ts c).g.length := rvR_len _
   have hrs := fun b => @rvR_set (tmAt w.ts c).g (rvK (tmAt w.ts c).rv out k) k b
   have hsc := @rvK_succ (tmAt w.ts c).rv out k
   rw [hgo] at hsc
   generalize out[k] = v at *
   unfold tmV
   have hkg : k < (tmAt w.ts c).g.length := by omega
   cases hb : rvK (tmAt w.ts c).rv out k k with
   | true =>
    rw [hb] at hrx hsc
    refine walkX ?_
    refine DK.o rfl (dstep_idxH (q := k) (start := 0) rfl rfl hF hkg (by rw [hrl]; omega)) ?_
    refine DK.o rfl (dstep_ld1 rfl hF (by rw [Nat.zero_add]; exact hrx) rfl) ?_
    refine walkX ?_
    refine DK.o rfl (dstep_idxH (q := k) (start := 0) rfl rfl hF hkg (by rw [hrl]; omega)) ?_
    refine DK.on rfl (dstep_st1 (r := [.sc (.bool true)]) rfl rfl hF (by rw [Nat.zero_add]; exact hrx) (by exact Nat.zero_lt_one) rfl) ?_
    refine DK.nil ⟨by kernel_rfl, ?_⟩
    refine walkX ?_
    refine ⟨k + 1, by omega, by omega, ?_⟩
    refine Sub.wd (w := { w with ts := w.ts.set c ⟨(tmAt w.ts c).g, rvK (tmAt w.ts c).rv out (k + 1)⟩ }) [] ?_ (e2 := by rw [hte]) (e3 := ?_)
    ·refine ToAll.cons (To.ptrO rfl rfl rfl) (ToAll.cons (.pure (pv (.list 3 (l.map crow)))) (ToAll.cons (To.tmV (rho_w rfl (hcs (k + 1)))) ?_))
     (all_goals (repeat' (first | exact ToAll.nil | exact famsTo.nil | exact famTo.nil | exact ToL.nil | exact ToR.nil | refine ToAll.cons ?_ ?_ | refine famsTo.cons ?_ ?_ | refine wt10 ?_ ?_ | exact To.undef _ | exact To.sc _ | exact To.hslL rfl rfl | exact To.ptrO rfl rfl rfl | exact To.mrefO rfl | exact To.nil rfl rfl rfl | exact wt1 | exact To.nilL | refine To.int ?_ | refine To.bool ?_ | refine To.hslL rfl ?_ | refine wt2 rfl ?_ ?_ ?_ | refine To.tupL ?_ | refine To.aggL ?_ | refine To.cptrL ?_ | refine wt3 ?_ | refine wt4 ?_ | refine To.cloL ?_ ?_ | exact wt5 | refine wt6 ?_ | refine ToB.one ?_ | exact wt7 | ((with_reducible apply ToL.consE); case e9 => rfl) | refine wt8 ?_ | refine ToL.cons ?_ ?_ | exact wt11 | refine wt9 ?_ ?_ | refine wt12 ?_ | (with_reducible rfl) | assumption)); all_goals (first | rfl | assumption | (simp; done) | (simp; omega) | (rw [wrap_small (by omega) (by omega)]; done) | (rw [wrap_small (by omega) (by omega)]; omega) | (refine congrArg Nat.cast ?_; assumption) | skip))
    ·show F.set c (Blk.cells 1 ((rvR ⟨(tmAt w.ts c).g, rvK (tmAt w.ts c).rv out k⟩).set (0 + k) [_])) = _
     rw [Nat.zero_add, hrs, ← hss]
     refine congrArg (fun x => F.set c (Blk.cells 1 (rvR ⟨_, x⟩))) ?_
     rw [← hsc]
     rfl
   | false =>
    rw [hb] at hrx hsc
    refine walkX ?_
    refine DK.o rfl (dstep_idxH (q := k) (start := 0) rfl rfl hF hkg (by rw [hrl]; omega)) ?_
    refine DK.o rfl (dstep_ld1 rfl hF (by rw [Nat.zero_add]; exact hrx) rfl) ?_
    refine walkX ?_
    refine DK.o rfl (dstep_idxH (q := k) (start := 0) rfl rfl hF hkg (by rw [hrl]; omega)) ?_
    refine DK.on rfl (dstep_st1 (r := [.sc (.bool false)]) rfl rfl hF (by rw [Nat.zero_add]; exact hrx) (by exact Nat.zero_lt_one) rfl) ?_
    refine DK.nil ⟨by kernel_rfl, ?_⟩
    refine walkX ?_
    refine ⟨k + 1, by omega, by omega, ?_⟩
    refine Sub.wd (w := { w with ts := w.ts.set c ⟨(tmAt w.ts c).g, rvK (tmAt w.ts c).rv out (k + 1)⟩ }) [] ?_ (e2 := by rw [hte]) (e3 := ?_)
    ·refine ToAll.cons (To.ptrO rfl rfl rfl) (ToAll.cons (.pure (pv (.list 3 (l.map crow)))) (ToAll.cons (To.tmV (rho_w rfl (hcs (k + 1)))) ?_))
     (all_goals (repeat' (first | exact ToAll.nil | exact famsTo.nil | exact famTo.nil | exact ToL.nil | exact ToR.nil | refine ToAll.cons ?_ ?_ | refine famsTo.cons ?_ ?_ | refine wt10 ?_ ?_ | exact To.undef _ | exact To.sc _ | exact To.hslL rfl rfl | exact To.ptrO rfl rfl rfl | exact To.mrefO rfl | exact To.nil rfl rfl rfl | exact wt1 | exact To.nilL | refine To.int ?_ | refine To.bool ?_ | refine To.hslL rfl ?_ | refine wt2 rfl ?_ ?_ ?_ | refine To.tupL ?_ | refine To.aggL ?_ | refine To.cptrL ?_ | refine wt3 ?_ | refine wt4 ?_ | refine To.cloL ?_ ?_ | exact wt5 | refine wt6 ?_ | refine ToB.one ?_ | exact wt7 | ((with_reducible apply ToL.consE); case e9 => rfl) | refine wt8 ?_ | refine ToL.cons ?_ ?_ | exact wt11 | refine wt9 ?_ ?_ | refine wt12 ?_ | (with_reducible rfl) | assumption)); all_goals (first | rfl | assumption | (simp; done) | (simp; omega) | (rw [wrap_small (by omega) (by omega)]; done) | (rw [wrap_small (by omega) (by omega)]; omega) | (refine congrArg Nat.cast ?_; assumption) | skip))
    ·show F.set c (Blk.cells 1 ((rvR ⟨(tmAt w.ts c).g, rvK (tmAt w.ts c).rv out k⟩).set (0 + k) [_])) = _
     rw [Nat.zero_add, hrs, ← hss]
     refine congrArg (fun x => F.set c (Blk.cells 1 (rvR ⟨_, x⟩))) ?_
     rw [← hsc]
     rfl
  ·have hk2 : k = out.length := by omega
   subst hk2
   rw [hlo] at *
   have hbk := hbu (rvK (tmAt w.ts c).rv out (tmAt w.ts c).g.length)
   refine walkX ?_
   refine Reg.sub (fr' := [(94, .ptr 0 0 0 0), (95, tG (tmAt w.ts c).g), (96, .list 3 (l.map crow))]) (H' := worldH { w with ts := w.ts.set c ⟨(tmAt w.ts c).g, rvK (tmAt w.ts c).rv out (tmAt w.ts c).g.length⟩ }) ?_ ?_
   ·refine Sub.wd (w := { w with ts := w.ts.set c ⟨(tmAt w.ts c).g, rvK (tmAt w.ts c).rv out (tmAt w.ts c).g.length⟩ }) [] ?_ (e2 := by rw [hte]) (e3 := by rw [← hFg])
    refine ToAll.cons (To.ptrO rfl rfl rfl) (ToAll.cons (To.cptrL (ToL.cons (.pure (pv (.list 1 (E.natsR _)))) (ToL.cons (.undef _) ToL.nil))) ?_)
    (all_goals (repeat' (first | exact ToAll.nil | exact famsTo.nil | exact famTo.nil | exact ToL.nil | exact ToR.nil | refine ToAll.cons ?_ ?_ | refine famsTo.cons ?_ ?_ | refine wt10 ?_ ?_ | exact To.undef _ | exact To.sc _ | exact To.hslL rfl rfl | exact To.ptrO rfl rfl rfl | exact To.mrefO rfl | exact To.nil rfl rfl rfl | exact wt1 | exact To.nilL | refine To.int ?_ | refine To.bool ?_ | refine To.hslL rfl ?_ | refine wt2 rfl ?_ ?_ ?_ | refine To.tupL ?_ | refine To.aggL ?_ | refine To.cptrL ?_ | refine wt3 ?_ | refine wt4 ?_ | refine To.cloL ?_ ?_ | exact wt5 | refine wt6 ?_ | refine ToB.one ?_ | exact wt7 | ((with_reducible apply ToL.consE); case e9 => rfl) | refine wt8 ?_ | refine ToL.cons ?_ ?_ | exact wt11 | refine wt9 ?_ ?_ | refine wt12 ?_ | (with_reducible rfl) | assumption)); all_goals (first | rfl | assumption | (simp; done) | (simp; omega) | (rw [wrap_small (by omega) (by omega)]; done) | (rw [wrap_small (by omega) (by omega)]; omega) | (refine congrArg Nat.cast ?_; assumption) | skip))
   refine Reg.c (Nat.le_of_ble_eq_true rfl) rfl (hbk.mono ?_)
   rintro res H' ⟨rfl, rfl⟩
   refine walkX ?_
   refine endWd (.sc (.int .i64 0)) { w with al := buryW w.al (tmAt w.ts c).g l, ts := w.ts.set c ⟨(tmAt w.ts c).g, rvK (tmAt w.ts c).rv out (tmAt w.ts c).g.length⟩ } ⟨rfl, rfl⟩
 ·rw [if_neg ha, show w.al p = false by simpa using ha]
  refine walkX ?_
  refine endWd (.sc (.int .i64 6)) w ⟨rfl, rfl⟩
def u8R (l : List Nat) : List (List AV) := l.map fun n : Nat => [.sc (.int .u8 (n : Int))]
instance (l : List Nat) : PRs (u8R l) := ⟨fun r hr => by
 obtain ⟨n, _, rfl⟩ := List.mem_map.1 hr
 exact allPure_cons (.sc _) allPure_nil⟩
theorem u8R_len (l : List Nat) : (u8R l).length = l.length := List.length_map ..
def pickI : List Nat → ICode → ICode
 | [], c => c
 | 0 :: l, .seq a _ => pickI l a
 | _ :: l, .seq _ b => pickI l b
 | 0 :: l, .cond _ a _ => pickI l a
 | _ :: l, .cond _ _ b => pickI l b
 | _ :: l, .block _ a => pickI l a
 | _ :: l, .loop a => pickI l a
 | _ :: _, c => c
theorem rowIx_row1 {n i : Nat} {f : Nat → AV} (h : i < n) : rowIx (row1 n f) (i : Int) = some [f i] := by
 have := rowIx_map (fun k => [f k]) (List.range n) i (by simpa using h)
 simpa [row1] using this
theorem args_nil3 {f : FuncId} {a b : AV} {H : Heap} {R : AV → Heap → Prop} (h : CallOK Try.prog f [a, b, .list 3 []] H R) : CallOK Try.prog f [a, b, .sc (.slice none 0 0)] H R :=
 CallOK.args h rfl fun j x y e1 e2 => by
  match j with
  | 0 => injection e1 with e1; injection e2 with e2; subst e1; subst e2; exact .refl _
  | 1 => injection e1 with e1; injection e2 with e2; subst e1; subst e2; exact .refl _
  | 2 => injection e1 with e1; injection e2 with e2; subst e1; subst e2; exact Le.nil 3
  | j + 3 => simp at e1
theorem open_u8s {a : AV} (h : Fit (.slice [.int .u8]) a) : ∃ l : List Nat, a = .list 1 (u8R l) ∧ l.length ≤ maxLen ∧ ∀ x ∈ l, x ≤ 255 := by
 obtain ⟨l, e, hl, hb⟩ := open_rows h (fun n : Nat => [.sc (.int .u8 (n : Int))]) (fun n => n ≤ 255) fun r hl hf => by
  match r, hl with
  | [x], _ =>
   obtain ⟨n, rfl, hn⟩ := open_u8 (hf 0 _ x rfl rfl)
   exact ⟨n, rfl, hn⟩
 exact ⟨l, e, hl, hb⟩
end Go.Proofs.Ytbpmbofinoinmaa
