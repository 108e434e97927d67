import Derived.Test.YtbpmbofinoinmaaFaB3
namespace Go.Proofs.Ytbpmbofinoinmaa
open Go.Av Go.Proofs

/-! What a process agreed on, by the document. -/

theorem intsR_len (l : List Int) : (intsR l).length = l.length := by simp [intsR]
attribute [simp] intsR_len
def KS (s : Nat → Bool) (ks : List Int) (b j : Nat) : Bool := s j || (ks.take b).any fun x => decide (x.toNat = j)
theorem KS_zero (s : Nat → Bool) (ks : List Int) : KS s ks 0 = s := by funext j; simp [KS]
theorem KS_succ {s : Nat → Bool} {ks : List Int} {b : Nat} (h : b < ks.length) (j : Nat) : KS s ks (b + 1) j = if j = ks[b].toNat then true else KS s ks b j := by
  unfold KS
  rw [List.take_succ_eq_append_getElem h, List.any_append]
  by_cases e : j = ks[b].toNat
  · rw [if_pos e]; simp [e]
  · rw [if_neg e]
    have e' : ¬ ks[b].toNat = j := fun h => e h.symm
    simp [e']
def docF (w : Nat → Bool) (L : List (List Int)) : Nat → Nat → Bool
  | 0 => fun _ => false
  | k + 1 => if w k = true then KS (docF w L k) ((L[k]?).getD []) ((L[k]?).getD []).length else fun j => if j = k then true else docF w L k j

theorem docF_any (w : Nat → Bool) (L : List (List Int)) : ∀ (k j : Nat), docF w L k j = ((decide (j < k) && !w j) || (List.range k).any fun i => w i && ((L[i]?).getD []).any fun x => decide (x.toNat = j))
  | 0, j => by simp [docF]
  | k + 1, j => by
    have ih := docF_any w L k j
    unfold docF
    rw [List.range_succ, List.any_append]
    by_cases h : w k = true
    · rw [if_pos h]
      unfold KS
      rw [ih, List.take_length]
      by_cases e : j = k
      · subst e; simp [h]
      · have : (j < k + 1) ↔ (j < k) := by omega
        simp [h, this, Bool.or_assoc]
    · rw [if_neg h]
      have h' : w k = false := by simpa using h
      by_cases e : j = k
      · subst e; simp [h']
      · rw [if_neg e, ih]
        have : (j < k + 1) ↔ (j < k) := by omega
        simp [h', this]

theorem knownGo_any (b : Bool) : ∀ (ks : List Int) (s : Nat → Bool) (j : Nat), knownGo b ks s j = (s j || (b && ks.any fun x => decide (x.toNat = j)))
  | [], s, j => by simp [knownGo]
  | x :: ks, s, j => by
    show knownGo b ks (orW s x.toNat b) j = _
    rw [knownGo_any b ks]
    unfold orW
    by_cases e : j = x.toNat
    · subst e; simp [Bool.or_assoc]; cases b <;> simp
    · have e' : ¬ x.toNat = j := fun h => e h.symm
      simp [e, e']

theorem knownAll_any (w : Nat → Bool) : ∀ (L : List (List Int)) (i : Nat) (s : Nat → Bool) (j : Nat), knownAll w i L s j = (s j || (List.range L.length).any fun q => w (i + q) && ((L[q]?).getD []).any fun x => decide (x.toNat = j))
  | [], i, s, j => by simp [knownAll]
  | ks :: L, i, s, j => by
    show knownAll w (i + 1) L (knownGo (w i) ks s) j = _
    rw [knownAll_any w L, knownGo_any, List.length_cons, List.range_succ_eq_map, List.any_cons, List.any_map, Bool.or_assoc]
    congr 2
    simp only [Function.comp_def, List.getElem?_cons_succ, Nat.succ_eq_add_one]
    have e : ∀ q, i + 1 + q = i + (q + 1) := fun q => by omega
    simp only [e]

theorem elems_cut {n : Nat} {s t : Nat → Bool} (hn : n ≤ 64) (h : ∀ j, j < n → s j = t j) (h0 : ∀ j, n ≤ j → t j = false) : elems n s = elems 64 t := by
  have key : ∀ m, n ≤ m → elems m t = elems n t := by
    intro m hm
    induction m with
    | zero => have : n = 0 := by omega
              subst this; rfl
    | succ m ih =>
      rcases Nat.lt_or_ge n (m + 1) with hlt | hge
      · rw [elems_succ, h0 m (by omega)]
        simp
        exact ih (by omega)
      · have : n = m + 1 := by omega
        rw [this]
  rw [key 64 hn]
  clear key
  have key2 : ∀ m, m ≤ n → elems m s = elems m t := by
    intro m
    induction m with
    | zero => intro _; rfl
    | succ m ih => intro hm; rw [elems_succ, elems_succ, ih (by omega), h m (by omega)]
  exact key2 n (Nat.le_refl _)

theorem agreed_elems {n : Nat} {w : Nat → Bool} {L : List (List Int)} (hn : n ≤ 64) (hL : L.length = n) (hx : ∀ ks ∈ L, ∀ x ∈ ks, 0 ≤ x ∧ x < n) : elems n (docF w L n) = elems 64 (knownAll w 0 L (fail1 w n n)) := by
  refine elems_cut hn (fun j hj => ?_) fun j hj => ?_
  · rw [docF_any, knownAll_any, hL]
    simp [fail1, hj]
  · rw [knownAll_any]
    have e1 : ¬ j < n := by omega
    have : ((List.range L.length).any fun q => w (0 + q) && ((L[q]?).getD []).any fun x => decide (x.toNat = j)) = false := by
      rw [List.any_eq_false]
      intro q hq
      have hq := List.mem_range.1 hq
      rw [List.getElem?_eq_getElem hq]
      simp only [Option.getD_some, Bool.and_eq_true, not_and, Bool.not_eq_true, List.any_eq_false, decide_eq_true_eq]
      intro _ x hx'
      have := hx L[q] (List.getElem_mem hq) x hx'
      omega
    rw [this]
    simp [fail1, e1]

set_option maxHeartbeats 2000000 in
theorem agreedR_ok {n : Nat} (p : Pr) (fl : List Int) (L : List (List Int)) (hn : n ≤ 64) (hfl : fl.length = n) (hL : L.length = n) (hl1 : ∀ ks ∈ L, ks.length ≤ 1000000) (hx : ∀ ks ∈ L, ∀ x ∈ ks, 0 ≤ x ∧ x < n) :
    PureRun Try.prog 50 [.agg (rRow n p), intsV fl, knownV L] (.agg (rpRow (agreedS p fl L))) := by
  refine PureRun.mkI cF50 (by simp [F50]) ?_
  have hlf : (intsR fl).length = n := by rw [intsR_len, hfl]
  repeat (first | refine wr1 ?_ | refine wr2 ?_ | refine wr3 ?_ | refine wr4 ?_ | refine Reg.nil ?_ | refine wd1 ?_ | refine wd2 ?_ | refine wd3 ?_ | refine wd4 ?_ | refine AWP.seq ?_ | refine AWP.region ?_ | refine AWP.dk mixed ?_ | refine AWP.condT rfl ?_ | refine AWP.condF rfl ?_ | refine AWP.skip ?_ | refine AWP.ret ?_ | refine AWP.exit ?_ | refine AWP.block ?_ | refine wr5 ?_ | refine wr6 ?_ | refine wr7 ?_ | refine wr8 ?_ | refine wr9 ?_ | refine wr10 ?_ | refine wd5 ?_ | refine wd6 ?_ | refine wd7 ?_ | refine wd8 ?_ | refine wd10 ?_ )
  rw [hlf]
  refine Reg.o rfl (dstep_mk (n := n) rfl (by omega) (by omega)) ?_
  rw [show List.replicate n (zrow [(1, Value.bool false)]) = boolsR n (fun _ => false) from boolsR_rep n]
  repeat (first | refine wr1 ?_ | refine wr2 ?_ | refine wr3 ?_ | refine wr4 ?_ | refine Reg.nil ?_ | refine wd1 ?_ | refine wd2 ?_ | refine wd3 ?_ | refine wd4 ?_ | refine AWP.seq ?_ | refine AWP.region ?_ | refine AWP.dk mixed ?_ | refine AWP.condT rfl ?_ | refine AWP.condF rfl ?_ | refine AWP.skip ?_ | refine AWP.ret ?_ | refine AWP.exit ?_ | refine AWP.block ?_ | refine wr5 ?_ | refine wr6 ?_ | refine wr7 ?_ | refine wr8 ?_ | refine wr9 ?_ | refine wr10 ?_ | refine wd5 ?_ | refine wd6 ?_ | refine wd7 ?_ | refine wd8 ?_ | refine wd10 ?_ )
  refine AWP.loop (fun k : Nat => [(1, intsV fl), (2, knownV L), (3, .ptr 0 0 0 0), (6, .ptr 1 0 0 0), (7, .ptr 2 0 0 0), (8, .hsl 3 0 0 n), (9, .sc (.int .i64 k))])
    (fun k => [[.cells 5 [rRow n p]], [.cells 4 [z4]], [.cells 4 [rp4 p.dec (flagK p.w fl k)]], [.cells 1 (boolsR n (docF p.w L k))]]) (fun k => k ≤ n) (fun k => n - k) 0 (Nat.zero_le _) ?_ ?_
  · (apply Sub.to [] [[_],[_],[_],[_]]; all_goals (repeat' (first | exact ToAll.nil | exact famsTo.nil | exact famTo.nil | exact ToL.nil | exact ToR.nil | refine ToAll.cons ?_ ?_ | refine famsTo.cons ?_ ?_ | refine wt10 ?_ ?_ | exact To.undef _ | exact To.sc _ | exact To.hslL rfl rfl | exact To.ptrO rfl rfl rfl | exact To.mrefO rfl | exact To.nil rfl rfl rfl | exact wt1 | exact To.nilL | refine To.int ?_ | refine To.bool ?_ | refine To.hslL rfl ?_ | refine wt2 rfl ?_ ?_ ?_ | refine To.tupL ?_ | refine To.aggL ?_ | refine To.cptrL ?_ | refine wt3 ?_ | refine wt4 ?_ | refine To.cloL ?_ ?_ | exact wt5 | refine wt6 ?_ | refine ToB.one ?_ | exact wt7 | ((with_reducible apply ToL.consE); case e9 => rfl) | refine wt8 ?_ | refine ToL.cons ?_ ?_ | exact wt11 | refine wt9 ?_ ?_ | refine wt12 ?_ | (with_reducible rfl) | assumption)); all_goals (first | rfl | assumption | (simp; done) | (simp; omega) | skip))
  intro k hk
  have hk1 := wrap_succ (k := k) (by omega)
  repeat (first | refine wr1 ?_ | refine wr2 ?_ | refine wr3 ?_ | refine wr4 ?_ | refine Reg.nil ?_ | refine wd1 ?_ | refine wd2 ?_ | refine wd3 ?_ | refine wd4 ?_ | refine AWP.seq ?_ | refine AWP.region ?_ | refine AWP.dk mixed ?_ | refine AWP.condT rfl ?_ | refine AWP.condF rfl ?_ | refine AWP.skip ?_ | refine AWP.ret ?_ | refine AWP.exit ?_ | refine AWP.block ?_ | refine wr5 ?_ | refine wr6 ?_ | refine wr7 ?_ | refine wr8 ?_ | refine wr9 ?_ | refine wr10 ?_ | refine wd5 ?_ | refine wd6 ?_ | refine wd7 ?_ | refine wd8 ?_ | refine wd10 ?_ )
  refine AWP.condN (k < n) rfl (by simp [hlf]) (fun h => ?_) (fun h => ?_)
  · have hg : (boolsR n p.w)[k]? = some [.sc (.bool (p.w k))] := boolsR_get h
    have hgI : rowIx (boolsR n p.w) (k : Int) = some [.sc (.bool (p.w k))] := boolsR_ix h
    have hgF : (boolsR n (docF p.w L k))[k]? = some [.sc (.bool (docF p.w L k k))] := boolsR_get h
    have hf : rowIx (intsR fl) (k : Int) = some [.sc (.int .i64 fl[k])] := rowIx_map _ fl k (by omega)
    have hgd : (fl[k]?).getD 0 = fl[k] := by rw [List.getElem?_eq_getElem (by omega)]; rfl
    have hra : rowIx (L.map fun ks => [intsV ks]) (k : Int) = some [intsV L[k]] := rowIx_map _ L k (by omega)
    have hLd : (L[k]?).getD [] = L[k] := by rw [List.getElem?_eq_getElem (by omega)]; rfl
    have h1 := hl1 L[k] (List.getElem_mem (by omega))
    have h2 := hx L[k] (List.getElem_mem (by omega))
    repeat (first | refine wr1 ?_ | refine wr2 ?_ | refine wr3 ?_ | refine wr4 ?_ | refine Reg.nil ?_ | refine wd1 ?_ | refine wd2 ?_ | refine wd3 ?_ | refine wd4 ?_ | refine AWP.seq ?_ | refine AWP.region ?_ | refine AWP.dk mixed ?_ | refine AWP.condT rfl ?_ | refine AWP.condF rfl ?_ | refine AWP.skip ?_ | refine AWP.ret ?_ | refine AWP.exit ?_ | refine AWP.block ?_ | refine wr5 ?_ | refine wr6 ?_ | refine wr7 ?_ | refine wr8 ?_ | refine wr9 ?_ | refine wr10 ?_ | refine wd5 ?_ | refine wd6 ?_ | refine wd7 ?_ | refine wd8 ?_ | refine wd10 ?_ )
    refine AWP.cond rfl (fun g => ?_) (fun g => ?_)
    · have g' : ¬ p.w k = true := by simpa using g
      have hd : docF p.w L (k + 1) = fun j => if j = k then true else docF p.w L k j := if_neg g'
      have hF : flagK p.w fl (k + 1) = flagK p.w fl k := if_neg g'
      repeat (first | refine wr1 ?_ | refine wr2 ?_ | refine wr3 ?_ | refine wr4 ?_ | refine Reg.nil ?_ | refine wd1 ?_ | refine wd2 ?_ | refine wd3 ?_ | refine wd4 ?_ | refine AWP.seq ?_ | refine AWP.region ?_ | refine AWP.dk mixed ?_ | refine AWP.condT rfl ?_ | refine AWP.condF rfl ?_ | refine AWP.skip ?_ | refine AWP.ret ?_ | refine AWP.exit ?_ | refine AWP.block ?_ | refine wr5 ?_ | refine wr6 ?_ | refine wr7 ?_ | refine wr8 ?_ | refine wr9 ?_ | refine wr10 ?_ | refine wd5 ?_ | refine wd6 ?_ | refine wd7 ?_ | refine wd8 ?_ | refine wd10 ?_ )
      refine ⟨k + 1, by omega, by omega, ?_⟩
      simp only [hd, hF]
      (apply Sub.to [] [[_],[_],[_],[_]]; all_goals (repeat' (first | exact ToAll.nil | exact famsTo.nil | exact famTo.nil | exact ToL.nil | exact ToR.nil | refine ToAll.cons ?_ ?_ | refine famsTo.cons ?_ ?_ | refine wt10 ?_ ?_ | exact To.undef _ | exact To.sc _ | exact To.hslL rfl rfl | exact To.ptrO rfl rfl rfl | exact To.mrefO rfl | exact To.nil rfl rfl rfl | exact wt1 | exact To.nilL | refine To.int ?_ | refine To.bool ?_ | refine To.hslL rfl ?_ | refine wt2 rfl ?_ ?_ ?_ | refine To.tupL ?_ | refine To.aggL ?_ | refine To.cptrL ?_ | refine wt3 ?_ | refine wt4 ?_ | refine To.cloL ?_ ?_ | exact wt5 | refine wt6 ?_ | refine ToB.one ?_ | exact wt7 | ((with_reducible apply ToL.consE); case e9 => rfl) | refine wt8 ?_ | refine ToL.cons ?_ ?_ | exact wt11 | refine wt9 ?_ ?_ | refine wt12 ?_ | (with_reducible rfl) | assumption)); all_goals (first | rfl | assumption | (simp; done) | (simp; omega) | skip))
      exact boolsR_set
    · have g' : p.w k = true := by simpa using g
      have hd : docF p.w L (k + 1) = KS (docF p.w L k) L[k] L[k].length := by rw [← hLd]; exact if_pos g'
      have hF : flagK p.w fl (k + 1) = andI (flagK p.w fl k) fl[k] := by rw [← hgd]; exact if_pos g'
      generalize L[k] = ks at hra h1 h2 hd
      have hlk := intsR_len ks
      repeat (first | refine wr1 ?_ | refine wr2 ?_ | refine wr3 ?_ | refine wr4 ?_ | refine Reg.nil ?_ | refine wd1 ?_ | refine wd2 ?_ | refine wd3 ?_ | refine wd4 ?_ | refine AWP.seq ?_ | refine AWP.region ?_ | refine AWP.dk mixed ?_ | refine AWP.condT rfl ?_ | refine AWP.condF rfl ?_ | refine AWP.skip ?_ | refine AWP.ret ?_ | refine AWP.exit ?_ | refine AWP.block ?_ | refine wr5 ?_ | refine wr6 ?_ | refine wr7 ?_ | refine wr8 ?_ | refine wr9 ?_ | refine wr10 ?_ | refine wd5 ?_ | refine wd6 ?_ | refine wd7 ?_ | refine wd8 ?_ | refine wd10 ?_ )
      refine DK.nil ⟨by kernel_rfl, ?_⟩
      repeat (first | refine wr1 ?_ | refine wr2 ?_ | refine wr3 ?_ | refine wr4 ?_ | refine Reg.nil ?_ | refine wd1 ?_ | refine wd2 ?_ | refine wd3 ?_ | refine wd4 ?_ | refine AWP.seq ?_ | refine AWP.region ?_ | refine AWP.dk mixed ?_ | refine AWP.condT rfl ?_ | refine AWP.condF rfl ?_ | refine AWP.skip ?_ | refine AWP.ret ?_ | refine AWP.exit ?_ | refine AWP.block ?_ | refine wr5 ?_ | refine wr6 ?_ | refine wr7 ?_ | refine wr8 ?_ | refine wr9 ?_ | refine wr10 ?_ | refine wd5 ?_ | refine wd6 ?_ | refine wd7 ?_ | refine wd8 ?_ | refine wd10 ?_ )
      refine AWP.loop (fun b : Nat => [(1, intsV fl), (2, knownV L), (3, .ptr 0 0 0 0), (6, .ptr 1 0 0 0), (7, .ptr 2 0 0 0), (8, .hsl 3 0 0 n), (9, .sc (.int .i64 k)), (10, .sc (.int .i64 b))])
        (fun b => [[.cells 5 [rRow n p]], [.cells 4 [z4]], [.cells 4 [rp4 p.dec (flagK p.w fl (k + 1))]], [.cells 1 (boolsR n (KS (docF p.w L k) ks b))]]) (fun b => b ≤ ks.length) (fun b => ks.length - b) 0 (Nat.zero_le _) ?_ ?_
      · simp only [KS_zero, hF]
        (apply Sub.to [] [[_],[_],[_],[_]]; all_goals (repeat' (first | exact ToAll.nil | exact famsTo.nil | exact famTo.nil | exact ToL.nil | exact ToR.nil | refine ToAll.cons ?_ ?_ | refine famsTo.cons ?_ ?_ | refine wt10 ?_ ?_ | exact To.undef _ | exact To.sc _ | exact To.hslL rfl rfl | exact To.ptrO rfl rfl rfl | exact To.mrefO rfl | exact To.nil rfl rfl rfl | exact wt1 | exact To.nilL | refine To.int ?_ | refine To.bool ?_ | refine To.hslL rfl ?_ | refine wt2 rfl ?_ ?_ ?_ | refine To.tupL ?_ | refine To.aggL ?_ | refine To.cptrL ?_ | refine wt3 ?_ | refine wt4 ?_ | refine To.cloL ?_ ?_ | exact wt5 | refine wt6 ?_ | refine ToB.one ?_ | exact wt7 | ((with_reducible apply ToL.consE); case e9 => rfl) | refine wt8 ?_ | refine ToL.cons ?_ ?_ | exact wt11 | refine wt9 ?_ ?_ | refine wt12 ?_ | (with_reducible rfl) | assumption)); all_goals (first | rfl | assumption | (simp; done) | (simp; omega) | skip))
      intro b hb
      have hb1 := wrap_succ (k := b) (by omega)
      repeat (first | refine wr1 ?_ | refine wr2 ?_ | refine wr3 ?_ | refine wr4 ?_ | refine Reg.nil ?_ | refine wd1 ?_ | refine wd2 ?_ | refine wd3 ?_ | refine wd4 ?_ | refine AWP.seq ?_ | refine AWP.region ?_ | refine AWP.dk mixed ?_ | refine AWP.condT rfl ?_ | refine AWP.condF rfl ?_ | refine AWP.skip ?_ | refine AWP.ret ?_ | refine AWP.exit ?_ | refine AWP.block ?_ | refine wr5 ?_ | refine wr6 ?_ | refine wr7 ?_ | refine wr8 ?_ | refine wr9 ?_ | refine wr10 ?_ | refine wd5 ?_ | refine wd6 ?_ | refine wd7 ?_ | refine wd8 ?_ | refine wd10 ?_ )
      refine AWP.condN (b < ks.length) rfl (by simp [hlk]) (fun h => ?_) (fun h => ?_)
      · have hrb : rowIx (intsR ks) (b : Int) = some [.sc (.int .i64 ks[b])] := rowIx_map _ ks b h
        have h3 := h2 ks[b] (List.getElem_mem h)
        have hK := KS_succ (s := docF p.w L k) h
        generalize ks[b] = x at hrb h3 hK
        obtain ⟨q, rfl⟩ : ∃ q : Nat, x = q := ⟨x.toNat, by omega⟩
        have hgq : (boolsR n (KS (docF p.w L k) ks b))[q]? = some [.sc (.bool (KS (docF p.w L k) ks b q))] := boolsR_get (by omega)
        have hqn : q < n := by omega
        have hK' : KS (docF p.w L k) ks (b + 1) = fun j => if j = q then true else KS (docF p.w L k) ks b j := by
          funext j
          rw [hK j]
          rfl
        repeat (first | refine wr1 ?_ | refine wr2 ?_ | refine wr3 ?_ | refine wr4 ?_ | refine Reg.nil ?_ | refine wd1 ?_ | refine wd2 ?_ | refine wd3 ?_ | refine wd4 ?_ | refine AWP.seq ?_ | refine AWP.region ?_ | refine AWP.dk mixed ?_ | refine AWP.condT rfl ?_ | refine AWP.condF rfl ?_ | refine AWP.skip ?_ | refine AWP.ret ?_ | refine AWP.exit ?_ | refine AWP.block ?_ | refine wr5 ?_ | refine wr6 ?_ | refine wr7 ?_ | refine wr8 ?_ | refine wr9 ?_ | refine wr10 ?_ | refine wd5 ?_ | refine wd6 ?_ | refine wd7 ?_ | refine wd8 ?_ | refine wd10 ?_ )
        refine ⟨b + 1, by omega, by omega, ?_⟩
        simp only [hK']
        (apply Sub.to [] [[_],[_],[_],[_]]; all_goals (repeat' (first | exact ToAll.nil | exact famsTo.nil | exact famTo.nil | exact ToL.nil | exact ToR.nil | refine ToAll.cons ?_ ?_ | refine famsTo.cons ?_ ?_ | refine wt10 ?_ ?_ | exact To.undef _ | exact To.sc _ | exact To.hslL rfl rfl | exact To.ptrO rfl rfl rfl | exact To.mrefO rfl | exact To.nil rfl rfl rfl | exact wt1 | exact To.nilL | refine To.int ?_ | refine To.bool ?_ | refine To.hslL rfl ?_ | refine wt2 rfl ?_ ?_ ?_ | refine To.tupL ?_ | refine To.aggL ?_ | refine To.cptrL ?_ | refine wt3 ?_ | refine wt4 ?_ | refine To.cloL ?_ ?_ | exact wt5 | refine wt6 ?_ | refine ToB.one ?_ | exact wt7 | ((with_reducible apply ToL.consE); case e9 => rfl) | refine wt8 ?_ | refine ToL.cons ?_ ?_ | exact wt11 | refine wt9 ?_ ?_ | refine wt12 ?_ | (with_reducible rfl) | assumption)); all_goals (first | rfl | assumption | (simp; done) | (simp; omega) | skip))
        exact boolsR_set
      · have hbk : b = ks.length := by omega
        repeat (first | refine wr1 ?_ | refine wr2 ?_ | refine wr3 ?_ | refine wr4 ?_ | refine Reg.nil ?_ | refine wd1 ?_ | refine wd2 ?_ | refine wd3 ?_ | refine wd4 ?_ | refine AWP.seq ?_ | refine AWP.region ?_ | refine AWP.dk mixed ?_ | refine AWP.condT rfl ?_ | refine AWP.condF rfl ?_ | refine AWP.skip ?_ | refine AWP.ret ?_ | refine AWP.exit ?_ | refine AWP.block ?_ | refine wr5 ?_ | refine wr6 ?_ | refine wr7 ?_ | refine wr8 ?_ | refine wr9 ?_ | refine wr10 ?_ | refine wd5 ?_ | refine wd6 ?_ | refine wd7 ?_ | refine wd8 ?_ | refine wd10 ?_ )
        refine ⟨k + 1, by omega, by omega, ?_⟩
        simp only [hd, hbk]
        (apply Sub.to [] [[_],[_],[_],[_]]; all_goals (repeat' (first | exact ToAll.nil | exact famsTo.nil | exact famTo.nil | exact ToL.nil | exact ToR.nil | refine ToAll.cons ?_ ?_ | refine famsTo.cons ?_ ?_ | refine wt10 ?_ ?_ | exact To.undef _ | exact To.sc _ | exact To.hslL rfl rfl | exact To.ptrO rfl rfl rfl | exact To.mrefO rfl | exact To.nil rfl rfl rfl | exact wt1 | exact To.nilL | refine To.int ?_ | refine To.bool ?_ | refine To.hslL rfl ?_ | refine wt2 rfl ?_ ?_ ?_ | refine To.tupL ?_ | refine To.aggL ?_ | refine To.cptrL ?_ | refine wt3 ?_ | refine wt4 ?_ | refine To.cloL ?_ ?_ | exact wt5 | refine wt6 ?_ | refine ToB.one ?_ | exact wt7 | ((with_reducible apply ToL.consE); case e9 => rfl) | refine wt8 ?_ | refine ToL.cons ?_ ?_ | exact wt11 | refine wt9 ?_ ?_ | refine wt12 ?_ | (with_reducible rfl) | assumption)); all_goals (first | rfl | assumption | (simp; done) | (simp; omega) | skip))
  · have hkn : k = n := by omega
    subst hkn
    have hE := agreed_elems (w := p.w) (by omega) hL hx
    have eX : rpRow (agreedS p fl L) = [.sc (.bool true), .sc (.int .i64 p.dec), .sc (.int .i64 (flagK p.w fl k)), intsV (elems k (docF p.w L k))] := by
      rw [hE]
      unfold agreedS
      rw [hfl]
      rfl
    rw [eX]
    generalize docF p.w L k = D
    repeat (first | refine wr1 ?_ | refine wr2 ?_ | refine wr3 ?_ | refine wr4 ?_ | refine Reg.nil ?_ | refine wd1 ?_ | refine wd2 ?_ | refine wd3 ?_ | refine wd4 ?_ | refine AWP.seq ?_ | refine AWP.region ?_ | refine AWP.dk mixed ?_ | refine AWP.condT rfl ?_ | refine AWP.condF rfl ?_ | refine AWP.skip ?_ | refine AWP.ret ?_ | refine AWP.exit ?_ | refine AWP.block ?_ | refine wr5 ?_ | refine wr6 ?_ | refine wr7 ?_ | refine wr8 ?_ | refine wr9 ?_ | refine wr10 ?_ | refine wd5 ?_ | refine wd6 ?_ | refine wd7 ?_ | refine wd8 ?_ | refine wd10 ?_ )
    refine AWP.loop (fun j : Nat => [(6, .ptr 0 0 0 0), (7, .ptr 1 0 0 0), (8, .hsl 2 0 0 k), (11, .sc (.int .i64 j))])
      (fun j => [[.cells 4 [z4]], [.cells 4 [[.sc (.bool true), .sc (.int .i64 p.dec), .sc (.int .i64 (flagK p.w fl k)), .hsl 3 0 0 (elems j D).length]]], [.cells 1 (boolsR k D)], [.cells 1 (intsR (elems j D))]]) (fun j => j ≤ k) (fun j => k - j) 0 (Nat.zero_le _) ?_ ?_
    · (apply Sub.to [1] [[_],[_],[_],[(4,0)]]; all_goals (repeat' (first | exact ToAll.nil | exact famsTo.nil | exact famTo.nil | exact ToL.nil | exact ToR.nil | refine ToAll.cons ?_ ?_ | refine famsTo.cons ?_ ?_ | refine wt10 ?_ ?_ | exact To.undef _ | exact To.sc _ | exact To.hslL rfl rfl | exact To.ptrO rfl rfl rfl | exact To.mrefO rfl | exact To.nil rfl rfl rfl | exact wt1 | exact To.nilL | refine To.int ?_ | refine To.bool ?_ | refine To.hslL rfl ?_ | refine wt2 rfl ?_ ?_ ?_ | refine To.tupL ?_ | refine To.aggL ?_ | refine To.cptrL ?_ | refine wt3 ?_ | refine wt4 ?_ | refine To.cloL ?_ ?_ | exact wt5 | refine wt6 ?_ | refine ToB.one ?_ | exact wt7 | ((with_reducible apply ToL.consE); case e9 => rfl) | refine wt8 ?_ | refine ToL.cons ?_ ?_ | exact wt11 | refine wt9 ?_ ?_ | refine wt12 ?_ | (with_reducible rfl) | assumption)); all_goals (first | rfl | assumption | (simp; done) | (simp; omega) | skip))
    intro j hj
    have hj1 := wrap_succ (k := j) (by omega)
    have hel : (elems j D).length ≤ j := elems_len j D
    repeat (first | refine wr1 ?_ | refine wr2 ?_ | refine wr3 ?_ | refine wr4 ?_ | refine Reg.nil ?_ | refine wd1 ?_ | refine wd2 ?_ | refine wd3 ?_ | refine wd4 ?_ | refine AWP.seq ?_ | refine AWP.region ?_ | refine AWP.dk mixed ?_ | refine AWP.condT rfl ?_ | refine AWP.condF rfl ?_ | refine AWP.skip ?_ | refine AWP.ret ?_ | refine AWP.exit ?_ | refine AWP.block ?_ | refine wr5 ?_ | refine wr6 ?_ | refine wr7 ?_ | refine wr8 ?_ | refine wr9 ?_ | refine wr10 ?_ | refine wd5 ?_ | refine wd6 ?_ | refine wd7 ?_ | refine wd8 ?_ | refine wd10 ?_ )
    refine AWP.condN (j < k) rfl (by simp) (fun h => ?_) (fun h => ?_)
    · have hgD : (boolsR k D)[j]? = some [.sc (.bool (D j))] := boolsR_get h
      have hES := elems_succ j D
      repeat (first | refine wr1 ?_ | refine wr2 ?_ | refine wr3 ?_ | refine wr4 ?_ | refine Reg.nil ?_ | refine wd1 ?_ | refine wd2 ?_ | refine wd3 ?_ | refine wd4 ?_ | refine AWP.seq ?_ | refine AWP.region ?_ | refine AWP.dk mixed ?_ | refine AWP.condT rfl ?_ | refine AWP.condF rfl ?_ | refine AWP.skip ?_ | refine AWP.ret ?_ | refine AWP.exit ?_ | refine AWP.block ?_ | refine wr5 ?_ | refine wr6 ?_ | refine wr7 ?_ | refine wr8 ?_ | refine wr9 ?_ | refine wr10 ?_ | refine wd5 ?_ | refine wd6 ?_ | refine wd7 ?_ | refine wd8 ?_ | refine wd10 ?_ )
      refine AWP.cond rfl (fun g => ?_) (fun g => ?_)
      · rw [if_pos g] at hES
        repeat (first | refine wr1 ?_ | refine wr2 ?_ | refine wr3 ?_ | refine wr4 ?_ | refine Reg.nil ?_ | refine wd1 ?_ | refine wd2 ?_ | refine wd3 ?_ | refine wd4 ?_ | refine AWP.seq ?_ | refine AWP.region ?_ | refine AWP.dk mixed ?_ | refine AWP.condT rfl ?_ | refine AWP.condF rfl ?_ | refine AWP.skip ?_ | refine AWP.ret ?_ | refine AWP.exit ?_ | refine AWP.block ?_ | refine wr5 ?_ | refine wr6 ?_ | refine wr7 ?_ | refine wr8 ?_ | refine wr9 ?_ | refine wr10 ?_ | refine wd5 ?_ | refine wd6 ?_ | refine wd7 ?_ | refine wd8 ?_ | refine wd10 ?_ )
        refine ⟨j + 1, by omega, by omega, ?_⟩
        simp only [hES]
        (apply Sub.to [] [[_],[_],[_],[_]]; all_goals (repeat' (first | exact ToAll.nil | exact famsTo.nil | exact famTo.nil | exact ToL.nil | exact ToR.nil | refine ToAll.cons ?_ ?_ | refine famsTo.cons ?_ ?_ | refine wt10 ?_ ?_ | exact To.undef _ | exact To.sc _ | exact To.hslL rfl rfl | exact To.ptrO rfl rfl rfl | exact To.mrefO rfl | exact To.nil rfl rfl rfl | exact wt1 | exact To.nilL | refine To.int ?_ | refine To.bool ?_ | refine To.hslL rfl ?_ | refine wt2 rfl ?_ ?_ ?_ | refine To.tupL ?_ | refine To.aggL ?_ | refine To.cptrL ?_ | refine wt3 ?_ | refine wt4 ?_ | refine To.cloL ?_ ?_ | exact wt5 | refine wt6 ?_ | refine ToB.one ?_ | exact wt7 | ((with_reducible apply ToL.consE); case e9 => rfl) | refine wt8 ?_ | refine ToL.cons ?_ ?_ | exact wt11 | refine wt9 ?_ ?_ | refine wt12 ?_ | (with_reducible rfl) | assumption)); all_goals (first | rfl | assumption | (simp; done) | (simp; omega) | skip))
        show intsR (elems j D) ++ [[.sc (.int .i64 (j : Int))]] = _
        simp [intsR]
      · rw [if_neg (by rw [g]; decide), List.append_nil] at hES
        repeat (first | refine wr1 ?_ | refine wr2 ?_ | refine wr3 ?_ | refine wr4 ?_ | refine Reg.nil ?_ | refine wd1 ?_ | refine wd2 ?_ | refine wd3 ?_ | refine wd4 ?_ | refine AWP.seq ?_ | refine AWP.region ?_ | refine AWP.dk mixed ?_ | refine AWP.condT rfl ?_ | refine AWP.condF rfl ?_ | refine AWP.skip ?_ | refine AWP.ret ?_ | refine AWP.exit ?_ | refine AWP.block ?_ | refine wr5 ?_ | refine wr6 ?_ | refine wr7 ?_ | refine wr8 ?_ | refine wr9 ?_ | refine wr10 ?_ | refine wd5 ?_ | refine wd6 ?_ | refine wd7 ?_ | refine wd8 ?_ | refine wd10 ?_ )
        refine ⟨j + 1, by omega, by omega, ?_⟩
        simp only [hES]
        (apply Sub.to [] [[_],[_],[_],[_]]; all_goals (repeat' (first | exact ToAll.nil | exact famsTo.nil | exact famTo.nil | exact ToL.nil | exact ToR.nil | refine ToAll.cons ?_ ?_ | refine famsTo.cons ?_ ?_ | refine wt10 ?_ ?_ | exact To.undef _ | exact To.sc _ | exact To.hslL rfl rfl | exact To.ptrO rfl rfl rfl | exact To.mrefO rfl | exact To.nil rfl rfl rfl | exact wt1 | exact To.nilL | refine To.int ?_ | refine To.bool ?_ | refine To.hslL rfl ?_ | refine wt2 rfl ?_ ?_ ?_ | refine To.tupL ?_ | refine To.aggL ?_ | refine To.cptrL ?_ | refine wt3 ?_ | refine wt4 ?_ | refine To.cloL ?_ ?_ | exact wt5 | refine wt6 ?_ | refine ToB.one ?_ | exact wt7 | ((with_reducible apply ToL.consE); case e9 => rfl) | refine wt8 ?_ | refine ToL.cons ?_ ?_ | exact wt11 | refine wt9 ?_ ?_ | refine wt12 ?_ | (with_reducible rfl) | assumption)); all_goals (first | rfl | assumption | (simp; done) | (simp; omega) | skip))
    · have hjk : j = k := by omega
      rw [hjk]
      repeat (first | refine wr1 ?_ | refine wr2 ?_ | refine wr3 ?_ | refine wr4 ?_ | refine Reg.nil ?_ | refine wd1 ?_ | refine wd2 ?_ | refine wd3 ?_ | refine wd4 ?_ | refine AWP.seq ?_ | refine AWP.region ?_ | refine AWP.dk mixed ?_ | refine AWP.condT rfl ?_ | refine AWP.condF rfl ?_ | refine AWP.skip ?_ | refine AWP.ret ?_ | refine AWP.exit ?_ | refine AWP.block ?_ | refine wr5 ?_ | refine wr6 ?_ | refine wr7 ?_ | refine wr8 ?_ | refine wr9 ?_ | refine wr10 ?_ | refine wd5 ?_ | refine wd6 ?_ | refine wd7 ?_ | refine wd8 ?_ | refine wd10 ?_ )
      (refine EndP.mk (.inr rfl) rfl rfl ?_; all_goals (repeat' (first | exact ToAll.nil | exact famsTo.nil | exact famTo.nil | exact ToL.nil | exact ToR.nil | refine ToAll.cons ?_ ?_ | refine famsTo.cons ?_ ?_ | refine wt10 ?_ ?_ | exact To.undef _ | exact To.sc _ | exact To.hslL rfl rfl | exact To.ptrO rfl rfl rfl | exact To.mrefO rfl | exact To.nil rfl rfl rfl | exact wt1 | exact To.nilL | refine To.int ?_ | refine To.bool ?_ | refine To.hslL rfl ?_ | refine wt2 rfl ?_ ?_ ?_ | refine To.tupL ?_ | refine To.aggL ?_ | refine To.cptrL ?_ | refine wt3 ?_ | refine wt4 ?_ | refine To.cloL ?_ ?_ | exact wt5 | refine wt6 ?_ | refine ToB.one ?_ | exact wt7 | ((with_reducible apply ToL.consE); case e9 => rfl) | refine wt8 ?_ | refine ToL.cons ?_ ?_ | exact wt11 | refine wt9 ?_ ?_ | refine wt12 ?_ | (with_reducible rfl) | assumption)); all_goals (first | rfl | assumption | (simp; done) | (simp; omega) | skip))

end Go.Proofs.Ytbpmbofinoinmaa
