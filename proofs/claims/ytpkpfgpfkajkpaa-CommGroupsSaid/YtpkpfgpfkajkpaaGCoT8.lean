import Derived.Test.YtpkpfgpfkajkpaaGCoT1
import Derived.Test.YtpkpfgpfkajkpaaGCoS1
namespace Go.Proofs.Ytpkpfgpfkajkpaa
open Go.Av Go.Proofs
set_option maxRecDepth 20000
theorem check0_rng {l : List Int} (h : checkE l = 0) : (∀ x ∈ l, 0 ≤ x ∧ x < 64) ∧ l.Nodup ∧ l.length ≤ 64 := by
  unfold checkE at h
  split at h
  · cases h
  · rename_i h1
    have key : ∀ (l s : List Int), distE 64 s l = 0 → (∀ x ∈ l, 0 ≤ x ∧ x < 64) ∧ (∀ x ∈ l, x ∉ s) ∧ l.Nodup := by
      intro l
      induction l with
      | nil => exact fun s _ => ⟨fun _ h => (by cases h), fun _ h => (by cases h), .nil⟩
      | cons y l ih =>
        intro s h
        unfold distE at h
        split at h
        · cases h
        · rename_i h1
          split at h
          · cases h
          · rename_i h2
            obtain ⟨a, b, c⟩ := ih _ h
            refine ⟨fun x hx => ?_, fun x hx => ?_, List.nodup_cons.2 ⟨fun hy => b y hy (by simp), c⟩⟩
            · rcases List.mem_cons.1 hx with rfl | hx
              · omega
              · exact a x hx
            · rcases List.mem_cons.1 hx with rfl | hx
              · exact h2
              · exact fun hs => b x hx (List.mem_append_left _ hs)
    obtain ⟨a, _, c⟩ := key l [] h
    exact ⟨a, c, by omega⟩
theorem flagR_at (s : List Int) {q : Nat} (h : q < 64) : ∃ rest, (flagR s).drop (q * 1) = .sc (.bool (decide ((q : Int) ∈ s))) :: rest := by
  have h1 := flagR_get s q h
  have hl := flagR_len s
  rw [Nat.mul_one, List.drop_eq_getElem_cons (by omega)]
  refine ⟨_, congrArg (· :: _) ?_⟩
  rw [List.getElem?_eq_getElem (by omega)] at h1
  injection h1
set_option maxHeartbeats 4000000 in
theorem notin_ok (s : List Int) (q : Nat) (h : q < 64) : PureRun Try.prog 82 [.sc (.int .i64 (q : Int)), .cptr (flagR s)] (.sc (.bool (!decide ((q : Int) ∈ s)))) := by
  refine PureRun.of (allPure_cons (.sc _) (allPure_cons (.cptr _ (pr _)) allPure_nil)) (.sc _) (CallOK.mono (R := fun res H' => res = .sc (.bool (!decide ((q : Int) ∈ s))) ∧ H' = []) ?_ fun _ _ h => h.1)
  obtain ⟨rest, hr⟩ := flagR_at s h
  refine CallOK.of cF82 ?_ (Nat.le_of_ble_eq_true rfl)
  refine AWP.seq ?_
  refine AWP.region ?_
  refine Reg.o rfl rfl ?_
  refine Reg.nil ?_
  refine AWP.seq ?_
  refine AWP.region ?_
  refine Reg.o rfl rfl ?_
  refine Reg.o rfl (dstep_idxArrC rfl rfl rfl h) ?_
  refine Reg.o rfl (dstep_ld1C rfl hr) ?_
  refine walkX ?_
  (refine endH [] (by first | exact .inr rfl | exact .inl rfl) rfl ⟨rfl, rfl⟩ ?_ ?_ rfl rfl rfl; all_goals (repeat' (first | exact ToAll.nil | exact famsTo.nil | exact famTo.nil | exact ToL.nil | exact ToR.nil | refine ToAll.cons ?_ ?_ | refine famsTo.cons ?_ ?_ | refine wt10 ?_ ?_ | exact To.undef _ | exact To.sc _ | exact To.hslL rfl rfl | exact To.ptrO rfl rfl rfl | exact To.mrefO rfl | exact To.nil rfl rfl rfl | exact wt1 | exact To.nilL | refine To.int ?_ | refine To.bool ?_ | refine To.hslL rfl ?_ | refine wt2 rfl ?_ ?_ ?_ | refine To.tupL ?_ | refine To.aggL ?_ | refine To.cptrL ?_ | refine wt3 ?_ | refine wt4 ?_ | refine To.cloL ?_ ?_ | exact wt5 | refine wt6 ?_ | refine ToB.one ?_ | exact wt7 | ((with_reducible apply ToL.consE); case e9 => rfl) | refine wt8 ?_ | refine ToL.cons ?_ ?_ | exact wt11 | refine wt9 ?_ ?_ | refine wt12 ?_ | (with_reducible rfl) | assumption)); all_goals (first | rfl | assumption | (simp; done) | (simp; omega) | (rw [wrap_small (by omega) (by omega)]; done) | (rw [wrap_small (by omega) (by omega)]; omega) | (refine congrArg Nat.cast ?_; assumption) | skip))
set_option maxHeartbeats 4000000 in
theorem notin_ok2 (s : List Int) (q : Nat) (h : q < 64) : PureRun Try.prog 87 [.sc (.int .i64 (q : Int)), .cptr (flagR s)] (.sc (.bool (!decide ((q : Int) ∈ s)))) := by
  refine PureRun.of (allPure_cons (.sc _) (allPure_cons (.cptr _ (pr _)) allPure_nil)) (.sc _) (CallOK.mono (R := fun res H' => res = .sc (.bool (!decide ((q : Int) ∈ s))) ∧ H' = []) ?_ fun _ _ h => h.1)
  obtain ⟨rest, hr⟩ := flagR_at s h
  refine CallOK.of cF87 ?_ (Nat.le_of_ble_eq_true rfl)
  refine AWP.seq ?_
  refine AWP.region ?_
  refine Reg.o rfl rfl ?_
  refine Reg.nil ?_
  refine AWP.seq ?_
  refine AWP.region ?_
  refine Reg.o rfl rfl ?_
  refine Reg.o rfl (dstep_idxArrC rfl rfl rfl h) ?_
  refine Reg.o rfl (dstep_ld1C rfl hr) ?_
  refine walkX ?_
  (refine endH [] (by first | exact .inr rfl | exact .inl rfl) rfl ⟨rfl, rfl⟩ ?_ ?_ rfl rfl rfl; all_goals (repeat' (first | exact ToAll.nil | exact famsTo.nil | exact famTo.nil | exact ToL.nil | exact ToR.nil | refine ToAll.cons ?_ ?_ | refine famsTo.cons ?_ ?_ | refine wt10 ?_ ?_ | exact To.undef _ | exact To.sc _ | exact To.hslL rfl rfl | exact To.ptrO rfl rfl rfl | exact To.mrefO rfl | exact To.nil rfl rfl rfl | exact wt1 | exact To.nilL | refine To.int ?_ | refine To.bool ?_ | refine To.hslL rfl ?_ | refine wt2 rfl ?_ ?_ ?_ | refine To.tupL ?_ | refine To.aggL ?_ | refine To.cptrL ?_ | refine wt3 ?_ | refine wt4 ?_ | refine To.cloL ?_ ?_ | exact wt5 | refine wt6 ?_ | refine ToB.one ?_ | exact wt7 | ((with_reducible apply ToL.consE); case e9 => rfl) | refine wt8 ?_ | refine ToL.cons ?_ ?_ | exact wt11 | refine wt9 ?_ ?_ | refine wt12 ?_ | (with_reducible rfl) | assumption)); all_goals (first | rfl | assumption | (simp; done) | (simp; omega) | (rw [wrap_small (by omega) (by omega)]; done) | (rw [wrap_small (by omega) (by omega)]; omega) | (refine congrArg Nat.cast ?_; assumption) | skip))
set_option maxHeartbeats 4000000 in
theorem isin_ok (s : List Int) (q : Nat) (h : q < 64) : PureRun Try.prog 86 [.sc (.int .i64 (q : Int)), .cptr (flagR s)] (.sc (.bool (decide ((q : Int) ∈ s)))) := by
  refine PureRun.of (allPure_cons (.sc _) (allPure_cons (.cptr _ (pr _)) allPure_nil)) (.sc _) (CallOK.mono (R := fun res H' => res = .sc (.bool (decide ((q : Int) ∈ s))) ∧ H' = []) ?_ fun _ _ h => h.1)
  obtain ⟨rest, hr⟩ := flagR_at s h
  refine CallOK.of cF86 ?_ (Nat.le_of_ble_eq_true rfl)
  refine AWP.seq ?_
  refine AWP.region ?_
  refine Reg.o rfl rfl ?_
  refine Reg.nil ?_
  refine AWP.seq ?_
  refine AWP.region ?_
  refine Reg.o rfl rfl ?_
  refine Reg.o rfl (dstep_idxArrC rfl rfl rfl h) ?_
  refine Reg.o rfl (dstep_ld1C rfl hr) ?_
  refine walkX ?_
  (refine endH [] (by first | exact .inr rfl | exact .inl rfl) rfl ⟨rfl, rfl⟩ ?_ ?_ rfl rfl rfl; all_goals (repeat' (first | exact ToAll.nil | exact famsTo.nil | exact famTo.nil | exact ToL.nil | exact ToR.nil | refine ToAll.cons ?_ ?_ | refine famsTo.cons ?_ ?_ | refine wt10 ?_ ?_ | exact To.undef _ | exact To.sc _ | exact To.hslL rfl rfl | exact To.ptrO rfl rfl rfl | exact To.mrefO rfl | exact To.nil rfl rfl rfl | exact wt1 | exact To.nilL | refine To.int ?_ | refine To.bool ?_ | refine To.hslL rfl ?_ | refine wt2 rfl ?_ ?_ ?_ | refine To.tupL ?_ | refine To.aggL ?_ | refine To.cptrL ?_ | refine wt3 ?_ | refine wt4 ?_ | refine To.cloL ?_ ?_ | exact wt5 | refine wt6 ?_ | refine ToB.one ?_ | exact wt7 | ((with_reducible apply ToL.consE); case e9 => rfl) | refine wt8 ?_ | refine ToL.cons ?_ ?_ | exact wt11 | refine wt9 ?_ ?_ | refine wt12 ?_ | (with_reducible rfl) | assumption)); all_goals (first | rfl | assumption | (simp; done) | (simp; omega) | (rw [wrap_small (by omega) (by omega)]; done) | (rw [wrap_small (by omega) (by omega)]; omega) | (refine congrArg Nat.cast ?_; assumption) | skip))
set_option maxHeartbeats 4000000 in
theorem keep_ok (g : FuncId) (s l : List Int) (p : Int → Bool) (hl : l.length ≤ 1000000) (hb : ∀ x ∈ l, 0 ≤ x ∧ x < 64) (hc : ∀ q : Nat, q < 64 → PureRun Try.prog g [.sc (.int .i64 (q : Int)), .cptr (flagR s)] (.sc (.bool (p q)))) :
    CallOK Try.prog 81 [.list 1 (intsR l), .clo (.func g) [] [.cptr (flagR s)]] [] fun res H' => res = .hsl 0 0 0 (l.filter p).length ∧ H' = [[.cells 1 (intsR (l.filter p))]] := by
  refine CallOK.of cF81 ?_ (Nat.le_of_ble_eq_true rfl)
  have e0 := intsR_len l
  have hpc : Pure (.clo (.func g) [] [.cptr (flagR s)]) := .clo _ _ _ (fun _ h => by cases h) (allPure_cons (.cptr _ (pr _)) allPure_nil)
  refine walkX ?_
  rw [e0]
  refine AWP.loop (fun k : Nat => [(1, .clo (.func g) [] [.cptr (flagR s)]), (5, .hsl 0 0 0 ((l.take k).filter p).length), (8, .list 1 (intsR l)), (9, .sc (.int .i64 (l.length : Int))), (10, .sc (.int .i64 (k : Int)))])
    (fun k => [[.cells 1 (intsR ((l.take k).filter p))]]) (fun k => k ≤ l.length) (fun k => l.length - k) 0 (Nat.zero_le _) ?_ ?_
  · (apply Sub.to [1] [[(0,0)]]; all_goals (repeat' (first | exact ToAll.nil | exact famsTo.nil | exact famTo.nil | exact ToL.nil | exact ToR.nil | refine ToAll.cons ?_ ?_ | refine famsTo.cons ?_ ?_ | refine wt10 ?_ ?_ | exact To.undef _ | exact To.sc _ | exact To.hslL rfl rfl | exact To.ptrO rfl rfl rfl | exact To.mrefO rfl | exact To.nil rfl rfl rfl | exact wt1 | exact To.nilL | refine To.int ?_ | refine To.bool ?_ | refine To.hslL rfl ?_ | refine wt2 rfl ?_ ?_ ?_ | refine To.tupL ?_ | refine To.aggL ?_ | refine To.cptrL ?_ | refine wt3 ?_ | refine wt4 ?_ | refine To.cloL ?_ ?_ | exact wt5 | refine wt6 ?_ | refine ToB.one ?_ | exact wt7 | ((with_reducible apply ToL.consE); case e9 => rfl) | refine wt8 ?_ | refine ToL.cons ?_ ?_ | exact wt11 | refine wt9 ?_ ?_ | refine wt12 ?_ | (with_reducible rfl) | assumption)); all_goals (first | rfl | assumption | (simp; done) | (simp; omega) | (rw [wrap_small (by omega) (by omega)]; done) | (rw [wrap_small (by omega) (by omega)]; omega) | (refine congrArg Nat.cast ?_; assumption) | skip))
    all_goals exact To.pure hpc
  rintro k hk
  refine walkX ?_
  refine AWP.condD rfl (fun h => ?_) (fun h => ?_)
  · have hr := intsR_ix l k h
    have hx := hb l[k] (List.getElem_mem h)
    have ht := List.take_succ_eq_append_getElem h
    have hle : ((l.take k).filter p).length ≤ 1000000 := Nat.le_trans (List.length_filter_le _ _) (by rw [List.length_take]; omega)
    generalize l[k] = x at *
    obtain ⟨q, rfl⟩ : ∃ q : Nat, x = q := ⟨x.toNat, by omega⟩
    have hv := hc q (by omega)
    have e1 := intsR_len ((l.take k).filter p)
    refine walkX ?_
    cases hp : p q with
    | true =>
      have e2 : (l.take (k + 1)).filter p = (l.take k).filter p ++ [(q : Int)] := by rw [ht, List.filter_append, List.filter_cons, if_pos hp]; rfl
      have e3 : intsR ((l.take k).filter p ++ [(q : Int)]) = intsR ((l.take k).filter p) ++ [[.sc (.int .i64 (q : Int))]] := by simp [intsR]
      have e4 : ((l.take k).filter p ++ [(q : Int)]).length = ((l.take k).filter p).length + 1 := by simp
      generalize (l.take k).filter p = o at *
      refine walkX ?_
      refine ⟨k + 1, by omega, by omega, ?_⟩
      rw [e2, e3, e4]
      (apply Sub.to [] [[(2,0)]]; all_goals (repeat' (first | exact ToAll.nil | exact famsTo.nil | exact famTo.nil | exact ToL.nil | exact ToR.nil | refine ToAll.cons ?_ ?_ | refine famsTo.cons ?_ ?_ | refine wt10 ?_ ?_ | exact To.undef _ | exact To.sc _ | exact To.hslL rfl rfl | exact To.ptrO rfl rfl rfl | exact To.mrefO rfl | exact To.nil rfl rfl rfl | exact wt1 | exact To.nilL | refine To.int ?_ | refine To.bool ?_ | refine To.hslL rfl ?_ | refine wt2 rfl ?_ ?_ ?_ | refine To.tupL ?_ | refine To.aggL ?_ | refine To.cptrL ?_ | refine wt3 ?_ | refine wt4 ?_ | refine To.cloL ?_ ?_ | exact wt5 | refine wt6 ?_ | refine ToB.one ?_ | exact wt7 | ((with_reducible apply ToL.consE); case e9 => rfl) | refine wt8 ?_ | refine ToL.cons ?_ ?_ | exact wt11 | refine wt9 ?_ ?_ | refine wt12 ?_ | (with_reducible rfl) | assumption)); all_goals (first | rfl | assumption | (simp; done) | (simp; omega) | (rw [wrap_small (by omega) (by omega)]; done) | (rw [wrap_small (by omega) (by omega)]; omega) | (refine congrArg Nat.cast ?_; assumption) | skip))
      all_goals exact To.pure hpc
    | false =>
      have e2 : (l.take (k + 1)).filter p = (l.take k).filter p := by rw [ht, List.filter_append, List.filter_cons, if_neg (by rw [hp]; simp)]; simp
      generalize (l.take k).filter p = o at *
      refine walkX ?_
      refine ⟨k + 1, by omega, by omega, ?_⟩
      rw [e2]
      (apply Sub.to [] [[(0,0)]]; all_goals (repeat' (first | exact ToAll.nil | exact famsTo.nil | exact famTo.nil | exact ToL.nil | exact ToR.nil | refine ToAll.cons ?_ ?_ | refine famsTo.cons ?_ ?_ | refine wt10 ?_ ?_ | exact To.undef _ | exact To.sc _ | exact To.hslL rfl rfl | exact To.ptrO rfl rfl rfl | exact To.mrefO rfl | exact To.nil rfl rfl rfl | exact wt1 | exact To.nilL | refine To.int ?_ | refine To.bool ?_ | refine To.hslL rfl ?_ | refine wt2 rfl ?_ ?_ ?_ | refine To.tupL ?_ | refine To.aggL ?_ | refine To.cptrL ?_ | refine wt3 ?_ | refine wt4 ?_ | refine To.cloL ?_ ?_ | exact wt5 | refine wt6 ?_ | refine ToB.one ?_ | exact wt7 | ((with_reducible apply ToL.consE); case e9 => rfl) | refine wt8 ?_ | refine ToL.cons ?_ ?_ | exact wt11 | refine wt9 ?_ ?_ | refine wt12 ?_ | (with_reducible rfl) | assumption)); all_goals (first | rfl | assumption | (simp; done) | (simp; omega) | (rw [wrap_small (by omega) (by omega)]; done) | (rw [wrap_small (by omega) (by omega)]; omega) | (refine congrArg Nat.cast ?_; assumption) | skip))
      all_goals exact To.pure hpc
  have hk : k = l.length := by omega
  subst hk
  rw [List.take_of_length_le (Nat.le_refl _)]
  refine walkX ?_
  (refine endH [[(0,0)]] (by first | exact .inr rfl | exact .inl rfl) rfl ⟨rfl, rfl⟩ ?_ ?_ rfl rfl rfl; all_goals (repeat' (first | exact ToAll.nil | exact famsTo.nil | exact famTo.nil | exact ToL.nil | exact ToR.nil | refine ToAll.cons ?_ ?_ | refine famsTo.cons ?_ ?_ | refine wt10 ?_ ?_ | exact To.undef _ | exact To.sc _ | exact To.hslL rfl rfl | exact To.ptrO rfl rfl rfl | exact To.mrefO rfl | exact To.nil rfl rfl rfl | exact wt1 | exact To.nilL | refine To.int ?_ | refine To.bool ?_ | refine To.hslL rfl ?_ | refine wt2 rfl ?_ ?_ ?_ | refine To.tupL ?_ | refine To.aggL ?_ | refine To.cptrL ?_ | refine wt3 ?_ | refine wt4 ?_ | refine To.cloL ?_ ?_ | exact wt5 | refine wt6 ?_ | refine ToB.one ?_ | exact wt7 | ((with_reducible apply ToL.consE); case e9 => rfl) | refine wt8 ?_ | refine ToL.cons ?_ ?_ | exact wt11 | refine wt9 ?_ ?_ | refine wt12 ?_ | (with_reducible rfl) | assumption)); all_goals (first | rfl | assumption | (simp; done) | (simp; omega) | (rw [wrap_small (by omega) (by omega)]; done) | (rw [wrap_small (by omega) (by omega)]; omega) | (refine congrArg Nat.cast ?_; assumption) | skip))
end Go.Proofs.Ytpkpfgpfkajkpaa
namespace Go.Proofs.Ytpkpfgpfkajkpaa
open Go.Av Go.Proofs
set_option maxRecDepth 20000
def bothE (a b : List Int) : Int := if checkE a = 0 then checkE b else checkE a
def notIn' (s : List Int) (x : Int) : Bool := !decide (x ∈ s)
def isIn' (s : List Int) (x : Int) : Bool := decide (x ∈ s)
def opA (a b o : List Int) : Int × List Int := if bothE a b = 0 then (0, o) else (bothE a b, [])
def ansS (p : Int × List Int) : AV → Heap → Prop := fun res H' => res = .tup [.hsl 0 0 0 p.2.length, .sc (.int .i64 p.1)] ∧ H' = [[.cells 1 (intsR p.2)]]
theorem both_ok (a b : List Int) (ha : a.length ≤ 1000000) (hb : b.length ≤ 1000000) : PureRun Try.prog 78 [.list 1 (intsR a), .list 1 (intsR b)] (.sc (.int .i64 (bothE a b))) := by
  refine PureRun.of (allPure_cons (.list _ _ (prs _)) (allPure_cons (.list _ _ (prs _)) allPure_nil)) (.sc _) (CallOK.mono (R := fun res H' => res = .sc (.int .i64 (bothE a b)) ∧ H' = []) ?_ fun _ _ h => h.1)
  refine CallOK.of cF78 ?_ (Nat.le_of_ble_eq_true rfl)
  have h1 := check_ok a ha
  have h2 := check_ok b hb
  by_cases h : checkE a = 0
  · have hr : AV.sc (Value.int .i64 (checkE b)) = .sc (.int .i64 (bothE a b)) := by unfold bothE; rw [if_pos h]
    rw [h] at h1
    refine walkX ?_
    (refine endH [] (by first | exact .inr rfl | exact .inl rfl) rfl ⟨hr, rfl⟩ ?_ ?_ rfl rfl rfl; all_goals (repeat' (first | exact ToAll.nil | exact famsTo.nil | exact famTo.nil | exact ToL.nil | exact ToR.nil | refine ToAll.cons ?_ ?_ | refine famsTo.cons ?_ ?_ | refine wt10 ?_ ?_ | exact To.undef _ | exact To.sc _ | exact To.hslL rfl rfl | exact To.ptrO rfl rfl rfl | exact To.mrefO rfl | exact To.nil rfl rfl rfl | exact wt1 | exact To.nilL | refine To.int ?_ | refine To.bool ?_ | refine To.hslL rfl ?_ | refine wt2 rfl ?_ ?_ ?_ | refine To.tupL ?_ | refine To.aggL ?_ | refine To.cptrL ?_ | refine wt3 ?_ | refine wt4 ?_ | refine To.cloL ?_ ?_ | exact wt5 | refine wt6 ?_ | refine ToB.one ?_ | exact wt7 | ((with_reducible apply ToL.consE); case e9 => rfl) | refine wt8 ?_ | refine ToL.cons ?_ ?_ | exact wt11 | refine wt9 ?_ ?_ | refine wt12 ?_ | (with_reducible rfl) | assumption)); all_goals (first | rfl | assumption | (simp; done) | (simp; omega) | (rw [wrap_small (by omega) (by omega)]; done) | (rw [wrap_small (by omega) (by omega)]; omega) | (refine congrArg Nat.cast ?_; assumption) | skip))
  · have hr : AV.sc (Value.int .i64 (checkE a)) = .sc (.int .i64 (bothE a b)) := by unfold bothE; rw [if_neg h]
    refine walkX ?_
    rw [show (checkE a != 0) = true from by simpa using h]
    refine walkX ?_
    (refine endH [] (by first | exact .inr rfl | exact .inl rfl) rfl ⟨hr, rfl⟩ ?_ ?_ rfl rfl rfl; all_goals (repeat' (first | exact ToAll.nil | exact famsTo.nil | exact famTo.nil | exact ToL.nil | exact ToR.nil | refine ToAll.cons ?_ ?_ | refine famsTo.cons ?_ ?_ | refine wt10 ?_ ?_ | exact To.undef _ | exact To.sc _ | exact To.hslL rfl rfl | exact To.ptrO rfl rfl rfl | exact To.mrefO rfl | exact To.nil rfl rfl rfl | exact wt1 | exact To.nilL | refine To.int ?_ | refine To.bool ?_ | refine To.hslL rfl ?_ | refine wt2 rfl ?_ ?_ ?_ | refine To.tupL ?_ | refine To.aggL ?_ | refine To.cptrL ?_ | refine wt3 ?_ | refine wt4 ?_ | refine To.cloL ?_ ?_ | exact wt5 | refine wt6 ?_ | refine ToB.one ?_ | exact wt7 | ((with_reducible apply ToL.consE); case e9 => rfl) | refine wt8 ?_ | refine ToL.cons ?_ ?_ | exact wt11 | refine wt9 ?_ ?_ | refine wt12 ?_ | (with_reducible rfl) | assumption)); all_goals (first | rfl | assumption | (simp; done) | (simp; omega) | (rw [wrap_small (by omega) (by omega)]; done) | (rw [wrap_small (by omega) (by omega)]; omega) | (refine congrArg Nat.cast ?_; assumption) | skip))
theorem both0 {a b : List Int} (h : bothE a b = 0) : checkE a = 0 ∧ checkE b = 0 := by
  unfold bothE at h
  split at h
  · rename_i h1
    exact ⟨h1, h⟩
  · rename_i h1
    exact absurd h h1
theorem keep_at (g : FuncId) (s l : List Int) (p : Int → Bool) (hl : l.length ≤ 1000000) (hb : ∀ x ∈ l, 0 ≤ x ∧ x < 64) (hc : ∀ q : Nat, q < 64 → PureRun Try.prog g [.sc (.int .i64 (q : Int)), .cptr (flagR s)] (.sc (.bool (p q)))) :
    CallOK Try.prog 81 [.list 1 (intsR l), .clo (.func g) [] [.ptr 0 0 0 0]] [[.cells 64 [flagR s]]] fun res H' => res = .hsl 1 0 0 (l.filter p).length ∧ H' = [[.cells 64 [flagR s]], [.cells 1 (intsR (l.filter p))]] := by
  refine CallOK.viewL (H := [[.cells 64 [flagR s]]]) (fun r hr c hc => ?_) (keep_ok g s l p hl hb hc) (ToL.cons (To.pure (.list _ _ (prs _))) (ToL.cons (To.cloL trivial (ToL.cons (To.fzp (r := flagR s) (g := 0) (i := 0) (row := 0) rfl rfl rfl (To.pure (.cptr _ (pr _)))) ToL.nil)) ToL.nil))
  obtain ⟨n, _, rfl⟩ := List.mem_map.1 hr
  exact ⟨_, List.mem_singleton.1 hc⟩
set_option maxHeartbeats 4000000 in
theorem inter_ok (a b : List Int) (ha : a.length ≤ 1000000) (hb : b.length ≤ 1000000) : CallOK Try.prog 35 [.list 1 (intsR a), .list 1 (intsR b)] [] (ansS (opA a b (a.filter (isIn' b)))) := by
  refine CallOK.of cF35 ?_ (Nat.le_of_ble_eq_true rfl)
  have h1 := both_ok a b ha hb
  unfold ansS
  by_cases h : bothE a b = 0
  · obtain ⟨c1, c2⟩ := both0 h
    have r1 := check0_rng c1
    have r2 := check0_rng c2
    have h2 := setOf_ok b hb r2.1
    have e : opA a b (a.filter (isIn' b)) = (0, a.filter (isIn' b)) := if_pos h
    rw [e]
    rw [h] at h1
    refine walkX ?_
    refine Reg.sub (fr' := [(16, .list 1 (intsR a)), (17, .clo (.func 86) [] [.ptr 0 0 0 0])]) (H' := [[.cells 64 [flagR b]]]) ?_ ?_
    · exact Sub.w [] [[(0,0)]]
    refine Reg.c (Nat.zero_le _) rfl ((keep_at 86 b a (isIn' b) ha r1.1 (isin_ok b)).mono ?_)
    rintro res H' ⟨rfl, rfl⟩
    refine walkX ?_
    (refine endH [[(1,0)]] (by first | exact .inr rfl | exact .inl rfl) rfl ⟨rfl, rfl⟩ ?_ ?_ rfl rfl rfl; all_goals (repeat' (first | exact ToAll.nil | exact famsTo.nil | exact famTo.nil | exact ToL.nil | exact ToR.nil | refine ToAll.cons ?_ ?_ | refine famsTo.cons ?_ ?_ | refine wt10 ?_ ?_ | exact To.undef _ | exact To.sc _ | exact To.hslL rfl rfl | exact To.ptrO rfl rfl rfl | exact To.mrefO rfl | exact To.nil rfl rfl rfl | exact wt1 | exact To.nilL | refine To.int ?_ | refine To.bool ?_ | refine To.hslL rfl ?_ | refine wt2 rfl ?_ ?_ ?_ | refine To.tupL ?_ | refine To.aggL ?_ | refine To.cptrL ?_ | refine wt3 ?_ | refine wt4 ?_ | refine To.cloL ?_ ?_ | exact wt5 | refine wt6 ?_ | refine ToB.one ?_ | exact wt7 | ((with_reducible apply ToL.consE); case e9 => rfl) | refine wt8 ?_ | refine ToL.cons ?_ ?_ | exact wt11 | refine wt9 ?_ ?_ | refine wt12 ?_ | (with_reducible rfl) | assumption)); all_goals (first | rfl | assumption | (simp; done) | (simp; omega) | (rw [wrap_small (by omega) (by omega)]; done) | (rw [wrap_small (by omega) (by omega)]; omega) | (refine congrArg Nat.cast ?_; assumption) | skip))
  · have e : opA a b (a.filter (isIn' b)) = (bothE a b, []) := if_neg h
    rw [e]
    refine walkX ?_
    rw [show (bothE a b != 0) = true from by simpa using h]
    refine walkX ?_
    (refine ⟨.inr rfl, _, .tup [.hsl 0 0 0 0, .sc (.int .i64 (bothE a b))], [[.cells 1 []]], rfl, SubV.to [1] [[((0),0)]] ?_ ?_ rfl rfl rfl, rfl, rfl⟩; all_goals (all_goals (repeat' (first | exact ToAll.nil | exact famsTo.nil | exact famTo.nil | exact ToL.nil | exact ToR.nil | refine ToAll.cons ?_ ?_ | refine famsTo.cons ?_ ?_ | refine wt10 ?_ ?_ | exact To.undef _ | exact To.sc _ | exact To.hslL rfl rfl | exact To.ptrO rfl rfl rfl | exact To.mrefO rfl | exact To.nil rfl rfl rfl | exact wt1 | exact To.nilL | refine To.int ?_ | refine To.bool ?_ | refine To.hslL rfl ?_ | refine wt2 rfl ?_ ?_ ?_ | refine To.tupL ?_ | refine To.aggL ?_ | refine To.cptrL ?_ | refine wt3 ?_ | refine wt4 ?_ | refine To.cloL ?_ ?_ | exact wt5 | refine wt6 ?_ | refine ToB.one ?_ | exact wt7 | ((with_reducible apply ToL.consE); case e9 => rfl) | refine wt8 ?_ | refine ToL.cons ?_ ?_ | exact wt11 | refine wt9 ?_ ?_ | refine wt12 ?_ | (with_reducible rfl) | assumption)); all_goals (first | rfl | assumption | (simp; done) | (simp; omega) | (rw [wrap_small (by omega) (by omega)]; done) | (rw [wrap_small (by omega) (by omega)]; omega) | (refine congrArg Nat.cast ?_; assumption) | skip)))
set_option maxHeartbeats 4000000 in
theorem diff_ok (a b : List Int) (ha : a.length ≤ 1000000) (hb : b.length ≤ 1000000) : CallOK Try.prog 37 [.list 1 (intsR a), .list 1 (intsR b)] [] (ansS (opA a b (a.filter (notIn' b)))) := by
  refine CallOK.of cF37 ?_ (Nat.le_of_ble_eq_true rfl)
  have h1 := both_ok a b ha hb
  unfold ansS
  by_cases h : bothE a b = 0
  · obtain ⟨c1, c2⟩ := both0 h
    have r1 := check0_rng c1
    have r2 := check0_rng c2
    have h2 := setOf_ok b hb r2.1
    have e : opA a b (a.filter (notIn' b)) = (0, a.filter (notIn' b)) := if_pos h
    rw [e]
    rw [h] at h1
    refine walkX ?_
    refine Reg.sub (fr' := [(16, .list 1 (intsR a)), (17, .clo (.func 87) [] [.ptr 0 0 0 0])]) (H' := [[.cells 64 [flagR b]]]) ?_ ?_
    · exact Sub.w [] [[(0,0)]]
    refine Reg.c (Nat.zero_le _) rfl ((keep_at 87 b a (notIn' b) ha r1.1 (notin_ok2 b)).mono ?_)
    rintro res H' ⟨rfl, rfl⟩
    refine walkX ?_
    (refine endH [[(1,0)]] (by first | exact .inr rfl | exact .inl rfl) rfl ⟨rfl, rfl⟩ ?_ ?_ rfl rfl rfl; all_goals (repeat' (first | exact ToAll.nil | exact famsTo.nil | exact famTo.nil | exact ToL.nil | exact ToR.nil | refine ToAll.cons ?_ ?_ | refine famsTo.cons ?_ ?_ | refine wt10 ?_ ?_ | exact To.undef _ | exact To.sc _ | exact To.hslL rfl rfl | exact To.ptrO rfl rfl rfl | exact To.mrefO rfl | exact To.nil rfl rfl rfl | exact wt1 | exact To.nilL | refine To.int ?_ | refine To.bool ?_ | refine To.hslL rfl ?_ | refine wt2 rfl ?_ ?_ ?_ | refine To.tupL ?_ | refine To.aggL ?_ | refine To.cptrL ?_ | refine wt3 ?_ | refine wt4 ?_ | refine To.cloL ?_ ?_ | exact wt5 | refine wt6 ?_ | refine ToB.one ?_ | exact wt7 | ((with_reducible apply ToL.consE); case e9 => rfl) | refine wt8 ?_ | refine ToL.cons ?_ ?_ | exact wt11 | refine wt9 ?_ ?_ | refine wt12 ?_ | (with_reducible rfl) | assumption)); all_goals (first | rfl | assumption | (simp; done) | (simp; omega) | (rw [wrap_small (by omega) (by omega)]; done) | (rw [wrap_small (by omega) (by omega)]; omega) | (refine congrArg Nat.cast ?_; assumption) | skip))
  · have e : opA a b (a.filter (notIn' b)) = (bothE a b, []) := if_neg h
    rw [e]
    refine walkX ?_
    rw [show (bothE a b != 0) = true from by simpa using h]
    refine walkX ?_
    (refine ⟨.inr rfl, _, .tup [.hsl 0 0 0 0, .sc (.int .i64 (bothE a b))], [[.cells 1 []]], rfl, SubV.to [1] [[((0),0)]] ?_ ?_ rfl rfl rfl, rfl, rfl⟩; all_goals (all_goals (repeat' (first | exact ToAll.nil | exact famsTo.nil | exact famTo.nil | exact ToL.nil | exact ToR.nil | refine ToAll.cons ?_ ?_ | refine famsTo.cons ?_ ?_ | refine wt10 ?_ ?_ | exact To.undef _ | exact To.sc _ | exact To.hslL rfl rfl | exact To.ptrO rfl rfl rfl | exact To.mrefO rfl | exact To.nil rfl rfl rfl | exact wt1 | exact To.nilL | refine To.int ?_ | refine To.bool ?_ | refine To.hslL rfl ?_ | refine wt2 rfl ?_ ?_ ?_ | refine To.tupL ?_ | refine To.aggL ?_ | refine To.cptrL ?_ | refine wt3 ?_ | refine wt4 ?_ | refine To.cloL ?_ ?_ | exact wt5 | refine wt6 ?_ | refine ToB.one ?_ | exact wt7 | ((with_reducible apply ToL.consE); case e9 => rfl) | refine wt8 ?_ | refine ToL.cons ?_ ?_ | exact wt11 | refine wt9 ?_ ?_ | refine wt12 ?_ | (with_reducible rfl) | assumption)); all_goals (first | rfl | assumption | (simp; done) | (simp; omega) | (rw [wrap_small (by omega) (by omega)]; done) | (rw [wrap_small (by omega) (by omega)]; omega) | (refine congrArg Nat.cast ?_; assumption) | skip)))
theorem intsK_R : ∀ l : List Int, intsK (intsR l) = some l
  | [] => rfl
  | x :: l => by
    show (match intsK (intsR l) with | some l => some (x :: l) | none => none) = _
    rw [intsK_R l]
theorem concat_at (a o : List Int) (hl : a.length + o.length ≤ 1000000) : CallOK Try.prog 80 [.hsl 1 0 0 2] [[.cells 1 (intsR o)], [.cells 1 [[.list 1 (intsR a)], [.hsl 0 0 0 o.length]]]] fun res H' =>
    res = .hsl 2 0 0 (a.length + o.length) ∧ H' = [[.cells 1 (intsR o)], [.cells 1 [[.list 1 (intsR a)], [.hsl 0 0 0 o.length]]], [.cells 1 (intsR (a ++ o))]] := by
  refine sum80_ok _ _ _ _ ?_
  have e1 : oneK [[.cells 1 (intsR o)], [.cells 1 [[.list 1 (intsR a)], [.hsl 0 0 0 o.length]]]] (.list 1 (intsR a)) = some a := intsK_R a
  have e2 : oneK [[.cells 1 (intsR o)], [.cells 1 [[.list 1 (intsR a)], [.hsl 0 0 0 o.length]]]] (.hsl 0 0 0 o.length) = some o := by
    show (match Nat.beq (intsR o).length o.length with | true => intsK (intsR o) | false => none) = _
    rw [intsR_len, Nat.beq_refl, intsK_R]
  have e3 : Nat.ble (a.length + o.length) 1000000 = true := Nat.ble_eq_true_of_le hl
  show (match oneK _ (.list 1 (intsR a)), oneK _ (.hsl 0 0 0 o.length) with
    | some l, some m => match Nat.ble (l.length + m.length) 1000000 with
        | true => some (AV.hsl 2 0 0 (l.length + m.length), ([[.cells 1 (intsR o)], [.cells 1 [[.list 1 (intsR a)], [.hsl 0 0 0 o.length]]]] : Heap) ++ [[Blk.cells 1 (intsR (l ++ m))]])
        | false => none
    | _, _ => none) = _
  rw [e1, e2]
  simp only [e3]
  rfl
set_option maxHeartbeats 4000000 in
theorem union_ok (a b : List Int) (ha : a.length ≤ 100000) (hb : b.length ≤ 100000) : CallOK Try.prog 31 [.list 1 (intsR a), .list 1 (intsR b)] [] (ansS (opA a b (a ++ b.filter (notIn' a)))) := by
  refine CallOK.of cF31 ?_ (Nat.le_of_ble_eq_true rfl)
  have h1 := both_ok a b (by omega) (by omega)
  unfold ansS
  by_cases h : bothE a b = 0
  · obtain ⟨c1, c2⟩ := both0 h
    have r1 := check0_rng c1
    have r2 := check0_rng c2
    have h2 := setOf_ok a (by omega) r1.1
    have e : opA a b (a ++ b.filter (notIn' a)) = (0, a ++ b.filter (notIn' a)) := if_pos h
    rw [e]
    rw [h] at h1
    refine walkX ?_
    refine Reg.sub (fr' := [(16, .list 1 (intsR a)), (17, .list 1 (intsR b)), (18, .clo (.func 82) [] [.ptr 0 0 0 0])]) (H' := [[.cells 64 [flagR a]]]) ?_ ?_
    · exact Sub.w [] [[(0,0)]]
    refine Reg.c (Nat.zero_le _) rfl ((keep_at 82 a b (notIn' a) (by omega) r2.1 (notin_ok a)).mono ?_)
    rintro res H' ⟨rfl, rfl⟩
    have hlen : (b.filter (notIn' a)).length ≤ 100000 := Nat.le_trans (List.length_filter_le _ _) hb
    have hcc := concat_at a (b.filter (notIn' a)) (by omega)
    have e2 : (a ++ b.filter (notIn' a)).length = a.length + (b.filter (notIn' a)).length := List.length_append
    generalize b.filter (notIn' a) = o at *
    refine walkX ?_
    show Reg Try.prog _ _ _ _ [[.cells 64 [flagR a]], [.cells 1 (intsR o)], [.cells 1 [[.list 1 (intsR a)], [.hsl 1 0 0 o.length]]]] _
    refine Reg.sub (fr' := [(20, .hsl 1 0 0 2)]) (H' := [[.cells 1 (intsR o)], [.cells 1 [[.list 1 (intsR a)], [.hsl 0 0 0 o.length]]]]) ?_ ?_
    · (apply Sub.to [] [[(1,0)],[(2,0)]]; all_goals (repeat' (first | exact ToAll.nil | exact famsTo.nil | exact famTo.nil | exact ToL.nil | exact ToR.nil | refine ToAll.cons ?_ ?_ | refine famsTo.cons ?_ ?_ | refine wt10 ?_ ?_ | exact To.undef _ | exact To.sc _ | exact To.hslL rfl rfl | exact To.ptrO rfl rfl rfl | exact To.mrefO rfl | exact To.nil rfl rfl rfl | exact wt1 | exact To.nilL | refine To.int ?_ | refine To.bool ?_ | refine To.hslL rfl ?_ | refine wt2 rfl ?_ ?_ ?_ | refine To.tupL ?_ | refine To.aggL ?_ | refine To.cptrL ?_ | refine wt3 ?_ | refine wt4 ?_ | refine To.cloL ?_ ?_ | refine ToB.one ?_ | exact wt5 | refine wt6 ?_ | ((with_reducible apply ToL.consE); case e9 => rfl) | refine ToL.cons ?_ ?_ | exact wt7 | refine wt8 ?_ | exact wt11 | refine wt9 ?_ ?_ | refine wt12 ?_ | (with_reducible rfl) | assumption)); all_goals (first | rfl | assumption | (simp; done) | (simp; omega) | (rw [wrap_small (by omega) (by omega)]; done) | (rw [wrap_small (by omega) (by omega)]; omega) | (refine congrArg Nat.cast ?_; assumption) | skip))
      refine ToB.cells 1 _ _ rfl (fun i r r' p q => ?_) fun i r r' j x y p q u v => ?_
      · match i with
        | 0 => injection p with p; injection q with q; subst p; subst q; rfl
        | 1 => injection p with p; injection q with q; subst p; subst q; rfl
        | i + 2 => simp at p
      · match i with
        | 0 =>
          injection p with p; injection q with q; subst p; subst q
          match j with
          | 0 => injection u with u; injection v with v; subst u; subst v; exact To.pure (.list _ _ (prs _))
          | j + 1 => simp at u
        | 1 =>
          injection p with p; injection q with q; subst p; subst q
          match j with
          | 0 => injection u with u; injection v with v; subst u; subst v; exact To.hslL rfl rfl
          | j + 1 => simp at u
        | i + 2 => simp at p
    refine Reg.c (Nat.zero_le _) rfl (hcc.mono ?_)
    rintro res H' ⟨rfl, rfl⟩
    refine walkX ?_
    dsimp only
    rw [e2]
    (refine endH [[(2,0)]] (by first | exact .inr rfl | exact .inl rfl) rfl ⟨rfl, rfl⟩ ?_ ?_ rfl rfl rfl; all_goals (repeat' (first | exact ToAll.nil | exact famsTo.nil | exact famTo.nil | exact ToL.nil | exact ToR.nil | refine ToAll.cons ?_ ?_ | refine famsTo.cons ?_ ?_ | refine wt10 ?_ ?_ | exact To.undef _ | exact To.sc _ | exact To.hslL rfl rfl | exact To.ptrO rfl rfl rfl | exact To.mrefO rfl | exact To.nil rfl rfl rfl | exact wt1 | exact To.nilL | refine To.int ?_ | refine To.bool ?_ | refine To.hslL rfl ?_ | refine wt2 rfl ?_ ?_ ?_ | refine To.tupL ?_ | refine To.aggL ?_ | refine To.cptrL ?_ | refine wt3 ?_ | refine wt4 ?_ | refine To.cloL ?_ ?_ | exact wt5 | refine wt6 ?_ | refine ToB.one ?_ | exact wt7 | ((with_reducible apply ToL.consE); case e9 => rfl) | refine wt8 ?_ | refine ToL.cons ?_ ?_ | exact wt11 | refine wt9 ?_ ?_ | refine wt12 ?_ | (with_reducible rfl) | assumption)); all_goals (first | rfl | assumption | (simp; done) | (simp; omega) | (rw [wrap_small (by omega) (by omega)]; done) | (rw [wrap_small (by omega) (by omega)]; omega) | (refine congrArg Nat.cast ?_; assumption) | skip))
  · have e : opA a b (a ++ b.filter (notIn' a)) = (bothE a b, []) := if_neg h
    rw [e]
    refine walkX ?_
    rw [show (bothE a b != 0) = true from by simpa using h]
    refine walkX ?_
    (refine ⟨.inr rfl, _, .tup [.hsl 0 0 0 0, .sc (.int .i64 (bothE a b))], [[.cells 1 []]], rfl, SubV.to [1] [[((0),0)]] ?_ ?_ rfl rfl rfl, rfl, rfl⟩; all_goals (all_goals (repeat' (first | exact ToAll.nil | exact famsTo.nil | exact famTo.nil | exact ToL.nil | exact ToR.nil | refine ToAll.cons ?_ ?_ | refine famsTo.cons ?_ ?_ | refine wt10 ?_ ?_ | exact To.undef _ | exact To.sc _ | exact To.hslL rfl rfl | exact To.ptrO rfl rfl rfl | exact To.mrefO rfl | exact To.nil rfl rfl rfl | exact wt1 | exact To.nilL | refine To.int ?_ | refine To.bool ?_ | refine To.hslL rfl ?_ | refine wt2 rfl ?_ ?_ ?_ | refine To.tupL ?_ | refine To.aggL ?_ | refine To.cptrL ?_ | refine wt3 ?_ | refine wt4 ?_ | refine To.cloL ?_ ?_ | exact wt5 | refine wt6 ?_ | refine ToB.one ?_ | exact wt7 | ((with_reducible apply ToL.consE); case e9 => rfl) | refine wt8 ?_ | refine ToL.cons ?_ ?_ | exact wt11 | refine wt9 ?_ ?_ | refine wt12 ?_ | (with_reducible rfl) | assumption)); all_goals (first | rfl | assumption | (simp; done) | (simp; omega) | (rw [wrap_small (by omega) (by omega)]; done) | (rw [wrap_small (by omega) (by omega)]; omega) | (refine congrArg Nat.cast ?_; assumption) | skip)))
end Go.Proofs.Ytpkpfgpfkajkpaa
namespace Go.Proofs.Ytpkpfgpfkajkpaa
open Go.Av Go.Proofs
set_option maxRecDepth 20000
set_option maxHeartbeats 4000000 in
theorem check_doc (l : List Int) (hl : l.length ≤ 1000000) : PureRun Try.prog 34 [.list 1 (intsR l)] (.sc (.int .i64 (checkE l))) := by
  refine PureRun.of (allPure_cons (.list _ _ (prs _)) allPure_nil) (.sc _) (CallOK.mono (R := fun res H' => res = .sc (.int .i64 (checkE l)) ∧ H' = []) ?_ fun _ _ h => h.1)
  refine CallOK.of cF34 ?_ (Nat.le_of_ble_eq_true rfl)
  have e0 := intsR_len l
  have hv : PureRun Try.prog 85 [.list 1 (intsR l), .sc (.int .i64 ((64 : Nat) : Int))] (.sc (.int .i64 (distE 64 [] l))) := PureRun.of (allPure_cons (.list _ _ (prs _)) (allPure_cons (.sc _) allPure_nil)) (.sc _) ((diff_call l 64 (Nat.le_refl _) hl).mono fun _ _ h => h.1)
  refine walkX ?_
  rw [e0]
  by_cases h : 64 < l.length
  · have hr : AV.sc (Value.int .i64 9) = .sc (.int .i64 (checkE l)) := by unfold checkE; rw [if_pos h]
    rw [decide_eq_true h]
    refine walkX ?_
    (refine endH [] (by first | exact .inr rfl | exact .inl rfl) rfl ⟨hr, rfl⟩ ?_ ?_ rfl rfl rfl; all_goals (repeat' (first | exact ToAll.nil | exact famsTo.nil | exact famTo.nil | exact ToL.nil | exact ToR.nil | refine ToAll.cons ?_ ?_ | refine famsTo.cons ?_ ?_ | refine wt10 ?_ ?_ | exact To.undef _ | exact To.sc _ | exact To.hslL rfl rfl | exact To.ptrO rfl rfl rfl | exact To.mrefO rfl | exact To.nil rfl rfl rfl | exact wt1 | exact To.nilL | refine To.int ?_ | refine To.bool ?_ | refine To.hslL rfl ?_ | refine wt2 rfl ?_ ?_ ?_ | refine To.tupL ?_ | refine To.aggL ?_ | refine To.cptrL ?_ | refine wt3 ?_ | refine wt4 ?_ | refine To.cloL ?_ ?_ | exact wt5 | refine wt6 ?_ | refine ToB.one ?_ | exact wt7 | ((with_reducible apply ToL.consE); case e9 => rfl) | refine wt8 ?_ | refine ToL.cons ?_ ?_ | exact wt11 | refine wt9 ?_ ?_ | refine wt12 ?_ | (with_reducible rfl) | assumption)); all_goals (first | rfl | assumption | (simp; done) | (simp; omega) | (rw [wrap_small (by omega) (by omega)]; done) | (rw [wrap_small (by omega) (by omega)]; omega) | (refine congrArg Nat.cast ?_; assumption) | skip))
  · have hr : AV.sc (Value.int .i64 (distE 64 [] l)) = .sc (.int .i64 (checkE l)) := by unfold checkE; rw [if_neg h]
    rw [decide_eq_false h]
    refine walkX ?_
    (refine endH [] (by first | exact .inr rfl | exact .inl rfl) rfl ⟨hr, rfl⟩ ?_ ?_ rfl rfl rfl; all_goals (repeat' (first | exact ToAll.nil | exact famsTo.nil | exact famTo.nil | exact ToL.nil | exact ToR.nil | refine ToAll.cons ?_ ?_ | refine famsTo.cons ?_ ?_ | refine wt10 ?_ ?_ | exact To.undef _ | exact To.sc _ | exact To.hslL rfl rfl | exact To.ptrO rfl rfl rfl | exact To.mrefO rfl | exact To.nil rfl rfl rfl | exact wt1 | exact To.nilL | refine To.int ?_ | refine To.bool ?_ | refine To.hslL rfl ?_ | refine wt2 rfl ?_ ?_ ?_ | refine To.tupL ?_ | refine To.aggL ?_ | refine To.cptrL ?_ | refine wt3 ?_ | refine wt4 ?_ | refine To.cloL ?_ ?_ | exact wt5 | refine wt6 ?_ | refine ToB.one ?_ | exact wt7 | ((with_reducible apply ToL.consE); case e9 => rfl) | refine wt8 ?_ | refine ToL.cons ?_ ?_ | exact wt11 | refine wt9 ?_ ?_ | refine wt12 ?_ | (with_reducible rfl) | assumption)); all_goals (first | rfl | assumption | (simp; done) | (simp; omega) | (rw [wrap_small (by omega) (by omega)]; done) | (rw [wrap_small (by omega) (by omega)]; omega) | (refine congrArg Nat.cast ?_; assumption) | skip))
theorem both_doc (a b : List Int) (ha : a.length ≤ 1000000) (hb : b.length ≤ 1000000) : PureRun Try.prog 83 [.list 1 (intsR a), .list 1 (intsR b)] (.sc (.int .i64 (bothE a b))) := by
  refine PureRun.of (allPure_cons (.list _ _ (prs _)) (allPure_cons (.list _ _ (prs _)) allPure_nil)) (.sc _) (CallOK.mono (R := fun res H' => res = .sc (.int .i64 (bothE a b)) ∧ H' = []) ?_ fun _ _ h => h.1)
  refine CallOK.of cF83 ?_ (Nat.le_of_ble_eq_true rfl)
  have h1 := check_doc a ha
  have h2 := check_doc b hb
  by_cases h : checkE a = 0
  · have hr : AV.sc (Value.int .i64 (checkE b)) = .sc (.int .i64 (bothE a b)) := by unfold bothE; rw [if_pos h]
    rw [h] at h1
    refine walkX ?_
    (refine endH [] (by first | exact .inr rfl | exact .inl rfl) rfl ⟨hr, rfl⟩ ?_ ?_ rfl rfl rfl; all_goals (repeat' (first | exact ToAll.nil | exact famsTo.nil | exact famTo.nil | exact ToL.nil | exact ToR.nil | refine ToAll.cons ?_ ?_ | refine famsTo.cons ?_ ?_ | refine wt10 ?_ ?_ | exact To.undef _ | exact To.sc _ | exact To.hslL rfl rfl | exact To.ptrO rfl rfl rfl | exact To.mrefO rfl | exact To.nil rfl rfl rfl | exact wt1 | exact To.nilL | refine To.int ?_ | refine To.bool ?_ | refine To.hslL rfl ?_ | refine wt2 rfl ?_ ?_ ?_ | refine To.tupL ?_ | refine To.aggL ?_ | refine To.cptrL ?_ | refine wt3 ?_ | refine wt4 ?_ | refine To.cloL ?_ ?_ | exact wt5 | refine wt6 ?_ | refine ToB.one ?_ | exact wt7 | ((with_reducible apply ToL.consE); case e9 => rfl) | refine wt8 ?_ | refine ToL.cons ?_ ?_ | exact wt11 | refine wt9 ?_ ?_ | refine wt12 ?_ | (with_reducible rfl) | assumption)); all_goals (first | rfl | assumption | (simp; done) | (simp; omega) | (rw [wrap_small (by omega) (by omega)]; done) | (rw [wrap_small (by omega) (by omega)]; omega) | (refine congrArg Nat.cast ?_; assumption) | skip))
  · have hr : AV.sc (Value.int .i64 (checkE a)) = .sc (.int .i64 (bothE a b)) := by unfold bothE; rw [if_neg h]
    refine walkX ?_
    rw [show (checkE a != 0) = true from by simpa using h]
    refine walkX ?_
    (refine endH [] (by first | exact .inr rfl | exact .inl rfl) rfl ⟨hr, rfl⟩ ?_ ?_ rfl rfl rfl; all_goals (repeat' (first | exact ToAll.nil | exact famsTo.nil | exact famTo.nil | exact ToL.nil | exact ToR.nil | refine ToAll.cons ?_ ?_ | refine famsTo.cons ?_ ?_ | refine wt10 ?_ ?_ | exact To.undef _ | exact To.sc _ | exact To.hslL rfl rfl | exact To.ptrO rfl rfl rfl | exact To.mrefO rfl | exact To.nil rfl rfl rfl | exact wt1 | exact To.nilL | refine To.int ?_ | refine To.bool ?_ | refine To.hslL rfl ?_ | refine wt2 rfl ?_ ?_ ?_ | refine To.tupL ?_ | refine To.aggL ?_ | refine To.cptrL ?_ | refine wt3 ?_ | refine wt4 ?_ | refine To.cloL ?_ ?_ | exact wt5 | refine wt6 ?_ | refine ToB.one ?_ | exact wt7 | ((with_reducible apply ToL.consE); case e9 => rfl) | refine wt8 ?_ | refine ToL.cons ?_ ?_ | exact wt11 | refine wt9 ?_ ?_ | refine wt12 ?_ | (with_reducible rfl) | assumption)); all_goals (first | rfl | assumption | (simp; done) | (simp; omega) | (rw [wrap_small (by omega) (by omega)]; done) | (rw [wrap_small (by omega) (by omega)]; omega) | (refine congrArg Nat.cast ?_; assumption) | skip))
set_option maxHeartbeats 4000000 in
theorem chosen_ok (w : Bool) (s l : List Int) (hs : s.length ≤ 1000000) (hl : l.length ≤ 1000000) :
    CallOK Try.prog 84 [.list 1 (intsR l), .list 1 (intsR s), .sc (.bool w)] [] fun res H' => res = .hsl 0 0 0 (l.filter fun x => decide (x ∈ s) == w).length ∧ H' = [[.cells 1 (intsR (l.filter fun x => decide (x ∈ s) == w))]] := by
  refine CallOK.of cF84 ?_ (Nat.le_of_ble_eq_true rfl)
  have e0 := intsR_len l
  generalize hp : (fun x : Int => decide (x ∈ s) == w) = p
  refine walkX ?_
  refine AWP.loop (fun k : Nat => [(0, .list 1 (intsR l)), (1, .list 1 (intsR s)), (2, .sc (.bool w)), (7, .hsl 0 0 0 ((l.take k).filter p).length), (8, .sc (.int .i64 (k : Int)))])
    (fun k => [[.cells 1 (intsR ((l.take k).filter p))]]) (fun k => k ≤ l.length) (fun k => l.length - k) 0 (Nat.zero_le _) ?_ ?_
  · (apply Sub.to [1] [[(0,0)]]; all_goals (repeat' (first | exact ToAll.nil | exact famsTo.nil | exact famTo.nil | exact ToL.nil | exact ToR.nil | refine ToAll.cons ?_ ?_ | refine famsTo.cons ?_ ?_ | refine wt10 ?_ ?_ | exact To.undef _ | exact To.sc _ | exact To.hslL rfl rfl | exact To.ptrO rfl rfl rfl | exact To.mrefO rfl | exact To.nil rfl rfl rfl | exact wt1 | exact To.nilL | refine To.int ?_ | refine To.bool ?_ | refine To.hslL rfl ?_ | refine wt2 rfl ?_ ?_ ?_ | refine To.tupL ?_ | refine To.aggL ?_ | refine To.cptrL ?_ | refine wt3 ?_ | refine wt4 ?_ | refine To.cloL ?_ ?_ | exact wt5 | refine wt6 ?_ | refine ToB.one ?_ | exact wt7 | ((with_reducible apply ToL.consE); case e9 => rfl) | refine wt8 ?_ | refine ToL.cons ?_ ?_ | exact wt11 | refine wt9 ?_ ?_ | refine wt12 ?_ | (with_reducible rfl) | assumption)); all_goals (first | rfl | assumption | (simp; done) | (simp; omega) | (rw [wrap_small (by omega) (by omega)]; done) | (rw [wrap_small (by omega) (by omega)]; omega) | (refine congrArg Nat.cast ?_; assumption) | skip))
  rintro k hk
  refine walkX ?_
  rw [e0]
  refine walkX ?_
  refine AWP.condD rfl (fun h => ?_) (fun h => ?_)
  · have hr := intsR_ix l k h
    have ht := List.take_succ_eq_append_getElem h
    have hle : ((l.take k).filter p).length ≤ 1000000 := Nat.le_trans (List.length_filter_le _ _) (by rw [List.length_take]; omega)
    generalize l[k] = x at *
    have hv := index_ok s x hs
    have hpx : p x = (decide (0 ≤ idxE x s) == w) := by
      rw [← hp]
      show (decide (x ∈ s) == w) = _
      rw [decide_eq_decide.2 (idxE_mem x s).1]
    have e1 := intsR_len ((l.take k).filter p)
    refine walkX ?_
    rw [← hpx]
    cases hpv : p x with
    | true =>
      have e2 : (l.take (k + 1)).filter p = (l.take k).filter p ++ [x] := by rw [ht, List.filter_append, List.filter_cons, if_pos hpv]; rfl
      have e3 : intsR ((l.take k).filter p ++ [x]) = intsR ((l.take k).filter p) ++ [[.sc (.int .i64 x)]] := by simp [intsR]
      have e4 : ((l.take k).filter p ++ [x]).length = ((l.take k).filter p).length + 1 := by simp
      generalize (l.take k).filter p = o at *
      refine walkX ?_
      refine ⟨k + 1, by omega, by omega, ?_⟩
      rw [e2, e3, e4]
      (apply Sub.to [] [[(2,0)]]; all_goals (repeat' (first | exact ToAll.nil | exact famsTo.nil | exact famTo.nil | exact ToL.nil | exact ToR.nil | refine ToAll.cons ?_ ?_ | refine famsTo.cons ?_ ?_ | refine wt10 ?_ ?_ | exact To.undef _ | exact To.sc _ | exact To.hslL rfl rfl | exact To.ptrO rfl rfl rfl | exact To.mrefO rfl | exact To.nil rfl rfl rfl | exact wt1 | exact To.nilL | refine To.int ?_ | refine To.bool ?_ | refine To.hslL rfl ?_ | refine wt2 rfl ?_ ?_ ?_ | refine To.tupL ?_ | refine To.aggL ?_ | refine To.cptrL ?_ | refine wt3 ?_ | refine wt4 ?_ | refine To.cloL ?_ ?_ | exact wt5 | refine wt6 ?_ | refine ToB.one ?_ | exact wt7 | ((with_reducible apply ToL.consE); case e9 => rfl) | refine wt8 ?_ | refine ToL.cons ?_ ?_ | exact wt11 | refine wt9 ?_ ?_ | refine wt12 ?_ | (with_reducible rfl) | assumption)); all_goals (first | rfl | assumption | (simp; done) | (simp; omega) | (rw [wrap_small (by omega) (by omega)]; done) | (rw [wrap_small (by omega) (by omega)]; omega) | (refine congrArg Nat.cast ?_; assumption) | skip))
    | false =>
      have e2 : (l.take (k + 1)).filter p = (l.take k).filter p := by rw [ht, List.filter_append, List.filter_cons, if_neg (by rw [hpv]; simp)]; simp
      generalize (l.take k).filter p = o at *
      refine walkX ?_
      refine ⟨k + 1, by omega, by omega, ?_⟩
      rw [e2]
      (apply Sub.to [] [[(0,0)]]; all_goals (repeat' (first | exact ToAll.nil | exact famsTo.nil | exact famTo.nil | exact ToL.nil | exact ToR.nil | refine ToAll.cons ?_ ?_ | refine famsTo.cons ?_ ?_ | refine wt10 ?_ ?_ | exact To.undef _ | exact To.sc _ | exact To.hslL rfl rfl | exact To.ptrO rfl rfl rfl | exact To.mrefO rfl | exact To.nil rfl rfl rfl | exact wt1 | exact To.nilL | refine To.int ?_ | refine To.bool ?_ | refine To.hslL rfl ?_ | refine wt2 rfl ?_ ?_ ?_ | refine To.tupL ?_ | refine To.aggL ?_ | refine To.cptrL ?_ | refine wt3 ?_ | refine wt4 ?_ | refine To.cloL ?_ ?_ | exact wt5 | refine wt6 ?_ | refine ToB.one ?_ | exact wt7 | ((with_reducible apply ToL.consE); case e9 => rfl) | refine wt8 ?_ | refine ToL.cons ?_ ?_ | exact wt11 | refine wt9 ?_ ?_ | refine wt12 ?_ | (with_reducible rfl) | assumption)); all_goals (first | rfl | assumption | (simp; done) | (simp; omega) | (rw [wrap_small (by omega) (by omega)]; done) | (rw [wrap_small (by omega) (by omega)]; omega) | (refine congrArg Nat.cast ?_; assumption) | skip))
  have hk : k = l.length := by omega
  subst hk
  rw [List.take_of_length_le (Nat.le_refl _)]
  refine walkX ?_
  (refine endH [[(0,0)]] (by first | exact .inr rfl | exact .inl rfl) rfl ⟨rfl, rfl⟩ ?_ ?_ rfl rfl rfl; all_goals (repeat' (first | exact ToAll.nil | exact famsTo.nil | exact famTo.nil | exact ToL.nil | exact ToR.nil | refine ToAll.cons ?_ ?_ | refine famsTo.cons ?_ ?_ | refine wt10 ?_ ?_ | exact To.undef _ | exact To.sc _ | exact To.hslL rfl rfl | exact To.ptrO rfl rfl rfl | exact To.mrefO rfl | exact To.nil rfl rfl rfl | exact wt1 | exact To.nilL | refine To.int ?_ | refine To.bool ?_ | refine To.hslL rfl ?_ | refine wt2 rfl ?_ ?_ ?_ | refine To.tupL ?_ | refine To.aggL ?_ | refine To.cptrL ?_ | refine wt3 ?_ | refine wt4 ?_ | refine To.cloL ?_ ?_ | exact wt5 | refine wt6 ?_ | refine ToB.one ?_ | exact wt7 | ((with_reducible apply ToL.consE); case e9 => rfl) | refine wt8 ?_ | refine ToL.cons ?_ ?_ | exact wt11 | refine wt9 ?_ ?_ | refine wt12 ?_ | (with_reducible rfl) | assumption)); all_goals (first | rfl | assumption | (simp; done) | (simp; omega) | (rw [wrap_small (by omega) (by omega)]; done) | (rw [wrap_small (by omega) (by omega)]; omega) | (refine congrArg Nat.cast ?_; assumption) | skip))
end Go.Proofs.Ytpkpfgpfkajkpaa
namespace Go.Proofs.Ytpkpfgpfkajkpaa
open Go.Av Go.Proofs
set_option maxRecDepth 20000
theorem rowsX_all {H : Heap} {g i sz len : Nat} {rows : List (List AV)} (h : hget H g i = some (.cells sz rows)) (hl : rows.length = len) : rowsX sz H (.hsl g i 0 len) = some (sz, rows) := by
  subst hl
  have e : Nat.ble (0 + rows.length) rows.length = true := Nat.ble_eq_true_of_le (by omega)
  simp only [rowsX, rowsOf, h, e, List.drop_zero, List.take_length]
theorem ints_sc (l : List Int) : ∀ r ∈ intsR l, ∀ c ∈ r, ∃ v, c = .sc v := fun r hr c hc => by
  obtain ⟨n, _, rfl⟩ := List.mem_map.1 hr
  exact ⟨_, List.mem_singleton.1 hc⟩
theorem isIn_eq (s : List Int) : (fun x : Int => decide (x ∈ s) == true) = isIn' s := funext fun x => by simp [isIn']
theorem notIn_eq (s : List Int) : (fun x : Int => decide (x ∈ s) == false) = notIn' s := funext fun x => by simp [notIn']
set_option maxHeartbeats 4000000 in
theorem inter_doc (a b : List Int) (ha : a.length ≤ 1000000) (hb : b.length ≤ 1000000) : CallOK Try.prog 36 [.list 1 (intsR a), .list 1 (intsR b)] [] (ansS (opA a b (a.filter (isIn' b)))) := by
  refine CallOK.of cF36 ?_ (Nat.le_of_ble_eq_true rfl)
  have h1 := both_doc a b ha hb
  have hk := chosen_ok true b a hb ha
  rw [isIn_eq] at hk
  unfold ansS
  by_cases h : bothE a b = 0
  · have e : opA a b (a.filter (isIn' b)) = (0, a.filter (isIn' b)) := if_pos h
    rw [e]
    rw [h] at h1
    refine walkX ?_
    refine Reg.c (Nat.zero_le _) rfl (hk.mono ?_)
    rintro res H' ⟨rfl, rfl⟩
    refine walkX ?_
    (refine endH [[(0,0)]] (by first | exact .inr rfl | exact .inl rfl) rfl ⟨rfl, rfl⟩ ?_ ?_ rfl rfl rfl; all_goals (repeat' (first | exact ToAll.nil | exact famsTo.nil | exact famTo.nil | exact ToL.nil | exact ToR.nil | refine ToAll.cons ?_ ?_ | refine famsTo.cons ?_ ?_ | refine wt10 ?_ ?_ | exact To.undef _ | exact To.sc _ | exact To.hslL rfl rfl | exact To.ptrO rfl rfl rfl | exact To.mrefO rfl | exact To.nil rfl rfl rfl | exact wt1 | exact To.nilL | refine To.int ?_ | refine To.bool ?_ | refine To.hslL rfl ?_ | refine wt2 rfl ?_ ?_ ?_ | refine To.tupL ?_ | refine To.aggL ?_ | refine To.cptrL ?_ | refine wt3 ?_ | refine wt4 ?_ | refine To.cloL ?_ ?_ | exact wt5 | refine wt6 ?_ | refine ToB.one ?_ | exact wt7 | ((with_reducible apply ToL.consE); case e9 => rfl) | refine wt8 ?_ | refine ToL.cons ?_ ?_ | exact wt11 | refine wt9 ?_ ?_ | refine wt12 ?_ | (with_reducible rfl) | assumption)); all_goals (first | rfl | assumption | (simp; done) | (simp; omega) | (rw [wrap_small (by omega) (by omega)]; done) | (rw [wrap_small (by omega) (by omega)]; omega) | (refine congrArg Nat.cast ?_; assumption) | skip))
  · have e : opA a b (a.filter (isIn' b)) = (bothE a b, []) := if_neg h
    rw [e]
    refine walkX ?_
    rw [show (bothE a b != 0) = true from by simpa using h]
    refine walkX ?_
    (refine ⟨.inr rfl, _, .tup [.hsl 0 0 0 0, .sc (.int .i64 (bothE a b))], [[.cells 1 []]], rfl, SubV.to [1] [[((0),0)]] ?_ ?_ rfl rfl rfl, rfl, rfl⟩; all_goals (all_goals (repeat' (first | exact ToAll.nil | exact famsTo.nil | exact famTo.nil | exact ToL.nil | exact ToR.nil | refine ToAll.cons ?_ ?_ | refine famsTo.cons ?_ ?_ | refine wt10 ?_ ?_ | exact To.undef _ | exact To.sc _ | exact To.hslL rfl rfl | exact To.ptrO rfl rfl rfl | exact To.mrefO rfl | exact To.nil rfl rfl rfl | exact wt1 | exact To.nilL | refine To.int ?_ | refine To.bool ?_ | refine To.hslL rfl ?_ | refine wt2 rfl ?_ ?_ ?_ | refine To.tupL ?_ | refine To.aggL ?_ | refine To.cptrL ?_ | refine wt3 ?_ | refine wt4 ?_ | refine To.cloL ?_ ?_ | exact wt5 | refine wt6 ?_ | refine ToB.one ?_ | exact wt7 | ((with_reducible apply ToL.consE); case e9 => rfl) | refine wt8 ?_ | refine ToL.cons ?_ ?_ | exact wt11 | refine wt9 ?_ ?_ | refine wt12 ?_ | (with_reducible rfl) | assumption)); all_goals (first | rfl | assumption | (simp; done) | (simp; omega) | (rw [wrap_small (by omega) (by omega)]; done) | (rw [wrap_small (by omega) (by omega)]; omega) | (refine congrArg Nat.cast ?_; assumption) | skip)))
set_option maxHeartbeats 4000000 in
theorem diff_doc (a b : List Int) (ha : a.length ≤ 1000000) (hb : b.length ≤ 1000000) : CallOK Try.prog 38 [.list 1 (intsR a), .list 1 (intsR b)] [] (ansS (opA a b (a.filter (notIn' b)))) := by
  refine CallOK.of cF38 ?_ (Nat.le_of_ble_eq_true rfl)
  have h1 := both_doc a b ha hb
  have hk := chosen_ok false b a hb ha
  rw [notIn_eq] at hk
  unfold ansS
  by_cases h : bothE a b = 0
  · have e : opA a b (a.filter (notIn' b)) = (0, a.filter (notIn' b)) := if_pos h
    rw [e]
    rw [h] at h1
    refine walkX ?_
    refine Reg.c (Nat.zero_le _) rfl (hk.mono ?_)
    rintro res H' ⟨rfl, rfl⟩
    refine walkX ?_
    (refine endH [[(0,0)]] (by first | exact .inr rfl | exact .inl rfl) rfl ⟨rfl, rfl⟩ ?_ ?_ rfl rfl rfl; all_goals (repeat' (first | exact ToAll.nil | exact famsTo.nil | exact famTo.nil | exact ToL.nil | exact ToR.nil | refine ToAll.cons ?_ ?_ | refine famsTo.cons ?_ ?_ | refine wt10 ?_ ?_ | exact To.undef _ | exact To.sc _ | exact To.hslL rfl rfl | exact To.ptrO rfl rfl rfl | exact To.mrefO rfl | exact To.nil rfl rfl rfl | exact wt1 | exact To.nilL | refine To.int ?_ | refine To.bool ?_ | refine To.hslL rfl ?_ | refine wt2 rfl ?_ ?_ ?_ | refine To.tupL ?_ | refine To.aggL ?_ | refine To.cptrL ?_ | refine wt3 ?_ | refine wt4 ?_ | refine To.cloL ?_ ?_ | exact wt5 | refine wt6 ?_ | refine ToB.one ?_ | exact wt7 | ((with_reducible apply ToL.consE); case e9 => rfl) | refine wt8 ?_ | refine ToL.cons ?_ ?_ | exact wt11 | refine wt9 ?_ ?_ | refine wt12 ?_ | (with_reducible rfl) | assumption)); all_goals (first | rfl | assumption | (simp; done) | (simp; omega) | (rw [wrap_small (by omega) (by omega)]; done) | (rw [wrap_small (by omega) (by omega)]; omega) | (refine congrArg Nat.cast ?_; assumption) | skip))
  · have e : opA a b (a.filter (notIn' b)) = (bothE a b, []) := if_neg h
    rw [e]
    refine walkX ?_
    rw [show (bothE a b != 0) = true from by simpa using h]
    refine walkX ?_
    (refine ⟨.inr rfl, _, .tup [.hsl 0 0 0 0, .sc (.int .i64 (bothE a b))], [[.cells 1 []]], rfl, SubV.to [1] [[((0),0)]] ?_ ?_ rfl rfl rfl, rfl, rfl⟩; all_goals (all_goals (repeat' (first | exact ToAll.nil | exact famsTo.nil | exact famTo.nil | exact ToL.nil | exact ToR.nil | refine ToAll.cons ?_ ?_ | refine famsTo.cons ?_ ?_ | refine wt10 ?_ ?_ | exact To.undef _ | exact To.sc _ | exact To.hslL rfl rfl | exact To.ptrO rfl rfl rfl | exact To.mrefO rfl | exact To.nil rfl rfl rfl | exact wt1 | exact To.nilL | refine To.int ?_ | refine To.bool ?_ | refine To.hslL rfl ?_ | refine wt2 rfl ?_ ?_ ?_ | refine To.tupL ?_ | refine To.aggL ?_ | refine To.cptrL ?_ | refine wt3 ?_ | refine wt4 ?_ | refine To.cloL ?_ ?_ | exact wt5 | refine wt6 ?_ | refine ToB.one ?_ | exact wt7 | ((with_reducible apply ToL.consE); case e9 => rfl) | refine wt8 ?_ | refine ToL.cons ?_ ?_ | exact wt11 | refine wt9 ?_ ?_ | refine wt12 ?_ | (with_reducible rfl) | assumption)); all_goals (first | rfl | assumption | (simp; done) | (simp; omega) | (rw [wrap_small (by omega) (by omega)]; done) | (rw [wrap_small (by omega) (by omega)]; omega) | (refine congrArg Nat.cast ?_; assumption) | skip)))
set_option maxHeartbeats 4000000 in
theorem union_doc (a b : List Int) (ha : a.length ≤ 100000) (hb : b.length ≤ 100000) : CallOK Try.prog 32 [.list 1 (intsR a), .list 1 (intsR b)] [] (ansS (opA a b (a ++ b.filter (notIn' a)))) := by
  refine CallOK.of cF32 ?_ (Nat.le_of_ble_eq_true rfl)
  have h1 := both_doc a b (by omega) (by omega)
  have hk := chosen_ok false a b (by omega) (by omega)
  rw [notIn_eq] at hk
  have e0 := intsR_len a
  unfold ansS
  by_cases h : bothE a b = 0
  · have e : opA a b (a ++ b.filter (notIn' a)) = (0, a ++ b.filter (notIn' a)) := if_pos h
    rw [e]
    rw [h] at h1
    refine walkX ?_
    refine Reg.sub (fr' := [(15, .hsl 0 0 0 a.length), (16, .list 1 (intsR b)), (17, .list 1 (intsR a))]) (H' := [[.cells 1 (intsR a)]]) ?_ ?_
    · exact Sub.w [] [[(1,0)]]
    have hk2 := CallOK.viewL (H := [[.cells 1 (intsR a)]]) (args := [.list 1 (intsR b), .list 1 (intsR a), .sc (.bool false)]) (ints_sc _) hk (ToL.cons (To.pure (.list _ _ (prs _))) (ToL.cons (To.pure (.list _ _ (prs _))) (ToL.cons (To.sc _) ToL.nil)))
    refine Reg.c (Nat.zero_le _) rfl (hk2.mono ?_)
    rintro res H' ⟨rfl, rfl⟩
    have hlen : (b.filter (notIn' a)).length ≤ 100000 := Nat.le_trans (List.length_filter_le _ _) hb
    have e2 : (a ++ b.filter (notIn' a)).length = a.length + (b.filter (notIn' a)).length := List.length_append
    have e3 : intsR (a ++ b.filter (notIn' a)) = intsR a ++ intsR (b.filter (notIn' a)) := by simp [intsR]
    have e4 := intsR_len (b.filter (notIn' a))
    generalize b.filter (notIn' a) = o at *
    refine Reg.o rfl (dstep_app (rows1 := intsR a) (rows2 := intsR o) rfl (rowsX_all rfl e4) rfl e0 (by omega) rfl) ?_
    rw [e4]
    refine walkX ?_
    dsimp only
    rw [e2, e3]
    (refine endH [[(2,0)]] (by first | exact .inr rfl | exact .inl rfl) rfl ⟨rfl, rfl⟩ ?_ ?_ rfl rfl rfl; all_goals (repeat' (first | exact ToAll.nil | exact famsTo.nil | exact famTo.nil | exact ToL.nil | exact ToR.nil | refine ToAll.cons ?_ ?_ | refine famsTo.cons ?_ ?_ | refine wt10 ?_ ?_ | exact To.undef _ | exact To.sc _ | exact To.hslL rfl rfl | exact To.ptrO rfl rfl rfl | exact To.mrefO rfl | exact To.nil rfl rfl rfl | exact wt1 | exact To.nilL | refine To.int ?_ | refine To.bool ?_ | refine To.hslL rfl ?_ | refine wt2 rfl ?_ ?_ ?_ | refine To.tupL ?_ | refine To.aggL ?_ | refine To.cptrL ?_ | refine wt3 ?_ | refine wt4 ?_ | refine To.cloL ?_ ?_ | exact wt5 | refine wt6 ?_ | refine ToB.one ?_ | exact wt7 | ((with_reducible apply ToL.consE); case e9 => rfl) | refine wt8 ?_ | refine ToL.cons ?_ ?_ | exact wt11 | refine wt9 ?_ ?_ | refine wt12 ?_ | (with_reducible rfl) | assumption)); all_goals (first | rfl | assumption | (simp; done) | (simp; omega) | (rw [wrap_small (by omega) (by omega)]; done) | (rw [wrap_small (by omega) (by omega)]; omega) | (refine congrArg Nat.cast ?_; assumption) | skip))
  · have e : opA a b (a ++ b.filter (notIn' a)) = (bothE a b, []) := if_neg h
    rw [e]
    refine walkX ?_
    rw [show (bothE a b != 0) = true from by simpa using h]
    refine walkX ?_
    (refine ⟨.inr rfl, _, .tup [.hsl 0 0 0 0, .sc (.int .i64 (bothE a b))], [[.cells 1 []]], rfl, SubV.to [1] [[((0),0)]] ?_ ?_ rfl rfl rfl, rfl, rfl⟩; all_goals (all_goals (repeat' (first | exact ToAll.nil | exact famsTo.nil | exact famTo.nil | exact ToL.nil | exact ToR.nil | refine ToAll.cons ?_ ?_ | refine famsTo.cons ?_ ?_ | refine wt10 ?_ ?_ | exact To.undef _ | exact To.sc _ | exact To.hslL rfl rfl | exact To.ptrO rfl rfl rfl | exact To.mrefO rfl | exact To.nil rfl rfl rfl | exact wt1 | exact To.nilL | refine To.int ?_ | refine To.bool ?_ | refine To.hslL rfl ?_ | refine wt2 rfl ?_ ?_ ?_ | refine To.tupL ?_ | refine To.aggL ?_ | refine To.cptrL ?_ | refine wt3 ?_ | refine wt4 ?_ | refine To.cloL ?_ ?_ | exact wt5 | refine wt6 ?_ | refine ToB.one ?_ | exact wt7 | ((with_reducible apply ToL.consE); case e9 => rfl) | refine wt8 ?_ | refine ToL.cons ?_ ?_ | exact wt11 | refine wt9 ?_ ?_ | refine wt12 ?_ | (with_reducible rfl) | assumption)); all_goals (first | rfl | assumption | (simp; done) | (simp; omega) | (rw [wrap_small (by omega) (by omega)]; done) | (rw [wrap_small (by omega) (by omega)]; omega) | (refine congrArg Nat.cast ?_; assumption) | skip)))
end Go.Proofs.Ytpkpfgpfkajkpaa
namespace Go.Proofs.Ytpkpfgpfkajkpaa
open Go.Av Go.Proofs
set_option maxRecDepth 20000
theorem eq_of_at {a b : List Int} (hl : a.length = b.length) (h : ∀ (j : Nat) (h1 : j < a.length) (h2 : j < b.length), a[j] = b[j]) : a = b := List.ext_getElem hl fun j h1 h2 => h j h1 h2
set_option maxHeartbeats 4000000 in
theorem same2_call (a b : List Int) (ha : a.length ≤ 1000000) (hb : b.length ≤ 1000000) : CallOK Try.prog 58 [.list 1 (intsR a), .list 1 (intsR b)] [] fun res H' => res = .sc (.bool (decide (a = b))) ∧ H' = [] := by
  refine CallOK.of cF58 ?_ (Nat.le_of_ble_eq_true rfl)
  have e0 := intsR_len a
  have e1 := intsR_len b
  refine walkX ?_
  rw [e0, e1]
  by_cases hl : a.length = b.length
  case neg =>
    have hres : AV.sc (Value.bool false) = .sc (.bool (decide (a = b))) := by rw [decide_eq_false (fun h => hl (by rw [h]))]
    rw [decide_eq_false hl]
    refine walkX ?_
    (refine endH [] (by first | exact .inr rfl | exact .inl rfl) rfl ⟨hres, rfl⟩ ?_ ?_ rfl rfl rfl; all_goals (repeat' (first | exact ToAll.nil | exact famsTo.nil | exact famTo.nil | exact ToL.nil | exact ToR.nil | refine ToAll.cons ?_ ?_ | refine famsTo.cons ?_ ?_ | refine wt10 ?_ ?_ | exact To.undef _ | exact To.sc _ | exact To.hslL rfl rfl | exact To.ptrO rfl rfl rfl | exact To.mrefO rfl | exact To.nil rfl rfl rfl | exact wt1 | exact To.nilL | refine To.int ?_ | refine To.bool ?_ | refine To.hslL rfl ?_ | refine wt2 rfl ?_ ?_ ?_ | refine To.tupL ?_ | refine To.aggL ?_ | refine To.cptrL ?_ | refine wt3 ?_ | refine wt4 ?_ | refine To.cloL ?_ ?_ | exact wt5 | refine wt6 ?_ | refine ToB.one ?_ | exact wt7 | ((with_reducible apply ToL.consE); case e9 => rfl) | refine wt8 ?_ | refine ToL.cons ?_ ?_ | exact wt11 | refine wt9 ?_ ?_ | refine wt12 ?_ | (with_reducible rfl) | assumption)); all_goals (first | rfl | assumption | (simp; done) | (simp; omega) | (rw [wrap_small (by omega) (by omega)]; done) | (rw [wrap_small (by omega) (by omega)]; omega) | (refine congrArg Nat.cast ?_; assumption) | skip))
  rw [decide_eq_true hl]
  refine walkX ?_
  refine AWP.loop (fun k : Nat => [(0, .list 1 (intsR a)), (1, .list 1 (intsR b)), (5, .sc (.int .i64 (k : Int)))])
    (fun k => []) (fun k => k ≤ a.length ∧ ∀ (j : Nat) (h1 : j < a.length) (h2 : j < b.length), j < k → a[j] = b[j]) (fun k => a.length - k) 0 ⟨Nat.zero_le _, fun j _ _ h => by omega⟩ ?_ ?_
  · exact Sub.w [] []
  rintro k ⟨hk, hj⟩
  refine walkX ?_
  rw [e0]
  refine walkX ?_
  refine AWP.condD rfl (fun h => ?_) (fun h => ?_)
  · have hr := intsR_ix a k h
    have hr2 := intsR_ix b k (by omega)
    by_cases he : a[k] = b[k]
    · have hj2 : ∀ (j : Nat) (h1 : j < a.length) (h2 : j < b.length), j < k + 1 → a[j] = b[j] := fun j h1 h2 h3 => by
        by_cases e : j = k
        · subst e; exact he
        · exact hj j h1 h2 (by omega)
      rw [he] at hr
      generalize b[k] = x at *
      refine walkX ?_
      refine DK.nil ⟨by kernel_rfl, ?_⟩
      rw [bne_self]
      refine walkX ?_
      refine ⟨k + 1, ⟨by omega, hj2⟩, by omega, ?_⟩
      exact Sub.w [] []
    · have hres : AV.sc (Value.bool false) = .sc (.bool (decide (a = b))) := by rw [decide_eq_false (fun h => he (by subst h; rfl))]
      generalize a[k] = x at *
      generalize b[k] = y at *
      refine walkX ?_
      refine DK.nil ⟨by kernel_rfl, ?_⟩
      rw [show (x != y) = true from by simpa using he]
      refine walkX ?_
      (refine endH [] (by first | exact .inr rfl | exact .inl rfl) rfl ⟨hres, rfl⟩ ?_ ?_ rfl rfl rfl; all_goals (repeat' (first | exact ToAll.nil | exact famsTo.nil | exact famTo.nil | exact ToL.nil | exact ToR.nil | refine ToAll.cons ?_ ?_ | refine famsTo.cons ?_ ?_ | refine wt10 ?_ ?_ | exact To.undef _ | exact To.sc _ | exact To.hslL rfl rfl | exact To.ptrO rfl rfl rfl | exact To.mrefO rfl | exact To.nil rfl rfl rfl | exact wt1 | exact To.nilL | refine To.int ?_ | refine To.bool ?_ | refine To.hslL rfl ?_ | refine wt2 rfl ?_ ?_ ?_ | refine To.tupL ?_ | refine To.aggL ?_ | refine To.cptrL ?_ | refine wt3 ?_ | refine wt4 ?_ | refine To.cloL ?_ ?_ | exact wt5 | refine wt6 ?_ | refine ToB.one ?_ | exact wt7 | ((with_reducible apply ToL.consE); case e9 => rfl) | refine wt8 ?_ | refine ToL.cons ?_ ?_ | exact wt11 | refine wt9 ?_ ?_ | refine wt12 ?_ | (with_reducible rfl) | assumption)); all_goals (first | rfl | assumption | (simp; done) | (simp; omega) | (rw [wrap_small (by omega) (by omega)]; done) | (rw [wrap_small (by omega) (by omega)]; omega) | (refine congrArg Nat.cast ?_; assumption) | skip))
  have hres : AV.sc (Value.bool true) = .sc (.bool (decide (a = b))) := by rw [decide_eq_true (eq_of_at hl fun j h1 h2 => hj j h1 h2 (by omega))]
  refine walkX ?_
  (refine endH [] (by first | exact .inr rfl | exact .inl rfl) rfl ⟨hres, rfl⟩ ?_ ?_ rfl rfl rfl; all_goals (repeat' (first | exact ToAll.nil | exact famsTo.nil | exact famTo.nil | exact ToL.nil | exact ToR.nil | refine ToAll.cons ?_ ?_ | refine famsTo.cons ?_ ?_ | refine wt10 ?_ ?_ | exact To.undef _ | exact To.sc _ | exact To.hslL rfl rfl | exact To.ptrO rfl rfl rfl | exact To.mrefO rfl | exact To.nil rfl rfl rfl | exact wt1 | exact To.nilL | refine To.int ?_ | refine To.bool ?_ | refine To.hslL rfl ?_ | refine wt2 rfl ?_ ?_ ?_ | refine To.tupL ?_ | refine To.aggL ?_ | refine To.cptrL ?_ | refine wt3 ?_ | refine wt4 ?_ | refine To.cloL ?_ ?_ | exact wt5 | refine wt6 ?_ | refine ToB.one ?_ | exact wt7 | ((with_reducible apply ToL.consE); case e9 => rfl) | refine wt8 ?_ | refine ToL.cons ?_ ?_ | exact wt11 | refine wt9 ?_ ?_ | refine wt12 ?_ | (with_reducible rfl) | assumption)); all_goals (first | rfl | assumption | (simp; done) | (simp; omega) | (rw [wrap_small (by omega) (by omega)]; done) | (rw [wrap_small (by omega) (by omega)]; omega) | (refine congrArg Nat.cast ?_; assumption) | skip))
end Go.Proofs.Ytpkpfgpfkajkpaa
namespace Go.Proofs.Ytpkpfgpfkajkpaa
open Go.Av Go.Proofs
set_option maxRecDepth 20000
theorem same2_ok (a b : List Int) (ha : a.length ≤ 1000000) (hb : b.length ≤ 1000000) : PureRun Try.prog 58 [.list 1 (intsR a), .list 1 (intsR b)] (.sc (.bool (decide (a = b)))) :=
  PureRun.of (allPure_cons (.list _ _ (prs _)) (allPure_cons (.list _ _ (prs _)) allPure_nil)) (.sc _) ((same2_call a b ha hb).mono fun _ _ h => h.1)
set_option maxHeartbeats 4000000 in
theorem equal88_call (a b : List Int) (ha : a.length ≤ 1000000) (hb : b.length ≤ 1000000) : CallOK Try.prog 88 [.list 1 (intsR a), .list 1 (intsR b)] [] fun res H' => res = .sc (.bool (decide (a = b))) ∧ H' = [] := by
  refine CallOK.of cF88 ?_ (Nat.le_of_ble_eq_true rfl)
  have e0 := intsR_len a
  have e1 := intsR_len b
  refine walkX ?_
  rw [e0, e1]
  by_cases hl : a.length = b.length
  case neg =>
    have hres : AV.sc (Value.bool false) = .sc (.bool (decide (a = b))) := by rw [decide_eq_false (fun h => hl (by rw [h]))]
    rw [decide_eq_false hl]
    refine walkX ?_
    (refine endH [] (by first | exact .inr rfl | exact .inl rfl) rfl ⟨hres, rfl⟩ ?_ ?_ rfl rfl rfl; all_goals (repeat' (first | exact ToAll.nil | exact famsTo.nil | exact famTo.nil | exact ToL.nil | exact ToR.nil | refine ToAll.cons ?_ ?_ | refine famsTo.cons ?_ ?_ | refine wt10 ?_ ?_ | exact To.undef _ | exact To.sc _ | exact To.hslL rfl rfl | exact To.ptrO rfl rfl rfl | exact To.mrefO rfl | exact To.nil rfl rfl rfl | exact wt1 | exact To.nilL | refine To.int ?_ | refine To.bool ?_ | refine To.hslL rfl ?_ | refine wt2 rfl ?_ ?_ ?_ | refine To.tupL ?_ | refine To.aggL ?_ | refine To.cptrL ?_ | refine wt3 ?_ | refine wt4 ?_ | refine To.cloL ?_ ?_ | exact wt5 | refine wt6 ?_ | refine ToB.one ?_ | exact wt7 | ((with_reducible apply ToL.consE); case e9 => rfl) | refine wt8 ?_ | refine ToL.cons ?_ ?_ | exact wt11 | refine wt9 ?_ ?_ | refine wt12 ?_ | (with_reducible rfl) | assumption)); all_goals (first | rfl | assumption | (simp; done) | (simp; omega) | (rw [wrap_small (by omega) (by omega)]; done) | (rw [wrap_small (by omega) (by omega)]; omega) | (refine congrArg Nat.cast ?_; assumption) | skip))
  rw [decide_eq_true hl]
  refine walkX ?_
  rw [e0]
  refine AWP.loop (fun k : Nat => [(0, .list 1 (intsR a)), (1, .list 1 (intsR b)), (12, .sc (.int .i64 (a.length : Int))), (13, .sc (.int .i64 (k : Int)))])
    (fun k => []) (fun k => k ≤ a.length ∧ ∀ (j : Nat) (h1 : j < a.length) (h2 : j < b.length), j < k → a[j] = b[j]) (fun k => a.length - k) 0 ⟨Nat.zero_le _, fun j _ _ h => by omega⟩ ?_ ?_
  · exact Sub.w [] []
  rintro k ⟨hk, hj⟩
  refine walkX ?_
  refine AWP.condD rfl (fun h => ?_) (fun h => ?_)
  · have hr := intsR_ix a k h
    have hr2 := intsR_ix b k (by omega)
    by_cases he : a[k] = b[k]
    · have hj2 : ∀ (j : Nat) (h1 : j < a.length) (h2 : j < b.length), j < k + 1 → a[j] = b[j] := fun j h1 h2 h3 => by
        by_cases e : j = k
        · subst e; exact he
        · exact hj j h1 h2 (by omega)
      rw [he] at hr
      generalize b[k] = x at *
      refine walkX ?_
      refine DK.nil ⟨by kernel_rfl, ?_⟩
      rw [bne_self]
      refine walkX ?_
      refine ⟨k + 1, ⟨by omega, hj2⟩, by omega, ?_⟩
      exact Sub.w [] []
    · have hres : AV.sc (Value.bool false) = .sc (.bool (decide (a = b))) := by rw [decide_eq_false (fun h => he (by subst h; rfl))]
      generalize a[k] = x at *
      generalize b[k] = y at *
      refine walkX ?_
      refine DK.nil ⟨by kernel_rfl, ?_⟩
      rw [show (x != y) = true from by simpa using he]
      refine walkX ?_
      (refine endH [] (by first | exact .inr rfl | exact .inl rfl) rfl ⟨hres, rfl⟩ ?_ ?_ rfl rfl rfl; all_goals (repeat' (first | exact ToAll.nil | exact famsTo.nil | exact famTo.nil | exact ToL.nil | exact ToR.nil | refine ToAll.cons ?_ ?_ | refine famsTo.cons ?_ ?_ | refine wt10 ?_ ?_ | exact To.undef _ | exact To.sc _ | exact To.hslL rfl rfl | exact To.ptrO rfl rfl rfl | exact To.mrefO rfl | exact To.nil rfl rfl rfl | exact wt1 | exact To.nilL | refine To.int ?_ | refine To.bool ?_ | refine To.hslL rfl ?_ | refine wt2 rfl ?_ ?_ ?_ | refine To.tupL ?_ | refine To.aggL ?_ | refine To.cptrL ?_ | refine wt3 ?_ | refine wt4 ?_ | refine To.cloL ?_ ?_ | exact wt5 | refine wt6 ?_ | refine ToB.one ?_ | exact wt7 | ((with_reducible apply ToL.consE); case e9 => rfl) | refine wt8 ?_ | refine ToL.cons ?_ ?_ | exact wt11 | refine wt9 ?_ ?_ | refine wt12 ?_ | (with_reducible rfl) | assumption)); all_goals (first | rfl | assumption | (simp; done) | (simp; omega) | (rw [wrap_small (by omega) (by omega)]; done) | (rw [wrap_small (by omega) (by omega)]; omega) | (refine congrArg Nat.cast ?_; assumption) | skip))
  have hres : AV.sc (Value.bool true) = .sc (.bool (decide (a = b))) := by rw [decide_eq_true (eq_of_at hl fun j h1 h2 => hj j h1 h2 (by omega))]
  refine walkX ?_
  (refine endH [] (by first | exact .inr rfl | exact .inl rfl) rfl ⟨hres, rfl⟩ ?_ ?_ rfl rfl rfl; all_goals (repeat' (first | exact ToAll.nil | exact famsTo.nil | exact famTo.nil | exact ToL.nil | exact ToR.nil | refine ToAll.cons ?_ ?_ | refine famsTo.cons ?_ ?_ | refine wt10 ?_ ?_ | exact To.undef _ | exact To.sc _ | exact To.hslL rfl rfl | exact To.ptrO rfl rfl rfl | exact To.mrefO rfl | exact To.nil rfl rfl rfl | exact wt1 | exact To.nilL | refine To.int ?_ | refine To.bool ?_ | refine To.hslL rfl ?_ | refine wt2 rfl ?_ ?_ ?_ | refine To.tupL ?_ | refine To.aggL ?_ | refine To.cptrL ?_ | refine wt3 ?_ | refine wt4 ?_ | refine To.cloL ?_ ?_ | exact wt5 | refine wt6 ?_ | refine ToB.one ?_ | exact wt7 | ((with_reducible apply ToL.consE); case e9 => rfl) | refine wt8 ?_ | refine ToL.cons ?_ ?_ | exact wt11 | refine wt9 ?_ ?_ | refine wt12 ?_ | (with_reducible rfl) | assumption)); all_goals (first | rfl | assumption | (simp; done) | (simp; omega) | (rw [wrap_small (by omega) (by omega)]; done) | (rw [wrap_small (by omega) (by omega)]; omega) | (refine congrArg Nat.cast ?_; assumption) | skip))
theorem equal88_ok (a b : List Int) (ha : a.length ≤ 1000000) (hb : b.length ≤ 1000000) : PureRun Try.prog 88 [.list 1 (intsR a), .list 1 (intsR b)] (.sc (.bool (decide (a = b)))) :=
  PureRun.of (allPure_cons (.list _ _ (prs _)) (allPure_cons (.list _ _ (prs _)) allPure_nil)) (.sc _) ((equal88_call a b ha hb).mono fun _ _ h => h.1)
end Go.Proofs.Ytpkpfgpfkajkpaa
namespace Go.Proofs.Ytpkpfgpfkajkpaa
open Go.Av Go.Proofs
set_option maxRecDepth 20000
theorem sub_len : ∀ (l m : List Int), l.Nodup → (∀ x ∈ l, x ∈ m) → l.length ≤ m.length
  | [], m, _, _ => Nat.zero_le _
  | x :: l, m, hn, hs => by
    obtain ⟨h1, h2⟩ := List.nodup_cons.1 hn
    have hx := hs x (by simp)
    have h3 := sub_len l (m.erase x) h2 fun y hy => (List.mem_erase_of_ne (fun e : y = x => h1 (by rw [← e]; exact hy))).2 (hs y (by simp [hy]))
    have h4 := List.length_erase_of_mem hx
    have h5 : 0 < m.length := List.length_pos_of_mem hx
    rw [List.length_cons]
    omega
def flagB (s : List Int) : List Bool := (List.range 64).map fun i : Nat => decide ((i : Int) ∈ s)
theorem flagR_B (s : List Int) : flagR s = (flagB s).map fun b => .sc (.bool b) := by
  unfold flagR flagB
  rw [List.map_map]
  rfl
theorem flagB_iff {a b : List Int} (ha : ∀ x ∈ a, 0 ≤ x ∧ x < 64) (hb : ∀ x ∈ b, 0 ≤ x ∧ x < 64) : flagB a = flagB b ↔ ∀ x, x ∈ a ↔ x ∈ b := by
  constructor
  · intro h x
    have key : ∀ q : Nat, q < 64 → ((q : Int) ∈ a ↔ (q : Int) ∈ b) := fun q hq => by
      have := congrArg (fun l => l[q]?) h
      simp only [flagB, List.getElem?_map, List.getElem?_range hq, Option.map_some, Option.some.injEq, decide_eq_decide] at this
      exact this
    constructor
    · intro hx
      have := ha x hx
      obtain ⟨q, rfl⟩ : ∃ q : Nat, x = q := ⟨x.toNat, by omega⟩
      exact (key q (by omega)).1 hx
    · intro hx
      have := hb x hx
      obtain ⟨q, rfl⟩ : ∃ q : Nat, x = q := ⟨x.toNat, by omega⟩
      exact (key q (by omega)).2 hx
  · intro h
    unfold flagB
    exact List.map_congr_left fun q _ => by rw [decide_eq_decide]; exact h _
theorem setq_iff {a b : List Int} (ha : ∀ x ∈ a, 0 ≤ x ∧ x < 64) (hb : ∀ x ∈ b, 0 ≤ x ∧ x < 64) (na : a.Nodup) (nb : b.Nodup) : (a.length = b.length ∧ (a.filter (notIn' b)).length = 0) ↔ flagB a = flagB b := by
  rw [flagB_iff ha hb]
  have hf : (a.filter (notIn' b)).length = 0 ↔ ∀ x ∈ a, x ∈ b := by
    rw [List.length_eq_zero_iff, List.filter_eq_nil_iff]
    exact ⟨fun h x hx => by have := h x hx; simpa [notIn'] using this, fun h x hx => by simpa [notIn'] using h x hx⟩
  rw [hf]
  constructor
  · rintro ⟨h1, h2⟩ x
    refine ⟨h2 x, fun hx => ?_⟩
    by_cases hxa : x ∈ a
    · exact hxa
    · have := sub_len (x :: a) b (List.nodup_cons.2 ⟨hxa, na⟩) fun y hy => by
        rcases List.mem_cons.1 hy with rfl | hy
        · exact hx
        · exact h2 y hy
      rw [List.length_cons] at this
      omega
  · intro h
    have h1 := sub_len a b na fun x hx => (h x).1 hx
    have h2 := sub_len b a nb fun x hx => (h x).2 hx
    exact ⟨by omega, fun x hx => (h x).1 hx⟩
def cmpE (a b : List Int) : Int × Int := if bothE a b = 0 then (if a = b then (1, 0) else if flagB a = flagB b then (2, 0) else (3, 0)) else (0, bothE a b)
end Go.Proofs.Ytpkpfgpfkajkpaa
