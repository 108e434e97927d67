import Derived.Test.YtpkpfgpfkajkpaaGCoWorks
import Derived.Test.YtpkpfgpfkajkpaaGCoG1
namespace Go.Proofs.Ytpkpfgpfkajkpaa
open Go.Av Go.Proofs
set_option maxRecDepth 20000
def checkE (l : List Int) : Int := if 64 < l.length then 9 else distE 64 [] l
set_option maxHeartbeats 4000000 in
theorem check_ok (l : List Int) (hl : l.length ≤ 1000000) : PureRun Try.prog 33 [.list 1 (intsR l)] (.sc (.int .i64 (checkE l))) := by
  refine PureRun.of (allPure_cons (.list _ _ (prs _)) allPure_nil) (.sc _) (CallOK.mono (R := fun res H' => res = .sc (.int .i64 (checkE l)) ∧ H' = []) ?_ fun _ _ h => h.1)
  refine CallOK.of cF33 ?_ (Nat.le_of_ble_eq_true rfl)
  have e0 := intsR_len l
  have hv := dist_ok l 64 (Nat.le_refl _) hl
  refine walkX ?_
  rw [e0]
  by_cases h : 64 < l.length
  · have hr : AV.sc (Value.int .i64 9) = .sc (.int .i64 (checkE l)) := by unfold checkE; rw [if_pos h]
    rw [decide_eq_true h]
    refine walkX ?_
    (refine endH [] (by first | exact .inr rfl | exact .inl rfl) rfl ⟨hr, rfl⟩ ?_ ?_ rfl rfl rfl; all_goals (repeat' (first | exact ToAll.nil | exact famsTo.nil | exact famTo.nil | exact ToL.nil | exact ToR.nil | refine ToAll.cons ?_ ?_ | refine famsTo.cons ?_ ?_ | refine wt10 ?_ ?_ | exact To.undef _ | exact To.sc _ | exact To.hslL rfl rfl | exact To.ptrO rfl rfl rfl | exact To.mrefO rfl | exact To.nil rfl rfl rfl | exact wt1 | exact To.nilL | refine To.int ?_ | refine To.bool ?_ | refine To.hslL rfl ?_ | refine wt2 rfl ?_ ?_ ?_ | refine To.tupL ?_ | refine To.aggL ?_ | refine To.cptrL ?_ | refine wt3 ?_ | refine wt4 ?_ | refine To.cloL ?_ ?_ | exact wt5 | refine wt6 ?_ | refine ToB.one ?_ | exact wt7 | ((with_reducible apply ToL.consE); case e9 => rfl) | refine wt8 ?_ | refine ToL.cons ?_ ?_ | exact wt11 | refine wt9 ?_ ?_ | refine wt12 ?_ | (with_reducible rfl) | assumption)); all_goals (first | rfl | assumption | (simp; done) | (simp; omega) | (rw [wrap_small (by omega) (by omega)]; done) | (rw [wrap_small (by omega) (by omega)]; omega) | (refine congrArg Nat.cast ?_; assumption) | skip))
  · have hr : AV.sc (Value.int .i64 (distE 64 [] l)) = .sc (.int .i64 (checkE l)) := by unfold checkE; rw [if_neg h]
    rw [decide_eq_false h]
    refine walkX ?_
    (refine endH [] (by first | exact .inr rfl | exact .inl rfl) rfl ⟨hr, rfl⟩ ?_ ?_ rfl rfl rfl; all_goals (repeat' (first | exact ToAll.nil | exact famsTo.nil | exact famTo.nil | exact ToL.nil | exact ToR.nil | refine ToAll.cons ?_ ?_ | refine famsTo.cons ?_ ?_ | refine wt10 ?_ ?_ | exact To.undef _ | exact To.sc _ | exact To.hslL rfl rfl | exact To.ptrO rfl rfl rfl | exact To.mrefO rfl | exact To.nil rfl rfl rfl | exact wt1 | exact To.nilL | refine To.int ?_ | refine To.bool ?_ | refine To.hslL rfl ?_ | refine wt2 rfl ?_ ?_ ?_ | refine To.tupL ?_ | refine To.aggL ?_ | refine To.cptrL ?_ | refine wt3 ?_ | refine wt4 ?_ | refine To.cloL ?_ ?_ | exact wt5 | refine wt6 ?_ | refine ToB.one ?_ | exact wt7 | ((with_reducible apply ToL.consE); case e9 => rfl) | refine wt8 ?_ | refine ToL.cons ?_ ?_ | exact wt11 | refine wt9 ?_ ?_ | refine wt12 ?_ | (with_reducible rfl) | assumption)); all_goals (first | rfl | assumption | (simp; done) | (simp; omega) | (rw [wrap_small (by omega) (by omega)]; done) | (rw [wrap_small (by omega) (by omega)]; omega) | (refine congrArg Nat.cast ?_; assumption) | skip))
theorem dstep_cutL {g i : Nat} {fr : Fr} {H : Heap} {sz : Nat} {x hi : Operand} {k : IntKind} {q : Nat} {rows rows' : List (List AV)} (hx : ev fr x = .list sz rows) (hh : ev fr hi = .sc (.int k (q : Int))) (hq : q ≤ rows.length) (he : (rows.drop 0).take (q - 0) = rows') :
    dstep g i (.slice sz x none (some hi) none) fr H = some (.list sz rows', H) := by
  have e0 : Nat.ble 0 q = true := Nat.ble_eq_true_of_le (Nat.zero_le _)
  have e1 : Nat.ble q rows.length = true := Nat.ble_eq_true_of_le hq
  have e2 : Nat.ble rows.length rows.length = true := Nat.ble_eq_true_of_le (Nat.le_refl _)
  have e3 : sbounds fr rows.length none (some hi) none = some (0, q) := by
    simp only [sbounds, sbnd, hh]
    show (match Nat.ble 0 q && (Nat.ble q rows.length && Nat.ble rows.length rows.length) && true with | true => some (0, q) | false => none) = _
    rw [e0, e1, e2]
    rfl
  have e4 : Nat.beq sz sz = true := by simp
  simp only [dstep, hx, e4, e3, he]
theorem take_intsR (l : List Int) (k : Nat) : ((intsR l).drop 0).take (k - 0) = intsR (l.take k) := by
  unfold intsR
  rw [List.drop_zero, Nat.sub_zero, List.map_take]
set_option maxHeartbeats 4000000 in
theorem diff_call (l : List Int) (n : Nat) (_ : n ≤ 64) (hl : l.length ≤ 1000000) : CallOK Try.prog 85 [.list 1 (intsR l), .sc (.int .i64 (n : Int))] [] fun res H' => res = .sc (.int .i64 (distE n [] l)) ∧ H' = [] := by
  refine CallOK.of cF85 ?_ (Nat.le_of_ble_eq_true rfl)
  have e0 := intsR_len l
  refine walkX ?_
  refine AWP.loop (fun k : Nat => [(0, .list 1 (intsR l)), (1, .sc (.int .i64 (n : Int))), (5, .sc (.int .i64 (k : Int)))])
    (fun k => []) (fun k => k ≤ l.length ∧ distE n [] l = distE n (l.take k) (l.drop k)) (fun k => l.length - k) 0 ⟨Nat.zero_le _, rfl⟩ ?_ ?_
  · exact Sub.w [] []
  rintro k ⟨hk, hd⟩
  refine walkX ?_
  rw [e0]
  refine walkX ?_
  refine AWP.condD rfl (fun h => ?_) (fun h => ?_)
  · have hr := intsR_ix l k h
    have hd2 : distE n (l.take k) (l.drop k) = if l[k] < 0 ∨ (n : Int) ≤ l[k] then 11 else if l[k] ∈ l.take k then 5 else distE n (l.take (k + 1)) (l.drop (k + 1)) := by
      rw [List.drop_eq_getElem_cons h, List.take_succ_eq_append_getElem h]
      rfl
    rw [hd2] at hd
    clear hd2
    generalize l[k] = x at *
    have hv := index_ok (l.take k) x (by rw [List.length_take]; omega)
    by_cases h1 : x < 0
    · rw [if_pos (.inl h1)] at hd
      have hres : AV.sc (Value.int .i64 11) = .sc (.int .i64 (distE n [] l)) := by rw [hd]
      refine walkX ?_
      rw [decide_eq_true h1]
      refine walkX ?_
      (refine endH [] (by first | exact .inr rfl | exact .inl rfl) rfl ⟨hres, rfl⟩ ?_ ?_ rfl rfl rfl; all_goals (repeat' (first | exact ToAll.nil | exact famsTo.nil | exact famTo.nil | exact ToL.nil | exact ToR.nil | refine ToAll.cons ?_ ?_ | refine famsTo.cons ?_ ?_ | refine wt10 ?_ ?_ | exact To.undef _ | exact To.sc _ | exact To.hslL rfl rfl | exact To.ptrO rfl rfl rfl | exact To.mrefO rfl | exact To.nil rfl rfl rfl | exact wt1 | exact To.nilL | refine To.int ?_ | refine To.bool ?_ | refine To.hslL rfl ?_ | refine wt2 rfl ?_ ?_ ?_ | refine To.tupL ?_ | refine To.aggL ?_ | refine To.cptrL ?_ | refine wt3 ?_ | refine wt4 ?_ | refine To.cloL ?_ ?_ | exact wt5 | refine wt6 ?_ | refine ToB.one ?_ | exact wt7 | ((with_reducible apply ToL.consE); case e9 => rfl) | refine wt8 ?_ | refine ToL.cons ?_ ?_ | exact wt11 | refine wt9 ?_ ?_ | refine wt12 ?_ | (with_reducible rfl) | assumption)); all_goals (first | rfl | assumption | (simp; done) | (simp; omega) | (rw [wrap_small (by omega) (by omega)]; done) | (rw [wrap_small (by omega) (by omega)]; omega) | (refine congrArg Nat.cast ?_; assumption) | skip))
    by_cases h2 : (n : Int) ≤ x
    · rw [if_pos (.inr h2)] at hd
      have hres : AV.sc (Value.int .i64 11) = .sc (.int .i64 (distE n [] l)) := by rw [hd]
      refine walkX ?_
      rw [decide_eq_false h1]
      refine walkX ?_
      rw [decide_eq_true h2]
      refine walkX ?_
      (refine endH [] (by first | exact .inr rfl | exact .inl rfl) rfl ⟨hres, rfl⟩ ?_ ?_ rfl rfl rfl; all_goals (repeat' (first | exact ToAll.nil | exact famsTo.nil | exact famTo.nil | exact ToL.nil | exact ToR.nil | refine ToAll.cons ?_ ?_ | refine famsTo.cons ?_ ?_ | refine wt10 ?_ ?_ | exact To.undef _ | exact To.sc _ | exact To.hslL rfl rfl | exact To.ptrO rfl rfl rfl | exact To.mrefO rfl | exact To.nil rfl rfl rfl | exact wt1 | exact To.nilL | refine To.int ?_ | refine To.bool ?_ | refine To.hslL rfl ?_ | refine wt2 rfl ?_ ?_ ?_ | refine To.tupL ?_ | refine To.aggL ?_ | refine To.cptrL ?_ | refine wt3 ?_ | refine wt4 ?_ | refine To.cloL ?_ ?_ | exact wt5 | refine wt6 ?_ | refine ToB.one ?_ | exact wt7 | ((with_reducible apply ToL.consE); case e9 => rfl) | refine wt8 ?_ | refine ToL.cons ?_ ?_ | exact wt11 | refine wt9 ?_ ?_ | refine wt12 ?_ | (with_reducible rfl) | assumption)); all_goals (first | rfl | assumption | (simp; done) | (simp; omega) | (rw [wrap_small (by omega) (by omega)]; done) | (rw [wrap_small (by omega) (by omega)]; omega) | (refine congrArg Nat.cast ?_; assumption) | skip))
    rw [if_neg (by omega)] at hd
    refine walkX ?_
    rw [decide_eq_false h1]
    refine walkX ?_
    rw [decide_eq_false h2]
    refine walkX ?_
    refine DK.o rfl (dstep_cutL rfl rfl (by omega) (take_intsR l k)) ?_
    refine walkX ?_
    refine DK.nil ⟨by kernel_rfl, ?_⟩
    by_cases h3 : x ∈ l.take k
    · rw [if_pos h3] at hd
      have hres : AV.sc (Value.int .i64 5) = .sc (.int .i64 (distE n [] l)) := by rw [hd]
      rw [decide_eq_true ((idxE_mem x (l.take k)).1.2 h3)]
      refine walkX ?_
      (refine endH [] (by first | exact .inr rfl | exact .inl rfl) rfl ⟨hres, rfl⟩ ?_ ?_ rfl rfl rfl; all_goals (repeat' (first | exact ToAll.nil | exact famsTo.nil | exact famTo.nil | exact ToL.nil | exact ToR.nil | refine ToAll.cons ?_ ?_ | refine famsTo.cons ?_ ?_ | refine wt10 ?_ ?_ | exact To.undef _ | exact To.sc _ | exact To.hslL rfl rfl | exact To.ptrO rfl rfl rfl | exact To.mrefO rfl | exact To.nil rfl rfl rfl | exact wt1 | exact To.nilL | refine To.int ?_ | refine To.bool ?_ | refine To.hslL rfl ?_ | refine wt2 rfl ?_ ?_ ?_ | refine To.tupL ?_ | refine To.aggL ?_ | refine To.cptrL ?_ | refine wt3 ?_ | refine wt4 ?_ | refine To.cloL ?_ ?_ | exact wt5 | refine wt6 ?_ | refine ToB.one ?_ | exact wt7 | ((with_reducible apply ToL.consE); case e9 => rfl) | refine wt8 ?_ | refine ToL.cons ?_ ?_ | exact wt11 | refine wt9 ?_ ?_ | refine wt12 ?_ | (with_reducible rfl) | assumption)); all_goals (first | rfl | assumption | (simp; done) | (simp; omega) | (rw [wrap_small (by omega) (by omega)]; done) | (rw [wrap_small (by omega) (by omega)]; omega) | (refine congrArg Nat.cast ?_; assumption) | skip))
    rw [if_neg h3] at hd
    rw [decide_eq_false (fun q => h3 ((idxE_mem x (l.take k)).1.1 q))]
    refine walkX ?_
    refine ⟨k + 1, ⟨by omega, hd⟩, by omega, ?_⟩
    exact Sub.w [] []
  have hk : k = l.length := by omega
  subst hk
  rw [List.drop_length] at hd
  refine walkX ?_
  have hres : AV.sc (Value.int .i64 0) = .sc (.int .i64 (distE n [] l)) := by rw [hd]; rfl
  (refine endH [] (by first | exact .inr rfl | exact .inl rfl) rfl ⟨hres, rfl⟩ ?_ ?_ rfl rfl rfl; all_goals (repeat' (first | exact ToAll.nil | exact famsTo.nil | exact famTo.nil | exact ToL.nil | exact ToR.nil | refine ToAll.cons ?_ ?_ | refine famsTo.cons ?_ ?_ | refine wt10 ?_ ?_ | exact To.undef _ | exact To.sc _ | exact To.hslL rfl rfl | exact To.ptrO rfl rfl rfl | exact To.mrefO rfl | exact To.nil rfl rfl rfl | exact wt1 | exact To.nilL | refine To.int ?_ | refine To.bool ?_ | refine To.hslL rfl ?_ | refine wt2 rfl ?_ ?_ ?_ | refine To.tupL ?_ | refine To.aggL ?_ | refine To.cptrL ?_ | refine wt3 ?_ | refine wt4 ?_ | refine To.cloL ?_ ?_ | exact wt5 | refine wt6 ?_ | refine ToB.one ?_ | exact wt7 | ((with_reducible apply ToL.consE); case e9 => rfl) | refine wt8 ?_ | refine ToL.cons ?_ ?_ | exact wt11 | refine wt9 ?_ ?_ | refine wt12 ?_ | (with_reducible rfl) | assumption)); all_goals (first | rfl | assumption | (simp; done) | (simp; omega) | (rw [wrap_small (by omega) (by omega)]; done) | (rw [wrap_small (by omega) (by omega)]; omega) | (refine congrArg Nat.cast ?_; assumption) | skip))
set_option maxHeartbeats 4000000 in
theorem setOf_call (l : List Int) (hl : l.length ≤ 1000000) (hb : ∀ x ∈ l, 0 ≤ x ∧ x < 64) : CallOK Try.prog 79 [.list 1 (intsR l)] [] fun res H' => res = .agg (flagR l) ∧ H' = [] := by
  refine CallOK.of cF79 ?_ (Nat.le_of_ble_eq_true rfl)
  have e0 := intsR_len l
  refine walkX ?_
  rw [e0]
  refine AWP.loop (fun k : Nat => [(2, .ptr 0 0 0 0), (3, .ptr 1 0 0 0), (6, .list 1 (intsR l)), (7, .sc (.int .i64 (l.length : Int))), (8, .sc (.int .i64 (k : Int)))])
    (fun k => [[.cells 64 [flagR []]], [.cells 64 [flagR (l.take k)]]]) (fun k => k ≤ l.length) (fun k => l.length - k) 0 (Nat.zero_le _) ?_ ?_
  · rw [List.take_zero, ← flagR_nil]
    exact Sub.w [] [[(0,0)],[(1,0)]]
  rintro k hk
  refine walkX ?_
  refine AWP.condD rfl (fun h => ?_) (fun h => ?_)
  · have hr := intsR_ix l k h
    have hx := hb l[k] (List.getElem_mem h)
    have ht := List.take_succ_eq_append_getElem h
    generalize l[k] = x at *
    obtain ⟨q, rfl⟩ : ∃ q : Nat, x = q := ⟨x.toNat, by omega⟩
    generalize l.take k = s at *
    have f0 := flagR_len s
    have hq : q < 64 := by omega
    refine walkX ?_
    refine ⟨k + 1, by omega, by omega, ?_⟩
    rw [ht, flagR_set]
    exact Sub.w [] [[(0,0)],[(1,0)]]
  have hk : k = l.length := by omega
  subst hk
  rw [List.take_of_length_le (Nat.le_refl _)]
  have f0 := flagR_len l
  have f1 := flagR_len []
  generalize flagR [] = z at *
  refine walkX ?_
  have hld : ldAV 64 true ((flagR l).drop 0) = some (.agg (flagR l)) := by
    have e : Nat.ble 64 (flagR l).length = true := Nat.ble_eq_true_of_le (by omega)
    simp only [ldAV, List.drop_zero, e, List.take_of_length_le (Nat.le_of_eq f0)]
  refine endH [] (.inr rfl) (res := .agg (flagR l)) ?_ ⟨rfl, rfl⟩ ?_ ?_ rfl rfl rfl
  · show (match (match ldAV 64 true ((flagR l).drop 0), some [] with | some x, some xs => some (x :: xs) | _, _ => none) with | some [x] => some x | some xs => some (.tup xs) | none => none) = _
    rw [hld]
  · exact To.pure (.agg _ (pr _))
  · exact famsTo.nil
theorem setOf_ok (l : List Int) (hl : l.length ≤ 1000000) (hb : ∀ x ∈ l, 0 ≤ x ∧ x < 64) : PureRun Try.prog 79 [.list 1 (intsR l)] (.agg (flagR l)) :=
  PureRun.of (allPure_cons (.list _ _ (prs _)) allPure_nil) (.agg _ (pr _)) ((setOf_call l hl hb).mono fun _ _ h => h.1)
end Go.Proofs.Ytpkpfgpfkajkpaa
namespace Go.Proofs.Ytpkpfgpfkajkpaa
open Go.Av Go.Proofs
set_option maxRecDepth 20000
theorem check0_rng {l : List Int} (h : checkE l = 0) : (∀ x ∈ l, 0 ≤ x ∧ x < 64) ∧ l.Nodup ∧ l.length ≤ 64 := by
  unfold checkE at h
  split at h
  · cases h
  · rename_i h1
    have key : ∀ (l s : List Int), distE 64 s l = 0 → (∀ x ∈ l, 0 ≤ x ∧ x < 64) ∧ (∀ x ∈ l, x ∉ s) ∧ l.Nodup := by
      intro l
      induction l with
      | nil => exact fun s _ => ⟨fun _ h => (by cases h), fun _ h => (by cases h), .nil⟩
      | cons y l ih =>
        intro s h
        unfold distE at h
        split at h
        · cases h
        · rename_i h1
          split at h
          · cases h
          · rename_i h2
            obtain ⟨a, b, c⟩ := ih _ h
            refine ⟨fun x hx => ?_, fun x hx => ?_, List.nodup_cons.2 ⟨fun hy => b y hy (by simp), c⟩⟩
            · rcases List.mem_cons.1 hx with rfl | hx
              · omega
              · exact a x hx
            · rcases List.mem_cons.1 hx with rfl | hx
              · exact h2
              · exact fun hs => b x hx (List.mem_append_left _ hs)
    obtain ⟨a, _, c⟩ := key l [] h
    exact ⟨a, c, by omega⟩
theorem flagR_at (s : List Int) {q : Nat} (h : q < 64) : ∃ rest, (flagR s).drop (q * 1) = .sc (.bool (decide ((q : Int) ∈ s))) :: rest := by
  have h1 := flagR_get s q h
  have hl := flagR_len s
  rw [Nat.mul_one, List.drop_eq_getElem_cons (by omega)]
  refine ⟨_, congrArg (· :: _) ?_⟩
  rw [List.getElem?_eq_getElem (by omega)] at h1
  injection h1
set_option maxHeartbeats 4000000 in
theorem notin_ok2 (s : List Int) (q : Nat) (h : q < 64) : PureRun Try.prog 87 [.sc (.int .i64 (q : Int)), .cptr (flagR s)] (.sc (.bool (!decide ((q : Int) ∈ s)))) := by
  refine PureRun.of (allPure_cons (.sc _) (allPure_cons (.cptr _ (pr _)) allPure_nil)) (.sc _) (CallOK.mono (R := fun res H' => res = .sc (.bool (!decide ((q : Int) ∈ s))) ∧ H' = []) ?_ fun _ _ h => h.1)
  obtain ⟨rest, hr⟩ := flagR_at s h
  refine CallOK.of cF87 ?_ (Nat.le_of_ble_eq_true rfl)
  refine AWP.seq ?_
  refine AWP.region ?_
  refine Reg.o rfl rfl ?_
  refine Reg.nil ?_
  refine AWP.seq ?_
  refine AWP.region ?_
  refine Reg.o rfl rfl ?_
  refine Reg.o rfl (dstep_idxArrC rfl rfl rfl h) ?_
  refine Reg.o rfl (dstep_ld1C rfl hr) ?_
  refine walkX ?_
  (refine endH [] (by first | exact .inr rfl | exact .inl rfl) rfl ⟨rfl, rfl⟩ ?_ ?_ rfl rfl rfl; all_goals (repeat' (first | exact ToAll.nil | exact famsTo.nil | exact famTo.nil | exact ToL.nil | exact ToR.nil | refine ToAll.cons ?_ ?_ | refine famsTo.cons ?_ ?_ | refine wt10 ?_ ?_ | exact To.undef _ | exact To.sc _ | exact To.hslL rfl rfl | exact To.ptrO rfl rfl rfl | exact To.mrefO rfl | exact To.nil rfl rfl rfl | exact wt1 | exact To.nilL | refine To.int ?_ | refine To.bool ?_ | refine To.hslL rfl ?_ | refine wt2 rfl ?_ ?_ ?_ | refine To.tupL ?_ | refine To.aggL ?_ | refine To.cptrL ?_ | refine wt3 ?_ | refine wt4 ?_ | refine To.cloL ?_ ?_ | exact wt5 | refine wt6 ?_ | refine ToB.one ?_ | exact wt7 | ((with_reducible apply ToL.consE); case e9 => rfl) | refine wt8 ?_ | refine ToL.cons ?_ ?_ | exact wt11 | refine wt9 ?_ ?_ | refine wt12 ?_ | (with_reducible rfl) | assumption)); all_goals (first | rfl | assumption | (simp; done) | (simp; omega) | (rw [wrap_small (by omega) (by omega)]; done) | (rw [wrap_small (by omega) (by omega)]; omega) | (refine congrArg Nat.cast ?_; assumption) | skip))
set_option maxHeartbeats 4000000 in
theorem keep_ok (g : FuncId) (s l : List Int) (p : Int → Bool) (hl : l.length ≤ 1000000) (hb : ∀ x ∈ l, 0 ≤ x ∧ x < 64) (hc : ∀ q : Nat, q < 64 → PureRun Try.prog g [.sc (.int .i64 (q : Int)), .cptr (flagR s)] (.sc (.bool (p q)))) :
    CallOK Try.prog 81 [.list 1 (intsR l), .clo (.func g) [] [.cptr (flagR s)]] [] fun res H' => res = .hsl 0 0 0 (l.filter p).length ∧ H' = [[.cells 1 (intsR (l.filter p))]] := by
  refine CallOK.of cF81 ?_ (Nat.le_of_ble_eq_true rfl)
  have e0 := intsR_len l
  have hpc : Pure (.clo (.func g) [] [.cptr (flagR s)]) := .clo _ _ _ (fun _ h => by cases h) (allPure_cons (.cptr _ (pr _)) allPure_nil)
  refine walkX ?_
  rw [e0]
  refine AWP.loop (fun k : Nat => [(1, .clo (.func g) [] [.cptr (flagR s)]), (5, .hsl 0 0 0 ((l.take k).filter p).length), (8, .list 1 (intsR l)), (9, .sc (.int .i64 (l.length : Int))), (10, .sc (.int .i64 (k : Int)))])
    (fun k => [[.cells 1 (intsR ((l.take k).filter p))]]) (fun k => k ≤ l.length) (fun k => l.length - k) 0 (Nat.zero_le _) ?_ ?_
  · (apply Sub.to [1] [[(0,0)]]; all_goals (repeat' (first | exact ToAll.nil | exact famsTo.nil | exact famTo.nil | exact ToL.nil | exact ToR.nil | refine ToAll.cons ?_ ?_ | refine famsTo.cons ?_ ?_ | refine wt10 ?_ ?_ | exact To.undef _ | exact To.sc _ | exact To.hslL rfl rfl | exact To.ptrO rfl rfl rfl | exact To.mrefO rfl | exact To.nil rfl rfl rfl | exact wt1 | exact To.nilL | refine To.int ?_ | refine To.bool ?_ | refine To.hslL rfl ?_ | refine wt2 rfl ?_ ?_ ?_ | refine To.tupL ?_ | refine To.aggL ?_ | refine To.cptrL ?_ | refine wt3 ?_ | refine wt4 ?_ | refine To.cloL ?_ ?_ | exact wt5 | refine wt6 ?_ | refine ToB.one ?_ | exact wt7 | ((with_reducible apply ToL.consE); case e9 => rfl) | refine wt8 ?_ | refine ToL.cons ?_ ?_ | exact wt11 | refine wt9 ?_ ?_ | refine wt12 ?_ | (with_reducible rfl) | assumption)); all_goals (first | rfl | assumption | (simp; done) | (simp; omega) | (rw [wrap_small (by omega) (by omega)]; done) | (rw [wrap_small (by omega) (by omega)]; omega) | (refine congrArg Nat.cast ?_; assumption) | skip))
    all_goals exact To.pure hpc
  rintro k hk
  refine walkX ?_
  refine AWP.condD rfl (fun h => ?_) (fun h => ?_)
  · have hr := intsR_ix l k h
    have hx := hb l[k] (List.getElem_mem h)
    have ht := List.take_succ_eq_append_getElem h
    have hle : ((l.take k).filter p).length ≤ 1000000 := Nat.le_trans (List.length_filter_le _ _) (by rw [List.length_take]; omega)
    generalize l[k] = x at *
    obtain ⟨q, rfl⟩ : ∃ q : Nat, x = q := ⟨x.toNat, by omega⟩
    have hv := hc q (by omega)
    have e1 := intsR_len ((l.take k).filter p)
    refine walkX ?_
    cases hp : p q with
    | true =>
      have e2 : (l.take (k + 1)).filter p = (l.take k).filter p ++ [(q : Int)] := by rw [ht, List.filter_append, List.filter_cons, if_pos hp]; rfl
      have e3 : intsR ((l.take k).filter p ++ [(q : Int)]) = intsR ((l.take k).filter p) ++ [[.sc (.int .i64 (q : Int))]] := by simp [intsR]
      have e4 : ((l.take k).filter p ++ [(q : Int)]).length = ((l.take k).filter p).length + 1 := by simp
      generalize (l.take k).filter p = o at *
      refine walkX ?_
      refine ⟨k + 1, by omega, by omega, ?_⟩
      rw [e2, e3, e4]
      (apply Sub.to [] [[(2,0)]]; all_goals (repeat' (first | exact ToAll.nil | exact famsTo.nil | exact famTo.nil | exact ToL.nil | exact ToR.nil | refine ToAll.cons ?_ ?_ | refine famsTo.cons ?_ ?_ | refine wt10 ?_ ?_ | exact To.undef _ | exact To.sc _ | exact To.hslL rfl rfl | exact To.ptrO rfl rfl rfl | exact To.mrefO rfl | exact To.nil rfl rfl rfl | exact wt1 | exact To.nilL | refine To.int ?_ | refine To.bool ?_ | refine To.hslL rfl ?_ | refine wt2 rfl ?_ ?_ ?_ | refine To.tupL ?_ | refine To.aggL ?_ | refine To.cptrL ?_ | refine wt3 ?_ | refine wt4 ?_ | refine To.cloL ?_ ?_ | exact wt5 | refine wt6 ?_ | refine ToB.one ?_ | exact wt7 | ((with_reducible apply ToL.consE); case e9 => rfl) | refine wt8 ?_ | refine ToL.cons ?_ ?_ | exact wt11 | refine wt9 ?_ ?_ | refine wt12 ?_ | (with_reducible rfl) | assumption)); all_goals (first | rfl | assumption | (simp; done) | (simp; omega) | (rw [wrap_small (by omega) (by omega)]; done) | (rw [wrap_small (by omega) (by omega)]; omega) | (refine congrArg Nat.cast ?_; assumption) | skip))
      all_goals exact To.pure hpc
    | false =>
      have e2 : (l.take (k + 1)).filter p = (l.take k).filter p := by rw [ht, List.filter_append, List.filter_cons, if_neg (by rw [hp]; simp)]; simp
      generalize (l.take k).filter p = o at *
      refine walkX ?_
      refine ⟨k + 1, by omega, by omega, ?_⟩
      rw [e2]
      (apply Sub.to [] [[(0,0)]]; all_goals (repeat' (first | exact ToAll.nil | exact famsTo.nil | exact famTo.nil | exact ToL.nil | exact ToR.nil | refine ToAll.cons ?_ ?_ | refine famsTo.cons ?_ ?_ | refine wt10 ?_ ?_ | exact To.undef _ | exact To.sc _ | exact To.hslL rfl rfl | exact To.ptrO rfl rfl rfl | exact To.mrefO rfl | exact To.nil rfl rfl rfl | exact wt1 | exact To.nilL | refine To.int ?_ | refine To.bool ?_ | refine To.hslL rfl ?_ | refine wt2 rfl ?_ ?_ ?_ | refine To.tupL ?_ | refine To.aggL ?_ | refine To.cptrL ?_ | refine wt3 ?_ | refine wt4 ?_ | refine To.cloL ?_ ?_ | exact wt5 | refine wt6 ?_ | refine ToB.one ?_ | exact wt7 | ((with_reducible apply ToL.consE); case e9 => rfl) | refine wt8 ?_ | refine ToL.cons ?_ ?_ | exact wt11 | refine wt9 ?_ ?_ | refine wt12 ?_ | (with_reducible rfl) | assumption)); all_goals (first | rfl | assumption | (simp; done) | (simp; omega) | (rw [wrap_small (by omega) (by omega)]; done) | (rw [wrap_small (by omega) (by omega)]; omega) | (refine congrArg Nat.cast ?_; assumption) | skip))
      all_goals exact To.pure hpc
  have hk : k = l.length := by omega
  subst hk
  rw [List.take_of_length_le (Nat.le_refl _)]
  refine walkX ?_
  (refine endH [[(0,0)]] (by first | exact .inr rfl | exact .inl rfl) rfl ⟨rfl, rfl⟩ ?_ ?_ rfl rfl rfl; all_goals (repeat' (first | exact ToAll.nil | exact famsTo.nil | exact famTo.nil | exact ToL.nil | exact ToR.nil | refine ToAll.cons ?_ ?_ | refine famsTo.cons ?_ ?_ | refine wt10 ?_ ?_ | exact To.undef _ | exact To.sc _ | exact To.hslL rfl rfl | exact To.ptrO rfl rfl rfl | exact To.mrefO rfl | exact To.nil rfl rfl rfl | exact wt1 | exact To.nilL | refine To.int ?_ | refine To.bool ?_ | refine To.hslL rfl ?_ | refine wt2 rfl ?_ ?_ ?_ | refine To.tupL ?_ | refine To.aggL ?_ | refine To.cptrL ?_ | refine wt3 ?_ | refine wt4 ?_ | refine To.cloL ?_ ?_ | exact wt5 | refine wt6 ?_ | refine ToB.one ?_ | exact wt7 | ((with_reducible apply ToL.consE); case e9 => rfl) | refine wt8 ?_ | refine ToL.cons ?_ ?_ | exact wt11 | refine wt9 ?_ ?_ | refine wt12 ?_ | (with_reducible rfl) | assumption)); all_goals (first | rfl | assumption | (simp; done) | (simp; omega) | (rw [wrap_small (by omega) (by omega)]; done) | (rw [wrap_small (by omega) (by omega)]; omega) | (refine congrArg Nat.cast ?_; assumption) | skip))
end Go.Proofs.Ytpkpfgpfkajkpaa
namespace Go.Proofs.Ytpkpfgpfkajkpaa
open Go.Av Go.Proofs
set_option maxRecDepth 20000
def bothE (a b : List Int) : Int := if checkE a = 0 then checkE b else checkE a
def notIn' (s : List Int) (x : Int) : Bool := !decide (x ∈ s)
def opA (a b o : List Int) : Int × List Int := if bothE a b = 0 then (0, o) else (bothE a b, [])
def ansS (p : Int × List Int) : AV → Heap → Prop := fun res H' => res = .tup [.hsl 0 0 0 p.2.length, .sc (.int .i64 p.1)] ∧ H' = [[.cells 1 (intsR p.2)]]
theorem both_ok (a b : List Int) (ha : a.length ≤ 1000000) (hb : b.length ≤ 1000000) : PureRun Try.prog 78 [.list 1 (intsR a), .list 1 (intsR b)] (.sc (.int .i64 (bothE a b))) := by
  refine PureRun.of (allPure_cons (.list _ _ (prs _)) (allPure_cons (.list _ _ (prs _)) allPure_nil)) (.sc _) (CallOK.mono (R := fun res H' => res = .sc (.int .i64 (bothE a b)) ∧ H' = []) ?_ fun _ _ h => h.1)
  refine CallOK.of cF78 ?_ (Nat.le_of_ble_eq_true rfl)
  have h1 := check_ok a ha
  have h2 := check_ok b hb
  by_cases h : checkE a = 0
  · have hr : AV.sc (Value.int .i64 (checkE b)) = .sc (.int .i64 (bothE a b)) := by unfold bothE; rw [if_pos h]
    rw [h] at h1
    refine walkX ?_
    (refine endH [] (by first | exact .inr rfl | exact .inl rfl) rfl ⟨hr, rfl⟩ ?_ ?_ rfl rfl rfl; all_goals (repeat' (first | exact ToAll.nil | exact famsTo.nil | exact famTo.nil | exact ToL.nil | exact ToR.nil | refine ToAll.cons ?_ ?_ | refine famsTo.cons ?_ ?_ | refine wt10 ?_ ?_ | exact To.undef _ | exact To.sc _ | exact To.hslL rfl rfl | exact To.ptrO rfl rfl rfl | exact To.mrefO rfl | exact To.nil rfl rfl rfl | exact wt1 | exact To.nilL | refine To.int ?_ | refine To.bool ?_ | refine To.hslL rfl ?_ | refine wt2 rfl ?_ ?_ ?_ | refine To.tupL ?_ | refine To.aggL ?_ | refine To.cptrL ?_ | refine wt3 ?_ | refine wt4 ?_ | refine To.cloL ?_ ?_ | exact wt5 | refine wt6 ?_ | refine ToB.one ?_ | exact wt7 | ((with_reducible apply ToL.consE); case e9 => rfl) | refine wt8 ?_ | refine ToL.cons ?_ ?_ | exact wt11 | refine wt9 ?_ ?_ | refine wt12 ?_ | (with_reducible rfl) | assumption)); all_goals (first | rfl | assumption | (simp; done) | (simp; omega) | (rw [wrap_small (by omega) (by omega)]; done) | (rw [wrap_small (by omega) (by omega)]; omega) | (refine congrArg Nat.cast ?_; assumption) | skip))
  · have hr : AV.sc (Value.int .i64 (checkE a)) = .sc (.int .i64 (bothE a b)) := by unfold bothE; rw [if_neg h]
    refine walkX ?_
    rw [show (checkE a != 0) = true from by simpa using h]
    refine walkX ?_
    (refine endH [] (by first | exact .inr rfl | exact .inl rfl) rfl ⟨hr, rfl⟩ ?_ ?_ rfl rfl rfl; all_goals (repeat' (first | exact ToAll.nil | exact famsTo.nil | exact famTo.nil | exact ToL.nil | exact ToR.nil | refine ToAll.cons ?_ ?_ | refine famsTo.cons ?_ ?_ | refine wt10 ?_ ?_ | exact To.undef _ | exact To.sc _ | exact To.hslL rfl rfl | exact To.ptrO rfl rfl rfl | exact To.mrefO rfl | exact To.nil rfl rfl rfl | exact wt1 | exact To.nilL | refine To.int ?_ | refine To.bool ?_ | refine To.hslL rfl ?_ | refine wt2 rfl ?_ ?_ ?_ | refine To.tupL ?_ | refine To.aggL ?_ | refine To.cptrL ?_ | refine wt3 ?_ | refine wt4 ?_ | refine To.cloL ?_ ?_ | exact wt5 | refine wt6 ?_ | refine ToB.one ?_ | exact wt7 | ((with_reducible apply ToL.consE); case e9 => rfl) | refine wt8 ?_ | refine ToL.cons ?_ ?_ | exact wt11 | refine wt9 ?_ ?_ | refine wt12 ?_ | (with_reducible rfl) | assumption)); all_goals (first | rfl | assumption | (simp; done) | (simp; omega) | (rw [wrap_small (by omega) (by omega)]; done) | (rw [wrap_small (by omega) (by omega)]; omega) | (refine congrArg Nat.cast ?_; assumption) | skip))
theorem both0 {a b : List Int} (h : bothE a b = 0) : checkE a = 0 ∧ checkE b = 0 := by
  unfold bothE at h
  split at h
  · rename_i h1
    exact ⟨h1, h⟩
  · rename_i h1
    exact absurd h h1
theorem keep_at (g : FuncId) (s l : List Int) (p : Int → Bool) (hl : l.length ≤ 1000000) (hb : ∀ x ∈ l, 0 ≤ x ∧ x < 64) (hc : ∀ q : Nat, q < 64 → PureRun Try.prog g [.sc (.int .i64 (q : Int)), .cptr (flagR s)] (.sc (.bool (p q)))) :
    CallOK Try.prog 81 [.list 1 (intsR l), .clo (.func g) [] [.ptr 0 0 0 0]] [[.cells 64 [flagR s]]] fun res H' => res = .hsl 1 0 0 (l.filter p).length ∧ H' = [[.cells 64 [flagR s]], [.cells 1 (intsR (l.filter p))]] := by
  refine CallOK.viewL (H := [[.cells 64 [flagR s]]]) (fun r hr c hc => ?_) (keep_ok g s l p hl hb hc) (ToL.cons (To.pure (.list _ _ (prs _))) (ToL.cons (To.cloL trivial (ToL.cons (To.fzp (r := flagR s) (g := 0) (i := 0) (row := 0) rfl rfl rfl (To.pure (.cptr _ (pr _)))) ToL.nil)) ToL.nil))
  obtain ⟨n, _, rfl⟩ := List.mem_map.1 hr
  exact ⟨_, List.mem_singleton.1 hc⟩
set_option maxHeartbeats 4000000 in
theorem diff_ok (a b : List Int) (ha : a.length ≤ 1000000) (hb : b.length ≤ 1000000) : CallOK Try.prog 37 [.list 1 (intsR a), .list 1 (intsR b)] [] (ansS (opA a b (a.filter (notIn' b)))) := by
  refine CallOK.of cF37 ?_ (Nat.le_of_ble_eq_true rfl)
  have h1 := both_ok a b ha hb
  unfold ansS
  by_cases h : bothE a b = 0
  · obtain ⟨c1, c2⟩ := both0 h
    have r1 := check0_rng c1
    have r2 := check0_rng c2
    have h2 := setOf_ok b hb r2.1
    have e : opA a b (a.filter (notIn' b)) = (0, a.filter (notIn' b)) := if_pos h
    rw [e]
    rw [h] at h1
    refine walkX ?_
    refine Reg.sub (fr' := [(16, .list 1 (intsR a)), (17, .clo (.func 87) [] [.ptr 0 0 0 0])]) (H' := [[.cells 64 [flagR b]]]) ?_ ?_
    · exact Sub.w [] [[(0,0)]]
    refine Reg.c (Nat.zero_le _) rfl ((keep_at 87 b a (notIn' b) ha r1.1 (notin_ok2 b)).mono ?_)
    rintro res H' ⟨rfl, rfl⟩
    refine walkX ?_
    (refine endH [[(1,0)]] (by first | exact .inr rfl | exact .inl rfl) rfl ⟨rfl, rfl⟩ ?_ ?_ rfl rfl rfl; all_goals (repeat' (first | exact ToAll.nil | exact famsTo.nil | exact famTo.nil | exact ToL.nil | exact ToR.nil | refine ToAll.cons ?_ ?_ | refine famsTo.cons ?_ ?_ | refine wt10 ?_ ?_ | exact To.undef _ | exact To.sc _ | exact To.hslL rfl rfl | exact To.ptrO rfl rfl rfl | exact To.mrefO rfl | exact To.nil rfl rfl rfl | exact wt1 | exact To.nilL | refine To.int ?_ | refine To.bool ?_ | refine To.hslL rfl ?_ | refine wt2 rfl ?_ ?_ ?_ | refine To.tupL ?_ | refine To.aggL ?_ | refine To.cptrL ?_ | refine wt3 ?_ | refine wt4 ?_ | refine To.cloL ?_ ?_ | exact wt5 | refine wt6 ?_ | refine ToB.one ?_ | exact wt7 | ((with_reducible apply ToL.consE); case e9 => rfl) | refine wt8 ?_ | refine ToL.cons ?_ ?_ | exact wt11 | refine wt9 ?_ ?_ | refine wt12 ?_ | (with_reducible rfl) | assumption)); all_goals (first | rfl | assumption | (simp; done) | (simp; omega) | (rw [wrap_small (by omega) (by omega)]; done) | (rw [wrap_small (by omega) (by omega)]; omega) | (refine congrArg Nat.cast ?_; assumption) | skip))
  · have e : opA a b (a.filter (notIn' b)) = (bothE a b, []) := if_neg h
    rw [e]
    refine walkX ?_
    rw [show (bothE a b != 0) = true from by simpa using h]
    refine walkX ?_
    (refine ⟨.inr rfl, _, .tup [.hsl 0 0 0 0, .sc (.int .i64 (bothE a b))], [[.cells 1 []]], rfl, SubV.to [1] [[((0),0)]] ?_ ?_ rfl rfl rfl, rfl, rfl⟩; all_goals (all_goals (repeat' (first | exact ToAll.nil | exact famsTo.nil | exact famTo.nil | exact ToL.nil | exact ToR.nil | refine ToAll.cons ?_ ?_ | refine famsTo.cons ?_ ?_ | refine wt10 ?_ ?_ | exact To.undef _ | exact To.sc _ | exact To.hslL rfl rfl | exact To.ptrO rfl rfl rfl | exact To.mrefO rfl | exact To.nil rfl rfl rfl | exact wt1 | exact To.nilL | refine To.int ?_ | refine To.bool ?_ | refine To.hslL rfl ?_ | refine wt2 rfl ?_ ?_ ?_ | refine To.tupL ?_ | refine To.aggL ?_ | refine To.cptrL ?_ | refine wt3 ?_ | refine wt4 ?_ | refine To.cloL ?_ ?_ | exact wt5 | refine wt6 ?_ | refine ToB.one ?_ | exact wt7 | ((with_reducible apply ToL.consE); case e9 => rfl) | refine wt8 ?_ | refine ToL.cons ?_ ?_ | exact wt11 | refine wt9 ?_ ?_ | refine wt12 ?_ | (with_reducible rfl) | assumption)); all_goals (first | rfl | assumption | (simp; done) | (simp; omega) | (rw [wrap_small (by omega) (by omega)]; done) | (rw [wrap_small (by omega) (by omega)]; omega) | (refine congrArg Nat.cast ?_; assumption) | skip)))
end Go.Proofs.Ytpkpfgpfkajkpaa
namespace Go.Proofs.Ytpkpfgpfkajkpaa
open Go.Av Go.Proofs
set_option maxRecDepth 20000
set_option maxHeartbeats 4000000 in
theorem check_doc (l : List Int) (hl : l.length ≤ 1000000) : PureRun Try.prog 34 [.list 1 (intsR l)] (.sc (.int .i64 (checkE l))) := by
  refine PureRun.of (allPure_cons (.list _ _ (prs _)) allPure_nil) (.sc _) (CallOK.mono (R := fun res H' => res = .sc (.int .i64 (checkE l)) ∧ H' = []) ?_ fun _ _ h => h.1)
  refine CallOK.of cF34 ?_ (Nat.le_of_ble_eq_true rfl)
  have e0 := intsR_len l
  have hv : PureRun Try.prog 85 [.list 1 (intsR l), .sc (.int .i64 ((64 : Nat) : Int))] (.sc (.int .i64 (distE 64 [] l))) := PureRun.of (allPure_cons (.list _ _ (prs _)) (allPure_cons (.sc _) allPure_nil)) (.sc _) ((diff_call l 64 (Nat.le_refl _) hl).mono fun _ _ h => h.1)
  refine walkX ?_
  rw [e0]
  by_cases h : 64 < l.length
  · have hr : AV.sc (Value.int .i64 9) = .sc (.int .i64 (checkE l)) := by unfold checkE; rw [if_pos h]
    rw [decide_eq_true h]
    refine walkX ?_
    (refine endH [] (by first | exact .inr rfl | exact .inl rfl) rfl ⟨hr, rfl⟩ ?_ ?_ rfl rfl rfl; all_goals (repeat' (first | exact ToAll.nil | exact famsTo.nil | exact famTo.nil | exact ToL.nil | exact ToR.nil | refine ToAll.cons ?_ ?_ | refine famsTo.cons ?_ ?_ | refine wt10 ?_ ?_ | exact To.undef _ | exact To.sc _ | exact To.hslL rfl rfl | exact To.ptrO rfl rfl rfl | exact To.mrefO rfl | exact To.nil rfl rfl rfl | exact wt1 | exact To.nilL | refine To.int ?_ | refine To.bool ?_ | refine To.hslL rfl ?_ | refine wt2 rfl ?_ ?_ ?_ | refine To.tupL ?_ | refine To.aggL ?_ | refine To.cptrL ?_ | refine wt3 ?_ | refine wt4 ?_ | refine To.cloL ?_ ?_ | exact wt5 | refine wt6 ?_ | refine ToB.one ?_ | exact wt7 | ((with_reducible apply ToL.consE); case e9 => rfl) | refine wt8 ?_ | refine ToL.cons ?_ ?_ | exact wt11 | refine wt9 ?_ ?_ | refine wt12 ?_ | (with_reducible rfl) | assumption)); all_goals (first | rfl | assumption | (simp; done) | (simp; omega) | (rw [wrap_small (by omega) (by omega)]; done) | (rw [wrap_small (by omega) (by omega)]; omega) | (refine congrArg Nat.cast ?_; assumption) | skip))
  · have hr : AV.sc (Value.int .i64 (distE 64 [] l)) = .sc (.int .i64 (checkE l)) := by unfold checkE; rw [if_neg h]
    rw [decide_eq_false h]
    refine walkX ?_
    (refine endH [] (by first | exact .inr rfl | exact .inl rfl) rfl ⟨hr, rfl⟩ ?_ ?_ rfl rfl rfl; all_goals (repeat' (first | exact ToAll.nil | exact famsTo.nil | exact famTo.nil | exact ToL.nil | exact ToR.nil | refine ToAll.cons ?_ ?_ | refine famsTo.cons ?_ ?_ | refine wt10 ?_ ?_ | exact To.undef _ | exact To.sc _ | exact To.hslL rfl rfl | exact To.ptrO rfl rfl rfl | exact To.mrefO rfl | exact To.nil rfl rfl rfl | exact wt1 | exact To.nilL | refine To.int ?_ | refine To.bool ?_ | refine To.hslL rfl ?_ | refine wt2 rfl ?_ ?_ ?_ | refine To.tupL ?_ | refine To.aggL ?_ | refine To.cptrL ?_ | refine wt3 ?_ | refine wt4 ?_ | refine To.cloL ?_ ?_ | exact wt5 | refine wt6 ?_ | refine ToB.one ?_ | exact wt7 | ((with_reducible apply ToL.consE); case e9 => rfl) | refine wt8 ?_ | refine ToL.cons ?_ ?_ | exact wt11 | refine wt9 ?_ ?_ | refine wt12 ?_ | (with_reducible rfl) | assumption)); all_goals (first | rfl | assumption | (simp; done) | (simp; omega) | (rw [wrap_small (by omega) (by omega)]; done) | (rw [wrap_small (by omega) (by omega)]; omega) | (refine congrArg Nat.cast ?_; assumption) | skip))
theorem both_doc (a b : List Int) (ha : a.length ≤ 1000000) (hb : b.length ≤ 1000000) : PureRun Try.prog 83 [.list 1 (intsR a), .list 1 (intsR b)] (.sc (.int .i64 (bothE a b))) := by
  refine PureRun.of (allPure_cons (.list _ _ (prs _)) (allPure_cons (.list _ _ (prs _)) allPure_nil)) (.sc _) (CallOK.mono (R := fun res H' => res = .sc (.int .i64 (bothE a b)) ∧ H' = []) ?_ fun _ _ h => h.1)
  refine CallOK.of cF83 ?_ (Nat.le_of_ble_eq_true rfl)
  have h1 := check_doc a ha
  have h2 := check_doc b hb
  by_cases h : checkE a = 0
  · have hr : AV.sc (Value.int .i64 (checkE b)) = .sc (.int .i64 (bothE a b)) := by unfold bothE; rw [if_pos h]
    rw [h] at h1
    refine walkX ?_
    (refine endH [] (by first | exact .inr rfl | exact .inl rfl) rfl ⟨hr, rfl⟩ ?_ ?_ rfl rfl rfl; all_goals (repeat' (first | exact ToAll.nil | exact famsTo.nil | exact famTo.nil | exact ToL.nil | exact ToR.nil | refine ToAll.cons ?_ ?_ | refine famsTo.cons ?_ ?_ | refine wt10 ?_ ?_ | exact To.undef _ | exact To.sc _ | exact To.hslL rfl rfl | exact To.ptrO rfl rfl rfl | exact To.mrefO rfl | exact To.nil rfl rfl rfl | exact wt1 | exact To.nilL | refine To.int ?_ | refine To.bool ?_ | refine To.hslL rfl ?_ | refine wt2 rfl ?_ ?_ ?_ | refine To.tupL ?_ | refine To.aggL ?_ | refine To.cptrL ?_ | refine wt3 ?_ | refine wt4 ?_ | refine To.cloL ?_ ?_ | exact wt5 | refine wt6 ?_ | refine ToB.one ?_ | exact wt7 | ((with_reducible apply ToL.consE); case e9 => rfl) | refine wt8 ?_ | refine ToL.cons ?_ ?_ | exact wt11 | refine wt9 ?_ ?_ | refine wt12 ?_ | (with_reducible rfl) | assumption)); all_goals (first | rfl | assumption | (simp; done) | (simp; omega) | (rw [wrap_small (by omega) (by omega)]; done) | (rw [wrap_small (by omega) (by omega)]; omega) | (refine congrArg Nat.cast ?_; assumption) | skip))
  · have hr : AV.sc (Value.int .i64 (checkE a)) = .sc (.int .i64 (bothE a b)) := by unfold bothE; rw [if_neg h]
    refine walkX ?_
    rw [show (checkE a != 0) = true from by simpa using h]
    refine walkX ?_
    (refine endH [] (by first | exact .inr rfl | exact .inl rfl) rfl ⟨hr, rfl⟩ ?_ ?_ rfl rfl rfl; all_goals (repeat' (first | exact ToAll.nil | exact famsTo.nil | exact famTo.nil | exact ToL.nil | exact ToR.nil | refine ToAll.cons ?_ ?_ | refine famsTo.cons ?_ ?_ | refine wt10 ?_ ?_ | exact To.undef _ | exact To.sc _ | exact To.hslL rfl rfl | exact To.ptrO rfl rfl rfl | exact To.mrefO rfl | exact To.nil rfl rfl rfl | exact wt1 | exact To.nilL | refine To.int ?_ | refine To.bool ?_ | refine To.hslL rfl ?_ | refine wt2 rfl ?_ ?_ ?_ | refine To.tupL ?_ | refine To.aggL ?_ | refine To.cptrL ?_ | refine wt3 ?_ | refine wt4 ?_ | refine To.cloL ?_ ?_ | exact wt5 | refine wt6 ?_ | refine ToB.one ?_ | exact wt7 | ((with_reducible apply ToL.consE); case e9 => rfl) | refine wt8 ?_ | refine ToL.cons ?_ ?_ | exact wt11 | refine wt9 ?_ ?_ | refine wt12 ?_ | (with_reducible rfl) | assumption)); all_goals (first | rfl | assumption | (simp; done) | (simp; omega) | (rw [wrap_small (by omega) (by omega)]; done) | (rw [wrap_small (by omega) (by omega)]; omega) | (refine congrArg Nat.cast ?_; assumption) | skip))
end Go.Proofs.Ytpkpfgpfkajkpaa
namespace Go.Proofs.Ytpkpfgpfkajkpaa
open Go.Av Go.Proofs
set_option maxRecDepth 20000
theorem ints_sc (l : List Int) : ∀ r ∈ intsR l, ∀ c ∈ r, ∃ v, c = .sc v := fun r hr c hc => by
  obtain ⟨n, _, rfl⟩ := List.mem_map.1 hr
  exact ⟨_, List.mem_singleton.1 hc⟩
end Go.Proofs.Ytpkpfgpfkajkpaa
namespace Go.Proofs.Ytpkpfgpfkajkpaa
open Go.Av Go.Proofs
set_option maxRecDepth 20000
def fewE (ls : List (List Int)) : Bool := ls.all fun l => decide (l.length ≤ 100)
set_option maxHeartbeats 4000000 in
theorem few_ok (ls : List (List Int)) (hn : ls.length ≤ 1000) : PureRun Try.prog 30 [.list 1 (listsR ls)] (.sc (.bool (fewE ls))) := by
  refine PureRun.of (allPure_cons (.list _ _ (prs _)) allPure_nil) (.sc _) (CallOK.mono (R := fun res H' => res = .sc (.bool (fewE ls)) ∧ H' = []) ?_ fun _ _ h => h.1)
  refine CallOK.of cF30 ?_ (Nat.le_of_ble_eq_true rfl)
  have e0 := listsR_len ls
  refine walkX ?_
  refine AWP.loop (fun k : Nat => [(0, .list 1 (listsR ls)), (3, .sc (.int .i64 (k : Int)))])
    (fun k => []) (fun k => k ≤ ls.length ∧ fewE ls = fewE (ls.drop k)) (fun k => ls.length - k) 0 ⟨Nat.zero_le _, rfl⟩ ?_ ?_
  · exact Sub.w [] []
  rintro k ⟨hk, hd⟩
  refine walkX ?_
  rw [e0]
  refine walkX ?_
  refine AWP.condD rfl (fun h => ?_) (fun h => ?_)
  · have hr := listsR_ix ls k h
    have hd2 : fewE (ls.drop k) = (decide (ls[k].length ≤ 100) && fewE (ls.drop (k + 1))) := by
      rw [List.drop_eq_getElem_cons h]
      rfl
    rw [hd2] at hd
    have e1 := intsR_len ls[k]
    generalize ls[k] = l at *
    refine walkX ?_
    rw [e1]
    by_cases q : 100 < l.length
    · rw [decide_eq_false (show ¬ l.length ≤ 100 by omega)] at hd
      rw [decide_eq_true q]
      refine walkX ?_
      have hres : AV.sc (Value.bool false) = .sc (.bool (fewE ls)) := by rw [hd]; rfl
      (refine endH [] (by first | exact .inr rfl | exact .inl rfl) rfl ⟨hres, rfl⟩ ?_ ?_ rfl rfl rfl; all_goals (repeat' (first | exact ToAll.nil | exact famsTo.nil | exact famTo.nil | exact ToL.nil | exact ToR.nil | refine ToAll.cons ?_ ?_ | refine famsTo.cons ?_ ?_ | refine wt10 ?_ ?_ | exact To.undef _ | exact To.sc _ | exact To.hslL rfl rfl | exact To.ptrO rfl rfl rfl | exact To.mrefO rfl | exact To.nil rfl rfl rfl | exact wt1 | exact To.nilL | refine To.int ?_ | refine To.bool ?_ | refine To.hslL rfl ?_ | refine wt2 rfl ?_ ?_ ?_ | refine To.tupL ?_ | refine To.aggL ?_ | refine To.cptrL ?_ | refine wt3 ?_ | refine wt4 ?_ | refine To.cloL ?_ ?_ | exact wt5 | refine wt6 ?_ | refine ToB.one ?_ | exact wt7 | ((with_reducible apply ToL.consE); case e9 => rfl) | refine wt8 ?_ | refine ToL.cons ?_ ?_ | exact wt11 | refine wt9 ?_ ?_ | refine wt12 ?_ | (with_reducible rfl) | assumption)); all_goals (first | rfl | assumption | (simp; done) | (simp; omega) | (rw [wrap_small (by omega) (by omega)]; done) | (rw [wrap_small (by omega) (by omega)]; omega) | (refine congrArg Nat.cast ?_; assumption) | skip))
    · rw [decide_eq_true (show l.length ≤ 100 by omega), Bool.true_and] at hd
      rw [decide_eq_false q]
      refine walkX ?_
      refine ⟨k + 1, ⟨by omega, hd⟩, by omega, ?_⟩
      exact Sub.w [] []
  have hk : k = ls.length := by omega
  subst hk
  rw [List.drop_length] at hd
  have hres : AV.sc (Value.bool true) = .sc (.bool (fewE ls)) := by rw [hd]; rfl
  refine walkX ?_
  (refine endH [] (by first | exact .inr rfl | exact .inl rfl) rfl ⟨hres, rfl⟩ ?_ ?_ rfl rfl rfl; all_goals (repeat' (first | exact ToAll.nil | exact famsTo.nil | exact famTo.nil | exact ToL.nil | exact ToR.nil | refine ToAll.cons ?_ ?_ | refine famsTo.cons ?_ ?_ | refine wt10 ?_ ?_ | exact To.undef _ | exact To.sc _ | exact To.hslL rfl rfl | exact To.ptrO rfl rfl rfl | exact To.mrefO rfl | exact To.nil rfl rfl rfl | exact wt1 | exact To.nilL | refine To.int ?_ | refine To.bool ?_ | refine To.hslL rfl ?_ | refine wt2 rfl ?_ ?_ ?_ | refine To.tupL ?_ | refine To.aggL ?_ | refine To.cptrL ?_ | refine wt3 ?_ | refine wt4 ?_ | refine To.cloL ?_ ?_ | exact wt5 | refine wt6 ?_ | refine ToB.one ?_ | exact wt7 | ((with_reducible apply ToL.consE); case e9 => rfl) | refine wt8 ?_ | refine ToL.cons ?_ ?_ | exact wt11 | refine wt9 ?_ ?_ | refine wt12 ?_ | (with_reducible rfl) | assumption)); all_goals (first | rfl | assumption | (simp; done) | (simp; omega) | (rw [wrap_small (by omega) (by omega)]; done) | (rw [wrap_small (by omega) (by omega)]; omega) | (refine congrArg Nat.cast ?_; assumption) | skip))
end Go.Proofs.Ytpkpfgpfkajkpaa
namespace Go.Proofs.Ytpkpfgpfkajkpaa
open Go.Av Go.Proofs
set_option maxRecDepth 20000
theorem dist0_rng {n : Int} : ∀ {l s : List Int}, distE n s l = 0 → (∀ x ∈ l, 0 ≤ x ∧ x < n) ∧ (∀ x ∈ l, x ∉ s) ∧ l.Nodup := by
  intro l
  induction l with
  | nil => exact fun _ => ⟨fun _ h => (by cases h), fun _ h => (by cases h), .nil⟩
  | cons y l ih =>
    intro s h
    unfold distE at h
    split at h
    · cases h
    · rename_i h1
      split at h
      · cases h
      · rename_i h2
        obtain ⟨a, b, c⟩ := ih h
        refine ⟨fun x hx => ?_, fun x hx => ?_, List.nodup_cons.2 ⟨fun hy => b y hy (by simp), c⟩⟩
        · rcases List.mem_cons.1 hx with rfl | hx
          · omega
          · exact a x hx
        · rcases List.mem_cons.1 hx with rfl | hx
          · exact h2
          · exact fun hs => b x hx (List.mem_append_left _ hs)
def rkE (g rs : List Int) : Int := if checkE g = 0 then distE g.length [] rs else checkE g
def selE (g rs : List Int) : List Int := rs.map fun r => g.getD r.toNat 0
def ansE (e : Int) (o : List Int) : Int × List Int := if e = 0 then (0, o) else (e, [])
theorem rk0 {g rs : List Int} (h : rkE g rs = 0) : checkE g = 0 ∧ distE g.length [] rs = 0 := by
  unfold rkE at h
  split at h
  · rename_i h1
    exact ⟨h1, h⟩
  · rename_i h1
    exact absurd h h1
set_option maxHeartbeats 4000000 in
theorem ranked_ok (g rs : List Int) (hg : g.length ≤ 1000000) (hr : rs.length ≤ 1000000) : PureRun Try.prog 89 [.list 1 (intsR g), .list 1 (intsR rs)] (.sc (.int .i64 (rkE g rs))) := by
  refine PureRun.of (allPure_cons (.list _ _ (prs _)) (allPure_cons (.list _ _ (prs _)) allPure_nil)) (.sc _) (CallOK.mono (R := fun res H' => res = .sc (.int .i64 (rkE g rs)) ∧ H' = []) ?_ fun _ _ h => h.1)
  refine CallOK.of cF89 ?_ (Nat.le_of_ble_eq_true rfl)
  have h1 := check_ok g hg
  have e0 := intsR_len g
  by_cases h : checkE g = 0
  · have hle : g.length ≤ 64 := (check0_rng h).2.2
    have h2 := dist_ok rs g.length hle hr
    have hres : AV.sc (Value.int .i64 (distE g.length [] rs)) = .sc (.int .i64 (rkE g rs)) := by unfold rkE; rw [if_pos h]
    rw [h] at h1
    refine walkX ?_
    rw [e0]
    refine walkX ?_
    (refine endH [] (by first | exact .inr rfl | exact .inl rfl) rfl ⟨hres, rfl⟩ ?_ ?_ rfl rfl rfl; all_goals (repeat' (first | exact ToAll.nil | exact famsTo.nil | exact famTo.nil | exact ToL.nil | exact ToR.nil | refine ToAll.cons ?_ ?_ | refine famsTo.cons ?_ ?_ | refine wt10 ?_ ?_ | exact To.undef _ | exact To.sc _ | exact To.hslL rfl rfl | exact To.ptrO rfl rfl rfl | exact To.mrefO rfl | exact To.nil rfl rfl rfl | exact wt1 | exact To.nilL | refine To.int ?_ | refine To.bool ?_ | refine To.hslL rfl ?_ | refine wt2 rfl ?_ ?_ ?_ | refine To.tupL ?_ | refine To.aggL ?_ | refine To.cptrL ?_ | refine wt3 ?_ | refine wt4 ?_ | refine To.cloL ?_ ?_ | exact wt5 | refine wt6 ?_ | refine ToB.one ?_ | exact wt7 | ((with_reducible apply ToL.consE); case e9 => rfl) | refine wt8 ?_ | refine ToL.cons ?_ ?_ | exact wt11 | refine wt9 ?_ ?_ | refine wt12 ?_ | (with_reducible rfl) | assumption)); all_goals (first | rfl | assumption | (simp; done) | (simp; omega) | (rw [wrap_small (by omega) (by omega)]; done) | (rw [wrap_small (by omega) (by omega)]; omega) | (refine congrArg Nat.cast ?_; assumption) | skip))
  · have hres : AV.sc (Value.int .i64 (checkE g)) = .sc (.int .i64 (rkE g rs)) := by unfold rkE; rw [if_neg h]
    refine walkX ?_
    rw [show (checkE g != 0) = true from by simpa using h]
    refine walkX ?_
    (refine endH [] (by first | exact .inr rfl | exact .inl rfl) rfl ⟨hres, rfl⟩ ?_ ?_ rfl rfl rfl; all_goals (repeat' (first | exact ToAll.nil | exact famsTo.nil | exact famTo.nil | exact ToL.nil | exact ToR.nil | refine ToAll.cons ?_ ?_ | refine famsTo.cons ?_ ?_ | refine wt10 ?_ ?_ | exact To.undef _ | exact To.sc _ | exact To.hslL rfl rfl | exact To.ptrO rfl rfl rfl | exact To.mrefO rfl | exact To.nil rfl rfl rfl | exact wt1 | exact To.nilL | refine To.int ?_ | refine To.bool ?_ | refine To.hslL rfl ?_ | refine wt2 rfl ?_ ?_ ?_ | refine To.tupL ?_ | refine To.aggL ?_ | refine To.cptrL ?_ | refine wt3 ?_ | refine wt4 ?_ | refine To.cloL ?_ ?_ | exact wt5 | refine wt6 ?_ | refine ToB.one ?_ | exact wt7 | ((with_reducible apply ToL.consE); case e9 => rfl) | refine wt8 ?_ | refine ToL.cons ?_ ?_ | exact wt11 | refine wt9 ?_ ?_ | refine wt12 ?_ | (with_reducible rfl) | assumption)); all_goals (first | rfl | assumption | (simp; done) | (simp; omega) | (rw [wrap_small (by omega) (by omega)]; done) | (rw [wrap_small (by omega) (by omega)]; omega) | (refine congrArg Nat.cast ?_; assumption) | skip))
theorem getD_at {g : List Int} {q : Nat} (h : q < g.length) : g.getD ((q : Int)).toNat 0 = g[q] := by
  simp [h]
set_option maxHeartbeats 4000000 in
theorem incl_ok (g rs : List Int) (hg : g.length ≤ 1000000) (hr : rs.length ≤ 1000000) : CallOK Try.prog 41 [.list 1 (intsR g), .list 1 (intsR rs)] [] (ansS (ansE (rkE g rs) (selE g rs))) := by
  refine CallOK.of cF41 ?_ (Nat.le_of_ble_eq_true rfl)
  have h1 := ranked_ok g rs hg hr
  have e0 := intsR_len rs
  unfold ansS
  by_cases h : rkE g rs = 0
  · obtain ⟨c1, c2⟩ := rk0 h
    obtain ⟨d1, _, _⟩ := dist0_rng c2
    have e : ansE (rkE g rs) (selE g rs) = (0, selE g rs) := if_pos h
    rw [e]
    rw [h] at h1
    refine walkX ?_
    rw [e0]
    refine AWP.loop (fun k : Nat => [(0, .list 1 (intsR g)), (7, .hsl 0 0 0 (selE g (rs.take k)).length), (16, .list 1 (intsR rs)), (17, .sc (.int .i64 (rs.length : Int))), (18, .sc (.int .i64 (k : Int)))])
      (fun k => [[.cells 1 (intsR (selE g (rs.take k)))]]) (fun k => k ≤ rs.length) (fun k => rs.length - k) 0 (Nat.zero_le _) ?_ ?_
    · (apply Sub.to [1] [[(0,0)]]; all_goals (repeat' (first | exact ToAll.nil | exact famsTo.nil | exact famTo.nil | exact ToL.nil | exact ToR.nil | refine ToAll.cons ?_ ?_ | refine famsTo.cons ?_ ?_ | refine wt10 ?_ ?_ | exact To.undef _ | exact To.sc _ | exact To.hslL rfl rfl | exact To.ptrO rfl rfl rfl | exact To.mrefO rfl | exact To.nil rfl rfl rfl | exact wt1 | exact To.nilL | refine To.int ?_ | refine To.bool ?_ | refine To.hslL rfl ?_ | refine wt2 rfl ?_ ?_ ?_ | refine To.tupL ?_ | refine To.aggL ?_ | refine To.cptrL ?_ | refine wt3 ?_ | refine wt4 ?_ | refine To.cloL ?_ ?_ | exact wt5 | refine wt6 ?_ | refine ToB.one ?_ | exact wt7 | ((with_reducible apply ToL.consE); case e9 => rfl) | refine wt8 ?_ | refine ToL.cons ?_ ?_ | exact wt11 | refine wt9 ?_ ?_ | refine wt12 ?_ | (with_reducible rfl) | assumption)); all_goals (first | rfl | assumption | (simp; done) | (simp; omega) | (rw [wrap_small (by omega) (by omega)]; done) | (rw [wrap_small (by omega) (by omega)]; omega) | (refine congrArg Nat.cast ?_; assumption) | skip))
    rintro k hk
    refine walkX ?_
    refine AWP.condD rfl (fun h => ?_) (fun h => ?_)
    · have hx := d1 rs[k] (List.getElem_mem h)
      have hrr := intsR_ix rs k h
      have ht := List.take_succ_eq_append_getElem h
      have hle : (selE g (rs.take k)).length ≤ 1000000 := by unfold selE; rw [List.length_map, List.length_take]; omega
      generalize rs[k] = x at *
      obtain ⟨q, rfl⟩ : ∃ q : Nat, x = q := ⟨x.toNat, by omega⟩
      have hq : q < g.length := by omega
      have hgx := intsR_ix g q hq
      have e5 := @getD_at g q hq
      have e1 := intsR_len (selE g (rs.take k))
      have e2 : selE g (rs.take (k + 1)) = selE g (rs.take k) ++ [g[q]] := by rw [ht]; unfold selE; rw [List.map_append, List.map_cons, e5]; rfl
      generalize selE g (rs.take k) = o at *
      generalize g[q] = y at *
      have e3 : intsR (o ++ [y]) = intsR o ++ [[.sc (.int .i64 y)]] := by simp [intsR]
      have e4 : (o ++ [y]).length = o.length + 1 := by simp
      refine walkX ?_
      refine ⟨k + 1, by omega, by omega, ?_⟩
      rw [e2, e3, e4]
      (apply Sub.to [] [[(2,0)]]; all_goals (repeat' (first | exact ToAll.nil | exact famsTo.nil | exact famTo.nil | exact ToL.nil | exact ToR.nil | refine ToAll.cons ?_ ?_ | refine famsTo.cons ?_ ?_ | refine wt10 ?_ ?_ | exact To.undef _ | exact To.sc _ | exact To.hslL rfl rfl | exact To.ptrO rfl rfl rfl | exact To.mrefO rfl | exact To.nil rfl rfl rfl | exact wt1 | exact To.nilL | refine To.int ?_ | refine To.bool ?_ | refine To.hslL rfl ?_ | refine wt2 rfl ?_ ?_ ?_ | refine To.tupL ?_ | refine To.aggL ?_ | refine To.cptrL ?_ | refine wt3 ?_ | refine wt4 ?_ | refine To.cloL ?_ ?_ | exact wt5 | refine wt6 ?_ | refine ToB.one ?_ | exact wt7 | ((with_reducible apply ToL.consE); case e9 => rfl) | refine wt8 ?_ | refine ToL.cons ?_ ?_ | exact wt11 | refine wt9 ?_ ?_ | refine wt12 ?_ | (with_reducible rfl) | assumption)); all_goals (first | rfl | assumption | (simp; done) | (simp; omega) | (rw [wrap_small (by omega) (by omega)]; done) | (rw [wrap_small (by omega) (by omega)]; omega) | (refine congrArg Nat.cast ?_; assumption) | skip))
    have hk : k = rs.length := by omega
    subst hk
    rw [List.take_of_length_le (Nat.le_refl _)]
    refine walkX ?_
    (refine endH [[(0,0)]] (by first | exact .inr rfl | exact .inl rfl) rfl ⟨rfl, rfl⟩ ?_ ?_ rfl rfl rfl; all_goals (repeat' (first | exact ToAll.nil | exact famsTo.nil | exact famTo.nil | exact ToL.nil | exact ToR.nil | refine ToAll.cons ?_ ?_ | refine famsTo.cons ?_ ?_ | refine wt10 ?_ ?_ | exact To.undef _ | exact To.sc _ | exact To.hslL rfl rfl | exact To.ptrO rfl rfl rfl | exact To.mrefO rfl | exact To.nil rfl rfl rfl | exact wt1 | exact To.nilL | refine To.int ?_ | refine To.bool ?_ | refine To.hslL rfl ?_ | refine wt2 rfl ?_ ?_ ?_ | refine To.tupL ?_ | refine To.aggL ?_ | refine To.cptrL ?_ | refine wt3 ?_ | refine wt4 ?_ | refine To.cloL ?_ ?_ | exact wt5 | refine wt6 ?_ | refine ToB.one ?_ | exact wt7 | ((with_reducible apply ToL.consE); case e9 => rfl) | refine wt8 ?_ | refine ToL.cons ?_ ?_ | exact wt11 | refine wt9 ?_ ?_ | refine wt12 ?_ | (with_reducible rfl) | assumption)); all_goals (first | rfl | assumption | (simp; done) | (simp; omega) | (rw [wrap_small (by omega) (by omega)]; done) | (rw [wrap_small (by omega) (by omega)]; omega) | (refine congrArg Nat.cast ?_; assumption) | skip))
  · have e : ansE (rkE g rs) (selE g rs) = (rkE g rs, []) := if_neg h
    rw [e]
    refine walkX ?_
    rw [show (rkE g rs != 0) = true from by simpa using h]
    refine walkX ?_
    (refine ⟨.inr rfl, _, .tup [.hsl 0 0 0 0, .sc (.int .i64 (rkE g rs))], [[.cells 1 []]], rfl, SubV.to [1] [[((0),0)]] ?_ ?_ rfl rfl rfl, rfl, rfl⟩; all_goals (all_goals (repeat' (first | exact ToAll.nil | exact famsTo.nil | exact famTo.nil | exact ToL.nil | exact ToR.nil | refine ToAll.cons ?_ ?_ | refine famsTo.cons ?_ ?_ | refine wt10 ?_ ?_ | exact To.undef _ | exact To.sc _ | exact To.hslL rfl rfl | exact To.ptrO rfl rfl rfl | exact To.mrefO rfl | exact To.nil rfl rfl rfl | exact wt1 | exact To.nilL | refine To.int ?_ | refine To.bool ?_ | refine To.hslL rfl ?_ | refine wt2 rfl ?_ ?_ ?_ | refine To.tupL ?_ | refine To.aggL ?_ | refine To.cptrL ?_ | refine wt3 ?_ | refine wt4 ?_ | refine To.cloL ?_ ?_ | exact wt5 | refine wt6 ?_ | refine ToB.one ?_ | exact wt7 | ((with_reducible apply ToL.consE); case e9 => rfl) | refine wt8 ?_ | refine ToL.cons ?_ ?_ | exact wt11 | refine wt9 ?_ ?_ | refine wt12 ?_ | (with_reducible rfl) | assumption)); all_goals (first | rfl | assumption | (simp; done) | (simp; omega) | (rw [wrap_small (by omega) (by omega)]; done) | (rw [wrap_small (by omega) (by omega)]; omega) | (refine congrArg Nat.cast ?_; assumption) | skip)))
theorem sel_check {g rs : List Int} (h : rkE g rs = 0) : checkE (selE g rs) = 0 := by
  obtain ⟨c1, c2⟩ := rk0 h
  obtain ⟨g1, g2, g3⟩ := check0_rng c1
  obtain ⟨d1, _, d2⟩ := dist0_rng c2
  have hmem : ∀ x ∈ selE g rs, 0 ≤ x ∧ x < 64 := fun x hx => by
    obtain ⟨r, hr, rfl⟩ := List.mem_map.1 hx
    have := d1 r hr
    have hq : r.toNat < g.length := by omega
    show 0 ≤ g.getD r.toNat 0 ∧ _
    rw [List.getD_eq_getElem?_getD, List.getElem?_eq_getElem hq]
    exact g1 _ (List.getElem_mem hq)
  have hnd : (selE g rs).Nodup := by
    refine List.pairwise_map.2 (d2.imp_of_mem ?_)
    intro a b ha hb hab
    have := d1 a ha
    have := d1 b hb
    have hqa : a.toNat < g.length := by omega
    have hqb : b.toNat < g.length := by omega
    rw [List.getD_eq_getElem?_getD, List.getElem?_eq_getElem hqa, List.getD_eq_getElem?_getD, List.getElem?_eq_getElem hqb]
    intro e
    have e : g[a.toNat] = g[b.toNat] := e
    have := (List.getElem?_inj hqa g2).1 (show g[a.toNat]? = g[b.toNat]? by rw [List.getElem?_eq_getElem hqa, List.getElem?_eq_getElem hqb, e])
    omega
  have hlen : (selE g rs).length ≤ 64 := by
    have h1 : (selE g rs) ⊆ (List.range 64).map (fun n : Nat => (n : Int)) := fun x hx => by
      have := hmem x hx
      exact List.mem_map.2 ⟨x.toNat, List.mem_range.2 (by omega), by omega⟩
    have := hnd.length_le_of_subset h1
    simpa using this
  have key : ∀ (l s : List Int), (∀ x ∈ l, 0 ≤ x ∧ x < 64) → (∀ x ∈ l, x ∉ s) → l.Nodup → distE 64 s l = 0 := by
    intro l
    induction l with
    | nil => exact fun _ _ _ _ => rfl
    | cons y l ih =>
      intro s a b c
      obtain ⟨c1, c2⟩ := List.nodup_cons.1 c
      have := a y (by simp)
      unfold distE
      rw [if_neg (by omega), if_neg (b y (by simp))]
      refine ih _ (fun x hx => a x (List.mem_cons_of_mem _ hx)) (fun x hx hs => ?_) c2
      rcases List.mem_append.1 hs with hs | hs
      · exact b x (List.mem_cons_of_mem _ hx) hs
      · rw [List.mem_singleton.1 hs] at hx
        exact c1 hx
  unfold checkE
  rw [if_neg (by omega)]
  exact key _ _ hmem (fun _ _ h => by cases h) hnd
def exclA (g rs : List Int) : Int × List Int := ansE (rkE g rs) (g.filter (notIn' (selE g rs)))
theorem sel_len (g rs : List Int) : (selE g rs).length = rs.length := by simp [selE]
set_option maxHeartbeats 4000000 in
theorem excl_ok (g rs : List Int) (hg : g.length ≤ 1000000) (hr : rs.length ≤ 1000000) : CallOK Try.prog 43 [.list 1 (intsR g), .list 1 (intsR rs)] [] (ansS (exclA g rs)) := by
  refine CallOK.of cF43 ?_ (Nat.le_of_ble_eq_true rfl)
  have h1 := incl_ok g rs hg hr
  unfold exclA ansS
  unfold ansS at h1
  by_cases h : rkE g rs = 0
  · have hc := sel_check h
    have hb : bothE g (selE g rs) = 0 := by unfold bothE; rw [if_pos (rk0 h).1, hc]
    have e : ansE (rkE g rs) (g.filter (notIn' (selE g rs))) = (0, g.filter (notIn' (selE g rs))) := if_pos h
    have e2 : ansE (rkE g rs) (selE g rs) = (0, selE g rs) := if_pos h
    rw [e2] at h1
    rw [e]
    have h2 := diff_ok g (selE g rs) hg (by rw [sel_len]; exact hr)
    have e3 : opA g (selE g rs) (g.filter (notIn' (selE g rs))) = (0, g.filter (notIn' (selE g rs))) := if_pos hb
    rw [e3] at h2
    have e4 := intsR_len (selE g rs)
    generalize g.filter (notIn' (selE g rs)) = o at *
    refine walkX ?_
    refine Reg.c (Nat.zero_le _) rfl (h1.mono ?_)
    rintro res H' ⟨rfl, rfl⟩
    refine walkX ?_
    refine Reg.sub (fr' := [(17, .list 1 (intsR g)), (18, .list 1 (intsR (selE g rs)))]) (H' := []) ?_ ?_
    · exact Sub.w [] []
    refine Reg.c (Nat.zero_le _) rfl (h2.mono ?_)
    rintro res H' ⟨rfl, rfl⟩
    refine walkX ?_
    (refine endH [[(0,0)]] (by first | exact .inr rfl | exact .inl rfl) rfl ⟨rfl, rfl⟩ ?_ ?_ rfl rfl rfl; all_goals (repeat' (first | exact ToAll.nil | exact famsTo.nil | exact famTo.nil | exact ToL.nil | exact ToR.nil | refine ToAll.cons ?_ ?_ | refine famsTo.cons ?_ ?_ | refine wt10 ?_ ?_ | exact To.undef _ | exact To.sc _ | exact To.hslL rfl rfl | exact To.ptrO rfl rfl rfl | exact To.mrefO rfl | exact To.nil rfl rfl rfl | exact wt1 | exact To.nilL | refine To.int ?_ | refine To.bool ?_ | refine To.hslL rfl ?_ | refine wt2 rfl ?_ ?_ ?_ | refine To.tupL ?_ | refine To.aggL ?_ | refine To.cptrL ?_ | refine wt3 ?_ | refine wt4 ?_ | refine To.cloL ?_ ?_ | exact wt5 | refine wt6 ?_ | refine ToB.one ?_ | exact wt7 | ((with_reducible apply ToL.consE); case e9 => rfl) | refine wt8 ?_ | refine ToL.cons ?_ ?_ | exact wt11 | refine wt9 ?_ ?_ | refine wt12 ?_ | (with_reducible rfl) | assumption)); all_goals (first | rfl | assumption | (simp; done) | (simp; omega) | (rw [wrap_small (by omega) (by omega)]; done) | (rw [wrap_small (by omega) (by omega)]; omega) | (refine congrArg Nat.cast ?_; assumption) | skip))
  · have e : ansE (rkE g rs) (g.filter (notIn' (selE g rs))) = (rkE g rs, []) := if_neg h
    have e2 : ansE (rkE g rs) (selE g rs) = (rkE g rs, []) := if_neg h
    rw [e2] at h1
    rw [e]
    refine walkX ?_
    refine Reg.c (Nat.zero_le _) rfl (h1.mono ?_)
    rintro res H' ⟨rfl, rfl⟩
    refine walkX ?_
    rw [show (rkE g rs != 0) = true from by simpa using h]
    refine walkX ?_
    (refine ⟨.inr rfl, _, .tup [.hsl 0 0 0 0, .sc (.int .i64 (rkE g rs))], [[.cells 1 []]], rfl, SubV.to [1] [[((1),0)]] ?_ ?_ rfl rfl rfl, rfl, rfl⟩; all_goals (all_goals (repeat' (first | exact ToAll.nil | exact famsTo.nil | exact famTo.nil | exact ToL.nil | exact ToR.nil | refine ToAll.cons ?_ ?_ | refine famsTo.cons ?_ ?_ | refine wt10 ?_ ?_ | exact To.undef _ | exact To.sc _ | exact To.hslL rfl rfl | exact To.ptrO rfl rfl rfl | exact To.mrefO rfl | exact To.nil rfl rfl rfl | exact wt1 | exact To.nilL | refine To.int ?_ | refine To.bool ?_ | refine To.hslL rfl ?_ | refine wt2 rfl ?_ ?_ ?_ | refine To.tupL ?_ | refine To.aggL ?_ | refine To.cptrL ?_ | refine wt3 ?_ | refine wt4 ?_ | refine To.cloL ?_ ?_ | exact wt5 | refine wt6 ?_ | refine ToB.one ?_ | exact wt7 | ((with_reducible apply ToL.consE); case e9 => rfl) | refine wt8 ?_ | refine ToL.cons ?_ ?_ | exact wt11 | refine wt9 ?_ ?_ | refine wt12 ?_ | (with_reducible rfl) | assumption)); all_goals (first | rfl | assumption | (simp; done) | (simp; omega) | (rw [wrap_small (by omega) (by omega)]; done) | (rw [wrap_small (by omega) (by omega)]; omega) | (refine congrArg Nat.cast ?_; assumption) | skip)))
end Go.Proofs.Ytpkpfgpfkajkpaa
