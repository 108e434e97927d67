import Derived.Test.YtbpmbofinoinmaaFaC
import Derived.Test.YtbpmbofinoinmaaGAv20
namespace Go.Proofs.Ytbpmbofinoinmaa
open Go.Av Go.Proofs

theorem mixed : Try.prog.follows .mixedOrders = true := by kernel_rfl

def fewB (n m : Int) : Bool := decide (n ≤ m) || (decide (n > 64) && decide (n ≤ 70))

theorem few_ok (n m : Int) : CallOK Try.prog 15 [.sc (.int .i64 n), .sc (.int .i64 m)] [] (fun res _ => res = .sc (.bool (fewB n m))) := by
  refine CallOK.of cF15 ?_ (by simp [F15])
  repeat' (first | refine Reg.o rfl rfl ?_ | refine Reg.on rfl rfl ?_ | refine Reg.s rfl ?_ | refine Reg.sn rfl ?_ | refine Reg.nil ?_ | refine DK.o rfl rfl ?_ | refine DK.on rfl rfl ?_ | refine DK.s rfl ?_ | refine DK.sn rfl ?_ | refine AWP.seq ?_ | refine AWP.region ?_ | refine AWP.dk mixed ?_ | refine AWP.condT rfl ?_ | refine AWP.condF rfl ?_ | refine AWP.skip ?_ | refine AWP.ret ?_ | refine AWP.exit ?_ | refine AWP.block ?_ | refine Reg.gs rfl (fun _ => ?_) (fun _ => ?_) | refine AWP.cond rfl (fun _ => ?_) (fun _ => ?_))
  all_goals exact fin_pure (.inr rfl) rfl (.sc _) (by simp [fewB, *])

def intsR (l : List Int) : List (List AV) := l.map fun n => [.sc (.int .i64 n)]
def intsV (l : List Int) : AV := .list 1 (intsR l)
theorem pure_ints (l : List Int) : Pure (intsV l) := .list _ _ (allPure_map (fun _ => allPure_cons (.sc _) allPure_nil) l)

theorem equal_ok (l m : List Int) (hl : l.length < 1000000000) : CallOK Try.prog 21 [intsV l, intsV m] [] (fun res _ => res = .sc (.bool (decide (l = m)))) := by
  refine CallOK.of cF21 ?_ (by simp [F21])
  repeat (first | refine Reg.o rfl rfl ?_ | refine Reg.on rfl rfl ?_ | refine Reg.s rfl ?_ | refine Reg.sn rfl ?_ | refine Reg.nil ?_ | refine DK.o rfl rfl ?_ | refine DK.on rfl rfl ?_ | refine DK.s rfl ?_ | refine DK.sn rfl ?_ | refine AWP.seq ?_ | refine AWP.region ?_ | refine AWP.dk mixed ?_ | refine AWP.condT rfl ?_ | refine AWP.condF rfl ?_ | refine AWP.skip ?_ | refine AWP.ret ?_ | refine AWP.exit ?_ | refine AWP.block ?_ )
  refine AWP.cond rfl (fun h => ?_) (fun h => ?_)
  · repeat (first | refine Reg.o rfl rfl ?_ | refine Reg.on rfl rfl ?_ | refine Reg.s rfl ?_ | refine Reg.sn rfl ?_ | refine Reg.nil ?_ | refine DK.o rfl rfl ?_ | refine DK.on rfl rfl ?_ | refine DK.s rfl ?_ | refine DK.sn rfl ?_ | refine AWP.seq ?_ | refine AWP.region ?_ | refine AWP.dk mixed ?_ | refine AWP.condT rfl ?_ | refine AWP.condF rfl ?_ | refine AWP.skip ?_ | refine AWP.ret ?_ | refine AWP.exit ?_ | refine AWP.block ?_ )
    refine fin_pure (.inr rfl) rfl (.sc _) ?_
    have hne : l ≠ m := by
      rintro rfl
      simp at h
    simp [hne]
  · have hlm : l.length = m.length := by
      simp [intsR] at h
      omega
    repeat (first | refine Reg.o rfl rfl ?_ | refine Reg.on rfl rfl ?_ | refine Reg.s rfl ?_ | refine Reg.sn rfl ?_ | refine Reg.nil ?_ | refine DK.o rfl rfl ?_ | refine DK.on rfl rfl ?_ | refine DK.s rfl ?_ | refine DK.sn rfl ?_ | refine AWP.seq ?_ | refine AWP.region ?_ | refine AWP.dk mixed ?_ | refine AWP.condT rfl ?_ | refine AWP.condF rfl ?_ | refine AWP.skip ?_ | refine AWP.ret ?_ | refine AWP.exit ?_ | refine AWP.block ?_ )
    refine AWP.loop (fun k : Nat => [(0, intsV l), (1, intsV m), (5, .sc (.int .i64 k))]) (fun _ => []) (fun k => k ≤ l.length ∧ l.take k = m.take k) (fun k => l.length - k) 0 ⟨Nat.zero_le _, by simp⟩ (Sub.none ⟨.pure (pure_ints _), .pure (pure_ints _), .int rfl, trivial⟩) ?_
    rintro k ⟨hk, ht⟩
    repeat (first | refine Reg.o rfl rfl ?_ | refine Reg.on rfl rfl ?_ | refine Reg.s rfl ?_ | refine Reg.sn rfl ?_ | refine Reg.nil ?_ | refine DK.o rfl rfl ?_ | refine DK.on rfl rfl ?_ | refine DK.s rfl ?_ | refine DK.sn rfl ?_ | refine AWP.seq ?_ | refine AWP.region ?_ | refine AWP.dk mixed ?_ | refine AWP.condT rfl ?_ | refine AWP.condF rfl ?_ | refine AWP.skip ?_ | refine AWP.ret ?_ | refine AWP.exit ?_ | refine AWP.block ?_ )
    refine AWP.cond rfl (fun h => ?_) (fun h => ?_)
    · have hlt : k < l.length := by simpa [intsR] using h
      have hltm : k < m.length := by omega
      have e1 : rowIx (intsR l) (k : Int) = some [.sc (.int .i64 l[k])] := rowIx_map _ l k hlt
      have e2 : rowIx (intsR m) (k : Int) = some [.sc (.int .i64 m[k])] := rowIx_map _ m k hltm
      repeat (first | refine Reg.o rfl rfl ?_ | refine Reg.on rfl rfl ?_ | refine Reg.s rfl ?_ | refine Reg.sn rfl ?_ | refine Reg.nil ?_ | refine DK.o rfl rfl ?_ | refine DK.on rfl rfl ?_ | refine DK.s rfl ?_ | refine DK.sn rfl ?_ | refine AWP.seq ?_ | refine AWP.region ?_ | refine AWP.dk mixed ?_ | refine AWP.condT rfl ?_ | refine AWP.condF rfl ?_ | refine AWP.skip ?_ | refine AWP.ret ?_ | refine AWP.exit ?_ | refine AWP.block ?_ )
      refine DK.o rfl (dstep_idxSl rfl rfl e1) ?_
      repeat (first | refine Reg.o rfl rfl ?_ | refine Reg.on rfl rfl ?_ | refine Reg.s rfl ?_ | refine Reg.sn rfl ?_ | refine Reg.nil ?_ | refine DK.o rfl rfl ?_ | refine DK.on rfl rfl ?_ | refine DK.s rfl ?_ | refine DK.sn rfl ?_ | refine AWP.seq ?_ | refine AWP.region ?_ | refine AWP.dk mixed ?_ | refine AWP.condT rfl ?_ | refine AWP.condF rfl ?_ | refine AWP.skip ?_ | refine AWP.ret ?_ | refine AWP.exit ?_ | refine AWP.block ?_ )
      refine DK.o rfl (dstep_idxSl rfl rfl e2) ?_
      repeat (first | refine Reg.o rfl rfl ?_ | refine Reg.on rfl rfl ?_ | refine Reg.s rfl ?_ | refine Reg.sn rfl ?_ | refine Reg.nil ?_ | refine DK.o rfl rfl ?_ | refine DK.on rfl rfl ?_ | refine DK.s rfl ?_ | refine DK.sn rfl ?_ | refine AWP.seq ?_ | refine AWP.region ?_ | refine AWP.dk mixed ?_ | refine AWP.condT rfl ?_ | refine AWP.condF rfl ?_ | refine AWP.skip ?_ | refine AWP.ret ?_ | refine AWP.exit ?_ | refine AWP.block ?_ )
      refine DK.nil ⟨by kernel_rfl, ?_⟩
      refine AWP.cond rfl (fun hc => ?_) (fun hc => ?_)
      · repeat (first | refine Reg.o rfl rfl ?_ | refine Reg.on rfl rfl ?_ | refine Reg.s rfl ?_ | refine Reg.sn rfl ?_ | refine Reg.nil ?_ | refine DK.o rfl rfl ?_ | refine DK.on rfl rfl ?_ | refine DK.s rfl ?_ | refine DK.sn rfl ?_ | refine AWP.seq ?_ | refine AWP.region ?_ | refine AWP.dk mixed ?_ | refine AWP.condT rfl ?_ | refine AWP.condF rfl ?_ | refine AWP.skip ?_ | refine AWP.ret ?_ | refine AWP.exit ?_ | refine AWP.block ?_ )
        refine fin_pure (.inr rfl) rfl (.sc _) ?_
        have hne : l ≠ m := by
          rintro rfl
          simp at hc
        simp [hne]
      · repeat (first | refine Reg.o rfl rfl ?_ | refine Reg.on rfl rfl ?_ | refine Reg.s rfl ?_ | refine Reg.sn rfl ?_ | refine Reg.nil ?_ | refine DK.o rfl rfl ?_ | refine DK.on rfl rfl ?_ | refine DK.s rfl ?_ | refine DK.sn rfl ?_ | refine AWP.seq ?_ | refine AWP.region ?_ | refine AWP.dk mixed ?_ | refine AWP.condT rfl ?_ | refine AWP.condF rfl ?_ | refine AWP.skip ?_ | refine AWP.ret ?_ | refine AWP.exit ?_ | refine AWP.block ?_ )
        have hc' : l[k] = m[k] := by simpa using hc
        refine ⟨k + 1, ⟨by omega, ?_⟩, by omega, Sub.none ⟨.pure (pure_ints _), .pure (pure_ints _), .int ?_, trivial⟩⟩
        · rw [List.take_succ_eq_append_getElem hlt, List.take_succ_eq_append_getElem hltm, ht, hc']
        · rw [wrap_small (by omega) (by omega)]; omega
    · repeat (first | refine Reg.o rfl rfl ?_ | refine Reg.on rfl rfl ?_ | refine Reg.s rfl ?_ | refine Reg.sn rfl ?_ | refine Reg.nil ?_ | refine DK.o rfl rfl ?_ | refine DK.on rfl rfl ?_ | refine DK.s rfl ?_ | refine DK.sn rfl ?_ | refine AWP.seq ?_ | refine AWP.region ?_ | refine AWP.dk mixed ?_ | refine AWP.condT rfl ?_ | refine AWP.condF rfl ?_ | refine AWP.skip ?_ | refine AWP.ret ?_ | refine AWP.exit ?_ | refine AWP.block ?_ )
      have hkl : k = l.length := by
        have : ¬ k < l.length := by simpa [intsR] using h
        omega
      refine fin_pure (.inr rfl) rfl (.sc _) ?_
      have : l = m := by
        rw [hkl, List.take_of_length_le (Nat.le_refl _), List.take_of_length_le (by omega)] at ht
        exact ht
      simp [this]

end Go.Proofs.Ytbpmbofinoinmaa
