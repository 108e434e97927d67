import Derived.Test.YtbpmbofinoinmaaFaC
import Derived.Test.YtbpmbofinoinmaaFaT1
import Derived.Test.YtbpmbofinoinmaaGAv25
namespace Go.Proofs.Ytbpmbofinoinmaa
open Go.Av Go.Proofs

structure C where
  rank : Int
  round : Int
  sent : Int

def crow (c : C) : List AV := [.sc (.int .i64 c.rank), .sc (.int .i64 c.round), .sc (.int .i64 c.sent)]
def crV (l : List C) : AV := .list 3 (l.map crow)
theorem pure_crow (c : C) : ∀ x ∈ crow c, Pure x := allPure_cons (.sc _) (allPure_cons (.sc _) (allPure_cons (.sc _) allPure_nil))
theorem pure_crs (l : List C) : ∀ r ∈ l.map crow, ∀ x ∈ r, Pure x := allPure_map pure_crow l
theorem pure_cr (l : List C) : Pure (crV l) := .list _ _ (pure_crs l)

theorem pure_crs' (l : List C) : Pure (.list 3 (l.map crow)) := pure_cr l

theorem crashes_ok (l : List C) (hl : l.length ≤ 4000000) : CallOK Try.prog 14 [crV l] [] (fun res _ => res = crV l) := by
  refine CallOK.of cF14 ?_ (by simp [F14])
  repeat (first | refine Reg.o rfl rfl ?_ | refine Reg.on rfl rfl ?_ | refine Reg.s rfl ?_ | refine Reg.sn rfl ?_ | refine Reg.nil ?_ | refine DK.o rfl rfl ?_ | refine DK.on rfl rfl ?_ | refine DK.s rfl ?_ | refine DK.sn rfl ?_ | refine AWP.seq ?_ | refine AWP.region ?_ | refine AWP.dk mixed ?_ | refine AWP.condT rfl ?_ | refine AWP.condF rfl ?_ | refine AWP.skip ?_ | refine AWP.ret ?_ | refine AWP.exit ?_ | refine AWP.block ?_ )
  refine AWP.loop (fun k : Nat => [(0, crV l), (3, .hsl 0 0 0 k), (4, .sc (.int .i64 k))]) (fun k => [[.cells 3 ((l.take k).map crow)]]) (fun k => k ≤ l.length) (fun k => l.length - k) 0 (Nat.zero_le _)
    (Sub.trans (Sub.nilBlk (fr' := [(0, crV l), (3, .hsl 0 0 0 0), (4, .sc (.int .i64 (0 : Nat)))]) 3 ⟨.refl _, .base (GhT.push [] 3), .refl _, trivial⟩) (Sub.refl _ _ _ _)) ?_
  intro k hk
  repeat (first | refine Reg.o rfl rfl ?_ | refine Reg.on rfl rfl ?_ | refine Reg.s rfl ?_ | refine Reg.sn rfl ?_ | refine Reg.nil ?_ | refine DK.o rfl rfl ?_ | refine DK.on rfl rfl ?_ | refine DK.s rfl ?_ | refine DK.sn rfl ?_ | refine AWP.seq ?_ | refine AWP.region ?_ | refine AWP.dk mixed ?_ | refine AWP.condT rfl ?_ | refine AWP.condF rfl ?_ | refine AWP.skip ?_ | refine AWP.ret ?_ | refine AWP.exit ?_ | refine AWP.block ?_ )
  refine AWP.cond rfl (fun h => ?_) (fun h => ?_)
  · have hlt : k < l.length := by simpa using h
    repeat (first | refine Reg.o rfl rfl ?_ | refine Reg.on rfl rfl ?_ | refine Reg.s rfl ?_ | refine Reg.sn rfl ?_ | refine Reg.nil ?_ | refine DK.o rfl rfl ?_ | refine DK.on rfl rfl ?_ | refine DK.s rfl ?_ | refine DK.sn rfl ?_ | refine AWP.seq ?_ | refine AWP.region ?_ | refine AWP.dk mixed ?_ | refine AWP.condT rfl ?_ | refine AWP.condF rfl ?_ | refine AWP.skip ?_ | refine AWP.ret ?_ | refine AWP.exit ?_ | refine AWP.block ?_ )
    refine Reg.o rfl (dstep_idxSl rfl rfl (rowIx_map crow l k hlt)) ?_
    repeat (first | refine Reg.o rfl rfl ?_ | refine Reg.on rfl rfl ?_ | refine Reg.s rfl ?_ | refine Reg.sn rfl ?_ | refine Reg.nil ?_ | refine DK.o rfl rfl ?_ | refine DK.on rfl rfl ?_ | refine DK.s rfl ?_ | refine DK.sn rfl ?_ | refine AWP.seq ?_ | refine AWP.region ?_ | refine AWP.dk mixed ?_ | refine AWP.condT rfl ?_ | refine AWP.condF rfl ?_ | refine AWP.skip ?_ | refine AWP.ret ?_ | refine AWP.exit ?_ | refine AWP.block ?_ )
    refine Reg.o rfl (dstep_app rfl rfl rfl (by simp; omega) (by simp; omega) rfl) ?_
    repeat (first | refine Reg.o rfl rfl ?_ | refine Reg.on rfl rfl ?_ | refine Reg.s rfl ?_ | refine Reg.sn rfl ?_ | refine Reg.nil ?_ | refine DK.o rfl rfl ?_ | refine DK.on rfl rfl ?_ | refine DK.s rfl ?_ | refine DK.sn rfl ?_ | refine AWP.seq ?_ | refine AWP.region ?_ | refine AWP.dk mixed ?_ | refine AWP.condT rfl ?_ | refine AWP.condF rfl ?_ | refine AWP.skip ?_ | refine AWP.ret ?_ | refine AWP.exit ?_ | refine AWP.block ?_ )
    refine ⟨k + 1, by omega, by omega, Sub.re [[(2, 0)]] rfl rfl rfl ⟨⟨⟨_, rfl, ?_⟩, trivial⟩, trivial⟩ ⟨.pure (pure_cr l), .hsl _ _ _ _ _ _ rfl, .int ?_, trivial⟩⟩
    · have : (l.take k).map crow ++ [crow l[k]] = (l.take (k + 1)).map crow := by
        rw [List.take_succ_eq_append_getElem hlt, List.map_append]; rfl
      rw [← this]
      refine RenB.pure 3 ((l.take k).map crow ++ [crow l[k]]) ?_
      rw [this]
      exact pure_crs _
    · rw [wrap_small (by omega) (by omega)]; omega
  · have hkl : k = l.length := by
      have : ¬ k < l.length := by simpa using h
      omega
    repeat (first | refine Reg.o rfl rfl ?_ | refine Reg.on rfl rfl ?_ | refine Reg.s rfl ?_ | refine Reg.sn rfl ?_ | refine Reg.nil ?_ | refine DK.o rfl rfl ?_ | refine DK.on rfl rfl ?_ | refine DK.s rfl ?_ | refine DK.sn rfl ?_ | refine AWP.seq ?_ | refine AWP.region ?_ | refine AWP.dk mixed ?_ | refine AWP.condT rfl ?_ | refine AWP.condF rfl ?_ | refine AWP.skip ?_ | refine AWP.ret ?_ | refine AWP.exit ?_ | refine AWP.block ?_ )
    refine fin_frz (.inr rfl) rfl (FzA.all rfl (by simp; omega)) (pure_crs' _) ?_
    rw [hkl, List.take_of_length_le (Nat.le_refl _)]; rfl

end Go.Proofs.Ytbpmbofinoinmaa
