import Derived.Test.YtbpmbofinoinmaaFaA4
namespace Go.Proofs.Ytbpmbofinoinmaa
open Go.Av Go.Proofs

/-! busy. -/

def busyAt (l : List C) (r : Int) (ps : List Pr) (k : Nat) : Bool := livesS l k r && !(prAt ps k).done
def busyS (l : List C) (r : Int) (ps : List Pr) (k : Nat) : Bool := (List.range k).any (busyAt l r ps)
theorem busyS_succ (l : List C) (r : Int) (ps : List Pr) (k : Nat) : busyS l r ps (k + 1) = (busyS l r ps k || busyAt l r ps k) := by
  unfold busyS; rw [List.range_succ, List.any_append]; simp

def hp4 (n : Nat) (l : List C) (r : Int) (ps : List Pr) : Heap := [[boxB n], [procsB ps], [oneB (.int .i64 r)], [X42.schB n l]]

theorem pure_schA (n : Nat) (l : List C) : ∀ r ∈ [[AV.sc (.int .i64 n), .tmap (esOf l)]], ∀ c ∈ r, Pure c := by
  intro r hr
  rw [List.mem_singleton.1 hr]
  exact allPure_cons (.sc _) (allPure_cons (pure_es l) allPure_nil)

theorem fin4 {e : Exit} (he : e = .normal ∨ e = .ret) {rs : List IRes} {fr : Fr} {n : Nat} {l : List C} {r : Int} {ps : List Pr} {res : AV} {R : AV → Heap → Prop} (hres : resOf fr (hp4 n l r ps) rs = some res) (hp : Pure res) (hR : R res (hp4 n l r ps)) :
    (e = .normal ∨ e = .ret) ∧ ∃ res res' H2, resOf fr (hp4 n l r ps) rs = some res ∧ SubV 4 (hp4 n l r ps) res H2 res' ∧ R res' H2 :=
  ⟨he, res, res, hp4 n l r ps, hres, SubV.ren (rho [[(0, 0)], [(1, 0)], [(2, 0)], [(3, 0)]]) (Numb.list rfl rfl rfl ⟨⟨⟨_, rfl, RenB.one (sz := 1) (xs := [.hsl 1 0 0 n]) ⟨.hsl _ _ _ _ _ _ rfl, trivial⟩⟩, trivial⟩, ⟨⟨_, rfl, RenB.rows (rows := ps.map prRow) rfl (pure_procs ps)⟩, trivial⟩,
    ⟨⟨_, rfl, RenB.one (sz := 1) (xs := [.sc (.int .i64 r)]) ⟨.sc _, trivial⟩⟩, trivial⟩, ⟨⟨_, rfl, RenB.pure 2 _ (pure_schA n l)⟩, trivial⟩, trivial⟩) (.pure hp), hR⟩

theorem busy_ok {n : Nat} {l : List C} {r : Int} {ps : List Pr} (hn : n ≤ 64) (hlen : ps.length = n) : CallOK Try.prog 40 [.ptr 0 0 0 0, .ptr 3 0 0 0, .ptr 2 0 0 0] (hp4 n l r ps) (fun res H' => res = .sc (.bool (busyS l r ps n)) ∧ H' = hp4 n l r ps) := by
  refine CallOK.of cF40 ?_ (by simp [F40])
  unfold hp4
  repeat (first | refine Reg.o rfl rfl ?_ | refine Reg.on rfl rfl ?_ | refine Reg.s rfl ?_ | refine Reg.sn rfl ?_ | refine Reg.nil ?_ | refine DK.o rfl rfl ?_ | refine DK.on rfl rfl ?_ | refine DK.s rfl ?_ | refine DK.sn rfl ?_ | refine AWP.seq ?_ | refine AWP.region ?_ | refine AWP.dk mixed ?_ | refine AWP.condT rfl ?_ | refine AWP.condF rfl ?_ | refine AWP.skip ?_ | refine AWP.ret ?_ | refine AWP.exit ?_ | refine AWP.block ?_ )
  refine AWP.loop (fun k : Nat => [(0, .ptr 0 0 0 0), (1, .ptr 3 0 0 0), (2, .ptr 2 0 0 0), (6, .sc (.int .i64 n)), (7, .sc (.int .i64 k))]) (fun _ => hp4 n l r ps) (fun k => k ≤ n ∧ busyS l r ps k = false) (fun k => n - k) 0 ⟨Nat.zero_le _, rfl⟩ ?_ ?_
  · refine Sub.re [[(0, 0)], [(1, 0)], [(2, 0)], [(3, 0)]] rfl rfl rfl ⟨⟨⟨_, rfl, RenB.one (sz := 1) (xs := [.hsl 1 0 0 n]) ⟨.hsl _ _ _ _ _ _ rfl, trivial⟩⟩, trivial⟩, ⟨⟨_, rfl, RenB.rows (rows := ps.map prRow) rfl (pure_procs ps)⟩, trivial⟩,
      ⟨⟨_, rfl, RenB.one (sz := 1) (xs := [.sc (.int .i64 r)]) ⟨.sc _, trivial⟩⟩, trivial⟩, ⟨⟨_, rfl, RenB.pure 2 _ (pure_schA n l)⟩, trivial⟩, trivial⟩ ⟨.ptr _ _ _ _ _ _ rfl, .ptr _ _ _ _ _ _ rfl, .ptr _ _ _ _ _ _ rfl, .int rfl, .int rfl, trivial⟩
  rintro k ⟨hk, hb⟩
  have hk1 : IntKind.i64.wrap ((k : Int) + 1) = ((k + 1 : Nat) : Int) := by rw [wrap_small (by omega) (by omega)]; omega
  unfold hp4
  repeat (first | refine Reg.o rfl rfl ?_ | refine Reg.on rfl rfl ?_ | refine Reg.s rfl ?_ | refine Reg.sn rfl ?_ | refine Reg.nil ?_ | refine DK.o rfl rfl ?_ | refine DK.on rfl rfl ?_ | refine DK.s rfl ?_ | refine DK.sn rfl ?_ | refine AWP.seq ?_ | refine AWP.region ?_ | refine AWP.dk mixed ?_ | refine AWP.condT rfl ?_ | refine AWP.condF rfl ?_ | refine AWP.skip ?_ | refine AWP.ret ?_ | refine AWP.exit ?_ | refine AWP.block ?_ )
  refine AWP.cond rfl (fun h => ?_) (fun h => ?_)
  · have hkn : k < n := by simpa using h
    obtain ⟨p, hp⟩ : ∃ p, ps[k]? = some p := ⟨_, List.getElem?_eq_getElem (by omega)⟩
    have hrow0 : (ps.map prRow)[0 + k]? = some (prRow p) := by rw [Nat.zero_add]; exact procs_get hp
    have hat : prAt ps k = p := by unfold prAt; rw [hp]; rfl
    have hbs := busyS_succ l r ps k
    repeat (first | refine Reg.o rfl rfl ?_ | refine Reg.on rfl rfl ?_ | refine Reg.s rfl ?_ | refine Reg.sn rfl ?_ | refine Reg.nil ?_ | refine DK.o rfl rfl ?_ | refine DK.on rfl rfl ?_ | refine DK.s rfl ?_ | refine DK.sn rfl ?_ | refine AWP.seq ?_ | refine AWP.region ?_ | refine AWP.dk mixed ?_ | refine AWP.condT rfl ?_ | refine AWP.condF rfl ?_ | refine AWP.skip ?_ | refine AWP.ret ?_ | refine AWP.exit ?_ | refine AWP.block ?_ )
    refine Reg.c (Nat.le_refl _) rfl (CallOK.ofPure (PureRun.of (allPure_cons (pure_sch n l) (allPure_cons (.sc _) (allPure_cons (.sc _) allPure_nil))) (.sc _) (lives_ok n l k r)) _ ?_)
    repeat (first | refine Reg.o rfl rfl ?_ | refine Reg.on rfl rfl ?_ | refine Reg.s rfl ?_ | refine Reg.sn rfl ?_ | refine Reg.nil ?_ | refine DK.o rfl rfl ?_ | refine DK.on rfl rfl ?_ | refine DK.s rfl ?_ | refine DK.sn rfl ?_ | refine AWP.seq ?_ | refine AWP.region ?_ | refine AWP.dk mixed ?_ | refine AWP.condT rfl ?_ | refine AWP.condF rfl ?_ | refine AWP.skip ?_ | refine AWP.ret ?_ | refine AWP.exit ?_ | refine AWP.block ?_ )
    refine Reg.gs rfl (fun g => ?_) (fun g => ?_)
    · repeat (first | refine Reg.o rfl rfl ?_ | refine Reg.on rfl rfl ?_ | refine Reg.s rfl ?_ | refine Reg.sn rfl ?_ | refine Reg.nil ?_ | refine DK.o rfl rfl ?_ | refine DK.on rfl rfl ?_ | refine DK.s rfl ?_ | refine DK.sn rfl ?_ | refine AWP.seq ?_ | refine AWP.region ?_ | refine AWP.dk mixed ?_ | refine AWP.condT rfl ?_ | refine AWP.condF rfl ?_ | refine AWP.skip ?_ | refine AWP.ret ?_ | refine AWP.exit ?_ | refine AWP.block ?_ )
      refine Reg.o rfl (dstep_idxH (q := k) rfl rfl rfl hkn (by simp [hlen])) ?_
      repeat (first | refine Reg.o rfl rfl ?_ | refine Reg.on rfl rfl ?_ | refine Reg.s rfl ?_ | refine Reg.sn rfl ?_ | refine Reg.nil ?_ | refine DK.o rfl rfl ?_ | refine DK.on rfl rfl ?_ | refine DK.s rfl ?_ | refine DK.sn rfl ?_ | refine AWP.seq ?_ | refine AWP.region ?_ | refine AWP.dk mixed ?_ | refine AWP.condT rfl ?_ | refine AWP.condF rfl ?_ | refine AWP.skip ?_ | refine AWP.ret ?_ | refine AWP.exit ?_ | refine AWP.block ?_ )
      refine Reg.o rfl (dstep_ld1 rfl rfl hrow0 (by exact pr_f p)) ?_
      repeat (first | refine Reg.o rfl rfl ?_ | refine Reg.on rfl rfl ?_ | refine Reg.s rfl ?_ | refine Reg.sn rfl ?_ | refine Reg.nil ?_ | refine DK.o rfl rfl ?_ | refine DK.on rfl rfl ?_ | refine DK.s rfl ?_ | refine DK.sn rfl ?_ | refine AWP.seq ?_ | refine AWP.region ?_ | refine AWP.dk mixed ?_ | refine AWP.condT rfl ?_ | refine AWP.condF rfl ?_ | refine AWP.skip ?_ | refine AWP.ret ?_ | refine AWP.exit ?_ | refine AWP.block ?_ )
      refine AWP.cond rfl (fun g2 => ?_) (fun g2 => ?_)
      · have e : busyS l r ps n = true := by
          unfold busyS
          rw [List.any_eq_true]
          refine ⟨k, List.mem_range.2 hkn, ?_⟩
          unfold busyAt
          rw [hat, g, g2]
          rfl
        repeat (first | refine Reg.o rfl rfl ?_ | refine Reg.on rfl rfl ?_ | refine Reg.s rfl ?_ | refine Reg.sn rfl ?_ | refine Reg.nil ?_ | refine DK.o rfl rfl ?_ | refine DK.on rfl rfl ?_ | refine DK.s rfl ?_ | refine DK.sn rfl ?_ | refine AWP.seq ?_ | refine AWP.region ?_ | refine AWP.dk mixed ?_ | refine AWP.condT rfl ?_ | refine AWP.condF rfl ?_ | refine AWP.skip ?_ | refine AWP.ret ?_ | refine AWP.exit ?_ | refine AWP.block ?_ )
        exact fin4 (R := fun res H' => res = .sc (.bool (busyS l r ps n)) ∧ H' = hp4 n l r ps) (.inr rfl) rfl (.sc _) ⟨by rw [e], rfl⟩
      · have e : busyS l r ps (k + 1) = false := by
          rw [hbs, hb]
          unfold busyAt
          rw [hat, g2, Bool.and_false]
          rfl
        repeat (first | refine Reg.o rfl rfl ?_ | refine Reg.on rfl rfl ?_ | refine Reg.s rfl ?_ | refine Reg.sn rfl ?_ | refine Reg.nil ?_ | refine DK.o rfl rfl ?_ | refine DK.on rfl rfl ?_ | refine DK.s rfl ?_ | refine DK.sn rfl ?_ | refine AWP.seq ?_ | refine AWP.region ?_ | refine AWP.dk mixed ?_ | refine AWP.condT rfl ?_ | refine AWP.condF rfl ?_ | refine AWP.skip ?_ | refine AWP.ret ?_ | refine AWP.exit ?_ | refine AWP.block ?_ )
        refine ⟨k + 1, ⟨by omega, e⟩, by omega, ?_⟩
        refine Sub.re [[(0, 0)], [(1, 0)], [(2, 0)], [(3, 0)]] rfl rfl rfl ⟨⟨⟨_, rfl, RenB.one (sz := 1) (xs := [.hsl 1 0 0 n]) ⟨.hsl _ _ _ _ _ _ rfl, trivial⟩⟩, trivial⟩, ⟨⟨_, rfl, RenB.rows (rows := ps.map prRow) rfl (pure_procs ps)⟩, trivial⟩,
          ⟨⟨_, rfl, RenB.one (sz := 1) (xs := [.sc (.int .i64 r)]) ⟨.sc _, trivial⟩⟩, trivial⟩, ⟨⟨_, rfl, RenB.pure 2 _ (pure_schA n l)⟩, trivial⟩, trivial⟩ ⟨.ptr _ _ _ _ _ _ rfl, .ptr _ _ _ _ _ _ rfl, .ptr _ _ _ _ _ _ rfl, .int rfl, .int hk1, trivial⟩
    · have e : busyS l r ps (k + 1) = false := by
        rw [hbs, hb]
        unfold busyAt
        rw [g]
        rfl
      repeat (first | refine Reg.o rfl rfl ?_ | refine Reg.on rfl rfl ?_ | refine Reg.s rfl ?_ | refine Reg.sn rfl ?_ | refine Reg.nil ?_ | refine DK.o rfl rfl ?_ | refine DK.on rfl rfl ?_ | refine DK.s rfl ?_ | refine DK.sn rfl ?_ | refine AWP.seq ?_ | refine AWP.region ?_ | refine AWP.dk mixed ?_ | refine AWP.condT rfl ?_ | refine AWP.condF rfl ?_ | refine AWP.skip ?_ | refine AWP.ret ?_ | refine AWP.exit ?_ | refine AWP.block ?_ )
      refine ⟨k + 1, ⟨by omega, e⟩, by omega, ?_⟩
      refine Sub.re [[(0, 0)], [(1, 0)], [(2, 0)], [(3, 0)]] rfl rfl rfl ⟨⟨⟨_, rfl, RenB.one (sz := 1) (xs := [.hsl 1 0 0 n]) ⟨.hsl _ _ _ _ _ _ rfl, trivial⟩⟩, trivial⟩, ⟨⟨_, rfl, RenB.rows (rows := ps.map prRow) rfl (pure_procs ps)⟩, trivial⟩,
        ⟨⟨_, rfl, RenB.one (sz := 1) (xs := [.sc (.int .i64 r)]) ⟨.sc _, trivial⟩⟩, trivial⟩, ⟨⟨_, rfl, RenB.pure 2 _ (pure_schA n l)⟩, trivial⟩, trivial⟩ ⟨.ptr _ _ _ _ _ _ rfl, .ptr _ _ _ _ _ _ rfl, .ptr _ _ _ _ _ _ rfl, .int rfl, .int hk1, trivial⟩
  · have hkn : k = n := by
      have : ¬ k < n := by simpa using h
      omega
    repeat (first | refine Reg.o rfl rfl ?_ | refine Reg.on rfl rfl ?_ | refine Reg.s rfl ?_ | refine Reg.sn rfl ?_ | refine Reg.nil ?_ | refine DK.o rfl rfl ?_ | refine DK.on rfl rfl ?_ | refine DK.s rfl ?_ | refine DK.sn rfl ?_ | refine AWP.seq ?_ | refine AWP.region ?_ | refine AWP.dk mixed ?_ | refine AWP.condT rfl ?_ | refine AWP.condF rfl ?_ | refine AWP.skip ?_ | refine AWP.ret ?_ | refine AWP.exit ?_ | refine AWP.block ?_ )
    exact fin4 (R := fun res H' => res = .sc (.bool (busyS l r ps n)) ∧ H' = hp4 n l r ps) (.inr rfl) rfl (.sc _) ⟨by rw [← hkn, hb], rfl⟩

end Go.Proofs.Ytbpmbofinoinmaa
