import Derived.Test.YtbpmbofinoinmaaFaT2
import Derived.Test.YtbpmbofinoinmaaGAv25
namespace Go.Proofs.Ytbpmbofinoinmaa
open Go.Av Go.Proofs

theorem Le.bool {a b : Bool} (h : a = b) : Le (.sc (.bool a)) (.sc (.bool b)) := by subst h; exact .refl _
theorem Le.int {k : IntKind} {a b : Int} (h : a = b) : Le (.sc (.int k a)) (.sc (.int k b)) := by subst h; exact .refl _

def badTime (n : Int) (c : C) : Bool := decide (c.round < 0) || (decide (c.round > 100) || (decide (c.sent < 0) || decide (c.sent ≥ n)))
def badRank (n : Int) (c : C) : Bool := decide (c.rank < 0) || decide (c.rank ≥ n)

def checkGo (n : Int) (s : Nat → Bool) : List C → Int
  | [] => 0
  | c :: r => if badRank n c = true then 11 else if badTime n c = true then 3 else if s c.rank.toNat = true then 5 else checkGo n (fun i => if i = c.rank.toNat then true else s i) r

def checkS (n : Int) (l : List C) : Int := if (decide (n < 1) || decide (n > 64)) = true then 3 else checkGo n (fun _ => false) l

theorem check_big (n : Int) (l : List C) (hl : l.length ≤ 9223372036854775807) : CallOK Try.prog 12 [.sc (.int .i64 n), crV l] [] (fun res _ => res = .sc (.int .i64 (checkS n l))) := by
  refine CallOK.of cF12 ?_ (by simp [F12])
  repeat (first | refine Reg.o rfl rfl ?_ | refine Reg.on rfl rfl ?_ | refine Reg.s rfl ?_ | refine Reg.sn rfl ?_ | refine Reg.nil ?_ | refine DK.o rfl rfl ?_ | refine DK.on rfl rfl ?_ | refine DK.s rfl ?_ | refine DK.sn rfl ?_ | refine AWP.seq ?_ | refine AWP.region ?_ | refine AWP.dk mixed ?_ | refine AWP.condT rfl ?_ | refine AWP.condF rfl ?_ | refine AWP.skip ?_ | refine AWP.ret ?_ | refine AWP.exit ?_ | refine AWP.block ?_ )
  refine Reg.join [(0, .sc (.int .i64 n)), (1, crV l), (13, .sc (.bool (decide (n < 1) || decide (n > 64))))] [] ?_ ?_
  · repeat' (first | refine Reg.o rfl rfl ?_ | refine Reg.on rfl rfl ?_ | refine Reg.s rfl ?_ | refine Reg.sn rfl ?_ | refine Reg.nil ?_ | refine DK.o rfl rfl ?_ | refine DK.on rfl rfl ?_ | refine DK.s rfl ?_ | refine DK.sn rfl ?_ | refine AWP.seq ?_ | refine AWP.region ?_ | refine AWP.dk mixed ?_ | refine AWP.condT rfl ?_ | refine AWP.condF rfl ?_ | refine AWP.skip ?_ | refine AWP.ret ?_ | refine AWP.exit ?_ | refine AWP.block ?_ | refine Reg.gs rfl (fun _ => ?_) (fun _ => ?_) | refine AWP.cond rfl (fun _ => ?_) (fun _ => ?_))
    all_goals exact Sub.keep ⟨.refl _, .refl _, Le.bool (by (first | (simp_all; done) | (simp_all; omega) | (simp at *; omega) | (rw [Bool.eq_iff_iff]; simp at *; omega))), trivial⟩
  refine AWP.cond rfl (fun h => ?_) (fun h => ?_)
  · repeat (first | refine Reg.o rfl rfl ?_ | refine Reg.on rfl rfl ?_ | refine Reg.s rfl ?_ | refine Reg.sn rfl ?_ | refine Reg.nil ?_ | refine DK.o rfl rfl ?_ | refine DK.on rfl rfl ?_ | refine DK.s rfl ?_ | refine DK.sn rfl ?_ | refine AWP.seq ?_ | refine AWP.region ?_ | refine AWP.dk mixed ?_ | refine AWP.condT rfl ?_ | refine AWP.condF rfl ?_ | refine AWP.skip ?_ | refine AWP.ret ?_ | refine AWP.exit ?_ | refine AWP.block ?_ )
    exact fin_pure (.inr rfl) rfl (.sc _) (by simp only [checkS, h, if_true])
  have hb := h
  repeat (first | refine Reg.o rfl rfl ?_ | refine Reg.on rfl rfl ?_ | refine Reg.s rfl ?_ | refine Reg.sn rfl ?_ | refine Reg.nil ?_ | refine DK.o rfl rfl ?_ | refine DK.on rfl rfl ?_ | refine DK.s rfl ?_ | refine DK.sn rfl ?_ | refine AWP.seq ?_ | refine AWP.region ?_ | refine AWP.dk mixed ?_ | refine AWP.condT rfl ?_ | refine AWP.condF rfl ?_ | refine AWP.skip ?_ | refine AWP.ret ?_ | refine AWP.exit ?_ | refine AWP.block ?_ )
  have hn : 1 ≤ n ∧ n ≤ 64 := by simp at h; omega
  refine AWP.loop (fun p : Nat × (Nat → Bool) => [(0, .sc (.int .i64 n)), (5, .ptr 0 0 0 0), (14, crV l), (15, .sc (.int .i64 l.length)), (16, .sc (.int .i64 p.1))]) (fun p => [[.cells 64 [bset 64 p.2]]])
    (fun p => p.1 ≤ l.length ∧ checkGo n (fun _ => false) l = checkGo n p.2 (l.drop p.1)) (fun p => l.length - p.1) (0, fun _ => false) ⟨Nat.zero_le _, by simp⟩
    (Sub.re [[(0, 0)]] rfl rfl rfl ⟨⟨⟨_, rfl, RenB.row rfl (pure_bset _ _)⟩, trivial⟩, trivial⟩ ⟨.int rfl, .ptr _ _ _ _ _ _ rfl, .pure (pure_cr l), .int (by simp), .int rfl, trivial⟩) ?_
  rintro ⟨k, s⟩ ⟨hk, hck⟩
  simp only at hk hck
  repeat (first | refine Reg.o rfl rfl ?_ | refine Reg.on rfl rfl ?_ | refine Reg.s rfl ?_ | refine Reg.sn rfl ?_ | refine Reg.nil ?_ | refine DK.o rfl rfl ?_ | refine DK.on rfl rfl ?_ | refine DK.s rfl ?_ | refine DK.sn rfl ?_ | refine AWP.seq ?_ | refine AWP.region ?_ | refine AWP.dk mixed ?_ | refine AWP.condT rfl ?_ | refine AWP.condF rfl ?_ | refine AWP.skip ?_ | refine AWP.ret ?_ | refine AWP.exit ?_ | refine AWP.block ?_ )
  refine AWP.cond rfl (fun h => ?_) (fun h => ?_)
  · have hlt : k < l.length := by simpa using h
    generalize hc : l[k] = c
    have hdrop : l.drop k = c :: l.drop (k + 1) := by rw [List.drop_eq_getElem_cons hlt, hc]
    repeat (first | refine Reg.o rfl rfl ?_ | refine Reg.on rfl rfl ?_ | refine Reg.s rfl ?_ | refine Reg.sn rfl ?_ | refine Reg.nil ?_ | refine DK.o rfl rfl ?_ | refine DK.on rfl rfl ?_ | refine DK.s rfl ?_ | refine DK.sn rfl ?_ | refine AWP.seq ?_ | refine AWP.region ?_ | refine AWP.dk mixed ?_ | refine AWP.condT rfl ?_ | refine AWP.condF rfl ?_ | refine AWP.skip ?_ | refine AWP.ret ?_ | refine AWP.exit ?_ | refine AWP.block ?_ )
    refine Reg.o rfl (dstep_idxSl rfl rfl ((rowIx_map crow l k hlt).trans (by rw [hc]))) ?_
    repeat (first | refine Reg.o rfl rfl ?_ | refine Reg.on rfl rfl ?_ | refine Reg.s rfl ?_ | refine Reg.sn rfl ?_ | refine Reg.nil ?_ | refine DK.o rfl rfl ?_ | refine DK.on rfl rfl ?_ | refine DK.s rfl ?_ | refine DK.sn rfl ?_ | refine AWP.seq ?_ | refine AWP.region ?_ | refine AWP.dk mixed ?_ | refine AWP.condT rfl ?_ | refine AWP.condF rfl ?_ | refine AWP.skip ?_ | refine AWP.ret ?_ | refine AWP.exit ?_ | refine AWP.block ?_ )
    refine Reg.join [(0, .sc (.int .i64 n)), (5, .ptr 0 0 0 0), (7, .ptr 1 0 0 0), (14, crV l), (15, .sc (.int .i64 l.length)), (16, .sc (.int .i64 k)), (20, .sc (.bool (badRank n c)))] [[.cells 64 [bset 64 s]], [.cells 3 [crow c]]] ?_ ?_
    · repeat' (first | refine Reg.o rfl rfl ?_ | refine Reg.on rfl rfl ?_ | refine Reg.s rfl ?_ | refine Reg.sn rfl ?_ | refine Reg.nil ?_ | refine DK.o rfl rfl ?_ | refine DK.on rfl rfl ?_ | refine DK.s rfl ?_ | refine DK.sn rfl ?_ | refine AWP.seq ?_ | refine AWP.region ?_ | refine AWP.dk mixed ?_ | refine AWP.condT rfl ?_ | refine AWP.condF rfl ?_ | refine AWP.skip ?_ | refine AWP.ret ?_ | refine AWP.exit ?_ | refine AWP.block ?_ | refine Reg.gs rfl (fun _ => ?_) (fun _ => ?_) | refine AWP.cond rfl (fun _ => ?_) (fun _ => ?_))
      all_goals exact Sub.re [[(0, 0)], [(1, 0)]] rfl rfl rfl ⟨⟨⟨_, rfl, RenB.row rfl (pure_bset _ _)⟩, trivial⟩, ⟨⟨_, rfl, RenB.row rfl (pure_crow c)⟩, trivial⟩, trivial⟩ ⟨.int rfl, .ptr _ _ _ _ _ _ rfl, .ptr _ _ _ _ _ _ rfl, .pure (pure_cr l), .int rfl, .int rfl, .bool (by unfold badRank; (first | (simp_all; done) | (simp_all; omega) | (simp at *; omega) | (rw [Bool.eq_iff_iff]; simp at *; omega))), trivial⟩
    refine AWP.cond rfl (fun h => ?_) (fun h => ?_)
    · repeat (first | refine Reg.o rfl rfl ?_ | refine Reg.on rfl rfl ?_ | refine Reg.s rfl ?_ | refine Reg.sn rfl ?_ | refine Reg.nil ?_ | refine DK.o rfl rfl ?_ | refine DK.on rfl rfl ?_ | refine DK.s rfl ?_ | refine DK.sn rfl ?_ | refine AWP.seq ?_ | refine AWP.region ?_ | refine AWP.dk mixed ?_ | refine AWP.condT rfl ?_ | refine AWP.condF rfl ?_ | refine AWP.skip ?_ | refine AWP.ret ?_ | refine AWP.exit ?_ | refine AWP.block ?_ )
      refine fin_pure (.inr rfl) rfl (.sc _) ?_
      have : checkS n l = 11 := by rw [checkS, if_neg (by rw [hb]; decide), hck, hdrop, checkGo, if_pos h]
      rw [this]
    have h1 := h
    repeat (first | refine Reg.o rfl rfl ?_ | refine Reg.on rfl rfl ?_ | refine Reg.s rfl ?_ | refine Reg.sn rfl ?_ | refine Reg.nil ?_ | refine DK.o rfl rfl ?_ | refine DK.on rfl rfl ?_ | refine DK.s rfl ?_ | refine DK.sn rfl ?_ | refine AWP.seq ?_ | refine AWP.region ?_ | refine AWP.dk mixed ?_ | refine AWP.condT rfl ?_ | refine AWP.condF rfl ?_ | refine AWP.skip ?_ | refine AWP.ret ?_ | refine AWP.exit ?_ | refine AWP.block ?_ )
    refine Reg.join [(0, .sc (.int .i64 n)), (5, .ptr 0 0 0 0), (7, .ptr 1 0 0 0), (14, crV l), (15, .sc (.int .i64 l.length)), (16, .sc (.int .i64 k)), (30, .sc (.bool (badTime n c)))] [[.cells 64 [bset 64 s]], [.cells 3 [crow c]]] ?_ ?_
    · repeat' (first | refine Reg.o rfl rfl ?_ | refine Reg.on rfl rfl ?_ | refine Reg.s rfl ?_ | refine Reg.sn rfl ?_ | refine Reg.nil ?_ | refine DK.o rfl rfl ?_ | refine DK.on rfl rfl ?_ | refine DK.s rfl ?_ | refine DK.sn rfl ?_ | refine AWP.seq ?_ | refine AWP.region ?_ | refine AWP.dk mixed ?_ | refine AWP.condT rfl ?_ | refine AWP.condF rfl ?_ | refine AWP.skip ?_ | refine AWP.ret ?_ | refine AWP.exit ?_ | refine AWP.block ?_ | refine Reg.gs rfl (fun _ => ?_) (fun _ => ?_) | refine AWP.cond rfl (fun _ => ?_) (fun _ => ?_))
      all_goals exact Sub.re [[(0, 0)], [(1, 0)]] rfl rfl rfl ⟨⟨⟨_, rfl, RenB.row rfl (pure_bset _ _)⟩, trivial⟩, ⟨⟨_, rfl, RenB.row rfl (pure_crow c)⟩, trivial⟩, trivial⟩ ⟨.int rfl, .ptr _ _ _ _ _ _ rfl, .ptr _ _ _ _ _ _ rfl, .pure (pure_cr l), .int rfl, .int rfl, .bool (by unfold badTime; (first | (simp_all; done) | (simp_all; omega) | (simp at *; omega) | (rw [Bool.eq_iff_iff]; simp at *; omega))), trivial⟩
    refine AWP.cond rfl (fun h => ?_) (fun h => ?_)
    · repeat (first | refine Reg.o rfl rfl ?_ | refine Reg.on rfl rfl ?_ | refine Reg.s rfl ?_ | refine Reg.sn rfl ?_ | refine Reg.nil ?_ | refine DK.o rfl rfl ?_ | refine DK.on rfl rfl ?_ | refine DK.s rfl ?_ | refine DK.sn rfl ?_ | refine AWP.seq ?_ | refine AWP.region ?_ | refine AWP.dk mixed ?_ | refine AWP.condT rfl ?_ | refine AWP.condF rfl ?_ | refine AWP.skip ?_ | refine AWP.ret ?_ | refine AWP.exit ?_ | refine AWP.block ?_ )
      refine fin_pure (.inr rfl) rfl (.sc _) ?_
      have : checkS n l = 3 := by rw [checkS, if_neg (by rw [hb]; decide), hck, hdrop, checkGo, if_neg (by rw [h1]; decide), if_pos h]
      rw [this]
    have h2 := h
    have hr : 0 ≤ c.rank ∧ c.rank < n := by simp [badRank] at h1; omega
    have hq : c.rank = (c.rank.toNat : Int) := by omega
    have hq64 : c.rank.toNat < 64 := by omega
    repeat (first | refine Reg.o rfl rfl ?_ | refine Reg.on rfl rfl ?_ | refine Reg.s rfl ?_ | refine Reg.sn rfl ?_ | refine Reg.nil ?_ | refine DK.o rfl rfl ?_ | refine DK.on rfl rfl ?_ | refine DK.s rfl ?_ | refine DK.sn rfl ?_ | refine AWP.seq ?_ | refine AWP.region ?_ | refine AWP.dk mixed ?_ | refine AWP.condT rfl ?_ | refine AWP.condF rfl ?_ | refine AWP.skip ?_ | refine AWP.ret ?_ | refine AWP.exit ?_ | refine AWP.block ?_ )
    refine Reg.o rfl (dstep_idxArr rfl rfl hq hq64) ?_
    refine Reg.o rfl (dstep_ld1 rfl rfl rfl (c := .sc (.bool (s c.rank.toNat))) (by rw [Nat.mul_one, Nat.zero_add]; exact bset_get hq64)) ?_
    repeat (first | refine Reg.o rfl rfl ?_ | refine Reg.on rfl rfl ?_ | refine Reg.s rfl ?_ | refine Reg.sn rfl ?_ | refine Reg.nil ?_ | refine DK.o rfl rfl ?_ | refine DK.on rfl rfl ?_ | refine DK.s rfl ?_ | refine DK.sn rfl ?_ | refine AWP.seq ?_ | refine AWP.region ?_ | refine AWP.dk mixed ?_ | refine AWP.condT rfl ?_ | refine AWP.condF rfl ?_ | refine AWP.skip ?_ | refine AWP.ret ?_ | refine AWP.exit ?_ | refine AWP.block ?_ )
    refine AWP.cond rfl (fun h => ?_) (fun h => ?_)
    · repeat (first | refine Reg.o rfl rfl ?_ | refine Reg.on rfl rfl ?_ | refine Reg.s rfl ?_ | refine Reg.sn rfl ?_ | refine Reg.nil ?_ | refine DK.o rfl rfl ?_ | refine DK.on rfl rfl ?_ | refine DK.s rfl ?_ | refine DK.sn rfl ?_ | refine AWP.seq ?_ | refine AWP.region ?_ | refine AWP.dk mixed ?_ | refine AWP.condT rfl ?_ | refine AWP.condF rfl ?_ | refine AWP.skip ?_ | refine AWP.ret ?_ | refine AWP.exit ?_ | refine AWP.block ?_ )
      refine fin_pure (.inr rfl) rfl (.sc _) ?_
      have : checkS n l = 5 := by rw [checkS, if_neg (by rw [hb]; decide), hck, hdrop, checkGo, if_neg (by rw [h1]; decide), if_neg (by rw [h2]; decide), if_pos h]
      rw [this]
    repeat (first | refine Reg.o rfl rfl ?_ | refine Reg.on rfl rfl ?_ | refine Reg.s rfl ?_ | refine Reg.sn rfl ?_ | refine Reg.nil ?_ | refine DK.o rfl rfl ?_ | refine DK.on rfl rfl ?_ | refine DK.s rfl ?_ | refine DK.sn rfl ?_ | refine AWP.seq ?_ | refine AWP.region ?_ | refine AWP.dk mixed ?_ | refine AWP.condT rfl ?_ | refine AWP.condF rfl ?_ | refine AWP.skip ?_ | refine AWP.ret ?_ | refine AWP.exit ?_ | refine AWP.block ?_ )
    refine Reg.o rfl (dstep_idxArr rfl rfl hq hq64) ?_
    refine Reg.on rfl (dstep_stN rfl rfl rfl rfl rfl (by rw [bset_len]; omega) rfl) ?_
    repeat (first | refine Reg.o rfl rfl ?_ | refine Reg.on rfl rfl ?_ | refine Reg.s rfl ?_ | refine Reg.sn rfl ?_ | refine Reg.nil ?_ | refine DK.o rfl rfl ?_ | refine DK.on rfl rfl ?_ | refine DK.s rfl ?_ | refine DK.sn rfl ?_ | refine AWP.seq ?_ | refine AWP.region ?_ | refine AWP.dk mixed ?_ | refine AWP.condT rfl ?_ | refine AWP.condF rfl ?_ | refine AWP.skip ?_ | refine AWP.ret ?_ | refine AWP.exit ?_ | refine AWP.block ?_ )
    refine ⟨(k + 1, fun i => if i = c.rank.toNat then true else s i), ⟨by simp only; omega, ?_⟩, by simp only; omega, ?_⟩
    · rw [hck, hdrop, checkGo, if_neg (by rw [h1]; decide), if_neg (by rw [h2]; decide), if_neg (by rw [h]; decide)]
    · refine Sub.re [[(0, 0)]] rfl rfl rfl ⟨⟨⟨_, rfl, RenB.row ?_ (pure_bset _ _)⟩, trivial⟩, trivial⟩ ⟨.int rfl, .ptr _ _ _ _ _ _ rfl, .pure (pure_cr l), .int rfl, .int ?_, trivial⟩
      · show lsplice (bset 64 s) _ _ = _
        rw [Nat.mul_one, Nat.zero_add]
        exact bset_splice 64 s _ true
      · show IntKind.i64.wrap ((k : Int) + 1) = ((k + 1 : Nat) : Int)
        rw [wrap_small (by omega) (by omega)]; omega
  · have hkl : k = l.length := by
      have : ¬ k < l.length := by simpa using h
      omega
    repeat (first | refine Reg.o rfl rfl ?_ | refine Reg.on rfl rfl ?_ | refine Reg.s rfl ?_ | refine Reg.sn rfl ?_ | refine Reg.nil ?_ | refine DK.o rfl rfl ?_ | refine DK.on rfl rfl ?_ | refine DK.s rfl ?_ | refine DK.sn rfl ?_ | refine AWP.seq ?_ | refine AWP.region ?_ | refine AWP.dk mixed ?_ | refine AWP.condT rfl ?_ | refine AWP.condF rfl ?_ | refine AWP.skip ?_ | refine AWP.ret ?_ | refine AWP.exit ?_ | refine AWP.block ?_ )
    refine fin_pure (.inr rfl) rfl (.sc _) ?_
    have : checkS n l = 0 := by rw [checkS, if_neg (by rw [hb]; decide), hck, hkl, List.drop_length, checkGo]
    rw [this]

theorem check_ok (n : Int) (l : List C) (hl : l.length ≤ 4000000) : CallOK Try.prog 12 [.sc (.int .i64 n), crV l] [] (fun res _ => res = .sc (.int .i64 (checkS n l))) := check_big n l (by omega)

end Go.Proofs.Ytbpmbofinoinmaa
