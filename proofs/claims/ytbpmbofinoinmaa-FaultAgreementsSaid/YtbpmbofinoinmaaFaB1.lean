import Derived.Test.YtbpmbofinoinmaaFaA7
import Derived.Test.YtbpmbofinoinmaaFaN4
namespace Go.Proofs.Ytbpmbofinoinmaa
open Go.Av Go.Proofs

/-! The document's sets: union, same. -/

def boolsR (n : Nat) (s : Nat → Bool) : List (List AV) := row1 n fun k => .sc (.bool (s k))
def boolsV (n : Nat) (s : Nat → Bool) : AV := .list 1 (boolsR n s)
theorem boolsR_len (n : Nat) (s : Nat → Bool) : (boolsR n s).length = n := row1_len _ _
theorem boolsR_get {n k : Nat} {s : Nat → Bool} (h : k < n) : (boolsR n s)[k]? = some [.sc (.bool (s k))] := row1_get h
theorem boolsR_ix {n k : Nat} {s : Nat → Bool} (h : k < n) : rowIx (boolsR n s) (k : Int) = some [.sc (.bool (s k))] := (rowIx_nat _ _).trans (row1_get h)
theorem pure_boolsR (n : Nat) (s : Nat → Bool) : ∀ r ∈ boolsR n s, ∀ c ∈ r, Pure c := by
  intro r hr c hc
  obtain ⟨k, _, rfl⟩ := List.mem_map.1 hr
  rw [List.mem_singleton.1 hc]
  exact .sc _
theorem pure_boolsV (n : Nat) (s : Nat → Bool) : Pure (boolsV n s) := .list _ _ (pure_boolsR n s)
theorem boolsR_set {n : Nat} {s : Nat → Bool} {k : Nat} {b : Bool} : (boolsR n s).set k [.sc (.bool b)] = boolsR n fun j => if j = k then b else s j := by
  unfold boolsR
  rw [row1_set]
  congr 1
  funext j
  show (if j = k then AV.sc (.bool b) else .sc (.bool (s j))) = .sc (.bool (if j = k then b else s j))
  split <;> rfl
theorem boolsR_congr {n : Nat} {s t : Nat → Bool} (h : ∀ k, k < n → s k = t k) : boolsR n s = boolsR n t := by
  unfold boolsR row1
  exact List.map_congr_left fun k hk => by show [AV.sc (.bool (s k))] = [AV.sc (.bool (t k))]; rw [h k (List.mem_range.1 hk)]
theorem boolsR_rep (n : Nat) : List.replicate n [AV.sc (.bool false)] = boolsR n fun _ => false := row1_rep n _

theorem union_ok (n : Nat) (hn : n ≤ 1000) (a b : Nat → Bool) : CallOK Try.prog 72 [boolsV n a, boolsV n b] [] (fun res _ => res = boolsV n (orS a b)) := by
  have e0 := boolsR_len n a
  refine CallOK.of cF72 ?_ (by simp [F72])
  repeat (first | refine Reg.o rfl rfl ?_ | refine Reg.on rfl rfl ?_ | refine Reg.s rfl ?_ | refine Reg.sn rfl ?_ | refine Reg.nil ?_ | refine DK.o rfl rfl ?_ | refine DK.on rfl rfl ?_ | refine DK.s rfl ?_ | refine DK.sn rfl ?_ | refine AWP.seq ?_ | refine AWP.region ?_ | refine AWP.dk mixed ?_ | refine AWP.condT rfl ?_ | refine AWP.condF rfl ?_ | refine AWP.skip ?_ | refine AWP.ret ?_ | refine AWP.exit ?_ | refine AWP.block ?_ )
  rw [e0]
  refine Reg.o rfl (dstep_mk (n := n) rfl (by omega) (by omega)) ?_
  repeat (first | refine Reg.o rfl rfl ?_ | refine Reg.on rfl rfl ?_ | refine Reg.s rfl ?_ | refine Reg.sn rfl ?_ | refine Reg.nil ?_ | refine DK.o rfl rfl ?_ | refine DK.on rfl rfl ?_ | refine DK.s rfl ?_ | refine DK.sn rfl ?_ | refine AWP.seq ?_ | refine AWP.region ?_ | refine AWP.dk mixed ?_ | refine AWP.condT rfl ?_ | refine AWP.condF rfl ?_ | refine AWP.skip ?_ | refine AWP.ret ?_ | refine AWP.exit ?_ | refine AWP.block ?_ )
  refine AWP.loop (fun k : Nat => [(0, boolsV n a), (1, boolsV n b), (5, .hsl 0 0 0 n), (6, .sc (.int .i64 k))]) (fun k => [[.cells 1 (boolsR n fun j => decide (j < k) && orS a b j)]]) (fun k => k ≤ n) (fun k => n - k) 0 (Nat.zero_le _) ?_ ?_
  · refine Sub.re [[(0, 0)]] rfl rfl rfl ⟨⟨⟨_, rfl, RenB.rows (rows := List.replicate n [.sc (.bool false)]) ?_ (pure_boolsR n _)⟩, trivial⟩, trivial⟩ ⟨.pure (pure_boolsV n a), .pure (pure_boolsV n b), .hsl _ _ _ _ _ _ rfl, .int rfl, trivial⟩
    rw [boolsR_rep]
    exact boolsR_congr fun k _ => by simp
  intro k hk
  have hk1 : IntKind.i64.wrap ((k : Int) + 1) = ((k + 1 : Nat) : Int) := by rw [wrap_small (by omega) (by omega)]; omega
  repeat (first | refine Reg.o rfl rfl ?_ | refine Reg.on rfl rfl ?_ | refine Reg.s rfl ?_ | refine Reg.sn rfl ?_ | refine Reg.nil ?_ | refine DK.o rfl rfl ?_ | refine DK.on rfl rfl ?_ | refine DK.s rfl ?_ | refine DK.sn rfl ?_ | refine AWP.seq ?_ | refine AWP.region ?_ | refine AWP.dk mixed ?_ | refine AWP.condT rfl ?_ | refine AWP.condF rfl ?_ | refine AWP.skip ?_ | refine AWP.ret ?_ | refine AWP.exit ?_ | refine AWP.block ?_ )
  rw [e0]
  refine AWP.cond rfl (fun h => ?_) (fun h => ?_)
  · have hkn : k < n := by simpa using h
    have key : ∀ v : Bool, v = orS a b k → (boolsR n fun j => decide (j < k) && orS a b j).set (0 + k) [AV.sc (.bool v)] = boolsR n fun j => decide (j < k + 1) && orS a b j := by
      intro v hv
      rw [Nat.zero_add, boolsR_set]
      refine boolsR_congr fun j _ => ?_
      by_cases e : j = k
      · subst e; simp [hv]
      · have : (j < k + 1) ↔ (j < k) := by omega
        simp [e, this]
    repeat (first | refine Reg.o rfl rfl ?_ | refine Reg.on rfl rfl ?_ | refine Reg.s rfl ?_ | refine Reg.sn rfl ?_ | refine Reg.nil ?_ | refine DK.o rfl rfl ?_ | refine DK.on rfl rfl ?_ | refine DK.s rfl ?_ | refine DK.sn rfl ?_ | refine AWP.seq ?_ | refine AWP.region ?_ | refine AWP.dk mixed ?_ | refine AWP.condT rfl ?_ | refine AWP.condF rfl ?_ | refine AWP.skip ?_ | refine AWP.ret ?_ | refine AWP.exit ?_ | refine AWP.block ?_ )
    refine Reg.o rfl (dstep_idxSl rfl rfl (boolsR_ix hkn)) ?_
    repeat (first | refine Reg.o rfl rfl ?_ | refine Reg.on rfl rfl ?_ | refine Reg.s rfl ?_ | refine Reg.sn rfl ?_ | refine Reg.nil ?_ | refine DK.o rfl rfl ?_ | refine DK.on rfl rfl ?_ | refine DK.s rfl ?_ | refine DK.sn rfl ?_ | refine AWP.seq ?_ | refine AWP.region ?_ | refine AWP.dk mixed ?_ | refine AWP.condT rfl ?_ | refine AWP.condF rfl ?_ | refine AWP.skip ?_ | refine AWP.ret ?_ | refine AWP.exit ?_ | refine AWP.block ?_ )
    refine Reg.gs rfl (fun g => ?_) (fun g => ?_)
    · repeat (first | refine Reg.o rfl rfl ?_ | refine Reg.on rfl rfl ?_ | refine Reg.s rfl ?_ | refine Reg.sn rfl ?_ | refine Reg.nil ?_ | refine DK.o rfl rfl ?_ | refine DK.on rfl rfl ?_ | refine DK.s rfl ?_ | refine DK.sn rfl ?_ | refine AWP.seq ?_ | refine AWP.region ?_ | refine AWP.dk mixed ?_ | refine AWP.condT rfl ?_ | refine AWP.condF rfl ?_ | refine AWP.skip ?_ | refine AWP.ret ?_ | refine AWP.exit ?_ | refine AWP.block ?_ )
      refine Reg.o rfl (dstep_idxH (q := k) rfl rfl rfl hkn (by simp [boolsR_len])) ?_
      refine Reg.on rfl (dstep_stN rfl rfl rfl (by rw [Nat.zero_add]; exact boolsR_get hkn) rfl (Nat.le_refl _) rfl) ?_
      repeat (first | refine Reg.o rfl rfl ?_ | refine Reg.on rfl rfl ?_ | refine Reg.s rfl ?_ | refine Reg.sn rfl ?_ | refine Reg.nil ?_ | refine DK.o rfl rfl ?_ | refine DK.on rfl rfl ?_ | refine DK.s rfl ?_ | refine DK.sn rfl ?_ | refine AWP.seq ?_ | refine AWP.region ?_ | refine AWP.dk mixed ?_ | refine AWP.condT rfl ?_ | refine AWP.condF rfl ?_ | refine AWP.skip ?_ | refine AWP.ret ?_ | refine AWP.exit ?_ | refine AWP.block ?_ )
      exact ⟨k + 1, by omega, by omega, Sub.re [[(0, 0)]] rfl rfl rfl ⟨⟨⟨_, rfl, RenB.rows (rows := (boolsR n fun j => decide (j < k) && orS a b j).set (0 + k) [.sc (.bool true)]) (key true (by unfold orS; rw [g]; rfl)) (pure_boolsR n _)⟩, trivial⟩, trivial⟩ ⟨.pure (pure_boolsV n a), .pure (pure_boolsV n b), .hsl _ _ _ _ _ _ rfl, .int hk1, trivial⟩⟩
    · repeat (first | refine Reg.o rfl rfl ?_ | refine Reg.on rfl rfl ?_ | refine Reg.s rfl ?_ | refine Reg.sn rfl ?_ | refine Reg.nil ?_ | refine DK.o rfl rfl ?_ | refine DK.on rfl rfl ?_ | refine DK.s rfl ?_ | refine DK.sn rfl ?_ | refine AWP.seq ?_ | refine AWP.region ?_ | refine AWP.dk mixed ?_ | refine AWP.condT rfl ?_ | refine AWP.condF rfl ?_ | refine AWP.skip ?_ | refine AWP.ret ?_ | refine AWP.exit ?_ | refine AWP.block ?_ )
      refine Reg.o rfl (dstep_idxSl rfl rfl (boolsR_ix hkn)) ?_
      repeat (first | refine Reg.o rfl rfl ?_ | refine Reg.on rfl rfl ?_ | refine Reg.s rfl ?_ | refine Reg.sn rfl ?_ | refine Reg.nil ?_ | refine DK.o rfl rfl ?_ | refine DK.on rfl rfl ?_ | refine DK.s rfl ?_ | refine DK.sn rfl ?_ | refine AWP.seq ?_ | refine AWP.region ?_ | refine AWP.dk mixed ?_ | refine AWP.condT rfl ?_ | refine AWP.condF rfl ?_ | refine AWP.skip ?_ | refine AWP.ret ?_ | refine AWP.exit ?_ | refine AWP.block ?_ )
      refine Reg.o rfl (dstep_idxH (q := k) rfl rfl rfl hkn (by simp [boolsR_len])) ?_
      refine Reg.on rfl (dstep_stN rfl rfl rfl (by rw [Nat.zero_add]; exact boolsR_get hkn) rfl (Nat.le_refl _) rfl) ?_
      repeat (first | refine Reg.o rfl rfl ?_ | refine Reg.on rfl rfl ?_ | refine Reg.s rfl ?_ | refine Reg.sn rfl ?_ | refine Reg.nil ?_ | refine DK.o rfl rfl ?_ | refine DK.on rfl rfl ?_ | refine DK.s rfl ?_ | refine DK.sn rfl ?_ | refine AWP.seq ?_ | refine AWP.region ?_ | refine AWP.dk mixed ?_ | refine AWP.condT rfl ?_ | refine AWP.condF rfl ?_ | refine AWP.skip ?_ | refine AWP.ret ?_ | refine AWP.exit ?_ | refine AWP.block ?_ )
      exact ⟨k + 1, by omega, by omega, Sub.re [[(0, 0)]] rfl rfl rfl ⟨⟨⟨_, rfl, RenB.rows (rows := (boolsR n fun j => decide (j < k) && orS a b j).set (0 + k) [.sc (.bool (b k))]) (key (b k) (by unfold orS; rw [g]; rfl)) (pure_boolsR n _)⟩, trivial⟩, trivial⟩ ⟨.pure (pure_boolsV n a), .pure (pure_boolsV n b), .hsl _ _ _ _ _ _ rfl, .int hk1, trivial⟩⟩
  · have hkn : k = n := by
      have : ¬ k < n := by simpa using h
      omega
    repeat (first | refine Reg.o rfl rfl ?_ | refine Reg.on rfl rfl ?_ | refine Reg.s rfl ?_ | refine Reg.sn rfl ?_ | refine Reg.nil ?_ | refine DK.o rfl rfl ?_ | refine DK.on rfl rfl ?_ | refine DK.s rfl ?_ | refine DK.sn rfl ?_ | refine AWP.seq ?_ | refine AWP.region ?_ | refine AWP.dk mixed ?_ | refine AWP.condT rfl ?_ | refine AWP.condF rfl ?_ | refine AWP.skip ?_ | refine AWP.ret ?_ | refine AWP.exit ?_ | refine AWP.block ?_ )
    refine fin_frz (R := fun res' _ => res' = boolsV n (orS a b)) (.inr rfl) (res := .hsl 0 0 0 n) (res' := boolsV n (orS a b)) rfl ?_ (pure_boolsV n _) rfl
    have e : boolsR n (orS a b) = boolsR n fun j => decide (j < k) && orS a b j := boolsR_congr fun j hj => by
      have : j < k := by omega
      simp [this]
    unfold boolsV
    rw [e]
    exact FzA.all rfl (boolsR_len _ _)

def sameN (n : Nat) (a b : Nat → Bool) : Bool := (List.range n).all fun k => a k == b k
theorem sameN_succ (n : Nat) (a b : Nat → Bool) : sameN (n + 1) a b = (sameN n a b && (a n == b n)) := by
  unfold sameN; rw [List.range_succ, List.all_append]; simp
theorem sameN_no {n k : Nat} {a b : Nat → Bool} (hk : k < n) (h : a k ≠ b k) : sameN n a b = false := by
  unfold sameN
  rw [List.all_eq_false]
  exact ⟨k, List.mem_range.2 hk, by simpa using h⟩

theorem same_ok (n : Nat) (hn : n ≤ 1000) (a b : Nat → Bool) : CallOK Try.prog 73 [boolsV n a, boolsV n b] [] (fun res _ => res = .sc (.bool (sameN n a b))) := by
  have e0 := boolsR_len n a
  refine CallOK.of cF73 ?_ (by simp [F73])
  repeat (first | refine Reg.o rfl rfl ?_ | refine Reg.on rfl rfl ?_ | refine Reg.s rfl ?_ | refine Reg.sn rfl ?_ | refine Reg.nil ?_ | refine DK.o rfl rfl ?_ | refine DK.on rfl rfl ?_ | refine DK.s rfl ?_ | refine DK.sn rfl ?_ | refine AWP.seq ?_ | refine AWP.region ?_ | refine AWP.dk mixed ?_ | refine AWP.condT rfl ?_ | refine AWP.condF rfl ?_ | refine AWP.skip ?_ | refine AWP.ret ?_ | refine AWP.exit ?_ | refine AWP.block ?_ )
  refine AWP.loop (fun k : Nat => [(0, boolsV n a), (1, boolsV n b), (5, .sc (.int .i64 k))]) (fun _ => []) (fun k => k ≤ n ∧ sameN k a b = true) (fun k => n - k) 0 ⟨Nat.zero_le _, rfl⟩ (Sub.none ⟨.pure (pure_boolsV n a), .pure (pure_boolsV n b), .int rfl, trivial⟩) ?_
  rintro k ⟨hk, hs⟩
  have hk1 : IntKind.i64.wrap ((k : Int) + 1) = ((k + 1 : Nat) : Int) := by rw [wrap_small (by omega) (by omega)]; omega
  repeat (first | refine Reg.o rfl rfl ?_ | refine Reg.on rfl rfl ?_ | refine Reg.s rfl ?_ | refine Reg.sn rfl ?_ | refine Reg.nil ?_ | refine DK.o rfl rfl ?_ | refine DK.on rfl rfl ?_ | refine DK.s rfl ?_ | refine DK.sn rfl ?_ | refine AWP.seq ?_ | refine AWP.region ?_ | refine AWP.dk mixed ?_ | refine AWP.condT rfl ?_ | refine AWP.condF rfl ?_ | refine AWP.skip ?_ | refine AWP.ret ?_ | refine AWP.exit ?_ | refine AWP.block ?_ )
  rw [e0]
  refine AWP.cond rfl (fun h => ?_) (fun h => ?_)
  · have hkn : k < n := by simpa using h
    have hss := sameN_succ k a b
    repeat (first | refine Reg.o rfl rfl ?_ | refine Reg.on rfl rfl ?_ | refine Reg.s rfl ?_ | refine Reg.sn rfl ?_ | refine Reg.nil ?_ | refine DK.o rfl rfl ?_ | refine DK.on rfl rfl ?_ | refine DK.s rfl ?_ | refine DK.sn rfl ?_ | refine AWP.seq ?_ | refine AWP.region ?_ | refine AWP.dk mixed ?_ | refine AWP.condT rfl ?_ | refine AWP.condF rfl ?_ | refine AWP.skip ?_ | refine AWP.ret ?_ | refine AWP.exit ?_ | refine AWP.block ?_ )
    refine DK.o rfl (dstep_idxSl rfl rfl (boolsR_ix hkn)) ?_
    repeat (first | refine Reg.o rfl rfl ?_ | refine Reg.on rfl rfl ?_ | refine Reg.s rfl ?_ | refine Reg.sn rfl ?_ | refine Reg.nil ?_ | refine DK.o rfl rfl ?_ | refine DK.on rfl rfl ?_ | refine DK.s rfl ?_ | refine DK.sn rfl ?_ | refine AWP.seq ?_ | refine AWP.region ?_ | refine AWP.dk mixed ?_ | refine AWP.condT rfl ?_ | refine AWP.condF rfl ?_ | refine AWP.skip ?_ | refine AWP.ret ?_ | refine AWP.exit ?_ | refine AWP.block ?_ )
    refine DK.o rfl (dstep_idxSl rfl rfl (boolsR_ix hkn)) ?_
    repeat (first | refine Reg.o rfl rfl ?_ | refine Reg.on rfl rfl ?_ | refine Reg.s rfl ?_ | refine Reg.sn rfl ?_ | refine Reg.nil ?_ | refine DK.o rfl rfl ?_ | refine DK.on rfl rfl ?_ | refine DK.s rfl ?_ | refine DK.sn rfl ?_ | refine AWP.seq ?_ | refine AWP.region ?_ | refine AWP.dk mixed ?_ | refine AWP.condT rfl ?_ | refine AWP.condF rfl ?_ | refine AWP.skip ?_ | refine AWP.ret ?_ | refine AWP.exit ?_ | refine AWP.block ?_ )
    refine DK.nil ⟨by kernel_rfl, ?_⟩
    refine AWP.cond rfl (fun g => ?_) (fun g => ?_)
    · have hne : a k ≠ b k := by simpa using g
      repeat (first | refine Reg.o rfl rfl ?_ | refine Reg.on rfl rfl ?_ | refine Reg.s rfl ?_ | refine Reg.sn rfl ?_ | refine Reg.nil ?_ | refine DK.o rfl rfl ?_ | refine DK.on rfl rfl ?_ | refine DK.s rfl ?_ | refine DK.sn rfl ?_ | refine AWP.seq ?_ | refine AWP.region ?_ | refine AWP.dk mixed ?_ | refine AWP.condT rfl ?_ | refine AWP.condF rfl ?_ | refine AWP.skip ?_ | refine AWP.ret ?_ | refine AWP.exit ?_ | refine AWP.block ?_ )
      exact fin_pure (.inr rfl) rfl (.sc _) (by rw [sameN_no hkn hne])
    · have he : a k = b k := by simpa using g
      repeat (first | refine Reg.o rfl rfl ?_ | refine Reg.on rfl rfl ?_ | refine Reg.s rfl ?_ | refine Reg.sn rfl ?_ | refine Reg.nil ?_ | refine DK.o rfl rfl ?_ | refine DK.on rfl rfl ?_ | refine DK.s rfl ?_ | refine DK.sn rfl ?_ | refine AWP.seq ?_ | refine AWP.region ?_ | refine AWP.dk mixed ?_ | refine AWP.condT rfl ?_ | refine AWP.condF rfl ?_ | refine AWP.skip ?_ | refine AWP.ret ?_ | refine AWP.exit ?_ | refine AWP.block ?_ )
      exact ⟨k + 1, ⟨by omega, by rw [hss, hs, he]; simp⟩, by omega, Sub.none ⟨.pure (pure_boolsV n a), .pure (pure_boolsV n b), .int hk1, trivial⟩⟩
  · have hkn : k = n := by
      have : ¬ k < n := by simpa using h
      omega
    repeat (first | refine Reg.o rfl rfl ?_ | refine Reg.on rfl rfl ?_ | refine Reg.s rfl ?_ | refine Reg.sn rfl ?_ | refine Reg.nil ?_ | refine DK.o rfl rfl ?_ | refine DK.on rfl rfl ?_ | refine DK.s rfl ?_ | refine DK.sn rfl ?_ | refine AWP.seq ?_ | refine AWP.region ?_ | refine AWP.dk mixed ?_ | refine AWP.condT rfl ?_ | refine AWP.condF rfl ?_ | refine AWP.skip ?_ | refine AWP.ret ?_ | refine AWP.exit ?_ | refine AWP.block ?_ )
    exact fin_pure (.inr rfl) rfl (.sc _) (by rw [← hkn, hs])

end Go.Proofs.Ytbpmbofinoinmaa
