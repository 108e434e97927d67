import Derived.Test.YtbpmbofinoinmaaFaN6
namespace Go.Proofs.Ytbpmbofinoinmaa
open Go.Av Go.Proofs

/-! Which processes have a crash. -/

def goneB (l : List C) (k : Nat) : Bool := (findC l k).isSome
def goneR (n : Nat) (l : List C) : List (List AV) := row1 n fun k => .sc (.bool (goneB l k))
def firstN (l : List C) : Nat := (l.filter fun c => decide (c.round = 0)).length
def crashedV (n : Nat) (l : List C) : AV := .tup [.list 1 (goneR n l), .sc (.int .i64 (firstN l))]

theorem pure_row1 {n : Nat} {f : Nat → AV} (h : ∀ k, Pure (f k)) : ∀ r ∈ row1 n f, ∀ c ∈ r, Pure c := by
  intro r hr c hc
  obtain ⟨k, _, rfl⟩ := List.mem_map.1 hr
  rw [List.mem_singleton.1 hc]
  exact h k
theorem pure_goneR (n : Nat) (l : List C) : ∀ r ∈ goneR n l, ∀ c ∈ r, Pure c := pure_row1 fun _ => .sc _
theorem pure_crashed (n : Nat) (l : List C) : Pure (crashedV n l) := .tup _ (allPure_cons (.list _ _ (pure_goneR n l)) (allPure_cons (.sc _) allPure_nil))

theorem goneB_succ {l : List C} {k : Nat} (hk : k < l.length) (j : Nat) (h0 : 0 ≤ l[k].rank) : goneB (l.take (k + 1)) j = if j = l[k].rank.toNat then true else goneB (l.take k) j := by
  unfold goneB findC
  rw [List.take_succ_eq_append_getElem hk, List.find?_append]
  by_cases e : j = l[k].rank.toNat
  · rw [if_pos e]
    have : decide ((j : Int) = l[k].rank) = true := by simp; omega
    cases List.find? (fun c => decide ((j : Int) = c.rank)) (l.take k) with
    | some c => rfl
    | none => simp [this]
  · rw [if_neg e]
    have : decide ((j : Int) = l[k].rank) = false := by simp; omega
    cases List.find? (fun c => decide ((j : Int) = c.rank)) (l.take k) with
    | some c => rfl
    | none => simp [this]

theorem firstN_succ {l : List C} {k : Nat} (hk : k < l.length) : firstN (l.take (k + 1)) = firstN (l.take k) + if l[k].round = 0 then 1 else 0 := by
  unfold firstN
  rw [List.take_succ_eq_append_getElem hk, List.filter_append, List.length_append]
  by_cases e : l[k].round = 0 <;> simp [e]

theorem firstN_le (l : List C) : firstN l ≤ l.length := List.length_filter_le _ _

theorem crashed_ok (n : Nat) (l : List C) (hn : n ≤ 1000) (hl : l.length ≤ 4000000) (hg : ∀ c ∈ l, 0 ≤ c.rank ∧ c.rank < n) : CallOK Try.prog 22 [.sc (.int .i64 n), crV l] [] (fun res _ => res = crashedV n l) := by
  refine CallOK.of cF22 ?_ (by simp [F22])
  repeat (first | refine Reg.o rfl rfl ?_ | refine Reg.on rfl rfl ?_ | refine Reg.s rfl ?_ | refine Reg.sn rfl ?_ | refine Reg.nil ?_ | refine DK.o rfl rfl ?_ | refine DK.on rfl rfl ?_ | refine DK.s rfl ?_ | refine DK.sn rfl ?_ | refine AWP.seq ?_ | refine AWP.region ?_ | refine AWP.dk mixed ?_ | refine AWP.condT rfl ?_ | refine AWP.condF rfl ?_ | refine AWP.skip ?_ | refine AWP.ret ?_ | refine AWP.exit ?_ | refine AWP.block ?_ )
  refine Reg.o rfl (dstep_mk (n := n) rfl (by omega) (by omega)) ?_
  repeat (first | refine Reg.o rfl rfl ?_ | refine Reg.on rfl rfl ?_ | refine Reg.s rfl ?_ | refine Reg.sn rfl ?_ | refine Reg.nil ?_ | refine DK.o rfl rfl ?_ | refine DK.on rfl rfl ?_ | refine DK.s rfl ?_ | refine DK.sn rfl ?_ | refine AWP.seq ?_ | refine AWP.region ?_ | refine AWP.dk mixed ?_ | refine AWP.condT rfl ?_ | refine AWP.condF rfl ?_ | refine AWP.skip ?_ | refine AWP.ret ?_ | refine AWP.exit ?_ | refine AWP.block ?_ )
  refine AWP.loop (fun k : Nat => [(1, crV l), (6, .hsl 0 0 0 n), (7, .sc (.int .i64 (firstN (l.take k)))), (8, .sc (.int .i64 k))]) (fun k => [[.cells 1 (goneR n (l.take k))]]) (fun k => k ≤ l.length) (fun k => l.length - k) 0 (Nat.zero_le _) ?_ ?_
  · refine Sub.re [[(0, 0)]] rfl rfl rfl ⟨⟨⟨_, rfl, RenB.rows (rows := List.replicate n [.sc (.bool false)]) ?_ (pure_goneR n _)⟩, trivial⟩, trivial⟩ ⟨.pure (pure_cr l), .hsl _ _ _ _ _ _ rfl, .int rfl, .int rfl, trivial⟩
    rw [row1_rep]
    rfl
  intro k hk
  have hk1 := wrapN (k := k) (by omega)
  repeat (first | refine Reg.o rfl rfl ?_ | refine Reg.on rfl rfl ?_ | refine Reg.s rfl ?_ | refine Reg.sn rfl ?_ | refine Reg.nil ?_ | refine DK.o rfl rfl ?_ | refine DK.on rfl rfl ?_ | refine DK.s rfl ?_ | refine DK.sn rfl ?_ | refine AWP.seq ?_ | refine AWP.region ?_ | refine AWP.dk mixed ?_ | refine AWP.condT rfl ?_ | refine AWP.condF rfl ?_ | refine AWP.skip ?_ | refine AWP.ret ?_ | refine AWP.exit ?_ | refine AWP.block ?_ )
  refine AWP.cond rfl (fun h => ?_) (fun h => ?_)
  · have hlt : k < l.length := by simpa using h
    have hrow0 : rowIx (l.map crow) (k : Int) = some (crow l[k]) := rowIx_map crow l k hlt
    have hgk := hg l[k] (List.getElem_mem hlt)
    have hs1 := fun j => goneB_succ hlt j hgk.1
    have hs2 := firstN_succ hlt
    have hfl := firstN_le (l.take k)
    have hfl2 : (l.take k).length ≤ k := by simp; omega
    generalize l[k] = c at hrow0 hgk hs1 hs2
    have hrk : c.rank.toNat < n := by omega
    repeat (first | refine Reg.o rfl rfl ?_ | refine Reg.on rfl rfl ?_ | refine Reg.s rfl ?_ | refine Reg.sn rfl ?_ | refine Reg.nil ?_ | refine DK.o rfl rfl ?_ | refine DK.on rfl rfl ?_ | refine DK.s rfl ?_ | refine DK.sn rfl ?_ | refine AWP.seq ?_ | refine AWP.region ?_ | refine AWP.dk mixed ?_ | refine AWP.condT rfl ?_ | refine AWP.condF rfl ?_ | refine AWP.skip ?_ | refine AWP.ret ?_ | refine AWP.exit ?_ | refine AWP.block ?_ )
    refine Reg.o rfl (dstep_idxSl rfl rfl hrow0) ?_
    repeat (first | refine Reg.o rfl rfl ?_ | refine Reg.on rfl rfl ?_ | refine Reg.s rfl ?_ | refine Reg.sn rfl ?_ | refine Reg.nil ?_ | refine DK.o rfl rfl ?_ | refine DK.on rfl rfl ?_ | refine DK.s rfl ?_ | refine DK.sn rfl ?_ | refine AWP.seq ?_ | refine AWP.region ?_ | refine AWP.dk mixed ?_ | refine AWP.condT rfl ?_ | refine AWP.condF rfl ?_ | refine AWP.skip ?_ | refine AWP.ret ?_ | refine AWP.exit ?_ | refine AWP.block ?_ )
    have e0 : AV.sc (.int .i64 c.rank) = AV.sc (.int .i64 (c.rank.toNat : Int)) := by rw [Int.toNat_of_nonneg hgk.1]
    refine Reg.o rfl (dstep_idxH (q := c.rank.toNat) rfl e0 rfl hrk (by simp [goneR, row1_len])) ?_
    refine Reg.on rfl (dstep_stN rfl rfl rfl (by rw [Nat.zero_add]; exact row1_get hrk) rfl (Nat.le_refl _) rfl) ?_
    repeat (first | refine Reg.o rfl rfl ?_ | refine Reg.on rfl rfl ?_ | refine Reg.s rfl ?_ | refine Reg.sn rfl ?_ | refine Reg.nil ?_ | refine DK.o rfl rfl ?_ | refine DK.on rfl rfl ?_ | refine DK.s rfl ?_ | refine DK.sn rfl ?_ | refine AWP.seq ?_ | refine AWP.region ?_ | refine AWP.dk mixed ?_ | refine AWP.condT rfl ?_ | refine AWP.condF rfl ?_ | refine AWP.skip ?_ | refine AWP.ret ?_ | refine AWP.exit ?_ | refine AWP.block ?_ )
    refine Reg.o rfl (dstep_idxSl rfl rfl hrow0) ?_
    repeat (first | refine Reg.o rfl rfl ?_ | refine Reg.on rfl rfl ?_ | refine Reg.s rfl ?_ | refine Reg.sn rfl ?_ | refine Reg.nil ?_ | refine DK.o rfl rfl ?_ | refine DK.on rfl rfl ?_ | refine DK.s rfl ?_ | refine DK.sn rfl ?_ | refine AWP.seq ?_ | refine AWP.region ?_ | refine AWP.dk mixed ?_ | refine AWP.condT rfl ?_ | refine AWP.condF rfl ?_ | refine AWP.skip ?_ | refine AWP.ret ?_ | refine AWP.exit ?_ | refine AWP.block ?_ )
    have hset' : ((goneR n (l.take k)).set (0 + c.rank.toNat) [AV.sc (.bool true)]) = goneR n (l.take (k + 1)) := by
      unfold goneR
      rw [Nat.zero_add, row1_set]
      congr 1
      funext j
      rw [hs1 j]
      split <;> rfl
    refine AWP.cond rfl (fun h0 => ?_) (fun h0 => ?_)
    · have h0' : c.round = 0 := by simpa using h0
      rw [if_pos h0'] at hs2
      have hw : IntKind.i64.wrap ((firstN (l.take k) : Int) + 1) = ((firstN (l.take (k + 1)) : Nat) : Int) := by rw [hs2, wrap_small (by omega) (by omega)]; omega
      repeat (first | refine Reg.o rfl rfl ?_ | refine Reg.on rfl rfl ?_ | refine Reg.s rfl ?_ | refine Reg.sn rfl ?_ | refine Reg.nil ?_ | refine DK.o rfl rfl ?_ | refine DK.on rfl rfl ?_ | refine DK.s rfl ?_ | refine DK.sn rfl ?_ | refine AWP.seq ?_ | refine AWP.region ?_ | refine AWP.dk mixed ?_ | refine AWP.condT rfl ?_ | refine AWP.condF rfl ?_ | refine AWP.skip ?_ | refine AWP.ret ?_ | refine AWP.exit ?_ | refine AWP.block ?_ )
      exact ⟨k + 1, by omega, by omega, Sub.re [[(0, 0)]] rfl rfl rfl ⟨⟨⟨_, rfl, RenB.rows (rows := (goneR n (l.take k)).set (0 + c.rank.toNat) [.sc (.bool true)]) hset' (pure_goneR n _)⟩, trivial⟩, trivial⟩ ⟨.pure (pure_cr l), .hsl _ _ _ _ _ _ rfl, .int hw, .int hk1, trivial⟩⟩
    · have h0' : ¬ c.round = 0 := by simpa using h0
      rw [if_neg h0'] at hs2
      repeat (first | refine Reg.o rfl rfl ?_ | refine Reg.on rfl rfl ?_ | refine Reg.s rfl ?_ | refine Reg.sn rfl ?_ | refine Reg.nil ?_ | refine DK.o rfl rfl ?_ | refine DK.on rfl rfl ?_ | refine DK.s rfl ?_ | refine DK.sn rfl ?_ | refine AWP.seq ?_ | refine AWP.region ?_ | refine AWP.dk mixed ?_ | refine AWP.condT rfl ?_ | refine AWP.condF rfl ?_ | refine AWP.skip ?_ | refine AWP.ret ?_ | refine AWP.exit ?_ | refine AWP.block ?_ )
      exact ⟨k + 1, by omega, by omega, Sub.re [[(0, 0)]] rfl rfl rfl ⟨⟨⟨_, rfl, RenB.rows (rows := (goneR n (l.take k)).set (0 + c.rank.toNat) [.sc (.bool true)]) hset' (pure_goneR n _)⟩, trivial⟩, trivial⟩ ⟨.pure (pure_cr l), .hsl _ _ _ _ _ _ rfl, .int (by rw [hs2]; rfl), .int hk1, trivial⟩⟩
  · have hkl : k = l.length := by
      have : ¬ k < l.length := by simpa using h
      omega
    repeat (first | refine Reg.o rfl rfl ?_ | refine Reg.on rfl rfl ?_ | refine Reg.s rfl ?_ | refine Reg.sn rfl ?_ | refine Reg.nil ?_ | refine DK.o rfl rfl ?_ | refine DK.on rfl rfl ?_ | refine DK.s rfl ?_ | refine DK.sn rfl ?_ | refine AWP.seq ?_ | refine AWP.region ?_ | refine AWP.dk mixed ?_ | refine AWP.condT rfl ?_ | refine AWP.condF rfl ?_ | refine AWP.skip ?_ | refine AWP.ret ?_ | refine AWP.exit ?_ | refine AWP.block ?_ )
    have e : l.take k = l := by rw [hkl, List.take_of_length_le (Nat.le_refl _)]
    refine fin_frz (R := fun res' _ => res' = crashedV n l) (.inr rfl) (res := .tup [.hsl 0 0 0 n, .sc (.int .i64 (firstN (l.take k)))]) (res' := crashedV n l) rfl ?_ (pure_crashed n l) rfl
    rw [e]
    exact Cong.tupL (l := [.hsl 0 0 0 n, .sc (.int .i64 (firstN l))]) (m := [.list 1 (goneR n l), .sc (.int .i64 (firstN l))]) ⟨FzA.all rfl (by simp [goneR, row1_len]), .refl _, trivial⟩

end Go.Proofs.Ytbpmbofinoinmaa
