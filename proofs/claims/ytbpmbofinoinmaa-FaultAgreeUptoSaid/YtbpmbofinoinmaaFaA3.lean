import Derived.Test.YtbpmbofinoinmaaFaA2
namespace Go.Proofs.Ytbpmbofinoinmaa
open Go.Av Go.Proofs

/-! What a process sends, and takes; a round. -/

theorem lo_procs (ps : List Pr) : LoB 3 (procsB ps) := lo_rows (pure_procs ps)
theorem pureB_procs (ps : List Pr) : PureB (procsB ps) := pure_procs ps

theorem lay_cons {cells c : List AV} {off sz : Nat} {v : AV} {rest : List (Nat × Nat × AV)} (hv : v.cs = some c) (hl : c.length = sz) (hb : off + sz ≤ cells.length) : lay cells ((off, sz, v) :: rest) = lay (lsplice cells off c) rest := by
  have e1 : Nat.beq c.length sz = true := by simp [hl]
  have e2 : Nat.ble (off + sz) cells.length = true := by simpa using hb
  simp only [lay, hv, e1, e2, Bool.and_self]
theorem dstep_build {g i : Nat} {fr : Fr} {H : Heap} {z : List (Nat × Value)} {parts : List (Nat × Nat × Operand)} {cs : List AV} (h : lay (zrow z) (parts.map fun p => (p.1, p.2.1, ev fr p.2.2)) = some cs) : dstep g i (.build z parts) fr H = some (.agg cs, H) := by
  simp only [dstep, h]
theorem lay_msg (w : Nat → Bool) (b : Bool) : lay (zrow [(65, .bool false)]) [(0, 64, .agg (bset 64 w)), (64, 1, .sc (.bool b))] = some (msgRow ⟨w, b⟩) := by
  have e0 : zrow [(65, .bool false)] = (bset 64 fun _ => false) ++ [AV.sc (.bool false)] := rfl
  have e1 : lsplice ((bset 64 fun _ => false) ++ [AV.sc (.bool false)]) 0 (bset 64 w) = bset 64 w ++ [AV.sc (.bool false)] := splice_left _ _ _ (by simp [bset_len])
  have e2 : lsplice (bset 64 w ++ [AV.sc (.bool false)]) 64 [AV.sc (.bool b)] = bset 64 w ++ [AV.sc (.bool b)] := by
    have h := splice_right (bset 64 w) [AV.sc (.bool false)] [AV.sc (.bool b)] 0
    rw [bset_len] at h
    exact h
  rw [e0, lay_cons rfl (bset_len _ _) (by simp [bset_len]), e1, lay_cons (c := [AV.sc (.bool b)]) (sz := 1) rfl rfl (by simp [bset_len]), e2]
  rfl

def sendS (p : Pr) : Option (List AV) := if p.done = true then none else some (msgRow ⟨p.w, decide (p.dec > 0)⟩)

theorem sendA_ok (ps : List Pr) (r : Int) (i : Nat) (p : Pr) (hp : ps[i]? = some p) :
    CallOK Try.prog 43 [.sc (.int .i64 i), .ptr 0 0 0 0] [[boxB ps.length], [procsB ps], [oneB (.int .i64 r)]] (fun res H' => H' = [[boxB ps.length], [procsB ps], [oneB (.int .i64 r)]] ∧ res = X42.mP (sendS p)) := by
  have hrow := procs_get hp
  have hil : i < ps.length := (List.getElem?_eq_some_iff.1 hp).1
  have hrow0 : (ps.map prRow)[0 + i]? = some (prRow p) := by rw [Nat.zero_add]; exact hrow
  refine CallOK.of cF43 ?_ (by simp [F43])
  repeat (first | refine Reg.o rfl rfl ?_ | refine Reg.on rfl rfl ?_ | refine Reg.s rfl ?_ | refine Reg.sn rfl ?_ | refine Reg.nil ?_ | refine DK.o rfl rfl ?_ | refine DK.on rfl rfl ?_ | refine DK.s rfl ?_ | refine DK.sn rfl ?_ | refine AWP.seq ?_ | refine AWP.region ?_ | refine AWP.dk mixed ?_ | refine AWP.condT rfl ?_ | refine AWP.condF rfl ?_ | refine AWP.skip ?_ | refine AWP.ret ?_ | refine AWP.exit ?_ | refine AWP.block ?_ )
  refine Reg.o rfl (dstep_idxH (q := i) rfl rfl rfl hil (by simp)) ?_
  repeat (first | refine Reg.o rfl rfl ?_ | refine Reg.on rfl rfl ?_ | refine Reg.s rfl ?_ | refine Reg.sn rfl ?_ | refine Reg.nil ?_ | refine DK.o rfl rfl ?_ | refine DK.on rfl rfl ?_ | refine DK.s rfl ?_ | refine DK.sn rfl ?_ | refine AWP.seq ?_ | refine AWP.region ?_ | refine AWP.dk mixed ?_ | refine AWP.condT rfl ?_ | refine AWP.condF rfl ?_ | refine AWP.skip ?_ | refine AWP.ret ?_ | refine AWP.exit ?_ | refine AWP.block ?_ )
  refine Reg.o rfl (dstep_ld1 rfl rfl hrow0 (by exact pr_f p)) ?_
  repeat (first | refine Reg.o rfl rfl ?_ | refine Reg.on rfl rfl ?_ | refine Reg.s rfl ?_ | refine Reg.sn rfl ?_ | refine Reg.nil ?_ | refine DK.o rfl rfl ?_ | refine DK.on rfl rfl ?_ | refine DK.s rfl ?_ | refine DK.sn rfl ?_ | refine AWP.seq ?_ | refine AWP.region ?_ | refine AWP.dk mixed ?_ | refine AWP.condT rfl ?_ | refine AWP.condF rfl ?_ | refine AWP.skip ?_ | refine AWP.ret ?_ | refine AWP.exit ?_ | refine AWP.block ?_ )
  refine AWP.cond rfl (fun hd => ?_) (fun hd => ?_)
  · have e : sendS p = none := if_pos hd
    repeat (first | refine Reg.o rfl rfl ?_ | refine Reg.on rfl rfl ?_ | refine Reg.s rfl ?_ | refine Reg.sn rfl ?_ | refine Reg.nil ?_ | refine DK.o rfl rfl ?_ | refine DK.on rfl rfl ?_ | refine DK.s rfl ?_ | refine DK.sn rfl ?_ | refine AWP.seq ?_ | refine AWP.region ?_ | refine AWP.dk mixed ?_ | refine AWP.condT rfl ?_ | refine AWP.condF rfl ?_ | refine AWP.skip ?_ | refine AWP.ret ?_ | refine AWP.exit ?_ | refine AWP.block ?_ )
    exact fin3 (.inr rfl) rfl (.sc _) (lo_box _) (lo_procs _) (lo_one _) ⟨rfl, by rw [e]; rfl⟩
  · have e : sendS p = some (msgRow ⟨p.w, decide (p.dec > 0)⟩) := if_neg (by rw [hd]; decide)
    repeat (first | refine Reg.o rfl rfl ?_ | refine Reg.on rfl rfl ?_ | refine Reg.s rfl ?_ | refine Reg.sn rfl ?_ | refine Reg.nil ?_ | refine DK.o rfl rfl ?_ | refine DK.on rfl rfl ?_ | refine DK.s rfl ?_ | refine DK.sn rfl ?_ | refine AWP.seq ?_ | refine AWP.region ?_ | refine AWP.dk mixed ?_ | refine AWP.condT rfl ?_ | refine AWP.condF rfl ?_ | refine AWP.skip ?_ | refine AWP.ret ?_ | refine AWP.exit ?_ | refine AWP.block ?_ )
    refine DK.o rfl (dstep_idxH (q := i) rfl rfl rfl hil (by simp)) ?_
    repeat (first | refine Reg.o rfl rfl ?_ | refine Reg.on rfl rfl ?_ | refine Reg.s rfl ?_ | refine Reg.sn rfl ?_ | refine Reg.nil ?_ | refine DK.o rfl rfl ?_ | refine DK.on rfl rfl ?_ | refine DK.s rfl ?_ | refine DK.sn rfl ?_ | refine AWP.seq ?_ | refine AWP.region ?_ | refine AWP.dk mixed ?_ | refine AWP.condT rfl ?_ | refine AWP.condF rfl ?_ | refine AWP.skip ?_ | refine AWP.ret ?_ | refine AWP.exit ?_ | refine AWP.block ?_ )
    refine DK.o rfl (dstep_ldN rfl rfl hrow0 (by rw [pr_len]; omega) (by exact pr_w p)) ?_
    repeat (first | refine Reg.o rfl rfl ?_ | refine Reg.on rfl rfl ?_ | refine Reg.s rfl ?_ | refine Reg.sn rfl ?_ | refine Reg.nil ?_ | refine DK.o rfl rfl ?_ | refine DK.on rfl rfl ?_ | refine DK.s rfl ?_ | refine DK.sn rfl ?_ | refine AWP.seq ?_ | refine AWP.region ?_ | refine AWP.dk mixed ?_ | refine AWP.condT rfl ?_ | refine AWP.condF rfl ?_ | refine AWP.skip ?_ | refine AWP.ret ?_ | refine AWP.exit ?_ | refine AWP.block ?_ )
    refine DK.o rfl (dstep_idxH (q := i) rfl rfl rfl hil (by simp)) ?_
    repeat (first | refine Reg.o rfl rfl ?_ | refine Reg.on rfl rfl ?_ | refine Reg.s rfl ?_ | refine Reg.sn rfl ?_ | refine Reg.nil ?_ | refine DK.o rfl rfl ?_ | refine DK.on rfl rfl ?_ | refine DK.s rfl ?_ | refine DK.sn rfl ?_ | refine AWP.seq ?_ | refine AWP.region ?_ | refine AWP.dk mixed ?_ | refine AWP.condT rfl ?_ | refine AWP.condF rfl ?_ | refine AWP.skip ?_ | refine AWP.ret ?_ | refine AWP.exit ?_ | refine AWP.block ?_ )
    refine DK.o rfl (dstep_ld1 rfl rfl hrow0 (by exact pr_d p)) ?_
    refine DK.o rfl rfl ?_
    refine DK.o rfl (dstep_build (cs := msgRow ⟨p.w, decide (p.dec > 0)⟩) (lay_msg p.w (decide (p.dec > 0)))) ?_
    refine DK.o rfl (dstep_box (cs := msgRow ⟨p.w, decide (p.dec > 0)⟩) (n := 65) rfl (msg_cell1 _) (msg_len _)) ?_
    repeat (first | refine Reg.o rfl rfl ?_ | refine Reg.on rfl rfl ?_ | refine Reg.s rfl ?_ | refine Reg.sn rfl ?_ | refine Reg.nil ?_ | refine DK.o rfl rfl ?_ | refine DK.on rfl rfl ?_ | refine DK.s rfl ?_ | refine DK.sn rfl ?_ | refine AWP.seq ?_ | refine AWP.region ?_ | refine AWP.dk mixed ?_ | refine AWP.condT rfl ?_ | refine AWP.condF rfl ?_ | refine AWP.skip ?_ | refine AWP.ret ?_ | refine AWP.exit ?_ | refine AWP.block ?_ )
    refine DK.nil ⟨by kernel_rfl, ?_⟩
    repeat (first | refine Reg.o rfl rfl ?_ | refine Reg.on rfl rfl ?_ | refine Reg.s rfl ?_ | refine Reg.sn rfl ?_ | refine Reg.nil ?_ | refine DK.o rfl rfl ?_ | refine DK.on rfl rfl ?_ | refine DK.s rfl ?_ | refine DK.sn rfl ?_ | refine AWP.seq ?_ | refine AWP.region ?_ | refine AWP.dk mixed ?_ | refine AWP.condT rfl ?_ | refine AWP.condF rfl ?_ | refine AWP.skip ?_ | refine AWP.ret ?_ | refine AWP.exit ?_ | refine AWP.block ?_ )
    exact fin3z (.inr rfl) rfl (.base (.ptr 3 12 0 0 65 [msgRow ⟨p.w, decide (p.dec > 0)⟩] (msgRow ⟨p.w, decide (p.dec > 0)⟩) rfl rfl rfl)) (.cptr _ (pure_msgRow _)) (lo_box _) (lo_procs _) (lo_one _) ⟨rfl, by rw [e]; rfl⟩

theorem takeA_ok (ps : List Pr) (r : Int) (i : Nat) (p : Pr) (hp : ps[i]? = some p) (hi : i < 64) (G : List (Nat × Msg)) (hG : ∀ x ∈ G, x.1 < 64) (hl : G.length ≤ 1000) :
    CallOK Try.prog 44 [.sc (.int .i64 i), .list 1 (gInts G), .list 65 (gMsgs G), .ptr 0 0 0 0, .ptr 2 0 0 0] [[boxB ps.length], [procsB ps], [oneB (.int .i64 r)]]
      (fun res H' => Pure res ∧ H' = [[boxB ps.length], [procsB (ps.set i (takeS p i r G))], [oneB (.int .i64 r)]]) := by
  have hil : i < ps.length := (List.getElem?_eq_some_iff.1 hp).1
  refine CallOK.of cF44 ?_ (by simp [F44])
  refine AWP.dkl rfl mixed ?_
  repeat (first | refine Reg.o rfl rfl ?_ | refine Reg.on rfl rfl ?_ | refine Reg.s rfl ?_ | refine Reg.sn rfl ?_ | refine Reg.nil ?_ | refine DK.o rfl rfl ?_ | refine DK.on rfl rfl ?_ | refine DK.s rfl ?_ | refine DK.sn rfl ?_ | refine AWP.seq ?_ | refine AWP.region ?_ | refine AWP.dk mixed ?_ | refine AWP.condT rfl ?_ | refine AWP.condF rfl ?_ | refine AWP.skip ?_ | refine AWP.ret ?_ | refine AWP.exit ?_ | refine AWP.block ?_ )
  refine DK.o rfl (dstep_idxH (q := i) rfl rfl rfl hil (by simp)) ?_
  repeat (first | refine Reg.o rfl rfl ?_ | refine Reg.on rfl rfl ?_ | refine Reg.s rfl ?_ | refine Reg.sn rfl ?_ | refine Reg.nil ?_ | refine DK.o rfl rfl ?_ | refine DK.on rfl rfl ?_ | refine DK.s rfl ?_ | refine DK.sn rfl ?_ | refine AWP.seq ?_ | refine AWP.region ?_ | refine AWP.dk mixed ?_ | refine AWP.condT rfl ?_ | refine AWP.condF rfl ?_ | refine AWP.skip ?_ | refine AWP.ret ?_ | refine AWP.exit ?_ | refine AWP.block ?_ )
  refine DK.nil ⟨by kernel_rfl, ?_⟩
  rw [Nat.zero_add]
  refine Reg.c (show 3 ≤ 4 by omega) rfl ((CallOK.via1 (args' := [.ptr 0 0 i 0, .sc (.int .i64 i), .sc (.int .i64 r), .list 1 (gInts G), .list 65 (gMsgs G)]) (R := fun _ y => y = procsB (ps.set i (takeS p i r G))) 1 0 ((take1_ok ps i p hp hi r G hG hl).mono ?_) rfl (pureB_procs ps) ?_).mono ?_)
  · rintro res H' ⟨h1, rfl⟩
    exact ⟨_, rfl, h1, pureB_procs _, rfl⟩
  · exact ⟨.ptr _ _ _ _ _ _ rfl, .sc _, .sc _, .pure (pure_gInts G), .pure (pure_gMsgs G), trivial⟩
  · rintro res H' ⟨y, rfl, rfl⟩
    repeat (first | refine Reg.o rfl rfl ?_ | refine Reg.on rfl rfl ?_ | refine Reg.s rfl ?_ | refine Reg.sn rfl ?_ | refine Reg.nil ?_ | refine DK.o rfl rfl ?_ | refine DK.on rfl rfl ?_ | refine DK.s rfl ?_ | refine DK.sn rfl ?_ | refine AWP.seq ?_ | refine AWP.region ?_ | refine AWP.dk mixed ?_ | refine AWP.condT rfl ?_ | refine AWP.condF rfl ?_ | refine AWP.skip ?_ | refine AWP.ret ?_ | refine AWP.exit ?_ | refine AWP.block ?_ )
    exact fin3 (.inl rfl) rfl (.tup _ allPure_nil) (lo_box _) (lo_procs _) (lo_one _) ⟨.tup _ allPure_nil, rfl⟩

end Go.Proofs.Ytbpmbofinoinmaa
