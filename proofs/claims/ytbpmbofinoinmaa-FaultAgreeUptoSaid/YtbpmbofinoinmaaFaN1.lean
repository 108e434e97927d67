import Derived.Test.YtbpmbofinoinmaaFaX51
import Derived.Test.YtbpmbofinoinmaaFaT6
import Derived.Test.YtbpmbofinoinmaaGAvP
namespace Go.Proofs.Ytbpmbofinoinmaa
open Go.Av Go.Proofs

/-! scheduled; what the news does in a round. -/

/-- No two crashes of one rank. -/
def Dist (l : List C) : Prop := ∀ (k : Nat) c, l[k]? = some c → findC (l.take k) c.rank = none

theorem esOf_append (l m : List C) : esOf (l ++ m) = esOf l ++ esOf m := by simp [esOf]

set_option maxHeartbeats 1000000 in
theorem scheduled_ok (n : Int) (l : List C) (hl : l.length ≤ 4000000) (hd : Dist l) : CallOK Try.prog 38 [.sc (.int .i64 n), crV l] [] (fun res _ => res = schV n l) := by
  refine CallOK.of cF38 ?_ (by simp [F38])
  repeat (first | refine Reg.o rfl rfl ?_ | refine Reg.on rfl rfl ?_ | refine Reg.s rfl ?_ | refine Reg.sn rfl ?_ | refine Reg.nil ?_ | refine DK.o rfl rfl ?_ | refine DK.on rfl rfl ?_ | refine DK.s rfl ?_ | refine DK.sn rfl ?_ | refine AWP.seq ?_ | refine AWP.region ?_ | refine AWP.dk mixed ?_ | refine AWP.condT rfl ?_ | refine AWP.condF rfl ?_ | refine AWP.skip ?_ | refine AWP.ret ?_ | refine AWP.exit ?_ | refine AWP.block ?_ )
  refine AWP.loop (fun k : Nat => [(4, .ptr 0 0 0 0), (5, .ptr 1 0 0 0), (11, crV l), (12, .sc (.int .i64 l.length)), (13, .sc (.int .i64 k))]) (fun k => [[.cells 2 [[.sc (.int .i64 0), .sc (.map none)]]], [.cells 2 [[.sc (.int .i64 n), .mref 2 0]]], [.map (esOf (l.take k))]])
    (fun k => k ≤ l.length) (fun k => l.length - k) 0 (Nat.zero_le _) ?_ ?_
  · refine Sub.re [[(0, 0)], [(2, 0)], [(1, 0)]] rfl rfl rfl ⟨⟨⟨_, rfl, RenB.pure 2 _ (fun r hr => by rw [List.mem_singleton.1 hr]; exact allPure_cons (.sc _) (allPure_cons (.sc _) allPure_nil))⟩, trivial⟩, ⟨⟨_, rfl, ?_⟩, trivial⟩, ⟨⟨_, rfl, RenB.pureMap _ (fun x hx => by cases hx)⟩, trivial⟩, trivial⟩
      ⟨.ptr _ _ _ _ _ _ rfl, .ptr _ _ _ _ _ _ rfl, .pure (pure_cr l), .int (by simp), .int rfl, trivial⟩
    exact RenB.one (sz := 2) (xs := [.sc (.int .i64 n), .mref 1 0]) ⟨.sc _, .mref _ _ _ _ rfl, trivial⟩
  intro k hk
  have hk1 : IntKind.i64.wrap ((k : Int) + 1) = ((k + 1 : Nat) : Int) := by rw [wrap_small (by omega) (by omega)]; omega
  repeat (first | refine Reg.o rfl rfl ?_ | refine Reg.on rfl rfl ?_ | refine Reg.s rfl ?_ | refine Reg.sn rfl ?_ | refine Reg.nil ?_ | refine DK.o rfl rfl ?_ | refine DK.on rfl rfl ?_ | refine DK.s rfl ?_ | refine DK.sn rfl ?_ | refine AWP.seq ?_ | refine AWP.region ?_ | refine AWP.dk mixed ?_ | refine AWP.condT rfl ?_ | refine AWP.condF rfl ?_ | refine AWP.skip ?_ | refine AWP.ret ?_ | refine AWP.exit ?_ | refine AWP.block ?_ )
  refine AWP.cond rfl (fun h => ?_) (fun h => ?_)
  · have hlt : k < l.length := by simpa using h
    generalize hc : l[k] = c
    have hrow : rowIx (l.map crow) (k : Int) = some (crow c) := (rowIx_map crow l k hlt).trans (by rw [hc])
    have hnew : mfind .i64 c.rank (esOf (l.take k)) = some none := by
      rw [mfind_es, hd k c (by rw [List.getElem?_eq_getElem hlt, hc])]
      rfl
    repeat (first | refine Reg.o rfl rfl ?_ | refine Reg.on rfl rfl ?_ | refine Reg.s rfl ?_ | refine Reg.sn rfl ?_ | refine Reg.nil ?_ | refine DK.o rfl rfl ?_ | refine DK.on rfl rfl ?_ | refine DK.s rfl ?_ | refine DK.sn rfl ?_ | refine AWP.seq ?_ | refine AWP.region ?_ | refine AWP.dk mixed ?_ | refine AWP.condT rfl ?_ | refine AWP.condF rfl ?_ | refine AWP.skip ?_ | refine AWP.ret ?_ | refine AWP.exit ?_ | refine AWP.block ?_ )
    refine Reg.o rfl (dstep_idxSl rfl rfl hrow) ?_
    repeat (first | refine Reg.o rfl rfl ?_ | refine Reg.on rfl rfl ?_ | refine Reg.s rfl ?_ | refine Reg.sn rfl ?_ | refine Reg.nil ?_ | refine DK.o rfl rfl ?_ | refine DK.on rfl rfl ?_ | refine DK.s rfl ?_ | refine DK.sn rfl ?_ | refine AWP.seq ?_ | refine AWP.region ?_ | refine AWP.dk mixed ?_ | refine AWP.condT rfl ?_ | refine AWP.condF rfl ?_ | refine AWP.skip ?_ | refine AWP.ret ?_ | refine AWP.exit ?_ | refine AWP.block ?_ )
    refine Reg.on rfl (dstep_mapNew rfl rfl rfl hnew) ?_
    repeat (first | refine Reg.o rfl rfl ?_ | refine Reg.on rfl rfl ?_ | refine Reg.s rfl ?_ | refine Reg.sn rfl ?_ | refine Reg.nil ?_ | refine DK.o rfl rfl ?_ | refine DK.on rfl rfl ?_ | refine DK.s rfl ?_ | refine DK.sn rfl ?_ | refine AWP.seq ?_ | refine AWP.region ?_ | refine AWP.dk mixed ?_ | refine AWP.condT rfl ?_ | refine AWP.condF rfl ?_ | refine AWP.skip ?_ | refine AWP.ret ?_ | refine AWP.exit ?_ | refine AWP.block ?_ )
    refine ⟨k + 1, by omega, by omega, Sub.re [[(0, 0)], [(1, 0)], [(2, 0)]] rfl rfl rfl
      ⟨⟨⟨_, rfl, RenB.pure 2 _ (fun r hr => by rw [List.mem_singleton.1 hr]; exact allPure_cons (.sc _) (allPure_cons (.sc _) allPure_nil))⟩, trivial⟩, ⟨⟨_, rfl, RenB.one ⟨.sc _, .mref _ _ _ _ rfl, trivial⟩⟩, trivial⟩, ⟨⟨_, rfl, ?_⟩, trivial⟩, trivial⟩
      ⟨.ptr _ _ _ _ _ _ rfl, .ptr _ _ _ _ _ _ rfl, .pure (pure_cr l), .int rfl, .int hk1, trivial⟩⟩
    have e : esOf (l.take (k + 1)) = esOf (l.take k) ++ [(.int .i64 c.rank, .agg (crow c))] := by
      rw [List.take_succ_eq_append_getElem hlt, esOf_append, hc]
      rfl
    rw [e]
    refine RenB.pureMap (esOf (l.take k) ++ [(.int .i64 c.rank, .agg (crow c))]) ?_
    rw [← e]
    intro x hx
    obtain ⟨c', _, rfl⟩ := List.mem_map.1 hx
    exact .agg _ (pure_crow c')
  · have hkl : k = l.length := by
      have : ¬ k < l.length := by simpa using h
      omega
    subst hkl
    repeat (first | refine Reg.o rfl rfl ?_ | refine Reg.on rfl rfl ?_ | refine Reg.s rfl ?_ | refine Reg.sn rfl ?_ | refine Reg.nil ?_ | refine DK.o rfl rfl ?_ | refine DK.on rfl rfl ?_ | refine DK.s rfl ?_ | refine DK.sn rfl ?_ | refine AWP.seq ?_ | refine AWP.region ?_ | refine AWP.dk mixed ?_ | refine AWP.condT rfl ?_ | refine AWP.condF rfl ?_ | refine AWP.skip ?_ | refine AWP.ret ?_ | refine AWP.exit ?_ | refine AWP.block ?_ )
    have e' : AV.tmap (esOf l) = AV.tmap (esOf (l.take l.length)) := by rw [List.take_of_length_le (Nat.le_refl _)]
    refine fin_frz (.inr rfl) (res := .agg [.sc (.int .i64 n), .mref 2 0]) (res' := schV n l) rfl (Cong.aggL (l := [.sc (.int .i64 n), .mref 2 0]) (m := [.sc (.int .i64 n), .tmap (esOf l)]) ⟨.refl _, ?_, trivial⟩) (pure_sch n l) rfl
    rw [e']
    exact FzA.mref rfl

/-! Memory of the news: the box of the slice, who has it since when, the round. -/

def oneMsg : List AV := [.sc (.bool false)]
def newsS (r : Int) (out : List Int) (j : Nat) : Option (List AV) := if out[j]? = some (r - 1) then some oneMsg else none
def newsB (out : List Int) : Blk := .cells 1 (intsR out)
theorem lo_news (out : List Int) : LoB 3 (newsB out) := lo_rows (pure_intsR out)

theorem intsR_get {out : List Int} {j : Nat} (h : j < out.length) : (intsR out)[j]? = some [.sc (.int .i64 out[j])] := by simp [intsR, h]
theorem intsR_set (out : List Int) (j : Nat) (v : Int) : (intsR out).set j [.sc (.int .i64 v)] = intsR (out.set j v) := by simp [intsR, List.map_set]

theorem send_ok (r : Int) (hr : 1 ≤ r ∧ r ≤ 1000) (out : List Int) (j : Nat) (hj : j < out.length) :
    CallOK Try.prog 52 [.sc (.int .i64 j), .ptr 0 0 0 0, .ptr 2 0 0 0] [[boxB out.length], [newsB out], [oneB (.int .i64 r)]] (fun res H' => H' = [[boxB out.length], [newsB out], [oneB (.int .i64 r)]] ∧ res = X51.mP (newsS r out j)) := by
  have hw : IntKind.i64.wrap (r - 1) = r - 1 := wrap_small (by omega) (by omega)
  refine CallOK.of cF52 ?_ (by simp [F52])
  repeat (first | refine Reg.o rfl rfl ?_ | refine Reg.on rfl rfl ?_ | refine Reg.s rfl ?_ | refine Reg.sn rfl ?_ | refine Reg.nil ?_ | refine DK.o rfl rfl ?_ | refine DK.on rfl rfl ?_ | refine DK.s rfl ?_ | refine DK.sn rfl ?_ | refine AWP.seq ?_ | refine AWP.region ?_ | refine AWP.dk mixed ?_ | refine AWP.condT rfl ?_ | refine AWP.condF rfl ?_ | refine AWP.skip ?_ | refine AWP.ret ?_ | refine AWP.exit ?_ | refine AWP.block ?_ )
  refine DK.o rfl (dstep_idxH (q := j) rfl rfl rfl hj (by simp [intsR])) ?_
  refine DK.o rfl (dstep_ld1 rfl rfl (by rw [Nat.zero_add]; exact intsR_get hj) rfl) ?_
  repeat (first | refine Reg.o rfl rfl ?_ | refine Reg.on rfl rfl ?_ | refine Reg.s rfl ?_ | refine Reg.sn rfl ?_ | refine Reg.nil ?_ | refine DK.o rfl rfl ?_ | refine DK.on rfl rfl ?_ | refine DK.s rfl ?_ | refine DK.sn rfl ?_ | refine AWP.seq ?_ | refine AWP.region ?_ | refine AWP.dk mixed ?_ | refine AWP.condT rfl ?_ | refine AWP.condF rfl ?_ | refine AWP.skip ?_ | refine AWP.ret ?_ | refine AWP.exit ?_ | refine AWP.block ?_ )
  refine DK.nil ⟨by kernel_rfl, ?_⟩
  refine AWP.cond rfl (fun h => ?_) (fun h => ?_)
  · have hne : newsS r out j = none := by
      rw [hw] at h
      unfold newsS
      rw [List.getElem?_eq_getElem hj, if_neg (by simpa using h)]
    repeat (first | refine Reg.o rfl rfl ?_ | refine Reg.on rfl rfl ?_ | refine Reg.s rfl ?_ | refine Reg.sn rfl ?_ | refine Reg.nil ?_ | refine DK.o rfl rfl ?_ | refine DK.on rfl rfl ?_ | refine DK.s rfl ?_ | refine DK.sn rfl ?_ | refine AWP.seq ?_ | refine AWP.region ?_ | refine AWP.dk mixed ?_ | refine AWP.condT rfl ?_ | refine AWP.condF rfl ?_ | refine AWP.skip ?_ | refine AWP.ret ?_ | refine AWP.exit ?_ | refine AWP.block ?_ )
    exact fin3 (.inr rfl) rfl (.sc _) (lo_box _) (lo_news _) (lo_one _) ⟨rfl, by rw [hne]; rfl⟩
  · have he : newsS r out j = some oneMsg := by
      rw [hw] at h
      unfold newsS
      rw [List.getElem?_eq_getElem hj, if_pos (by simpa using h)]
    repeat (first | refine Reg.o rfl rfl ?_ | refine Reg.on rfl rfl ?_ | refine Reg.s rfl ?_ | refine Reg.sn rfl ?_ | refine Reg.nil ?_ | refine DK.o rfl rfl ?_ | refine DK.on rfl rfl ?_ | refine DK.s rfl ?_ | refine DK.sn rfl ?_ | refine AWP.seq ?_ | refine AWP.region ?_ | refine AWP.dk mixed ?_ | refine AWP.condT rfl ?_ | refine AWP.condF rfl ?_ | refine AWP.skip ?_ | refine AWP.ret ?_ | refine AWP.exit ?_ | refine AWP.block ?_ )
    exact fin3z (.inr rfl) rfl (.base (.ptr 4 0 0 0 1 [oneMsg] oneMsg rfl rfl rfl)) (.cptr _ (allPure_cons (.sc _) allPure_nil)) (lo_box _) (lo_news _) (lo_one _) ⟨rfl, by rw [he]; rfl⟩

/-- What the process j has behind a round, in which it heard F. -/
def newsT (r : Int) (out : List Int) (j : Nat) (F : List Nat) : List Int := if out[j]? = none ∨ 0 ≤ (out[j]?).getD 0 ∨ F = [] then out else out.set j r

theorem take_news_ok (r : Int) (out : List Int) (j : Nat) (hj : j < out.length) (F : List Nat) (G : AV) :
    CallOK Try.prog 53 [.sc (.int .i64 j), .list 1 (X51.ints F), G, .ptr 0 0 0 0, .ptr 2 0 0 0] [[boxB out.length], [newsB out], [oneB (.int .i64 r)]]
      (fun res H' => Pure res ∧ H' = [[boxB out.length], [newsB (newsT r out j F)], [oneB (.int .i64 r)]]) := by
  refine CallOK.of cF53 ?_ (by simp [F53])
  repeat (first | refine Reg.o rfl rfl ?_ | refine Reg.on rfl rfl ?_ | refine Reg.s rfl ?_ | refine Reg.sn rfl ?_ | refine Reg.nil ?_ | refine DK.o rfl rfl ?_ | refine DK.on rfl rfl ?_ | refine DK.s rfl ?_ | refine DK.sn rfl ?_ | refine AWP.seq ?_ | refine AWP.region ?_ | refine AWP.dk mixed ?_ | refine AWP.condT rfl ?_ | refine AWP.condF rfl ?_ | refine AWP.skip ?_ | refine AWP.ret ?_ | refine AWP.exit ?_ | refine AWP.block ?_ )
  refine Reg.o rfl (dstep_idxH (q := j) rfl rfl rfl hj (by simp [intsR])) ?_
  refine Reg.o rfl (dstep_ld1 rfl rfl (by rw [Nat.zero_add]; exact intsR_get hj) rfl) ?_
  repeat (first | refine Reg.o rfl rfl ?_ | refine Reg.on rfl rfl ?_ | refine Reg.s rfl ?_ | refine Reg.sn rfl ?_ | refine Reg.nil ?_ | refine DK.o rfl rfl ?_ | refine DK.on rfl rfl ?_ | refine DK.s rfl ?_ | refine DK.sn rfl ?_ | refine AWP.seq ?_ | refine AWP.region ?_ | refine AWP.dk mixed ?_ | refine AWP.condT rfl ?_ | refine AWP.condF rfl ?_ | refine AWP.skip ?_ | refine AWP.ret ?_ | refine AWP.exit ?_ | refine AWP.block ?_ )
  refine Reg.gs rfl (fun hneg => ?_) (fun hneg => ?_)
  · have hneg' : out[j] < 0 := by simpa using hneg
    repeat (first | refine Reg.o rfl rfl ?_ | refine Reg.on rfl rfl ?_ | refine Reg.s rfl ?_ | refine Reg.sn rfl ?_ | refine Reg.nil ?_ | refine DK.o rfl rfl ?_ | refine DK.on rfl rfl ?_ | refine DK.s rfl ?_ | refine DK.sn rfl ?_ | refine AWP.seq ?_ | refine AWP.region ?_ | refine AWP.dk mixed ?_ | refine AWP.condT rfl ?_ | refine AWP.condF rfl ?_ | refine AWP.skip ?_ | refine AWP.ret ?_ | refine AWP.exit ?_ | refine AWP.block ?_ )
    refine AWP.cond rfl (fun hF => ?_) (fun hF => ?_)
    · have hF' : F ≠ [] := by
        rintro rfl
        simp [X51.ints] at hF
      repeat (first | refine Reg.o rfl rfl ?_ | refine Reg.on rfl rfl ?_ | refine Reg.s rfl ?_ | refine Reg.sn rfl ?_ | refine Reg.nil ?_ | refine DK.o rfl rfl ?_ | refine DK.on rfl rfl ?_ | refine DK.s rfl ?_ | refine DK.sn rfl ?_ | refine AWP.seq ?_ | refine AWP.region ?_ | refine AWP.dk mixed ?_ | refine AWP.condT rfl ?_ | refine AWP.condF rfl ?_ | refine AWP.skip ?_ | refine AWP.ret ?_ | refine AWP.exit ?_ | refine AWP.block ?_ )
      refine Reg.o rfl (dstep_idxH (q := j) rfl rfl rfl hj (by simp [intsR])) ?_
      refine Reg.on rfl (dstep_stN rfl rfl rfl (by rw [Nat.zero_add]; exact intsR_get hj) rfl (Nat.le_refl _) rfl) ?_
      repeat (first | refine Reg.o rfl rfl ?_ | refine Reg.on rfl rfl ?_ | refine Reg.s rfl ?_ | refine Reg.sn rfl ?_ | refine Reg.nil ?_ | refine DK.o rfl rfl ?_ | refine DK.on rfl rfl ?_ | refine DK.s rfl ?_ | refine DK.sn rfl ?_ | refine AWP.seq ?_ | refine AWP.region ?_ | refine AWP.dk mixed ?_ | refine AWP.condT rfl ?_ | refine AWP.condF rfl ?_ | refine AWP.skip ?_ | refine AWP.ret ?_ | refine AWP.exit ?_ | refine AWP.block ?_ )
      have e : newsT r out j F = out.set j r := by
        unfold newsT
        rw [List.getElem?_eq_getElem hj, if_neg]
        simp
        exact ⟨by omega, hF'⟩
      have e2 : (Blk.cells 1 ((intsR out).set (0 + j) [.sc (.int .i64 r)])) = newsB (newsT r out j F) := by rw [Nat.zero_add, intsR_set, e]; rfl
      refine fin3 (d := oneB (.int .i64 r)) (.inl rfl) (X := []) (b := .cells 1 ((intsR out).set (0 + j) [.sc (.int .i64 r)])) rfl (.tup _ allPure_nil) (lo_box _) (by rw [e2]; exact lo_news _) (lo_one _) ⟨.tup _ allPure_nil, by rw [e2]⟩
    · have hF' : F = [] := by
        cases F with
        | nil => rfl
        | cons a F => simp [X51.ints] at hF
      repeat (first | refine Reg.o rfl rfl ?_ | refine Reg.on rfl rfl ?_ | refine Reg.s rfl ?_ | refine Reg.sn rfl ?_ | refine Reg.nil ?_ | refine DK.o rfl rfl ?_ | refine DK.on rfl rfl ?_ | refine DK.s rfl ?_ | refine DK.sn rfl ?_ | refine AWP.seq ?_ | refine AWP.region ?_ | refine AWP.dk mixed ?_ | refine AWP.condT rfl ?_ | refine AWP.condF rfl ?_ | refine AWP.skip ?_ | refine AWP.ret ?_ | refine AWP.exit ?_ | refine AWP.block ?_ )
      have e : newsT r out j F = out := by
        unfold newsT
        rw [if_pos (.inr (.inr hF'))]
      exact fin3 (.inl rfl) rfl (.tup _ allPure_nil) (lo_box _) (lo_news _) (lo_one _) ⟨.tup _ allPure_nil, by rw [e]⟩
  · repeat (first | refine Reg.o rfl rfl ?_ | refine Reg.on rfl rfl ?_ | refine Reg.s rfl ?_ | refine Reg.sn rfl ?_ | refine Reg.nil ?_ | refine DK.o rfl rfl ?_ | refine DK.on rfl rfl ?_ | refine DK.s rfl ?_ | refine DK.sn rfl ?_ | refine AWP.seq ?_ | refine AWP.region ?_ | refine AWP.dk mixed ?_ | refine AWP.condT rfl ?_ | refine AWP.condF rfl ?_ | refine AWP.skip ?_ | refine AWP.ret ?_ | refine AWP.exit ?_ | refine AWP.block ?_ )
    have e : newsT r out j F = out := by
      unfold newsT
      rw [List.getElem?_eq_getElem hj, if_pos]
      right; left
      simpa using hneg
    exact fin3 (.inl rfl) rfl (.tup _ allPure_nil) (lo_box _) (lo_news _) (lo_one _) ⟨.tup _ allPure_nil, by rw [e]⟩

end Go.Proofs.Ytbpmbofinoinmaa
