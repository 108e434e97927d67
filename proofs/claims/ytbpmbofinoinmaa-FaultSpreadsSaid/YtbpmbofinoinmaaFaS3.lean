/- If a survivor receives the news, all survivors do, at most one round later than there are crashes; from a survivor, all others receive it in the first round. -/
import Derived.Test.YtbpmbofinoinmaaFaS1
import Derived.Test.YtbpmbofinoinmaaFaS2
import Derived.Test.YtbpmbofinoinmaaFaNews
namespace Go.Proofs.Ytbpmbofinoinmaa
open Go.Av Go.Proofs

theorem good_len {n : Nat} {l : List C} (h : checkS n l = 0) : l.length ≤ 64 := by
  obtain ⟨⟨h1, h2⟩, hg, hd⟩ := check_zero h
  have := pigeon l.length (List.range n) (fun k => ((l[k]?).map fun c => c.rank.toNat).getD 0) (fun u hu => ?_) (fun a b ha hb hab => ?_)
  · rw [List.length_range] at this; omega
  · have h3 := hg l[u] (List.getElem_mem hu)
    have h4 := h3.r0
    have h5 := h3.r1
    rw [List.getElem?_eq_getElem hu]
    exact List.mem_range.2 (by show l[u].rank.toNat < n; omega)
  · rw [List.getElem?_eq_getElem ha, List.getElem?_eq_getElem hb] at hab
    have hab : l[a].rank.toNat = l[b].rank.toNat := hab
    have ra := (hg l[a] (List.getElem_mem ha)).r0
    have rb := (hg l[b] (List.getElem_mem hb)).r0
    have key : ∀ x y : Nat, (hx : x < l.length) → (hy : y < l.length) → l[x].rank = l[y].rank → ¬ x < y := by
      intro x y hx hy e hlt
      have h6 := hd y l[y] (List.getElem?_eq_getElem hy)
      unfold findC at h6
      rw [List.find?_eq_none] at h6
      refine h6 l[x] (List.mem_iff_getElem?.2 ⟨x, ?_⟩) (by simp [e])
      rw [List.getElem?_take, if_pos hlt, List.getElem?_eq_getElem hx]
    have e : l[a].rank = l[b].rank := by omega
    have k1 := key a b ha hb e
    have k2 := key b a hb ha e.symm
    omega

/-- What the loop over the processes gathers. -/
def sv (l : List C) (j : Nat) : Bool := !goneB l j
def someS (l : List C) (out : List Int) (k : Nat) : Bool := (List.range k).any fun j => sv l j && decide ((out[j]?).getD 0 ≥ 0)
def everyS (l : List C) (out : List Int) (k : Nat) : Bool := (List.range k).all fun j => !sv l j || decide ((out[j]?).getD 0 ≥ 0)
def lastS (l : List C) (out : List Int) : Nat → Int
  | 0 => 0
  | k + 1 => if sv l k = true then max (lastS l out k) ((out[k]?).getD 0) else lastS l out k

theorem someS_succ (l : List C) (out : List Int) (k : Nat) : someS l out (k + 1) = (someS l out k || (sv l k && decide ((out[k]?).getD 0 ≥ 0))) := by
  unfold someS; rw [List.range_succ, List.any_append]; simp
theorem everyS_succ (l : List C) (out : List Int) (k : Nat) : everyS l out (k + 1) = (everyS l out k && (!sv l k || decide ((out[k]?).getD 0 ≥ 0))) := by
  unfold everyS; rw [List.range_succ, List.all_append]; simp
theorem everyS_of {l : List C} {out : List Int} : ∀ n : Nat, (∀ j, j < n → sv l j = true → 0 ≤ (out[j]?).getD 0) → everyS l out n = true
  | n, h => by
    unfold everyS
    rw [List.all_eq_true]
    intro j hj
    have := h j (List.mem_range.1 hj)
    cases e : sv l j with
    | false => rfl
    | true => simp [this e]
theorem lastS_le {l : List C} {out : List Int} {b : Int} (hb : 0 ≤ b) : ∀ n : Nat, (∀ j, j < n → sv l j = true → (out[j]?).getD 0 ≤ b) → lastS l out n ≤ b
  | 0, _ => hb
  | n + 1, h => by
    have ih := lastS_le hb n fun j hj => h j (by omega)
    unfold lastS
    split
    · rename_i e
      have := h n (by omega) e
      omega
    · exact ih
theorem someS_ex {l : List C} {out : List Int} {n : Nat} (h : someS l out n = true) : ∃ j, j < n ∧ sv l j = true ∧ 0 ≤ (out[j]?).getD 0 := by
  unfold someS at h
  rw [List.any_eq_true] at h
  obtain ⟨j, hj, h⟩ := h
  simp only [Bool.and_eq_true] at h
  exact ⟨j, List.mem_range.1 hj, h.1, of_decide_eq_true h.2⟩
theorem sv_none {l : List C} {j : Nat} : sv l j = true ↔ findC l j = none := by
  unfold sv goneB
  cases findC l j <;> simp

set_option maxHeartbeats 1000000 in
theorem faultSpreads_ok (s a : Nat) (_hs : s ≤ 255) (ha : a ≤ 255) (l : List C) (hl : l.length ≤ 9223372036854775807) : CallOK Try.prog 7 [.sc (.int .u8 s), .sc (.int .u8 a), crV l] [] (fun res _ => res = .sc (.bool true)) := by
  refine CallOK.of cF7 ?_ (by simp [F7])
  repeat (first | refine Reg.o rfl rfl ?_ | refine Reg.on rfl rfl ?_ | refine Reg.s rfl ?_ | refine Reg.sn rfl ?_ | refine Reg.nil ?_ | refine DK.o rfl rfl ?_ | refine DK.on rfl rfl ?_ | refine DK.s rfl ?_ | refine DK.sn rfl ?_ | refine AWP.seq ?_ | refine AWP.region ?_ | refine AWP.dk mixed ?_ | refine AWP.condT rfl ?_ | refine AWP.condF rfl ?_ | refine AWP.skip ?_ | refine AWP.ret ?_ | refine AWP.exit ?_ | refine AWP.block ?_ )
  have e1 : IntKind.i64.wrap (1 + IntKind.i64.wrap ((s : Int).tmod 64)) = ((s % 64 + 1 : Nat) : Int) := by
    have h2 : IntKind.i64.wrap ((s : Int).tmod 64) = ((s % 64 : Nat) : Int) := by
      have h1 : (s : Int).tmod 64 = ((s % 64 : Nat) : Int) := rfl
      rw [h1, wrap_small (by omega) (by omega)]
    rw [h2, wrap_small (by omega) (by omega)]
    omega
  rw [e1, wrap_small (n := (a : Int)) (by omega) (by omega)]
  have hm : s % 64 < 64 := Nat.mod_lt _ (by omega)
  generalize s % 64 = m at hm
  repeat (first | refine Reg.o rfl rfl ?_ | refine Reg.on rfl rfl ?_ | refine Reg.s rfl ?_ | refine Reg.sn rfl ?_ | refine Reg.nil ?_ | refine DK.o rfl rfl ?_ | refine DK.on rfl rfl ?_ | refine DK.s rfl ?_ | refine DK.sn rfl ?_ | refine AWP.seq ?_ | refine AWP.region ?_ | refine AWP.dk mixed ?_ | refine AWP.condT rfl ?_ | refine AWP.condF rfl ?_ | refine AWP.skip ?_ | refine AWP.ret ?_ | refine AWP.exit ?_ | refine AWP.block ?_ )
  have e2 : (a : Int).tmod ((m + 1 : Nat) : Int) = ((a % (m + 1) : Nat) : Int) := rfl
  rw [e2]
  have hsrc : a % (m + 1) < m + 1 := Nat.mod_lt _ (by omega)
  generalize a % (m + 1) = src at hsrc
  clear e1 e2
  generalize hn : m + 1 = n at hsrc
  refine Reg.c (Nat.le_refl _) rfl (CallOK.ofPure (PureRun.of (two_pure n l) (.sc _) (check_big n l hl)) _ ?_)
  repeat (first | refine Reg.o rfl rfl ?_ | refine Reg.on rfl rfl ?_ | refine Reg.s rfl ?_ | refine Reg.sn rfl ?_ | refine Reg.nil ?_ | refine DK.o rfl rfl ?_ | refine DK.on rfl rfl ?_ | refine DK.s rfl ?_ | refine DK.sn rfl ?_ | refine AWP.seq ?_ | refine AWP.region ?_ | refine AWP.dk mixed ?_ | refine AWP.condT rfl ?_ | refine AWP.condF rfl ?_ | refine AWP.skip ?_ | refine AWP.ret ?_ | refine AWP.exit ?_ | refine AWP.block ?_ )
  refine AWP.cond rfl (fun hc => ?_) (fun hc => ?_)
  · have hc' : checkS n l ≠ 0 := by simpa using hc
    have e : newsR n src l = ([], 0, checkS n l) := by unfold newsR; rw [if_neg hc']
    repeat (first | refine Reg.o rfl rfl ?_ | refine Reg.on rfl rfl ?_ | refine Reg.s rfl ?_ | refine Reg.sn rfl ?_ | refine Reg.nil ?_ | refine DK.o rfl rfl ?_ | refine DK.on rfl rfl ?_ | refine DK.s rfl ?_ | refine DK.sn rfl ?_ | refine AWP.seq ?_ | refine AWP.region ?_ | refine AWP.dk mixed ?_ | refine AWP.condT rfl ?_ | refine AWP.condF rfl ?_ | refine AWP.skip ?_ | refine AWP.ret ?_ | refine AWP.exit ?_ | refine AWP.block ?_ )
    refine Reg.c (Nat.le_refl _) rfl (CallOK.ofPure (PureRun.of (three_pure n src l) (pure_newsV _) (news_bad n src l hl (.inl hc'))) _ ?_)
    rw [e]
    repeat (first | refine Reg.o rfl rfl ?_ | refine Reg.on rfl rfl ?_ | refine Reg.s rfl ?_ | refine Reg.sn rfl ?_ | refine Reg.nil ?_ | refine DK.o rfl rfl ?_ | refine DK.on rfl rfl ?_ | refine DK.s rfl ?_ | refine DK.sn rfl ?_ | refine AWP.seq ?_ | refine AWP.region ?_ | refine AWP.dk mixed ?_ | refine AWP.condT rfl ?_ | refine AWP.condF rfl ?_ | refine AWP.skip ?_ | refine AWP.ret ?_ | refine AWP.exit ?_ | refine AWP.block ?_ )
    refine Reg.c (Nat.le_refl _) rfl (CallOK.ofPure (PureRun.of (two_pure n l) (.sc _) (check_big n l hl)) _ ?_)
    repeat (first | refine Reg.o rfl rfl ?_ | refine Reg.on rfl rfl ?_ | refine Reg.s rfl ?_ | refine Reg.sn rfl ?_ | refine Reg.nil ?_ | refine DK.o rfl rfl ?_ | refine DK.on rfl rfl ?_ | refine DK.s rfl ?_ | refine DK.sn rfl ?_ | refine AWP.seq ?_ | refine AWP.region ?_ | refine AWP.dk mixed ?_ | refine AWP.condT rfl ?_ | refine AWP.condF rfl ?_ | refine AWP.skip ?_ | refine AWP.ret ?_ | refine AWP.exit ?_ | refine AWP.block ?_ )
    refine Reg.gs rfl (fun _ => ?_) (fun h => by simp at h)
    repeat (first | refine Reg.o rfl rfl ?_ | refine Reg.on rfl rfl ?_ | refine Reg.s rfl ?_ | refine Reg.sn rfl ?_ | refine Reg.nil ?_ | refine DK.o rfl rfl ?_ | refine DK.on rfl rfl ?_ | refine DK.s rfl ?_ | refine DK.sn rfl ?_ | refine AWP.seq ?_ | refine AWP.region ?_ | refine AWP.dk mixed ?_ | refine AWP.condT rfl ?_ | refine AWP.condF rfl ?_ | refine AWP.skip ?_ | refine AWP.ret ?_ | refine AWP.exit ?_ | refine AWP.block ?_ )
    refine Reg.c (Nat.le_refl _) rfl (CallOK.ofPure works_pure _ ?_)
    repeat (first | refine Reg.o rfl rfl ?_ | refine Reg.on rfl rfl ?_ | refine Reg.s rfl ?_ | refine Reg.sn rfl ?_ | refine Reg.nil ?_ | refine DK.o rfl rfl ?_ | refine DK.on rfl rfl ?_ | refine DK.s rfl ?_ | refine DK.sn rfl ?_ | refine AWP.seq ?_ | refine AWP.region ?_ | refine AWP.dk mixed ?_ | refine AWP.condT rfl ?_ | refine AWP.condF rfl ?_ | refine AWP.skip ?_ | refine AWP.ret ?_ | refine AWP.exit ?_ | refine AWP.block ?_ )
    exact fin_pure (.inr rfl) rfl (.sc _) rfl
  have hc' : checkS n l = 0 := by simpa using hc
  obtain ⟨⟨hn1, hn64⟩, hg, hd⟩ := check_zero hc'
  have hl64 := good_len hc'
  have hend := newsEnd n src l hsrc
  have e : newsR n src l = ((newsGo n l (n + 2) 1 (news0 n src)).1, (newsGo n l (n + 2) 1 (news0 n src)).2, 0) := by
    unfold newsR
    rw [if_pos hc', if_neg (by omega)]
    rfl
  generalize (newsGo n l (n + 2) 1 (news0 n src)).1 = out at hend e
  generalize (newsGo n l (n + 2) 1 (news0 n src)).2 = rd at e
  have hlen := hend.len
  repeat (first | refine Reg.o rfl rfl ?_ | refine Reg.on rfl rfl ?_ | refine Reg.s rfl ?_ | refine Reg.sn rfl ?_ | refine Reg.nil ?_ | refine DK.o rfl rfl ?_ | refine DK.on rfl rfl ?_ | refine DK.s rfl ?_ | refine DK.sn rfl ?_ | refine AWP.seq ?_ | refine AWP.region ?_ | refine AWP.dk mixed ?_ | refine AWP.condT rfl ?_ | refine AWP.condF rfl ?_ | refine AWP.skip ?_ | refine AWP.ret ?_ | refine AWP.exit ?_ | refine AWP.block ?_ )
  refine Reg.c (Nat.le_refl _) rfl (CallOK.ofPure (PureRun.of (two_pure n l) (pure_crashed n l) (crashed_ok n l (by omega) (by omega) (fun c h => ⟨(hg c h).r0, (hg c h).r1⟩))) _ ?_)
  repeat (first | refine Reg.o rfl rfl ?_ | refine Reg.on rfl rfl ?_ | refine Reg.s rfl ?_ | refine Reg.sn rfl ?_ | refine Reg.nil ?_ | refine DK.o rfl rfl ?_ | refine DK.on rfl rfl ?_ | refine DK.s rfl ?_ | refine DK.sn rfl ?_ | refine AWP.seq ?_ | refine AWP.region ?_ | refine AWP.dk mixed ?_ | refine AWP.condT rfl ?_ | refine AWP.condF rfl ?_ | refine AWP.skip ?_ | refine AWP.ret ?_ | refine AWP.exit ?_ | refine AWP.block ?_ )
  refine Reg.c (Nat.le_refl _) rfl (CallOK.ofPure (PureRun.of (three_pure n src l) (pure_newsV _) (news_ok n src l (by omega))) _ ?_)
  rw [e]
  repeat (first | refine Reg.o rfl rfl ?_ | refine Reg.on rfl rfl ?_ | refine Reg.s rfl ?_ | refine Reg.sn rfl ?_ | refine Reg.nil ?_ | refine DK.o rfl rfl ?_ | refine DK.on rfl rfl ?_ | refine DK.s rfl ?_ | refine DK.sn rfl ?_ | refine AWP.seq ?_ | refine AWP.region ?_ | refine AWP.dk mixed ?_ | refine AWP.condT rfl ?_ | refine AWP.condF rfl ?_ | refine AWP.skip ?_ | refine AWP.ret ?_ | refine AWP.exit ?_ | refine AWP.block ?_ )
  refine Reg.gs rfl (fun h => ?_) (fun _ => ?_)
  · exfalso
    simp [intsR, hlen] at h
  repeat (first | refine Reg.o rfl rfl ?_ | refine Reg.on rfl rfl ?_ | refine Reg.s rfl ?_ | refine Reg.sn rfl ?_ | refine Reg.nil ?_ | refine DK.o rfl rfl ?_ | refine DK.on rfl rfl ?_ | refine DK.s rfl ?_ | refine DK.sn rfl ?_ | refine AWP.seq ?_ | refine AWP.region ?_ | refine AWP.dk mixed ?_ | refine AWP.condT rfl ?_ | refine AWP.condF rfl ?_ | refine AWP.skip ?_ | refine AWP.ret ?_ | refine AWP.exit ?_ | refine AWP.block ?_ )
  refine Reg.o rfl (dstep_idxSl rfl rfl (rowIx_map _ out src (by omega))) ?_
  have h0 : out[src]'(by omega) = 0 := by
    have := hend.src0
    rw [List.getElem?_eq_getElem (by omega)] at this
    injection this
  rw [h0]
  repeat (first | refine Reg.o rfl rfl ?_ | refine Reg.on rfl rfl ?_ | refine Reg.s rfl ?_ | refine Reg.sn rfl ?_ | refine Reg.nil ?_ | refine DK.o rfl rfl ?_ | refine DK.on rfl rfl ?_ | refine DK.s rfl ?_ | refine DK.sn rfl ?_ | refine AWP.seq ?_ | refine AWP.region ?_ | refine AWP.dk mixed ?_ | refine AWP.condT rfl ?_ | refine AWP.condF rfl ?_ | refine AWP.skip ?_ | refine AWP.ret ?_ | refine AWP.exit ?_ | refine AWP.block ?_ )
  refine AWP.loop (fun k : Nat => [(2, crV l), (7, .sc (.int .i64 n)), (8, .sc (.int .i64 src)), (12, .list 1 (goneR n l)), (14, .list 1 (intsR out)), (17, .sc (.bool (someS l out k))), (18, .sc (.bool (everyS l out k))), (19, .sc (.int .i64 (lastS l out k))), (20, .sc (.int .i64 k))]) (fun _ => []) (fun k => k ≤ n) (fun k => n - k) 0 (Nat.zero_le _) ?_ ?_
  · exact Sub.none ⟨.pure (pure_cr l), .int rfl, .int rfl, .pure (.list _ _ (pure_goneR n l)), .pure (.list _ _ (pure_intsR out)), .sc _, .sc _, .int rfl, .int rfl, trivial⟩
  intro k hk
  have hk1 := wrapN (k := k) (by omega)
  repeat (first | refine Reg.o rfl rfl ?_ | refine Reg.on rfl rfl ?_ | refine Reg.s rfl ?_ | refine Reg.sn rfl ?_ | refine Reg.nil ?_ | refine DK.o rfl rfl ?_ | refine DK.on rfl rfl ?_ | refine DK.s rfl ?_ | refine DK.sn rfl ?_ | refine AWP.seq ?_ | refine AWP.region ?_ | refine AWP.dk mixed ?_ | refine AWP.condT rfl ?_ | refine AWP.condF rfl ?_ | refine AWP.skip ?_ | refine AWP.ret ?_ | refine AWP.exit ?_ | refine AWP.block ?_ )
  refine AWP.cond rfl (fun h => ?_) (fun h => ?_)
  · have hkn : k < n := by simpa using h
    have hko : k < out.length := by omega
    have hrowg : rowIx (goneR n l) (k : Int) = some [.sc (.bool (goneB l k))] := (rowIx_nat _ _).trans (row1_get hkn)
    have hrows : rowIx (goneR n l) (src : Int) = some [.sc (.bool (goneB l src))] := (rowIx_nat _ _).trans (row1_get hsrc)
    have hrowo : rowIx (intsR out) (k : Int) = some [.sc (.int .i64 out[k])] := rowIx_map _ out k hko
    have hgd : (out[k]?).getD 0 = out[k] := by rw [List.getElem?_eq_getElem hko]; rfl
    have hz : out[k] = 0 → k = src := fun h => hend.zero k (by rw [List.getElem?_eq_getElem hko, h])
    have hsp : findC l src = none → findC l k = none → 0 ≤ out[k] ∧ out[k] ≤ 1 := by
      intro h1 h2
      obtain ⟨w, hw, w0, w1⟩ := hend.spread src 0 hend.src0 (Int.le_refl _) h1 k hkn h2
      rw [List.getElem?_eq_getElem hko] at hw
      injection hw with hw
      omega
    have hs1 := someS_succ l out k
    have hs2 := everyS_succ l out k
    have hs3 : lastS l out (k + 1) = if sv l k = true then max (lastS l out k) ((out[k]?).getD 0) else lastS l out k := rfl
    rw [hgd] at hs1 hs2 hs3
    generalize out[k] = v at hrowo hz hsp hs1 hs2 hs3
    repeat (first | refine Reg.o rfl rfl ?_ | refine Reg.on rfl rfl ?_ | refine Reg.s rfl ?_ | refine Reg.sn rfl ?_ | refine Reg.nil ?_ | refine DK.o rfl rfl ?_ | refine DK.on rfl rfl ?_ | refine DK.s rfl ?_ | refine DK.sn rfl ?_ | refine AWP.seq ?_ | refine AWP.region ?_ | refine AWP.dk mixed ?_ | refine AWP.condT rfl ?_ | refine AWP.condF rfl ?_ | refine AWP.skip ?_ | refine AWP.ret ?_ | refine AWP.exit ?_ | refine AWP.block ?_ )
    refine Reg.o rfl (dstep_idxSl rfl rfl hrowg) ?_
    repeat (first | refine Reg.o rfl rfl ?_ | refine Reg.on rfl rfl ?_ | refine Reg.s rfl ?_ | refine Reg.sn rfl ?_ | refine Reg.nil ?_ | refine DK.o rfl rfl ?_ | refine DK.on rfl rfl ?_ | refine DK.s rfl ?_ | refine DK.sn rfl ?_ | refine AWP.seq ?_ | refine AWP.region ?_ | refine AWP.dk mixed ?_ | refine AWP.condT rfl ?_ | refine AWP.condF rfl ?_ | refine AWP.skip ?_ | refine AWP.ret ?_ | refine AWP.exit ?_ | refine AWP.block ?_ )
    refine AWP.cond rfl (fun hgo => ?_) (fun hgo => ?_)
    · have hsv : sv l k = false := by unfold sv; rw [hgo]; rfl
      rw [hsv] at hs1 hs2 hs3
      repeat (first | refine Reg.o rfl rfl ?_ | refine Reg.on rfl rfl ?_ | refine Reg.s rfl ?_ | refine Reg.sn rfl ?_ | refine Reg.nil ?_ | refine DK.o rfl rfl ?_ | refine DK.on rfl rfl ?_ | refine DK.s rfl ?_ | refine DK.sn rfl ?_ | refine AWP.seq ?_ | refine AWP.region ?_ | refine AWP.dk mixed ?_ | refine AWP.condT rfl ?_ | refine AWP.condF rfl ?_ | refine AWP.skip ?_ | refine AWP.ret ?_ | refine AWP.exit ?_ | refine AWP.block ?_ )
      refine ⟨k + 1, by omega, by omega, Sub.none ⟨.pure (pure_cr l), .int rfl, .int rfl, .pure (.list _ _ (pure_goneR n l)), .pure (.list _ _ (pure_intsR out)), ?_, ?_, .int ?_, .int hk1, trivial⟩⟩
      · rw [hs1]; simp; exact .sc _
      · rw [hs2]; simp; exact .sc _
      · rw [hs3]; rfl
    · have hsv : sv l k = true := by unfold sv; rw [hgo]; rfl
      rw [hsv] at hs1 hs2 hs3
      repeat (first | refine Reg.o rfl rfl ?_ | refine Reg.on rfl rfl ?_ | refine Reg.s rfl ?_ | refine Reg.sn rfl ?_ | refine Reg.nil ?_ | refine DK.o rfl rfl ?_ | refine DK.on rfl rfl ?_ | refine DK.s rfl ?_ | refine DK.sn rfl ?_ | refine AWP.seq ?_ | refine AWP.region ?_ | refine AWP.dk mixed ?_ | refine AWP.condT rfl ?_ | refine AWP.condF rfl ?_ | refine AWP.skip ?_ | refine AWP.ret ?_ | refine AWP.exit ?_ | refine AWP.block ?_ )
      refine Reg.join [(2, crV l), (7, .sc (.int .i64 n)), (8, .sc (.int .i64 src)), (12, .list 1 (goneR n l)), (14, .list 1 (intsR out)), (17, .sc (.bool (someS l out (k + 1)))), (18, .sc (.bool (everyS l out k))), (19, .sc (.int .i64 (lastS l out k))), (20, .sc (.int .i64 k))] [] ?_ ?_
      · refine Reg.gs rfl (fun g => ?_) (fun g => ?_)
        · repeat (first | refine Reg.o rfl rfl ?_ | refine Reg.on rfl rfl ?_ | refine Reg.s rfl ?_ | refine Reg.sn rfl ?_ | refine Reg.nil ?_ | refine DK.o rfl rfl ?_ | refine DK.on rfl rfl ?_ | refine DK.s rfl ?_ | refine DK.sn rfl ?_ | refine AWP.seq ?_ | refine AWP.region ?_ | refine AWP.dk mixed ?_ | refine AWP.condT rfl ?_ | refine AWP.condF rfl ?_ | refine AWP.skip ?_ | refine AWP.ret ?_ | refine AWP.exit ?_ | refine AWP.block ?_ )
          refine Sub.keep ⟨.refl _, .refl _, .refl _, .refl _, .refl _, Le.bool ?_, .refl _, .refl _, .refl _, trivial⟩
          rw [hs1, g]; rfl
        · repeat (first | refine Reg.o rfl rfl ?_ | refine Reg.on rfl rfl ?_ | refine Reg.s rfl ?_ | refine Reg.sn rfl ?_ | refine Reg.nil ?_ | refine DK.o rfl rfl ?_ | refine DK.on rfl rfl ?_ | refine DK.s rfl ?_ | refine DK.sn rfl ?_ | refine AWP.seq ?_ | refine AWP.region ?_ | refine AWP.dk mixed ?_ | refine AWP.condT rfl ?_ | refine AWP.condF rfl ?_ | refine AWP.skip ?_ | refine AWP.ret ?_ | refine AWP.exit ?_ | refine AWP.block ?_ )
          refine Reg.o rfl (dstep_idxSl rfl rfl hrowo) ?_
          repeat (first | refine Reg.o rfl rfl ?_ | refine Reg.on rfl rfl ?_ | refine Reg.s rfl ?_ | refine Reg.sn rfl ?_ | refine Reg.nil ?_ | refine DK.o rfl rfl ?_ | refine DK.on rfl rfl ?_ | refine DK.s rfl ?_ | refine DK.sn rfl ?_ | refine AWP.seq ?_ | refine AWP.region ?_ | refine AWP.dk mixed ?_ | refine AWP.condT rfl ?_ | refine AWP.condF rfl ?_ | refine AWP.skip ?_ | refine AWP.ret ?_ | refine AWP.exit ?_ | refine AWP.block ?_ )
          refine Sub.keep ⟨.refl _, .refl _, .refl _, .refl _, .refl _, Le.bool ?_, .refl _, .refl _, .refl _, trivial⟩
          rw [hs1, g]; rfl
      repeat (first | refine Reg.o rfl rfl ?_ | refine Reg.on rfl rfl ?_ | refine Reg.s rfl ?_ | refine Reg.sn rfl ?_ | refine Reg.nil ?_ | refine DK.o rfl rfl ?_ | refine DK.on rfl rfl ?_ | refine DK.s rfl ?_ | refine DK.sn rfl ?_ | refine AWP.seq ?_ | refine AWP.region ?_ | refine AWP.dk mixed ?_ | refine AWP.condT rfl ?_ | refine AWP.condF rfl ?_ | refine AWP.skip ?_ | refine AWP.ret ?_ | refine AWP.exit ?_ | refine AWP.block ?_ )
      refine Reg.join [(2, crV l), (7, .sc (.int .i64 n)), (8, .sc (.int .i64 src)), (12, .list 1 (goneR n l)), (14, .list 1 (intsR out)), (17, .sc (.bool (someS l out (k + 1)))), (18, .sc (.bool (everyS l out (k + 1)))), (19, .sc (.int .i64 (lastS l out k))), (20, .sc (.int .i64 k))] [] ?_ ?_
      · refine Reg.gs rfl (fun g => ?_) (fun g => ?_)
        · repeat (first | refine Reg.o rfl rfl ?_ | refine Reg.on rfl rfl ?_ | refine Reg.s rfl ?_ | refine Reg.sn rfl ?_ | refine Reg.nil ?_ | refine DK.o rfl rfl ?_ | refine DK.on rfl rfl ?_ | refine DK.s rfl ?_ | refine DK.sn rfl ?_ | refine AWP.seq ?_ | refine AWP.region ?_ | refine AWP.dk mixed ?_ | refine AWP.condT rfl ?_ | refine AWP.condF rfl ?_ | refine AWP.skip ?_ | refine AWP.ret ?_ | refine AWP.exit ?_ | refine AWP.block ?_ )
          refine Reg.o rfl (dstep_idxSl rfl rfl hrowo) ?_
          repeat (first | refine Reg.o rfl rfl ?_ | refine Reg.on rfl rfl ?_ | refine Reg.s rfl ?_ | refine Reg.sn rfl ?_ | refine Reg.nil ?_ | refine DK.o rfl rfl ?_ | refine DK.on rfl rfl ?_ | refine DK.s rfl ?_ | refine DK.sn rfl ?_ | refine AWP.seq ?_ | refine AWP.region ?_ | refine AWP.dk mixed ?_ | refine AWP.condT rfl ?_ | refine AWP.condF rfl ?_ | refine AWP.skip ?_ | refine AWP.ret ?_ | refine AWP.exit ?_ | refine AWP.block ?_ )
          refine Sub.keep ⟨.refl _, .refl _, .refl _, .refl _, .refl _, .refl _, Le.bool ?_, .refl _, .refl _, trivial⟩
          rw [hs2, g]; rfl
        · repeat (first | refine Reg.o rfl rfl ?_ | refine Reg.on rfl rfl ?_ | refine Reg.s rfl ?_ | refine Reg.sn rfl ?_ | refine Reg.nil ?_ | refine DK.o rfl rfl ?_ | refine DK.on rfl rfl ?_ | refine DK.s rfl ?_ | refine DK.sn rfl ?_ | refine AWP.seq ?_ | refine AWP.region ?_ | refine AWP.dk mixed ?_ | refine AWP.condT rfl ?_ | refine AWP.condF rfl ?_ | refine AWP.skip ?_ | refine AWP.ret ?_ | refine AWP.exit ?_ | refine AWP.block ?_ )
          refine Sub.keep ⟨.refl _, .refl _, .refl _, .refl _, .refl _, .refl _, Le.bool ?_, .refl _, .refl _, trivial⟩
          rw [hs2, g]; rfl
      repeat (first | refine Reg.o rfl rfl ?_ | refine Reg.on rfl rfl ?_ | refine Reg.s rfl ?_ | refine Reg.sn rfl ?_ | refine Reg.nil ?_ | refine DK.o rfl rfl ?_ | refine DK.on rfl rfl ?_ | refine DK.s rfl ?_ | refine DK.sn rfl ?_ | refine AWP.seq ?_ | refine AWP.region ?_ | refine AWP.dk mixed ?_ | refine AWP.condT rfl ?_ | refine AWP.condF rfl ?_ | refine AWP.skip ?_ | refine AWP.ret ?_ | refine AWP.exit ?_ | refine AWP.block ?_ )
      refine Reg.o rfl (dstep_idxSl rfl rfl hrowo) ?_
      repeat (first | refine Reg.o rfl rfl ?_ | refine Reg.on rfl rfl ?_ | refine Reg.s rfl ?_ | refine Reg.sn rfl ?_ | refine Reg.nil ?_ | refine DK.o rfl rfl ?_ | refine DK.on rfl rfl ?_ | refine DK.s rfl ?_ | refine DK.sn rfl ?_ | refine AWP.seq ?_ | refine AWP.region ?_ | refine AWP.dk mixed ?_ | refine AWP.condT rfl ?_ | refine AWP.condF rfl ?_ | refine AWP.skip ?_ | refine AWP.ret ?_ | refine AWP.exit ?_ | refine AWP.block ?_ )
      have hs4 : (if v > lastS l out k then v else lastS l out k) = lastS l out (k + 1) := by
        rw [hs3, if_pos rfl]
        split <;> omega
      refine Reg.o rfl (dstep_idxSl rfl rfl hrows) ?_
      repeat (first | refine Reg.o rfl rfl ?_ | refine Reg.on rfl rfl ?_ | refine Reg.s rfl ?_ | refine Reg.sn rfl ?_ | refine Reg.nil ?_ | refine DK.o rfl rfl ?_ | refine DK.on rfl rfl ?_ | refine DK.s rfl ?_ | refine DK.sn rfl ?_ | refine AWP.seq ?_ | refine AWP.region ?_ | refine AWP.dk mixed ?_ | refine AWP.condT rfl ?_ | refine AWP.condF rfl ?_ | refine AWP.skip ?_ | refine AWP.ret ?_ | refine AWP.exit ?_ | refine AWP.block ?_ )
      refine Reg.gs rfl (fun g1 => ?_) (fun g1 => ?_)
      · have g1' : findC l src = none := sv_none.1 g1
        repeat (first | refine Reg.o rfl rfl ?_ | refine Reg.on rfl rfl ?_ | refine Reg.s rfl ?_ | refine Reg.sn rfl ?_ | refine Reg.nil ?_ | refine DK.o rfl rfl ?_ | refine DK.on rfl rfl ?_ | refine DK.s rfl ?_ | refine DK.sn rfl ?_ | refine AWP.seq ?_ | refine AWP.region ?_ | refine AWP.dk mixed ?_ | refine AWP.condT rfl ?_ | refine AWP.condF rfl ?_ | refine AWP.skip ?_ | refine AWP.ret ?_ | refine AWP.exit ?_ | refine AWP.block ?_ )
        refine Reg.gs rfl (fun g2 => ?_) (fun g2 => ?_)
        · have g2' : ¬ k = src := by simp at g2; omega
          repeat (first | refine Reg.o rfl rfl ?_ | refine Reg.on rfl rfl ?_ | refine Reg.s rfl ?_ | refine Reg.sn rfl ?_ | refine Reg.nil ?_ | refine DK.o rfl rfl ?_ | refine DK.on rfl rfl ?_ | refine DK.s rfl ?_ | refine DK.sn rfl ?_ | refine AWP.seq ?_ | refine AWP.region ?_ | refine AWP.dk mixed ?_ | refine AWP.condT rfl ?_ | refine AWP.condF rfl ?_ | refine AWP.skip ?_ | refine AWP.ret ?_ | refine AWP.exit ?_ | refine AWP.block ?_ )
          refine Reg.o rfl (dstep_idxSl rfl rfl hrowo) ?_
          repeat (first | refine Reg.o rfl rfl ?_ | refine Reg.on rfl rfl ?_ | refine Reg.s rfl ?_ | refine Reg.sn rfl ?_ | refine Reg.nil ?_ | refine DK.o rfl rfl ?_ | refine DK.on rfl rfl ?_ | refine DK.s rfl ?_ | refine DK.sn rfl ?_ | refine AWP.seq ?_ | refine AWP.region ?_ | refine AWP.dk mixed ?_ | refine AWP.condT rfl ?_ | refine AWP.condF rfl ?_ | refine AWP.skip ?_ | refine AWP.ret ?_ | refine AWP.exit ?_ | refine AWP.block ?_ )
          refine AWP.cond rfl (fun g3 => ?_) (fun g3 => ?_)
          · exfalso
            have h1 := hsp g1' (sv_none.1 hsv)
            have h2 : ¬ v = 0 := fun e => g2' (hz e)
            simp at g3
            omega
          · repeat (first | refine Reg.o rfl rfl ?_ | refine Reg.on rfl rfl ?_ | refine Reg.s rfl ?_ | refine Reg.sn rfl ?_ | refine Reg.nil ?_ | refine DK.o rfl rfl ?_ | refine DK.on rfl rfl ?_ | refine DK.s rfl ?_ | refine DK.sn rfl ?_ | refine AWP.seq ?_ | refine AWP.region ?_ | refine AWP.dk mixed ?_ | refine AWP.condT rfl ?_ | refine AWP.condF rfl ?_ | refine AWP.skip ?_ | refine AWP.ret ?_ | refine AWP.exit ?_ | refine AWP.block ?_ )
            refine ⟨k + 1, by omega, by omega, Sub.none ⟨.pure (pure_cr l), .int rfl, .int rfl, .pure (.list _ _ (pure_goneR n l)), .pure (.list _ _ (pure_intsR out)), .sc _, .sc _, .int hs4, .int hk1, trivial⟩⟩
        · repeat (first | refine Reg.o rfl rfl ?_ | refine Reg.on rfl rfl ?_ | refine Reg.s rfl ?_ | refine Reg.sn rfl ?_ | refine Reg.nil ?_ | refine DK.o rfl rfl ?_ | refine DK.on rfl rfl ?_ | refine DK.s rfl ?_ | refine DK.sn rfl ?_ | refine AWP.seq ?_ | refine AWP.region ?_ | refine AWP.dk mixed ?_ | refine AWP.condT rfl ?_ | refine AWP.condF rfl ?_ | refine AWP.skip ?_ | refine AWP.ret ?_ | refine AWP.exit ?_ | refine AWP.block ?_ )
          refine ⟨k + 1, by omega, by omega, Sub.none ⟨.pure (pure_cr l), .int rfl, .int rfl, .pure (.list _ _ (pure_goneR n l)), .pure (.list _ _ (pure_intsR out)), .sc _, .sc _, .int hs4, .int hk1, trivial⟩⟩
      · repeat (first | refine Reg.o rfl rfl ?_ | refine Reg.on rfl rfl ?_ | refine Reg.s rfl ?_ | refine Reg.sn rfl ?_ | refine Reg.nil ?_ | refine DK.o rfl rfl ?_ | refine DK.on rfl rfl ?_ | refine DK.s rfl ?_ | refine DK.sn rfl ?_ | refine AWP.seq ?_ | refine AWP.region ?_ | refine AWP.dk mixed ?_ | refine AWP.condT rfl ?_ | refine AWP.condF rfl ?_ | refine AWP.skip ?_ | refine AWP.ret ?_ | refine AWP.exit ?_ | refine AWP.block ?_ )
        refine ⟨k + 1, by omega, by omega, Sub.none ⟨.pure (pure_cr l), .int rfl, .int rfl, .pure (.list _ _ (pure_goneR n l)), .pure (.list _ _ (pure_intsR out)), .sc _, .sc _, .int hs4, .int hk1, trivial⟩⟩
  · have hkn : k = n := by
      have : ¬ k < n := by simpa using h
      omega
    repeat (first | refine Reg.o rfl rfl ?_ | refine Reg.on rfl rfl ?_ | refine Reg.s rfl ?_ | refine Reg.sn rfl ?_ | refine Reg.nil ?_ | refine DK.o rfl rfl ?_ | refine DK.on rfl rfl ?_ | refine DK.s rfl ?_ | refine DK.sn rfl ?_ | refine AWP.seq ?_ | refine AWP.region ?_ | refine AWP.dk mixed ?_ | refine AWP.condT rfl ?_ | refine AWP.condF rfl ?_ | refine AWP.skip ?_ | refine AWP.ret ?_ | refine AWP.exit ?_ | refine AWP.block ?_ )
    refine Reg.gs rfl (fun g => ?_) (fun g => ?_)
    · repeat (first | refine Reg.o rfl rfl ?_ | refine Reg.on rfl rfl ?_ | refine Reg.s rfl ?_ | refine Reg.sn rfl ?_ | refine Reg.nil ?_ | refine DK.o rfl rfl ?_ | refine DK.on rfl rfl ?_ | refine DK.s rfl ?_ | refine DK.sn rfl ?_ | refine AWP.seq ?_ | refine AWP.region ?_ | refine AWP.dk mixed ?_ | refine AWP.condT rfl ?_ | refine AWP.condF rfl ?_ | refine AWP.skip ?_ | refine AWP.ret ?_ | refine AWP.exit ?_ | refine AWP.block ?_ )
      refine Reg.c (Nat.le_refl _) rfl (CallOK.ofPure works_pure _ ?_)
      repeat (first | refine Reg.o rfl rfl ?_ | refine Reg.on rfl rfl ?_ | refine Reg.s rfl ?_ | refine Reg.sn rfl ?_ | refine Reg.nil ?_ | refine DK.o rfl rfl ?_ | refine DK.on rfl rfl ?_ | refine DK.s rfl ?_ | refine DK.sn rfl ?_ | refine AWP.seq ?_ | refine AWP.region ?_ | refine AWP.dk mixed ?_ | refine AWP.condT rfl ?_ | refine AWP.condF rfl ?_ | refine AWP.skip ?_ | refine AWP.ret ?_ | refine AWP.exit ?_ | refine AWP.block ?_ )
      exact fin_pure (.inr rfl) rfl (.sc _) rfl
    · have g' : someS l out k = true := by simpa using g
      obtain ⟨q, hq, sq, vq⟩ := someS_ex g'
      have hqo : q < out.length := by omega
      rw [List.getElem?_eq_getElem hqo] at vq
      have hall : ∀ j, j < k → sv l j = true → 0 ≤ (out[j]?).getD 0 ∧ (out[j]?).getD 0 ≤ l.length + 1 := by
        intro j hj sj
        obtain ⟨w, hw, w0, w1⟩ := hend.bound (List.getElem?_eq_getElem hqo) vq (sv_none.1 sq) j (by omega) (sv_none.1 sj)
        rw [hw]
        exact ⟨w0, w1⟩
      have hev : everyS l out k = true := everyS_of k fun j hj sj => (hall j hj sj).1
      have hla : lastS l out k ≤ l.length + 1 := lastS_le (by omega) k fun j hj sj => (hall j hj sj).2
      have hw : IntKind.i64.wrap ((l.length : Int) + 1) = (l.length : Int) + 1 := wrap_small (by omega) (by omega)
      rw [g', hev]
      repeat (first | refine Reg.o rfl rfl ?_ | refine Reg.on rfl rfl ?_ | refine Reg.s rfl ?_ | refine Reg.sn rfl ?_ | refine Reg.nil ?_ | refine DK.o rfl rfl ?_ | refine DK.on rfl rfl ?_ | refine DK.s rfl ?_ | refine DK.sn rfl ?_ | refine AWP.seq ?_ | refine AWP.region ?_ | refine AWP.dk mixed ?_ | refine AWP.condT rfl ?_ | refine AWP.condF rfl ?_ | refine AWP.skip ?_ | refine AWP.ret ?_ | refine AWP.exit ?_ | refine AWP.block ?_ )
      refine Reg.gs rfl (fun _ => ?_) (fun h => ?_)
      · repeat (first | refine Reg.o rfl rfl ?_ | refine Reg.on rfl rfl ?_ | refine Reg.s rfl ?_ | refine Reg.sn rfl ?_ | refine Reg.nil ?_ | refine DK.o rfl rfl ?_ | refine DK.on rfl rfl ?_ | refine DK.s rfl ?_ | refine DK.sn rfl ?_ | refine AWP.seq ?_ | refine AWP.region ?_ | refine AWP.dk mixed ?_ | refine AWP.condT rfl ?_ | refine AWP.condF rfl ?_ | refine AWP.skip ?_ | refine AWP.ret ?_ | refine AWP.exit ?_ | refine AWP.block ?_ )
        refine Reg.c (Nat.le_refl _) rfl (CallOK.ofPure works_pure _ ?_)
        repeat (first | refine Reg.o rfl rfl ?_ | refine Reg.on rfl rfl ?_ | refine Reg.s rfl ?_ | refine Reg.sn rfl ?_ | refine Reg.nil ?_ | refine DK.o rfl rfl ?_ | refine DK.on rfl rfl ?_ | refine DK.s rfl ?_ | refine DK.sn rfl ?_ | refine AWP.seq ?_ | refine AWP.region ?_ | refine AWP.dk mixed ?_ | refine AWP.condT rfl ?_ | refine AWP.condF rfl ?_ | refine AWP.skip ?_ | refine AWP.ret ?_ | refine AWP.exit ?_ | refine AWP.block ?_ )
        exact fin_pure (.inr rfl) rfl (.sc _) rfl
      · exfalso
        simp [hw] at h
        omega

set_option maxRecDepth 100000 in
theorem faultSpreads_lifted (os : Os) (started : os.Started) (H : Type) (enc : TypeId × Value → H) :
    ReturnsInHanded {} Try.checked os 7 .any (Rows.faultSpreadsSpec.pre6 enc Try.prog Try.f7 Rows.faultSpreadsRow.domain false) (Rows.faultSpreadsSpec.post enc Try.prog Try.f7 false true false false) := by
  refine returnsInHanded_of_change (C := Try.checked) Try_own started (by kernel_rfl) Try.func7
    (ChangeSpec.witness6 (enc := enc) (C := Try.checked) false ⟨#[], #[.int .u8 0, .int .u8 0, .slice none 0 0], []⟩ 8 (by kernel_rfl) (by kernel_rfl) (by kernel_rfl) (by kernel_rfl)) ?_
  intro W base args ds gs before hval hW _ _
  refine law_calls (P := Try.prog) (d := 8) (row := [.int .u8, .int .u8, .slice [.int .i64, .int .i64, .int .i64]]) (tb := 4) (by kernel_rfl) rfl Try_laid Try_maps Try_slices (by decide) rfl tb_bool (fun ds hds => ?_) (fun avs hl hf => ?_) hval hW
  · match ds, hds with
    | [_, _, _], _ => exact ⟨rfl, rfl, rfl⟩
  · obtain ⟨a, b, c, rfl, ha, hb, hc⟩ := avs3 hl hf
    obtain ⟨n, rfl, hn⟩ := open_u8 ha
    obtain ⟨s, rfl, hs⟩ := open_u8 hb
    obtain ⟨l, rfl, hl2⟩ := open_cr hc
    exact faultSpreads_ok n s hn hs l (Nat.le_trans hl2 (by decide))

theorem faultSpreads_holds : Rows.FaultSpreadsSaid :=
  OpenClaim.holds_of_wide 7 Try.f7 rfl rfl rfl rfl rfl rfl rfl ⟨rfl, rfl, rfl, rfl, rfl⟩ rfl rfl rfl rfl rfl (by kernel_rfl) Try.func7 (by kernel_rfl)
    (of_decide_eq_true (by kernel_rfl)) (by unfold Func.isWrapper; first | (rw [if_pos (by decide +kernel)]; kernel_rfl) | (rw [if_neg (by decide +kernel)]; exact ⟨rfl, rfl⟩))
    (fun os started H enc _ => faultSpreads_lifted os started H enc)


end Go.Proofs.Ytbpmbofinoinmaa
