import Derived.Test.YtpkpfgpfkajkpaaGCoD1
import Derived.Test.YtpkpfgpfkajkpaaGAvK4
namespace Go.Proofs.Ytpkpfgpfkajkpaa
open Go.Av Go.Proofs
set_option maxRecDepth 20000
def oneE (n : Int) (out : List Int) (r : Int) : Int := if r < 0 ∨ n ≤ r then 11 else if r ∈ out then 5 else 0
theorem distE_app (n : Int) (r : Int) : ∀ (l s : List Int), distE n s l = 0 → distE n s (l ++ [r]) = oneE n (s ++ l) r
  | [], s, _ => by rw [List.nil_append, List.append_nil]; rfl
  | x :: l, s, h => by
    unfold distE at h
    split at h
    · cases h
    · rename_i h1
      split at h
      · cases h
      · rename_i h2
        have := distE_app n r l (s ++ [x]) h
        rw [List.append_assoc] at this
        show (if x < 0 ∨ n ≤ x then (11 : Int) else if x ∈ s then 5 else distE n (s ++ [x]) (l ++ [r])) = _
        rw [if_neg h1, if_neg h2, this]
        rfl
def Good (n : Nat) (out : List Int) : Prop := distE n [] out = 0
theorem Good.app {n : Nat} {out : List Int} {r : Int} (h : Good n out) (h1 : oneE n out r = 0) : Good n (out ++ [r]) := by
  have := distE_app n r out [] h
  rw [List.nil_append, h1] at this
  exact this
theorem distE_lt {n : Nat} : ∀ (l s : List Int), distE n s l = 0 → (∀ x ∈ l, 0 ≤ x ∧ x < n) ∧ (∀ x ∈ l, x ∉ s) ∧ l.Nodup
  | [], s, _ => ⟨fun _ h => (by cases h), fun _ h => (by cases h), .nil⟩
  | y :: l, s, h => by
    unfold distE at h
    split at h
    · cases h
    · rename_i h1
      split at h
      · cases h
      · rename_i h2
        obtain ⟨a, b, c⟩ := distE_lt l _ h
        refine ⟨fun x hx => ?_, fun x hx => ?_, ?_⟩
        · rcases List.mem_cons.1 hx with rfl | hx
          · omega
          · exact a x hx
        · rcases List.mem_cons.1 hx with rfl | hx
          · exact h2
          · exact fun hs => b x hx (List.mem_append_left _ hs)
        · exact List.nodup_cons.2 ⟨fun hy => b y hy (by simp), c⟩
theorem nodup_len : ∀ (n : Nat) (l : List Int), l.Nodup → (∀ x ∈ l, 0 ≤ x ∧ x < n) → l.length ≤ n
  | 0, [], _, _ => Nat.le_refl _
  | 0, x :: l, _, h => by have := h x (by simp); omega
  | n + 1, l, hn, h => by
    have h1 := nodup_len n (l.filter fun x => decide (x ≠ (n : Int))) (hn.filter _) fun x hx => by
      obtain ⟨a, b⟩ := List.mem_filter.1 hx
      have := h x a
      have b : x ≠ (n : Int) := of_decide_eq_true b
      omega
    have h2 : l.length ≤ (l.filter fun x => decide (x ≠ (n : Int))).length + 1 := by
      by_cases hm : (n : Int) ∈ l
      · have e1 : l.erase (n : Int) = l.filter fun x => decide (x ≠ (n : Int)) := by
          rw [hn.erase_eq_filter]
          exact List.filter_congr fun x _ => by simp [Bool.beq_eq_decide_eq, bne]
        have := List.length_erase_of_mem hm
        rw [← e1]
        omega
      · have : l.filter (fun x => decide (x ≠ (n : Int))) = l := List.filter_eq_self.2 fun x hx => decide_eq_true fun e => hm (e ▸ hx)
        rw [this]
        omega
    omega
theorem Good.len {n : Nat} {out : List Int} (h : Good n out) : out.length ≤ n := nodup_len n out (distE_lt out [] h).2.2 (distE_lt out [] h).1
def I64 (x : Int) : Prop := -9223372036854775808 ≤ x ∧ x ≤ 9223372036854775807
def runE (n : Nat) (b c : Int) : Nat → Int → List Int → Int × List Int
  | 0, _, out => (0, out)
  | f + 1, r, out => if oneE n out r = 0 then (if (0 < c ∧ b - r < c) ∨ (c < 0 ∧ r + c < b) then (0, out ++ [r]) else runE n b c f (r + c) (out ++ [r])) else (oneE n out r, [])
def rangE (n : Nat) : List (Int × Int × Int) → List Int → Int × List Int
  | [], out => (0, out)
  | (a, b, c) :: ts, out => if c = 0 then (2, []) else if (0 < c ∧ b < a) ∨ (c < 0 ∧ a < b) then rangE n ts out else
      if (runE n b c (n + 1 - out.length) a out).1 = 0 then rangE n ts (runE n b c (n + 1 - out.length) a out).2 else ((runE n b c (n + 1 - out.length) a out).1, [])
def triR (ts : List (Int × Int × Int)) : List (List AV) := ts.map fun t => [.sc (.int .i64 t.1), .sc (.int .i64 t.2.1), .sc (.int .i64 t.2.2)]
theorem triR_len (ts : List (Int × Int × Int)) : (triR ts).length = ts.length := by simp [triR]
instance (l : List (Int × Int × Int)) : PRs (triR l) := ⟨fun r hr => by
  obtain ⟨a, _, rfl⟩ := List.mem_map.1 hr
  exact allPure_cons (.sc _) (allPure_cons (.sc _) (allPure_cons (.sc _) allPure_nil))⟩
theorem triR_ix (l : List (Int × Int × Int)) (k : Nat) (h : k < l.length) : rowIx (triR l) (k : Int) = some [.sc (.int .i64 l[k].1), .sc (.int .i64 l[k].2.1), .sc (.int .i64 l[k].2.2)] := rowIx_map (fun t : Int × Int × Int => [.sc (.int .i64 t.1), .sc (.int .i64 t.2.1), .sc (.int .i64 t.2.2)]) l k h
set_option maxHeartbeats 8000000 in
theorem ranges_ok (n : Nat) (hn : n ≤ 64) (ts : List (Int × Int × Int)) (hl : ts.length ≤ 1000000) (hb : ∀ t ∈ ts, I64 t.1 ∧ I64 t.2.1 ∧ I64 t.2.2) :
    CallOK Try.prog 14 [.sc (.int .i64 (n : Int)), .list 3 (triR ts)] [] fun res H' => res = .tup [.hsl 0 0 0 (rangE n ts []).2.length, .sc (.int .i64 (rangE n ts []).1)] ∧ H' = [[.cells 1 (intsR (rangE n ts []).2)]] := by
  refine CallOK.of cF14 ?_ (Nat.le_of_ble_eq_true rfl)
  have e0 := triR_len ts
  refine walkX ?_
  rw [decide_eq_false (show ¬ 64 < n by omega)]
  refine walkX ?_
  rw [e0]
  refine AWP.loop2 (fun (k : Nat) (out : List Int) => [(0, .sc (.int .i64 (n : Int))), (6, .hsl 0 0 0 out.length), (20, .list 3 (triR ts)), (21, .sc (.int .i64 (ts.length : Int))), (22, .sc (.int .i64 (k : Int)))])
    (fun k out => [[.cells 1 (intsR out)]]) (fun k out => k ≤ ts.length ∧ Good n out ∧ rangE n ts [] = rangE n (ts.drop k) out) (fun k out => ts.length - k) 0 [] ⟨Nat.zero_le _, rfl, rfl⟩ ?_ ?_
  · (apply Sub.to [1] [[(0,0)]]; all_goals (repeat' (first | exact ToAll.nil | exact famsTo.nil | exact famTo.nil | exact ToL.nil | exact ToR.nil | refine ToAll.cons ?_ ?_ | refine famsTo.cons ?_ ?_ | refine wt10 ?_ ?_ | exact To.undef _ | exact To.sc _ | exact To.hslL rfl rfl | exact To.ptrO rfl rfl rfl | exact To.mrefO rfl | exact To.nil rfl rfl rfl | exact wt1 | exact To.nilL | refine To.int ?_ | refine To.bool ?_ | refine To.hslL rfl ?_ | refine wt2 rfl ?_ ?_ ?_ | refine To.tupL ?_ | refine To.aggL ?_ | refine To.cptrL ?_ | refine wt3 ?_ | refine wt4 ?_ | refine To.cloL ?_ ?_ | exact wt5 | refine wt6 ?_ | refine ToB.one ?_ | exact wt7 | ((with_reducible apply ToL.consE); case e9 => rfl) | refine wt8 ?_ | refine ToL.cons ?_ ?_ | exact wt11 | refine wt9 ?_ ?_ | refine wt12 ?_ | (with_reducible rfl) | assumption)); all_goals (first | rfl | assumption | (simp; done) | (simp; omega) | (rw [wrap_small (by omega) (by omega)]; done) | (rw [wrap_small (by omega) (by omega)]; omega) | (refine congrArg Nat.cast ?_; assumption) | skip))
  rintro k out ⟨hk, hg, hd⟩
  refine walkX ?_
  refine AWP.condD rfl (fun h => ?_) (fun h => ?_)
  · have hr := triR_ix ts k h
    have hbk := hb ts[k] (List.getElem_mem h)
    have hd2 : rangE n (ts.drop k) out = rangE n (ts[k] :: ts.drop (k + 1)) out := by rw [List.drop_eq_getElem_cons h]
    rw [hd2] at hd
    clear hd2
    generalize ts[k] = t at *
    obtain ⟨a, b, c⟩ := t
    obtain ⟨⟨ha1, ha2⟩, ⟨hb1, hb2⟩, hc1, hc2⟩ := hbk
    dsimp only at *
    have hd3 : rangE n ((a, b, c) :: ts.drop (k + 1)) out = if c = 0 then (2, []) else if (0 < c ∧ b < a) ∨ (c < 0 ∧ a < b) then rangE n (ts.drop (k + 1)) out else
      if (runE n b c (n + 1 - out.length) a out).1 = 0 then rangE n (ts.drop (k + 1)) (runE n b c (n + 1 - out.length) a out).2 else ((runE n b c (n + 1 - out.length) a out).1, []) := rfl
    rw [hd3] at hd
    refine walkX ?_
    refine DK.nil ⟨by kernel_rfl, ?_⟩
    refine AWP.joinE (σ := Unit) (fun _ => [(0, .sc (.int .i64 (n : Int))), (6, .hsl 0 0 0 out.length), (9, .sc (.int .i64 a)), (10, .sc (.int .i64 b)), (11, .sc (.int .i64 c)), (20, .list 3 (triR ts)), (21, .sc (.int .i64 (ts.length : Int))), (22, .sc (.int .i64 (k : Int)))]) (fun _ => [[.cells 1 (intsR out)]]) (fun _ => c ≠ 0 ∧ (0 < c → a ≤ b) ∧ (c < 0 → b ≤ a) ∧
      rangE n ts [] = if (runE n b c (n + 1 - out.length) a out).1 = 0 then rangE n (ts.drop (k + 1)) (runE n b c (n + 1 - out.length) a out).2 else ((runE n b c (n + 1 - out.length) a out).1, [])) ?_ ?_
    · by_cases h0 : c = 0
      · rw [if_pos h0] at hd
        subst h0
        refine walkX ?_
        rw [hd]
        (refine ⟨.inr rfl, _, .tup [.hsl 0 0 0 0, .sc (.int .i64 (2))], [[.cells 1 []]], rfl, SubV.to [1] [[((3),0)]] ?_ ?_ rfl rfl rfl, rfl, rfl⟩; all_goals (all_goals (repeat' (first | exact ToAll.nil | exact famsTo.nil | exact famTo.nil | exact ToL.nil | exact ToR.nil | refine ToAll.cons ?_ ?_ | refine famsTo.cons ?_ ?_ | refine wt10 ?_ ?_ | exact To.undef _ | exact To.sc _ | exact To.hslL rfl rfl | exact To.ptrO rfl rfl rfl | exact To.mrefO rfl | exact To.nil rfl rfl rfl | exact wt1 | exact To.nilL | refine To.int ?_ | refine To.bool ?_ | refine To.hslL rfl ?_ | refine wt2 rfl ?_ ?_ ?_ | refine To.tupL ?_ | refine To.aggL ?_ | refine To.cptrL ?_ | refine wt3 ?_ | refine wt4 ?_ | refine To.cloL ?_ ?_ | exact wt5 | refine wt6 ?_ | refine ToB.one ?_ | exact wt7 | ((with_reducible apply ToL.consE); case e9 => rfl) | refine wt8 ?_ | refine ToL.cons ?_ ?_ | exact wt11 | refine wt9 ?_ ?_ | refine wt12 ?_ | (with_reducible rfl) | assumption)); all_goals (first | rfl | assumption | (simp; done) | (simp; omega) | (rw [wrap_small (by omega) (by omega)]; done) | (rw [wrap_small (by omega) (by omega)]; omega) | (refine congrArg Nat.cast ?_; assumption) | skip)))
      rw [if_neg h0] at hd
      refine walkX ?_
      rw [beq_false_of_ne h0]
      refine walkX ?_
      by_cases hc : 0 < c
      · rw [decide_eq_true hc]
        refine walkX ?_
        by_cases h1 : b < a
        · rw [if_pos (.inl ⟨hc, h1⟩)] at hd
          rw [decide_eq_true h1]
          refine walkX ?_
          refine ⟨k + 1, out, ⟨by omega, hg, hd⟩, by omega, ?_⟩
          exact Sub.w [] [[(0,0)]]
        · rw [decide_eq_false h1]
          refine walkX ?_
          rw [decide_eq_false (show ¬ c < 0 by omega)]
          refine walkX ?_
          rw [if_neg (by omega)] at hd
          refine ⟨(), ⟨h0, by omega, by omega, hd⟩, ?_⟩
          exact Sub.w [] [[(0,0)]]
      · rw [decide_eq_false hc]
        refine walkX ?_
        rw [decide_eq_true (show c < 0 by omega)]
        refine walkX ?_
        by_cases h1 : a < b
        · rw [if_pos (.inr ⟨by omega, h1⟩)] at hd
          rw [decide_eq_true h1]
          refine walkX ?_
          refine ⟨k + 1, out, ⟨by omega, hg, hd⟩, by omega, ?_⟩
          exact Sub.w [] [[(0,0)]]
        · rw [decide_eq_false h1]
          refine walkX ?_
          rw [if_neg (by omega)] at hd
          refine ⟨(), ⟨h0, by omega, by omega, hd⟩, ?_⟩
          exact Sub.w [] [[(0,0)]]
    clear hd hd3
    rintro _ ⟨h0, i1, i2, hd⟩
    refine walkX ?_
    refine AWP.loop2 (fun (r : Int) (o : List Int) => [(0, .sc (.int .i64 (n : Int))), (6, .hsl 0 0 0 o.length), (10, .sc (.int .i64 b)), (11, .sc (.int .i64 c)), (12, .sc (.int .i64 r)), (20, .list 3 (triR ts)), (21, .sc (.int .i64 (ts.length : Int))), (22, .sc (.int .i64 (k : Int)))])
      (fun r o => [[.cells 1 (intsR o)]]) (fun r o => Good n o ∧ (0 < c → r ≤ b) ∧ (c < 0 → b ≤ r) ∧ I64 r ∧ rangE n ts [] = if (runE n b c (n + 1 - o.length) r o).1 = 0 then rangE n (ts.drop (k + 1)) (runE n b c (n + 1 - o.length) r o).2 else ((runE n b c (n + 1 - o.length) r o).1, []))
      (fun r o => n + 1 - o.length) a out ?_ ?_ ?_
    · exact ⟨hg, i1, i2, ⟨ha1, ha2⟩, hd⟩
    · exact Sub.w [] [[(0,0)]]
    rintro r o ⟨hgo, h3, h4, ⟨h5, h6⟩, hd⟩
    have hlen := hgo.len
    rw [show n + 1 - o.length = (n - o.length) + 1 by omega] at hd
    have hd5 : runE n b c ((n - o.length) + 1) r o = if oneE n o r = 0 then (if (0 < c ∧ b - r < c) ∨ (c < 0 ∧ r + c < b) then (0, o ++ [r]) else runE n b c (n - o.length) (r + c) (o ++ [r])) else (oneE n o r, []) := rfl
    have hv := dist_ok (o ++ [r]) n hn (by simp; omega)
    have hr2 : intsR (o ++ [r]) = intsR o ++ [[.sc (.int .i64 r)]] := by simp [intsR]
    have e1 := intsR_len o
    rw [distE_app n r o [] hgo, List.nil_append, hr2] at hv
    refine AWP.seq ?_
    refine AWP.block ?_
    refine AWP.seq ?_
    refine AWP.join [(0, .sc (.int .i64 (n : Int))), (6, .hsl 0 0 0 o.length), (10, .sc (.int .i64 b)), (11, .sc (.int .i64 c)), (12, .sc (.int .i64 r)), (13, .sc (.int .i64 (oneE n o r))), (20, .list 3 (triR ts)), (21, .sc (.int .i64 (ts.length : Int))), (22, .sc (.int .i64 (k : Int)))] [[.cells 1 (intsR o)]] ?_ ?_
    · refine AWP.region ?_
      refine Reg.o rfl rfl ?_
      refine Reg.o rfl rfl ?_
      refine Reg.o rfl rfl ?_
      refine Reg.app2 (rows1 := intsR o) (rows2 := [[.sc (.int .i64 r)]]) rfl rfl rfl rfl e1 (by simp; omega) ?_ ?_
      · refine walkX ?_
        (refine Reg.pv (by first | exact Nat.zero_le _ | exact Nat.le_refl _ | (simp; done) | (simp; omega)) rfl hv (by first | exact .sc _ | (exact .agg _ (fun c hc => by simp at hc; rcases hc with h | h <;> subst h <;> exact .sc _)) | assumption) ?vw9 ?_; case vw9 => (all_goals (repeat' (first | exact ToAll.nil | exact famsTo.nil | exact famTo.nil | exact ToL.nil | exact ToR.nil | refine ToAll.cons ?_ ?_ | refine famsTo.cons ?_ ?_ | refine wt10 ?_ ?_ | exact To.undef _ | exact To.sc _ | exact To.hslL rfl rfl | exact To.ptrO rfl rfl rfl | exact To.mrefO rfl | exact To.nil rfl rfl rfl | exact wt1 | exact To.nilL | refine To.int ?_ | refine To.bool ?_ | refine To.hslL rfl ?_ | refine wt2 rfl ?_ ?_ ?_ | refine To.tupL ?_ | refine To.aggL ?_ | refine To.cptrL ?_ | refine wt3 ?_ | refine wt4 ?_ | refine To.cloL ?_ ?_ | exact wt5 | refine wt6 ?_ | refine ToB.one ?_ | exact wt7 | ((with_reducible apply ToL.consE); case e9 => rfl) | refine wt8 ?_ | refine ToL.cons ?_ ?_ | exact wt11 | refine wt9 ?_ ?_ | refine wt12 ?_ | (with_reducible rfl) | assumption)); all_goals (first | rfl | assumption | (simp; done) | (simp; omega))))
        refine walkX ?_
        refine Sub.trans (Sub.trunc o.length (g := 0) (i := 0) rfl) ?_
        rw [List.take_left' e1]
        exact Sub.w [] [[(0,0)]]
      · refine walkX ?_
        (refine Reg.pv (by first | exact Nat.zero_le _ | exact Nat.le_refl _ | (simp; done) | (simp; omega)) rfl hv (by first | exact .sc _ | (exact .agg _ (fun c hc => by simp at hc; rcases hc with h | h <;> subst h <;> exact .sc _)) | assumption) ?vw9 ?_; case vw9 => (all_goals (repeat' (first | exact ToAll.nil | exact famsTo.nil | exact famTo.nil | exact ToL.nil | exact ToR.nil | refine ToAll.cons ?_ ?_ | refine famsTo.cons ?_ ?_ | refine wt10 ?_ ?_ | exact To.undef _ | exact To.sc _ | exact To.hslL rfl rfl | exact To.ptrO rfl rfl rfl | exact To.mrefO rfl | exact To.nil rfl rfl rfl | exact wt1 | exact To.nilL | refine To.int ?_ | refine To.bool ?_ | refine To.hslL rfl ?_ | refine wt2 rfl ?_ ?_ ?_ | refine To.tupL ?_ | refine To.aggL ?_ | refine To.cptrL ?_ | refine wt3 ?_ | refine wt4 ?_ | refine To.cloL ?_ ?_ | exact wt5 | refine wt6 ?_ | refine ToB.one ?_ | exact wt7 | ((with_reducible apply ToL.consE); case e9 => rfl) | refine wt8 ?_ | refine ToL.cons ?_ ?_ | exact wt11 | refine wt9 ?_ ?_ | refine wt12 ?_ | (with_reducible rfl) | assumption)); all_goals (first | rfl | assumption | (simp; done) | (simp; omega))))
        refine walkX ?_
        exact Sub.w [] [[(0,0)]]
    by_cases he : oneE n o r = 0
    · rw [hd5, if_pos he] at hd
      have hgr := hgo.app he
      have hl2 := hgr.len
      rw [List.length_append] at hl2
      have hr0 : 0 ≤ r ∧ r < n := by
        unfold oneE at he
        split at he
        · cases he
        · omega
      have e2 : (o ++ [r]).length = o.length + 1 := by simp
      have e3 : n + 1 - (o ++ [r]).length = n - o.length := by omega
      rw [he]
      refine walkX ?_
      by_cases hc : 0 < c
      · rw [decide_eq_true hc]
        refine walkX ?_
        rw [wrap_small (show -9223372036854775808 ≤ b - r by omega) (show b - r ≤ 9223372036854775807 by omega)]
        by_cases h7 : b - r < c
        · rw [decide_eq_true h7]
          refine walkX ?_
          rw [if_pos (show (0 < c ∧ b - r < c) ∨ (c < 0 ∧ r + c < b) from .inl ⟨hc, h7⟩), if_pos rfl] at hd
          refine ⟨k + 1, o ++ [r], ⟨by omega, hgr, hd⟩, by omega, ?_⟩
          rw [hr2, e2]
          exact Sub.w [] [[(2,0)]]
        · rw [decide_eq_false h7]
          refine walkX ?_
          rw [decide_eq_false (show ¬ c < 0 by omega)]
          refine walkX ?_
          rw [if_neg (show ¬ ((0 < c ∧ b - r < c) ∨ (c < 0 ∧ r + c < b)) by omega), ← e3] at hd
          refine ⟨r + c, o ++ [r], ⟨hgr, by omega, by omega, ⟨by omega, by omega⟩, hd⟩, by omega, ?_⟩
          rw [hr2, e2]
          exact Sub.w [] [[(2,0)]]
      · rw [decide_eq_false hc]
        refine walkX ?_
        rw [decide_eq_true (show c < 0 by omega)]
        refine walkX ?_
        rw [wrap_small (show -9223372036854775808 ≤ r + c by omega) (show r + c ≤ 9223372036854775807 by omega)]
        by_cases h7 : r + c < b
        · rw [decide_eq_true h7]
          refine walkX ?_
          rw [if_pos (show (0 < c ∧ b - r < c) ∨ (c < 0 ∧ r + c < b) from .inr ⟨by omega, h7⟩), if_pos rfl] at hd
          refine ⟨k + 1, o ++ [r], ⟨by omega, hgr, hd⟩, by omega, ?_⟩
          rw [hr2, e2]
          exact Sub.w [] [[(2,0)]]
        · rw [decide_eq_false h7]
          refine walkX ?_
          rw [if_neg (show ¬ ((0 < c ∧ b - r < c) ∨ (c < 0 ∧ r + c < b)) by omega), ← e3] at hd
          refine ⟨r + c, o ++ [r], ⟨hgr, by omega, by omega, ⟨by omega, by omega⟩, hd⟩, by omega, ?_⟩
          rw [hr2, e2]
          exact Sub.w [] [[(2,0)]]
    rw [hd5, if_neg he, if_neg he] at hd
    have he2 : oneE n o r = 11 ∨ oneE n o r = 5 := by
      unfold oneE at he ⊢
      split
      · exact .inl rfl
      · rename_i q
        rw [if_neg q] at he
        split
        · exact .inr rfl
        · rename_i q
          rw [if_neg q] at he
          exact absurd rfl he
    rcases he2 with he2 | he2
    · rw [he2] at hd ⊢
      refine walkX ?_
      rw [hd]
      (refine ⟨.inr rfl, _, .tup [.hsl 0 0 0 0, .sc (.int .i64 (11))], [[.cells 1 []]], rfl, SubV.to [1] [[((1),0)]] ?_ ?_ rfl rfl rfl, rfl, rfl⟩; all_goals (all_goals (repeat' (first | exact ToAll.nil | exact famsTo.nil | exact famTo.nil | exact ToL.nil | exact ToR.nil | refine ToAll.cons ?_ ?_ | refine famsTo.cons ?_ ?_ | refine wt10 ?_ ?_ | exact To.undef _ | exact To.sc _ | exact To.hslL rfl rfl | exact To.ptrO rfl rfl rfl | exact To.mrefO rfl | exact To.nil rfl rfl rfl | exact wt1 | exact To.nilL | refine To.int ?_ | refine To.bool ?_ | refine To.hslL rfl ?_ | refine wt2 rfl ?_ ?_ ?_ | refine To.tupL ?_ | refine To.aggL ?_ | refine To.cptrL ?_ | refine wt3 ?_ | refine wt4 ?_ | refine To.cloL ?_ ?_ | exact wt5 | refine wt6 ?_ | refine ToB.one ?_ | exact wt7 | ((with_reducible apply ToL.consE); case e9 => rfl) | refine wt8 ?_ | refine ToL.cons ?_ ?_ | exact wt11 | refine wt9 ?_ ?_ | refine wt12 ?_ | (with_reducible rfl) | assumption)); all_goals (first | rfl | assumption | (simp; done) | (simp; omega) | (rw [wrap_small (by omega) (by omega)]; done) | (rw [wrap_small (by omega) (by omega)]; omega) | (refine congrArg Nat.cast ?_; assumption) | skip)))
    · rw [he2] at hd ⊢
      refine walkX ?_
      rw [hd]
      (refine ⟨.inr rfl, _, .tup [.hsl 0 0 0 0, .sc (.int .i64 (5))], [[.cells 1 []]], rfl, SubV.to [1] [[((1),0)]] ?_ ?_ rfl rfl rfl, rfl, rfl⟩; all_goals (all_goals (repeat' (first | exact ToAll.nil | exact famsTo.nil | exact famTo.nil | exact ToL.nil | exact ToR.nil | refine ToAll.cons ?_ ?_ | refine famsTo.cons ?_ ?_ | refine wt10 ?_ ?_ | exact To.undef _ | exact To.sc _ | exact To.hslL rfl rfl | exact To.ptrO rfl rfl rfl | exact To.mrefO rfl | exact To.nil rfl rfl rfl | exact wt1 | exact To.nilL | refine To.int ?_ | refine To.bool ?_ | refine To.hslL rfl ?_ | refine wt2 rfl ?_ ?_ ?_ | refine To.tupL ?_ | refine To.aggL ?_ | refine To.cptrL ?_ | refine wt3 ?_ | refine wt4 ?_ | refine To.cloL ?_ ?_ | exact wt5 | refine wt6 ?_ | refine ToB.one ?_ | exact wt7 | ((with_reducible apply ToL.consE); case e9 => rfl) | refine wt8 ?_ | refine ToL.cons ?_ ?_ | exact wt11 | refine wt9 ?_ ?_ | refine wt12 ?_ | (with_reducible rfl) | assumption)); all_goals (first | rfl | assumption | (simp; done) | (simp; omega) | (rw [wrap_small (by omega) (by omega)]; done) | (rw [wrap_small (by omega) (by omega)]; omega) | (refine congrArg Nat.cast ?_; assumption) | skip)))
  have hk : k = ts.length := by omega
  subst hk
  rw [List.drop_length] at hd
  have hd4 : rangE n [] out = (0, out) := rfl
  rw [hd4] at hd
  refine walkX ?_
  rw [hd]
  exact endW [[(0,0)]] (⟨rfl, rfl⟩)
end Go.Proofs.Ytpkpfgpfkajkpaa
namespace Go.Proofs.Ytpkpfgpfkajkpaa
open Go.Av Go.Proofs
set_option maxRecDepth 20000
end Go.Proofs.Ytpkpfgpfkajkpaa
namespace Go.Proofs.Ytpkpfgpfkajkpaa
open Go.Av Go.Proofs
set_option maxRecDepth 20000
def insK (x : Int) : List Int → List Int
  | [] => [x]
  | y :: l => match ltK y x with
    | true => y :: insK x l
    | false => x :: y :: l
def isK : List Int → List Int
  | [] => []
  | x :: l => insK x (isK l)
theorem insK_perm (x : Int) : ∀ l, (insK x l).Perm (x :: l)
  | [] => .refl _
  | y :: l => by
    unfold insK
    split
    · exact ((insK_perm x l).cons y).trans (.swap x y l)
    · exact .refl _
theorem isK_perm : ∀ l, (isK l).Perm l
  | [] => .refl _
  | x :: l => (insK_perm x _).trans ((isK_perm l).cons x)
theorem ltK_iff (a b : Int) : ltK a b = true ↔ a < b := by rw [ltK_eq, decide_eq_true_eq]
theorem insK_sorted (x : Int) : ∀ l : List Int, l.Pairwise (· ≤ ·) → (insK x l).Pairwise (· ≤ ·)
  | [], _ => List.pairwise_singleton _ _
  | y :: l, h => by
    obtain ⟨h1, h2⟩ := List.pairwise_cons.1 h
    unfold insK
    split
    · rename_i e
      have e := (ltK_iff y x).1 e
      refine List.pairwise_cons.2 ⟨fun z hz => ?_, insK_sorted x l h2⟩
      rcases List.mem_cons.1 ((insK_perm x l).subset hz) with rfl | hz
      · omega
      · exact h1 z hz
    · rename_i e
      have e : ¬ y < x := fun h => by rw [(ltK_iff y x).2 h] at e; cases e
      refine List.pairwise_cons.2 ⟨fun z hz => ?_, h⟩
      rcases List.mem_cons.1 hz with rfl | hz
      · omega
      · have := h1 z hz; omega
theorem isK_sorted : ∀ l : List Int, (isK l).Pairwise (· ≤ ·)
  | [] => .nil
  | x :: l => insK_sorted x _ (isK_sorted l)
theorem isK_eq (l : List Int) : isK l = sortI l := by
  refine sorted_eq (isK_perm l) fun p q h1 h2 => ?_
  have := List.pairwise_iff_getElem.1 (isK_sorted l) p q (by omega) h2 h1
  simp only [List.getD_eq_getElem?_getD, List.getElem?_eq_getElem h2, List.getElem?_eq_getElem (show p < (isK l).length by omega), Option.getD_some]
  exact this
def keysK : List (Value × AV) → Option (List (Int × AV))
  | [] => some []
  | (.int .i64 n, a) :: r => match keysK r with
    | some l => some ((n, a) :: l)
    | none => none
  | _ :: _ => none
theorem keysK_eq : ∀ (es : List (Value × AV)) (l : List (Int × AV)), keysK es = some l → es = keyM l
  | [], l, h => by injection h with h; subst h; rfl
  | (k, a) :: r, l, h => by
    unfold keysK at h
    split at h
    · rename_i e
      cases e
    · rename_i n a' r' e
      injection e with e1 e2
      injection e1 with e3 e4
      subst e2; subst e3; subst e4
      split at h
      · rename_i l' e
        injection h with h
        subst h
        rw [keysK_eq _ _ e]
        rfl
      · cases h
    · cases h
def sum65 (args : List AV) (H : Heap) : Option (AV × Heap) :=
  match args with
  | [.clo (.func 103) [] [.ptr g i 0 0]] => match hget H g i with
    | some (.cells 1 [[.mref g' i']]) => match hget H g' i' with
      | some (.map es) => match keysK es with
        | some l => match Nat.ble l.length 12 with
          | true => some (.hsl H.length 0 0 l.length, H ++ [[.cells 1 (intsR (isK (l.map (·.1))))]])
          | false => none
        | none => none
      | _ => none
    | _ => none
  | _ => none
theorem sum65_ok (args : List AV) (H : Heap) (v : AV) (H' : Heap) (h : sum65 args H = some (v, H')) : CallOK Try.prog 65 args H fun r H2 => r = v ∧ H2 = H' := by
  unfold sum65 at h
  split at h
  · split at h
    · rename_i g i g' i' h1
      split at h
      · rename_i es h2
        split at h
        · rename_i l h3
          split at h
          · rename_i h4
            simp only [Option.some.injEq, Prod.mk.injEq] at h
            obtain ⟨rfl, rfl⟩ := h
            rw [keysK_eq _ _ h3] at h2
            rw [isK_eq]
            exact sorted_at l h1 h2 (Nat.le_of_ble_eq_true h4)
          · cases h
        · cases h
      · cases h
    · cases h
  · cases h
def natsK : List (List AV) → Option (List Nat)
  | [] => some []
  | [.sc (.int .i64 (.ofNat n))] :: r => match natsK r with
    | some l => some (n :: l)
    | none => none
  | _ :: _ => none
theorem natsK_eq : ∀ (es : List (List AV)) (l : List Nat), natsK es = some l → es = natsR l
  | [], l, h => by injection h with h; subst h; rfl
  | x :: r, l, h => by
    unfold natsK at h
    split at h
    · rename_i e
      cases e
    · rename_i n r' e
      injection e with e1 e2
      subst e1; subst e2
      split at h
      · rename_i l' e
        injection h with h
        subst h
        rw [natsK_eq _ _ e]
        rfl
      · cases h
    · cases h
def intsK : List (List AV) → Option (List Int)
  | [] => some []
  | [.sc (.int .i64 n)] :: r => match intsK r with
    | some l => some (n :: l)
    | none => none
  | _ :: _ => none
theorem intsK_eq : ∀ (es : List (List AV)) (l : List Int), intsK es = some l → es = intsR l
  | [], l, h => by injection h with h; subst h; rfl
  | x :: r, l, h => by
    unfold intsK at h
    split at h
    · rename_i e
      cases e
    · rename_i n r' e
      injection e with e1 e2
      subst e1; subst e2
      split at h
      · rename_i l' e
        injection h with h
        subst h
        rw [intsK_eq _ _ e]
        rfl
      · cases h
    · cases h
def scK : List (List AV) → Bool
  | [] => true
  | [.sc _] :: r => scK r
  | _ :: _ => false
theorem scK_pure : ∀ (es : List (List AV)), scK es = true → ∀ r ∈ es, ∀ c ∈ r, Pure c
  | [], _, r, hr, _, _ => by cases hr
  | x :: es, h, r, hr, c, hc => by
    unfold scK at h
    split at h
    · rename_i e
      cases e
    · rename_i v r' e
      injection e with e1 e2
      subst e1; subst e2
      rcases List.mem_cons.1 hr with rfl | hr
      · rw [List.mem_singleton.1 hc]
        exact .sc _
      · exact scK_pure _ h r hr c hc
    · cases h
def okS : List Nat → Bool
  | [] => true
  | a :: l => (Nat.blt 0 a && Nat.ble a 1000) && okS l
theorem okS_spec : ∀ (l : List Nat), okS l = true → ∀ a ∈ l, 0 < a ∧ a ≤ 1000
  | [], _, a, ha => by cases ha
  | x :: l, h, a, ha => by
    simp only [okS, Bool.and_eq_true] at h
    rcases List.mem_cons.1 ha with rfl | ha
    · exact ⟨Nat.le_of_ble_eq_true h.1.1, Nat.le_of_ble_eq_true h.1.2⟩
    · exact okS_spec l h.2 a ha
def sum74 (args : List AV) (H : Heap) : Option (AV × Heap) :=
  match args with
  | [.agg [.hsl g i 0 n, .hsl g' i' 0 m], .sc (.int .i64 (.ofNat r))] => match hget H g i, hget H g' i' with
    | some (.cells 1 rows), some (.cells 1 W) => match natsK rows with
      | some s => match (Nat.beq rows.length n && Nat.beq W.length m) && (scK W && okS s) && (Nat.ble s.length 1000 && Nat.ble r 1000000) with
        | true => some (.hsl H.length 0 0 s.length, H ++ [[.cells 1 (natsR (coordN s r))]])
        | false => none
      | none => none
    | _, _ => none
  | _ => none
theorem sum74_ok (args : List AV) (H : Heap) (v : AV) (H' : Heap) (h : sum74 args H = some (v, H')) : CallOK Try.prog 74 args H fun r H2 => r = v ∧ H2 = H' := by
  unfold sum74 at h
  split at h
  · rename_i g i n g' i' m r
    split at h
    · rename_i rows W h1 h2
      split at h
      · rename_i s h3
        split at h
        · rename_i h4
          simp only [Bool.and_eq_true] at h4
          obtain ⟨⟨⟨a1, a2⟩, a3, a4⟩, a5, a6⟩ := h4
          have a1 := Nat.eq_of_beq_eq_true a1
          have a2 := Nat.eq_of_beq_eq_true a2
          simp only [Option.some.injEq, Prod.mk.injEq] at h
          obtain ⟨rfl, rfl⟩ := h
          have := natsK_eq _ _ h3
          subst this
          have hW : PRs W := ⟨scK_pure W a3⟩
          have hc := coords_ok s W r (Nat.le_of_ble_eq_true a5) (okS_spec s a4) (Nat.le_of_ble_eq_true a6)
          have h1' : hget (H ++ gh []) g i = some (.cells 1 (natsR s)) := by rw [show H ++ gh [] = H from List.append_nil H]; exact h1
          have h2' : hget (H ++ gh []) g' i' = some (.cells 1 W) := by rw [show H ++ gh [] = H from List.append_nil H]; exact h2
          refine CallOK.viewL (fun r hr c hc => ?_) hc (ToL.cons (To.aggL (ToL.cons (wt2 h1' rfl a1 rfl) (ToL.cons (wt2 h2' rfl a2 rfl) ToL.nil))) (ToL.cons (To.sc _) ToL.nil))
          obtain ⟨n, _, rfl⟩ := List.mem_map.1 hr
          exact ⟨_, List.mem_singleton.1 hc⟩
        · cases h
      · cases h
    · cases h
  · cases h
def oneK (H : Heap) (a : AV) : Option (List Int) :=
  match a with
  | .hsl g i 0 n => match hget H g i with
    | some (.cells 1 rows) => match Nat.beq rows.length n with
      | true => intsK rows
      | false => none
    | _ => none
  | .sc (.slice none 0 0) => some []
  | .list 1 rows => intsK rows
  | _ => none
theorem oneK_to {H : Heap} {a : AV} {l : List Int} (h : oneK H a = some l) : To (ToT (H ++ gh []) H.length (notIn [])) (rho []) a (.list 1 (intsR l)) := by
  unfold oneK at h
  split at h
  · rename_i g i n
    split at h
    · rename_i rows h1
      split at h
      · rename_i h2
        have := intsK_eq _ _ h
        subst this
        exact wt2 (by rw [show H ++ gh [] = H from List.append_nil H]; exact h1) rfl (Nat.eq_of_beq_eq_true h2) rfl
      · cases h
    · cases h
  · injection h with h
    subst h
    exact To.nilL
  · have := intsK_eq _ _ h
    subst this
    exact To.pure (.list _ _ (prs _))
  · cases h
def sum80 (args : List AV) (H : Heap) : Option (AV × Heap) :=
  match args with
  | [.hsl g i 0 2] => match hget H g i with
    | some (.cells 1 [[a], [b]]) => match oneK H a, oneK H b with
      | some l, some m => match Nat.ble (l.length + m.length) 1000000 with
        | true => some (.hsl H.length 0 0 (l.length + m.length), H ++ [[.cells 1 (intsR (l ++ m))]])
        | false => none
      | _, _ => none
    | _ => none
  | _ => none
theorem sum80_ok (args : List AV) (H : Heap) (v : AV) (H' : Heap) (h : sum80 args H = some (v, H')) : CallOK Try.prog 80 args H fun r H2 => r = v ∧ H2 = H' := by
  unfold sum80 at h
  split at h
  · rename_i g i
    split at h
    · rename_i a b h1
      split at h
      · rename_i l m h2 h3
        split at h
        · rename_i h4
          simp only [Option.some.injEq, Prod.mk.injEq] at h
          obtain ⟨rfl, rfl⟩ := h
          have e1 : sumLen [l, m] = l.length + m.length := by simp [sumLen]
          have e2 : [l, m].flatten = l ++ m := by simp
          have hc := concat_ok [l, m] (by simp) (by rw [e1]; exact Nat.le_of_ble_eq_true h4)
          rw [e1, e2] at hc
          have h1' : hget (H ++ gh []) g i = some (.cells 1 [[a], [b]]) := by rw [show H ++ gh [] = H from List.append_nil H]; exact h1
          refine CallOK.viewL (fun r hr c hc => ?_) hc (ToL.cons (To.base (.fz (.hsl g i 0 2 1 [[a], [b]] rfl h1' (Nat.le_refl _))) ?_) ToL.nil)
          · obtain ⟨n, _, rfl⟩ := List.mem_map.1 hr
            exact ⟨_, List.mem_singleton.1 hc⟩
          · refine .list 1 _ _ rfl (fun i r r' a b => ?_) fun i r r' j x y a b c d => ?_
            · match i with
              | 0 => simp [listsR] at a b; subst a; subst b; rfl
              | 1 => simp [listsR] at a b; subst a; subst b; rfl
              | i + 2 => simp at a
            · match i with
              | 0 =>
                simp [listsR] at a b; subst a; subst b
                cases j with
                | zero => simp at c d; subst c; subst d; exact oneK_to h2
                | succ j => simp at c
              | 1 =>
                simp [listsR] at a b; subst a; subst b
                cases j with
                | zero => simp at c d; subst c; subst d; exact oneK_to h3
                | succ j => simp at c
              | i + 2 => simp at a
        · cases h
      · cases h
    · cases h
  · cases h
def trisK : List (List AV) → Option (List (Int × Int × Int))
  | [] => some []
  | [.sc (.int .i64 a), .sc (.int .i64 b), .sc (.int .i64 c)] :: r => match trisK r with
    | some l => some ((a, b, c) :: l)
    | none => none
  | _ :: _ => none
theorem trisK_eq : ∀ (es : List (List AV)) (l : List (Int × Int × Int)), trisK es = some l → es = triR l
  | [], l, h => by injection h with h; subst h; rfl
  | x :: r, l, h => by
    unfold trisK at h
    split at h
    · rename_i e
      cases e
    · rename_i a b c r' e
      injection e with e1 e2
      subst e1; subst e2
      split at h
      · rename_i l' e
        injection h with h
        subst h
        rw [trisK_eq _ _ e]
        rfl
      · cases h
    · cases h
def i64K (x : Int) : Bool := decide (-9223372036854775808 ≤ x) && decide (x ≤ 9223372036854775807)
def tri64 : List (Int × Int × Int) → Bool
  | [] => true
  | (a, b, c) :: l => (i64K a && (i64K b && i64K c)) && tri64 l
theorem tri64_spec : ∀ (l : List (Int × Int × Int)), tri64 l = true → ∀ t ∈ l, I64 t.1 ∧ I64 t.2.1 ∧ I64 t.2.2
  | [], _, t, ht => by cases ht
  | (a, b, c) :: l, h, t, ht => by
    simp only [tri64, i64K, Bool.and_eq_true, decide_eq_true_eq] at h
    rcases List.mem_cons.1 ht with rfl | ht
    · exact ⟨h.1.1, h.1.2.1, h.1.2.2⟩
    · exact tri64_spec l h.2 t ht
def sum14 (args : List AV) (H : Heap) : Option (AV × Heap) :=
  match args with
  | [.sc (.int .i64 (.ofNat n)), .hsl g i 0 m] => match hget H g i with
    | some (.cells 3 rows) => match trisK rows with
      | some ts => match (Nat.beq rows.length m && Nat.ble n 64) && (Nat.ble ts.length 1000000 && tri64 ts) with
        | true => some (.tup [.hsl H.length 0 0 (rangE n ts []).2.length, .sc (.int .i64 (rangE n ts []).1)], H ++ [[.cells 1 (intsR (rangE n ts []).2)]])
        | false => none
      | none => none
    | _ => none
  | _ => none
theorem sum14_ok (args : List AV) (H : Heap) (v : AV) (H' : Heap) (h : sum14 args H = some (v, H')) : CallOK Try.prog 14 args H fun r H2 => r = v ∧ H2 = H' := by
  unfold sum14 at h
  split at h
  · rename_i n g i m
    split at h
    · rename_i rows h1
      split at h
      · rename_i ts h3
        split at h
        · rename_i h4
          simp only [Bool.and_eq_true] at h4
          obtain ⟨⟨a1, a2⟩, a3, a4⟩ := h4
          have a1 := Nat.eq_of_beq_eq_true a1
          simp only [Option.some.injEq, Prod.mk.injEq] at h
          obtain ⟨rfl, rfl⟩ := h
          have := trisK_eq _ _ h3
          subst this
          have hc := ranges_ok n (Nat.le_of_ble_eq_true a2) ts (Nat.le_of_ble_eq_true a3) (tri64_spec ts a4)
          have h1' : hget (H ++ gh []) g i = some (.cells 3 (triR ts)) := by rw [show H ++ gh [] = H from List.append_nil H]; exact h1
          refine CallOK.viewT (fun r hr c hc => ?_) hc (ToL.cons (To.sc _) (ToL.cons (wt2 h1' rfl a1 rfl) ToL.nil))
          obtain ⟨n, _, rfl⟩ := List.mem_map.1 hr
          exact ⟨_, List.mem_singleton.1 hc⟩
        · cases h
      · cases h
    · cases h
  · cases h
def sumC : Caller := fun f args H =>
  match Nat.beq f 65 with
  | true => sum65 args H
  | false => match Nat.beq f 74 with
    | true => sum74 args H
    | false => match Nat.beq f 80 with
      | true => sum80 args H
      | false => match Nat.beq f 14 with
        | true => sum14 args H
        | false => none
theorem sumC_ok : CallerOK Try.prog sumC := by
  intro f args H v H' h
  unfold sumC at h
  split at h
  · rename_i e
    have := Nat.eq_of_beq_eq_true e
    subst this
    exact sum65_ok args H v H' h
  · split at h
    · rename_i e
      have := Nat.eq_of_beq_eq_true e
      subst this
      exact sum74_ok args H v H' h
    · split at h
      · rename_i e
        have := Nat.eq_of_beq_eq_true e
        subst this
        exact sum80_ok args H v H' h
      · split at h
        · rename_i e
          have := Nat.eq_of_beq_eq_true e
          subst this
          exact sum14_ok args H v H' h
        · cases h
end Go.Proofs.Ytpkpfgpfkajkpaa
namespace Go.Proofs.Ytpkpfgpfkajkpaa
open Go.Av Go.Proofs
set_option maxRecDepth 1000000
set_option maxHeartbeats 0
def tabC : List (Nat × IFun) := [(13, F13), (16, F16), (17, F17), (19, F19), (20, F20), (22, F22), (24, F24), (27, F27), (28, F28), (31, F31), (33, F33), (35, F35), (37, F37), (41, F41), (48, F48), (58, F58), (59, F59), (61, F61), (63, F63), (64, F64), (66, F66), (67, F67), (68, F68), (69, F69), (70, F70), (71, F71), (72, F72), (73, F73), (75, F75), (76, F76), (77, F77), (78, F78), (79, F79), (81, F81), (82, F82), (86, F86), (87, F87), (89, F89), (104, F104), (105, F105), (106, F106), (108, F108), (116, F116), (117, F117)]
theorem tabC_ok : TabOK Try.prog tabC :=
  ⟨cF13, cF16, cF17, cF19, cF20, cF22, cF24, cF27, cF28, cF31, cF33, cF35, cF37, cF41, cF48, cF58, cF59, cF61, cF63, cF64, cF66, cF67, cF68, cF69, cF70, cF71, cF72, cF73, cF75, cF76, cF77, cF78, cF79, cF81, cF82, cF86, cF87, cF89, cF104, cF105, cF106, cF108, cF116, cF117, trivial⟩
theorem works_run : runL sumC (tabL tabC) 1000 20 13 [] [] = some (.sc (.bool true), []) := by kernel_rfl
theorem works_call : CallOK Try.prog 13 [] [] fun res _ => res = .sc (.bool true) :=
  (runL_sound mixed sumC_ok (tabL_ok tabC_ok) 20 13 [] [] _ _ works_run).mono fun _ _ h => h.1
theorem works_ok : PureRun Try.prog 13 [] (.sc (.bool true)) := PureRun.of (fun _ h => by cases h) (.sc _) works_call
end Go.Proofs.Ytpkpfgpfkajkpaa
namespace Go.Proofs.Ytpkpfgpfkajkpaa
open Go.Av Go.Proofs
set_option maxRecDepth 20000
theorem rowsX_whole {H : Heap} {g i sz len : Nat} {rows : List (List AV)} (h : hget H g i = some (.cells sz rows)) (hl : rows.length = len) : rowsX sz H (.hsl g i 0 len) = some (sz, rows) := by
  subst hl
  have e : Nat.ble (0 + rows.length) rows.length = true := Nat.ble_eq_true_of_le (by omega)
  simp only [rowsX, rowsOf, h, e, List.drop_zero, List.take_length]
def seek (g : Nat → Option (List Int)) : Nat → Nat → Option (List Int)
  | _, 0 => none
  | d, c + 1 => match g d with
    | some l => some l
    | none => seek g (d + 1) c
def headE (f : Nat → Nat → Option (List Int)) (n d : Nat) : Option (List Int) :=
  if n % d = 0 then (match f (n / d) d with
    | some l => some ((d : Int) :: l)
    | none => none) else none
def facE : Nat → Nat → Nat → Option (List Int)
  | 0, n, _ => if n = 1 then some [] else none
  | k + 1, n, most => seek (headE (facE k) n) 1 (min n most)
theorem seek_next {g : Nat → Option (List Int)} {d c : Nat} (h : g d = none) : seek g d (c + 1) = seek g (d + 1) c := by
  show (match g d with | some l => some l | none => seek g (d + 1) c) = _
  rw [h]
theorem seek_hit {g : Nat → Option (List Int)} {d c : Nat} {l : List Int} (h : g d = some l) : seek g d (c + 1) = some l := by
  show (match g d with | some l => some l | none => seek g (d + 1) c) = _
  rw [h]
theorem headE_no {f : Nat → Nat → Option (List Int)} {n d : Nat} (h : n % d ≠ 0) : headE f n d = none := if_neg h
theorem headE_none {f : Nat → Nat → Option (List Int)} {n d : Nat} (h : f (n / d) d = none) : headE f n d = none := by
  unfold headE
  split
  · rw [h]
  · rfl
theorem headE_some {f : Nat → Nat → Option (List Int)} {n d : Nat} {l : List Int} (h0 : n % d = 0) (h : f (n / d) d = some l) : headE f n d = some ((d : Int) :: l) := by
  unfold headE
  rw [if_pos h0, h]
theorem seek_some {g : Nat → Option (List Int)} {q : List Int → Prop} (h : ∀ d l, g d = some l → q l) : ∀ (c d : Nat) (l : List Int), seek g d c = some l → q l
  | 0, d, l, e => by cases e
  | c + 1, d, l, e => by
    unfold seek at e
    split at e
    · rename_i l' e1
      injection e with e
      subst e
      exact h d _ e1
    · exact seek_some h c (d + 1) l e
theorem facE_len : ∀ (k n most : Nat) (l : List Int), facE k n most = some l → l.length = k
  | 0, n, most, l, h => by
    unfold facE at h
    split at h
    · injection h with h; subst h; rfl
    · cases h
  | k + 1, n, most, l, h => by
    refine seek_some (q := fun l => l.length = k + 1) (fun d l h => ?_) _ _ _ h
    unfold headE at h
    split at h
    · split at h
      · rename_i l' e
        injection h with h
        subst h
        rw [List.length_cons, facE_len k _ _ _ e]
      · cases h
    · cases h
end Go.Proofs.Ytpkpfgpfkajkpaa
namespace Go.Proofs.Ytpkpfgpfkajkpaa
open Go.Av Go.Proofs
set_option maxRecDepth 20000
theorem fac0_div {n d : Nat} (h1 : 1 ≤ d) (h2 : d < n) : headE (facE 0) n d = none := by
  unfold headE
  split
  · rename_i h
    have : n / d ≠ 1 := fun e => by
      have := Nat.div_add_mod n d
      rw [e, h] at this
      omega
    have e : facE 0 (n / d) d = none := if_neg this
    rw [e]
  · rfl
theorem fac0_self {n : Nat} (h1 : 1 ≤ n) : headE (facE 0) n n = some [(n : Int)] := by
  have e : facE 0 (n / n) n = some [] := if_pos (Nat.div_self h1)
  exact headE_some (Nat.mod_self n) e
theorem fac1_seek {n : Nat} : ∀ (c d : Nat), 1 ≤ d → d + c ≤ n + 1 → seek (headE (facE 0) n) d c = if d + c = n + 1 ∧ 0 < c then some [(n : Int)] else none
  | 0, d, _, _ => by rw [if_neg (by omega)]; rfl
  | c + 1, d, h1, h2 => by
    by_cases h : d = n
    · subst h
      have : c = 0 := by omega
      subst this
      rw [seek_hit (fac0_self h1), if_pos (by omega)]
    · rw [seek_next (fac0_div h1 (by omega)), fac1_seek c (d + 1) (by omega) (by omega)]
      by_cases q : d + 1 + c = n + 1 ∧ 0 < c
      · rw [if_pos q, if_pos (by omega)]
      · rw [if_neg q, if_neg (by omega)]
theorem facE_one {n most : Nat} (h1 : 1 ≤ n) : facE 1 n most = if n ≤ most then some [(n : Int)] else none := by
  show seek (headE (facE 0) n) 1 (min n most) = _
  have := Nat.min_le_left n most
  rw [fac1_seek _ _ (Nat.le_refl _) (by omega)]
  by_cases h : n ≤ most
  · rw [if_pos h, Nat.min_eq_left h, if_pos (by omega)]
  · rw [if_neg h, Nat.min_eq_right (by omega), if_neg (by omega)]
def selfB : Blk := .cells 1 [[.clo (.func 61) [] [.ptr 0 0 0 0]]]
def facV : Option (List Int) → AV
  | none => .sc (.slice none 0 0)
  | some l => .hsl 1 0 0 l.length
def facH : Option (List Int) → Heap
  | none => [[selfB]]
  | some l => [[selfB], [.cells 1 (intsR l)]]
set_option maxHeartbeats 4000000 in
theorem fac_ok : ∀ (k : Nat), k ≤ 3 → ∀ (n most : Nat), 1 ≤ n → n ≤ 64 → most ≤ 64 →
    CallOK Try.prog 61 [.sc (.int .i64 (n : Int)), .sc (.int .i64 (most : Int)), .sc (.int .i64 ((k + 1 : Nat) : Int)), .ptr 0 0 0 0] [[selfB]] fun res H' => res = facV (facE (k + 1) n most) ∧ H' = facH (facE (k + 1) n most)
  | 0, _, n, most, h1, h2, h3 => by
    rw [facE_one h1]
    unfold selfB
    refine CallOK.of cF61 ?_ (Nat.le_of_ble_eq_true rfl)
    refine walkX ?_
    by_cases h : n ≤ most
    · rw [if_pos h, decide_eq_false (show ¬ most < n by omega)]
      refine walkX ?_
      exact endW [[(0,0)],[(1,0)]] (⟨rfl, rfl⟩)
    · rw [if_neg h, decide_eq_true (show most < n by omega)]
      refine walkX ?_
      exact endW [[(0,0)]] (⟨rfl, rfl⟩)
  | k + 1, hk, n, most, h1, h2, h3 => by
    have ih := fac_ok k (by omega)
    unfold selfB at ih
    refine CallOK.of cF61 ?_ (Nat.le_of_ble_eq_true rfl)
    unfold selfB
    refine walkX ?_
    refine AWP.loop (fun d : Nat => [(0, .sc (.int .i64 (n : Int))), (1, .sc (.int .i64 (most : Int))), (2, .sc (.int .i64 ((k + 1 + 1 : Nat) : Int))), (3, .ptr 0 0 0 0), (8, .sc (.int .i64 (d : Int)))])
      (fun d => [[.cells 1 [[.clo (.func 61) [] [.ptr 0 0 0 0]]]]]) (fun d => 1 ≤ d ∧ d ≤ min n most + 1 ∧ facE (k + 1 + 1) n most = seek (headE (facE (k + 1)) n) d (min n most + 1 - d)) (fun d => min n most + 1 - d) 1 ⟨Nat.le_refl _, by omega, rfl⟩ ?_ ?_
    · exact Sub.w [] [[(0,0)]]
    rintro d ⟨hd1, hd2, he⟩
    have hmin : min n most ≤ n := Nat.min_le_left _ _
    by_cases hlast : d = min n most + 1
    · rw [hlast, Nat.sub_self] at he
      have he : facE (k + 1 + 1) n most = none := he
      rw [he]
      refine walkX ?_
      rw [decide_eq_false (show ¬ d ≤ min n most by omega)]
      refine walkX ?_
      exact endW [[(0,0)]] (⟨rfl, rfl⟩)
    rw [show min n most + 1 - d = (min n most - d) + 1 by omega] at he
    refine walkX ?_
    rw [decide_eq_true (show d ≤ min n most by omega)]
    refine walkX ?_
    by_cases hm : n % d = 0
    · rw [decide_eq_true hm]
      refine AWP.condF rfl ?_
      refine AWP.skip ?_
      have hdiv1 : 1 ≤ n / d := Nat.div_pos (by omega) (by omega)
      have hdiv2 : n / d ≤ 64 := Nat.le_trans (Nat.div_le_self _ _) h2
      refine AWP.seq ?_
      refine AWP.dkm 7 _ mixed rfl rfl (by kernel_rfl) (by kernel_rfl) (by kernel_rfl) ?_
      refine walkX ?_
      refine DK.nil ⟨by kernel_rfl, ?_⟩
      refine Reg.sub (fr' := [(0, .sc (.int .i64 (n : Int))), (1, .sc (.int .i64 (most : Int))), (2, .sc (.int .i64 ((k + 1 + 1 : Nat) : Int))), (3, .ptr 0 0 0 0), (8, .sc (.int .i64 (d : Int))), (28, .clo (.func 61) [] [.ptr 0 0 0 0]), (31, .sc (.int .i64 ((n / d : Nat) : Int))), (32, .sc (.int .i64 (d : Int))), (34, .sc (.int .i64 ((k + 1 : Nat) : Int)))]) (H' := [[.cells 1 [[.clo (.func 61) [] [.ptr 0 0 0 0]]]]]) ?_ ?_
      · exact Sub.w [] [[(0,0)]]
      refine Reg.cv (by simp) rfl rfl ((ih (n / d) d hdiv1 hdiv2 (by omega)).mono ?_)
      rintro res H' ⟨rfl, rfl⟩
      refine Reg.nil ?_
      cases hf : facE (k + 1) (n / d) d with
      | none =>
        rw [seek_next (headE_none hf)] at he
        unfold facV facH selfB
        dsimp only
        refine walkX ?_
        refine DK.nil ⟨by kernel_rfl, ?_⟩
        refine walkX ?_
        refine ⟨d + 1, ⟨by omega, by omega, ?_⟩, by omega, ?_⟩
        · rw [he]; congr 1; omega
        exact Sub.w [] [[(0,0)]]
      | some l =>
        rw [seek_hit (headE_some hm hf)] at he
        rw [he]
        have hl := facE_len _ _ _ _ hf
        have e1 := intsR_len l
        rw [hl] at e1
        unfold facV facH selfB
        dsimp only
        rw [hl]
        refine walkX ?_
        refine DK.nil ⟨by kernel_rfl, ?_⟩
        refine walkX ?_
        refine Reg.o rfl (dstep_app (rows1 := [[.sc (.int .i64 (d : Int))]]) (rows2 := intsR l) rfl (rowsX_whole rfl e1) rfl rfl (by omega) rfl) ?_
        rw [e1]
        refine walkX ?_
        have e3 : ((d : Int) :: l).length = 1 + (k + 1) := by rw [List.length_cons, hl, Nat.add_comm]
        have e4 : intsR ((d : Int) :: l) = [[.sc (.int .i64 (d : Int))]] ++ intsR l := rfl
        rw [e3, e4]
        exact endW [[(0,0)],[(4,0)]] (⟨rfl, rfl⟩)
    · rw [decide_eq_false hm]
      refine walkX ?_
      rw [seek_next (headE_no hm)] at he
      refine ⟨d + 1, ⟨by omega, by omega, ?_⟩, by omega, ?_⟩
      · rw [he]; congr 1; omega
      exact Sub.w [] [[(0,0)]]
end Go.Proofs.Ytpkpfgpfkajkpaa
namespace Go.Proofs.Ytpkpfgpfkajkpaa
open Go.Av Go.Proofs
set_option maxRecDepth 20000
def boolsR (w : List Bool) : List (List AV) := w.map fun b => [.sc (.bool b)]
theorem boolsR_len (w : List Bool) : (boolsR w).length = w.length := by simp [boolsR]
instance (w : List Bool) : PRs (boolsR w) := ⟨fun r hr => by
  obtain ⟨a, _, rfl⟩ := List.mem_map.1 hr
  exact allPure_cons (.sc _) allPure_nil⟩
theorem boolsR_ix (w : List Bool) (k : Nat) (h : k < w.length) : rowIx (boolsR w) (k : Int) = some [.sc (.bool w[k])] := rowIx_map (fun b : Bool => [.sc (.bool b)]) w k h
def gridV (s : List Int) (w : List Bool) : AV := .agg [.list 1 (intsR s), .list 1 (boolsR w)]
theorem grid_pure (s : List Int) (w : List Bool) : Pure (gridV s w) := .agg _ (allPure_cons (.list _ _ (prs _)) (allPure_cons (.list _ _ (prs _)) allPure_nil))
instance (s : List Int) (w : List Bool) : PV (gridV s w) := ⟨grid_pure s w⟩
def cntG (n : Nat) : List Int → Nat
  | [] => n
  | x :: l => if x < 1 ∨ 64 < x ∨ 64 < (n : Int) * x then 0 else cntG (n * x.toNat) l
def cntE (s : List Int) (w : List Bool) : Nat := if s.length < 1 ∨ 4 < s.length ∨ w.length ≠ s.length then 0 else cntG 1 s
set_option maxHeartbeats 4000000 in
theorem count_ok (s : List Int) (w : List Bool) : PureRun Try.prog 75 [gridV s w] (.sc (.int .i64 (cntE s w : Nat))) := by
  refine PureRun.of (allPure_cons (grid_pure s w) allPure_nil) (.sc _) (CallOK.mono (R := fun res H' => res = .sc (.int .i64 (cntE s w : Nat)) ∧ H' = []) ?_ fun _ _ h => h.1)
  unfold gridV
  refine CallOK.of cF75 ?_ (Nat.le_of_ble_eq_true rfl)
  have e0 := intsR_len s
  have ew := boolsR_len w
  by_cases h1 : s.length < 1
  · have hres : AV.sc (Value.int .i64 0) = .sc (.int .i64 (cntE s w : Nat)) := by unfold cntE; rw [if_pos (.inl h1)]; rfl
    refine walkX ?_
    rw [e0, decide_eq_true h1]
    refine walkX ?_
    exact endW [] (⟨hres, rfl⟩)
  by_cases h2 : 4 < s.length
  · have hres : AV.sc (Value.int .i64 0) = .sc (.int .i64 (cntE s w : Nat)) := by unfold cntE; rw [if_pos (.inr (.inl h2))]; rfl
    refine walkX ?_
    rw [e0, decide_eq_false h1]
    refine walkX ?_
    rw [e0, decide_eq_true h2]
    refine walkX ?_
    exact endW [] (⟨hres, rfl⟩)
  by_cases h3 : w.length = s.length
  case neg =>
    have hres : AV.sc (Value.int .i64 0) = .sc (.int .i64 (cntE s w : Nat)) := by unfold cntE; rw [if_pos (.inr (.inr h3))]; rfl
    refine walkX ?_
    rw [e0, decide_eq_false h1]
    refine walkX ?_
    rw [e0, decide_eq_false h2]
    refine walkX ?_
    rw [ew, e0, decide_eq_false h3]
    refine walkX ?_
    exact endW [] (⟨hres, rfl⟩)
  have hc : cntE s w = cntG 1 s := if_neg (by omega)
  refine walkX ?_
  rw [e0, decide_eq_false h1]
  refine walkX ?_
  rw [e0, decide_eq_false h2]
  refine walkX ?_
  rw [ew, e0, decide_eq_true h3]
  refine walkX ?_
  rw [e0]
  refine AWP.loop (fun q : Nat × Nat => [(3, .sc (.int .i64 (q.2 : Int))), (26, .list 1 (intsR s)), (27, .sc (.int .i64 (s.length : Int))), (28, .sc (.int .i64 (q.1 : Int)))])
    (fun _ => []) (fun q => q.1 ≤ s.length ∧ q.2 ≤ 64 ∧ cntE s w = cntG q.2 (s.drop q.1)) (fun q => s.length - q.1) (0, 1) ⟨Nat.zero_le _, by omega, hc⟩ ?_ ?_
  · exact Sub.w [] []
  rintro ⟨k, n⟩ ⟨hk, hn, hcn⟩
  dsimp only at hk hn hcn ⊢
  refine walkX ?_
  refine AWP.condD rfl (fun h => ?_) (fun h => ?_)
  · have hr := intsR_ix s k h
    have hd : cntG n (s.drop k) = if s[k] < 1 ∨ 64 < s[k] ∨ 64 < (n : Int) * s[k] then 0 else cntG (n * s[k].toNat) (s.drop (k + 1)) := by
      rw [List.drop_eq_getElem_cons h]
      rfl
    rw [hd] at hcn
    generalize s[k] = x at *
    by_cases x1 : x < 1
    · rw [if_pos (.inl x1)] at hcn
      have hres : AV.sc (Value.int .i64 0) = .sc (.int .i64 (cntE s w : Nat)) := by rw [hcn]; rfl
      refine walkX ?_
      rw [decide_eq_true x1]
      refine walkX ?_
      exact endW [] (⟨hres, rfl⟩)
    by_cases x2 : 64 < x
    · rw [if_pos (.inr (.inl x2))] at hcn
      have hres : AV.sc (Value.int .i64 0) = .sc (.int .i64 (cntE s w : Nat)) := by rw [hcn]; rfl
      refine walkX ?_
      rw [decide_eq_false x1]
      refine walkX ?_
      rw [decide_eq_true x2]
      refine walkX ?_
      exact endW [] (⟨hres, rfl⟩)
    obtain ⟨q, rfl⟩ : ∃ q : Nat, x = q := ⟨x.toNat, by omega⟩
    have hq : q ≤ 64 := by omega
    have hnq : n * q ≤ 64 * 64 := Nat.mul_le_mul hn hq
    by_cases x3 : 64 < n * q
    · have x3' : 64 < (n : Int) * (q : Int) := by rw [← Int.natCast_mul]; omega
      rw [if_pos (.inr (.inr x3'))] at hcn
      have hres : AV.sc (Value.int .i64 0) = .sc (.int .i64 (cntE s w : Nat)) := by rw [hcn]; rfl
      refine walkX ?_
      rw [decide_eq_false (show ¬ q < 1 by omega)]
      refine walkX ?_
      rw [decide_eq_false (show ¬ 64 < q by omega)]
      refine walkX ?_
      rw [decide_eq_true x3]
      refine walkX ?_
      exact endW [] (⟨hres, rfl⟩)
    · have x3' : ¬ 64 < (n : Int) * (q : Int) := by rw [← Int.natCast_mul]; omega
      rw [if_neg (by omega), Int.toNat_natCast] at hcn
      refine walkX ?_
      rw [decide_eq_false (show ¬ q < 1 by omega)]
      refine walkX ?_
      rw [decide_eq_false (show ¬ 64 < q by omega)]
      refine walkX ?_
      rw [decide_eq_false x3]
      refine walkX ?_
      refine ⟨(k + 1, n * q), ⟨by dsimp only; omega, by dsimp only; omega, hcn⟩, by dsimp only; omega, ?_⟩
      exact Sub.w [] []
  have hk : k = s.length := by omega
  subst hk
  rw [List.drop_length] at hcn
  have hres : AV.sc (Value.int .i64 (n : Int)) = .sc (.int .i64 (cntE s w : Nat)) := by rw [hcn]; rfl
  refine walkX ?_
  exact endW [] (⟨hres, rfl⟩)
def natI (s : List Nat) : List Int := s.map fun n : Nat => (n : Int)
theorem natsR_I (s : List Nat) : natsR s = intsR (natI s) := by simp [natsR, intsR, natI]
theorem natI_len (s : List Nat) : (natI s).length = s.length := by simp [natI]
theorem cnt_good : ∀ {s : List Int} {n m : Nat}, cntG n s = m → 0 < m → ∃ t : List Nat, s = natI t ∧ (∀ a ∈ t, 1 ≤ a ∧ a ≤ 64) ∧ m = n * prodN t
  | [], n, m, h, _ => ⟨[], rfl, fun _ h => (by cases h), (by simp only [cntG] at h; rw [← h]; exact (Nat.mul_one n).symm)⟩
  | x :: s, n, m, h, hm => by
    unfold cntG at h
    split at h
    · omega
    · rename_i hx
      obtain ⟨t, rfl, h1, h2⟩ := cnt_good h hm
      refine ⟨x.toNat :: t, ?_, fun a ha => ?_, ?_⟩
      · show x :: natI t = (x.toNat : Int) :: natI t
        rw [Int.toNat_of_nonneg (by omega)]
      · rcases List.mem_cons.1 ha with rfl | ha
        · omega
        · exact h1 a ha
      · rw [h2, Nat.mul_assoc]
        rfl
theorem cnt_le : ∀ {s : List Int} {n : Nat}, n ≤ 64 → cntG n s ≤ 64
  | [], n, h => h
  | x :: s, n, h => by
    unfold cntG
    split
    · omega
    · rename_i hx
      refine cnt_le ?_
      obtain ⟨q, rfl⟩ : ∃ q : Nat, x = q := ⟨x.toNat, by omega⟩
      have : ¬ 64 < (n : Int) * (q : Int) := fun h => hx (.inr (.inr h))
      rw [← Int.natCast_mul] at this
      rw [Int.toNat_natCast]
      omega
theorem cntE_good {s : List Int} {w : List Bool} (h : 0 < cntE s w) : ∃ t : List Nat, s = natI t ∧ w.length = t.length ∧ 1 ≤ t.length ∧ t.length ≤ 4 ∧ (∀ a ∈ t, 1 ≤ a ∧ a ≤ 64) ∧ cntE s w = prodN t ∧ prodN t ≤ 64 := by
  unfold cntE at h ⊢
  split at h
  · omega
  · rename_i hs
    rw [if_neg hs]
    obtain ⟨t, rfl, h1, h2⟩ := cnt_good rfl h
    rw [natI_len] at hs
    have := @cnt_le (natI t) 1 (by omega)
    exact ⟨t, rfl, by omega, by omega, by omega, h1, by rw [h2, Nat.one_mul], by omega⟩
theorem tmod_emod {x : Int} {n : Nat} (h : 0 < n) : (x.tmod n + n).tmod n = x % n := by
  have h0 : (0 : Int) ≤ x % n := Int.emod_nonneg _ (by omega)
  have h1 : x % n < n := Int.emod_lt_of_pos _ (by omega)
  rw [Int.tmod_eq_emod_of_nonneg (by rw [Int.tmod_eq_emod]; split <;> omega), Int.tmod_eq_emod]
  split
  · rw [show x % (n : Int) - ((0 : Nat) : Int) + n = x % n + n by omega, Int.add_emod_right, Int.emod_emod]
  · rw [show x % (n : Int) - ((n : Int).natAbs : Int) + n = x % n by omega, Int.emod_emod]
theorem tmod_rng (x : Int) {n : Nat} (h : 0 < n) : -(n : Int) < x.tmod n ∧ x.tmod n < n := by
  have h0 : (0 : Int) ≤ x % n := Int.emod_nonneg _ (by omega)
  have h1 : x % n < n := Int.emod_lt_of_pos _ (by omega)
  rw [Int.tmod_eq_emod]
  split <;> rename_i hh
  · omega
  · have : x % (n : Int) ≠ 0 := fun e => hh (.inr (Int.dvd_of_emod_eq_zero e))
    omega
theorem dstep_remI {g i : Nat} {fr : Fr} {H : Heap} {t : TypeId} {x y : Operand} {a b : Int} (hx : ev fr x = .sc (.int .i64 a)) (hy : ev fr y = .sc (.int .i64 b)) (hb : b ≠ 0) :
    dstep g i (.bin .rem t x y) fr H = some (.sc (.int .i64 (a.tmod b)), H) := by
  simp only [dstep, hx, hy]
  have e0 : (do eqGuard .rem t x y (.int .i64 a) (.int .i64 b); binOp .rem t (.int .i64 a) (.int .i64 b) : Sem Value) = binOp .rem t (.int .i64 a) (.int .i64 b) := rfl
  have e : binOp .rem t (.int .i64 a) (.int .i64 b) = Op.intDiv .rem .i64 a b := rfl
  have e2 : Sem.pure? (Op.intDiv .rem .i64 a b) = some (.int .i64 (a.tmod b)) := by
    unfold Op.intDiv
    rw [if_neg hb]
    rfl
  rw [e0, e, e2]
theorem dstep_addI {g i : Nat} {fr : Fr} {H : Heap} {t : TypeId} {x y : Operand} {a b : Int} (hx : ev fr x = .sc (.int .i64 a)) (hy : ev fr y = .sc (.int .i64 b)) (h1 : -9223372036854775808 ≤ a + b) (h2 : a + b ≤ 9223372036854775807) :
    dstep g i (.bin .add t x y) fr H = some (.sc (.int .i64 (a + b)), H) := by
  simp only [dstep, hx, hy]
  show some (AV.sc (.int .i64 (IntKind.i64.wrap (a + b))), H) = _
  rw [wrap_small h1 h2]
set_option maxHeartbeats 4000000 in
theorem wrapped_ok (x : Int) (n : Nat) (h : 0 < n) (hn : n ≤ 1000) : PureRun Try.prog 108 [.sc (.int .i64 x), .sc (.int .i64 (n : Int))] (.sc (.int .i64 (x % n))) := by
  refine PureRun.of (allPure_cons (.sc _) (allPure_cons (.sc _) allPure_nil)) (.sc _) (CallOK.mono (R := fun res H' => res = .sc (.int .i64 (x % n)) ∧ H' = []) ?_ fun _ _ h => h.1)
  refine CallOK.of cF108 ?_ (Nat.le_of_ble_eq_true rfl)
  have hr := tmod_rng x h
  have he := @tmod_emod x n h
  refine walkX ?_
  refine Reg.o rfl (dstep_remI rfl rfl (by omega)) ?_
  (first | refine wr13 ?_ | refine wd13 ?_ | refine wr14 ?_ | refine wv1 ?_ | refine wv2 ?_ | refine wv3 ?_ | refine wv4 ?_ | refine wv5 ?_ | refine wv6 ?_ | refine wv7 ?_ | refine wv8 ?_ | refine wv9 ?_ | refine wv10 ?_ | refine wr1 ?_ | refine wr2 ?_ | refine wr3 ?_ | refine wr4 ?_ | refine Reg.nil ?_ | refine wd1 ?_ | refine wd2 ?_ | refine wd3 ?_ | refine wd4 ?_ | refine AWP.seq ?_ | refine AWP.region ?_ | refine AWP.dk mixed ?_ | refine AWP.condT rfl ?_ | refine AWP.condF rfl ?_ | refine AWP.skip ?_ | refine AWP.ret ?_ | refine AWP.exit ?_ | refine AWP.block ?_ | refine wr5 ?_ | refine wr6 ?_ | refine wr7 ?_ | refine wr8 ?_ | refine wr9 ?_ | refine wr10 ?_ | refine wd5 ?_ | refine wd6 ?_ | refine wd7 ?_ | refine wd8 ?_ | refine wd9 ?_ | refine wd10 ?_ | refine wr11 ?_ | refine wr12 ?_ | refine wd11 ?_ | refine wd12 ?_ )
  refine Reg.o rfl (dstep_addI rfl rfl (by omega) (by omega)) ?_
  (first | refine wr13 ?_ | refine wd13 ?_ | refine wr14 ?_ | refine wv1 ?_ | refine wv2 ?_ | refine wv3 ?_ | refine wv4 ?_ | refine wv5 ?_ | refine wv6 ?_ | refine wv7 ?_ | refine wv8 ?_ | refine wv9 ?_ | refine wv10 ?_ | refine wr1 ?_ | refine wr2 ?_ | refine wr3 ?_ | refine wr4 ?_ | refine Reg.nil ?_ | refine wd1 ?_ | refine wd2 ?_ | refine wd3 ?_ | refine wd4 ?_ | refine AWP.seq ?_ | refine AWP.region ?_ | refine AWP.dk mixed ?_ | refine AWP.condT rfl ?_ | refine AWP.condF rfl ?_ | refine AWP.skip ?_ | refine AWP.ret ?_ | refine AWP.exit ?_ | refine AWP.block ?_ | refine wr5 ?_ | refine wr6 ?_ | refine wr7 ?_ | refine wr8 ?_ | refine wr9 ?_ | refine wr10 ?_ | refine wd5 ?_ | refine wd6 ?_ | refine wd7 ?_ | refine wd8 ?_ | refine wd9 ?_ | refine wd10 ?_ | refine wr11 ?_ | refine wr12 ?_ | refine wd11 ?_ | refine wd12 ?_ )
  refine Reg.o rfl (dstep_remI rfl rfl (by omega)) ?_
  rw [he]
  refine walkX ?_
  exact endW [] (⟨rfl, rfl⟩)
def wrapI (b : Bool) (x : Int) (a : Nat) : Int := if b then x % a else x
def rkG : Nat → List Nat → List Bool → List Int → Int
  | n, a :: s, b :: w, x :: c => if wrapI b x a < 0 ∨ (a : Int) ≤ wrapI b x a then -2 else rkG (n * a + (wrapI b x a).toNat) s w c
  | n, _, _, _ => n
theorem rkG_drop {n : Nat} {s : List Nat} {w : List Bool} {c : List Int} {k : Nat} (h1 : k < s.length) (h2 : k < w.length) (h3 : k < c.length) :
    rkG n (s.drop k) (w.drop k) (c.drop k) = if wrapI w[k] c[k] s[k] < 0 ∨ (s[k] : Int) ≤ wrapI w[k] c[k] s[k] then -2 else rkG (n * s[k] + (wrapI w[k] c[k] s[k]).toNat) (s.drop (k + 1)) (w.drop (k + 1)) (c.drop (k + 1)) := by
  rw [List.drop_eq_getElem_cons h1, List.drop_eq_getElem_cons h2, List.drop_eq_getElem_cons h3]
  rfl
theorem lt_pow {n a y k : Nat} (h : n < 64 ^ k) (ha : a ≤ 64) (hy : y < a) : n * a + y < 64 ^ (k + 1) := by
  have h1 : (n + 1) * a ≤ 64 ^ k * 64 := Nat.mul_le_mul (by omega) ha
  rw [Nat.pow_succ]
  rw [Nat.add_mul] at h1
  omega
theorem pow_le {n k m : Nat} (h : n < 64 ^ k) (hk : k ≤ m) (hm : m ≤ 4) : n < 16777216 := by
  have : (64 : Nat) ^ k ≤ 64 ^ 4 := Nat.pow_le_pow_right (by omega) (by omega)
  have e : (64 : Nat) ^ 4 = 16777216 := by decide
  omega
set_option maxHeartbeats 8000000 in
theorem rank_ok (s : List Nat) (w : List Bool) (c : List Int) (hw : w.length = s.length) (hc : c.length = s.length) (h4 : s.length ≤ 4) (hs : ∀ a ∈ s, 1 ≤ a ∧ a ≤ 64) : PureRun Try.prog 76 [gridV (natI s) w, .list 1 (intsR c)] (.sc (.int .i64 (rkG 0 s w c))) := by
  refine PureRun.of (allPure_cons (grid_pure _ _) (allPure_cons (.list _ _ (prs _)) allPure_nil)) (.sc _) (CallOK.mono (R := fun res H' => res = .sc (.int .i64 (rkG 0 s w c)) ∧ H' = []) ?_ fun _ _ h => h.1)
  unfold gridV
  rw [← natsR_I]
  refine CallOK.of cF76 ?_ (Nat.le_of_ble_eq_true rfl)
  have e0 := natsR_len s
  have ew := boolsR_len w
  have ec := intsR_len c
  refine walkX ?_
  rw [ec]
  refine AWP.loop (fun q : Nat × Nat => [(2, .ptr 0 0 0 0), (5, .sc (.int .i64 (q.2 : Int))), (8, .list 1 (intsR c)), (9, .sc (.int .i64 (c.length : Int))), (10, .sc (.int .i64 (q.1 : Int)))])
    (fun _ => [[.cells 2 [[.list 1 (natsR s), .list 1 (boolsR w)]]]]) (fun q => q.1 ≤ s.length ∧ q.2 < 64 ^ q.1 ∧ rkG 0 s w c = rkG q.2 (s.drop q.1) (w.drop q.1) (c.drop q.1)) (fun q => s.length - q.1) (0, 0) ⟨Nat.zero_le _, by decide, rfl⟩ ?_ ?_
  · exact Sub.w [] [[(0,0)]]
  rintro ⟨k, n⟩ ⟨hk, hn, hcn⟩
  dsimp only at hk hn hcn ⊢
  refine walkX ?_
  refine AWP.condD rfl (fun h => ?_) (fun h => ?_)
  · have h1 : k < s.length := by omega
    have hrs := natsR_ix s k h1
    have hrw := boolsR_ix w k (by omega)
    have hrc := intsR_ix c k h
    rw [rkG_drop h1 (by omega) h] at hcn
    have ha := hs _ (List.getElem_mem h1)
    have hn2 := @lt_pow n s[k] (wrapI w[k] c[k] s[k]).toNat k hn ha.2
    have hn3 := pow_le hn hk h4
    generalize s[k] = a at *
    generalize c[k] = x at *
    have hwr := wrapped_ok x a (by omega) (by omega)
    cases hb : w[k] with
    | true =>
      rw [hb] at hrw hcn hn2
      have e9 : wrapI true x a = x % (a : Int) := rfl
      rw [e9] at hcn hn2
      have h0 : 0 ≤ x % (a : Int) := Int.emod_nonneg _ (by omega)
      have h9 : x % (a : Int) < a := Int.emod_lt_of_pos _ (by omega)
      rw [if_neg (by omega)] at hcn
      obtain ⟨y, hy⟩ : ∃ y : Nat, x % (a : Int) = y := ⟨(x % (a : Int)).toNat, by omega⟩
      rw [hy] at hwr hcn hn2 h9
      rw [Int.toNat_natCast] at hcn hn2
      have hn4 : n * a ≤ 16777216 * 64 := Nat.mul_le_mul (by omega) ha.2
      refine walkX ?_
      rw [decide_eq_false (show ¬ a ≤ y by omega)]
      refine walkX ?_
      refine ⟨(k + 1, n * a + y), ⟨by dsimp only; omega, hn2 (by omega), hcn⟩, by dsimp only; omega, ?_⟩
      exact Sub.w [] [[(0,0)]]
    | false =>
      rw [hb] at hrw hcn hn2
      have e9 : wrapI false x a = x := rfl
      rw [e9] at hcn hn2
      by_cases x0 : x < 0
      · rw [if_pos (.inl x0)] at hcn
        have hres : AV.sc (Value.int .i64 (-2)) = .sc (.int .i64 (rkG 0 s w c)) := by rw [hcn]
        refine walkX ?_
        rw [decide_eq_true x0]
        refine walkX ?_
        exact endW [] (⟨hres, rfl⟩)
      obtain ⟨y, rfl⟩ : ∃ y : Nat, x = y := ⟨x.toNat, by omega⟩
      rw [Int.toNat_natCast] at hcn hn2
      by_cases x1 : a ≤ y
      · rw [if_pos (.inr (by omega))] at hcn
        have hres : AV.sc (Value.int .i64 (-2)) = .sc (.int .i64 (rkG 0 s w c)) := by rw [hcn]
        refine walkX ?_
        rw [decide_eq_true x1]
        refine walkX ?_
        exact endW [] (⟨hres, rfl⟩)
      rw [if_neg (by omega)] at hcn
      have hn4 : n * a ≤ 16777216 * 64 := Nat.mul_le_mul (by omega) ha.2
      refine walkX ?_
      rw [decide_eq_false x1]
      refine walkX ?_
      refine ⟨(k + 1, n * a + y), ⟨by dsimp only; omega, hn2 (by omega), hcn⟩, by dsimp only; omega, ?_⟩
      exact Sub.w [] [[(0,0)]]
  have hk : k = s.length := by omega
  subst hk
  rw [List.drop_length] at hcn
  have hres : AV.sc (Value.int .i64 (n : Int)) = .sc (.int .i64 (rkG 0 s w c)) := by rw [hcn]; rfl
  refine walkX ?_
  exact endW [] (⟨hres, rfl⟩)
end Go.Proofs.Ytpkpfgpfkajkpaa
namespace Go.Proofs.Ytpkpfgpfkajkpaa
open Go.Av Go.Proofs
set_option maxRecDepth 20000
theorem coord_rng : ∀ (s : List Nat) (r : Nat), (∀ a ∈ s, 1 ≤ a ∧ a ≤ 64) → ∀ (k : Nat) (h : k < (coordN s r).length) (h2 : k < s.length), (coordN s r)[k] < s[k]
  | a :: s, r, hs, 0, _, _ => Nat.mod_lt _ (by have := hs a (by simp); omega)
  | a :: s, r, hs, k + 1, h, h2 => by
    simpa [coordN] using coord_rng s r (fun b hb => hs b (by simp [hb])) k (by simpa [coordN] using h) (by simpa using h2)
theorem coords_at (s : List Nat) (w : List Bool) (r : Nat) (h4 : s.length ≤ 4) (hs : ∀ a ∈ s, 1 ≤ a ∧ a ≤ 64) (hr : r ≤ 1000000) (H : Heap) :
    CallOK Try.prog 74 [gridV (natI s) w, .sc (.int .i64 (r : Int))] H fun res H' => res = .hsl H.length 0 0 s.length ∧ H' = H ++ [[.cells 1 (natsR (coordN s r))]] := by
  have h := coords_ok s (boolsR w) r (by omega) (fun a ha => by have := hs a ha; omega) hr
  unfold natsV at h
  rw [natsR_I] at h
  refine CallOK.viewL (fun q hq c hc => ?_) h (ToL.cons (To.pure (grid_pure _ _)) (ToL.cons (To.sc _) ToL.nil))
  obtain ⟨n, _, rfl⟩ := List.mem_map.1 hq
  exact ⟨_, List.mem_singleton.1 hc⟩
def movedE (s : List Nat) (w : List Bool) (r d : Nat) (y : Int) : Int := rkG 0 s w ((natI (coordN s r)).set d (((coordN s r).getD d 0 : Nat) + y))
def shiftE (s : List Nat) (w : List Bool) (r d : Nat) (b : Int) : Int × Int :=
  if wrapI (w.getD d false) b (s.getD d 0) ≤ -(s.getD d 0 : Int) ∨ (s.getD d 0 : Int) ≤ wrapI (w.getD d false) b (s.getD d 0) then (-2, -2)
  else (movedE s w r d (-wrapI (w.getD d false) b (s.getD d 0)), movedE s w r d (wrapI (w.getD d false) b (s.getD d 0)))
set_option maxHeartbeats 8000000 in
theorem shift_ok (s : List Nat) (w : List Bool) (r d : Nat) (b : Int) (hw : w.length = s.length) (h4 : s.length ≤ 4) (hs : ∀ a ∈ s, 1 ≤ a ∧ a ≤ 64) (hr : r ≤ 1000) (hd : d < s.length) (hb : -9223372036854775808 ≤ b ∧ b ≤ 9223372036854775807) :
    PureRun Try.prog 77 [gridV (natI s) w, .sc (.int .i64 (r : Int)), .sc (.int .i64 (d : Int)), .sc (.int .i64 b)] (.tup [.sc (.int .i64 (shiftE s w r d b).1), .sc (.int .i64 (shiftE s w r d b).2)]) := by
  refine PureRun.of (allPure_cons (grid_pure _ _) (allPure_cons (.sc _) (allPure_cons (.sc _) (allPure_cons (.sc _) allPure_nil)))) (.tup _ (allPure_cons (.sc _) (allPure_cons (.sc _) allPure_nil))) (CallOK.mono (R := fun res H' => res = .tup [.sc (.int .i64 (shiftE s w r d b).1), .sc (.int .i64 (shiftE s w r d b).2)] ∧ H' = []) ?_ fun _ _ h => h.1)
  have hco := fun H => coords_at s w r h4 hs (by omega) H
  have hrk := fun c hc => rank_ok s w c hw hc h4 hs
  unfold gridV at hco hrk ⊢
  rw [← natsR_I] at hco hrk ⊢
  have hds := natsR_ix s d hd
  have hdw := boolsR_ix w d (by omega)
  have g1 : s.getD d 0 = s[d] := by simp [hd]
  have g2 : w.getD d false = w[d]'(by omega) := by simp [hw, hd]
  have ha := hs _ (List.getElem_mem hd)
  have hcl := coordN_len s r
  have hcd := natsR_ix (coordN s r) d (by omega)
  have hcr := coord_rng s r hs d (by omega) hd
  have g3 : (coordN s r).getD d 0 = (coordN s r)[d]'(by omega) := by simp [hcl, hd]
  have hsh : shiftE s w r d b = (if wrapI (w[d]'(by omega)) b s[d] ≤ -(s[d] : Int) ∨ (s[d] : Int) ≤ wrapI (w[d]'(by omega)) b s[d] then (-2, -2) else (movedE s w r d (-wrapI (w[d]'(by omega)) b s[d]), movedE s w r d (wrapI (w[d]'(by omega)) b s[d]))) := by
    unfold shiftE
    rw [g1, g2]
  have hmv : ∀ y, movedE s w r d y = rkG 0 s w ((natI (coordN s r)).set d (((coordN s r)[d]'(by omega) : Nat) + y)) := fun y => by unfold movedE; rw [g3]
  have hset : ∀ y : Int, (natsR (coordN s r)).set d [.sc (.int .i64 y)] = intsR ((natI (coordN s r)).set d y) := fun y => by rw [natsR_I, intsR_set]
  have hwr := wrapped_ok b s[d] (by omega) (by omega)
  have hcl2 := natsR_len (coordN s r)
  have hcl3 : ∀ y, ((natI (coordN s r)).set d y).length = s.length := fun y => by rw [List.length_set, natI_len, hcl]
  generalize (coordN s r)[d]'(by omega) = cd at *
  generalize w[d]'(by omega) = wd at *
  generalize s[d] = a at *
  clear g1 g2 g3
  refine CallOK.of cF77 ?_ (Nat.le_of_ble_eq_true rfl)
  have hwi : wrapI wd b a = if wd then b % (a : Int) else b := rfl
  have hem : (0 : Int) ≤ b % (a : Int) := Int.emod_nonneg _ (by omega)
  have hem2 : b % (a : Int) < a := Int.emod_lt_of_pos _ (by omega)
  have hy0 : -9223372036854775808 ≤ wrapI wd b a ∧ wrapI wd b a ≤ 9223372036854775807 := by rw [hwi]; split <;> omega
  refine walkX ?_
  refine AWP.joinT0 [(1, .sc (.int .i64 (r : Int))), (2, .sc (.int .i64 (d : Int))), (3, .sc (.int .i64 (wrapI wd b a))), (4, .ptr 0 0 0 0), (10, .sc (.int .i64 (a : Int)))] [[.cells 2 [[.list 1 (natsR s), .list 1 (boolsR w)]]]] ?_ ?_
  · cases wd with
    | true =>
      have e9 : wrapI true b a = b % (a : Int) := rfl
      rw [e9]
      refine walkX ?_
      exact Sub.w [] [[(0,0)]]
    | false =>
      have e9 : wrapI false b a = b := rfl
      rw [e9]
      refine walkX ?_
      exact Sub.w [] [[(0,0)]]
  clear hwi hwr
  generalize wrapI wd b a = y at *
  by_cases y1 : y ≤ -(a : Int)
  · rw [if_pos (.inl y1)] at hsh
    rw [hsh]
    refine walkX ?_
    rw [wrap_small (by omega) (by omega), Int.zero_sub, decide_eq_true y1]
    refine walkX ?_
    exact endW [] (⟨rfl, rfl⟩)
  by_cases y2 : (a : Int) ≤ y
  · rw [if_pos (.inr y2)] at hsh
    rw [hsh]
    refine walkX ?_
    rw [wrap_small (by omega) (by omega), Int.zero_sub, decide_eq_false y1]
    refine walkX ?_
    rw [decide_eq_true y2]
    refine walkX ?_
    exact endW [] (⟨rfl, rfl⟩)
  rw [if_neg (by omega)] at hsh
  rw [hsh, hmv, hmv]
  have hr1 := hrk _ (hcl3 (cd + -y))
  have hr2 := hrk _ (hcl3 (cd + y))
  refine walkX ?_
  rw [wrap_small (by omega) (by omega), Int.zero_sub, decide_eq_false y1]
  refine walkX ?_
  rw [decide_eq_false y2]
  refine walkX0 ?_
  refine AWP.lin [(true, 0), (true, 1), (true, 3), (true, 4), (false, 2), (true, 6), (false, 5), (true, 7)] mixed (by kernel_rfl) (by kernel_rfl) ?_
  refine walkL ?_
  refine RT.cc (Nat.zero_le _) rfl (hco _) ?_
  rintro res H' ⟨rfl, rfl⟩
  refine ⟨(by repeat (first | exact trivial | exact Keeps.refl _ _ | refine And.intro rfl ?_)), ?_⟩
  refine walkL ?_
  refine RT.cc (Nat.zero_le _) rfl (hco _) ?_
  rintro res H' ⟨rfl, rfl⟩
  refine ⟨(by repeat (first | exact trivial | exact Keeps.refl _ _ | refine And.intro rfl ?_)), ?_⟩
  refine walkL ?_
  refine walkX0 ?_
  rw [wrap_small (n := (cd : Int) - y) (by omega) (by omega), wrap_small (n := (cd : Int) + y) (by omega) (by omega), Int.sub_eq_add_neg]
  have k1 := hset (cd - y)
  rw [Int.sub_eq_add_neg] at k1
  have k2 := hset (cd + y)
  refine AWP.sub (fr' := [(4, .ptr 0 0 0 0), (11, .list 1 (intsR ((natI (coordN s r)).set d (cd + -y)))), (12, .list 1 (intsR ((natI (coordN s r)).set d (cd + y))))]) (H' := [[.cells 2 [[.list 1 (natsR s), .list 1 (boolsR w)]]]]) ?_ ?_
  · have q1 : (intsR ((natI (coordN s r)).set d (cd + -y))).length = s.length := by rw [intsR_len, hcl3]
    have q2 : (intsR ((natI (coordN s r)).set d (cd + y))).length = s.length := by rw [intsR_len, hcl3]
    exact Sub.w [] [[(0,0)]]
  refine walkX ?_
  refine DK.nil ⟨by kernel_rfl, ?_⟩
  refine walkX ?_
  exact endW [] (⟨rfl, rfl⟩)
end Go.Proofs.Ytpkpfgpfkajkpaa
