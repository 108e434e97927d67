import Derived.Test.YtpkpfgpfkajkpaaGCoS1
import Derived.Test.YtpkpfgpfkajkpaaGAvK4
namespace Go.Proofs.Ytpkpfgpfkajkpaa
open Go.Av Go.Proofs
set_option maxRecDepth 20000
def distE (n : Int) (s : List Int) : List Int → Int
 | [] => 0
 | x :: l => if x < 0 ∨ n ≤ x then 11 else if x ∈ s then 5 else distE n (s ++ [x]) l
def flagR (s : List Int) : List AV := (List.range 64).map fun i : Nat => .sc (.bool (decide ((i : Int) ∈ s)))
instance (s : List Int) : PR (flagR s) := ⟨fun c hc => by
 obtain ⟨i, _, rfl⟩ := List.mem_map.1 hc
 exact .sc _⟩
theorem flagR_len (s : List Int) : (flagR s).length = 64 := by simp [flagR]
theorem flagR_get (s : List Int) (q : Nat) (h : q < 64) : (flagR s)[q]? = some (.sc (.bool (decide ((q : Int) ∈ s)))) := by simp [flagR, h]
theorem flagR_set (s : List Int) (q : Nat) : (flagR s).set q (.sc (.bool true)) = flagR (s ++ [(q : Int)]) := by
 refine List.ext_getElem? fun i => ?_
 rw [List.getElem?_set]
 unfold flagR
 by_cases hi : i < 64
 ·by_cases he : q = i
  ·subst he
   simp [hi]
  ·have : ¬ (i : Int) = q := by omega
   simp [hi, he, this]
 ·by_cases he : q = i
  ·subst he
   simp [hi]
  ·simp [hi, he]
theorem flagR_nil : zrow [(64, .bool false)] = flagR [] := by kernel_rfl
set_option maxHeartbeats 4000000 in
theorem dist_call (l : List Int) (n : Nat) (hn : n ≤ 64) (hl : l.length ≤ 1000000) : CallOK Try.prog 59 [.list 1 (intsR l), .sc (.int .i64 (n : Int))] [] fun res H' => res = .sc (.int .i64 (distE n [] l)) ∧ H' = [] := by
 refine CallOK.of cF59 ?_ (Nat.le_of_ble_eq_true rfl)
 have e0 := intsR_len l
 refine walkX ?_
 rw [e0]
 refine AWP.loop (fun k : Nat => [(0, .list 1 (intsR l)), (1, .sc (.int .i64 (n : Int))), (5, .ptr 0 0 0 0), (8, .list 1 (intsR l)), (9, .sc (.int .i64 (l.length : Int))), (10, .sc (.int .i64 (k : Int)))])
  (fun k => [[.cells 64 [flagR (l.take k)]]]) (fun k => k ≤ l.length ∧ distE n [] l = distE n (l.take k) (l.drop k)) (fun k => l.length - k) 0 ⟨Nat.zero_le _, rfl⟩ ?_ ?_
 ·rw [List.take_zero, ← flagR_nil]
  exact Sub.w [] [[(0,0)]]
 rintro k ⟨hk, hd⟩
 refine walkX ?_
 refine AWP.condD rfl (fun h => ?_) (fun h => ?_)
 ·have hr := intsR_ix l k h
  have hd2 : distE n (l.take k) (l.drop k) = if l[k] < 0 ∨ (n : Int) ≤ l[k] then 11 else if l[k] ∈ l.take k then 5 else distE n (l.take (k + 1)) (l.drop (k + 1)) := by
   rw [List.drop_eq_getElem_cons h, List.take_succ_eq_append_getElem h]
   rfl
  rw [hd2] at hd
  have ht := List.take_succ_eq_append_getElem h
  generalize l[k] = x at *
  generalize l.take k = s at *
  have f0 := flagR_len s
  by_cases h1 : x < 0
  ·rw [if_pos (.inl h1)] at hd
   refine walkX ?_
   rw [decide_eq_true h1]
   refine walkX ?_
   have hres : AV.sc (Value.int .i64 11) = .sc (.int .i64 (distE n [] l)) := by rw [hd]
   exact endW [] (⟨hres, rfl⟩)
  by_cases h2 : (n : Int) ≤ x
  ·rw [if_pos (.inr h2)] at hd
   refine walkX ?_
   rw [decide_eq_false h1]
   refine walkX ?_
   rw [decide_eq_true h2]
   refine walkX ?_
   have hres : AV.sc (Value.int .i64 11) = .sc (.int .i64 (distE n [] l)) := by rw [hd]
   exact endW [] (⟨hres, rfl⟩)
  rw [if_neg (by omega)] at hd
  obtain ⟨q, rfl⟩ : ∃ q : Nat, x = q := ⟨x.toNat, by omega⟩
  have hq : q < 64 := by omega
  have f1 := flagR_get s q hq
  refine walkX ?_
  rw [decide_eq_false (show ¬ n ≤ q by omega)]
  refine walkX ?_
  by_cases h3 : (q : Int) ∈ s
  ·rw [if_pos h3] at hd
   rw [decide_eq_true h3]
   refine walkX ?_
   have hres : AV.sc (Value.int .i64 5) = .sc (.int .i64 (distE n [] l)) := by rw [hd]
   exact endW [] (⟨hres, rfl⟩)
  rw [if_neg h3] at hd
  rw [decide_eq_false h3]
  refine walkX ?_
  refine ⟨k + 1, ⟨by omega, hd⟩, by omega, ?_⟩
  rw [ht, flagR_set]
  exact Sub.w [] [[(0,0)]]
 have hk : k = l.length := by omega
 subst hk
 rw [List.drop_length] at hd
 refine walkX ?_
 have hres : AV.sc (Value.int .i64 0) = .sc (.int .i64 (distE n [] l)) := by rw [hd]; rfl
 exact endW [] (⟨hres, rfl⟩)
theorem dist_ok (l : List Int) (n : Nat) (hn : n ≤ 64) (hl : l.length ≤ 1000000) : PureRun Try.prog 59 [.list 1 (intsR l), .sc (.int .i64 (n : Int))] (.sc (.int .i64 (distE n [] l))) :=
 PureRun.of (allPure_cons (.list _ _ (prs _)) (allPure_cons (.sc _) allPure_nil)) (.sc _) ((dist_call l n hn hl).mono fun _ _ h => h.1)
end Go.Proofs.Ytpkpfgpfkajkpaa
namespace Go.Proofs.Ytpkpfgpfkajkpaa
open Go.Av Go.Proofs
set_option maxRecDepth 20000
def oneE (n : Int) (out : List Int) (r : Int) : Int := if r < 0 ∨ n ≤ r then 11 else if r ∈ out then 5 else 0
theorem distE_app (n : Int) (r : Int) : ∀ (l s : List Int), distE n s l = 0 → distE n s (l ++ [r]) = oneE n (s ++ l) r
 | [], s, _ => by rw [List.nil_append, List.append_nil]; rfl
 | x :: l, s, h => by
  unfold distE at h
  split at h
  ·cases h
  ·rename_i h1
   split at h
   ·cases h
   ·rename_i h2
    have := distE_app n r l (s ++ [x]) h
    rw [List.append_assoc] at this
    show (if x < 0 ∨ n ≤ x then (11 : Int) else if x ∈ s then 5 else distE n (s ++ [x]) (l ++ [r])) = _
    rw [if_neg h1, if_neg h2, this]
    rfl
def Good (n : Nat) (out : List Int) : Prop := distE n [] out = 0
theorem Good.app {n : Nat} {out : List Int} {r : Int} (h : Good n out) (h1 : oneE n out r = 0) : Good n (out ++ [r]) := by
 have := distE_app n r out [] h
 rw [List.nil_append, h1] at this
 exact this
theorem distE_lt {n : Nat} : ∀ (l s : List Int), distE n s l = 0 → (∀ x ∈ l, 0 ≤ x ∧ x < n) ∧ (∀ x ∈ l, x ∉ s) ∧ l.Nodup
 | [], s, _ => ⟨fun _ h => (by cases h), fun _ h => (by cases h), .nil⟩
 | y :: l, s, h => by
  unfold distE at h
  split at h
  ·cases h
  ·rename_i h1
   split at h
   ·cases h
   ·rename_i h2
    obtain ⟨a, b, c⟩ := distE_lt l _ h
    refine ⟨fun x hx => ?_, fun x hx => ?_, ?_⟩
    ·rcases List.mem_cons.1 hx with rfl | hx
     ·omega
     ·exact a x hx
    ·rcases List.mem_cons.1 hx with rfl | hx
     ·exact h2
     ·exact fun hs => b x hx (List.mem_append_left _ hs)
    ·exact List.nodup_cons.2 ⟨fun hy => b y hy (by simp), c⟩
theorem nodup_len : ∀ (n : Nat) (l : List Int), l.Nodup → (∀ x ∈ l, 0 ≤ x ∧ x < n) → l.length ≤ n
 | 0, [], _, _ => Nat.le_refl _
 | 0, x :: l, _, h => by have := h x (by simp); omega
 | n + 1, l, hn, h => by
  have h1 := nodup_len n (l.filter fun x => decide (x ≠ (n : Int))) (hn.filter _) fun x hx => by
   obtain ⟨a, b⟩ := List.mem_filter.1 hx
   have := h x a
   have b : x ≠ (n : Int) := of_decide_eq_true b
   omega
  have h2 : l.length ≤ (l.filter fun x => decide (x ≠ (n : Int))).length + 1 := by
   by_cases hm : (n : Int) ∈ l
   ·have e1 : l.erase (n : Int) = l.filter fun x => decide (x ≠ (n : Int)) := by
     rw [hn.erase_eq_filter]
     exact List.filter_congr fun x _ => by simp [Bool.beq_eq_decide_eq, bne]
    have := List.length_erase_of_mem hm
    rw [← e1]
    omega
   ·have : l.filter (fun x => decide (x ≠ (n : Int))) = l := List.filter_eq_self.2 fun x hx => decide_eq_true fun e => hm (e ▸ hx)
    rw [this]
    omega
  omega
theorem Good.len {n : Nat} {out : List Int} (h : Good n out) : out.length ≤ n := nodup_len n out (distE_lt out [] h).2.2 (distE_lt out [] h).1
def I64 (x : Int) : Prop := -9223372036854775808 ≤ x ∧ x ≤ 9223372036854775807
def runE (n : Nat) (b c : Int) : Nat → Int → List Int → Int × List Int
 | 0, _, out => (0, out)
 | f + 1, r, out => if oneE n out r = 0 then (if (0 < c ∧ b - r < c) ∨ (c < 0 ∧ r + c < b) then (0, out ++ [r]) else runE n b c f (r + c) (out ++ [r])) else (oneE n out r, [])
def rangE (n : Nat) : List (Int × Int × Int) → List Int → Int × List Int
 | [], out => (0, out)
 | (a, b, c) :: ts, out => if c = 0 then (2, []) else if (0 < c ∧ b < a) ∨ (c < 0 ∧ a < b) then rangE n ts out else
   if (runE n b c (n + 1 - out.length) a out).1 = 0 then rangE n ts (runE n b c (n + 1 - out.length) a out).2 else ((runE n b c (n + 1 - out.length) a out).1, [])
def triR (ts : List (Int × Int × Int)) : List (List AV) := ts.map fun t => [.sc (.int .i64 t.1), .sc (.int .i64 t.2.1), .sc (.int .i64 t.2.2)]
theorem triR_len (ts : List (Int × Int × Int)) : (triR ts).length = ts.length := by simp [triR]
instance (l : List (Int × Int × Int)) : PRs (triR l) := ⟨fun r hr => by
 obtain ⟨a, _, rfl⟩ := List.mem_map.1 hr
 exact allPure_cons (.sc _) (allPure_cons (.sc _) (allPure_cons (.sc _) allPure_nil))⟩
theorem triR_ix (l : List (Int × Int × Int)) (k : Nat) (h : k < l.length) : rowIx (triR l) (k : Int) = some [.sc (.int .i64 l[k].1), .sc (.int .i64 l[k].2.1), .sc (.int .i64 l[k].2.2)] := rowIx_map (fun t : Int × Int × Int => [.sc (.int .i64 t.1), .sc (.int .i64 t.2.1), .sc (.int .i64 t.2.2)]) l k h
set_option maxHeartbeats 8000000 in
theorem ranges_ok (n : Nat) (hn : n ≤ 64) (ts : List (Int × Int × Int)) (hl : ts.length ≤ 1000000) (hb : ∀ t ∈ ts, I64 t.1 ∧ I64 t.2.1 ∧ I64 t.2.2) :
  CallOK Try.prog 14 [.sc (.int .i64 (n : Int)), .list 3 (triR ts)] [] fun res H' => res = .tup [.hsl 0 0 0 (rangE n ts []).2.length, .sc (.int .i64 (rangE n ts []).1)] ∧ H' = [[.cells 1 (intsR (rangE n ts []).2)]] := by
 refine CallOK.of cF14 ?_ (Nat.le_of_ble_eq_true rfl)
 have e0 := triR_len ts
 refine walkX ?_
 rw [decide_eq_false (show ¬ 64 < n by omega)]
 refine walkX ?_
 rw [e0]
 refine AWP.loop2 (fun (k : Nat) (out : List Int) => [(0, .sc (.int .i64 (n : Int))), (6, .hsl 0 0 0 out.length), (20, .list 3 (triR ts)), (21, .sc (.int .i64 (ts.length : Int))), (22, .sc (.int .i64 (k : Int)))])
  (fun k out => [[.cells 1 (intsR out)]]) (fun k out => k ≤ ts.length ∧ Good n out ∧ rangE n ts [] = rangE n (ts.drop k) out) (fun k out => ts.length - k) 0 [] ⟨Nat.zero_le _, rfl, rfl⟩ ?_ ?_
 ·(apply Sub.to [1] [[(0,0)]]; all_goals (repeat' (first | exact ToAll.nil | exact famsTo.nil | exact famTo.nil | exact ToL.nil | exact ToR.nil | refine ToAll.cons ?_ ?_ | refine famsTo.cons ?_ ?_ | refine wt10 ?_ ?_ | exact To.undef _ | exact To.sc _ | exact To.hslL rfl rfl | exact To.ptrO rfl rfl rfl | exact To.mrefO rfl | exact To.nil rfl rfl rfl | exact wt1 | exact To.nilL | refine To.int ?_ | refine To.bool ?_ | refine To.hslL rfl ?_ | refine wt2 rfl ?_ ?_ ?_ | refine To.tupL ?_ | refine To.aggL ?_ | refine To.cptrL ?_ | refine wt3 ?_ | refine wt4 ?_ | refine To.cloL ?_ ?_ | exact wt5 | refine wt6 ?_ | refine ToB.one ?_ | exact wt7 | ((with_reducible apply ToL.consE); case e9 => rfl) | refine wt8 ?_ | refine ToL.cons ?_ ?_ | exact wt11 | refine wt9 ?_ ?_ | refine wt12 ?_ | (with_reducible rfl) | assumption)); all_goals (first | rfl | assumption | (simp; done) | (simp; omega) | (rw [wrap_small (by omega) (by omega)]; done) | (rw [wrap_small (by omega) (by omega)]; omega) | (refine congrArg Nat.cast ?_; assumption) | skip))
 rintro k out ⟨hk, hg, hd⟩
 refine walkX ?_
 refine AWP.condD rfl (fun h => ?_) (fun h => ?_)
 ·have hr := triR_ix ts k h
  have hbk := hb ts[k] (List.getElem_mem h)
  have hd2 : rangE n (ts.drop k) out = rangE n (ts[k] :: ts.drop (k + 1)) out := by rw [List.drop_eq_getElem_cons h]
  rw [hd2] at hd
  clear hd2
  generalize ts[k] = t at *
  obtain ⟨a, b, c⟩ := t
  obtain ⟨⟨ha1, ha2⟩, ⟨hb1, hb2⟩, hc1, hc2⟩ := hbk
  dsimp only at *
  have hd3 : rangE n ((a, b, c) :: ts.drop (k + 1)) out = if c = 0 then (2, []) else if (0 < c ∧ b < a) ∨ (c < 0 ∧ a < b) then rangE n (ts.drop (k + 1)) out else
   if (runE n b c (n + 1 - out.length) a out).1 = 0 then rangE n (ts.drop (k + 1)) (runE n b c (n + 1 - out.length) a out).2 else ((runE n b c (n + 1 - out.length) a out).1, []) := rfl
  rw [hd3] at hd
  refine walkX ?_
  refine DK.nil ⟨by kernel_rfl, ?_⟩
  refine AWP.joinE (σ := Unit) (fun _ => [(0, .sc (.int .i64 (n : Int))), (6, .hsl 0 0 0 out.length), (9, .sc (.int .i64 a)), (10, .sc (.int .i64 b)), (11, .sc (.int .i64 c)), (20, .list 3 (triR ts)), (21, .sc (.int .i64 (ts.length : Int))), (22, .sc (.int .i64 (k : Int)))]) (fun _ => [[.cells 1 (intsR out)]]) (fun _ => c ≠ 0 ∧ (0 < c → a ≤ b) ∧ (c < 0 → b ≤ a) ∧
   rangE n ts [] = if (runE n b c (n + 1 - out.length) a out).1 = 0 then rangE n (ts.drop (k + 1)) (runE n b c (n + 1 - out.length) a out).2 else ((runE n b c (n + 1 - out.length) a out).1, [])) ?_ ?_
  ·by_cases h0 : c = 0
   ·rw [if_pos h0] at hd
    subst h0
    refine walkX ?_
    rw [hd]
    (refine ⟨.inr rfl, _, .tup [.hsl 0 0 0 0, .sc (.int .i64 (2))], [[.cells 1 []]], rfl, SubV.to [1] [[((3),0)]] ?_ ?_ rfl rfl rfl, rfl, rfl⟩; all_goals (all_goals (repeat' (first | exact ToAll.nil | exact famsTo.nil | exact famTo.nil | exact ToL.nil | exact ToR.nil | refine ToAll.cons ?_ ?_ | refine famsTo.cons ?_ ?_ | refine wt10 ?_ ?_ | exact To.undef _ | exact To.sc _ | exact To.hslL rfl rfl | exact To.ptrO rfl rfl rfl | exact To.mrefO rfl | exact To.nil rfl rfl rfl | exact wt1 | exact To.nilL | refine To.int ?_ | refine To.bool ?_ | refine To.hslL rfl ?_ | refine wt2 rfl ?_ ?_ ?_ | refine To.tupL ?_ | refine To.aggL ?_ | refine To.cptrL ?_ | refine wt3 ?_ | refine wt4 ?_ | refine To.cloL ?_ ?_ | exact wt5 | refine wt6 ?_ | refine ToB.one ?_ | exact wt7 | ((with_reducible apply ToL.consE); case e9 => rfl) | refine wt8 ?_ | refine ToL.cons ?_ ?_ | exact wt11 | refine wt9 ?_ ?_ | refine wt12 ?_ | (with_reducible rfl) | assumption)); all_goals (first | rfl | assumption | (simp; done) | (simp; omega) | (rw [wrap_small (by omega) (by omega)]; done) | (rw [wrap_small (by omega) (by omega)]; omega) | (refine congrArg Nat.cast ?_; assumption) | skip)))
   rw [if_neg h0] at hd
   refine walkX ?_
   rw [beq_false_of_ne h0]
   refine walkX ?_
   by_cases hc : 0 < c
   ·rw [decide_eq_true hc]
    refine walkX ?_
    by_cases h1 : b < a
    ·rw [if_pos (.inl ⟨hc, h1⟩)] at hd
     rw [decide_eq_true h1]
     refine walkX ?_
     refine ⟨k + 1, out, ⟨by omega, hg, hd⟩, by omega, ?_⟩
     exact Sub.w [] [[(0,0)]]
    ·rw [decide_eq_false h1]
     refine walkX ?_
     rw [decide_eq_false (show ¬ c < 0 by omega)]
     refine walkX ?_
     rw [if_neg (by omega)] at hd
     refine ⟨(), ⟨h0, by omega, by omega, hd⟩, ?_⟩
     exact Sub.w [] [[(0,0)]]
   ·rw [decide_eq_false hc]
    refine walkX ?_
    rw [decide_eq_true (show c < 0 by omega)]
    refine walkX ?_
    by_cases h1 : a < b
    ·rw [if_pos (.inr ⟨by omega, h1⟩)] at hd
     rw [decide_eq_true h1]
     refine walkX ?_
     refine ⟨k + 1, out, ⟨by omega, hg, hd⟩, by omega, ?_⟩
     exact Sub.w [] [[(0,0)]]
    ·rw [decide_eq_false h1]
     refine walkX ?_
     rw [if_neg (by omega)] at hd
     refine ⟨(), ⟨h0, by omega, by omega, hd⟩, ?_⟩
     exact Sub.w [] [[(0,0)]]
  clear hd hd3
  rintro _ ⟨h0, i1, i2, hd⟩
  refine walkX ?_
  refine AWP.loop2 (fun (r : Int) (o : List Int) => [(0, .sc (.int .i64 (n : Int))), (6, .hsl 0 0 0 o.length), (10, .sc (.int .i64 b)), (11, .sc (.int .i64 c)), (12, .sc (.int .i64 r)), (20, .list 3 (triR ts)), (21, .sc (.int .i64 (ts.length : Int))), (22, .sc (.int .i64 (k : Int)))])
   (fun r o => [[.cells 1 (intsR o)]]) (fun r o => Good n o ∧ (0 < c → r ≤ b) ∧ (c < 0 → b ≤ r) ∧ I64 r ∧ rangE n ts [] = if (runE n b c (n + 1 - o.length) r o).1 = 0 then rangE n (ts.drop (k + 1)) (runE n b c (n + 1 - o.length) r o).2 else ((runE n b c (n + 1 - o.length) r o).1, []))
   (fun r o => n + 1 - o.length) a out ?_ ?_ ?_
  ·exact ⟨hg, i1, i2, ⟨ha1, ha2⟩, hd⟩
  ·exact Sub.w [] [[(0,0)]]
  rintro r o ⟨hgo, h3, h4, ⟨h5, h6⟩, hd⟩
  have hlen := hgo.len
  rw [show n + 1 - o.length = (n - o.length) + 1 by omega] at hd
  have hd5 : runE n b c ((n - o.length) + 1) r o = if oneE n o r = 0 then (if (0 < c ∧ b - r < c) ∨ (c < 0 ∧ r + c < b) then (0, o ++ [r]) else runE n b c (n - o.length) (r + c) (o ++ [r])) else (oneE n o r, []) := rfl
  have hv := dist_ok (o ++ [r]) n hn (by simp; omega)
  have hr2 : intsR (o ++ [r]) = intsR o ++ [[.sc (.int .i64 r)]] := by simp [intsR]
  have e1 := intsR_len o
  rw [distE_app n r o [] hgo, List.nil_append, hr2] at hv
  refine AWP.seq ?_
  refine AWP.block ?_
  refine AWP.seq ?_
  refine AWP.join [(0, .sc (.int .i64 (n : Int))), (6, .hsl 0 0 0 o.length), (10, .sc (.int .i64 b)), (11, .sc (.int .i64 c)), (12, .sc (.int .i64 r)), (13, .sc (.int .i64 (oneE n o r))), (20, .list 3 (triR ts)), (21, .sc (.int .i64 (ts.length : Int))), (22, .sc (.int .i64 (k : Int)))] [[.cells 1 (intsR o)]] ?_ ?_
  ·refine AWP.region ?_
   refine Reg.o rfl rfl ?_
   refine Reg.o rfl rfl ?_
   refine Reg.o rfl rfl ?_
   refine Reg.app2 (rows1 := intsR o) (rows2 := [[.sc (.int .i64 r)]]) rfl rfl rfl rfl e1 (by simp; omega) ?_ ?_
   ·refine walkX ?_
    (refine Reg.pv (by first | exact Nat.zero_le _ | exact Nat.le_refl _ | (simp; done) | (simp; omega)) rfl hv (by first | exact .sc _ | (exact .agg _ (fun c hc => by simp at hc; rcases hc with h | h <;> subst h <;> exact .sc _)) | assumption) ?vw9 ?_; case vw9 => (all_goals (repeat' (first | exact ToAll.nil | exact famsTo.nil | exact famTo.nil | exact ToL.nil | exact ToR.nil | refine ToAll.cons ?_ ?_ | refine famsTo.cons ?_ ?_ | refine wt10 ?_ ?_ | exact To.undef _ | exact To.sc _ | exact To.hslL rfl rfl | exact To.ptrO rfl rfl rfl | exact To.mrefO rfl | exact To.nil rfl rfl rfl | exact wt1 | exact To.nilL | refine To.int ?_ | refine To.bool ?_ | refine To.hslL rfl ?_ | refine wt2 rfl ?_ ?_ ?_ | refine To.tupL ?_ | refine To.aggL ?_ | refine To.cptrL ?_ | refine wt3 ?_ | refine wt4 ?_ | refine To.cloL ?_ ?_ | exact wt5 | refine wt6 ?_ | refine ToB.one ?_ | exact wt7 | ((with_reducible apply ToL.consE); case e9 => rfl) | refine wt8 ?_ | refine ToL.cons ?_ ?_ | exact wt11 | refine wt9 ?_ ?_ | refine wt12 ?_ | (with_reducible rfl) | assumption)); all_goals (first | rfl | assumption | (simp; done) | (simp; omega))))
    refine walkX ?_
    refine Sub.trans (Sub.trunc o.length (g := 0) (i := 0) rfl) ?_
    rw [List.take_left' e1]
    exact Sub.w [] [[(0,0)]]
   ·refine walkX ?_
    (refine Reg.pv (by first | exact Nat.zero_le _ | exact Nat.le_refl _ | (simp; done) | (simp; omega)) rfl hv (by first | exact .sc _ | (exact .agg _ (fun c hc => by simp at hc; rcases hc with h | h <;> subst h <;> exact .sc _)) | assumption) ?vw9 ?_; case vw9 => (all_goals (repeat' (first | exact ToAll.nil | exact famsTo.nil | exact famTo.nil | exact ToL.nil | exact ToR.nil | refine ToAll.cons ?_ ?_ | refine famsTo.cons ?_ ?_ | refine wt10 ?_ ?_ | exact To.undef _ | exact To.sc _ | exact To.hslL rfl rfl | exact To.ptrO rfl rfl rfl | exact To.mrefO rfl | exact To.nil rfl rfl rfl | exact wt1 | exact To.nilL | refine To.int ?_ | refine To.bool ?_ | refine To.hslL rfl ?_ | refine wt2 rfl ?_ ?_ ?_ | refine To.tupL ?_ | refine To.aggL ?_ | refine To.cptrL ?_ | refine wt3 ?_ | refine wt4 ?_ | refine To.cloL ?_ ?_ | exact wt5 | refine wt6 ?_ | refine ToB.one ?_ | exact wt7 | ((with_reducible apply ToL.consE); case e9 => rfl) | refine wt8 ?_ | refine ToL.cons ?_ ?_ | exact wt11 | refine wt9 ?_ ?_ | refine wt12 ?_ | (with_reducible rfl) | assumption)); all_goals (first | rfl | assumption | (simp; done) | (simp; omega))))
    refine walkX ?_
    exact Sub.w [] [[(0,0)]]
  by_cases he : oneE n o r = 0
  ·rw [hd5, if_pos he] at hd
   have hgr := hgo.app he
   have hl2 := hgr.len
   rw [List.length_append] at hl2
   have hr0 : 0 ≤ r ∧ r < n := by
    unfold oneE at he
    split at he
    ·cases he
    ·omega
   have e2 : (o ++ [r]).length = o.length + 1 := by simp
   have e3 : n + 1 - (o ++ [r]).length = n - o.length := by omega
   rw [he]
   refine walkX ?_
   by_cases hc : 0 < c
   ·rw [decide_eq_true hc]
    refine walkX ?_
    rw [wrap_small (show -9223372036854775808 ≤ b - r by omega) (show b - r ≤ 9223372036854775807 by omega)]
    by_cases h7 : b - r < c
    ·rw [decide_eq_true h7]
     refine walkX ?_
     rw [if_pos (show (0 < c ∧ b - r < c) ∨ (c < 0 ∧ r + c < b) from .inl ⟨hc, h7⟩), if_pos rfl] at hd
     refine ⟨k + 1, o ++ [r], ⟨by omega, hgr, hd⟩, by omega, ?_⟩
     rw [hr2, e2]
     exact Sub.w [] [[(2,0)]]
    ·rw [decide_eq_false h7]
     refine walkX ?_
     rw [decide_eq_false (show ¬ c < 0 by omega)]
     refine walkX ?_
     rw [if_neg (show ¬ ((0 < c ∧ b - r < c) ∨ (c < 0 ∧ r + c < b)) by omega), ← e3] at hd
     refine ⟨r + c, o ++ [r], ⟨hgr, by omega, by omega, ⟨by omega, by omega⟩, hd⟩, by omega, ?_⟩
     rw [hr2, e2]
     exact Sub.w [] [[(2,0)]]
   ·rw [decide_eq_false hc]
    refine walkX ?_
    rw [decide_eq_true (show c < 0 by omega)]
    refine walkX ?_
    rw [wrap_small (show -9223372036854775808 ≤ r + c by omega) (show r + c ≤ 9223372036854775807 by omega)]
    by_cases h7 : r + c < b
    ·rw [decide_eq_true h7]
     refine walkX ?_
     rw [if_pos (show (0 < c ∧ b - r < c) ∨ (c < 0 ∧ r + c < b) from .inr ⟨by omega, h7⟩), if_pos rfl] at hd
     refine ⟨k + 1, o ++ [r], ⟨by omega, hgr, hd⟩, by omega, ?_⟩
     rw [hr2, e2]
     exact Sub.w [] [[(2,0)]]
    ·rw [decide_eq_false h7]
     refine walkX ?_
     rw [if_neg (show ¬ ((0 < c ∧ b - r < c) ∨ (c < 0 ∧ r + c < b)) by omega), ← e3] at hd
     refine ⟨r + c, o ++ [r], ⟨hgr, by omega, by omega, ⟨by omega, by omega⟩, hd⟩, by omega, ?_⟩
     rw [hr2, e2]
     exact Sub.w [] [[(2,0)]]
  rw [hd5, if_neg he, if_neg he] at hd
  have he2 : oneE n o r = 11 ∨ oneE n o r = 5 := by
   unfold oneE at he ⊢
   split
   ·exact .inl rfl
   ·rename_i q
    rw [if_neg q] at he
    split
    ·exact .inr rfl
    ·rename_i q
     rw [if_neg q] at he
     exact absurd rfl he
  rcases he2 with he2 | he2
  ·rw [he2] at hd ⊢
   refine walkX ?_
   rw [hd]
   (refine ⟨.inr rfl, _, .tup [.hsl 0 0 0 0, .sc (.int .i64 (11))], [[.cells 1 []]], rfl, SubV.to [1] [[((1),0)]] ?_ ?_ rfl rfl rfl, rfl, rfl⟩; all_goals (all_goals (repeat' (first | exact ToAll.nil | exact famsTo.nil | exact famTo.nil | exact ToL.nil | exact ToR.nil | refine ToAll.cons ?_ ?_ | refine famsTo.cons ?_ ?_ | refine wt10 ?_ ?_ | exact To.undef _ | exact To.sc _ | exact To.hslL rfl rfl | exact To.ptrO rfl rfl rfl | exact To.mrefO rfl | exact To.nil rfl rfl rfl | exact wt1 | exact To.nilL | refine To.int ?_ | refine To.bool ?_ | refine To.hslL rfl ?_ | refine wt2 rfl ?_ ?_ ?_ | refine To.tupL ?_ | refine To.aggL ?_ | refine To.cptrL ?_ | refine wt3 ?_ | refine wt4 ?_ | refine To.cloL ?_ ?_ | exact wt5 | refine wt6 ?_ | refine ToB.one ?_ | exact wt7 | ((with_reducible apply ToL.consE); case e9 => rfl) | refine wt8 ?_ | refine ToL.cons ?_ ?_ | exact wt11 | refine wt9 ?_ ?_ | refine wt12 ?_ | (with_reducible rfl) | assumption)); all_goals (first | rfl | assumption | (simp; done) | (simp; omega) | (rw [wrap_small (by omega) (by omega)]; done) | (rw [wrap_small (by omega) (by omega)]; omega) | (refine congrArg Nat.cast ?_; assumption) | skip)))
  ·rw [he2] at hd ⊢
   refine walkX ?_
   rw [hd]
   (refine ⟨.inr rfl, _, .tup [.hsl 0 0 0 0, .sc (.int .i64 (5))], [[.cells 1 []]], rfl, SubV.to [1] [[((1),0)]] ?_ ?_ rfl rfl rfl, rfl, rfl⟩; all_goals (all_goals (repeat' (first | exact ToAll.nil | exact famsTo.nil | exact famTo.nil | exact ToL.nil | exact ToR.nil | refine ToAll.cons ?_ ?_ | refine famsTo.cons ?_ ?_ | refine wt10 ?_ ?_ | exact To.undef _ | exact To.sc _ | exact To.hslL rfl rfl | exact To.ptrO rfl rfl rfl | exact To.mrefO rfl | exact To.nil rfl rfl rfl | exact wt1 | exact To.nilL | refine To.int ?_ | refine To.bool ?_ | refine To.hslL rfl ?_ | refine wt2 rfl ?_ ?_ ?_ | refine To.tupL ?_ | refine To.aggL ?_ | refine To.cptrL ?_ | refine wt3 ?_ | refine wt4 ?_ | refine To.cloL ?_ ?_ | exact wt5 | refine wt6 ?_ | refine ToB.one ?_ | exact wt7 | ((with_reducible apply ToL.consE); case e9 => rfl) | refine wt8 ?_ | refine ToL.cons ?_ ?_ | exact wt11 | refine wt9 ?_ ?_ | refine wt12 ?_ | (with_reducible rfl) | assumption)); all_goals (first | rfl | assumption | (simp; done) | (simp; omega) | (rw [wrap_small (by omega) (by omega)]; done) | (rw [wrap_small (by omega) (by omega)]; omega) | (refine congrArg Nat.cast ?_; assumption) | skip)))
 have hk : k = ts.length := by omega
 subst hk
 rw [List.drop_length] at hd
 have hd4 : rangE n [] out = (0, out) := rfl
 rw [hd4] at hd
 refine walkX ?_
 rw [hd]
 exact endW [[(0,0)]] (⟨rfl, rfl⟩)
end Go.Proofs.Ytpkpfgpfkajkpaa
namespace Go.Proofs.Ytpkpfgpfkajkpaa
open Go.Av Go.Proofs
set_option maxRecDepth 20000
theorem beq_self (n : Int) : (n == n) = true := by simp
end Go.Proofs.Ytpkpfgpfkajkpaa
namespace Go.Proofs.Ytpkpfgpfkajkpaa
open Go.Av Go.Proofs
set_option maxRecDepth 20000
def insK (x : Int) : List Int → List Int
 | [] => [x]
 | y :: l => match ltK y x with
  | true => y :: insK x l
  | false => x :: y :: l
def isK : List Int → List Int
 | [] => []
 | x :: l => insK x (isK l)
theorem insK_perm (x : Int) : ∀ l, (insK x l).Perm (x :: l)
 | [] => .refl _
 | y :: l => by
  unfold insK
  split
  ·exact ((insK_perm x l).cons y).trans (.swap x y l)
  ·exact .refl _
theorem isK_perm : ∀ l, (isK l).Perm l
 | [] => .refl _
 | x :: l => (insK_perm x _).trans ((isK_perm l).cons x)
theorem ltK_iff (a b : Int) : ltK a b = true ↔ a < b := by rw [ltK_eq, decide_eq_true_eq]
theorem insK_sorted (x : Int) : ∀ l : List Int, l.Pairwise (· ≤ ·) → (insK x l).Pairwise (· ≤ ·)
 | [], _ => List.pairwise_singleton _ _
 | y :: l, h => by
  obtain ⟨h1, h2⟩ := List.pairwise_cons.1 h
  unfold insK
  split
  ·rename_i e
   have e := (ltK_iff y x).1 e
   refine List.pairwise_cons.2 ⟨fun z hz => ?_, insK_sorted x l h2⟩
   rcases List.mem_cons.1 ((insK_perm x l).subset hz) with rfl | hz
   ·omega
   ·exact h1 z hz
  ·rename_i e
   have e : ¬ y < x := fun h => by rw [(ltK_iff y x).2 h] at e; cases e
   refine List.pairwise_cons.2 ⟨fun z hz => ?_, h⟩
   rcases List.mem_cons.1 hz with rfl | hz
   ·omega
   ·have := h1 z hz; omega
theorem isK_sorted : ∀ l : List Int, (isK l).Pairwise (· ≤ ·)
 | [] => .nil
 | x :: l => insK_sorted x _ (isK_sorted l)
theorem isK_eq (l : List Int) : isK l = sortI l := by
 refine sorted_eq (isK_perm l) fun p q h1 h2 => ?_
 have := List.pairwise_iff_getElem.1 (isK_sorted l) p q (by omega) h2 h1
 simp only [List.getD_eq_getElem?_getD, List.getElem?_eq_getElem h2, List.getElem?_eq_getElem (show p < (isK l).length by omega), Option.getD_some]
 exact this
def keysK : List (Value × AV) → Option (List (Int × AV))
 | [] => some []
 | (.int .i64 n, a) :: r => match keysK r with
  | some l => some ((n, a) :: l)
  | none => none
 | _ :: _ => none
theorem keysK_eq : ∀ (es : List (Value × AV)) (l : List (Int × AV)), keysK es = some l → es = keyM l
 | [], l, h => by injection h with h; subst h; rfl
 | (k, a) :: r, l, h => by
  unfold keysK at h
  split at h
  ·rename_i e
   cases e
  ·rename_i n a' r' e
   injection e with e1 e2
   injection e1 with e3 e4
   subst e2; subst e3; subst e4
   split at h
   ·rename_i l' e
    injection h with h
    subst h
    rw [keysK_eq _ _ e]
    rfl
   ·cases h
  ·cases h
def sum65 (args : List AV) (H : Heap) : Option (AV × Heap) :=
 match args with
 | [.clo (.func 103) [] [.ptr g i 0 0]] => match hget H g i with
  | some (.cells 1 [[.mref g' i']]) => match hget H g' i' with
   | some (.map es) => match keysK es with
    | some l => match Nat.ble l.length 12 with
     | true => some (.hsl H.length 0 0 l.length, H ++ [[.cells 1 (intsR (isK (l.map (·.1))))]])
     | false => none
    | none => none
   | _ => none
  | _ => none
 | _ => none
theorem sum65_ok (args : List AV) (H : Heap) (v : AV) (H' : Heap) (h : sum65 args H = some (v, H')) : CallOK Try.prog 65 args H fun r H2 => r = v ∧ H2 = H' := by
 unfold sum65 at h
 split at h
 ·split at h
  ·rename_i g i g' i' h1
   split at h
   ·rename_i es h2
    split at h
    ·rename_i l h3
     split at h
     ·rename_i h4
      simp only [Option.some.injEq, Prod.mk.injEq] at h
      obtain ⟨rfl, rfl⟩ := h
      rw [keysK_eq _ _ h3] at h2
      rw [isK_eq]
      exact sorted_at l h1 h2 (Nat.le_of_ble_eq_true h4)
     ·cases h
    ·cases h
   ·cases h
  ·cases h
 ·cases h
def natsK : List (List AV) → Option (List Nat)
 | [] => some []
 | [.sc (.int .i64 (.ofNat n))] :: r => match natsK r with
  | some l => some (n :: l)
  | none => none
 | _ :: _ => none
theorem natsK_eq : ∀ (es : List (List AV)) (l : List Nat), natsK es = some l → es = natsR l
 | [], l, h => by injection h with h; subst h; rfl
 | x :: r, l, h => by
  unfold natsK at h
  split at h
  ·rename_i e
   cases e
  ·rename_i n r' e
   injection e with e1 e2
   subst e1; subst e2
   split at h
   ·rename_i l' e
    injection h with h
    subst h
    rw [natsK_eq _ _ e]
    rfl
   ·cases h
  ·cases h
def intsK : List (List AV) → Option (List Int)
 | [] => some []
 | [.sc (.int .i64 n)] :: r => match intsK r with
  | some l => some (n :: l)
  | none => none
 | _ :: _ => none
theorem intsK_eq : ∀ (es : List (List AV)) (l : List Int), intsK es = some l → es = intsR l
 | [], l, h => by injection h with h; subst h; rfl
 | x :: r, l, h => by
  unfold intsK at h
  split at h
  ·rename_i e
   cases e
  ·rename_i n r' e
   injection e with e1 e2
   subst e1; subst e2
   split at h
   ·rename_i l' e
    injection h with h
    subst h
    rw [intsK_eq _ _ e]
    rfl
   ·cases h
  ·cases h
def scK : List (List AV) → Bool
 | [] => true
 | [.sc _] :: r => scK r
 | _ :: _ => false
theorem scK_pure : ∀ (es : List (List AV)), scK es = true → ∀ r ∈ es, ∀ c ∈ r, Pure c
 | [], _, r, hr, _, _ => by cases hr
 | x :: es, h, r, hr, c, hc => by
  unfold scK at h
  split at h
  ·rename_i e
   cases e
  ·rename_i v r' e
   injection e with e1 e2
   subst e1; subst e2
   rcases List.mem_cons.1 hr with rfl | hr
   ·rw [List.mem_singleton.1 hc]
    exact .sc _
   ·exact scK_pure _ h r hr c hc
  ·cases h
def okS : List Nat → Bool
 | [] => true
 | a :: l => (Nat.blt 0 a && Nat.ble a 1000) && okS l
theorem okS_spec : ∀ (l : List Nat), okS l = true → ∀ a ∈ l, 0 < a ∧ a ≤ 1000
 | [], _, a, ha => by cases ha
 | x :: l, h, a, ha => by
  simp only [okS, Bool.and_eq_true] at h
  rcases List.mem_cons.1 ha with rfl | ha
  ·exact ⟨Nat.le_of_ble_eq_true h.1.1, Nat.le_of_ble_eq_true h.1.2⟩
  ·exact okS_spec l h.2 a ha
def sum74 (args : List AV) (H : Heap) : Option (AV × Heap) :=
 match args with
 | [.agg [.hsl g i 0 n, .hsl g' i' 0 m], .sc (.int .i64 (.ofNat r))] => match hget H g i, hget H g' i' with
  | some (.cells 1 rows), some (.cells 1 W) => match natsK rows with
   | some s => match (Nat.beq rows.length n && Nat.beq W.length m) && (scK W && okS s) && (Nat.ble s.length 1000 && Nat.ble r 1000000) with
    | true => some (.hsl H.length 0 0 s.length, H ++ [[.cells 1 (natsR (coordN s r))]])
    | false => none
   | none => none
  | _, _ => none
 | _ => none
theorem sum74_ok (args : List AV) (H : Heap) (v : AV) (H' : Heap) (h : sum74 args H = some (v, H')) : CallOK Try.prog 74 args H fun r H2 => r = v ∧ H2 = H' := by
 unfold sum74 at h
 split at h
 ·rename_i g i n g' i' m r
  split at h
  ·rename_i rows W h1 h2
   split at h
   ·rename_i s h3
    split at h
    ·rename_i h4
     simp only [Bool.and_eq_true] at h4
     obtain ⟨⟨⟨a1, a2⟩, a3, a4⟩, a5, a6⟩ := h4
     have a1 := Nat.eq_of_beq_eq_true a1
     have a2 := Nat.eq_of_beq_eq_true a2
     simp only [Option.some.injEq, Prod.mk.injEq] at h
     obtain ⟨rfl, rfl⟩ := h
     have := natsK_eq _ _ h3
     subst this
     have hW : PRs W := ⟨scK_pure W a3⟩
     have hc := coords_ok s W r (Nat.le_of_ble_eq_true a5) (okS_spec s a4) (Nat.le_of_ble_eq_true a6)
     have h1' : hget (H ++ gh []) g i = some (.cells 1 (natsR s)) := by rw [show H ++ gh [] = H from List.append_nil H]; exact h1
     have h2' : hget (H ++ gh []) g' i' = some (.cells 1 W) := by rw [show H ++ gh [] = H from List.append_nil H]; exact h2
     refine CallOK.viewL (fun r hr c hc => ?_) hc (ToL.cons (To.aggL (ToL.cons (wt2 h1' rfl a1 rfl) (ToL.cons (wt2 h2' rfl a2 rfl) ToL.nil))) (ToL.cons (To.sc _) ToL.nil))
     obtain ⟨n, _, rfl⟩ := List.mem_map.1 hr
     exact ⟨_, List.mem_singleton.1 hc⟩
    ·cases h
   ·cases h
  ·cases h
 ·cases h
def oneK (H : Heap) (a : AV) : Option (List Int) :=
 match a with
 | .hsl g i 0 n => match hget H g i with
  | some (.cells 1 rows) => match Nat.beq rows.length n with
   | true => intsK rows
   | false => none
  | _ => none
 | .sc (.slice none 0 0) => some []
 | .list 1 rows => intsK rows
 | _ => none
theorem oneK_to {H : Heap} {a : AV} {l : List Int} (h : oneK H a = some l) : To (ToT (H ++ gh []) H.length (notIn [])) (rho []) a (.list 1 (intsR l)) := by
 unfold oneK at h
 split at h
 ·rename_i g i n
  split at h
  ·rename_i rows h1
   split at h
   ·rename_i h2
    have := intsK_eq _ _ h
    subst this
    exact wt2 (by rw [show H ++ gh [] = H from List.append_nil H]; exact h1) rfl (Nat.eq_of_beq_eq_true h2) rfl
   ·cases h
  ·cases h
 ·injection h with h
  subst h
  exact To.nilL
 ·have := intsK_eq _ _ h
  subst this
  exact To.pure (.list _ _ (prs _))
 ·cases h
def sum80 (args : List AV) (H : Heap) : Option (AV × Heap) :=
 match args with
 | [.hsl g i 0 2] => match hget H g i with
  | some (.cells 1 [[a], [b]]) => match oneK H a, oneK H b with
   | some l, some m => match Nat.ble (l.length + m.length) 1000000 with
    | true => some (.hsl H.length 0 0 (l.length + m.length), H ++ [[.cells 1 (intsR (l ++ m))]])
    | false => none
   | _, _ => none
  | _ => none
 | _ => none
theorem sum80_ok (args : List AV) (H : Heap) (v : AV) (H' : Heap) (h : sum80 args H = some (v, H')) : CallOK Try.prog 80 args H fun r H2 => r = v ∧ H2 = H' := by
 unfold sum80 at h
 split at h
 ·rename_i g i
  split at h
  ·rename_i a b h1
   split at h
   ·rename_i l m h2 h3
    split at h
    ·rename_i h4
     simp only [Option.some.injEq, Prod.mk.injEq] at h
     obtain ⟨rfl, rfl⟩ := h
     have e1 : sumLen [l, m] = l.length + m.length := by simp [sumLen]
     have e2 : [l, m].flatten = l ++ m := by simp
     have hc := concat_ok [l, m] (by simp) (by rw [e1]; exact Nat.le_of_ble_eq_true h4)
     rw [e1, e2] at hc
     have h1' : hget (H ++ gh []) g i = some (.cells 1 [[a], [b]]) := by rw [show H ++ gh [] = H from List.append_nil H]; exact h1
     refine CallOK.viewL (fun r hr c hc => ?_) hc (ToL.cons (To.base (.fz (.hsl g i 0 2 1 [[a], [b]] rfl h1' (Nat.le_refl _))) ?_) ToL.nil)
     ·obtain ⟨n, _, rfl⟩ := List.mem_map.1 hr
      exact ⟨_, List.mem_singleton.1 hc⟩
     ·refine .list 1 _ _ rfl (fun i r r' a b => ?_) fun i r r' j x y a b c d => ?_
      ·match i with
       | 0 => simp [listsR] at a b; subst a; subst b; rfl
       | 1 => simp [listsR] at a b; subst a; subst b; rfl
       | i + 2 => simp at a
      ·match i with
       | 0 =>
        simp [listsR] at a b; subst a; subst b
        cases j with
        | zero => simp at c d; subst c; subst d; exact oneK_to h2
        | succ j => simp at c
       | 1 =>
        simp [listsR] at a b; subst a; subst b
        cases j with
        | zero => simp at c d; subst c; subst d; exact oneK_to h3
        | succ j => simp at c
       | i + 2 => simp at a
    ·cases h
   ·cases h
  ·cases h
 ·cases h
def trisK : List (List AV) → Option (List (Int × Int × Int))
 | [] => some []
 | [.sc (.int .i64 a), .sc (.int .i64 b), .sc (.int .i64 c)] :: r => match trisK r with
  | some l => some ((a, b, c) :: l)
  | none => none
 | _ :: _ => none
theorem trisK_eq : ∀ (es : List (List AV)) (l : List (Int × Int × Int)), trisK es = some l → es = triR l
 | [], l, h => by injection h with h; subst h; rfl
 | x :: r, l, h => by
  unfold trisK at h
  split at h
  ·rename_i e
   cases e
  ·rename_i a b c r' e
   injection e with e1 e2
   subst e1; subst e2
   split at h
   ·rename_i l' e
    injection h with h
    subst h
    rw [trisK_eq _ _ e]
    rfl
   ·cases h
  ·cases h
def i64K (x : Int) : Bool := decide (-9223372036854775808 ≤ x) && decide (x ≤ 9223372036854775807)
def tri64 : List (Int × Int × Int) → Bool
 | [] => true
 | (a, b, c) :: l => (i64K a && (i64K b && i64K c)) && tri64 l
theorem tri64_spec : ∀ (l : List (Int × Int × Int)), tri64 l = true → ∀ t ∈ l, I64 t.1 ∧ I64 t.2.1 ∧ I64 t.2.2
 | [], _, t, ht => by cases ht
 | (a, b, c) :: l, h, t, ht => by
  simp only [tri64, i64K, Bool.and_eq_true, decide_eq_true_eq] at h
  rcases List.mem_cons.1 ht with rfl | ht
  ·exact ⟨h.1.1, h.1.2.1, h.1.2.2⟩
  ·exact tri64_spec l h.2 t ht
def sum14 (args : List AV) (H : Heap) : Option (AV × Heap) :=
 match args with
 | [.sc (.int .i64 (.ofNat n)), .hsl g i 0 m] => match hget H g i with
  | some (.cells 3 rows) => match trisK rows with
   | some ts => match (Nat.beq rows.length m && Nat.ble n 64) && (Nat.ble ts.length 1000000 && tri64 ts) with
    | true => some (.tup [.hsl H.length 0 0 (rangE n ts []).2.length, .sc (.int .i64 (rangE n ts []).1)], H ++ [[.cells 1 (intsR (rangE n ts []).2)]])
    | false => none
   | none => none
  | _ => none
 | _ => none
theorem sum14_ok (args : List AV) (H : Heap) (v : AV) (H' : Heap) (h : sum14 args H = some (v, H')) : CallOK Try.prog 14 args H fun r H2 => r = v ∧ H2 = H' := by
 unfold sum14 at h
 split at h
 ·rename_i n g i m
  split at h
  ·rename_i rows h1
   split at h
   ·rename_i ts h3
    split at h
    ·rename_i h4
     simp only [Bool.and_eq_true] at h4
     obtain ⟨⟨a1, a2⟩, a3, a4⟩ := h4
     have a1 := Nat.eq_of_beq_eq_true a1
     simp only [Option.some.injEq, Prod.mk.injEq] at h
     obtain ⟨rfl, rfl⟩ := h
     have := trisK_eq _ _ h3
     subst this
     have hc := ranges_ok n (Nat.le_of_ble_eq_true a2) ts (Nat.le_of_ble_eq_true a3) (tri64_spec ts a4)
     have h1' : hget (H ++ gh []) g i = some (.cells 3 (triR ts)) := by rw [show H ++ gh [] = H from List.append_nil H]; exact h1
     refine CallOK.viewT (fun r hr c hc => ?_) hc (ToL.cons (To.sc _) (ToL.cons (wt2 h1' rfl a1 rfl) ToL.nil))
     obtain ⟨n, _, rfl⟩ := List.mem_map.1 hr
     exact ⟨_, List.mem_singleton.1 hc⟩
    ·cases h
   ·cases h
  ·cases h
 ·cases h
def sumC : Caller := fun f args H =>
 match Nat.beq f 65 with
 | true => sum65 args H
 | false => match Nat.beq f 74 with
  | true => sum74 args H
  | false => match Nat.beq f 80 with
   | true => sum80 args H
   | false => match Nat.beq f 14 with
    | true => sum14 args H
    | false => none
theorem sumC_ok : CallerOK Try.prog sumC := by
 intro f args H v H' h
 unfold sumC at h
 split at h
 ·rename_i e
  have := Nat.eq_of_beq_eq_true e
  subst this
  exact sum65_ok args H v H' h
 ·split at h
  ·rename_i e
   have := Nat.eq_of_beq_eq_true e
   subst this
   exact sum74_ok args H v H' h
  ·split at h
   ·rename_i e
    have := Nat.eq_of_beq_eq_true e
    subst this
    exact sum80_ok args H v H' h
   ·split at h
    ·rename_i e
     have := Nat.eq_of_beq_eq_true e
     subst this
     exact sum14_ok args H v H' h
    ·cases h
end Go.Proofs.Ytpkpfgpfkajkpaa
namespace Go.Proofs.Ytpkpfgpfkajkpaa
open Go.Av Go.Proofs
set_option maxRecDepth 1000000
set_option maxHeartbeats 0
def tabC : List (Nat × IFun) := [(13, F13), (16, F16), (17, F17), (19, F19), (20, F20), (22, F22), (24, F24), (27, F27), (28, F28), (31, F31), (33, F33), (35, F35), (37, F37), (41, F41), (48, F48), (58, F58), (59, F59), (61, F61), (63, F63), (64, F64), (66, F66), (67, F67), (68, F68), (69, F69), (70, F70), (71, F71), (72, F72), (73, F73), (75, F75), (76, F76), (77, F77), (78, F78), (79, F79), (81, F81), (82, F82), (86, F86), (87, F87), (89, F89), (104, F104), (105, F105), (106, F106), (108, F108), (116, F116), (117, F117)]
theorem tabC_ok : TabOK Try.prog tabC :=
 ⟨cF13, cF16, cF17, cF19, cF20, cF22, cF24, cF27, cF28, cF31, cF33, cF35, cF37, cF41, cF48, cF58, cF59, cF61, cF63, cF64, cF66, cF67, cF68, cF69, cF70, cF71, cF72, cF73, cF75, cF76, cF77, cF78, cF79, cF81, cF82, cF86, cF87, cF89, cF104, cF105, cF106, cF108, cF116, cF117, trivial⟩
theorem works_run : runL sumC (tabL tabC) 1000 20 13 [] [] = some (.sc (.bool true), []) := by kernel_rfl
theorem works_call : CallOK Try.prog 13 [] [] fun res _ => res = .sc (.bool true) :=
 (runL_sound mixed sumC_ok (tabL_ok tabC_ok) 20 13 [] [] _ _ works_run).mono fun _ _ h => h.1
theorem works_ok : PureRun Try.prog 13 [] (.sc (.bool true)) := PureRun.of (fun _ h => by cases h) (.sc _) works_call
end Go.Proofs.Ytpkpfgpfkajkpaa
namespace Go.Proofs.Ytpkpfgpfkajkpaa
open Go.Av Go.Proofs
set_option maxRecDepth 20000
def headE (f : Nat → Nat → Option (List Int)) (n d : Nat) : Option (List Int) :=
 if n % d = 0 then (match f (n / d) d with
  | some l => some ((d : Int) :: l)
  | none => none) else none
end Go.Proofs.Ytpkpfgpfkajkpaa
namespace Go.Proofs.Ytpkpfgpfkajkpaa
open Go.Av Go.Proofs
set_option maxRecDepth 20000
end Go.Proofs.Ytpkpfgpfkajkpaa
namespace Go.Proofs.Ytpkpfgpfkajkpaa
open Go.Av Go.Proofs
set_option maxRecDepth 20000
def checkE (l : List Int) : Int := if 64 < l.length then 9 else distE 64 [] l
set_option maxHeartbeats 4000000 in
theorem check_ok (l : List Int) (hl : l.length ≤ 1000000) : PureRun Try.prog 33 [.list 1 (intsR l)] (.sc (.int .i64 (checkE l))) := by
 refine PureRun.of (allPure_cons (.list _ _ (prs _)) allPure_nil) (.sc _) (CallOK.mono (R := fun res H' => res = .sc (.int .i64 (checkE l)) ∧ H' = []) ?_ fun _ _ h => h.1)
 refine CallOK.of cF33 ?_ (Nat.le_of_ble_eq_true rfl)
 have e0 := intsR_len l
 have hv := dist_ok l 64 (Nat.le_refl _) hl
 refine walkX ?_
 rw [e0]
 by_cases h : 64 < l.length
 ·have hr : AV.sc (Value.int .i64 9) = .sc (.int .i64 (checkE l)) := by unfold checkE; rw [if_pos h]
  rw [decide_eq_true h]
  refine walkX ?_
  exact endW [] (⟨hr, rfl⟩)
 ·have hr : AV.sc (Value.int .i64 (distE 64 [] l)) = .sc (.int .i64 (checkE l)) := by unfold checkE; rw [if_neg h]
  rw [decide_eq_false h]
  refine walkX ?_
  exact endW [] (⟨hr, rfl⟩)
end Go.Proofs.Ytpkpfgpfkajkpaa
namespace Go.Proofs.Ytpkpfgpfkajkpaa
open Go.Av Go.Proofs
set_option maxRecDepth 20000
theorem check0_rng {l : List Int} (h : checkE l = 0) : (∀ x ∈ l, 0 ≤ x ∧ x < 64) ∧ l.Nodup ∧ l.length ≤ 64 := by
 unfold checkE at h
 split at h
 ·cases h
 ·rename_i h1
  have key : ∀ (l s : List Int), distE 64 s l = 0 → (∀ x ∈ l, 0 ≤ x ∧ x < 64) ∧ (∀ x ∈ l, x ∉ s) ∧ l.Nodup := by
   intro l
   induction l with
   | nil => exact fun s _ => ⟨fun _ h => (by cases h), fun _ h => (by cases h), .nil⟩
   | cons y l ih =>
    intro s h
    unfold distE at h
    split at h
    ·cases h
    ·rename_i h1
     split at h
     ·cases h
     ·rename_i h2
      obtain ⟨a, b, c⟩ := ih _ h
      refine ⟨fun x hx => ?_, fun x hx => ?_, List.nodup_cons.2 ⟨fun hy => b y hy (by simp), c⟩⟩
      ·rcases List.mem_cons.1 hx with rfl | hx
       ·omega
       ·exact a x hx
      ·rcases List.mem_cons.1 hx with rfl | hx
       ·exact h2
       ·exact fun hs => b x hx (List.mem_append_left _ hs)
  obtain ⟨a, _, c⟩ := key l [] h
  exact ⟨a, c, by omega⟩
end Go.Proofs.Ytpkpfgpfkajkpaa
namespace Go.Proofs.Ytpkpfgpfkajkpaa
open Go.Av Go.Proofs
set_option maxRecDepth 20000
def ansS (p : Int × List Int) : AV → Heap → Prop := fun res H' => res = .tup [.hsl 0 0 0 p.2.length, .sc (.int .i64 p.1)] ∧ H' = [[.cells 1 (intsR p.2)]]
end Go.Proofs.Ytpkpfgpfkajkpaa
namespace Go.Proofs.Ytpkpfgpfkajkpaa
open Go.Av Go.Proofs
set_option maxRecDepth 20000
end Go.Proofs.Ytpkpfgpfkajkpaa
namespace Go.Proofs.Ytpkpfgpfkajkpaa
open Go.Av Go.Proofs
set_option maxRecDepth 20000
end Go.Proofs.Ytpkpfgpfkajkpaa
namespace Go.Proofs.Ytpkpfgpfkajkpaa
open Go.Av Go.Proofs
set_option maxRecDepth 20000
end Go.Proofs.Ytpkpfgpfkajkpaa
namespace Go.Proofs.Ytpkpfgpfkajkpaa
open Go.Av Go.Proofs
set_option maxRecDepth 20000
end Go.Proofs.Ytpkpfgpfkajkpaa
namespace Go.Proofs.Ytpkpfgpfkajkpaa
open Go.Av Go.Proofs
set_option maxRecDepth 20000
end Go.Proofs.Ytpkpfgpfkajkpaa
namespace Go.Proofs.Ytpkpfgpfkajkpaa
open Go.Av Go.Proofs
set_option maxRecDepth 20000
end Go.Proofs.Ytpkpfgpfkajkpaa
namespace Go.Proofs.Ytpkpfgpfkajkpaa
open Go.Av Go.Proofs
set_option maxRecDepth 20000
theorem dist0_rng {n : Int} : ∀ {l s : List Int}, distE n s l = 0 → (∀ x ∈ l, 0 ≤ x ∧ x < n) ∧ (∀ x ∈ l, x ∉ s) ∧ l.Nodup := by
 intro l
 induction l with
 | nil => exact fun _ => ⟨fun _ h => (by cases h), fun _ h => (by cases h), .nil⟩
 | cons y l ih =>
  intro s h
  unfold distE at h
  split at h
  ·cases h
  ·rename_i h1
   split at h
   ·cases h
   ·rename_i h2
    obtain ⟨a, b, c⟩ := ih h
    refine ⟨fun x hx => ?_, fun x hx => ?_, List.nodup_cons.2 ⟨fun hy => b y hy (by simp), c⟩⟩
    ·rcases List.mem_cons.1 hx with rfl | hx
     ·omega
     ·exact a x hx
    ·rcases List.mem_cons.1 hx with rfl | hx
     ·exact h2
     ·exact fun hs => b x hx (List.mem_append_left _ hs)
def rkE (g rs : List Int) : Int := if checkE g = 0 then distE g.length [] rs else checkE g
def selE (g rs : List Int) : List Int := rs.map fun r => g.getD r.toNat 0
def ansE (e : Int) (o : List Int) : Int × List Int := if e = 0 then (0, o) else (e, [])
theorem rk0 {g rs : List Int} (h : rkE g rs = 0) : checkE g = 0 ∧ distE g.length [] rs = 0 := by
 unfold rkE at h
 split at h
 ·rename_i h1
  exact ⟨h1, h⟩
 ·rename_i h1
  exact absurd h h1
set_option maxHeartbeats 4000000 in
theorem ranked_ok (g rs : List Int) (hg : g.length ≤ 1000000) (hr : rs.length ≤ 1000000) : PureRun Try.prog 89 [.list 1 (intsR g), .list 1 (intsR rs)] (.sc (.int .i64 (rkE g rs))) := by
 refine PureRun.of (allPure_cons (.list _ _ (prs _)) (allPure_cons (.list _ _ (prs _)) allPure_nil)) (.sc _) (CallOK.mono (R := fun res H' => res = .sc (.int .i64 (rkE g rs)) ∧ H' = []) ?_ fun _ _ h => h.1)
 refine CallOK.of cF89 ?_ (Nat.le_of_ble_eq_true rfl)
 have h1 := check_ok g hg
 have e0 := intsR_len g
 by_cases h : checkE g = 0
 ·have hle : g.length ≤ 64 := (check0_rng h).2.2
  have h2 := dist_ok rs g.length hle hr
  have hres : AV.sc (Value.int .i64 (distE g.length [] rs)) = .sc (.int .i64 (rkE g rs)) := by unfold rkE; rw [if_pos h]
  rw [h] at h1
  refine walkX ?_
  rw [e0]
  refine walkX ?_
  exact endW [] (⟨hres, rfl⟩)
 ·have hres : AV.sc (Value.int .i64 (checkE g)) = .sc (.int .i64 (rkE g rs)) := by unfold rkE; rw [if_neg h]
  refine walkX ?_
  rw [show (checkE g != 0) = true from by simpa using h]
  refine walkX ?_
  exact endW [] (⟨hres, rfl⟩)
theorem getD_at {g : List Int} {q : Nat} (h : q < g.length) : g.getD ((q : Int)).toNat 0 = g[q] := by
 simp [h]
set_option maxHeartbeats 4000000 in
theorem incl_ok (g rs : List Int) (hg : g.length ≤ 1000000) (hr : rs.length ≤ 1000000) : CallOK Try.prog 41 [.list 1 (intsR g), .list 1 (intsR rs)] [] (ansS (ansE (rkE g rs) (selE g rs))) := by
 refine CallOK.of cF41 ?_ (Nat.le_of_ble_eq_true rfl)
 have h1 := ranked_ok g rs hg hr
 have e0 := intsR_len rs
 unfold ansS
 by_cases h : rkE g rs = 0
 ·obtain ⟨c1, c2⟩ := rk0 h
  obtain ⟨d1, _, _⟩ := dist0_rng c2
  have e : ansE (rkE g rs) (selE g rs) = (0, selE g rs) := if_pos h
  rw [e]
  rw [h] at h1
  refine walkX ?_
  rw [e0]
  refine AWP.loop (fun k : Nat => [(0, .list 1 (intsR g)), (7, .hsl 0 0 0 (selE g (rs.take k)).length), (16, .list 1 (intsR rs)), (17, .sc (.int .i64 (rs.length : Int))), (18, .sc (.int .i64 (k : Int)))])
   (fun k => [[.cells 1 (intsR (selE g (rs.take k)))]]) (fun k => k ≤ rs.length) (fun k => rs.length - k) 0 (Nat.zero_le _) ?_ ?_
  ·(apply Sub.to [1] [[(0,0)]]; all_goals (repeat' (first | exact ToAll.nil | exact famsTo.nil | exact famTo.nil | exact ToL.nil | exact ToR.nil | refine ToAll.cons ?_ ?_ | refine famsTo.cons ?_ ?_ | refine wt10 ?_ ?_ | exact To.undef _ | exact To.sc _ | exact To.hslL rfl rfl | exact To.ptrO rfl rfl rfl | exact To.mrefO rfl | exact To.nil rfl rfl rfl | exact wt1 | exact To.nilL | refine To.int ?_ | refine To.bool ?_ | refine To.hslL rfl ?_ | refine wt2 rfl ?_ ?_ ?_ | refine To.tupL ?_ | refine To.aggL ?_ | refine To.cptrL ?_ | refine wt3 ?_ | refine wt4 ?_ | refine To.cloL ?_ ?_ | exact wt5 | refine wt6 ?_ | refine ToB.one ?_ | exact wt7 | ((with_reducible apply ToL.consE); case e9 => rfl) | refine wt8 ?_ | refine ToL.cons ?_ ?_ | exact wt11 | refine wt9 ?_ ?_ | refine wt12 ?_ | (with_reducible rfl) | assumption)); all_goals (first | rfl | assumption | (simp; done) | (simp; omega) | (rw [wrap_small (by omega) (by omega)]; done) | (rw [wrap_small (by omega) (by omega)]; omega) | (refine congrArg Nat.cast ?_; assumption) | skip))
  rintro k hk
  refine walkX ?_
  refine AWP.condD rfl (fun h => ?_) (fun h => ?_)
  ·have hx := d1 rs[k] (List.getElem_mem h)
   have hrr := intsR_ix rs k h
   have ht := List.take_succ_eq_append_getElem h
   have hle : (selE g (rs.take k)).length ≤ 1000000 := by unfold selE; rw [List.length_map, List.length_take]; omega
   generalize rs[k] = x at *
   obtain ⟨q, rfl⟩ : ∃ q : Nat, x = q := ⟨x.toNat, by omega⟩
   have hq : q < g.length := by omega
   have hgx := intsR_ix g q hq
   have e5 := @getD_at g q hq
   have e1 := intsR_len (selE g (rs.take k))
   have e2 : selE g (rs.take (k + 1)) = selE g (rs.take k) ++ [g[q]] := by rw [ht]; unfold selE; rw [List.map_append, List.map_cons, e5]; rfl
   generalize selE g (rs.take k) = o at *
   generalize g[q] = y at *
   have e3 : intsR (o ++ [y]) = intsR o ++ [[.sc (.int .i64 y)]] := by simp [intsR]
   have e4 : (o ++ [y]).length = o.length + 1 := by simp
   refine walkX ?_
   refine ⟨k + 1, by omega, by omega, ?_⟩
   rw [e2, e3, e4]
   (apply Sub.to [] [[(2,0)]]; all_goals (repeat' (first | exact ToAll.nil | exact famsTo.nil | exact famTo.nil | exact ToL.nil | exact ToR.nil | refine ToAll.cons ?_ ?_ | refine famsTo.cons ?_ ?_ | refine wt10 ?_ ?_ | exact To.undef _ | exact To.sc _ | exact To.hslL rfl rfl | exact To.ptrO rfl rfl rfl | exact To.mrefO rfl | exact To.nil rfl rfl rfl | exact wt1 | exact To.nilL | refine To.int ?_ | refine To.bool ?_ | refine To.hslL rfl ?_ | refine wt2 rfl ?_ ?_ ?_ | refine To.tupL ?_ | refine To.aggL ?_ | refine To.cptrL ?_ | refine wt3 ?_ | refine wt4 ?_ | refine To.cloL ?_ ?_ | exact wt5 | refine wt6 ?_ | refine ToB.one ?_ | exact wt7 | ((with_reducible apply ToL.consE); case e9 => rfl) | refine wt8 ?_ | refine ToL.cons ?_ ?_ | exact wt11 | refine wt9 ?_ ?_ | refine wt12 ?_ | (with_reducible rfl) | assumption)); all_goals (first | rfl | assumption | (simp; done) | (simp; omega) | (rw [wrap_small (by omega) (by omega)]; done) | (rw [wrap_small (by omega) (by omega)]; omega) | (refine congrArg Nat.cast ?_; assumption) | skip))
  have hk : k = rs.length := by omega
  subst hk
  rw [List.take_of_length_le (Nat.le_refl _)]
  refine walkX ?_
  exact endW [[(0,0)]] (⟨rfl, rfl⟩)
 ·have e : ansE (rkE g rs) (selE g rs) = (rkE g rs, []) := if_neg h
  rw [e]
  refine walkX ?_
  rw [show (rkE g rs != 0) = true from by simpa using h]
  refine walkX ?_
  (refine ⟨.inr rfl, _, .tup [.hsl 0 0 0 0, .sc (.int .i64 (rkE g rs))], [[.cells 1 []]], rfl, SubV.to [1] [[((0),0)]] ?_ ?_ rfl rfl rfl, rfl, rfl⟩; all_goals (all_goals (repeat' (first | exact ToAll.nil | exact famsTo.nil | exact famTo.nil | exact ToL.nil | exact ToR.nil | refine ToAll.cons ?_ ?_ | refine famsTo.cons ?_ ?_ | refine wt10 ?_ ?_ | exact To.undef _ | exact To.sc _ | exact To.hslL rfl rfl | exact To.ptrO rfl rfl rfl | exact To.mrefO rfl | exact To.nil rfl rfl rfl | exact wt1 | exact To.nilL | refine To.int ?_ | refine To.bool ?_ | refine To.hslL rfl ?_ | refine wt2 rfl ?_ ?_ ?_ | refine To.tupL ?_ | refine To.aggL ?_ | refine To.cptrL ?_ | refine wt3 ?_ | refine wt4 ?_ | refine To.cloL ?_ ?_ | exact wt5 | refine wt6 ?_ | refine ToB.one ?_ | exact wt7 | ((with_reducible apply ToL.consE); case e9 => rfl) | refine wt8 ?_ | refine ToL.cons ?_ ?_ | exact wt11 | refine wt9 ?_ ?_ | refine wt12 ?_ | (with_reducible rfl) | assumption)); all_goals (first | rfl | assumption | (simp; done) | (simp; omega) | (rw [wrap_small (by omega) (by omega)]; done) | (rw [wrap_small (by omega) (by omega)]; omega) | (refine congrArg Nat.cast ?_; assumption) | skip)))
end Go.Proofs.Ytpkpfgpfkajkpaa
namespace Go.Proofs.Ytpkpfgpfkajkpaa
open Go.Av Go.Proofs
set_option maxRecDepth 20000
end Go.Proofs.Ytpkpfgpfkajkpaa
namespace Go.Proofs.Ytpkpfgpfkajkpaa
open Go.Av Go.Proofs
set_option maxRecDepth 20000
set_option maxHeartbeats 4000000 in
theorem member_ok (l : List Int) (x : Int) (hl : l.length ≤ 1000000) : PureRun Try.prog 23 [.list 1 (intsR l), .sc (.int .i64 x)] (.sc (.bool (decide (x ∈ l)))) := by
 refine PureRun.of (allPure_cons (.list _ _ (prs _)) (allPure_cons (.sc _) allPure_nil)) (.sc _) (CallOK.mono (R := fun res H' => res = .sc (.bool (decide (x ∈ l))) ∧ H' = []) ?_ fun _ _ h => h.1)
 refine CallOK.of cF23 ?_ (Nat.le_of_ble_eq_true rfl)
 have e0 := intsR_len l
 refine walkX ?_
 rw [e0]
 refine AWP.loop (fun k : Nat => [(0, .list 1 (intsR l)), (1, .sc (.int .i64 x)), (7, .list 1 (intsR l)), (8, .sc (.int .i64 (l.length : Int))), (9, .sc (.int .i64 (k : Int)))])
  (fun k => []) (fun k => k ≤ l.length ∧ x ∉ l.take k) (fun k => l.length - k) 0 ⟨Nat.zero_le _, by simp⟩ ?_ ?_
 ·exact Sub.w [] []
 rintro k ⟨hk, hn⟩
 refine walkX ?_
 refine AWP.condD rfl (fun h => ?_) (fun h => ?_)
 ·have hr := intsR_ix l k h
  have ht := List.take_succ_eq_append_getElem h
  by_cases he : l[k] = x
  ·have hres : AV.sc (Value.bool true) = .sc (.bool (decide (x ∈ l))) := by rw [decide_eq_true (he ▸ List.getElem_mem h)]
   rw [he] at hr
   refine walkX ?_
   rw [beq_self]
   refine walkX ?_
   exact endW [] (⟨hres, rfl⟩)
  ·have hn2 : x ∉ l.take (k + 1) := by
    rw [ht]
    intro q
    rcases List.mem_append.1 q with q | q
    ·exact hn q
    ·exact he (List.mem_singleton.1 q).symm
   generalize l[k] = y at *
   refine walkX ?_
   rw [beq_false_of_ne (fun e => he e.symm)]
   refine walkX ?_
   refine ⟨k + 1, ⟨by omega, hn2⟩, by omega, ?_⟩
   exact Sub.w [] []
 have hk : k = l.length := by omega
 subst hk
 rw [List.take_of_length_le (Nat.le_refl _)] at hn
 have hres : AV.sc (Value.bool false) = .sc (.bool (decide (x ∈ l))) := by rw [decide_eq_false hn]
 refine walkX ?_
 exact endW [] (⟨hres, rfl⟩)
end Go.Proofs.Ytpkpfgpfkajkpaa
namespace Go.Proofs.Ytpkpfgpfkajkpaa
open Go.Av Go.Proofs
set_option maxRecDepth 20000
def boolsR (w : List Bool) : List (List AV) := w.map fun b => [.sc (.bool b)]
instance (w : List Bool) : PRs (boolsR w) := ⟨fun r hr => by
 obtain ⟨a, _, rfl⟩ := List.mem_map.1 hr
 exact allPure_cons (.sc _) allPure_nil⟩
def gridV (s : List Int) (w : List Bool) : AV := .agg [.list 1 (intsR s), .list 1 (boolsR w)]
theorem grid_pure (s : List Int) (w : List Bool) : Pure (gridV s w) := .agg _ (allPure_cons (.list _ _ (prs _)) (allPure_cons (.list _ _ (prs _)) allPure_nil))
instance (s : List Int) (w : List Bool) : PV (gridV s w) := ⟨grid_pure s w⟩
def cntG (n : Nat) : List Int → Nat
 | [] => n
 | x :: l => if x < 1 ∨ 64 < x ∨ 64 < (n : Int) * x then 0 else cntG (n * x.toNat) l
def cntE (s : List Int) (w : List Bool) : Nat := if s.length < 1 ∨ 4 < s.length ∨ w.length ≠ s.length then 0 else cntG 1 s
def natI (s : List Nat) : List Int := s.map fun n : Nat => (n : Int)
theorem natI_len (s : List Nat) : (natI s).length = s.length := by simp [natI]
end Go.Proofs.Ytpkpfgpfkajkpaa
namespace Go.Proofs.Ytpkpfgpfkajkpaa
open Go.Av Go.Proofs
set_option maxRecDepth 20000
end Go.Proofs.Ytpkpfgpfkajkpaa
namespace Go.Proofs.Ytpkpfgpfkajkpaa
open Go.Av Go.Proofs
set_option maxRecDepth 20000
def chkE (s : List Int) (w : List Bool) (r : Int) : Int := if cntE s w = 0 then 2 else if r < 0 ∨ (cntE s w : Int) ≤ r then 11 else 0
end Go.Proofs.Ytpkpfgpfkajkpaa
namespace Go.Proofs.Ytpkpfgpfkajkpaa
open Go.Av Go.Proofs
set_option maxRecDepth 20000
theorem prod_pos : ∀ {t : List Nat}, (∀ a ∈ t, 1 ≤ a) → 1 ≤ prodN t
 | [], _ => Nat.le_refl _
 | a :: t, h => Nat.mul_pos (h a (by simp)) (prod_pos fun b hb => h b (by simp [hb]))
theorem cnt_of : ∀ {t : List Nat} {n : Nat}, (∀ a ∈ t, 1 ≤ a) → n * prodN t ≤ 64 → 1 ≤ n → cntG n (natI t) = n * prodN t
 | [], n, _, _, _ => (Nat.mul_one n).symm
 | a :: t, n, h, hp, hn => by
  have ha := h a (by simp)
  have h0 := prod_pos fun c hc => h c (List.mem_cons_of_mem a hc)
  have e : n * prodN (a :: t) = n * a * prodN t := (Nat.mul_assoc n a (prodN t)).symm
  rw [e] at hp ⊢
  have hna : n * a ≤ 64 := Nat.le_trans (Nat.le_mul_of_pos_right _ h0) hp
  have ha2 : a ≤ 64 := Nat.le_trans (Nat.le_mul_of_pos_left _ hn) hna
  show cntG n ((a : Int) :: natI t) = _
  unfold cntG
  rw [if_neg, Int.toNat_natCast]
  ·exact cnt_of (fun c hc => h c (by simp [hc])) hp (Nat.mul_pos hn ha)
  ·rw [← Int.natCast_mul]
   omega
theorem cntE_of {t : List Nat} {w : List Bool} (h : ∀ a ∈ t, 1 ≤ a) (hp : prodN t ≤ 64) (hw : w.length = t.length) (h1 : 1 ≤ t.length) (h4 : t.length ≤ 4) : cntE (natI t) w = prodN t := by
 unfold cntE
 rw [natI_len, if_neg (by omega), cnt_of h (by omega) (Nat.le_refl _), Nat.one_mul]
end Go.Proofs.Ytpkpfgpfkajkpaa
namespace Go.Proofs.Ytpkpfgpfkajkpaa
open Go.Av Go.Proofs
set_option maxRecDepth 20000
end Go.Proofs.Ytpkpfgpfkajkpaa
namespace Go.Proofs.Ytpkpfgpfkajkpaa
open Go.Av Go.Proofs
set_option maxRecDepth 20000
structure GoodG (t : List Nat) (w : List Bool) : Prop where
 pos : ∀ a ∈ t, 1 ≤ a
 prod : prodN t ≤ 64
 len : w.length = t.length
 one : 1 ≤ t.length
 four : t.length ≤ 4
theorem GoodG.chk {t : List Nat} {w : List Bool} (g : GoodG t w) {r : Nat} (hr : r < prodN t) : chkE (natI t) w r = 0 := by
 unfold chkE
 rw [cntE_of g.pos g.prod g.len g.one g.four, if_neg (by omega), if_neg (by omega)]
end Go.Proofs.Ytpkpfgpfkajkpaa
