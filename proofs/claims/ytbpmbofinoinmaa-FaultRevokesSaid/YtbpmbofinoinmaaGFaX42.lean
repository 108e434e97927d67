import Derived.Test.YtbpmbofinoinmaaGAvU
import Derived.Test.YtbpmbofinoinmaaGFaC
import Derived.Test.YtbpmbofinoinmaaGAv23
import Derived.Test.YtbpmbofinoinmaaGAvK
import Derived.Test.YtbpmbofinoinmaaGAvN
import Derived.Test.YtbpmbofinoinmaaGFaLaw
import Derived.Test.YtbpmbofinoinmaaGAvR
namespace Go.Proofs.Ytbpmbofinoinmaa
open Go.Av Go.Proofs
theorem mixed : Try.prog.follows .mixedOrders = true := by kernel_rfl
def intsR (l : List Int) : List (List AV) := l.map fun n => [.sc (.int .i64 n)]
def intsV (l : List Int) : AV := .list 1 (intsR l)
theorem pure_ints (l : List Int) : Pure (intsV l) := .list _ _ (allPure_map (fun _ => allPure_cons (.sc _) allPure_nil) l)
structure C where
 rank : Int
 round : Int
 sent : Int
def crow (c : C) : List AV := [.sc (.int .i64 c.rank), .sc (.int .i64 c.round), .sc (.int .i64 c.sent)]
def crV (l : List C) : AV := .list 3 (l.map crow)
theorem pure_crow (c : C) : ∀ x ∈ crow c, Pure x := allPure_cons (.sc _) (allPure_cons (.sc _) (allPure_cons (.sc _) allPure_nil))
theorem pure_crs (l : List C) : ∀ r ∈ l.map crow, ∀ x ∈ r, Pure x := allPure_map pure_crow l
theorem pure_cr (l : List C) : Pure (crV l) := .list _ _ (pure_crs l)
theorem Le.bool {a b : Bool} (h : a = b) : Le (.sc (.bool a)) (.sc (.bool b)) := by subst h; exact .refl _
theorem Le.int {k : IntKind} {a b : Int} (h : a = b) : Le (.sc (.int k a)) (.sc (.int k b)) := by subst h; exact .refl _
def badTime (n : Int) (c : C) : Bool := decide (c.round < 0) || (decide (c.round > 100) || (decide (c.sent < 0) || decide (c.sent ≥ n)))
def badRank (n : Int) (c : C) : Bool := decide (c.rank < 0) || decide (c.rank ≥ n)
def checkGo (n : Int) (s : Nat → Bool) : List C → Int
 | [] => 0
 | c :: r => if badRank n c = true then 11 else if badTime n c = true then 3 else if s c.rank.toNat = true then 5 else checkGo n (fun i => if i = c.rank.toNat then true else s i) r
def checkS (n : Int) (l : List C) : Int := if (decide (n < 1) || decide (n > 64)) = true then 3 else checkGo n (fun _ => false) l
theorem check_big (n : Int) (l : List C) (hl : l.length ≤ 9223372036854775807) : CallOK Try.prog 12 [.sc (.int .i64 n), crV l] [] (fun res _ => res = .sc (.int .i64 (checkS n l))) := by
 refine CallOK.of cF12 ?_ (by simp [F12])
 refine walkO ?_
 refine Reg.join [(0, .sc (.int .i64 n)), (1, crV l), (13, .sc (.bool (decide (n < 1) || decide (n > 64))))] [] ?_ ?_
 ·repeat' (first | refine Reg.o rfl rfl ?_ | refine Reg.on rfl rfl ?_ | refine Reg.s rfl ?_ | refine Reg.sn rfl ?_ | refine Reg.nil ?_ | refine DK.o rfl rfl ?_ | refine DK.on rfl rfl ?_ | refine DK.s rfl ?_ | refine DK.sn rfl ?_ | refine AWP.seq ?_ | refine AWP.region ?_ | refine AWP.dk mixed ?_ | refine AWP.condT rfl ?_ | refine AWP.condF rfl ?_ | refine AWP.skip ?_ | refine AWP.ret ?_ | refine AWP.exit ?_ | refine AWP.block ?_ | refine Reg.gs rfl (fun _ => ?_) (fun _ => ?_) | refine AWP.cond rfl (fun _ => ?_) (fun _ => ?_))
  all_goals exact Sub.keep ⟨.refl _, .refl _, Le.bool (by (first | (simp_all; done) | (simp_all; omega) | (simp at *; omega) | (rw [Bool.eq_iff_iff]; simp at *; omega))), trivial⟩
 refine AWP.cond rfl (fun h => ?_) (fun h => ?_)
 ·refine walkO ?_
  exact fin_pure (.inr rfl) rfl (.sc _) (by simp only [checkS, h, if_true])
 have hb := h
 refine walkO ?_
 have hn : 1 ≤ n ∧ n ≤ 64 := by simp at h; omega
 refine AWP.loop (fun p : Nat × (Nat → Bool) => [(0, .sc (.int .i64 n)), (5, .ptr 0 0 0 0), (14, crV l), (15, .sc (.int .i64 l.length)), (16, .sc (.int .i64 p.1))]) (fun p => [[.cells 64 [bset 64 p.2]]])
  (fun p => p.1 ≤ l.length ∧ checkGo n (fun _ => false) l = checkGo n p.2 (l.drop p.1)) (fun p => l.length - p.1) (0, fun _ => false) ⟨Nat.zero_le _, by simp⟩
  (Sub.re [[(0, 0)]] rfl rfl rfl ⟨⟨⟨_, rfl, RenB.row rfl (pure_bset _ _)⟩, trivial⟩, trivial⟩ ⟨.int rfl, .ptr _ _ _ _ _ _ rfl, .pure (pure_cr l), .int (by simp), .int rfl, trivial⟩) ?_
 rintro ⟨k, s⟩ ⟨hk, hck⟩
 simp only at hk hck
 refine walkO ?_
 refine AWP.cond rfl (fun h => ?_) (fun h => ?_)
 ·have hlt : k < l.length := by simpa using h
  generalize hc : l[k] = c
  have hdrop : l.drop k = c :: l.drop (k + 1) := by rw [List.drop_eq_getElem_cons hlt, hc]
  refine walkO ?_
  refine Reg.o rfl (dstep_idxSl rfl rfl ((rowIx_map crow l k hlt).trans (by rw [hc]))) ?_
  refine walkO ?_
  refine Reg.join [(0, .sc (.int .i64 n)), (5, .ptr 0 0 0 0), (7, .ptr 1 0 0 0), (14, crV l), (15, .sc (.int .i64 l.length)), (16, .sc (.int .i64 k)), (20, .sc (.bool (badRank n c)))] [[.cells 64 [bset 64 s]], [.cells 3 [crow c]]] ?_ ?_
  ·repeat' (first | refine Reg.o rfl rfl ?_ | refine Reg.on rfl rfl ?_ | refine Reg.s rfl ?_ | refine Reg.sn rfl ?_ | refine Reg.nil ?_ | refine DK.o rfl rfl ?_ | refine DK.on rfl rfl ?_ | refine DK.s rfl ?_ | refine DK.sn rfl ?_ | refine AWP.seq ?_ | refine AWP.region ?_ | refine AWP.dk mixed ?_ | refine AWP.condT rfl ?_ | refine AWP.condF rfl ?_ | refine AWP.skip ?_ | refine AWP.ret ?_ | refine AWP.exit ?_ | refine AWP.block ?_ | refine Reg.gs rfl (fun _ => ?_) (fun _ => ?_) | refine AWP.cond rfl (fun _ => ?_) (fun _ => ?_))
   all_goals exact Sub.re [[(0, 0)], [(1, 0)]] rfl rfl rfl ⟨⟨⟨_, rfl, RenB.row rfl (pure_bset _ _)⟩, trivial⟩, ⟨⟨_, rfl, RenB.row rfl (pure_crow c)⟩, trivial⟩, trivial⟩ ⟨.int rfl, .ptr _ _ _ _ _ _ rfl, .ptr _ _ _ _ _ _ rfl, .pure (pure_cr l), .int rfl, .int rfl, .bool (by unfold badRank; (first | (simp_all; done) | (simp_all; omega) | (simp at *; omega) | (rw [Bool.eq_iff_iff]; simp at *; omega))), trivial⟩
  refine AWP.cond rfl (fun h => ?_) (fun h => ?_)
  ·refine walkO ?_
   refine fin_pure (.inr rfl) rfl (.sc _) ?_
   have : checkS n l = 11 := by rw [checkS, if_neg (by rw [hb]; decide), hck, hdrop, checkGo, if_pos h]
   rw [this]
  have h1 := h
  refine walkO ?_
  refine Reg.join [(0, .sc (.int .i64 n)), (5, .ptr 0 0 0 0), (7, .ptr 1 0 0 0), (14, crV l), (15, .sc (.int .i64 l.length)), (16, .sc (.int .i64 k)), (30, .sc (.bool (badTime n c)))] [[.cells 64 [bset 64 s]], [.cells 3 [crow c]]] ?_ ?_
  ·repeat' (first | refine Reg.o rfl rfl ?_ | refine Reg.on rfl rfl ?_ | refine Reg.s rfl ?_ | refine Reg.sn rfl ?_ | refine Reg.nil ?_ | refine DK.o rfl rfl ?_ | refine DK.on rfl rfl ?_ | refine DK.s rfl ?_ | refine DK.sn rfl ?_ | refine AWP.seq ?_ | refine AWP.region ?_ | refine AWP.dk mixed ?_ | refine AWP.condT rfl ?_ | refine AWP.condF rfl ?_ | refine AWP.skip ?_ | refine AWP.ret ?_ | refine AWP.exit ?_ | refine AWP.block ?_ | refine Reg.gs rfl (fun _ => ?_) (fun _ => ?_) | refine AWP.cond rfl (fun _ => ?_) (fun _ => ?_))
   all_goals exact Sub.re [[(0, 0)], [(1, 0)]] rfl rfl rfl ⟨⟨⟨_, rfl, RenB.row rfl (pure_bset _ _)⟩, trivial⟩, ⟨⟨_, rfl, RenB.row rfl (pure_crow c)⟩, trivial⟩, trivial⟩ ⟨.int rfl, .ptr _ _ _ _ _ _ rfl, .ptr _ _ _ _ _ _ rfl, .pure (pure_cr l), .int rfl, .int rfl, .bool (by unfold badTime; (first | (simp_all; done) | (simp_all; omega) | (simp at *; omega) | (rw [Bool.eq_iff_iff]; simp at *; omega))), trivial⟩
  refine AWP.cond rfl (fun h => ?_) (fun h => ?_)
  ·refine walkO ?_
   refine fin_pure (.inr rfl) rfl (.sc _) ?_
   have : checkS n l = 3 := by rw [checkS, if_neg (by rw [hb]; decide), hck, hdrop, checkGo, if_neg (by rw [h1]; decide), if_pos h]
   rw [this]
  have h2 := h
  have hr : 0 ≤ c.rank ∧ c.rank < n := by simp [badRank] at h1; omega
  have hq : c.rank = (c.rank.toNat : Int) := by omega
  have hq64 : c.rank.toNat < 64 := by omega
  refine walkO ?_
  refine Reg.o rfl (dstep_idxArr rfl rfl hq hq64) ?_
  refine Reg.o rfl (dstep_ld1 rfl rfl rfl (c := .sc (.bool (s c.rank.toNat))) (by rw [Nat.mul_one, Nat.zero_add]; exact bset_get hq64)) ?_
  refine walkO ?_
  refine AWP.cond rfl (fun h => ?_) (fun h => ?_)
  ·refine walkO ?_
   refine fin_pure (.inr rfl) rfl (.sc _) ?_
   have : checkS n l = 5 := by rw [checkS, if_neg (by rw [hb]; decide), hck, hdrop, checkGo, if_neg (by rw [h1]; decide), if_neg (by rw [h2]; decide), if_pos h]
   rw [this]
  refine walkO ?_
  refine Reg.o rfl (dstep_idxArr rfl rfl hq hq64) ?_
  refine Reg.on rfl (dstep_stN rfl rfl rfl rfl rfl (by rw [bset_len]; omega) rfl) ?_
  refine walkO ?_
  refine ⟨(k + 1, fun i => if i = c.rank.toNat then true else s i), ⟨by simp only; omega, ?_⟩, by simp only; omega, ?_⟩
  ·rw [hck, hdrop, checkGo, if_neg (by rw [h1]; decide), if_neg (by rw [h2]; decide), if_neg (by rw [h]; decide)]
  ·refine Sub.re [[(0, 0)]] rfl rfl rfl ⟨⟨⟨_, rfl, RenB.row ?_ (pure_bset _ _)⟩, trivial⟩, trivial⟩ ⟨.int rfl, .ptr _ _ _ _ _ _ rfl, .pure (pure_cr l), .int rfl, .int ?_, trivial⟩
   ·show lsplice (bset 64 s) _ _ = _
    rw [Nat.mul_one, Nat.zero_add]
    exact bset_splice 64 s _ true
   ·show IntKind.i64.wrap ((k : Int) + 1) = ((k + 1 : Nat) : Int)
    rw [wrap_small (by omega) (by omega)]; omega
 ·have hkl : k = l.length := by
   have : ¬ k < l.length := by simpa using h
   omega
  refine walkO ?_
  refine fin_pure (.inr rfl) rfl (.sc _) ?_
  have : checkS n l = 0 := by rw [checkS, if_neg (by rw [hb]; decide), hck, hkl, List.drop_length, checkGo]
  rw [this]
theorem check_ok (n : Int) (l : List C) (hl : l.length ≤ 4000000) : CallOK Try.prog 12 [.sc (.int .i64 n), crV l] [] (fun res _ => res = .sc (.int .i64 (checkS n l))) := check_big n l (by omega)
def seen (l : List C) (k : Nat) (q : Nat) : Bool := (l.take k).any fun c => decide (c.rank = (q : Int))
theorem dstep_look {g i : Nat} {fr : Fr} {H : Heap} {z : AV} {k : IntKind} {x ix : Operand} {n : Int} {es : List (Value × AV)} {r : Option AV} (hx : ev fr x = .tmap es) (hi : ev fr ix = .sc (.int k n)) (hm : mfind k n es = some r) :
  dstep g i (.lookup z k x ix true) fr H = some (.tup [r.getD z, .sc (.bool r.isSome)], H) := by
 simp only [dstep, hx, hi, mlook, hm]
 cases r <;> rfl
def esOf (l : List C) : List (Value × AV) := l.map fun c => (.int .i64 c.rank, .agg (crow c))
def findC (l : List C) (i : Int) : Option C := l.find? fun c => decide (i = c.rank)
theorem mfind_es (l : List C) (i : Int) : mfind .i64 i (esOf l) = some ((findC l i).map fun c => .agg (crow c)) := by
 induction l with
 | nil => rfl
 | cons c l ih =>
  show (match decide (IntKind.i64 = IntKind.i64) with
   | true => match decide (i = c.rank) with
    | true => some (some (AV.agg (crow c)))
    | false => mfind .i64 i (esOf l)
   | false => mfind .i64 i (esOf l)) = _
  have h1 : decide (IntKind.i64 = IntKind.i64) = true := rfl
  rw [h1]
  simp only [findC, List.find?_cons]
  cases decide (i = c.rank) with
  | true => rfl
  | false => exact ih
theorem pure_es (l : List C) : Pure (.tmap (esOf l)) := .tmap _ fun x hx => by
 obtain ⟨c, _, rfl⟩ := List.mem_map.1 hx
 exact .agg _ (pure_crow c)
def schV (n : Int) (l : List C) : AV := .agg [.sc (.int .i64 n), .tmap (esOf l)]
theorem pure_sch (n : Int) (l : List C) : Pure (schV n l) := .agg _ (allPure_cons (.sc _) (allPure_cons (pure_es l) allPure_nil))
def livesS (l : List C) (i r : Int) : Bool := match findC l i with
 | none => true
 | some c => decide (c.round > r)
def reachS (n : Int) (l : List C) (i r : Int) : Int := match findC l i with
 | none => n - 1
 | some c => if c.round > r then n - 1 else if c.round = r then c.sent else 0
theorem lives_ok (n : Int) (l : List C) (i r : Int) : CallOK Try.prog 41 [schV n l, .sc (.int .i64 i), .sc (.int .i64 r)] [] (fun res _ => res = .sc (.bool (livesS l i r))) := by
 refine CallOK.of cF41 ?_ (by simp [F41])
 refine walkO ?_
 refine Reg.o rfl (dstep_look rfl rfl (mfind_es l i)) ?_
 cases hf : findC l i with
 | none =>
  repeat' (first | refine Reg.o rfl rfl ?_ | refine Reg.on rfl rfl ?_ | refine Reg.s rfl ?_ | refine Reg.sn rfl ?_ | refine Reg.nil ?_ | refine DK.o rfl rfl ?_ | refine DK.on rfl rfl ?_ | refine DK.s rfl ?_ | refine DK.sn rfl ?_ | refine AWP.seq ?_ | refine AWP.region ?_ | refine AWP.dk mixed ?_ | refine AWP.condT rfl ?_ | refine AWP.condF rfl ?_ | refine AWP.skip ?_ | refine AWP.ret ?_ | refine AWP.exit ?_ | refine AWP.block ?_ | refine Reg.gs rfl (fun _ => ?_) (fun _ => ?_) | refine AWP.cond rfl (fun _ => ?_) (fun _ => ?_))
  all_goals exact fin_pure (.inr rfl) rfl (.sc _) (by simp [livesS, hf])
 | some c =>
  repeat' (first | refine Reg.o rfl rfl ?_ | refine Reg.on rfl rfl ?_ | refine Reg.s rfl ?_ | refine Reg.sn rfl ?_ | refine Reg.nil ?_ | refine DK.o rfl rfl ?_ | refine DK.on rfl rfl ?_ | refine DK.s rfl ?_ | refine DK.sn rfl ?_ | refine AWP.seq ?_ | refine AWP.region ?_ | refine AWP.dk mixed ?_ | refine AWP.condT rfl ?_ | refine AWP.condF rfl ?_ | refine AWP.skip ?_ | refine AWP.ret ?_ | refine AWP.exit ?_ | refine AWP.block ?_ | refine Reg.gs rfl (fun _ => ?_) (fun _ => ?_) | refine AWP.cond rfl (fun _ => ?_) (fun _ => ?_))
  all_goals exact fin_pure (.inr rfl) rfl (.sc _) (by simp [livesS, hf])
theorem reaches_ok (n : Int) (l : List C) (i r : Int) (hn : 1 ≤ n ∧ n ≤ 1000) : CallOK Try.prog 69 [schV n l, .sc (.int .i64 i), .sc (.int .i64 r)] [] (fun res _ => res = .sc (.int .i64 (reachS n l i r))) := by
 have hw : IntKind.i64.wrap (n - 1) = n - 1 := wrap_small (by omega) (by omega)
 refine CallOK.of cF69 ?_ (by simp [F69])
 refine walkO ?_
 refine Reg.o rfl (dstep_look rfl rfl (mfind_es l i)) ?_
 cases hf : findC l i with
 | none =>
  repeat' (first | refine Reg.o rfl rfl ?_ | refine Reg.on rfl rfl ?_ | refine Reg.s rfl ?_ | refine Reg.sn rfl ?_ | refine Reg.nil ?_ | refine DK.o rfl rfl ?_ | refine DK.on rfl rfl ?_ | refine DK.s rfl ?_ | refine DK.sn rfl ?_ | refine AWP.seq ?_ | refine AWP.region ?_ | refine AWP.dk mixed ?_ | refine AWP.condT rfl ?_ | refine AWP.condF rfl ?_ | refine AWP.skip ?_ | refine AWP.ret ?_ | refine AWP.exit ?_ | refine AWP.block ?_ | refine Reg.gs rfl (fun _ => ?_) (fun _ => ?_) | refine AWP.cond rfl (fun _ => ?_) (fun _ => ?_))
  all_goals exact fin_pure (.inr rfl) rfl (.sc _) (by simp [reachS, hf, hw])
 | some c =>
  repeat' (first | refine Reg.o rfl rfl ?_ | refine Reg.on rfl rfl ?_ | refine Reg.s rfl ?_ | refine Reg.sn rfl ?_ | refine Reg.nil ?_ | refine DK.o rfl rfl ?_ | refine DK.on rfl rfl ?_ | refine DK.s rfl ?_ | refine DK.sn rfl ?_ | refine AWP.seq ?_ | refine AWP.region ?_ | refine AWP.dk mixed ?_ | refine AWP.condT rfl ?_ | refine AWP.condF rfl ?_ | refine AWP.skip ?_ | refine AWP.ret ?_ | refine AWP.exit ?_ | refine AWP.block ?_ | refine Reg.gs rfl (fun _ => ?_) (fun _ => ?_) | refine AWP.cond rfl (fun _ => ?_) (fun _ => ?_))
  all_goals exact fin_pure (.inr rfl) rfl (.sc _) (by first | (simp_all [reachS]; done) | (simp_all [reachS]; omega))
theorem dstep_box {g i : Nat} {fr : Fr} {H : Heap} {x : Operand} {cs : List AV} {n : Nat} (hx : (ev fr x).cs = some cs) (h1 : cs.all AV.cell1 = true) (hn : cs.length = n) : dstep g i (.box x) fr H = some (.ptr g i 0 0, hset H g i (.cells n [cs])) := by
 subst hn
 simp only [dstep, hx, h1]
theorem first_ok (n : Nat) (hn : n ≤ 64) : CallOK Try.prog 39 [.sc (.int .i64 n)] [] (fun res _ => res = .agg (bset 64 fun i => decide (i < n))) := by
 refine CallOK.of cF39 ?_ (by simp [F39])
 refine walkO ?_
 refine AWP.loop (fun k : Nat => [(2, .ptr 0 0 0 0), (4, .sc (.int .i64 n)), (5, .sc (.int .i64 k))]) (fun k => [[.cells 64 [bset 64 fun i => decide (i < k)]]]) (fun k => k ≤ n) (fun k => n - k) 0 (Nat.zero_le _)
  (Sub.re [[(0, 0)]] rfl rfl rfl ⟨⟨⟨_, rfl, RenB.row rfl (pure_bset _ _)⟩, trivial⟩, trivial⟩ ⟨.ptr _ _ _ _ _ _ rfl, .int rfl, .int rfl, trivial⟩) ?_
 intro k hk
 refine walkO ?_
 refine AWP.cond rfl (fun h => ?_) (fun h => ?_)
 ·have hlt : k < n := by simpa using h
  refine walkO ?_
  refine Reg.o rfl (dstep_idxArr (q := k) rfl rfl rfl (by omega)) ?_
  refine Reg.on rfl (dstep_stN rfl rfl rfl rfl rfl (by rw [bset_len]; omega) rfl) ?_
  refine walkO ?_
  refine ⟨k + 1, by omega, by omega, ?_⟩
  refine Sub.re [[(0, 0)]] rfl rfl rfl ⟨⟨⟨_, rfl, RenB.row ?_ (pure_bset _ _)⟩, trivial⟩, trivial⟩ ⟨.ptr _ _ _ _ _ _ rfl, .int rfl, .int ?_, trivial⟩
  ·show lsplice (bset 64 _) _ _ = _
   rw [Nat.mul_one, Nat.zero_add]
   refine (bset_splice 64 _ k true).trans (bset_congr fun i hi => ?_)
   by_cases e : i = k
   ·simp [e]
   ·rw [if_neg e]; simp; omega
  ·rw [wrap_small (by omega) (by omega)]; omega
 ·have hkn : k = n := by
   have : ¬ k < n := by simpa using h
   omega
  subst hkn
  refine walkO ?_
  have e1 := take_drop0 (bset_len 64 fun i => decide (i < k))
  refine fin_pure (.inr rfl) (res := .agg (bset 64 fun i => decide (i < k))) ?_ (.agg _ (pure_bset _ _)) rfl
  show some (AV.agg (List.take 64 (List.drop 0 (lsplice (bset 64 fun i => decide (i < k)) 0 (List.take 64 (List.drop 0 (bset 64 fun i => decide (i < k)))))))) = _
  rw [e1, lsplice_all _ _ rfl, e1]
def elems (n : Nat) (s : Nat → Bool) : List Int := ((List.range n).filter s).map fun i : Nat => (i : Int)
theorem elems_succ (k : Nat) (s : Nat → Bool) : elems (k + 1) s = elems k s ++ if s k = true then [(k : Int)] else [] := by
 unfold elems
 rw [List.range_succ, List.filter_append, List.map_append]
 cases h : s k <;> simp [h]
theorem elems_len (n : Nat) (s : Nat → Bool) : (elems n s).length ≤ n := by
 unfold elems
 rw [List.length_map]
 exact Nat.le_trans (List.length_filter_le _ _) (by simp)
theorem pure_intsR (l : List Int) : ∀ r ∈ intsR l, ∀ c ∈ r, Pure c := allPure_map (fun _ => allPure_cons (.sc _) allPure_nil) l
theorem list_ok (s : Nat → Bool) : CallOK Try.prog 55 [.agg (bset 64 s)] [] (fun res _ => res = intsV (elems 64 s)) := by
 refine CallOK.of cF55 ?_ (by simp [F55])
 refine walkO ?_
 refine AWP.loop (fun k : Nat => [(3, .hsl 0 0 0 (elems k s).length), (6, .agg (bset 64 s)), (7, .sc (.int .i64 k))]) (fun k => [[.cells 1 (intsR (elems k s))]]) (fun k => k ≤ 64) (fun k => 64 - k) 0 (Nat.zero_le _)
  (Sub.trans (Sub.nilBlk (fr' := [(3, .hsl 1 0 0 0), (6, .agg (bset 64 s)), (7, .sc (.int .i64 (0 : Nat)))]) 1 ⟨.base (GhT.push _ 1), .refl _, .refl _, trivial⟩)
   (Sub.re [[(1, 0)]] rfl rfl rfl ⟨⟨⟨_, rfl, RenB.pure 1 [] (fun r h => by cases h)⟩, trivial⟩, trivial⟩ ⟨.hsl _ _ _ _ _ _ rfl, .pure (.agg _ (pure_bset _ _)), .int rfl, trivial⟩)) ?_
 intro k hk
 refine walkO ?_
 refine AWP.cond rfl (fun h => ?_) (fun h => ?_)
 ·have hlt : k < 64 := by
   have : (k : Int) < 64 := by simpa using h
   omega
  have hlen := elems_len k s
  refine walkO ?_
  refine Reg.o rfl (dstep_idxVal (q := k) rfl rfl rfl hlt (bset_get hlt)) ?_
  refine walkO ?_
  refine AWP.cond rfl (fun hs => ?_) (fun hs => ?_)
  ·refine walkO ?_
   refine Reg.o rfl (dstep_app rfl rfl rfl (by simp [intsR]) (by simp; omega) rfl) ?_
   refine walkO ?_
   have e : elems (k + 1) s = elems k s ++ [(k : Int)] := by rw [elems_succ, if_pos hs]
   refine ⟨k + 1, by omega, by omega, Sub.re [[(2, 0)]] rfl rfl rfl ⟨⟨⟨_, rfl, ?_⟩, trivial⟩, trivial⟩ ⟨?_, .pure (.agg _ (pure_bset _ _)), .int ?_, trivial⟩⟩
   ·refine RenB.rows ?_ (pure_intsR _)
    rw [e]
    simp [intsR]
   ·rw [e, List.length_append]
    exact .hsl _ _ _ _ _ _ rfl
   ·rw [wrap_small (by omega) (by omega)]; omega
  ·refine walkO ?_
   have e : elems (k + 1) s = elems k s := by rw [elems_succ, if_neg (by rw [hs]; decide), List.append_nil]
   refine ⟨k + 1, by omega, by omega, Sub.re [[(0, 0)]] rfl rfl rfl ⟨⟨⟨_, rfl, ?_⟩, trivial⟩, trivial⟩ ⟨?_, .pure (.agg _ (pure_bset _ _)), .int ?_, trivial⟩⟩
   ·exact RenB.rows (by rw [e]) (pure_intsR _)
   ·rw [e]
    exact .hsl _ _ _ _ _ _ rfl
   ·rw [wrap_small (by omega) (by omega)]; omega
 ·have hk64 : k = 64 := by
   have : (64 : Int) ≤ k := by simpa using h
   omega
  subst hk64
  refine walkO ?_
  exact fin_frz (.inr rfl) rfl (FzA.all rfl (by simp [intsR])) (pure_ints _) rfl
def orS (s t : Nat → Bool) (i : Nat) : Bool := s i || t i
theorem join_ok (s t : Nat → Bool) : CallOK Try.prog 70 [.ptr 0 0 0 0, .agg (bset 64 t)] [[.cells 64 [bset 64 s]]] (fun res H' => res = .tup [] ∧ H' = [[.cells 64 [bset 64 (orS s t)]]]) := by
 refine CallOK.of cF70 ?_ (by simp [F70])
 refine walkO ?_
 refine AWP.loop (fun k : Nat => [(0, .ptr 0 0 0 0), (6, .agg (bset 64 t)), (7, .sc (.int .i64 k))]) (fun k => [[.cells 64 [bset 64 fun i => if i < k then orS s t i else s i]]]) (fun k => k ≤ 64) (fun k => 64 - k) 0 (Nat.zero_le _)
  (Sub.re [[(0, 0)]] rfl rfl rfl ⟨⟨⟨_, rfl, RenB.row (bset_congr fun i _ => by simp) (pure_bset _ _)⟩, trivial⟩, trivial⟩ ⟨.ptr _ _ _ _ _ _ rfl, .of_eq (congrArg AV.agg (take_drop0 (bset_len 64 t))) (.agg _ (pure_bset _ _)), .int rfl, trivial⟩) ?_
 intro k hk
 refine walkO ?_
 refine AWP.cond rfl (fun h => ?_) (fun h => ?_)
 ·have hlt : k < 64 := by
   have : (k : Int) < 64 := by simpa using h
   omega
  refine walkO ?_
  refine Reg.o rfl (dstep_idxVal (q := k) rfl rfl rfl hlt (bset_get hlt)) ?_
  refine walkO ?_
  rcases Bool.eq_false_or_eq_true (s k) with hsk | hsk
  all_goals
   refine DK.o rfl (dstep_idxArr (q := k) rfl rfl rfl hlt) ?_
   refine DK.o rfl (dstep_ld1 rfl rfl rfl (c := .sc (.bool _)) (by rw [Nat.mul_one, Nat.zero_add]; exact (bset_get hlt).trans (by rw [if_neg (Nat.lt_irrefl k), hsk]))) ?_
   refine walkO ?_
   refine DK.o rfl (dstep_idxArr (q := k) rfl rfl rfl hlt) ?_
   refine DK.on rfl (dstep_stN rfl rfl rfl rfl rfl (by rw [bset_len]; omega) rfl) ?_
   refine DK.nil ⟨by kernel_rfl, ?_⟩
   refine walkO ?_
   refine ⟨k + 1, by omega, by omega, Sub.re [[(0, 0)]] rfl rfl rfl ⟨⟨⟨_, rfl, RenB.row ?_ (pure_bset _ _)⟩, trivial⟩, trivial⟩ ⟨.ptr _ _ _ _ _ _ rfl, .pure (.agg _ (pure_bset _ _)), .int ?_, trivial⟩⟩
   ·show lsplice (bset 64 _) _ _ = _
    rw [Nat.mul_one, Nat.zero_add]
    refine (bset_splice 64 _ k _).trans (bset_congr fun i hi => ?_)
    by_cases e : i = k
    ·subst e
     simp [orS, hsk]
    ·rw [if_neg e]
     by_cases h2 : i < k
     ·rw [if_pos h2, if_pos (by omega)]
     ·rw [if_neg h2, if_neg (by omega)]
   ·rw [wrap_small (by omega) (by omega)]; omega
 ·have hk64 : k = 64 := by
   have : (64 : Int) ≤ k := by simpa using h
   omega
  subst hk64
  refine walkO ?_
  refine ⟨.inl rfl, _, .tup [], [[.cells 64 [bset 64 (orS s t)]]], rfl, SubV.ren (rho [[(0, 0)]]) (Numb.list rfl rfl rfl ⟨⟨⟨_, rfl, RenB.row (bset_congr fun i hi => if_pos hi) (pure_bset _ _)⟩, trivial⟩, trivial⟩) (.pure (.tup _ allPure_nil)), rfl, rfl⟩
theorem join_at {H : Heap} {g i : Nat} {s t : Nat → Bool} (hx : hget H g i = some (.cells 64 [bset 64 s])) : CallOK Try.prog 70 [.ptr g i 0 0, .agg (bset 64 t)] H (fun res H' => res = .tup [] ∧ H' = hset H g i (.cells 64 [bset 64 (orS s t)])) := by
 have hp : PureB (.cells 64 [bset 64 s]) := fun r hr => by
  rw [List.mem_singleton.1 hr]; exact pure_bset _ _
 refine (CallOK.via1 (args := [.ptr g i 0 0, .agg (bset 64 t)]) (R := fun res y => res = .tup [] ∧ y = .cells 64 [bset 64 (orS s t)]) g i ((join_ok s t).mono ?_) hx hp ⟨.ptr _ _ _ _ _ _ rfl, .pure (.agg _ (pure_bset _ _)), trivial⟩).mono ?_
 ·rintro res H' ⟨rfl, rfl⟩
  refine ⟨_, rfl, .tup _ allPure_nil, fun r hr => ?_, rfl, rfl⟩
  rw [List.mem_singleton.1 hr]; exact pure_bset _ _
 ·rintro res H' ⟨y, rfl, rfl, rfl⟩
  exact ⟨rfl, rfl⟩
def consB (a : AV) : Option (List Bool) → Option (List Bool)
 | some q => match a with
  | .sc (.bool b) => match b with
   | true => some (true :: q)
   | false => some (false :: q)
  | _ => none
 | none => none
noncomputable def boolsK (cs : List AV) : Option (List Bool) := List.rec (motive := fun _ => Option (List Bool)) (some []) (fun a _ ih => consB a ih) cs
theorem boolsK_eq : ∀ (cs : List AV) (bs : List Bool), boolsK cs = some bs → cs = bs.map fun b => .sc (.bool b) := by
 intro cs
 induction cs with
 | nil => intro bs h; injection h with h; subst h; rfl
 | cons a cs ih =>
  intro bs h
  replace h : consB a (boolsK cs) = some bs := h
  unfold consB at h
  split at h
  ·rename_i q e
   split at h
   ·split at h
    ·injection h with h; subst h; rw [ih q e]; rfl
    ·injection h with h; subst h; rw [ih q e]; rfl
   ·cases h
  ·cases h
def sOf (bs : List Bool) (i : Nat) : Bool := (bs[i]?).getD false
theorem bset_of {bs : List Bool} {n : Nat} (h : bs.length = n) : (bs.map fun b => AV.sc (.bool b)) = bset n (sOf bs) := by
 apply List.ext_getElem?
 intro j
 rw [List.getElem?_map]
 by_cases hj : j < n
 ·rw [bset_get hj, List.getElem?_eq_getElem (by omega)]
  simp [sOf, List.getElem?_eq_getElem (show j < bs.length by omega)]
 ·rw [List.getElem?_eq_none (by omega), List.getElem?_eq_none (by rw [bset_len]; omega)]
  rfl
noncomputable def firstK (n : Nat) (fuel : Nat) : Nat → List AV := Nat.rec (motive := fun _ => Nat → List AV) (fun _ => []) (fun _ ih i => .sc (.bool (Nat.blt i n)) :: ih (Nat.succ i)) fuel
theorem firstK_get (n : Nat) : ∀ (fuel i j : Nat), (firstK n fuel i)[j]? = if j < fuel then some (.sc (.bool (Nat.blt (i + j) n))) else none := by
 intro fuel
 induction fuel with
 | zero => intro i j; rfl
 | succ fuel ih =>
  intro i j
  show (AV.sc (.bool (Nat.blt i n)) :: firstK n fuel (Nat.succ i))[j]? = _
  cases j with
  | zero => simp
  | succ j =>
   rw [List.getElem?_cons_succ, ih]
   by_cases h : j < fuel
   ·rw [if_pos h, if_pos (by omega), show Nat.succ i + j = i + (j + 1) by omega]
   ·rw [if_neg h, if_neg (by omega)]
theorem firstK_eq (n : Nat) : firstK n 64 0 = bset 64 fun i => decide (i < n) := by
 apply List.ext_getElem?
 intro j
 rw [firstK_get]
 by_cases h : j < 64
 ·rw [if_pos h, bset_get h, Nat.zero_add]
  congr 3
  rw [Bool.eq_iff_iff]
  simp [Nat.blt_eq]
 ·rw [if_neg h, List.getElem?_eq_none (by rw [bset_len]; omega)]
noncomputable def elemsK (bs : List Bool) : Nat → List (List AV) := List.rec (motive := fun _ => Nat → List (List AV)) (fun _ => []) (fun b _ ih i => Bool.rec (motive := fun _ => List (List AV)) (ih (Nat.succ i)) ([.sc (.int .i64 (.ofNat i))] :: ih (Nat.succ i)) b) bs
theorem elemsK_spec : ∀ (bs : List Bool) (i : Nat) (s : Nat → Bool), (∀ j, j < bs.length → s (i + j) = sOf bs j) → elemsK bs i = intsR (((List.range' i bs.length).filter s).map fun i : Nat => (i : Int)) := by
 intro bs
 induction bs with
 | nil => intro i s _; rfl
 | cons b bs ih =>
  intro i s h
  have h0 : s i = b := by have := h 0 (by simp); simpa [sOf] using this
  have ih' := ih (i + 1) s fun j hj => by
   have := h (j + 1) (by simpa using hj)
   rw [show i + 1 + j = i + (j + 1) by omega, this]
   simp [sOf]
  show Bool.rec (motive := fun _ => List (List AV)) (elemsK bs (i + 1)) ([.sc (.int .i64 (.ofNat i))] :: elemsK bs (i + 1)) b = _
  rw [List.length_cons, List.range'_succ, List.filter_cons, h0, ih']
  cases b <;> rfl
noncomputable def orL (b : Bool) (ih : List Bool → Option (List AV)) (ts : List Bool) : Option (List AV) :=
 match ts with
 | [] => none
 | t :: ts => match ih ts with
  | some q => some (.sc (.bool (b || t)) :: q)
  | none => none
noncomputable def orK (bs : List Bool) : List Bool → Option (List AV) := List.rec (motive := fun _ => List Bool → Option (List AV)) (fun _ => some []) (fun b _ ih => orL b ih) bs
theorem orK_eq : ∀ (bs ts : List Bool) (r : List AV), orK bs ts = some r → r.length = bs.length ∧ ∀ j, j < bs.length → r[j]? = some (.sc (.bool (sOf bs j || sOf ts j))) := by
 intro bs
 induction bs with
 | nil => intro ts r h; injection h with h; subst h; exact ⟨rfl, fun j hj => by simp at hj⟩
 | cons b bs ih =>
  intro ts r h
  replace h : orL b (orK bs) ts = some r := h
  unfold orL at h
  split at h
  ·cases h
  ·rename_i t ts
   split at h
   ·rename_i q e
    injection h with h
    subst h
    obtain ⟨h1, h2⟩ := ih ts q e
    refine ⟨by simp [h1], fun j hj => ?_⟩
    cases j with
    | zero => simp [sOf]
    | succ j =>
     rw [List.getElem?_cons_succ, h2 j (by simpa using hj)]
     simp [sOf]
   ·cases h
noncomputable def sumList (H : Heap) : Option (List Bool) → Option (AV × Heap)
 | some bs => Bool.rec (motive := fun _ => Option (AV × Heap)) none (some (.list 1 (elemsK bs 0), H)) (Nat.beq (lenK bs) 64)
 | none => none
noncomputable def sumFirst (n : Nat) (H : Heap) : Option (AV × Heap) := Bool.rec (motive := fun _ => Option (AV × Heap)) none (some (.agg (firstK n 64 0), H)) (Nat.ble n 64)
noncomputable def sumJoin3 (H : Heap) (g i : Nat) : Option (List AV) → Option (AV × Heap)
 | some r => match hsetK H g i (.cells 64 [r]) with
  | some H' => some (.tup [], H')
  | none => none
 | none => none
noncomputable def sumJoin2 (H : Heap) (g i : Nat) (a b : Option (List Bool)) : Option (AV × Heap) :=
 match a with
 | some bs => match b with
  | some ts => Bool.rec (motive := fun _ => Option (AV × Heap)) none (sumJoin3 H g i (orK bs ts)) (Nat.beq (lenK bs) 64 && Nat.beq (lenK ts) 64)
  | none => none
 | none => none
noncomputable def sumJoin (H : Heap) (g i : Nat) (cs : List AV) : Option Blk → Option (AV × Heap)
 | some (.cells 64 [r]) => sumJoin2 H g i (boolsK r) (boolsK cs)
 | _ => none
noncomputable def sum39 (args : List AV) (H : Heap) : Option (AV × Heap) :=
 match args with
 | [.sc (.int .i64 (.ofNat n))] => sumFirst n H
 | _ => none
noncomputable def sum55 (args : List AV) (H : Heap) : Option (AV × Heap) :=
 match args with
 | [.agg cs] => sumList H (boolsK cs)
 | _ => none
noncomputable def sum70 (args : List AV) (H : Heap) : Option (AV × Heap) :=
 match args with
 | [.ptr g i 0 0, .agg cs] => sumJoin H g i cs (hgetK H g i)
 | _ => none
noncomputable def sumF : Caller := fun f args H =>
 Bool.rec (motive := fun _ => Option (AV × Heap)) (Bool.rec (motive := fun _ => Option (AV × Heap)) (Bool.rec (motive := fun _ => Option (AV × Heap)) none (sum39 args H) (Nat.beq f 39)) (sum55 args H) (Nat.beq f 55)) (sum70 args H) (Nat.beq f 70)
theorem sumF_ok : CallerOK Try.prog sumF := by
 intro f args H v H' h
 unfold sumF at h
 cases e70 : Nat.beq f 70 with
 | true =>
  rw [e70] at h
  replace h : sum70 args H = some (v, H') := h
  have := Nat.eq_of_beq_eq_true e70
  subst this
  unfold sum70 at h
  split at h
  ·rename_i g i cs
   unfold sumJoin at h
   split at h
   ·rename_i r e
    rw [hgetK_eq] at e
    unfold sumJoin2 at h
    split at h
    ·rename_i bs eb
     split at h
     ·rename_i ts et
      cases hc : Nat.beq (lenK bs) 64 && Nat.beq (lenK ts) 64 with
      | false => rw [hc] at h; cases h
      | true =>
       rw [hc] at h
       simp only [Bool.and_eq_true, lenK_eq] at hc
       have l1 := Nat.eq_of_beq_eq_true hc.1
       have l2 := Nat.eq_of_beq_eq_true hc.2
       replace h : sumJoin3 H g i (orK bs ts) = some (v, H') := h
       unfold sumJoin3 at h
       split at h
       ·rename_i q eq
        split at h
        ·rename_i H1 eh
         injection h with h
         injection h with h1 h2
         subst h1; subst h2
         rw [boolsK_eq _ _ eb, bset_of l1] at e
         rw [boolsK_eq _ _ et, bset_of l2]
         refine (join_at e).mono ?_
         rintro res H2 ⟨rfl, rfl⟩
         refine ⟨rfl, ?_⟩
         rw [← hsetK_eq _ _ _ _ _ eh]
         congr 2
         obtain ⟨k1, k2⟩ := orK_eq _ _ _ eq
         congr 1
         apply List.ext_getElem?
         intro j
         by_cases hj : j < 64
         ·rw [bset_get hj, k2 j (by omega)]
          rfl
         ·rw [List.getElem?_eq_none (by rw [bset_len]; omega), List.getElem?_eq_none (by omega)]
        ·cases h
       ·cases h
     ·cases h
    ·cases h
   ·cases h
  ·cases h
 | false =>
  rw [e70] at h
  cases e55 : Nat.beq f 55 with
  | true =>
   rw [e55] at h
   replace h : sum55 args H = some (v, H') := h
   have := Nat.eq_of_beq_eq_true e55
   subst this
   unfold sum55 at h
   split at h
   ·rename_i cs
    unfold sumList at h
    split at h
    ·rename_i bs eb
     cases hc : Nat.beq (lenK bs) 64 with
     | false => rw [hc] at h; cases h
     | true =>
      rw [hc] at h
      rw [lenK_eq] at hc
      have l1 := Nat.eq_of_beq_eq_true hc
      injection h with h
      injection h with h1 h2
      subst h1; subst h2
      rw [boolsK_eq _ _ eb, bset_of l1]
      refine CallOK.ofPure (PureRun.of (allPure_cons (.agg _ (pure_bset _ _)) allPure_nil) (pure_ints _) (list_ok _)) _ ⟨?_, rfl⟩
      have := elemsK_spec bs 0 (sOf bs) fun j _ => by rw [Nat.zero_add]
      rw [this, l1, ← List.range_eq_range']
      rfl
    ·cases h
   ·cases h
  | false =>
   rw [e55] at h
   cases e39 : Nat.beq f 39 with
   | true =>
    rw [e39] at h
    replace h : sum39 args H = some (v, H') := h
    have := Nat.eq_of_beq_eq_true e39
    subst this
    unfold sum39 at h
    split at h
    ·rename_i n
     unfold sumFirst at h
     cases hc : Nat.ble n 64 with
     | false => rw [hc] at h; cases h
     | true =>
      rw [hc] at h
      have hn := Nat.le_of_ble_eq_true hc
      injection h with h
      injection h with h1 h2
      subst h1; subst h2
      rw [firstK_eq]
      exact CallOK.ofPure (PureRun.of (allPure_cons (.sc _) allPure_nil) (.agg _ (pure_bset _ _)) (first_ok n hn)) _ ⟨rfl, rfl⟩
    ·cases h
   | false => rw [e39] at h; cases h
set_option maxRecDepth 1000000
set_option maxHeartbeats 0
def tabW : List (Nat × IFun) := [(11, F11), (12, F12), (16, F16), (19, F19), (21, F21), (34, F34), (38, F38), (40, F40), (41, F41), (42, F42), (43, F43), (44, F44), (45, F45), (46, F46), (51, F51), (52, F52), (53, F53), (69, F69)]
theorem tabW_ok : TabOK Try.prog tabW :=
 ⟨cF11, cF12, cF16, cF19, cF21, cF34, cF38, cF40, cF41, cF42, cF43, cF44, cF45, cF46, cF51, cF52, cF53, cF69, trivial⟩
theorem works_run : runK sumF (tabL tabW) 1000 20 11 [] [] = some (.sc (.bool true), []) := by kernel_rfl
theorem mixed0 : Try.prog.follows .mixedOrders = true := by kernel_rfl
theorem works_ok : CallOK Try.prog 11 [] [] fun res _ => res = .sc (.bool true) :=
 (runK_sound mixed0 sumF_ok (tabL_ok tabW_ok) 20 11 [] [] _ _ works_run).mono fun _ _ h => h.1
theorem works_pure : PureRun Try.prog 11 [] (.sc (.bool true)) := PureRun.of (fun _ h => by cases h) (.sc _) works_ok
end Go.Proofs.Ytbpmbofinoinmaa
namespace Go.Proofs.Ytbpmbofinoinmaa
namespace X42
open Go.Av Go.Proofs
def place (j k : Nat) : Nat := if k ≤ j then k else k - 1
section
variable (n : Nat) (l : List C) (r : Int) (S : Nat → Option (List AV))
def hears (j k : Nat) : Bool := (S j).isSome && (livesS l j (r - 1) && (decide (k ≠ j) && decide ((place j k : Int) < reachS n l j r)))
def from' (i k : Nat) : List Nat := (List.range i).filter fun j => hears n l r S j k
def msg (j : Nat) : List AV := (S j).getD []
def ints (F : List Nat) : List (List AV) := F.map fun j : Nat => [.sc (.int .i64 (j : Int))]
def msgs (F : List Nat) : List (List AV) := F.map (msg S)
def sent (i : Nat) : Bool := (List.range i).any fun j => (S j).isSome && livesS l j (r - 1)
def schB : Blk := .cells 2 [[.sc (.int .i64 n), .tmap (esOf l)]]
def hpX (F : Nat → List Nat) : Heap :=
 [[schB n l], [.cells 1 (row1 n fun k => .hsl 6 k 0 (F k).length)], [.cells 1 (row1 n fun k => .hsl 7 k 0 (F k).length)], fam n fun k => .cells 1 (ints (F k)), fam n fun k => .cells 65 (msgs S (F k))]
theorem from_succ (i k : Nat) : from' n l r S (i + 1) k = from' n l r S i k ++ if hears n l r S i k = true then [i] else [] := by
 unfold from'
 rw [List.range_succ, List.filter_append]
 congr 1
 simp only [List.filter_cons, List.filter_nil]
theorem from_len (i k : Nat) : (from' n l r S i k).length ≤ i := by
 unfold from'
 exact Nat.le_trans (List.length_filter_le _ _) (by simp)
theorem sent_succ (i : Nat) : sent l r S (i + 1) = (sent l r S i || ((S i).isSome && livesS l i (r - 1))) := by
 unfold sent
 rw [List.range_succ, List.any_append]
 simp
theorem pure_rows (F : List Nat) : ∀ r ∈ ints F, ∀ c ∈ r, Pure c := by
 intro r hr
 obtain ⟨j, _, rfl⟩ := List.mem_map.1 hr
 exact allPure_cons (.sc _) allPure_nil
def MsgOK : Prop := ∀ j m, S j = some m → m.length = 65 ∧ (∀ c ∈ m, Pure c) ∧ m.all AV.cell1 = true
theorem pure_msgs {S : Nat → Option (List AV)} (h : MsgOK S) (F : List Nat) : ∀ r ∈ msgs S F, ∀ c ∈ r, Pure c := by
 intro r hr c hc
 obtain ⟨j, _, rfl⟩ := List.mem_map.1 hr
 unfold msg at hc
 cases e : S j with
 | none => rw [e] at hc; cases hc
 | some m => rw [e] at hc; exact (h j m e).2.1 c hc
def upTo (i k : Nat) (q : Nat) : List Nat := from' n l r S i q ++ if q < k ∧ hears n l r S i q = true then [i] else []
theorem upTo_zero (i : Nat) : upTo n l r S i 0 = from' n l r S i := by
 funext q
 simp [upTo]
theorem upTo_len (i k q : Nat) : (upTo n l r S i k q).length ≤ i + 1 := by
 unfold upTo
 have := from_len n l r S i q
 rw [List.length_append]
 split <;> simp <;> omega
end
section
variable {n : Nat} {l : List C} {r : Int} {S : Nat → Option (List AV)} {fs ft : FuncId} {cs ct : List AV} {A B D : Blk}
def mP : Option (List AV) → AV
 | some m => .cptr m
 | none => .sc (.pointer none)
theorem upTo_last {i k q : Nat} (hq : hears n l r S i q = true → q < k) : upTo n l r S i k q = from' n l r S (i + 1) q := by
 unfold upTo
 rw [from_succ]
 congr 1
 by_cases h : hears n l r S i q = true
 ·rw [if_pos ⟨hq h, h⟩, if_pos h]
 ·rw [if_neg (fun e => h e.2), if_neg h]
theorem upTo_succ {i k : Nat} (h : hears n l r S i k = true) : ∀ q, upTo n l r S i (k + 1) q = if q = k then upTo n l r S i k k ++ [i] else upTo n l r S i k q := by
 intro q
 by_cases e : q = k
 ·subst e
  rw [if_pos rfl]
  simp [upTo, h]
 ·rw [if_neg e]
  unfold upTo
  congr 1
  by_cases hq : q < k
  ·have h1 : (q < k + 1 ∧ hears n l r S i q = true) ↔ (q < k ∧ hears n l r S i q = true) := ⟨fun x => ⟨hq, x.2⟩, fun x => ⟨by omega, x.2⟩⟩
   simp only [h1]
  ·rw [if_neg (by omega), if_neg (by omega)]
theorem upTo_same {i k : Nat} (h : hears n l r S i k = false) : upTo n l r S i (k + 1) = upTo n l r S i k := by
 funext q
 unfold upTo
 congr 1
 by_cases e : q = k
 ·subst e
  rw [if_neg (by simp [h]), if_neg (by simp [h])]
 ·have h1 : (q < k + 1 ∧ hears n l r S i q = true) ↔ (q < k ∧ hears n l r S i q = true) := ⟨fun x => ⟨by omega, x.2⟩, fun x => ⟨by omega, x.2⟩⟩
  simp only [h1]
def fr0 (n : Nat) (r : Int) (fs ft : FuncId) (cs ct : List AV) (snt : Bool) (i : Nat) : Fr :=
 [(1, .sc (.int .i64 r)), (2, .clo (.func fs) [] cs), (3, .clo (.func ft) [] ct), (4, .ptr 3 0 0 0), (9, .sc (.bool snt)), (10, .hsl 4 0 0 n), (11, .hsl 5 0 0 n), (24, .sc (.int .i64 n)), (25, .sc (.int .i64 i))]
def nilR (n : Nat) : Blk := .cells 1 (row1 n fun _ => .sc (.slice none 0 0))
theorem ghost0 : Ghost [[A], [B], [D], [schB n l], [nilR n], [nilR n]] ([A] :: [B] :: [D] :: hpX n l S fun _ => []) := by
 have key : ∀ (m : Nat) (f : Nat → AV) (T : AV → AV → Prop) (i : Nat) x', (∀ k, k < n → Cong T (.sc (.slice none 0 0)) (f k)) → [Blk.cells 1 (row1 n f)][i]? = some x' → ∃ x, [nilR n][i]? = some x ∧ CongB T x x' := by
  intro m f T i x' hf hx
  cases i with
  | zero => simp at hx; subst hx; exact ⟨_, rfl, .row1 hf⟩
  | succ i => simp at hx
 refine ⟨fun g i x' hx hl => ?_, fun g i h => ?_⟩
 ·match g, hx with
  | 0, hx => exact .inl ⟨x', hx, .refl _⟩
  | 1, hx => exact .inl ⟨x', hx, .refl _⟩
  | 2, hx => exact .inl ⟨x', hx, .refl _⟩
  | 3, hx => exact .inl ⟨x', hx, .refl _⟩
  | 4, hx => exact .inl (key 0 _ _ i x' (fun k hk => .base (.mk 6 k 1 rfl (fam_get hk))) hx)
  | 5, hx => exact .inl (key 0 _ _ i x' (fun k hk => .base (.mk 7 k 65 rfl (fam_get hk))) hx)
  | 6, hx => obtain ⟨_, rfl⟩ := fam_some hx; exact .inr ⟨rfl, 1, rfl⟩
  | 7, hx => obtain ⟨_, rfl⟩ := fam_some hx; exact .inr ⟨rfl, 65, rfl⟩
  | g + 8, hx => cases hx
 ·match g, h with
  | 0, h => exact h
  | 1, h => exact h
  | 2, h => exact h
  | 3, h => exact h
  | 4, h => cases i with
   | zero => rfl
   | succ i => simp [hget] at h
  | 5, h => cases i with
   | zero => rfl
   | succ i => simp [hget] at h
  | g + 6, h => simp [hget] at h
theorem clo_w {f : FuncId} {c : List AV} {ρ : Nat → Nat → Option (Nat × Nat)} (h : Ren (lowS 3) (.clo (.func f) [] c) (.clo (.func f) [] c)) (h0 : ρ 0 0 = some (0, 0)) (h1 : ρ 1 0 = some (1, 0)) (h2 : ρ 2 0 = some (2, 0)) : Ren ρ (.clo (.func f) [] c) (.clo (.func f) [] c) :=
 h.weaken fun g i p e => by
  obtain ⟨hg, rfl, rfl⟩ := lowS_spec e
  match g, hg with
  | 0, _ => exact h0
  | 1, _ => exact h1
  | 2, _ => exact h2
theorem blk_w {x : Blk} {ρ : Nat → Nat → Option (Nat × Nat)} (h : LoB 3 x) (h0 : ρ 0 0 = some (0, 0)) (h1 : ρ 1 0 = some (1, 0)) (h2 : ρ 2 0 = some (2, 0)) : RenB ρ x x :=
 h.2.weaken fun g i p e => by
  obtain ⟨hg, rfl, rfl⟩ := lowS_spec e
  match g, hg with
  | 0, _ => exact h0
  | 1, _ => exact h1
  | 2, _ => exact h2
theorem pure_schB (n : Nat) (l : List C) {ρ : Nat → Nat → Option (Nat × Nat)} : RenB ρ (schB n l) (schB n l) :=
 RenB.pure 2 _ fun r hr => by rw [List.mem_singleton.1 hr]; exact allPure_cons (.sc _) (allPure_cons (pure_es l) allPure_nil)
theorem hp_congr {F F' : Nat → List Nat} (h : ∀ k, k < n → F k = F' k) : hpX n l S F = hpX n l S F' := by
 have e1 : ∀ g : Nat, (row1 n fun k => AV.hsl g k 0 (F k).length) = row1 n fun k => AV.hsl g k 0 (F' k).length := fun g => List.map_congr_left fun k hk => by simp only [h k (List.mem_range.1 hk)]
 have e2 : (fam n fun k => Blk.cells 1 (ints (F k))) = fam n fun k => Blk.cells 1 (ints (F' k)) := List.map_congr_left fun k hk => by simp only [h k (List.mem_range.1 hk)]
 have e3 : (fam n fun k => Blk.cells 65 (msgs S (F k))) = fam n fun k => Blk.cells 65 (msgs S (F' k)) := List.map_congr_left fun k hk => by simp only [h k (List.mem_range.1 hk)]
 unfold hpX
 rw [e1, e1, e2, e3]
theorem fzt_all {H : Heap} {T : Nat → Nat → Bool} {g i len sz : Nat} {rows : List (List AV)} (hT : T g i = true) (h : hget H g i = some (.cells sz rows)) (hl : rows.length = len) : Cong (FzT H T) (.hsl g i 0 len) (.list sz rows) := by
 have := FzT.hsl (H := H) (S := T) g i 0 len sz rows hT h (by omega)
 rw [List.drop_zero, List.take_of_length_le (by omega)] at this
 exact .base this
def s67 (g _ : Nat) : Bool := Nat.beq g 6 || Nat.beq g 7
def s45 (g _ : Nat) : Bool := Nat.beq g 4 || Nat.beq g 5
def heardV (F : Nat → List Nat) (k : Nat) : AV := .list 1 (ints (F k))
def gotV (S : Nat → Option (List AV)) (F : Nat → List Nat) (k : Nat) : AV := .list 65 (msgs S (F k))
def mid1 (n : Nat) (l : List C) (S : Nat → Option (List AV)) (F : Nat → List Nat) : Heap := [[schB n l], [.cells 1 (row1 n (heardV F))], [.cells 1 (row1 n (gotV S F))], fam n fun _ => .dead, fam n fun _ => .dead]
theorem frz1 {F : Nat → List Nat} : Frozen ([A] :: [B] :: [D] :: hpX n l S F) s67 ([A] :: [B] :: [D] :: mid1 n l S F) := by
 have key : ∀ (f f' : Nat → AV) (T : AV → AV → Prop) (i : Nat) x', (∀ k, k < n → Cong T (f k) (f' k)) → [Blk.cells 1 (row1 n f')][i]? = some x' → ∃ x, [Blk.cells 1 (row1 n f)][i]? = some x ∧ CongB T x x' := by
  intro f f' T i x' hf hx
  cases i with
  | zero => simp at hx; subst hx; exact ⟨_, rfl, .row1 hf⟩
  | succ i => simp at hx
 have hfam : ∀ (f : Nat → Blk) (i : Nat), ((fam n f)[i]?).isSome → ((fam n fun _ => Blk.dead)[i]?).isSome := by
  intro f i h
  obtain ⟨y, hy⟩ := Option.isSome_iff_exists.1 h
  rw [fam_get (fam_some hy).1]
  rfl
 refine ⟨fun g i x' hx hl => ?_, fun g i h => ?_⟩
 ·match g, hx with
  | 0, hx => exact ⟨rfl, x', hx, .refl _⟩
  | 1, hx => exact ⟨rfl, x', hx, .refl _⟩
  | 2, hx => exact ⟨rfl, x', hx, .refl _⟩
  | 3, hx => exact ⟨rfl, x', hx, .refl _⟩
  | 4, hx => exact ⟨rfl, key _ _ _ i x' (fun k hk => fzt_all rfl (fam_get hk) (by simp [ints])) hx⟩
  | 5, hx => exact ⟨rfl, key _ _ _ i x' (fun k hk => fzt_all rfl (fam_get hk) (by simp [msgs])) hx⟩
  | 6, hx => obtain ⟨_, rfl⟩ := fam_some hx; cases hl
  | 7, hx => obtain ⟨_, rfl⟩ := fam_some hx; cases hl
  | g + 8, hx => cases hx
 ·match g, h with
  | 0, h => exact h
  | 1, h => exact h
  | 2, h => exact h
  | 3, h => exact h
  | 4, h => cases i with
   | zero => rfl
   | succ i => simp [hget, hpX] at h
  | 5, h => cases i with
   | zero => rfl
   | succ i => simp [hget, hpX] at h
  | 6, h => exact hfam _ i h
  | 7, h => exact hfam _ i h
  | g + 8, h => cases h
def mid2 (n : Nat) (l : List C) : Heap := [[schB n l], [.dead], [.dead], fam n fun _ => .dead, fam n fun _ => .dead]
theorem frz2 {F : Nat → List Nat} : Frozen ([A] :: [B] :: [D] :: mid1 n l S F) s45 ([A] :: [B] :: [D] :: mid2 n l) := by
 refine ⟨fun g i x' hx hl => ?_, fun g i h => ?_⟩
 ·match g, hx with
  | 0, hx => exact ⟨rfl, x', hx, .refl _⟩
  | 1, hx => exact ⟨rfl, x', hx, .refl _⟩
  | 2, hx => exact ⟨rfl, x', hx, .refl _⟩
  | 3, hx => exact ⟨rfl, x', hx, .refl _⟩
  | 4, hx => cases i with
   | zero => simp [hget, mid2] at hx; subst hx; cases hl
   | succ i => simp [hget, mid2] at hx
  | 5, hx => cases i with
   | zero => simp [hget, mid2] at hx; subst hx; cases hl
   | succ i => simp [hget, mid2] at hx
  | 6, hx => obtain ⟨_, rfl⟩ := fam_some hx; cases hl
  | 7, hx => obtain ⟨_, rfl⟩ := fam_some hx; cases hl
  | g + 8, hx => cases hx
 ·match g, h with
  | 0, h => exact h
  | 1, h => exact h
  | 2, h => exact h
  | 3, h => exact h
  | 4, h => cases i with
   | zero => rfl
   | succ i => simp [hget, mid1] at h
  | 5, h => cases i with
   | zero => rfl
   | succ i => simp [hget, mid1] at h
  | 6, h => exact h
  | 7, h => exact h
  | g + 8, h => cases h
def fr2 (n : Nat) (r : Int) (S : Nat → Option (List AV)) (F : Nat → List Nat) (ft : FuncId) (ct : List AV) (snt : Bool) (i : Nat) : Fr :=
 [(1, .sc (.int .i64 r)), (3, .clo (.func ft) [] ct), (4, .ptr 3 0 0 0), (9, .sc (.bool snt)), (10, .list 1 (row1 n (heardV F))), (11, .list 1 (row1 n (gotV S F))), (84, .sc (.int .i64 n)), (85, .sc (.int .i64 i))]
def fr2a (n : Nat) (r : Int) (ft : FuncId) (ct : List AV) (snt : Bool) (i : Nat) : Fr :=
 [(1, .sc (.int .i64 r)), (3, .clo (.func ft) [] ct), (4, .ptr 3 0 0 0), (9, .sc (.bool snt)), (10, .hsl 4 0 0 n), (11, .hsl 5 0 0 n), (84, .sc (.int .i64 n)), (85, .sc (.int .i64 i))]
theorem pure_heard (n : Nat) (F : Nat → List Nat) : Pure (.list 1 (row1 n (heardV F))) := .list _ _ fun r hr => by
 obtain ⟨k, _, rfl⟩ := List.mem_map.1 hr
 exact allPure_cons (.list _ _ (pure_rows _)) allPure_nil
theorem pure_got (n : Nat) {S : Nat → Option (List AV)} (hm : MsgOK S) (F : Nat → List Nat) : Pure (.list 1 (row1 n (gotV S F))) := .list _ _ fun r hr => by
 obtain ⟨k, _, rfl⟩ := List.mem_map.1 hr
 exact allPure_cons (.list _ _ (pure_msgs hm _)) allPure_nil
theorem toSecond {N : Nat} {F : Nat → List Nat} {fr : Fr} {snt : Bool} (hA : LoB 3 A) (hB : LoB 3 B) (hD : LoB 3 D) (hm : MsgOK S) (hct : Ren (lowS 3) (.clo (.func ft) [] ct) (.clo (.func ft) [] ct)) (h : LeAll fr (fr2a n r ft ct snt 0)) :
  Sub 3 N fr ([A] :: [B] :: [D] :: hpX n l S F) (fr2 n r S F ft ct snt 0) [[A], [B], [D], [schB n l]] := by
 refine Sub.trans (Sub.keep h) ?_
 refine Sub.trans (Sub.frz s67 frz1 (fr' := fr2a n r ft ct snt 0) (CongAll.mem ⟨.refl _, .refl _, .refl _, .refl _, .refl _, .refl _, .refl _, .refl _, trivial⟩)) ?_
 refine Sub.trans (Sub.frz s45 frz2 (fr' := fr2 n r S F ft ct snt 0) (CongAll.mem ⟨.refl _, .refl _, .refl _, .refl _, fzt_all rfl rfl (row1_len _ _), fzt_all rfl rfl (row1_len _ _), .refl _, .refl _, trivial⟩)) ?_
 exact Sub.re [[(0, 0)], [(1, 0)], [(2, 0)], [(3, 0)]] rfl rfl rfl ⟨⟨⟨_, rfl, blk_w hA rfl rfl rfl⟩, trivial⟩, ⟨⟨_, rfl, blk_w hB rfl rfl rfl⟩, trivial⟩, ⟨⟨_, rfl, blk_w hD rfl rfl rfl⟩, trivial⟩, ⟨⟨_, rfl, pure_schB n l⟩, trivial⟩, trivial⟩
  ⟨.int rfl, clo_w hct rfl rfl rfl, .ptr _ _ _ _ _ _ rfl, .sc _, .pure (pure_heard n F), .pure (pure_got n hm F), .int rfl, .int rfl, trivial⟩
def fr1 (n : Nat) (r : Int) (fs ft : FuncId) (cs ct : List AV) (i : Nat) (m : List AV) (left : Int) (k : Nat) : Fr :=
 (12, .sc (.int .i64 i)) :: (13, .cptr m) :: (14, .sc (.int .i64 left)) :: (15, .sc (.int .i64 k)) :: fr0 n r fs ft cs ct true i
def rhoX (k g i : Nat) : Option (Nat × Nat) := if g = 6 ∧ i = k then some (8, 10) else if g = 7 ∧ i = k then some (8, 19) else if g < 8 then some (g, i) else none
theorem back {N : Nat} {F F' : Nat → List Nat} {i k : Nat} {m : List AV} {Y : List Blk} {fr fr' : Fr} (hA : LoB 3 A) (hB : LoB 3 B) (hD : LoB 3 D) (hk : k < n) (hF' : ∀ q, F' q = if q = k then F k ++ [i] else F q) (hS : S i = some m) (hm : MsgOK S)
  (h10 : Y[10]? = some (.cells 1 (ints (F k) ++ [[.sc (.int .i64 i)]]))) (h19 : Y[19]? = some (.cells 65 (msgs S (F k) ++ [m]))) (h5 : RenAll (rhoX k) fr fr') :
  Sub 3 N fr ([A] :: [B] :: [D] :: [schB n l] :: [.cells 1 ((row1 n fun q => .hsl 6 q 0 (F q).length).set (0 + k) [.hsl 8 10 0 ((F k).length + 1)])] :: [.cells 1 ((row1 n fun q => .hsl 7 q 0 (F q).length).set (0 + k) [.hsl 8 19 0 ((F k).length + 1)])] ::
   (fam n fun q => .cells 1 (ints (F q))).set k .dead :: (fam n fun q => .cells 65 (msgs S (F q))).set k .dead :: [Y]) fr' ([A] :: [B] :: [D] :: hpX n l S F') := by
 have hset : ∀ (f : Nat → Blk) i, i ≠ k → ((fam n f).set k .dead)[i]? = (fam n f)[i]? := fun f i hi => List.getElem?_set_ne (fun e => hi e.symm)
 have hk' : F' k = F k ++ [i] := by rw [hF', if_pos rfl]
 have r0 : rhoX k 0 0 = some (0, 0) := by simp [rhoX]
 have r1 : rhoX k 1 0 = some (1, 0) := by simp [rhoX]
 have r2 : rhoX k 2 0 = some (2, 0) := by simp [rhoX]
 have rlt : ∀ g i, g < 6 → rhoX k g i = some (g, i) := fun g i h => by unfold rhoX; rw [if_neg (by omega), if_neg (by omega), if_pos (by omega)]
 have r6 : ∀ i, i ≠ k → rhoX k 6 i = some (6, i) := fun i h => by simp [rhoX, h]
 have r7 : ∀ i, i ≠ k → rhoX k 7 i = some (7, i) := fun i h => by simp [rhoX, h]
 have r6k : rhoX k 6 k = some (8, 10) := by simp [rhoX]
 have r7k : rhoX k 7 k = some (8, 19) := by simp [rhoX]
 have hrow : ∀ (g : Nat) (v : Nat), rhoX k g k = some (8, v) → (∀ q, q ≠ k → rhoX k g q = some (g, q)) →
   RenB (rhoX k) (.cells 1 ((row1 n fun q => .hsl g q 0 (F q).length).set (0 + k) [.hsl 8 v 0 ((F k).length + 1)])) (.cells 1 (row1 n fun q => .hsl g q 0 (F' q).length)) := by
  intro g v h1 h2
  rw [Nat.zero_add, row1_set]
  refine .row1 fun q hq => ?_
  by_cases e : q = k
  ·subst e
   rw [if_pos rfl, hk', List.length_append]
   exact .hsl g q 8 v 0 _ h1
  ·rw [if_neg e, hF', if_neg e]
   exact .hsl g q g q 0 _ (h2 q e)
 refine Sub.ren (rhoX k) ⟨fun g j hg _ => rlt g j (by omega), fun g j g' j' p hp hp' => ?_, fun g j x hx hl => ?_, fun g j p hp hi => ?_⟩ h5.mem
 ·unfold rhoX at hp hp'
  split at hp
  ·split at hp'
   ·omega
   ·split at hp'
    ·rw [← hp] at hp'; simp at hp'
    ·split at hp'
     ·rw [← hp] at hp'; simp at hp'; omega
     ·cases hp'
  ·split at hp
   ·split at hp'
    ·rw [← hp] at hp'; simp at hp'
    ·split at hp'
     ·omega
     ·split at hp'
      ·rw [← hp] at hp'; simp at hp'; omega
      ·cases hp'
   ·split at hp
    ·split at hp'
     ·rw [← hp] at hp'; simp at hp'; omega
     ·split at hp'
      ·rw [← hp] at hp'; simp at hp'; omega
      ·split at hp'
       ·rw [← hp] at hp'; simp at hp'; exact ⟨hp'.1.symm, hp'.2.symm⟩
       ·cases hp'
    ·cases hp
 ·match g, hx with
  | 0, hx =>
   cases j with
   | zero =>
    have e : A = x := by simpa [hget] using hx
    subst e
    exact ⟨0, 0, A, r0, rfl, blk_w hA r0 r1 r2⟩
   | succ j => simp [hget] at hx
  | 1, hx =>
   cases j with
   | zero =>
    have e : B = x := by simpa [hget] using hx
    subst e
    exact ⟨1, 0, B, r1, rfl, blk_w hB r0 r1 r2⟩
   | succ j => simp [hget] at hx
  | 2, hx =>
   cases j with
   | zero =>
    have e : D = x := by simpa [hget] using hx
    subst e
    exact ⟨2, 0, D, r2, rfl, blk_w hD r0 r1 r2⟩
   | succ j => simp [hget] at hx
  | 3, hx =>
   cases j with
   | zero =>
    have e : schB n l = x := by simpa [hget, hpX] using hx
    subst e
    exact ⟨3, 0, _, rlt 3 0 (by omega), rfl, pure_schB n l⟩
   | succ j => simp [hget, hpX] at hx
  | 4, hx =>
   cases j with
   | zero =>
    refine ⟨4, 0, _, rlt 4 0 (by omega), rfl, ?_⟩
    have : (Blk.cells 1 (row1 n fun q => .hsl 6 q 0 (F' q).length)) = x := by simpa [hget, hpX] using hx
    subst this
    exact hrow 6 10 r6k r6
   | succ j => simp [hget, hpX] at hx
  | 5, hx =>
   cases j with
   | zero =>
    refine ⟨5, 0, _, rlt 5 0 (by omega), rfl, ?_⟩
    have : (Blk.cells 1 (row1 n fun q => .hsl 7 q 0 (F' q).length)) = x := by simpa [hget, hpX] using hx
    subst this
    exact hrow 7 19 r7k r7
   | succ j => simp [hget, hpX] at hx
  | 6, hx =>
   obtain ⟨hj, rfl⟩ := fam_some (show (fam n fun q => Blk.cells 1 (ints (F' q)))[j]? = some x from hx)
   by_cases e : j = k
   ·subst e
    refine ⟨8, 10, _, r6k, h10, RenB.rows ?_ (pure_rows _)⟩
    rw [hk']
    simp [ints]
   ·refine ⟨6, j, _, r6 j e, (hset _ j e).trans (fam_get hj), RenB.rows ?_ (pure_rows _)⟩
    rw [hF', if_neg e]
  | 7, hx =>
   obtain ⟨hj, rfl⟩ := fam_some (show (fam n fun q => Blk.cells 65 (msgs S (F' q)))[j]? = some x from hx)
   by_cases e : j = k
   ·subst e
    refine ⟨8, 19, _, r7k, h19, RenB.rows ?_ (pure_msgs hm _)⟩
    rw [hk']
    simp [msgs, msg, hS]
   ·refine ⟨7, j, _, r7 j e, (hset _ j e).trans (fam_get hj), RenB.rows ?_ (pure_msgs hm _)⟩
    rw [hF', if_neg e]
  | g + 8, hx => cases hx
 ·have h67 : ∀ (f f' : Nat → Blk), (((fam n f).set k .dead)[j]?).isSome → ((fam n f')[j]?).isSome := by
   intro f f' h
   have : j < n := by
    rw [Option.isSome_iff_exists] at h
    obtain ⟨y, hy⟩ := h
    have := (List.getElem?_eq_some_iff.1 hy).1
    simpa [fam_len] using this
   rw [fam_get this]
   rfl
  by_cases c6 : g = 6 ∧ j = k
  ·obtain ⟨rfl, rfl⟩ := c6
   show ((fam n fun q => Blk.cells 1 (ints (F' q)))[j]?).isSome
   rw [fam_get hk]; rfl
  ·by_cases c7 : g = 7 ∧ j = k
   ·obtain ⟨rfl, rfl⟩ := c7
    show ((fam n fun q => Blk.cells 65 (msgs S (F' q)))[j]?).isSome
    rw [fam_get hk]; rfl
   ·unfold rhoX at hp
    rw [if_neg c6, if_neg c7] at hp
    split at hp
    ·rename_i hg
     injection hp with hp
     subst hp
     match g, hi with
     | 0, hi => exact hi
     | 1, hi => exact hi
     | 2, hi => exact hi
     | 3, hi => exact hi
     | 4, hi => cases j with
      | zero => rfl
      | succ j => simp [hget] at hi
     | 5, hi => cases j with
      | zero => rfl
      | succ j => simp [hget] at hi
     | 6, hi => exact h67 _ _ hi
     | 7, hi => exact h67 _ _ hi
     | g + 8, _ => omega
    ·cases hp
set_option maxHeartbeats 1000000 in
theorem exchange_ok (hn1 : 1 ≤ n) (hn : n ≤ 64) (hr : 1 ≤ r ∧ r ≤ 1000) (hm : MsgOK S) (hre : ∀ i, i < n → -1000 ≤ reachS n l i r ∧ reachS n l i r ≤ 1000)
  {Inv : Nat → Blk → Blk → Blk → Prop} (h0 : Inv 0 A B D) (hskip : ∀ (i : Nat) a b d, i < n → livesS l i r = false → Inv i a b d → Inv (i + 1) a b d)
  (htake : ∀ (i : Nat) a b d, i < n → livesS l i r = true → LoB 3 a → LoB 3 b → LoB 3 d → Inv i a b d → CallOK Try.prog ft (.sc (.int .i64 i) :: .list 1 (ints (from' n l r S n i)) :: .list 65 (msgs S (from' n l r S n i)) :: ct) [[a], [b], [d]]
   fun res H' => ∃ a' b' d', H' = [[a'], [b'], [d']] ∧ Pure res ∧ LoB 3 a' ∧ LoB 3 b' ∧ LoB 3 d' ∧ Inv (i + 1) a' b' d')
  (hsend : ∀ i : Nat, i < n → CallOK Try.prog fs (.sc (.int .i64 i) :: cs) [[A], [B], [D]] fun res H' => H' = [[A], [B], [D]] ∧ res = mP (S i)) (hA : LoB 3 A) (hB : LoB 3 B) (hD : LoB 3 D) (hcs : Ren (lowS 3) (.clo (.func fs) [] cs) (.clo (.func fs) [] cs)) (hct : Ren (lowS 3) (.clo (.func ft) [] ct) (.clo (.func ft) [] ct)) :
  CallOK Try.prog 42 [schV n l, .sc (.int .i64 r), .clo (.func fs) [] cs, .clo (.func ft) [] ct] [[A], [B], [D]] (fun res H' => res = .sc (.bool (sent l r S n)) ∧ ∃ a b d, H' = [[a], [b], [d]] ∧ LoB 3 a ∧ LoB 3 b ∧ LoB 3 d ∧ Inv n a b d) := by
 refine CallOK.of cF42 ?_ (by simp [F42])
 refine walkO ?_
 refine DK.o rfl (dstep_mk (n := n) rfl (by omega) (by omega)) ?_
 refine walkO ?_
 refine DK.o rfl (dstep_mk (n := n) rfl (by omega) (by omega)) ?_
 refine walkO ?_
 refine DK.nil ⟨by kernel_rfl, ?_⟩
 refine walkO ?_
 refine AWP.loop (fun i : Nat => fr0 n r fs ft cs ct (sent l r S i) i) (fun i => [A] :: [B] :: [D] :: hpX n l S (from' n l r S i)) (fun i => i ≤ n) (fun i => n - i) 0 (Nat.zero_le _)
  (Sub.trans (H' := [[A], [B], [D], [schB n l], [nilR n], [nilR n]]) (fr' := fr0 n r fs ft cs ct false 0)
   (Sub.re [[(0, 0)], [(1, 0)], [(2, 0)], [(3, 0)], [(4, 2)], [(4, 5)]] rfl rfl rfl
    ⟨⟨⟨_, rfl, blk_w hA rfl rfl rfl⟩, trivial⟩, ⟨⟨_, rfl, blk_w hB rfl rfl rfl⟩, trivial⟩, ⟨⟨_, rfl, blk_w hD rfl rfl rfl⟩, trivial⟩, ⟨⟨_, rfl, pure_schB n l⟩, trivial⟩,
     ⟨⟨_, rfl, RenB.rows (row1_rep n _) (fun r hr => by obtain ⟨_, _, rfl⟩ := List.mem_map.1 hr; exact allPure_cons (.sc _) allPure_nil)⟩, trivial⟩,
     ⟨⟨_, rfl, RenB.rows (row1_rep n _) (fun r hr => by obtain ⟨_, _, rfl⟩ := List.mem_map.1 hr; exact allPure_cons (.sc _) allPure_nil)⟩, trivial⟩, trivial⟩
    ⟨.int rfl, clo_w hcs rfl rfl rfl, clo_w hct rfl rfl rfl, .ptr _ _ _ _ _ _ rfl, .sc _, .hsl _ _ _ _ _ _ rfl, .hsl _ _ _ _ _ _ rfl, .int rfl, .int rfl, trivial⟩)
   (Sub.ghost ghost0 (CongAll.mem ⟨.refl _, .refl _, .refl _, .refl _, .refl _, .refl _, .refl _, .refl _, .refl _, trivial⟩))) ?_
 intro i hi
 have hw : IntKind.i64.wrap (r - 1) = r - 1 := wrap_small (by omega) (by omega)
 refine walkO ?_
 refine AWP.cond rfl (fun h => ?_) (fun h => ?_)
 ·have hlt : i < n := by simpa using h
  have hX : CallOK Try.prog fs (.sc (.int .i64 i) :: cs) ([A] :: [B] :: [D] :: hpX n l S (from' n l r S i)) fun res H' => H' = [A] :: [B] :: [D] :: hpX n l S (from' n l r S i) ∧ res = mP (S i) := by
   refine (CallOK.heads (xs := [A, B, D]) (k := 3) rfl (R := fun res ys => ys = [A, B, D] ∧ res = mP (S i)) ((hsend i hlt).mono ?_) ?_ ⟨.sc _, hcs.cloArgs⟩).mono ?_
   ·rintro res H' ⟨rfl, rfl⟩
    refine ⟨[A, B, D], rfl, rfl, ?_, ?_, rfl, rfl⟩
    ·cases e : S i with
     | none => exact .sc _
     | some m => exact .pure (.cptr _ (hm i m e).2.1)
    ·intro y hy
     simp at hy
     rcases hy with rfl | rfl | rfl
     ·exact hA
     ·exact hB
     ·exact hD
   ·intro y hy
    simp at hy
    rcases hy with rfl | rfl | rfl
    ·exact hA
    ·exact hB
    ·exact hD
   ·rintro res H' ⟨ys, _, rfl, _, rfl, rfl⟩
    exact ⟨rfl, rfl⟩
  have next : ∀ {N : Nat} {fr : Fr}, hpX n l S (from' n l r S i) = hpX n l S (from' n l r S (i + 1)) → sent l r S (i + 1) = sent l r S i →
    LeAll fr (fr0 n r fs ft cs ct (sent l r S i) (i + 1)) → Sub 3 N fr ([A] :: [B] :: [D] :: hpX n l S (from' n l r S i)) (fr0 n r fs ft cs ct (sent l r S (i + 1)) (i + 1)) ([A] :: [B] :: [D] :: hpX n l S (from' n l r S (i + 1))) := by
   intro N fr e1 e2 hle
   rw [← e1, e2]
   exact Sub.keep hle
  have hi1 : IntKind.i64.wrap ((i : Int) + 1) = ((i + 1 : Nat) : Int) := by rw [wrap_small (by omega) (by omega)]; omega
  refine walkO ?_
  refine Reg.cv (by simp [hpX]) rfl rfl (hX.mono ?_)
  rintro res H' ⟨rfl, rfl⟩
  cases hS : S i with
  | none =>
   have e1 : hpX n l S (from' n l r S i) = hpX n l S (from' n l r S (i + 1)) := hp_congr fun k _ => by rw [from_succ, if_neg (by simp [hears, hS]), List.append_nil]
   have e2 : sent l r S (i + 1) = sent l r S i := by rw [sent_succ, hS]; simp
   refine walkO ?_
   refine ⟨i + 1, by omega, by omega, next e1 e2 ⟨.refl _, .refl _, .refl _, .refl _, .refl _, .refl _, .refl _, .refl _, Le.int hi1, trivial⟩⟩
  | some m =>
   refine walkO ?_
   refine Reg.c (by simp [hpX]) rfl (CallOK.ofPure (PureRun.of (allPure_cons (pure_sch n l) (allPure_cons (.sc _) (allPure_cons (.sc _) allPure_nil))) (.sc _) (lives_ok n l i (IntKind.i64.wrap (r - 1)))) _ ?_)
   refine walkO ?_
   refine AWP.cond rfl (fun hlv => ?_) (fun hlv => ?_)
   ·have hlv' : livesS l i (r - 1) = false := by rw [hw] at hlv; simpa using hlv
    have e1 : hpX n l S (from' n l r S i) = hpX n l S (from' n l r S (i + 1)) := hp_congr fun k _ => by rw [from_succ, if_neg (by simp [hears, hlv']), List.append_nil]
    have e2 : sent l r S (i + 1) = sent l r S i := by rw [sent_succ, hlv']; simp
    refine walkO ?_
    refine ⟨i + 1, by omega, by omega, next e1 e2 ⟨.refl _, .refl _, .refl _, .refl _, .refl _, .refl _, .refl _, .refl _, Le.int hi1, trivial⟩⟩
   have hlv' : livesS l i (r - 1) = true := by rw [hw] at hlv; simpa using hlv
   have hsent : sent l r S (i + 1) = true := by rw [sent_succ, hlv', hS]; simp
   refine walkO ?_
   refine Reg.c (by simp [hpX]) rfl (CallOK.ofPure (PureRun.of (allPure_cons (pure_sch n l) (allPure_cons (.sc _) (allPure_cons (.sc _) allPure_nil))) (.sc _) (reaches_ok n l i r (by omega))) _ ?_)
   refine walkO ?_
   refine AWP.loop (fun k : Nat => fr1 n r fs ft cs ct i m (reachS n l i r - place i k) k) (fun k => [A] :: [B] :: [D] :: hpX n l S (upTo n l r S i k)) (fun k => k ≤ n) (fun k => n - k) 0 (Nat.zero_le _) ?_ ?_
   ·rw [upTo_zero]
    exact Sub.keep ⟨.refl _, .refl _, Le.int (by simp [place]), .refl _, .refl _, .refl _, .refl _, .refl _, .refl _, .refl _, .refl _, .refl _, .refl _, trivial⟩
   intro k hk
   have hk1 : IntKind.i64.wrap ((k : Int) + 1) = ((k + 1 : Nat) : Int) := by rw [wrap_small (by omega) (by omega)]; omega
   have hre' := hre i hlt
   have hpl : place i k ≤ k := by unfold place; split <;> omega
   have done : ∀ {N : Nat} {fr : Fr}, (∀ q, q < n → hears n l r S i q = true → q < k) → LeAll fr (fr0 n r fs ft cs ct true (i + 1)) →
     Sub 3 N fr ([A] :: [B] :: [D] :: hpX n l S (upTo n l r S i k)) (fr0 n r fs ft cs ct (sent l r S (i + 1)) (i + 1)) ([A] :: [B] :: [D] :: hpX n l S (from' n l r S (i + 1))) := by
    intro N fr hq hle
    rw [hsent, hp_congr (F := upTo n l r S i k) (F' := from' n l r S (i + 1)) fun q hqn => upTo_last (hq q hqn)]
    exact Sub.keep hle
   refine walkO ?_
   refine Reg.gs rfl (fun hkn => ?_) (fun hkn => ?_)
   ·refine walkO ?_
    refine AWP.cond rfl (fun hleft => ?_) (fun hleft => ?_)
    ·have hkn' : k < n := by simpa using hkn
     have hleft' : (place i k : Int) < reachS n l i r := by simp at hleft; omega
     refine walkO ?_
     refine AWP.cond rfl (fun hne => ?_) (fun hne => ?_)
     ·have hki : k ≠ i := by
       rintro rfl
       simp at hne
      have hh : hears n l r S i k = true := by simp [hears, hS, hlv', hki, hleft']
      have hsub : IntKind.i64.wrap (reachS n l i r - place i k - 1) = reachS n l i r - place i (k + 1) := by
       rw [wrap_small (by omega) (by omega)]
       have : place i (k + 1) = place i k + 1 := by unfold place; split <;> split <;> omega
       omega
      obtain ⟨m1, m2, m3⟩ := hm i m hS
      have hlen := upTo_len n l r S i k k
      refine walkO ?_
      refine DK.o rfl (dstep_idxH (q := k) rfl rfl rfl hkn' (by rw [row1_len]; omega)) ?_
      refine DK.o rfl (dstep_ld1 rfl rfl (by rw [Nat.zero_add]; exact row1_get hkn') rfl) ?_
      refine walkO ?_
      refine DK.o rfl (dstep_app (rows1 := ints (upTo n l r S i k k)) rfl rfl (fam_get hkn') (by simp [ints]) (by simp; omega) rfl) ?_
      refine walkO ?_
      refine DK.o rfl (dstep_idxH (q := k) rfl rfl rfl hkn' (by rw [row1_len]; omega)) ?_
      refine DK.o rfl (dstep_ld1 rfl rfl (by rw [Nat.zero_add]; exact row1_get hkn') rfl) ?_
      refine walkO ?_
      refine DK.o rfl (dstep_ldNC rfl (by omega) (List.take_of_length_le (by omega))) ?_
      refine DK.o rfl (dstep_build1 rfl m1 m3) ?_
      refine DK.o rfl (dstep_app (rows1 := msgs S (upTo n l r S i k k)) rfl rfl (fam_get hkn') (by simp [msgs]) (by simp; omega) rfl) ?_
      refine DK.o rfl (dstep_idxH (q := k) rfl rfl rfl hkn' (by rw [row1_len]; omega)) ?_
      refine DK.on rfl (dstep_stN rfl rfl rfl (by rw [Nat.zero_add]; exact row1_get hkn') rfl (Nat.le_refl _) rfl) ?_
      refine DK.o rfl (dstep_idxH (q := k) rfl rfl rfl hkn' (by rw [row1_len]; omega)) ?_
      refine DK.on rfl (dstep_stN rfl rfl rfl (by rw [Nat.zero_add]; exact row1_get hkn') rfl (Nat.le_refl _) rfl) ?_
      refine DK.nil ⟨by kernel_rfl, ?_⟩
      refine walkO ?_
      refine ⟨k + 1, by omega, by omega, back (F := upTo n l r S i k) (i := i) (m := _) hA hB hD hkn' (upTo_succ hh) hS hm rfl rfl ⟨.int rfl, .pure (.cptr _ m2), .int hsub, .int hk1, .int rfl, ?_, ?_, .ptr _ _ _ _ _ _ ?_, .sc _, .hsl _ _ _ _ _ _ ?_, .hsl _ _ _ _ _ _ ?_, .int rfl, .int rfl, trivial⟩⟩
      ·exact clo_w hcs (by simp [rhoX]) (by simp [rhoX]) (by simp [rhoX])
      ·exact clo_w hct (by simp [rhoX]) (by simp [rhoX]) (by simp [rhoX])
      ·simp [rhoX]
      ·simp [rhoX]
      ·simp [rhoX]
     ·have hki : k = i := by
       have : (k : Int) = i := by simpa using hne
       omega
      have e1 : upTo n l r S i (k + 1) = upTo n l r S i k := upTo_same (by simp [hears, hki])
      have e2 : place i (k + 1) = place i k := by unfold place; split <;> split <;> omega
      refine walkO ?_
      refine ⟨k + 1, by omega, by omega, ?_⟩
      rw [e1, e2]
      exact Sub.keep ⟨.refl _, .refl _, .refl _, Le.int hk1, .refl _, .refl _, .refl _, .refl _, .refl _, .refl _, .refl _, .refl _, .refl _, trivial⟩
    ·refine walkO ?_
     refine ⟨i + 1, by omega, by omega, done (fun q hqn hh => ?_) ⟨.refl _, .refl _, .refl _, .refl _, .refl _, .refl _, .refl _, .refl _, Le.int hi1, trivial⟩⟩
     have h1 : q ≠ i ∧ (place i q : Int) < reachS n l i r := by
      simp [hears] at hh
      exact hh.2.2
     have h2 : reachS n l i r ≤ place i k := by simp at hleft; omega
     by_cases hlt' : q < k
     ·exact hlt'
     ·exfalso
      have : place i k ≤ place i q := by unfold place; split <;> split <;> omega
      omega
   ·refine walkO ?_
    refine ⟨i + 1, by omega, by omega, done (fun q hqn hh => ?_) ⟨.refl _, .refl _, .refl _, .refl _, .refl _, .refl _, .refl _, .refl _, Le.int hi1, trivial⟩⟩
    simp at hkn
    omega
 ·have hin : i = n := by
   have : ¬ i < n := by simpa using h
   omega
  subst hin
  refine walkO ?_
  refine AWP.loop (σ := Nat × Blk × Blk × Blk) (fun s => fr2 i r S (from' i l r S i) ft ct (sent l r S i) s.1) (fun s => [[s.2.1], [s.2.2.1], [s.2.2.2], [schB i l]]) (fun s => s.1 ≤ i ∧ LoB 3 s.2.1 ∧ LoB 3 s.2.2.1 ∧ LoB 3 s.2.2.2 ∧ Inv s.1 s.2.1 s.2.2.1 s.2.2.2) (fun s => i - s.1) (0, A, B, D)
   ⟨Nat.zero_le _, hA, hB, hD, h0⟩ (toSecond hA hB hD hm hct ⟨.refl _, .refl _, .refl _, .refl _, .refl _, .refl _, .refl _, .refl _, trivial⟩) ?_
  rintro ⟨j, a, b, d⟩ ⟨hj, ha, hb, hd, hinv⟩
  simp only at hj ha hb hd hinv
  have hj1 : IntKind.i64.wrap ((j : Int) + 1) = ((j + 1 : Nat) : Int) := by rw [wrap_small (by omega) (by omega)]; omega
  have keep : ∀ {N : Nat} {fr : Fr} {X : Heap} {a' b' d' : Blk}, LoB 3 a' → LoB 3 b' → LoB 3 d' → LeAll fr (fr2 i r S (from' i l r S i) ft ct (sent l r S i) (j + 1)) →
    Sub 3 N fr ([a'] :: [b'] :: [d'] :: [schB i l] :: X) (fr2 i r S (from' i l r S i) ft ct (sent l r S i) (j + 1)) [[a'], [b'], [d'], [schB i l]] := by
   intro N fr X a' b' d' ha' hb' hd' hle
   refine Sub.trans (Sub.keep hle) ?_
   exact Sub.re [[(0, 0)], [(1, 0)], [(2, 0)], [(3, 0)]] rfl rfl rfl ⟨⟨⟨_, rfl, blk_w ha' rfl rfl rfl⟩, trivial⟩, ⟨⟨_, rfl, blk_w hb' rfl rfl rfl⟩, trivial⟩, ⟨⟨_, rfl, blk_w hd' rfl rfl rfl⟩, trivial⟩, ⟨⟨_, rfl, pure_schB i l⟩, trivial⟩, trivial⟩
    ⟨.int rfl, clo_w hct rfl rfl rfl, .ptr _ _ _ _ _ _ rfl, .sc _, .pure (pure_heard i _), .pure (pure_got i hm _), .int rfl, .int rfl, trivial⟩
  refine walkO ?_
  refine AWP.cond rfl (fun h => ?_) (fun h => ?_)
  ·have hlt : j < i := by simpa using h
   refine walkO ?_
   refine Reg.c (by simp) rfl (CallOK.ofPure (PureRun.of (allPure_cons (pure_sch i l) (allPure_cons (.sc _) (allPure_cons (.sc _) allPure_nil))) (.sc _) (lives_ok i l j r)) _ ?_)
   refine walkO ?_
   refine AWP.cond rfl (fun hlv => ?_) (fun hlv => ?_)
   ·refine AWP.dkl rfl mixed ?_
    refine walkO ?_
    refine DK.o rfl (dstep_idxSl rfl rfl (by rw [rowIx_nat]; exact row1_get hlt)) ?_
    refine walkO ?_
    refine DK.o rfl (dstep_idxSl rfl rfl (by rw [rowIx_nat]; exact row1_get hlt)) ?_
    refine walkO ?_
    refine DK.nil ⟨by kernel_rfl, ?_⟩
    refine Reg.cv (by simp) rfl rfl ((CallOK.heads (xs := [a, b, d]) (k := 3) rfl (R := fun res ys => ∃ a' b' d', ys = [a', b', d'] ∧ Inv (j + 1) a' b' d') ((htake j a b d hlt hlv ha hb hd hinv).mono ?_) ?_ ⟨.sc _, .pure (.list _ _ (pure_rows _)), .pure (.list _ _ (pure_msgs hm _)), hct.cloArgs⟩).mono ?_)
    ·rintro res H' ⟨a', b', d', rfl, hres, h1, h2, h3, h4⟩
     refine ⟨[a', b', d'], rfl, rfl, .pure hres, ?_, a', b', d', rfl, h4⟩
     intro y hy
     simp at hy
     rcases hy with rfl | rfl | rfl
     ·exact h1
     ·exact h2
     ·exact h3
    ·intro y hy
     simp at hy
     rcases hy with rfl | rfl | rfl
     ·exact ha
     ·exact hb
     ·exact hd
    ·rintro res H' ⟨ys, _, rfl, hlo, a', b', d', rfl, hinv'⟩
     have h1 := hlo a' (by simp)
     have h2 := hlo b' (by simp)
     have h3 := hlo d' (by simp)
     refine walkO ?_
     exact ⟨(j + 1, a', b', d'), ⟨by simp only; omega, h1, h2, h3, hinv'⟩, by simp only; omega, keep h1 h2 h3 ⟨.refl _, .refl _, .refl _, .refl _, .refl _, .refl _, .refl _, Le.int hj1, trivial⟩⟩
   ·refine walkO ?_
    exact ⟨(j + 1, a, b, d), ⟨by simp only; omega, ha, hb, hd, hskip j a b d hlt hlv hinv⟩, by simp only; omega, keep ha hb hd ⟨.refl _, .refl _, .refl _, .refl _, .refl _, .refl _, .refl _, Le.int hj1, trivial⟩⟩
  ·have hji : j = i := by
    have : ¬ j < i := by simpa using h
    omega
   subst hji
   refine walkO ?_
   exact ⟨.inr rfl, _, .sc (.bool (sent l r S j)), [[a], [b], [d]], rfl, SubV.ren (rho [[(0, 0)], [(1, 0)], [(2, 0)]]) (Numb.list rfl rfl rfl ⟨⟨⟨_, rfl, blk_w ha rfl rfl rfl⟩, trivial⟩, ⟨⟨_, rfl, blk_w hb rfl rfl rfl⟩, trivial⟩, ⟨⟨_, rfl, blk_w hd rfl rfl rfl⟩, trivial⟩, trivial⟩) (.sc _),
    rfl, a, b, d, rfl, ha, hb, hd, hinv⟩
end
end X42
end Go.Proofs.Ytbpmbofinoinmaa
