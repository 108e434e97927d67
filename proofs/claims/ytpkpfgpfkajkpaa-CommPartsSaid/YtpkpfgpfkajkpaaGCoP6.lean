import Derived.Test.YtpkpfgpfkajkpaaGCoV2
import Derived.Test.YtpkpfgpfkajkpaaGCoL4
import Derived.Test.YtpkpfgpfkajkpaaGCoLaw
import Derived.Test.YtpkpfgpfkajkpaaGCoP5
import Derived.Test.YtpkpfgpfkajkpaaGCoL6
import Derived.Test.YtpkpfgpfkajkpaaGCoL10
namespace Go.Proofs.Ytpkpfgpfkajkpaa
open Go.Av Go.Proofs
set_option maxRecDepth 20000
def facA (n dims : Int) : Int × List Int := if n < 1 ∨ 64 < n ∨ dims < 1 ∨ 4 < dims then (3, []) else (0, (facE dims.toNat n.toNat n.toNat).getD [])
theorem facA_out {n dims : Int} (h : n < 1 ∨ 64 < n ∨ dims < 1 ∨ 4 < dims) : facA n dims = (3, []) := if_pos h
theorem facA_in {n k : Nat} (h1 : 1 ≤ n) (h2 : n ≤ 64) (h3 : 1 ≤ k) (h4 : k ≤ 4) : facA n k = (0, (facE k n n).getD []) := by
  unfold facA
  rw [if_neg (by omega)]
  rfl
set_option maxHeartbeats 4000000 in
theorem factor_ok (n dims : Int) : CallOK Try.prog 17 [.sc (.int .i64 n), .sc (.int .i64 dims)] [] fun res H' => res = .tup [.hsl 0 0 0 (facA n dims).2.length, .sc (.int .i64 (facA n dims).1)] ∧ H' = [[.cells 1 (intsR (facA n dims).2)]] := by
  refine CallOK.of cF17 ?_ (Nat.le_of_ble_eq_true rfl)
  by_cases h1 : n < 1
  · rw [facA_out (.inl h1)]
    refine walkX ?_
    rw [decide_eq_true h1]
    refine walkX ?_
    (refine ⟨.inr rfl, _, .tup [.hsl 0 0 0 0, .sc (.int .i64 (3))], [[.cells 1 []]], rfl, SubV.to [1] [[((0),0)]] ?_ ?_ rfl rfl rfl, rfl, rfl⟩; all_goals (all_goals (repeat' (first | exact ToAll.nil | exact famsTo.nil | exact famTo.nil | exact ToL.nil | exact ToR.nil | refine ToAll.cons ?_ ?_ | refine famsTo.cons ?_ ?_ | refine wt10 ?_ ?_ | exact To.undef _ | exact To.sc _ | exact To.hslL rfl rfl | exact To.ptrO rfl rfl rfl | exact To.mrefO rfl | exact To.nil rfl rfl rfl | exact wt1 | exact To.nilL | refine To.int ?_ | refine To.bool ?_ | refine To.hslL rfl ?_ | refine wt2 rfl ?_ ?_ ?_ | refine To.tupL ?_ | refine To.aggL ?_ | refine To.cptrL ?_ | refine wt3 ?_ | refine wt4 ?_ | refine To.cloL ?_ ?_ | exact wt5 | refine wt6 ?_ | refine ToB.one ?_ | exact wt7 | ((with_reducible apply ToL.consE); case e9 => rfl) | refine wt8 ?_ | refine ToL.cons ?_ ?_ | exact wt11 | refine wt9 ?_ ?_ | refine wt12 ?_ | (with_reducible rfl) | assumption)); all_goals (first | rfl | assumption | (simp; done) | (simp; omega) | (rw [wrap_small (by omega) (by omega)]; done) | (rw [wrap_small (by omega) (by omega)]; omega) | (refine congrArg Nat.cast ?_; assumption) | skip)))
  by_cases h2 : 64 < n
  · rw [facA_out (.inr (.inl h2))]
    refine walkX ?_
    rw [decide_eq_false h1]
    refine walkX ?_
    rw [decide_eq_true h2]
    refine walkX ?_
    (refine ⟨.inr rfl, _, .tup [.hsl 0 0 0 0, .sc (.int .i64 (3))], [[.cells 1 []]], rfl, SubV.to [1] [[((0),0)]] ?_ ?_ rfl rfl rfl, rfl, rfl⟩; all_goals (all_goals (repeat' (first | exact ToAll.nil | exact famsTo.nil | exact famTo.nil | exact ToL.nil | exact ToR.nil | refine ToAll.cons ?_ ?_ | refine famsTo.cons ?_ ?_ | refine wt10 ?_ ?_ | exact To.undef _ | exact To.sc _ | exact To.hslL rfl rfl | exact To.ptrO rfl rfl rfl | exact To.mrefO rfl | exact To.nil rfl rfl rfl | exact wt1 | exact To.nilL | refine To.int ?_ | refine To.bool ?_ | refine To.hslL rfl ?_ | refine wt2 rfl ?_ ?_ ?_ | refine To.tupL ?_ | refine To.aggL ?_ | refine To.cptrL ?_ | refine wt3 ?_ | refine wt4 ?_ | refine To.cloL ?_ ?_ | exact wt5 | refine wt6 ?_ | refine ToB.one ?_ | exact wt7 | ((with_reducible apply ToL.consE); case e9 => rfl) | refine wt8 ?_ | refine ToL.cons ?_ ?_ | exact wt11 | refine wt9 ?_ ?_ | refine wt12 ?_ | (with_reducible rfl) | assumption)); all_goals (first | rfl | assumption | (simp; done) | (simp; omega) | (rw [wrap_small (by omega) (by omega)]; done) | (rw [wrap_small (by omega) (by omega)]; omega) | (refine congrArg Nat.cast ?_; assumption) | skip)))
  by_cases h3 : dims < 1
  · rw [facA_out (.inr (.inr (.inl h3)))]
    refine walkX ?_
    rw [decide_eq_false h1]
    refine walkX ?_
    rw [decide_eq_false h2]
    refine walkX ?_
    rw [decide_eq_true h3]
    refine walkX ?_
    (refine ⟨.inr rfl, _, .tup [.hsl 0 0 0 0, .sc (.int .i64 (3))], [[.cells 1 []]], rfl, SubV.to [1] [[((0),0)]] ?_ ?_ rfl rfl rfl, rfl, rfl⟩; all_goals (all_goals (repeat' (first | exact ToAll.nil | exact famsTo.nil | exact famTo.nil | exact ToL.nil | exact ToR.nil | refine ToAll.cons ?_ ?_ | refine famsTo.cons ?_ ?_ | refine wt10 ?_ ?_ | exact To.undef _ | exact To.sc _ | exact To.hslL rfl rfl | exact To.ptrO rfl rfl rfl | exact To.mrefO rfl | exact To.nil rfl rfl rfl | exact wt1 | exact To.nilL | refine To.int ?_ | refine To.bool ?_ | refine To.hslL rfl ?_ | refine wt2 rfl ?_ ?_ ?_ | refine To.tupL ?_ | refine To.aggL ?_ | refine To.cptrL ?_ | refine wt3 ?_ | refine wt4 ?_ | refine To.cloL ?_ ?_ | exact wt5 | refine wt6 ?_ | refine ToB.one ?_ | exact wt7 | ((with_reducible apply ToL.consE); case e9 => rfl) | refine wt8 ?_ | refine ToL.cons ?_ ?_ | exact wt11 | refine wt9 ?_ ?_ | refine wt12 ?_ | (with_reducible rfl) | assumption)); all_goals (first | rfl | assumption | (simp; done) | (simp; omega) | (rw [wrap_small (by omega) (by omega)]; done) | (rw [wrap_small (by omega) (by omega)]; omega) | (refine congrArg Nat.cast ?_; assumption) | skip)))
  by_cases h4 : 4 < dims
  · rw [facA_out (.inr (.inr (.inr h4)))]
    refine walkX ?_
    rw [decide_eq_false h1]
    refine walkX ?_
    rw [decide_eq_false h2]
    refine walkX ?_
    rw [decide_eq_false h3]
    refine walkX ?_
    rw [decide_eq_true h4]
    refine walkX ?_
    (refine ⟨.inr rfl, _, .tup [.hsl 0 0 0 0, .sc (.int .i64 (3))], [[.cells 1 []]], rfl, SubV.to [1] [[((0),0)]] ?_ ?_ rfl rfl rfl, rfl, rfl⟩; all_goals (all_goals (repeat' (first | exact ToAll.nil | exact famsTo.nil | exact famTo.nil | exact ToL.nil | exact ToR.nil | refine ToAll.cons ?_ ?_ | refine famsTo.cons ?_ ?_ | refine wt10 ?_ ?_ | exact To.undef _ | exact To.sc _ | exact To.hslL rfl rfl | exact To.ptrO rfl rfl rfl | exact To.mrefO rfl | exact To.nil rfl rfl rfl | exact wt1 | exact To.nilL | refine To.int ?_ | refine To.bool ?_ | refine To.hslL rfl ?_ | refine wt2 rfl ?_ ?_ ?_ | refine To.tupL ?_ | refine To.aggL ?_ | refine To.cptrL ?_ | refine wt3 ?_ | refine wt4 ?_ | refine To.cloL ?_ ?_ | exact wt5 | refine wt6 ?_ | refine ToB.one ?_ | exact wt7 | ((with_reducible apply ToL.consE); case e9 => rfl) | refine wt8 ?_ | refine ToL.cons ?_ ?_ | exact wt11 | refine wt9 ?_ ?_ | refine wt12 ?_ | (with_reducible rfl) | assumption)); all_goals (first | rfl | assumption | (simp; done) | (simp; omega) | (rw [wrap_small (by omega) (by omega)]; done) | (rw [wrap_small (by omega) (by omega)]; omega) | (refine congrArg Nat.cast ?_; assumption) | skip)))
  refine walkX ?_
  rw [decide_eq_false h1]
  refine walkX ?_
  rw [decide_eq_false h2]
  refine walkX ?_
  rw [decide_eq_false h3]
  refine walkX ?_
  rw [decide_eq_false h4]
  refine walkX ?_
  obtain ⟨m, rfl⟩ : ∃ m : Nat, n = m := ⟨n.toNat, by omega⟩
  obtain ⟨k, rfl⟩ : ∃ k : Nat, dims = ((k + 1 : Nat) : Int) := ⟨(dims - 1).toNat, by omega⟩
  rw [facA_in (by omega) (by omega) (by omega) (by omega)]
  refine Reg.cv (Nat.zero_le _) rfl rfl ((fac_ok k (by omega) m m (by omega) (by omega) (by omega)).mono ?_)
  rintro res H' ⟨rfl, rfl⟩
  cases hf : facE (k + 1) m m with
  | none =>
    unfold facV facH selfB
    dsimp only
    refine walkX ?_
    (refine ⟨.inr rfl, _, .tup [.hsl 0 0 0 0, .sc (.int .i64 (0))], [[.cells 1 []]], rfl, SubV.to [1] [[((1),0)]] ?_ ?_ rfl rfl rfl, rfl, rfl⟩; all_goals (all_goals (repeat' (first | exact ToAll.nil | exact famsTo.nil | exact famTo.nil | exact ToL.nil | exact ToR.nil | refine ToAll.cons ?_ ?_ | refine famsTo.cons ?_ ?_ | refine wt10 ?_ ?_ | exact To.undef _ | exact To.sc _ | exact To.hslL rfl rfl | exact To.ptrO rfl rfl rfl | exact To.mrefO rfl | exact To.nil rfl rfl rfl | exact wt1 | exact To.nilL | refine To.int ?_ | refine To.bool ?_ | refine To.hslL rfl ?_ | refine wt2 rfl ?_ ?_ ?_ | refine To.tupL ?_ | refine To.aggL ?_ | refine To.cptrL ?_ | refine wt3 ?_ | refine wt4 ?_ | refine To.cloL ?_ ?_ | exact wt5 | refine wt6 ?_ | refine ToB.one ?_ | exact wt7 | ((with_reducible apply ToL.consE); case e9 => rfl) | refine wt8 ?_ | refine ToL.cons ?_ ?_ | exact wt11 | refine wt9 ?_ ?_ | refine wt12 ?_ | (with_reducible rfl) | assumption)); all_goals (first | rfl | assumption | (simp; done) | (simp; omega) | (rw [wrap_small (by omega) (by omega)]; done) | (rw [wrap_small (by omega) (by omega)]; omega) | (refine congrArg Nat.cast ?_; assumption) | skip)))
  | some l =>
    have e1 := intsR_len l
    unfold facV facH selfB
    dsimp only
    refine walkX ?_
    exact endW [[(1,0)]] (⟨rfl, rfl⟩)
end Go.Proofs.Ytpkpfgpfkajkpaa
namespace Go.Proofs.Ytpkpfgpfkajkpaa
open Go.Av Go.Proofs
set_option maxRecDepth 20000
theorem fac_call (n d : Nat) (hn : n < 64) (hd : d < 4) : ∃ t : List Nat, t.length = d + 1 ∧ prodN t = n + 1 ∧ (∀ a ∈ t, 1 ≤ a) ∧ descN (n + 1) t ∧
    CallOK Try.prog 17 [.sc (.int .i64 ((1 + n : Nat) : Int)), .sc (.int .i64 ((1 + d : Nat) : Int))] [] fun res H' => res = .tup [.hsl 0 0 0 t.length, .sc (.int .i64 0)] ∧ H' = [[.cells 1 (natsR t)]] := by
  obtain ⟨t, h1, h2, h3, h4, h5⟩ := fac_grid d (n + 1) (by omega)
  have h := factor_ok ((1 + n : Nat) : Int) ((1 + d : Nat) : Int)
  rw [facA_in (by omega) (by omega) (by omega) (by omega), Nat.add_comm 1 n, Nat.add_comm 1 d, h1] at h
  dsimp only at h
  rw [natI_len, ← natsR_I] at h
  exact ⟨t, h2, h3, h4, h5, by rw [Nat.add_comm 1 n, Nat.add_comm 1 d]; exact h⟩
theorem nb_bshr {k' : IntKind} {a b : Nat} (ha : a < 256) : NBin .shr .u8 k' a b (.int .u8 ((a / 2 ^ b : Nat) : Int)) := .mk fun t => by
  show Sem.pure? (Op.shift .shr .u8 (a : Int) k' (b : Int)) = _
  unfold Op.shift
  rw [if_neg (by omega)]
  show some (Value.int .u8 ((a : Int).fdiv (2 ^ min ((b : Int).toNat) 8))) = _
  rw [Int.toNat_natCast, show (2 : Int) ^ min b 8 = ((2 ^ min b 8 : Nat) : Int) by rw [Int.natCast_pow]; rfl, Int.fdiv_eq_ediv_of_nonneg _ (Int.natCast_nonneg _), ← Int.natCast_ediv]
  congr 3
  rcases Nat.le_total b 8 with h | h
  · rw [Nat.min_eq_left h]
  · rw [Nat.min_eq_right h, Nat.div_eq_of_lt ha, Nat.div_eq_of_lt]
    exact Nat.lt_of_lt_of_le (show a < 2 ^ 8 by omega) (Nat.pow_le_pow_right (n := 2) (by decide) h)
theorem nb_bbit {a : Nat} (ha : a < 256) : NBin .and .u8 .u8 a 1 (.int .u8 ((a % 2 : Nat) : Int)) := .mk fun t => by
  show some (Value.int .u8 (IntKind.u8.wrap ((BitVec.ofInt 8 (a : Int) &&& BitVec.ofInt 8 ((1 : Nat) : Int)).toNat : Int))) = _
  have e1 : (BitVec.ofInt 8 (a : Int)).toNat = a := by rw [BitVec.toNat_ofInt]; omega
  have e2 : (BitVec.ofInt 8 ((1 : Nat) : Int)).toNat = 1 := by decide
  rw [BitVec.toNat_and, e1, e2, Nat.and_one_is_mod, wrapB, Nat.mod_eq_of_lt (by omega)]
def ringB (v k : Nat) : List Bool := (List.range k).map fun i => decide (v / 2 ^ i % 2 = 1)
theorem ringB_len (v k : Nat) : (ringB v k).length = k := by simp [ringB]
theorem ringB_succ (v k : Nat) : ringB v (k + 1) = ringB v k ++ [decide (v / 2 ^ k % 2 = 1)] := by simp [ringB, List.range_succ]
theorem prod_take {t : List Nat} {k : Nat} (h : k < t.length) : prodN (t.take (k + 1)) = prodN (t.take k) * t[k] := by
  rw [List.take_succ_eq_append_getElem h]
  have key : ∀ (l : List Nat) (a : Nat), prodN (l ++ [a]) = prodN l * a := by
    intro l
    induction l with
    | nil => intro a; show a * 1 = 1 * a; omega
    | cons b l ih => intro a; show b * prodN (l ++ [a]) = b * prodN l * a; rw [ih, Nat.mul_assoc]
  exact key _ _
theorem prod_take_le {t : List Nat} (ht : ∀ a ∈ t, 1 ≤ a) : ∀ k, prodN (t.take k) ≤ prodN t := by
  have key : ∀ (l m : List Nat), (∀ a ∈ m, 1 ≤ a) → prodN l ≤ prodN (l ++ m) := by
    intro l
    induction l with
    | nil => intro m hm; exact prod_pos hm
    | cons b l ih => intro m hm; exact Nat.mul_le_mul_left _ (ih m hm)
  intro k
  have := key (t.take k) (t.drop k) fun a ha => ht a (List.mem_of_mem_drop ha)
  rwa [List.take_append_drop] at this
end Go.Proofs.Ytpkpfgpfkajkpaa
namespace Go.Proofs.Ytpkpfgpfkajkpaa
open Go.Av Go.Proofs
set_option maxRecDepth 20000
def freeB (b : Blk) (p q : Int) : Prop := b = .map [] ∨ ∃ es, b = .umap 2 es ∧ ufind [p, q] es = none
def insB (b : Blk) (p q : Int) (v : AV) : Blk := match b with
  | .map _ => .umap 2 (uins [p, q] v [])
  | .umap _ es => .umap 2 (uins [p, q] v es)
  | b => b
theorem dstep_lookN {g i : Nat} {fr : Fr} {H : Heap} {x ix : Operand} {g' i' : Nat} {p q : Int} {b : Blk} (hx : ev fr x = .mref g' i') (hk : ev fr ix = .agg [.sc (.int .i64 p), .sc (.int .i64 q)]) (hh : hget H g' i' = some b) (hb : freeB b p q) :
    dstep g i (.xop (.lookF [.i, .i] (.sc (.bool false)) false) [x, ix]) fr H = some (.sc (.bool false), H) := by
  have e1 : flatOf (.agg [.sc (.int .i64 p), .sc (.int .i64 q)]) = some [.int .i64 p, .int .i64 q] := rfl
  have e2 : ∃ r, cellsEq [.i, .i] [.int .i64 p, .int .i64 q] [.int .i64 p, .int .i64 q] = some r := ⟨_, rfl⟩
  obtain ⟨r, e2⟩ := e2
  have e3 : ukey [.int .i64 p, .int .i64 q] = some [p, q] := rfl
  rcases hb with rfl | ⟨es, rfl, hf⟩
  · simp only [dstep, avals, List.map_cons, List.map_nil, xstep, hk, e1, e2, hx, mlookF, hh, mfindF]
  · have e4 : Nat.beq [p, q].length 2 = true := rfl
    simp only [dstep, avals, List.map_cons, List.map_nil, xstep, hk, e1, e2, hx, mlookF, hh, e3, e4, hf]
theorem dstep_insN {g i : Nat} {fr : Fr} {H : Heap} {m ix x : Operand} {g' i' : Nat} {p q : Int} {b : Blk} {v : AV} (hx : ev fr m = .mref g' i') (hk : ev fr ix = .agg [.sc (.int .i64 p), .sc (.int .i64 q)]) (hv : ev fr x = v) (hh : hget H g' i' = some b) (hb : freeB b p q) :
    dstep g i (.insF [.i, .i] m ix x) fr H = some (.undef, hset H g' i' (insB b p q v)) := by
  have e1 : flatOf (.agg [.sc (.int .i64 p), .sc (.int .i64 q)]) = some [.int .i64 p, .int .i64 q] := rfl
  have e2 : ∃ r, cellsEq [.i, .i] [.int .i64 p, .int .i64 q] [.int .i64 p, .int .i64 q] = some r := ⟨_, rfl⟩
  obtain ⟨r, e2⟩ := e2
  have e3 : ukey [.int .i64 p, .int .i64 q] = some [p, q] := rfl
  rcases hb with rfl | ⟨es, rfl, hf⟩
  · simp only [dstep, hk, e1, e2, hx, hh, e3, hv]
    rfl
  · have e4 : Nat.beq [p, q].length 2 = true := rfl
    simp only [dstep, hk, e1, e2, hx, hh, e3, e4, hf, hv]
    rfl
def mapB (P R : Nat → Nat) : Nat → Blk
  | 0 => .map []
  | r + 1 => insB (mapB P R r) (P r : Nat) (R r : Nat) (.sc (.bool true))
theorem mapB_free {P R : Nat → Nat} {p q : Nat} : ∀ r, (∀ j, j < r → ¬ (P j = p ∧ R j = q)) → freeB (mapB P R r) (p : Nat) (q : Nat)
  | 0, _ => .inl rfl
  | r + 1, h => by
    have ih := mapB_free (P := P) (R := R) (p := p) (q := q) r fun j hj => h j (by omega)
    have hne : ([(P r : Int), (R r : Int)] : List Int) ≠ [(p : Int), (q : Int)] := fun e => by
      simp only [List.cons.injEq, and_true] at e
      exact h r (by omega) ⟨by omega, by omega⟩
    right
    rcases ih with e | ⟨es, e, hf⟩
    · exact ⟨_, by show insB (mapB P R r) _ _ _ = _; rw [e]; rfl, by rw [ufind_uins _ hne]; rfl⟩
    · exact ⟨_, by show insB (mapB P R r) _ _ _ = _; rw [e]; rfl, by rw [ufind_uins _ hne]; exact hf⟩
theorem uins_mem {c : List Int} {v : AV} {x : List Int × AV} : ∀ {es : List (List Int × AV)}, x ∈ uins c v es → x = (c, v) ∨ x ∈ es
  | [], h => .inl (List.mem_singleton.1 h)
  | (d, y) :: es, h => by
    unfold uins at h
    split at h
    · rcases List.mem_cons.1 h with h | h
      · exact .inl h
      · exact .inr h
    · rcases List.mem_cons.1 h with h | h
      · exact .inr (by rw [h]; exact List.mem_cons_self ..)
      · rcases uins_mem h with h | h
        · exact .inl h
        · exact .inr (List.mem_cons_of_mem _ h)
theorem mapB_shape (P R : Nat → Nat) : ∀ r, mapB P R r = .map [] ∨ ∃ es, mapB P R r = .umap 2 es ∧ ∀ x ∈ es, Pure x.2
  | 0 => .inl rfl
  | r + 1 => by
    right
    rcases mapB_shape P R r with e | ⟨es, e, hp⟩
    · exact ⟨_, by show insB (mapB P R r) _ _ _ = _; rw [e]; rfl, fun x hx => by rcases uins_mem hx with rfl | h; exact .sc _; cases h⟩
    · exact ⟨_, by show insB (mapB P R r) _ _ _ = _; rw [e]; rfl, fun x hx => by rcases uins_mem hx with rfl | h; exact .sc _; exact hp x h⟩
theorem mapB_to {T : AV → AV → Prop} {ρ : Nat → Nat → Option (Nat × Nat)} (P R : Nat → Nat) (r : Nat) : ToB T ρ (mapB P R r) (mapB P R r) := by
  rcases mapB_shape P R r with e | ⟨es, e, hp⟩
  · rw [e]
    exact .map _ _ rfl (fun j x y a b => by simp at a) fun j x y a b => by simp at a
  · rw [e]
    exact .umap 2 es hp
set_option maxHeartbeats 16000000 in
theorem commParts_ok (n d v e : Nat) (hn : n ≤ 255) (hd : d ≤ 255) (hv : v ≤ 255) (he : e ≤ 255) :
    CallOK Try.prog 10 [.sc (.int .u8 (n : Int)), .sc (.int .u8 (d : Int)), .sc (.int .u8 (v : Int)), .sc (.int .u8 (e : Int))] [] fun res _ => res = .sc (.bool true) := by
  refine CallOK.mono (R := fun res H' => res = .sc (.bool true) ∧ H' = []) ?_ fun _ _ h => h.1
  refine CallOK.of cF10 ?_ (Nat.le_of_ble_eq_true rfl)
  have hw := works_ok
  obtain ⟨t, t1, t2, t3, t4, hF⟩ := fac_call (n % 64) (d % 4) (by omega) (by omega)
  have hD : 1 + d % 4 = t.length := by omega
  have hS : 1 + n % 64 = prodN t := by omega
  have hn64 : prodN t ≤ 64 := by omega
  have e0 := natsR_len t
  refine walkX ?_
  refine Reg.c (Nat.zero_le _) rfl (hF.mono ?_)
  rintro res H' ⟨rfl, rfl⟩
  refine walkX ?_
  rw [hD, hS, decide_eq_true (rfl : t.length = t.length)]
  refine walkX ?_
  refine AWP.loop (fun k : Nat => [(2, .sc (.int .u8 (v : Int))), (3, .sc (.int .u8 (e : Int))), (9, .sc (.int .i64 (prodN t : Int))), (10, .sc (.int .i64 (t.length : Int))), (13, .ptr 0 0 0 0), (14, .hsl 2 0 0 k), (56, .sc (.int .i64 (t.length : Int))), (57, .sc (.int .i64 (k : Int)))])
    (fun k => [[.cells 2 [[.list 1 (natsR t), .hsl 1 0 0 k]]], [.cells 1 (boolsR (ringB v k))], [.cells 1 (boolsR (ringB e k))]]) (fun k => k ≤ t.length) (fun k => t.length - k) 0 (Nat.zero_le _) ?_ ?_
  · exact Sub.wx [1,1] [[(1,0)],[(2,0)],[(3,0)]]
  · rintro k hk
    refine walkX0 ?_
    refine AWP.condD rfl (fun h => ?_) (fun h => ?_)
    · have hrs := ringB_succ v k
      have hrs2 := ringB_succ e k
      have l1 : (boolsR (ringB v k)).length = k := by rw [boolsR_len, ringB_len]
      have l2 : (boolsR (ringB e k)).length = k := by rw [boolsR_len, ringB_len]
      have e6 : ∀ (o : List Bool) (x : Bool), boolsR (o ++ [x]) = boolsR o ++ [[.sc (.bool x)]] := fun o x => by simp [boolsR]
      generalize ringB v k = o at *
      generalize ringB e k = o2 at *
      have hv2 : v / 2 ^ k < 256 := Nat.lt_of_le_of_lt (Nat.div_le_self _ _) (by omega)
      have hv3 : e / 2 ^ k < 256 := Nat.lt_of_le_of_lt (Nat.div_le_self _ _) (by omega)
      refine walkX0 ?_
      refine AWP.dk mixed ?_
      (first | refine wr13 ?_ | refine wd13 ?_ | refine wr14 ?_ | refine wv1 ?_ | refine wv2 ?_ | refine wv3 ?_ | refine wv4 ?_ | refine wv5 ?_ | refine wv6 ?_ | refine wv7 ?_ | refine wv8 ?_ | refine wv9 ?_ | refine wv10 ?_ | refine wr1 ?_ | refine wr2 ?_ | refine wr3 ?_ | refine wr4 ?_ | refine Reg.nil ?_ | refine wd1 ?_ | refine wd2 ?_ | refine wd3 ?_ | refine wd4 ?_ | refine wr5 ?_ | refine wr6 ?_ | refine wr7 ?_ | refine wr8 ?_ | refine wr9 ?_ | refine wr10 ?_ | refine wd5 ?_ | refine wd6 ?_ | refine wd7 ?_ | refine wd8 ?_ | refine wd9 ?_ | refine wd10 ?_ | refine wr11 ?_ | refine wr12 ?_ | refine wd11 ?_ | refine wd12 ?_ )
      (first | refine wr13 ?_ | refine wd13 ?_ | refine wr14 ?_ | refine wv1 ?_ | refine wv2 ?_ | refine wv3 ?_ | refine wv4 ?_ | refine wv5 ?_ | refine wv6 ?_ | refine wv7 ?_ | refine wv8 ?_ | refine wv9 ?_ | refine wv10 ?_ | refine wr1 ?_ | refine wr2 ?_ | refine wr3 ?_ | refine wr4 ?_ | refine Reg.nil ?_ | refine wd1 ?_ | refine wd2 ?_ | refine wd3 ?_ | refine wd4 ?_ | refine wr5 ?_ | refine wr6 ?_ | refine wr7 ?_ | refine wr8 ?_ | refine wr9 ?_ | refine wr10 ?_ | refine wd5 ?_ | refine wd6 ?_ | refine wd7 ?_ | refine wd8 ?_ | refine wd9 ?_ | refine wd10 ?_ | refine wr11 ?_ | refine wr12 ?_ | refine wd11 ?_ | refine wd12 ?_ )
      (first | refine wr13 ?_ | refine wd13 ?_ | refine wr14 ?_ | refine wv1 ?_ | refine wv2 ?_ | refine wv3 ?_ | refine wv4 ?_ | refine wv5 ?_ | refine wv6 ?_ | refine wv7 ?_ | refine wv8 ?_ | refine wv9 ?_ | refine wv10 ?_ | refine wr1 ?_ | refine wr2 ?_ | refine wr3 ?_ | refine wr4 ?_ | refine Reg.nil ?_ | refine wd1 ?_ | refine wd2 ?_ | refine wd3 ?_ | refine wd4 ?_ | refine wr5 ?_ | refine wr6 ?_ | refine wr7 ?_ | refine wr8 ?_ | refine wr9 ?_ | refine wr10 ?_ | refine wd5 ?_ | refine wd6 ?_ | refine wd7 ?_ | refine wd8 ?_ | refine wd9 ?_ | refine wd10 ?_ | refine wr11 ?_ | refine wr12 ?_ | refine wd11 ?_ | refine wd12 ?_ )
      (first | refine wr13 ?_ | refine wd13 ?_ | refine wr14 ?_ | refine wv1 ?_ | refine wv2 ?_ | refine wv3 ?_ | refine wv4 ?_ | refine wv5 ?_ | refine wv6 ?_ | refine wv7 ?_ | refine wv8 ?_ | refine wv9 ?_ | refine wv10 ?_ | refine wr1 ?_ | refine wr2 ?_ | refine wr3 ?_ | refine wr4 ?_ | refine Reg.nil ?_ | refine wd1 ?_ | refine wd2 ?_ | refine wd3 ?_ | refine wd4 ?_ | refine wr5 ?_ | refine wr6 ?_ | refine wr7 ?_ | refine wr8 ?_ | refine wr9 ?_ | refine wr10 ?_ | refine wd5 ?_ | refine wd6 ?_ | refine wd7 ?_ | refine wd8 ?_ | refine wd9 ?_ | refine wd10 ?_ | refine wr11 ?_ | refine wr12 ?_ | refine wd11 ?_ | refine wd12 ?_ )
      refine DK.o rfl (dstep_nb rfl rfl (nb_bshr (by omega))) ?_
      refine DK.o rfl (dstep_nb rfl rfl (nb_bbit hv2)) ?_
      (first | refine wr13 ?_ | refine wd13 ?_ | refine wr14 ?_ | refine wv1 ?_ | refine wv2 ?_ | refine wv3 ?_ | refine wv4 ?_ | refine wv5 ?_ | refine wv6 ?_ | refine wv7 ?_ | refine wv8 ?_ | refine wv9 ?_ | refine wv10 ?_ | refine wr1 ?_ | refine wr2 ?_ | refine wr3 ?_ | refine wr4 ?_ | refine Reg.nil ?_ | refine wd1 ?_ | refine wd2 ?_ | refine wd3 ?_ | refine wd4 ?_ | refine wr5 ?_ | refine wr6 ?_ | refine wr7 ?_ | refine wr8 ?_ | refine wr9 ?_ | refine wr10 ?_ | refine wd5 ?_ | refine wd6 ?_ | refine wd7 ?_ | refine wd8 ?_ | refine wd9 ?_ | refine wd10 ?_ | refine wr11 ?_ | refine wr12 ?_ | refine wd11 ?_ | refine wd12 ?_ )
      (first | refine wr13 ?_ | refine wd13 ?_ | refine wr14 ?_ | refine wv1 ?_ | refine wv2 ?_ | refine wv3 ?_ | refine wv4 ?_ | refine wv5 ?_ | refine wv6 ?_ | refine wv7 ?_ | refine wv8 ?_ | refine wv9 ?_ | refine wv10 ?_ | refine wr1 ?_ | refine wr2 ?_ | refine wr3 ?_ | refine wr4 ?_ | refine Reg.nil ?_ | refine wd1 ?_ | refine wd2 ?_ | refine wd3 ?_ | refine wd4 ?_ | refine wr5 ?_ | refine wr6 ?_ | refine wr7 ?_ | refine wr8 ?_ | refine wr9 ?_ | refine wr10 ?_ | refine wd5 ?_ | refine wd6 ?_ | refine wd7 ?_ | refine wd8 ?_ | refine wd9 ?_ | refine wd10 ?_ | refine wr11 ?_ | refine wr12 ?_ | refine wd11 ?_ | refine wd12 ?_ )
      (first | refine wr13 ?_ | refine wd13 ?_ | refine wr14 ?_ | refine wv1 ?_ | refine wv2 ?_ | refine wv3 ?_ | refine wv4 ?_ | refine wv5 ?_ | refine wv6 ?_ | refine wv7 ?_ | refine wv8 ?_ | refine wv9 ?_ | refine wv10 ?_ | refine wr1 ?_ | refine wr2 ?_ | refine wr3 ?_ | refine wr4 ?_ | refine Reg.nil ?_ | refine wd1 ?_ | refine wd2 ?_ | refine wd3 ?_ | refine wd4 ?_ | refine wr5 ?_ | refine wr6 ?_ | refine wr7 ?_ | refine wr8 ?_ | refine wr9 ?_ | refine wr10 ?_ | refine wd5 ?_ | refine wd6 ?_ | refine wd7 ?_ | refine wd8 ?_ | refine wd9 ?_ | refine wd10 ?_ | refine wr11 ?_ | refine wr12 ?_ | refine wd11 ?_ | refine wd12 ?_ )
      (first | refine wr13 ?_ | refine wd13 ?_ | refine wr14 ?_ | refine wv1 ?_ | refine wv2 ?_ | refine wv3 ?_ | refine wv4 ?_ | refine wv5 ?_ | refine wv6 ?_ | refine wv7 ?_ | refine wv8 ?_ | refine wv9 ?_ | refine wv10 ?_ | refine wr1 ?_ | refine wr2 ?_ | refine wr3 ?_ | refine wr4 ?_ | refine Reg.nil ?_ | refine wd1 ?_ | refine wd2 ?_ | refine wd3 ?_ | refine wd4 ?_ | refine wr5 ?_ | refine wr6 ?_ | refine wr7 ?_ | refine wr8 ?_ | refine wr9 ?_ | refine wr10 ?_ | refine wd5 ?_ | refine wd6 ?_ | refine wd7 ?_ | refine wd8 ?_ | refine wd9 ?_ | refine wd10 ?_ | refine wr11 ?_ | refine wr12 ?_ | refine wd11 ?_ | refine wd12 ?_ )
      (first | refine wr13 ?_ | refine wd13 ?_ | refine wr14 ?_ | refine wv1 ?_ | refine wv2 ?_ | refine wv3 ?_ | refine wv4 ?_ | refine wv5 ?_ | refine wv6 ?_ | refine wv7 ?_ | refine wv8 ?_ | refine wv9 ?_ | refine wv10 ?_ | refine wr1 ?_ | refine wr2 ?_ | refine wr3 ?_ | refine wr4 ?_ | refine Reg.nil ?_ | refine wd1 ?_ | refine wd2 ?_ | refine wd3 ?_ | refine wd4 ?_ | refine wr5 ?_ | refine wr6 ?_ | refine wr7 ?_ | refine wr8 ?_ | refine wr9 ?_ | refine wr10 ?_ | refine wd5 ?_ | refine wd6 ?_ | refine wd7 ?_ | refine wd8 ?_ | refine wd9 ?_ | refine wd10 ?_ | refine wr11 ?_ | refine wr12 ?_ | refine wd11 ?_ | refine wd12 ?_ )
      (first | refine wr13 ?_ | refine wd13 ?_ | refine wr14 ?_ | refine wv1 ?_ | refine wv2 ?_ | refine wv3 ?_ | refine wv4 ?_ | refine wv5 ?_ | refine wv6 ?_ | refine wv7 ?_ | refine wv8 ?_ | refine wv9 ?_ | refine wv10 ?_ | refine wr1 ?_ | refine wr2 ?_ | refine wr3 ?_ | refine wr4 ?_ | refine Reg.nil ?_ | refine wd1 ?_ | refine wd2 ?_ | refine wd3 ?_ | refine wd4 ?_ | refine wr5 ?_ | refine wr6 ?_ | refine wr7 ?_ | refine wr8 ?_ | refine wr9 ?_ | refine wr10 ?_ | refine wd5 ?_ | refine wd6 ?_ | refine wd7 ?_ | refine wd8 ?_ | refine wd9 ?_ | refine wd10 ?_ | refine wr11 ?_ | refine wr12 ?_ | refine wd11 ?_ | refine wd12 ?_ )
      refine DK.o rfl (dstep_nb rfl rfl (nb_bshr (by omega))) ?_
      refine DK.o rfl (dstep_nb rfl rfl (nb_bbit hv3)) ?_
      refine walkX ?_
      refine DK.nil ⟨by kernel_rfl, ?_⟩
      refine walkX ?_
      refine ⟨k + 1, by omega, by omega, ?_⟩
      rw [hrs, hrs2, e6, e6]
      exact Sub.wx [] [[(0,0)],[(3,8)],[(3,16)]]
    have hk : k = t.length := by omega
    subst hk
    have hgl := ringB_len v t.length
    have hul := ringB_len e t.length
    have hgr : GoodG t (ringB v t.length) := ⟨t3, hn64, hgl, by omega, by omega⟩
    have hpg : PartG t (ringB v t.length) (ringB e t.length) := ⟨hgr, hul⟩
    have l1 : (boolsR (ringB v t.length)).length = t.length := by rw [boolsR_len, hgl]
    have l2 : (boolsR (ringB e t.length)).length = t.length := by rw [boolsR_len, hul]
    generalize ringB v t.length = W at *
    generalize ringB e t.length = U at *
    have hsub := sub_ok (natI t) W U
    have hpos := prod_pos t3
    have hsA : subA (natI t) W U = subE t W U := by
      unfold subA
      rw [cntE_of t3 hn64 hgl (by omega) (by omega), if_neg (by omega), natI_len, if_neg (by omega), nats_I]
    rw [hsA] at hsub
    unfold subAV subE gridV at hsub
    dsimp only at hsub
    rw [← natsR_I, ← natsR_I, ← natsR_I, someS_N, ← natsR_I] at hsub
    have hsg := hpg.sub
    have hprod := someN_prod (t := t) hpg.hu
    have hltP := fun r => hpg.part_lt (p := false) (r := r)
    have hltR := fun r => hpg.part_lt (p := true) (r := r)
    have hinj := fun r r' h1 h2 h3 h4 => hpg.inj (r := r) (r' := r') h1 h2 h3 h4
    have hnear := fun r i hi hp hr => hpg.near (r := r) (i := i) hi hp hr
    have hge : natsR (partN t (idxL U false t.length) (prodN t)) = natsR ((List.range (prodN t)).map fun r => alG t (coordN t r) 0 (idxL U false t.length)) := rfl
    have hge2 : natsR (partN t (idxL U true t.length) (prodN t)) = natsR ((List.range (prodN t)).map fun r => alG t (coordN t r) 0 (idxL U true t.length)) := rfl
    have hkk : ∀ k (hk : k < t.length), U[k]'(by omega) = true → (idxL U true (k + 1)).length = (idxL U true k).length + 1 := fun k hk hp => by rw [idxL_yes (by omega) hp]; simp
    have hkn : ∀ k (hk : k < t.length), U[k]'(by omega) ≠ true → (idxL U true (k + 1)).length = (idxL U true k).length := fun k hk hp => by rw [idxL_no (by omega) hp]
    have hkl : ∀ k (hk : k < t.length), U[k]'(by omega) = true → (idxL U true k).length < (someN t (idxL U true t.length)).length := fun k hk hp => by
      have h1 := idx_at (u := U) (p := true) (i := k) (n := t.length) (by omega) hp hk
      have h2 := (List.getElem?_eq_some_iff.1 h1).1
      have h3 : idxL U true t.length ≠ [] := fun e => by rw [e] at h2; simp at h2
      unfold someN
      rw [if_neg h3, List.length_map]
      exact h2
    have hidl : ∀ k, (idxL U true k).length ≤ k := fun k => idxL_len U true k
    have hb1 := hsg.one
    rw [hge, hge2] at hsub
    generalize hm : prodN (someN t (idxL U true t.length)) = m at *
    generalize prodN (someN t (idxL U false t.length)) = c at *
    generalize hPf : (fun r => alG t (coordN t r) 0 (idxL U false t.length)) = P at *
    generalize hRf : (fun r => alG t (coordN t r) 0 (idxL U true t.length)) = R at *
    have hP : ∀ r, alG t (coordN t r) 0 (idxL U false t.length) = P r := fun r => by rw [← hPf]
    have hR : ∀ r, alG t (coordN t r) 0 (idxL U true t.length) = R r := fun r => by rw [← hRf]
    simp only [hP] at hltP
    simp only [hR] at hltR
    simp only [hP, hR] at hinj hnear
    clear hge hge2 hPf hRf hP hR
    generalize someN t (idxL U true t.length) = S at *
    generalize someW W (idxL U true t.length) = SW at *
    obtain ⟨kc, hkc⟩ : ∃ kc : Nat → Nat, ∀ k, (idxL U true k).length = kc k := ⟨_, fun _ => rfl⟩
    have hkc0 : kc 0 = 0 := (hkc 0).symm
    simp only [hkc] at hkk hkn hkl hidl hnear
    clear hkc
    have es := natsR_len S
    have eP : (natsR ((List.range (prodN t)).map P)).length = prodN t := by rw [natsR_len]; simp
    have eR : (natsR ((List.range (prodN t)).map R)).length = prodN t := by rw [natsR_len]; simp
    have ew : (boolsR SW).length = S.length := by rw [boolsR_len, hsg.len]
    have ixP : ∀ r, r < prodN t → rowIx (natsR ((List.range (prodN t)).map P)) (r : Int) = some [.sc (.int .i64 (P r : Nat))] := fun r hr => by
      have := natsR_ix ((List.range (prodN t)).map P) r (by simpa using hr)
      simpa using this
    have ixR : ∀ r, r < prodN t → rowIx (natsR ((List.range (prodN t)).map R)) (r : Int) = some [.sc (.int .i64 (R r : Nat))] := fun r hr => by
      have := natsR_ix ((List.range (prodN t)).map R) r (by simpa using hr)
      simpa using this
    have hpP : PRs (natsR ((List.range (prodN t)).map P)) := inferInstance
    have hpR : PRs (natsR ((List.range (prodN t)).map R)) := inferInstance
    generalize natsR ((List.range (prodN t)).map P) = RP at *
    generalize natsR ((List.range (prodN t)).map R) = RR at *
    have hsh := fun r d hr hd => (hgr.shift_ok (r := r) (d := d) (b := 1) hr hd (by omega))
    have hss := fun r d hr hd => (hsg.shift_ok (r := r) (d := d) (b := 1) hr hd (by omega))
    rw [hm] at hss
    rw [← natsR_I] at hsh hss
    have hS1 : ∀ a ∈ S, 1 ≤ a := hsg.pos
    have hSm : ∀ a ∈ S, a ≤ m := fun a ha => by rw [← hm]; exact le_prod hS1 ha
    have hS4 := hsg.four
    have hm1 : 1 ≤ m := by rw [← hm]; exact prod_pos hS1
    have hc1 : 1 ≤ c := by
      rcases Nat.eq_zero_or_pos c with h | h
      · rw [h, Nat.mul_zero] at hprod; omega
      · exact h
    have hmS : m ≤ prodN t := by rw [← hprod]; exact Nat.le_mul_of_pos_right _ hc1
    have hdiv : prodN t / m = c := by rw [← hprod]; exact Nat.mul_div_cancel_left _ hm1
    have hmod : prodN t % m = 0 := by rw [← hprod]; exact Nat.mul_mod_right _ _
    have hpt : ∀ k, k < S.length → prodN (S.take (k + 1)) = prodN (S.take k) * S.getD k 0 := fun k hk => by rw [prod_take hk, show S.getD k 0 = S[k] by simp [hk]]
    have hptl : ∀ k, prodN (S.take k) ≤ m := fun k => by rw [← hm]; exact prod_take_le hS1 k
    have hix : ∀ k, k < S.length → ∃ a, rowIx (natsR S) (k : Int) = some [.sc (.int .i64 (a : Nat))] ∧ 1 ≤ a ∧ a ≤ m ∧ prodN (S.take (k + 1)) = prodN (S.take k) * a := fun k hk => ⟨S[k], natsR_ix S k hk, hS1 _ (List.getElem_mem hk), hSm _ (List.getElem_mem hk), prod_take hk⟩
    generalize hNt : prodN t = N at *
    refine walkX ?_
    refine Reg.sub (fr' := [(9, .sc (.int .i64 (N : Int))), (10, .sc (.int .i64 (t.length : Int))), (13, .ptr 0 0 0 0), (14, .list 1 (boolsR U)), (80, .agg [.list 1 (natsR t), .list 1 (boolsR W)]), (81, .list 1 (boolsR U))]) (H' := [[.cells 2 [[.list 1 (natsR t), .list 1 (boolsR W)]]]]) ?_ ?_
    · exact Sub.wx [] [[(0,0)]]
    refine walkX ?_
    rw [eP, decide_eq_true (rfl : N = N)]
    refine walkX ?_
    rw [eR, decide_eq_true (rfl : N = N)]
    refine walkX ?_
    rw [es, decide_eq_false (show ¬ S.length < 1 by omega)]
    refine walkX ?_
    rw [ew, es, decide_eq_true (rfl : S.length = S.length)]
    refine walkX ?_
    rw [es]
    refine AWP.loop (fun k : Nat => [(9, .sc (.int .i64 (N : Int))), (10, .sc (.int .i64 (t.length : Int))), (13, .ptr 0 0 0 0), (14, .list 1 (boolsR U)), (16, .ptr 1 0 0 0), (17, .list 1 RP), (18, .list 1 RR), (19, .sc (.int .i64 (prodN (S.take k) : Int))), (117, .list 1 (natsR S)), (118, .sc (.int .i64 (S.length : Int))), (119, .sc (.int .i64 (k : Int)))])
      (fun k => [[.cells 2 [[.list 1 (natsR t), .list 1 (boolsR W)]]], [.cells 2 [[.list 1 (natsR S), .list 1 (boolsR SW)]]]]) (fun k => k ≤ S.length) (fun k => S.length - k) 0 (Nat.zero_le _) ?_ ?_
    · exact Sub.wx [] [[(0,0)],[(1,0)]]
    · rintro k hk
      refine walkX0 ?_
      refine AWP.condD rfl (fun h => ?_) (fun h => ?_)
      · obtain ⟨a, ha, ha1, ham, hat⟩ := hix k h
        have hl2 := hptl (k + 1)
        rw [hat] at hl2
        refine walkX ?_
        rw [decide_eq_false (show ¬ a < 1 by omega)]
        refine walkX ?_
        rw [decide_eq_false (show ¬ N < a by omega)]
        refine walkX ?_
        refine ⟨k + 1, by omega, by omega, ?_⟩
        rw [hat]
        exact Sub.wx [] [[(0,0)],[(1,0)]]
      have hk : k = S.length := by omega
      subst hk
      rw [List.take_length, hm]
      refine walkX ?_
      rw [decide_eq_false (show ¬ m < 1 by omega)]
      refine walkX ?_
      rw [hmod, decide_eq_true (rfl : 0 = 0)]
      refine walkX0 ?_
      refine AWP.loop (fun r : Nat => [(9, .sc (.int .i64 (N : Int))), (10, .sc (.int .i64 (t.length : Int))), (13, .ptr 0 0 0 0), (14, .list 1 (boolsR U)), (16, .ptr 1 0 0 0), (17, .list 1 RP), (18, .list 1 RR), (19, .sc (.int .i64 (m : Int))), (22, .mref 2 0), (143, .sc (.int .i64 (N : Int))), (144, .sc (.int .i64 (r : Int)))])
        (fun r => [[.cells 2 [[.list 1 (natsR t), .list 1 (boolsR W)]]], [.cells 2 [[.list 1 (natsR S), .list 1 (boolsR SW)]]], [mapB P R r]]) (fun r => r ≤ N) (fun r => N - r) 0 (Nat.zero_le _) ?_ ?_
      · show Sub _ _ _ _ _ [[.cells 2 [[.list 1 (natsR t), .list 1 (boolsR W)]]], [.cells 2 [[.list 1 (natsR S), .list 1 (boolsR SW)]]], [.map []]]
        exact Sub.wx [] [[(0,0)],[(1,0)],[(2,0)]]
      · rintro r hr
        refine walkX0 ?_
        refine AWP.condD rfl (fun hlt => ?_) (fun h => ?_)
        · have p1 := ixP r hlt
          have p2 := ixR r hlt
          have p3 := hltP r
          have p4 := hltR r
          have hfree : freeB (mapB P R r) (P r : Nat) (R r : Nat) := mapB_free r fun j hj hh => by
            have := hinj j r (by omega) hlt hh.1 hh.2
            omega
          refine walkX0 ?_
          refine AWP.dk mixed ?_
          refine walkR ?_
          rw [hdiv, decide_eq_false (show ¬ c ≤ P r by omega)]
          refine walkR ?_
          rw [decide_eq_false (show ¬ m ≤ R r by omega)]
          refine walkR ?_
          refine DK.o rfl (dstep_lookN (b := mapB P R r) rfl rfl rfl hfree) ?_
          refine walkX ?_
          refine DK.nil ⟨by kernel_rfl, ?_⟩
          refine walkX0 ?_
          refine AWP.dk mixed ?_
          refine walkR ?_
          refine DK.on rfl (dstep_insN (b := mapB P R r) (v := .sc (.bool true)) rfl rfl rfl rfl hfree) ?_
          refine walkR ?_
          refine DK.nil ⟨by kernel_rfl, ?_⟩
          refine walkX0 ?_
          refine AWP.loop (fun i : Nat => [(9, .sc (.int .i64 (N : Int))), (10, .sc (.int .i64 (t.length : Int))), (13, .ptr 0 0 0 0), (14, .list 1 (boolsR U)), (16, .ptr 1 0 0 0), (17, .list 1 RP), (18, .list 1 RR), (19, .sc (.int .i64 (m : Int))), (22, .mref 2 0), (143, .sc (.int .i64 (N : Int))), (144, .sc (.int .i64 (r : Int))), (23, .sc (.int .i64 (r : Int))), (24, .sc (.int .i64 (kc i : Int))), (200, .sc (.int .i64 (t.length : Int))), (201, .sc (.int .i64 (i : Int)))])
            (fun i => [[.cells 2 [[.list 1 (natsR t), .list 1 (boolsR W)]]], [.cells 2 [[.list 1 (natsR S), .list 1 (boolsR SW)]]], [mapB P R (r + 1)]]) (fun i => i ≤ t.length) (fun i => t.length - i) 0 (Nat.zero_le _) ?_ ?_
          · rw [hkc0]
            (apply Sub.to [] [[(0,0)],[(1,0)],[(2,0)]]; all_goals (repeat' (first | exact ToAll.nil | exact famsTo.nil | exact famTo.nil | exact ToL.nil | exact ToR.nil | refine ToAll.cons ?_ ?_ | refine famsTo.cons ?_ ?_ | refine wt10 ?_ ?_ | exact To.undef _ | exact To.sc _ | exact To.hslL rfl rfl | exact To.ptrO rfl rfl rfl | exact To.mrefO rfl | exact To.nil rfl rfl rfl | exact wt1 | exact To.nilL | refine To.int ?_ | refine To.bool ?_ | refine To.hslL rfl ?_ | refine wt2 rfl ?_ ?_ ?_ | refine To.tupL ?_ | refine To.aggL ?_ | refine To.cptrL ?_ | refine wt3 ?_ | refine wt4 ?_ | refine To.cloL ?_ ?_ | refine ToB.one ?_ | exact wt5 | refine wt6 ?_ | ((with_reducible apply ToL.consE); case e9 => rfl) | refine ToL.cons ?_ ?_ | exact wt7 | refine wt8 ?_ | exact wt11 | refine wt9 ?_ ?_ | refine wt12 ?_ | (with_reducible rfl) | assumption)); all_goals (first | rfl | assumption | (simp; done) | (simp; omega) | (rw [wrap_small (by omega) (by omega)]; done) | (rw [wrap_small (by omega) (by omega)]; omega) | (refine congrArg Nat.cast ?_; assumption) | skip))
            exact mapB_to P R (r + 1)
          · rintro i hi
            refine walkX0 ?_
            refine AWP.condD rfl (fun hil => ?_) (fun h => ?_)
            · have q1 := boolsR_ix U i (by omega)
              by_cases hU : U[i]'(by omega) = true
              · have k1 := hkk i hil hU
                have k2 := hkl i hil hU
                have s1 := hsh r i hlt hil
                have s2 := hss (R r) (kc i) p4 k2
                have hn := hnear r i hil hU hlt
                rw [hU] at q1
                generalize shiftE t W r i 1 = z1 at *
                generalize shiftE S SW (R r) (kc i) 1 = z2 at *
                obtain ⟨z1a, z1⟩ := z1
                obtain ⟨z2a, z2⟩ := z2
                dsimp only at s1 s2 hn
                rcases hn with ⟨rfl, rfl⟩ | ⟨q, hq, rfl, hPq, rfl⟩
                · refine walkX ?_
                  refine DK.nil ⟨by kernel_rfl, ?_⟩
                  refine walkX ?_
                  refine DK.nil ⟨by kernel_rfl, ?_⟩
                  refine walkX ?_
                  refine ⟨i + 1, by omega, by omega, ?_⟩
                  rw [k1]
                  (apply Sub.to [] [[(0,0)],[(1,0)],[(2,0)]]; all_goals (repeat' (first | exact ToAll.nil | exact famsTo.nil | exact famTo.nil | exact ToL.nil | exact ToR.nil | refine ToAll.cons ?_ ?_ | refine famsTo.cons ?_ ?_ | refine wt10 ?_ ?_ | exact To.undef _ | exact To.sc _ | exact To.hslL rfl rfl | exact To.ptrO rfl rfl rfl | exact To.mrefO rfl | exact To.nil rfl rfl rfl | exact wt1 | exact To.nilL | refine To.int ?_ | refine To.bool ?_ | refine To.hslL rfl ?_ | refine wt2 rfl ?_ ?_ ?_ | refine To.tupL ?_ | refine To.aggL ?_ | refine To.cptrL ?_ | refine wt3 ?_ | refine wt4 ?_ | refine To.cloL ?_ ?_ | refine ToB.one ?_ | exact wt5 | refine wt6 ?_ | ((with_reducible apply ToL.consE); case e9 => rfl) | refine ToL.cons ?_ ?_ | exact wt7 | refine wt8 ?_ | exact wt11 | refine wt9 ?_ ?_ | refine wt12 ?_ | (with_reducible rfl) | assumption)); all_goals (first | rfl | assumption | (simp; done) | (simp; omega) | (rw [wrap_small (by omega) (by omega)]; done) | (rw [wrap_small (by omega) (by omega)]; omega) | (refine congrArg Nat.cast ?_; assumption) | skip))
                  exact mapB_to P R (r + 1)
                · have x1 := ixR q hq
                  have x2 := ixP q hq
                  rw [hPq] at x2
                  refine walkX ?_
                  refine DK.nil ⟨by kernel_rfl, ?_⟩
                  refine walkX ?_
                  rw [decide_eq_false (show ¬ N ≤ q by omega)]
                  refine walkX ?_
                  rw [decide_eq_true (rfl : R q = R q)]
                  refine walkX ?_
                  rw [decide_eq_true (rfl : P r = P r)]
                  refine DK.nil ⟨by kernel_rfl, ?_⟩
                  refine walkX ?_
                  refine ⟨i + 1, by omega, by omega, ?_⟩
                  rw [k1]
                  (apply Sub.to [] [[(0,0)],[(1,0)],[(2,0)]]; all_goals (repeat' (first | exact ToAll.nil | exact famsTo.nil | exact famTo.nil | exact ToL.nil | exact ToR.nil | refine ToAll.cons ?_ ?_ | refine famsTo.cons ?_ ?_ | refine wt10 ?_ ?_ | exact To.undef _ | exact To.sc _ | exact To.hslL rfl rfl | exact To.ptrO rfl rfl rfl | exact To.mrefO rfl | exact To.nil rfl rfl rfl | exact wt1 | exact To.nilL | refine To.int ?_ | refine To.bool ?_ | refine To.hslL rfl ?_ | refine wt2 rfl ?_ ?_ ?_ | refine To.tupL ?_ | refine To.aggL ?_ | refine To.cptrL ?_ | refine wt3 ?_ | refine wt4 ?_ | refine To.cloL ?_ ?_ | refine ToB.one ?_ | exact wt5 | refine wt6 ?_ | ((with_reducible apply ToL.consE); case e9 => rfl) | refine ToL.cons ?_ ?_ | exact wt7 | refine wt8 ?_ | exact wt11 | refine wt9 ?_ ?_ | refine wt12 ?_ | (with_reducible rfl) | assumption)); all_goals (first | rfl | assumption | (simp; done) | (simp; omega) | (rw [wrap_small (by omega) (by omega)]; done) | (rw [wrap_small (by omega) (by omega)]; omega) | (refine congrArg Nat.cast ?_; assumption) | skip))
                  exact mapB_to P R (r + 1)
              · have hU2 : U[i]'(by omega) = false := by simpa using hU
                have k1 := hkn i hil hU
                rw [hU2] at q1
                refine walkX ?_
                refine ⟨i + 1, by omega, by omega, ?_⟩
                rw [k1]
                (apply Sub.to [] [[(0,0)],[(1,0)],[(2,0)]]; all_goals (repeat' (first | exact ToAll.nil | exact famsTo.nil | exact famTo.nil | exact ToL.nil | exact ToR.nil | refine ToAll.cons ?_ ?_ | refine famsTo.cons ?_ ?_ | refine wt10 ?_ ?_ | exact To.undef _ | exact To.sc _ | exact To.hslL rfl rfl | exact To.ptrO rfl rfl rfl | exact To.mrefO rfl | exact To.nil rfl rfl rfl | exact wt1 | exact To.nilL | refine To.int ?_ | refine To.bool ?_ | refine To.hslL rfl ?_ | refine wt2 rfl ?_ ?_ ?_ | refine To.tupL ?_ | refine To.aggL ?_ | refine To.cptrL ?_ | refine wt3 ?_ | refine wt4 ?_ | refine To.cloL ?_ ?_ | refine ToB.one ?_ | exact wt5 | refine wt6 ?_ | ((with_reducible apply ToL.consE); case e9 => rfl) | refine ToL.cons ?_ ?_ | exact wt7 | refine wt8 ?_ | exact wt11 | refine wt9 ?_ ?_ | refine wt12 ?_ | (with_reducible rfl) | assumption)); all_goals (first | rfl | assumption | (simp; done) | (simp; omega) | (rw [wrap_small (by omega) (by omega)]; done) | (rw [wrap_small (by omega) (by omega)]; omega) | (refine congrArg Nat.cast ?_; assumption) | skip))
                exact mapB_to P R (r + 1)
            refine walkX0 ?_
            refine ⟨r + 1, by omega, by omega, ?_⟩
            (apply Sub.to [] [[(0,0)],[(1,0)],[(2,0)]]; all_goals (repeat' (first | exact ToAll.nil | exact famsTo.nil | exact famTo.nil | exact ToL.nil | exact ToR.nil | refine ToAll.cons ?_ ?_ | refine famsTo.cons ?_ ?_ | refine wt10 ?_ ?_ | exact To.undef _ | exact To.sc _ | exact To.hslL rfl rfl | exact To.ptrO rfl rfl rfl | exact To.mrefO rfl | exact To.nil rfl rfl rfl | exact wt1 | exact To.nilL | refine To.int ?_ | refine To.bool ?_ | refine To.hslL rfl ?_ | refine wt2 rfl ?_ ?_ ?_ | refine To.tupL ?_ | refine To.aggL ?_ | refine To.cptrL ?_ | refine wt3 ?_ | refine wt4 ?_ | refine To.cloL ?_ ?_ | refine ToB.one ?_ | exact wt5 | refine wt6 ?_ | ((with_reducible apply ToL.consE); case e9 => rfl) | refine ToL.cons ?_ ?_ | exact wt7 | refine wt8 ?_ | exact wt11 | refine wt9 ?_ ?_ | refine wt12 ?_ | (with_reducible rfl) | assumption)); all_goals (first | rfl | assumption | (simp; done) | (simp; omega) | (rw [wrap_small (by omega) (by omega)]; done) | (rw [wrap_small (by omega) (by omega)]; omega) | (refine congrArg Nat.cast ?_; assumption) | skip))
            exact mapB_to P R (r + 1)
        refine walkX ?_
        exact endW [] (⟨rfl, rfl⟩)
end Go.Proofs.Ytpkpfgpfkajkpaa
