import Derived.Test.YtnngbbiajioghaaGSuE3
import Derived.Test.YtnngbbiajioghaaGAvF
namespace Go.Proofs.Ytnngbbiajioghaa
open Go.Av Go.Proofs
set_option exponentiation.threshold 4000
set_option maxRecDepth 20000

/-! States compared. -/

theorem wd_zero_of {k : Nat} : ∀ {n : Nat}, n < 2 ^ (64 * k) → (∀ i, i < k → wd n i = 0) → n = 0 := by
  induction k with
  | zero => intro n h _; simpa using h
  | succ k ih =>
    intro n h hw
    have h1 := hw k (by omega)
    rw [wd_top h] at h1
    refine ih ?_ fun i hi => hw i (by omega)
    rcases Nat.lt_or_ge n (2 ^ (64 * k)) with h2 | h2
    · exact h2
    · have := (Nat.le_div_iff_mul_le (Nat.pow_pos (show 0 < 2 by decide))).2 (show 1 * 2 ^ (64 * k) ≤ n by omega)
      omega
theorem wd_inj {k : Nat} : ∀ {n m : Nat}, n < 2 ^ (64 * k) → m < 2 ^ (64 * k) → (∀ i, i < k → wd n i = wd m i) → n = m := by
  induction k with
  | zero => intro n m h h2 _; simp at h h2; omega
  | succ k ih =>
    intro n m h h2 hw
    have h1 := hw k (by omega)
    have e1 := split_mod n k
    have e2 := split_mod m k
    rw [Nat.mod_eq_of_lt h] at e1
    rw [Nat.mod_eq_of_lt h2] at e2
    have hp : 0 < 2 ^ (64 * k) := Nat.pow_pos (by decide)
    have := ih (n := n % 2 ^ (64 * k)) (m := m % 2 ^ (64 * k)) (Nat.mod_lt _ hp) (Nat.mod_lt _ hp) fun i hi => by
      have e3 := wd_mod n (64 * k) i
      have e4 := wd_mod m (64 * k) i
      rw [if_pos (by omega)] at e3 e4
      rw [e3, e4, hw i (by omega)]
    rw [e1, e2, this, h1]

def St.eqb (s t : St) : Bool := decide (s.n = t.n) && ((s.nan == t.nan) && ((s.plus == t.plus) && ((s.minus == t.minus) && decide ((s.zero : Int) = t.zero))))

def ks40 : List LK := List.replicate 36 .i ++ [.b, .b, .b, .i]

theorem cells_words : ∀ (l : List Nat) (f g : Nat → Nat) (ks : List LK) (xs ys : List Value) (r : Bool), cellsEq ks xs ys = some r →
    cellsEq (List.replicate l.length .i ++ ks) (l.map (fun i => Value.int .u64 (f i : Int)) ++ xs) (l.map (fun i => Value.int .u64 (g i : Int)) ++ ys) = some ((l.all fun i => decide (f i = g i)) && r)
  | [], f, g, ks, xs, ys, r, h => by simpa using h
  | i :: l, f, g, ks, xs, ys, r, h => by
    have ih := cells_words l f g ks xs ys r h
    simp only [List.length_cons, List.replicate_succ, List.cons_append, List.map_cons, cellsEq, leafEq, decide_true, ih, List.all_cons]
    congr 1
    rw [Bool.and_assoc]
    congr 1
    rw [Bool.eq_iff_iff]; simp; omega

theorem scs_append : ∀ {l : List AV} {a : List Value} (m : List AV) {b : List Value}, scs l = some a → scs m = some b → scs (l ++ m) = some (a ++ b)
  | [], a, m, b, h, h2 => by
    simp only [scs, Option.some.injEq] at h
    subst h
    exact h2
  | x :: l, a, m, b, h, h2 => by
    cases x with
    | sc v =>
      simp only [scs] at h
      split at h
      · rename_i q hq
        injection h with h
        subst h
        simp only [List.cons_append, scs, scs_append m hq h2]
      · cases h
    | _ => simp [scs] at h
theorem scs_words : ∀ (l : List Nat) (f : Nat → Nat), scs (l.map fun i => AV.sc (.int .u64 (f i : Int))) = some (l.map fun i => Value.int .u64 (f i : Int))
  | [], _ => rfl
  | i :: l, f => by simp only [List.map_cons, scs, scs_words l f]

def St.vals (s : St) : List Value := (List.range 36).map (fun i => Value.int .u64 (wd s.n i : Int)) ++ [.bool s.nan, .bool s.plus, .bool s.minus, .int .i64 (s.zero : Int)]
theorem St.flat (s : St) : flatOf (.agg s.row) = some s.vals := scs_append s.tl (scs_words (List.range 36) (wd s.n)) rfl

theorem st_cells {s t : St} (hs : s.n < 2 ^ 2304) (ht : t.n < 2 ^ 2304) : cellsEq ks40 s.vals t.vals = some (s.eqb t) := by
  have h := cells_words (List.range 36) (wd s.n) (wd t.n) [.b, .b, .b, .i] [.bool s.nan, .bool s.plus, .bool s.minus, .int .i64 (s.zero : Int)] [.bool t.nan, .bool t.plus, .bool t.minus, .int .i64 (t.zero : Int)]
    ((s.nan == t.nan) && ((s.plus == t.plus) && ((s.minus == t.minus) && decide ((s.zero : Int) = t.zero)))) (by simp only [cellsEq, leafEq, decide_true, Bool.and_true])
  rw [List.length_range] at h
  have e : ((List.range 36).all fun i => decide (wd s.n i = wd t.n i)) = decide (s.n = t.n) := by
    rw [Bool.eq_iff_iff, List.all_eq_true, decide_eq_true_eq]
    constructor
    · intro h
      exact wd_inj (k := 36) hs ht fun i hi => of_decide_eq_true (h i (List.mem_range.2 hi))
    · rintro h i _
      rw [h]; simp
  rw [e] at h
  exact h

theorem dstep_eqSt {g i : Nat} {fr : Fr} {H : Heap} {x y : Operand} {s t : St} {neg : Bool} (hx : ev fr x = .agg s.row) (hy : ev fr y = .agg t.row) (hs : s.n < 2 ^ 2304) (ht : t.n < 2 ^ 2304) :
    dstep g i (.xop (.eqAgg neg ks40) [x, y]) fr H = some (.sc (.bool (neg != s.eqb t)), H) := by
  simp only [dstep, avals, List.map_cons, List.map_nil, hx, hy, xstep, xpure, St.flat, st_cells hs ht]

theorem encode_at {H : Heap} {g i : Nat} {s : St} (hx : hget H g i = some (.cells 41 [s.acc true])) (hs : s.n < 2 ^ 2304) (hz : s.zero ≤ 2) : CallOK Try.prog 23 [.ptr g i 0 0] H fun res H' => res = .tup [encV s, .sc (.int .i64 0)] ∧ H' = hset H g i (.cells 41 [s.acc true]) := by
  refine (CallOK.via1 (args := [.ptr g i 0 0]) (R := fun res y => res = .tup [encV s, .sc (.int .i64 0)] ∧ y = .cells 41 [s.acc true]) g i ((encode_ok s hs hz).mono ?_) hx (pureB_acc _ _) ⟨.ptr _ _ _ _ _ _ rfl, trivial⟩).mono ?_
  · rintro res H' ⟨rfl, rfl⟩
    exact ⟨_, rfl, pv _, pureB_acc _ _, rfl, rfl⟩
  · rintro res H' ⟨y, rfl, rfl, rfl⟩
    exact ⟨rfl, rfl⟩

theorem big_facts' : 4 * 2 ^ 2240 ≤ 2 ^ 2303 ∧ 2 ^ 2304 = 2 * 2 ^ 2303 := by
  constructor
  · rw [show (4 : Nat) = 2 ^ 2 from rfl, ← Nat.pow_add]
    exact Nat.pow_le_pow_right (by decide) (by decide)
  · rw [Nat.mul_comm, ← Nat.pow_succ]
/-- Numbers below 2^2240, and their opposites. -/
theorem decN_facts {b1 V : Nat} (hV : V < 2 ^ 2240) : decN b1 V < 2 ^ 2304 ∧ absN (decN b1 V) = V ∧ (2 ^ 2303 ≤ decN b1 V ↔ b1 = 1 ∧ 0 < V) ∧ (decN b1 V = 0 ↔ V = 0) := by
  obtain ⟨f1, f2⟩ := big_facts'
  unfold decN absN
  rw [f2]
  generalize 2 ^ 2303 = P at *
  generalize 2 ^ 2240 = Q at *
  by_cases h : b1 = 1
  · rw [if_pos h]
    by_cases h0 : V = 0
    · subst h0
      rw [Nat.sub_zero, Nat.mod_self]
      refine ⟨by omega, by rw [if_neg (by omega)], by omega, by omega⟩
    · rw [Nat.mod_eq_of_lt (by omega)]
      refine ⟨by omega, by rw [if_pos (by omega)]; omega, by omega, by omega⟩
  · rw [if_neg h]
    refine ⟨by omega, by rw [if_neg (by omega)], by omega, Iff.rfl⟩

theorem decF_flags {b0 : Nat} (h : b0 < 256) (n : Nat) : flags (decF b0 n) = b0 := by
  have : ∀ b, b < 256 → flg (!decide (b &&& 1 = 0)) 1 + flg (!decide (b &&& 2 = 0)) 2 + flg (!decide (b &&& 4 = 0)) 4 + 8 * (b / 2 ^ 3) = b := by decide
  exact this b0 h
theorem decF_none {b0 : Nat} (h : b0 < 256) : (!decide (b0 &&& 1 = 0)) = false ∧ (!decide (b0 &&& 2 = 0)) = false ∧ (!decide (b0 &&& 4 = 0)) = false ↔ b0 % 8 = 0 := by
  have : ∀ b, b < 256 → ((!decide (b &&& 1 = 0)) = false ∧ (!decide (b &&& 2 = 0)) = false ∧ (!decide (b &&& 4 = 0)) = false ↔ b % 8 = 0) := by decide
  exact this b0 h

end Go.Proofs.Ytnngbbiajioghaa
namespace Go.Proofs.Ytnngbbiajioghaa
open Go.Av Go.Proofs
set_option exponentiation.threshold 4000
set_option maxRecDepth 20000


def decRest : ICode := match F21.code with
  | .seq _ (.seq _ (.seq _ (.seq _ (.seq _ c)))) => c
  | _ => .skip

/-- What Decode is to give. -/
def DecQ (b0 b1 : Nat) (m V : Nat) (res : AV) (H' : Heap) : Prop :=
  (okD b0 b1 m V = true ∧ res = .tup [.ptr 0 0 0 0, .sc (.int .i64 0)] ∧ H' = [[.cells 41 [(decF b0 (decN b1 V)).acc true]]]) ∨ (okD b0 b1 m V = false ∧ res = .tup [.sc (.pointer none), .sc (.int .i64 7)] ∧ H' = [])

theorem bytR_inj : ∀ {l m : List Nat}, bytR l = bytR m → l = m
  | [], [], _ => rfl
  | [], _ :: _, h => by simp [bytR] at h
  | _ :: _, [], h => by simp [bytR] at h
  | a :: l, b :: m, h => by
    simp only [bytR, List.map_cons, List.cons.injEq] at h
    obtain ⟨h1, h2⟩ := h
    have h3 : l = m := bytR_inj h2
    have h4 : (a : Int) = b := by
      have := h1.1
      unfold u8c at this
      injection this with this
      injection this with _ this
    rw [h3, show a = b by omega]
theorem pow_lt_big {V m : Nat} (hV : V < 256 ^ m) (hm : m ≤ 280) : V < 2 ^ 2240 := by
  rw [pow256] at hV
  exact Nat.lt_of_lt_of_le hV (Nat.pow_le_pow_right (by decide) (by omega))

set_option maxHeartbeats 4000000 in
theorem dec_end (b0 b1 : Nat) (r : List Nat) (V : Nat) (h0 : b0 < 256) (_h1 : b1 < 256) (hl : r.length ≤ 280) (hR : bytR r = bR r.length V) (hV : V < 256 ^ r.length) :
    AWP Try.prog F21.n 0 decRest (fun e fr' H' => (e = .normal ∨ e = .ret) ∧ ∃ res res' H2, resOf fr' H' F21.res = some res ∧ SubV 0 H' res H2 res' ∧ DecQ b0 b1 r.length V res' H2)
      [(1, .ptr 0 0 0 0), (4, .ptr 2 0 0 0)] [[.cells 1 [[.list 1 (bytR (b0 :: b1 :: r))]]], [.cells 41 [(decF b0 V).acc true]], [.cells 1 [[.ptr 1 0 0 0]]]] := by
  have el : (bytR (b0 :: b1 :: r)).length = r.length + 2 := by rw [bytR_len]; rfl
  have x0 : rowIx (bytR (b0 :: b1 :: r)) 0 = some [.sc (.int .u8 (b0 : Int))] := rfl
  have x1 : rowIx (bytR (b0 :: b1 :: r)) 1 = some [.sc (.int .u8 (b1 : Int))] := rfl
  have hV0 := pow_lt_big hV hl
  have hV2 : V < 2 ^ 2304 := Nat.lt_trans hV0 (Nat.pow_lt_pow_right (by decide) (by decide))
  have hneg := neg_pure V hV2
  rw [← ws_big (2 ^ 2304 - V)] at hneg
  obtain ⟨n1, n2, n3, n4⟩ := decN_facts (b1 := b1) hV0
  unfold decRest
  unfold F21
  simp only
  refine AWP.seq ?_
  refine AWP.joinT0 [(1, .ptr 0 0 0 0), (4, .ptr 2 0 0 0)] [[.cells 1 [[.list 1 (bytR (b0 :: b1 :: r))]]], [.cells 41 [(decF b0 (decN b1 V)).acc true]], [.cells 1 [[.ptr 1 0 0 0]]]] ?_ ?_
  · by_cases hb : b1 = 1
    · have e : decN b1 V = (2 ^ 2304 - V) % big := if_pos hb
      rw [e]
      generalize (2 ^ 2304 - V) % big = N at *
      refine walkSuE3 ?_
      refine AWP.condD rfl (fun _ => ?_) (fun h => absurd hb h)
      refine walkSuE3 ?_
      refine DK.nil ⟨by kernel_rfl, ?_⟩
      exact Sub.wx [] [[(0,0)],[(1,0)],[(2,0)]]
    · have e : decN b1 V = V := if_neg hb
      rw [e]
      refine walkSuE3 ?_
      refine AWP.condD rfl (fun h => absurd h hb) (fun _ => ?_)
      refine walkSuE3 ?_
      exact Sub.wx [] [[(0,0)],[(1,0)],[(2,0)]]
  have hfl := decF_flags h0 (decN b1 V)
  have hno := decF_none h0
  have hok : okD b0 b1 r.length V = (decide (b0 / 2 ^ 3 ≤ 2) && (decide (b0 / 2 ^ 3 = 2) || (decide (V = 0) && decide (b0 % 8 = 0))) && (decide (b1 = 0) || (decide (b1 = 1) && decide (0 < V))) && decide (nb V = r.length)) := rfl
  unfold DecQ
  rw [hok]
  have hrd : r = digs r.length V := bytR_inj (by rw [digs_R]; exact hR)
  clear hok hneg hR
  generalize decN b1 V = n at *
  have hz8 : b0 / 2 ^ 3 ≤ 9223372036854775807 := by omega
  refine AWP.seq ?_
  refine AWP.joinT (fun _ : Unit => [(1, .ptr 0 0 0 0), (4, .ptr 2 0 0 0)]) (fun _ => [[.cells 1 [[.list 1 (bytR (b0 :: b1 :: r))]]], [.cells 41 [(decF b0 n).acc true]], [.cells 1 [[.ptr 1 0 0 0]]]]) (fun _ => b0 / 2 ^ 3 ≤ 2 ∧ (b0 / 2 ^ 3 = 2 ∨ (V = 0 ∧ b0 % 8 = 0))) ?_ ?_
  · by_cases z1 : 2 < b0 / 2 ^ 3
    · have d1 : decide (2 < (decF b0 n).zero) = true := decide_eq_true z1
      rw [decide_eq_false (show ¬ b0 / 2 ^ 3 ≤ 2 by omega)]
      refine walkSuE3 ?_
      rw [d1]
      refine walkSuE3 ?_
      refine DK.nil ⟨by kernel_rfl, ?_⟩
      refine walkSuE3 ?_
      (refine ⟨by first | exact .inr rfl | exact .inl rfl, _, .tup [.sc (.pointer none), .sc (.int .i64 7)], [], rfl, SubV.to [] [] ?_ ?_ rfl rfl rfl, ?_⟩; all_goals (repeat' (first | exact ToAll.nil | exact famsTo.nil | exact famTo.nil | exact ToL.nil | exact ToR.nil | refine ToAll.cons ?_ ?_ | refine famsTo.cons ?_ ?_ | refine wt10 ?_ ?_ | exact To.undef _ | exact To.sc _ | exact To.hslL rfl rfl | exact To.ptrO rfl rfl rfl | exact To.mrefO rfl | exact To.nil rfl rfl rfl | exact wt1 | exact To.nilL | refine To.int ?_ | refine To.bool ?_ | refine To.hslL rfl ?_ | refine wt2 rfl ?_ ?_ ?_ | refine To.tupL ?_ | refine To.aggL ?_ | refine To.cptrL ?_ | refine wt3 ?_ | refine wt4 ?_ | refine To.cloL ?_ ?_ | exact wt5 | refine wt6 ?_ | refine ToB.one ?_ | exact wt7 | ((with_reducible apply ToL.consE); case e9 => rfl) | refine wt8 ?_ | refine ToL.cons ?_ ?_ | exact wt11 | refine wt9 ?_ ?_ | refine wt12 ?_ | (with_reducible rfl) | assumption)); all_goals (first | rfl | assumption | (simp; done) | (simp; omega) | (rw [wrap_small (by omega) (by omega)]; done) | (rw [wrap_small (by omega) (by omega)]; omega) | (refine congrArg Nat.cast ?_; assumption) | skip))
      try exact .inr ⟨rfl, rfl, rfl⟩
    · have d1 : decide (2 < (decF b0 n).zero) = false := decide_eq_false z1
      have d2 : decide (b0 / 2 ^ 3 ≤ 2) = true := decide_eq_true (by omega)
      by_cases z2 : b0 / 2 ^ 3 < 2
      · have d3 : decide ((decF b0 n).zero < 2) = true := decide_eq_true z2
        have d4 : decide (b0 / 2 ^ 3 = 2) = false := decide_eq_false (by omega)
        have hE : (decF b0 n).eqb ⟨0, false, false, false, (decF b0 n).zero⟩ = decide (V = 0 ∧ b0 % 8 = 0) := by
          unfold St.eqb decF
          rw [Bool.eq_iff_iff]
          simp only [Bool.and_eq_true, decide_eq_true_eq, beq_iff_eq]
          rw [n4]
          constructor
          · rintro ⟨e1, e2, e3, e4, _⟩
            exact ⟨e1, hno.1 ⟨e2, e3, e4⟩⟩
          · rintro ⟨e1, e2⟩
            obtain ⟨e3, e4, e5⟩ := hno.2 e2
            exact ⟨e1, e3, e4, e5, trivial⟩
        refine walkSuE3 ?_
        rw [d1]
        refine walkSuE3 ?_
        rw [d3]
        (repeat (first | refine DK.o rfl (dstep_eqSt (s := decF b0 n) (t := ⟨0, false, false, false, (decF b0 n).zero⟩) rfl rfl n1 (Nat.pow_pos (by decide))) ?_ | refine se1 ?_ | refine se2 ?_ | refine se3 ?_ | refine se4 ?_ | refine su1 ?_ | refine su2 ?_ | refine su3 ?_ | refine su4 ?_ | refine su5 ?_ | refine su6 ?_ | refine su7 ?_ | refine su8 ?_ | refine su9 ?_ | refine sd1 ?_ | refine sd2 ?_ | refine sd3 ?_ | refine sd4 ?_ | refine sd5 ?_ | refine sd6 ?_ | refine sd7 ?_ | refine sd8 ?_ | refine sd9 ?_ | (first | refine wr13 ?_ | refine wd13 ?_ | refine wr14 ?_ | refine wv1 ?_ | refine wv2 ?_ | refine wv3 ?_ | refine wv4 ?_ | refine wv5 ?_ | refine wv6 ?_ | refine wv7 ?_ | refine wv8 ?_ | refine wv9 ?_ | refine wv10 ?_ | refine wr1 ?_ | refine wr2 ?_ | refine wr3 ?_ | refine wr4 ?_ | refine Reg.nil ?_ | refine wd1 ?_ | refine wd2 ?_ | refine wd3 ?_ | refine wd4 ?_ | refine AWP.seq ?_ | refine AWP.region ?_ | refine AWP.dk mixed ?_ | refine AWP.condT rfl ?_ | refine AWP.condF rfl ?_ | refine AWP.skip ?_ | refine AWP.ret ?_ | refine AWP.exit ?_ | refine AWP.block ?_ | refine wr5 ?_ | refine wr6 ?_ | refine wr7 ?_ | refine wr8 ?_ | refine wr9 ?_ | refine wr10 ?_ | refine wd5 ?_ | refine wd6 ?_ | refine wd7 ?_ | refine wd8 ?_ | refine wd9 ?_ | refine wd10 ?_ | refine wr11 ?_ | refine wr12 ?_ | refine wd11 ?_ | refine wd12 ?_ )))
        rw [hE]
        by_cases hh : V = 0 ∧ b0 % 8 = 0
        · rw [decide_eq_true hh]
          refine walkSuE3 ?_
          refine DK.nil ⟨by kernel_rfl, ?_⟩
          refine walkSuE3 ?_
          refine ⟨(), ⟨by omega, .inr hh⟩, ?_⟩
          exact Sub.wx [] [[(0,0)],[(1,0)],[(2,0)]]
        · rw [decide_eq_false hh]
          have d5 : (decide (V = 0) && decide (b0 % 8 = 0)) = false := by
            rw [Bool.and_eq_false_iff]
            simp only [decide_eq_false_iff_not]
            by_cases q : V = 0
            · exact .inr fun q2 => hh ⟨q, q2⟩
            · exact .inl q
          rw [d4, d5]
          refine walkSuE3 ?_
          refine DK.nil ⟨by kernel_rfl, ?_⟩
          refine walkSuE3 ?_
          (refine ⟨by first | exact .inr rfl | exact .inl rfl, _, .tup [.sc (.pointer none), .sc (.int .i64 7)], [], rfl, SubV.to [] [] ?_ ?_ rfl rfl rfl, ?_⟩; all_goals (repeat' (first | exact ToAll.nil | exact famsTo.nil | exact famTo.nil | exact ToL.nil | exact ToR.nil | refine ToAll.cons ?_ ?_ | refine famsTo.cons ?_ ?_ | refine wt10 ?_ ?_ | exact To.undef _ | exact To.sc _ | exact To.hslL rfl rfl | exact To.ptrO rfl rfl rfl | exact To.mrefO rfl | exact To.nil rfl rfl rfl | exact wt1 | exact To.nilL | refine To.int ?_ | refine To.bool ?_ | refine To.hslL rfl ?_ | refine wt2 rfl ?_ ?_ ?_ | refine To.tupL ?_ | refine To.aggL ?_ | refine To.cptrL ?_ | refine wt3 ?_ | refine wt4 ?_ | refine To.cloL ?_ ?_ | exact wt5 | refine wt6 ?_ | refine ToB.one ?_ | exact wt7 | ((with_reducible apply ToL.consE); case e9 => rfl) | refine wt8 ?_ | refine ToL.cons ?_ ?_ | exact wt11 | refine wt9 ?_ ?_ | refine wt12 ?_ | (with_reducible rfl) | assumption)); all_goals (first | rfl | assumption | (simp; done) | (simp; omega) | (rw [wrap_small (by omega) (by omega)]; done) | (rw [wrap_small (by omega) (by omega)]; omega) | (refine congrArg Nat.cast ?_; assumption) | skip))
          try exact .inr ⟨by simp, rfl, rfl⟩
      · have d3 : decide ((decF b0 n).zero < 2) = false := decide_eq_false z2
        refine walkSuE3 ?_
        rw [d1]
        refine walkSuE3 ?_
        rw [d3]
        refine walkSuE3 ?_
        refine DK.nil ⟨by kernel_rfl, ?_⟩
        refine walkSuE3 ?_
        refine ⟨(), ⟨by omega, .inl (by omega)⟩, ?_⟩
        exact Sub.wx [] [[(0,0)],[(1,0)],[(2,0)]]
  · rintro ⟨⟩ ⟨hz, hcond⟩
    have hbits : (decide (b0 / 2 ^ 3 ≤ 2) && (decide (b0 / 2 ^ 3 = 2) || (decide (V = 0) && decide (b0 % 8 = 0)))) = true := by
      rw [decide_eq_true hz, Bool.true_and]
      rcases hcond with h | ⟨h, h2⟩
      · rw [decide_eq_true h]; rfl
      · rw [decide_eq_true h, decide_eq_true h2]; simp
    rw [hbits, Bool.true_and]
    have hby := encV_by (decF b0 n)
    have hn : (decF b0 n).n = n := rfl
    rw [hfl, hn, n2] at hby
    have hdl : (digs (nb V) V).length = nb V := by simp [digs]
    have hbytes : byV (b0 :: b1 :: r) = .list 1 (bytR (b0 :: b1 :: r)) := rfl
    have hnbV : nb V ≤ 280 := (nb_le _ _).2 (by rw [pow256]; exact hV0)
    have heq := equal_ok (b0 :: flg (decide (2 ^ 2303 ≤ n)) 1 :: digs (nb V) V) (b0 :: b1 :: r) (by simp; omega)
    rw [hbytes] at heq
    have hiff : decide ((b0 :: flg (decide (2 ^ 2303 ≤ n)) 1 :: digs (nb V) V) = b0 :: b1 :: r) = ((decide (b1 = 0) || (decide (b1 = 1) && decide (0 < V))) && decide (nb V = r.length)) := by
      have e1 : (b0 :: flg (decide (2 ^ 2303 ≤ n)) 1 :: digs (nb V) V = b0 :: b1 :: r) ↔ (flg (decide (2 ^ 2303 ≤ n)) 1 = b1 ∧ nb V = r.length) := by
        simp only [List.cons.injEq, true_and]
        refine and_congr_right fun _ => ⟨fun e => by rw [← e]; exact hdl.symm, fun e => by rw [e]; exact hrd.symm⟩
      have e2 : flg (decide (2 ^ 2303 ≤ n)) 1 = b1 ↔ (b1 = 0 ∨ (b1 = 1 ∧ 0 < V)) := by
        by_cases hP : 2 ^ 2303 ≤ n
        · rw [decide_eq_true hP, show flg true 1 = 1 from rfl]
          have := n3.1 hP
          omega
        · rw [decide_eq_false hP, show flg false 1 = 0 from rfl]
          have : ¬ (b1 = 1 ∧ 0 < V) := fun h => hP (n3.2 h)
          omega
      rw [Bool.eq_iff_iff]
      simp only [Bool.and_eq_true, Bool.or_eq_true, decide_eq_true_eq]
      rw [e1, e2]
    rw [hiff] at heq
    refine walkSuE3 ?_
    refine Reg.c (Nat.zero_le _) rfl ((encode_at (s := decF b0 n) rfl n1 hz).mono ?_)
    rintro res H' ⟨rfl, rfl⟩
    rw [hby]
    generalize ((decide (b1 = 0) || (decide (b1 = 1) && decide (0 < V))) && decide (nb V = r.length)) = q at *
    unfold byV at heq ⊢
    generalize hLE : bytR (b0 :: flg (decide (2 ^ 2303 ≤ n)) 1 :: digs (nb V) V) = LE at *
    refine walkSuE3 ?_
    cases q with
    | false =>
      refine walkSuE3 ?_
      (refine ⟨by first | exact .inr rfl | exact .inl rfl, _, .tup [.sc (.pointer none), .sc (.int .i64 7)], [], rfl, SubV.to [] [] ?_ ?_ rfl rfl rfl, ?_⟩; all_goals (repeat' (first | exact ToAll.nil | exact famsTo.nil | exact famTo.nil | exact ToL.nil | exact ToR.nil | refine ToAll.cons ?_ ?_ | refine famsTo.cons ?_ ?_ | refine wt10 ?_ ?_ | exact To.undef _ | exact To.sc _ | exact To.hslL rfl rfl | exact To.ptrO rfl rfl rfl | exact To.mrefO rfl | exact To.nil rfl rfl rfl | exact wt1 | exact To.nilL | refine To.int ?_ | refine To.bool ?_ | refine To.hslL rfl ?_ | refine wt2 rfl ?_ ?_ ?_ | refine To.tupL ?_ | refine To.aggL ?_ | refine To.cptrL ?_ | refine wt3 ?_ | refine wt4 ?_ | refine To.cloL ?_ ?_ | exact wt5 | refine wt6 ?_ | refine ToB.one ?_ | exact wt7 | ((with_reducible apply ToL.consE); case e9 => rfl) | refine wt8 ?_ | refine ToL.cons ?_ ?_ | exact wt11 | refine wt9 ?_ ?_ | refine wt12 ?_ | (with_reducible rfl) | assumption)); all_goals (first | rfl | assumption | (simp; done) | (simp; omega) | (rw [wrap_small (by omega) (by omega)]; done) | (rw [wrap_small (by omega) (by omega)]; omega) | (refine congrArg Nat.cast ?_; assumption) | skip))
      try exact .inr ⟨rfl, rfl, rfl⟩
    | true =>
      refine walkSuE3 ?_
      (refine ⟨by first | exact .inr rfl | exact .inl rfl, _, .tup [.ptr 0 0 0 0, .sc (.int .i64 0)], [[.cells 41 [(decF b0 n).acc true]]], rfl, SubV.to [] [[(1,0)]] ?_ ?_ rfl rfl rfl, ?_⟩; all_goals (repeat' (first | exact ToAll.nil | exact famsTo.nil | exact famTo.nil | exact ToL.nil | exact ToR.nil | refine ToAll.cons ?_ ?_ | refine famsTo.cons ?_ ?_ | refine wt10 ?_ ?_ | exact To.undef _ | exact To.sc _ | exact To.hslL rfl rfl | exact To.ptrO rfl rfl rfl | exact To.mrefO rfl | exact To.nil rfl rfl rfl | exact wt1 | exact To.nilL | refine To.int ?_ | refine To.bool ?_ | refine To.hslL rfl ?_ | refine wt2 rfl ?_ ?_ ?_ | refine To.tupL ?_ | refine To.aggL ?_ | refine To.cptrL ?_ | refine wt3 ?_ | refine wt4 ?_ | refine To.cloL ?_ ?_ | exact wt5 | refine wt6 ?_ | refine ToB.one ?_ | exact wt7 | ((with_reducible apply ToL.consE); case e9 => rfl) | refine wt8 ?_ | refine ToL.cons ?_ ?_ | exact wt11 | refine wt9 ?_ ?_ | refine wt12 ?_ | (with_reducible rfl) | assumption)); all_goals (first | rfl | assumption | (simp; done) | (simp; omega) | (rw [wrap_small (by omega) (by omega)]; done) | (rw [wrap_small (by omega) (by omega)]; omega) | (refine congrArg Nat.cast ?_; assumption) | skip))
      try exact .inl ⟨rfl, rfl, rfl⟩

end Go.Proofs.Ytnngbbiajioghaa
namespace Go.Proofs.Ytnngbbiajioghaa
open Go.Av Go.Proofs
set_option exponentiation.threshold 4000
set_option maxRecDepth 20000

set_option maxHeartbeats 4000000 in
theorem decode_ok (b0 b1 : Nat) (r : List Nat) (h0 : b0 < 256) (h1 : b1 < 256) (hr : ∀ b ∈ r, b < 256) (hl : r.length ≤ 280) : CallOK Try.prog 21 [byV (b0 :: b1 :: r)] [] (DecQ b0 b1 r.length (valB r)) := by
  refine CallOK.of cF21 ?_ (Nat.le_of_ble_eq_true rfl)
  obtain ⟨hR, hV⟩ := valB_spec r hr
  generalize valB r = V at *
  have el : (bytR (b0 :: b1 :: r)).length = r.length + 2 := by rw [bytR_len]; rfl
  have er := bytR_len r
  have x0 : rowIx (bytR (b0 :: b1 :: r)) 0 = some [.sc (.int .u8 (b0 : Int))] := rfl
  have x1 : rowIx (bytR (b0 :: b1 :: r)) 1 = some [.sc (.int .u8 (b1 : Int))] := rfl
  have c1 : decide (282 < r.length + 2) = false := decide_eq_false (by omega)
  have c2 : decide (r.length + 2 < 2) = false := decide_eq_false (by omega)
  unfold byV
  refine walkSuE3 ?_
  rw [el, c1]
  refine walkSuE3 ?_
  rw [el, c2]
  refine walkSuE3 ?_
  refine Reg.c (Nat.zero_le _) rfl ((new_at _).mono ?_)
  rintro res H' ⟨rfl, rfl⟩
  refine walkSuE3 ?_
  refine DK.nil ⟨by kernel_rfl, ?_⟩
  refine AWP.sub (fr' := [(1, .ptr 0 0 0 0), (4, .ptr 2 0 0 0)]) (H' := [[.cells 1 [[.list 1 (bytR (b0 :: b1 :: r))]]], [.cells 41 [(decF b0 0).acc true]], [.cells 1 [[.ptr 1 0 0 0]]]]) ?_ ?_
  · exact Sub.wx [] [[(0,0)],[(1,0)],[(2,0)]]
  refine AWP.seq ?_
  refine AWP.seq ?_
  refine AWP.region ?_
  refine wr1 ?_
  refine Reg.o rfl (dstep_sl1 (rows := bytR (b0 :: b1 :: r)) (l := 2) (h := r.length + 2) rfl (by rw [el]; exact sb_from (q := 2) rfl (by omega))) ?_
  rw [show ((bytR (b0 :: b1 :: r)).drop 2).take (r.length + 2 - 2) = bytR r by
    rw [show (bytR (b0 :: b1 :: r)).drop 2 = bytR r from rfl]
    exact List.take_of_length_le (by omega)]
  have hbk := backward_ok (bytR r) (prs _)
  refine wv9 ?_
  refine Reg.nil ?_
  refine AWP.block ?_
  refine AWP.sub (fr' := [(1, .ptr 0 0 0 0), (4, .ptr 2 0 0 0), (57, .clo (.func 97) [] [.cptr [.list 1 (bytR r)]])]) (H' := [[.cells 1 [[.list 1 (bytR (b0 :: b1 :: r))]]], [.cells 41 [(decF b0 0).acc true]], [.cells 1 [[.ptr 1 0 0 0]]]]) ?_ ?_
  · exact Sub.wx [] [[(0,0)],[(1,0)],[(2,0)]]
  refine AWP.rangeF rfl (Nat.zero_le _) rfl fun L hL => ?_
  refine (back_ok (bytR r) (by omega) 3 0
    (fun j H => H = [[.cells 1 [[.list 1 (bytR (b0 :: b1 :: r))]]], [.cells 41 [(decF b0 (V % 256 ^ j)).acc true]], [.cells 1 [[.ptr 1 0 0 0]]], [.lp L [(1, .ptr 0 0 0 0), (4, .ptr 2 0 0 0), (57, .clo (.func 97) [] [.cptr [.list 1 (bytR r)]])] .ready none]]) (fun _ => False) _
    (by rw [Nat.pow_zero, Nat.mod_one]; rfl) (fun j H h => by subst h; exact Nat.le_refl _) ?_ (fun q hq => by obtain ⟨b, _, rfl⟩ := List.mem_map.1 hq; rfl)).mono ?_
  · rintro j H c hj rfl hc
    rw [er] at hj hc ⊢
    have hcd : c = u8c (dg V j) := by
      rw [hR, bR_get (by omega), show r.length - 1 - (r.length - 1 - j) = j by omega] at hc
      injection hc with hc
      injection hc with hc
      exact hc.symm
    subst hcd
    refine ⟨L, _, _, _, _, _, hL, rfl, rfl, ?_⟩
    refine walkSuE3 ?_
    refine ⟨rfl, _, rfl, ?_⟩
    refine AWP.fin ?_
    refine walkSuE3 ?_
    have hj' : (bytR (b0 :: b1 :: r)).length - 3 - (r.length - 1 - j) = j := by omega
    rw [hj']
    have hq : j / 8 < 36 := by omega
    have hwl := wd_lt' (V % 256 ^ j) (j / 8)
    have hdl := dg_lt V j
    have hsh : dg V j * 2 ^ (8 * (j % 8)) % 18446744073709551616 < 18446744073709551616 := Nat.mod_lt _ (by decide)
    refine DK.o rfl (dstep_idxArr (q := j / 8) rfl rfl rfl hq) ?_
    refine DK.o rfl (dstep_ld1 (c := .sc (.int .u64 (wd (V % 256 ^ j) (j / 8) : Nat))) rfl rfl rfl (by rw [show 0 + 1 + 0 + j / 8 * 1 = 1 + j / 8 by omega]; exact acc_get (s := decF b0 (V % 256 ^ j)) hq)) ?_
    unfold u8c
    refine walkSuE3 ?_
    refine DK.o rfl (dstep_idxArr (q := j / 8) rfl rfl rfl hq) ?_
    refine DK.on rfl (dstep_st1 rfl rfl rfl rfl (by rw [St.acc_len]; omega) rfl) ?_
    refine DK.nil ⟨by kernel_rfl, ?_⟩
    rw [show 0 + 1 + 0 + j / 8 * 1 = 1 + j / 8 by omega]
    have hset := acc_set (m := true) (s := decF b0 (V % 256 ^ j)) (q := j / 8) (V % 256 ^ (j + 1)) hq (fun i _ => wd_step)
    rw [hset]
    refine ⟨[], [[.cells 1 [[.list 1 (bytR (b0 :: b1 :: r))]]], [.cells 41 [(decF b0 (V % 256 ^ (j + 1))).acc true]], [.cells 1 [[.ptr 1 0 0 0]]], [.lp L [(1, .ptr 0 0 0 0), (4, .ptr 2 0 0 0), (57, .clo (.func 97) [] [.cptr [.list 1 (bytR r)]])] .busy none]], ?_, _, rfl, .inl ⟨rfl, rfl⟩⟩
    (apply Sub.to [] [[(0,0)],[(1,0)],[(2,0)],[(3,0)]]; all_goals (repeat' (first | exact ToAll.nil | exact famsTo.nil | exact famTo.nil | exact ToL.nil | exact ToR.nil | refine ToAll.cons ?_ ?_ | refine famsTo.cons ?_ ?_ | refine wt10 ?_ ?_ | exact To.undef _ | exact To.sc _ | exact To.hslL rfl rfl | exact To.ptrO rfl rfl rfl | exact To.mrefO rfl | exact To.nil rfl rfl rfl | exact wt1 | exact To.nilL | refine To.int ?_ | refine To.bool ?_ | refine To.hslL rfl ?_ | refine wt2 rfl ?_ ?_ ?_ | refine To.tupL ?_ | refine To.aggL ?_ | refine To.cptrL ?_ | refine wt3 ?_ | refine wt4 ?_ | refine To.cloL ?_ ?_ | refine ToB.one ?_ | exact wt5 | refine wt6 ?_ | ((with_reducible apply ToL.consE); case e9 => rfl) | refine ToL.cons ?_ ?_ | exact wt7 | refine wt8 ?_ | exact wt11 | refine wt9 ?_ ?_ | refine wt12 ?_ | (with_reducible rfl) | assumption)); all_goals (first | rfl | assumption | (simp; done) | (simp; omega) | (rw [wrap_small (by omega) (by omega)]; done) | (rw [wrap_small (by omega) (by omega)]; omega) | (refine congrArg Nat.cast ?_; assumption) | skip))
    refine ToB.lp _ _ _ _ _ fun x hx => ?_
    simp only [List.mem_cons, List.not_mem_nil, or_false] at hx
    rcases hx with rfl | rfl | rfl
    · exact To.ptrO rfl rfl rfl
    · exact To.ptrO rfl rfl rfl
    · exact wt1
  · rintro _ H' (rfl | h)
    case inr => exact h.elim
    rw [er, Nat.mod_eq_of_lt hV]
    refine ⟨_, _, none, rfl, by decide, ?_⟩
    exact AWP.sub (by exact Sub.wx [] [[(0,0)],[(1,0)],[(2,0)]]) (dec_end b0 b1 r V h0 h1 hl hR hV)

end Go.Proofs.Ytnngbbiajioghaa
namespace Go.Proofs.Ytnngbbiajioghaa
open Go.Av Go.Proofs
set_option exponentiation.threshold 4000
set_option maxRecDepth 20000

/-! Decode, from whatever heap. -/
theorem frame_acc (n : Nat) (m : Bool) (s : St) : ∀ g i x', hget [[Blk.cells 41 [s.acc m]]] g i = some x' → x'.live = true → ∃ x, hget [[Blk.cells 41 [s.acc m]]] g i = some x ∧ RenB (beh n) x x' := fun g i x' hx _ => by
  obtain ⟨rfl, rfl, rfl⟩ := hget_one _ hx
  exact ⟨_, rfl, (pureB_acc m s).ren⟩
theorem ren_ptr (n : Nat) (v : Value) : Ren (beh n) (.tup [.ptr 0 0 0 0, .sc v]) (.tup [.ptr n 0 0 0, .sc v]) := by
  refine .tup _ _ rfl fun j x y hx hy => ?_
  cases j with
  | zero =>
    simp at hx hy; subst hx; subst hy
    exact .ptr _ _ _ _ _ _ (by rw [beh_ge (Nat.le_refl n), Nat.sub_self])
  | succ j =>
    cases j with
    | zero => simp at hx hy; subst hx; subst hy; exact .sc _
    | succ j => simp at hx

theorem decode_at (H : Heap) (b0 b1 : Nat) (r : List Nat) (h0 : b0 < 256) (h1 : b1 < 256) (hr : ∀ b ∈ r, b < 256) (hl : r.length ≤ 280) : CallOK Try.prog 21 [byV (b0 :: b1 :: r)] H fun res H' =>
    (okD b0 b1 r.length (valB r) = true ∧ res = .tup [.ptr H.length 0 0 0, .sc (.int .i64 0)] ∧ H' = H ++ [[.cells 41 [(decF b0 (decN b1 (valB r))).acc true]]]) ∨ (okD b0 b1 r.length (valB r) = false ∧ res = .tup [.sc (.pointer none), .sc (.int .i64 7)] ∧ H' = H) := by
  refine (decode_ok b0 b1 r h0 h1 hr hl).frame (fun a ha => by rw [List.mem_singleton.1 ha]; exact pv _) H ?_
  rintro res H0 (⟨e, rfl, rfl⟩ | ⟨e, rfl, rfl⟩)
  · exact ⟨_, _, ren_ptr _ _, frame_acc _ _ _, fun _ _ h => h, .inl ⟨e, rfl, rfl⟩⟩
  · exact ⟨_, [], .pure (pv _), fun g i x' hx _ => by simp [hget] at hx, fun _ _ h => h, .inr ⟨e, rfl, by rw [List.append_nil]⟩⟩
theorem decode_short_at (H : Heap) (l : List Nat) (hl : 282 < l.length ∨ l.length < 2) : CallOK Try.prog 21 [byV l] H fun res H' => res = .tup [.sc (.pointer none), .sc (.int .i64 (if 282 < l.length then 8 else 7))] ∧ H' = H := by
  refine (dec_short l hl).frame (fun a ha => by rw [List.mem_singleton.1 ha]; exact pv _) H ?_
  rintro res H0 ⟨rfl, rfl⟩
  exact ⟨_, [], .pure (pv _), fun g i x' hx _ => by simp [hget] at hx, fun _ _ h => h, rfl, by rw [List.append_nil]⟩

end Go.Proofs.Ytnngbbiajioghaa
namespace Go.Proofs.Ytnngbbiajioghaa
open Go.Av Go.Proofs
set_option exponentiation.threshold 4000
set_option maxRecDepth 20000

/-! The laws' own functions: reals, SameValues. -/
def u64R (l : List Nat) : List (List AV) := l.map fun b : Nat => [.sc (.int .u64 (b : Int))]
instance (l : List Nat) : PRs (u64R l) := ⟨fun r hr => by
  obtain ⟨a, _, rfl⟩ := List.mem_map.1 hr
  exact allPure_cons (.sc _) allPure_nil⟩
theorem u64R_len (l : List Nat) : (u64R l).length = l.length := by simp [u64R]
theorem u64R_ix (l : List Nat) (k : Nat) (h : k < l.length) : rowIx (u64R l) (k : Int) = some [.sc (.int .u64 (l[k] : Int))] := rowIx_map (fun b : Nat => [.sc (.int .u64 (b : Int))]) l k h
def reV (l : List Nat) : List Vl := l.map fun b => (b, 0)

theorem reals_ok (l : List Nat) (hl : l.length ≤ 100000) : PureRun Try.prog 56 [.list 1 (u64R l)] (vsV (reV l)) := by
  refine PureRun.mkI cF56 (Nat.le_of_ble_eq_true rfl) ?_
  have e0 := u64R_len l
  refine walkX ?_
  refine AWP.loop (fun k : Nat => [(0, .list 1 (u64R l)), (3, .hsl 0 0 0 k), (4, .sc (.int .i64 (k : Int)))]) (fun k => [[.cells 2 (vsR ((reV l).take k))]]) (fun k => k ≤ l.length) (fun k => l.length - k) 0 (Nat.zero_le _) ?_ ?_
  · exact Sub.w [2] [[(0,0)]]
  intro k hk
  have ek : (vsR ((reV l).take k)).length = k := by rw [vsR_len, List.length_take]; simp [reV]; omega
  refine walkX ?_
  rw [e0]
  refine AWP.condD rfl (fun h => ?_) (fun h => ?_)
  · have hr := u64R_ix l k h
    have ht : vsR ((reV l).take (k + 1)) = vsR ((reV l).take k) ++ [vrow (l[k], 0)] := by
      have hk2 : k < (reV l).length := by simp [reV]; omega
      rw [List.take_succ_eq_append_getElem hk2]
      simp [vsR, reV]
    generalize l[k] = x at *
    refine walkX ?_
    refine ⟨k + 1, by omega, by omega, ?_⟩
    rw [ht]
    exact Sub.w [] [[(2,0)]]
  · have hk2 : k = l.length := by omega
    subst hk2
    rw [List.take_of_length_le (by simp [reV])] at *
    refine walkX ?_
    exact EndP.w

theorem same_ok (l m : List Vl) (hm : m.length ≤ 1000000) : PureRun Try.prog 44 [vsV l, vsV m] (.sc (.bool (decide (l = m)))) := by
  refine PureRun.mkI cF44 (Nat.le_of_ble_eq_true rfl) ?_
  have e1 := vsR_len l
  have e2 := vsR_len m
  refine walkX ?_
  rw [e1, e2]
  refine AWP.condDn rfl (fun h => ?_) (fun h => ?_)
  · rw [decide_eq_false (fun e => h (by rw [e]))]
    refine walkX ?_
    exact EndP.w
  refine walkX ?_
  refine AWP.loop (fun i : Nat => [(0, vsV l), (1, vsV m), (5, .sc (.int .i64 (i : Int)))]) (fun _ => []) (fun i => i ≤ l.length ∧ l.take i = m.take i) (fun i => l.length - i) 0 ⟨Nat.zero_le _, rfl⟩ ?_ ?_
  · exact Sub.w [] []
  rintro i ⟨hi, hli⟩
  refine walkX ?_
  rw [e1]
  refine AWP.condD rfl (fun h1 => ?_) (fun h1 => ?_)
  · have r1 : rowIx (vsR l) (i : Int) = some (vR l[i].1 l[i].2) := vsR_ix l i h1
    have r2 : rowIx (vsR m) (i : Int) = some (vR (m[i]'(by omega)).1 (m[i]'(by omega)).2) := vsR_ix m i (by omega)
    have t1 : l.take (i + 1) = l.take i ++ [l[i]] := List.take_succ_eq_append_getElem h1
    have t2 : m.take (i + 1) = m.take i ++ [m[i]'(by omega)] := List.take_succ_eq_append_getElem (by omega)
    have hne : l[i] ≠ m[i]'(by omega) → l ≠ m := fun q e => q (by subst e; rfl)
    generalize l[i] = x at *
    generalize m[i]'(by omega) = y at *
    obtain ⟨x, p⟩ := x
    obtain ⟨y, q⟩ := y
    refine walkX ?_
    refine DK.nil ⟨by kernel_rfl, ?_⟩
    refine walkX ?_
    refine AWP.condN (¬ ((x, p) : Vl) = (y, q)) rfl ?_ (fun h2 => ?_) (fun h2 => ?_)
    · by_cases hx : x = y <;> by_cases hp : p = q <;> simp [hx, hp] <;> omega
    · rw [decide_eq_false (hne h2)]
      refine walkX ?_
      exact EndP.w
    · have h2 : ((x, p) : Vl) = (y, q) := Classical.byContradiction fun q => h2 q
      refine walkX ?_
      refine ⟨i + 1, ⟨by omega, by rw [t1, t2, hli, h2]⟩, by omega, ?_⟩
      exact Sub.w [] []
  · have e : l = m := by
      rw [List.take_of_length_le (by omega), List.take_of_length_le (by omega)] at hli
      exact hli
    rw [decide_eq_true e]
    refine walkX ?_
    exact EndP.w

end Go.Proofs.Ytnngbbiajioghaa
namespace Go.Proofs.Ytnngbbiajioghaa
open Go.Av Go.Proofs
set_option exponentiation.threshold 4000
set_option maxRecDepth 20000

/-! The examples of the chapter. -/

def ex1 : List Nat := [4877398396442247168, 4607182418800017408, 4877398396442247168 ||| 9223372036854775808]
def ex2 : List Nat := [4591870180066957722, 4591870180066957722, 4591870180066957722, 4591870180066957722, 4591870180066957722, 4591870180066957722, 4591870180066957722, 4591870180066957722, 4591870180066957722, 4591870180066957722]
def ex3 : List Nat := [9218868437227405312, 18442240474082181120]
theorem ex1_r : redS 1 2 (reV ex1) = ((4607182418800017408, 0), 0) := by kernel_rfl
theorem ex2_r : redS 1 2 (reV ex2) = ((4607182418800017408, 0), 0) := by kernel_rfl
theorem ex3_r : redS 1 2 (reV ex3) = ((9221120237041090560, 0), 0) := by kernel_rfl
theorem reV_lt {l : List Nat} (h : ∀ b ∈ l, b < 18446744073709551616) : ∀ v ∈ reV l, v.1 < 18446744073709551616 := fun v hv => by
  obtain ⟨b, hb, rfl⟩ := List.mem_map.1 hv
  exact h b hb

theorem ex4_r : doS 11 3 (7, 3) (7, 1) = ((7, 1), 0) := by kernel_rfl
theorem ex5_r : scanS 1 1 (reV [1, 2, 3]) = ([(1, 0), (3, 0), (6, 0)], 0) := by kernel_rfl
theorem ex6_r : okD 16 0 1 (valB [1]) = true := by kernel_rfl
theorem ex7_r : okD 0 0 1 (valB [0]) = false := by kernel_rfl
theorem ex8_r : (decF 16 (decN 0 (valB [1]))).value = 1 := by kernel_rfl
def ex9 : St := decF 16 (decN 0 (valB [1]))
def ex10 : St := (mergeR ex9 (oneS 9223372036854776065)).2
theorem ex9_r : (mergeR ex9 (oneS 9223372036854776065)).1 = 0 := by kernel_rfl
theorem ex11_r : encV ex10 = byV [16, 1, 1, 0] := by kernel_rfl
theorem ex12_r : compareS 9223372036854775808 0 = -1 := by kernel_rfl

set_option maxHeartbeats 4000000 in
set_option maxRecDepth 200000 in
theorem works_ok : PureRun Try.prog 20 [] (.sc (.bool true)) := by
  refine PureRun.mkI cF20 (Nat.le_of_ble_eq_true rfl) ?_
  have a1 := reals_ok ex1 (by decide)
  have a2 := reals_ok ex2 (by decide)
  have a3 := reals_ok ex3 (by decide)
  have b1 := red_ok 1 2 (reV ex1) (by decide) (reV_lt (by decide))
  have b2 := red_ok 1 2 (reV ex2) (by decide) (reV_lt (by decide))
  have b3 := red_ok 1 2 (reV ex3) (by decide) (reV_lt (by decide))
  rw [ex1_r] at b1
  rw [ex2_r] at b2
  rw [ex3_r] at b3
  refine walkX ?_
  refine Reg.sub (fr' := [(1, .sc (.int .u64 4877398396442247168)), (2, .sc (.int .u64 4607182418800017408)), (3, .sc (.int .u64 4591870180066957722)), (19, .list 1 (u64R ex1))]) (H' := []) ?_ ?_
  · exact Sub.w [] []
  refine walkX ?_
  refine Reg.sub (fr' := [(2, .sc (.int .u64 4607182418800017408)), (4, .ptr 0 0 0 0), (5, .sc (.int .i64 0)), (35, .list 1 (u64R ex2))]) (H' := [[.cells 2 [vR 4607182418800017408 0]]]) ?_ ?_
  · exact Sub.w [] [[(0,0)]]
  refine walkX ?_
  refine Reg.sub (fr' := [(2, .sc (.int .u64 4607182418800017408)), (4, .ptr 0 0 0 0), (5, .sc (.int .i64 0)), (6, .ptr 1 0 0 0), (7, .sc (.int .i64 0)), (41, .list 1 (u64R ex3))]) (H' := [[.cells 2 [vR 4607182418800017408 0]], [.cells 2 [vR 4607182418800017408 0]]]) ?_ ?_
  · exact Sub.w [] [[(0,0)],[(1,0)]]
  have k1 := check_ok 2 2
  have k2 := check_ok 10 3
  have k3 := check_ok 0 1
  rw [show checkE 2 2 = 13 from by decide] at k1
  rw [show checkE 10 3 = 0 from by decide] at k2
  rw [show checkE 0 1 = 2 from by decide] at k3
  have d1 := do_ok 11 3 (7, 3) (7, 1) (by decide) (by decide)
  rw [ex4_r] at d1
  have a4 := reals_ok [1, 2, 3] (by decide)
  have s1 := scan_ok 1 1 (reV [1, 2, 3]) (by decide) (reV_lt (by decide))
  rw [ex5_r] at s1
  refine walkX ?_
  refine Reg.sub (fr' := [(5, .sc (.int .i64 0)), (10, .ptr 0 0 0 0), (90, .list 1 (u64R [1, 2, 3]))]) (H' := [[.cells 2 [vR 7 1]]]) ?_ ?_
  · exact Sub.w [] [[(3,0)]]
  have a5 := reals_ok [1, 3, 6] (by decide)
  have s2 := same_ok [(1, 0), (3, 0), (6, 0)] (reV [1, 3, 6]) (by decide)
  rw [show decide (([(1, 0), (3, 0), (6, 0)] : List Vl) = reV [1, 3, 6]) = true from rfl] at s2
  refine walkX ?_
  refine Reg.sub (fr' := [(106, .sc (.bool false)), (107, vsV [(1, 0), (3, 0), (6, 0)]), (108, .list 1 (u64R [1, 3, 6]))]) (H' := []) ?_ ?_
  · exact Sub.w [] []
  refine walkX ?_
  refine Reg.sub (fr' := [(114, byV [16, 0, 1])]) (H' := []) ?_ ?_
  · exact Sub.w [] []
  refine Reg.c (Nat.zero_le _) rfl ((decode_at [] 16 0 [1] (by decide) (by decide) (by decide) (by decide)).mono ?_)
  rintro res H' (⟨_, rfl, rfl⟩ | ⟨e, _⟩)
  case inr => rw [show [1].length = 1 from rfl, ex6_r] at e; cases e
  obtain ⟨s9, h9⟩ : ∃ s, s = ex9 := ⟨_, rfl⟩
  obtain ⟨s10, h10⟩ : ∃ s, s = ex10 := ⟨_, rfl⟩
  have r9 : (mergeR s9 (oneS 9223372036854776065)).1 = 0 ∧ (mergeR s9 (oneS 9223372036854776065)).2 = s10 := by
    rw [h9, h10]
    exact ⟨ex9_r, rfl⟩
  have n9 : s9.n < 2 ^ 2304 := by rw [h9]; decide
  have e9 : s9.value = 1 := by rw [h9]; exact ex8_r
  have v9 := value_ok s9 n9
  rw [e9] at v9
  have n10 : s10.n < 2 ^ 2304 := by rw [h10]; decide
  have z10 : s10.zero ≤ 2 := by rw [h10]; decide
  have e10 : encV s10 = byV [16, 1, 1, 0] := by rw [h10]; exact ex11_r
  rw [show decF 16 (decN 0 (valB [1])) = ex9 from rfl, ← h9]
  clear h9 h10
  refine walkX ?_
  refine Reg.sub (fr' := [(5, .sc (.int .i64 0)), (12, .ptr 0 0 0 0), (119, byV [0, 0, 0])]) (H' := [[.cells 41 [s9.acc true]]]) ?_ ?_
  · exact Sub.w [] [[(0,0)]]
  refine Reg.c (Nat.zero_le _) rfl ((decode_at [[.cells 41 [s9.acc true]]] 0 0 [0] (by decide) (by decide) (by decide) (by decide)).mono ?_)
  rintro res H' (⟨e, _⟩ | ⟨_, rfl, rfl⟩)
  case inl => rw [show [0].length = 1 from rfl, ex7_r] at e; cases e
  refine walkX ?_
  refine Reg.c (Nat.zero_le _) rfl ((look_at (a := s9) (m := true) rfl v9).mono ?_)
  rintro res H' ⟨rfl, rfl⟩
  refine walkX ?_
  refine Reg.c (Nat.zero_le _) rfl ((add_at (a := s9) rfl (b := 9223372036854776065) (by decide)).mono ?_)
  rintro res H' ⟨rfl, rfl⟩
  rw [r9.1, r9.2]
  refine walkX ?_
  refine Reg.c (Nat.zero_le _) rfl ((encode_at (s := s10) rfl n10 z10).mono ?_)
  rintro res H' ⟨rfl, rfl⟩
  rw [e10]
  have c12 := compare_ok (a := 9223372036854775808) (b := 0) (by decide) (by decide)
  rw [ex12_r] at c12
  refine walkX ?_
  refine Reg.sub (fr' := [(153, .sc (.bool true))]) (H' := []) (Sub.to [] [] (.cons (To.bool (by kernel_rfl)) .nil) trivial rfl rfl rfl) ?_
  refine walkX ?_
  exact EndP.w

end Go.Proofs.Ytnngbbiajioghaa
