import Derived.Test.YtnngbbiajioghaaGSuG3
import Derived.Test.YtnngbbiajioghaaGSuW2
import Derived.Test.YtnngbbiajioghaaGSuL4
namespace Go.Proofs.Ytnngbbiajioghaa
open Go.Av Go.Proofs
set_option exponentiation.threshold 4000
set_option maxRecDepth 20000

/-! The document's Decode. -/

theorem rdec_short (H : Heap) (l : List Nat) (hl : 282 < l.length ∨ l.length < 2) : CallOK Try.prog 22 [byV l] H fun res H' => res = .tup [.sc (.pointer none), .sc (.int .i64 (if 282 < l.length then 8 else 7))] ∧ H' = H := by
  refine CallOK.of cF22 ?_ (Nat.le_of_ble_eq_true rfl)
  have el := bytR_len l
  unfold byV
  refine walkX0 ?_
  rw [el]
  refine AWP.condD rfl (fun h => ?_) (fun h => ?_)
  · rw [if_pos h]
    refine walkX0 ?_
    exact ⟨.inr rfl, _, _, _, rfl, .refl _ _ _, rfl, rfl⟩
  · rw [if_neg h]
    refine walkX0 ?_
    rw [el]
    refine AWP.condD rfl (fun h => ?_) (fun h2 => absurd (hl.resolve_left h) h2)
    refine walkX0 ?_
    exact ⟨.inr rfl, _, _, _, rfl, .refl _ _ _, rfl, rfl⟩

/-- The document's sum of bytes. -/
def rdecF (b0 b1 V : Nat) : Rs := ⟨decide (b1 = 1), V, decide (b0 % 2 = 1), decide (b0 / 2 % 2 = 1), decide (b0 / 4 % 2 = 1), b0 / 8⟩

def hd1 : List Nat → Nat
  | [] => 1
  | c :: _ => c
def rbad (b0 b1 : Nat) (r : List Nat) : Bool :=
  decide (2 < b0 / 8) || (decide (1 < b1) || ((!decide (r.length = 0) && decide (hd1 r = 0)) || ((decide (r.length = 0) && decide (b1 = 1)) || (decide (b0 / 8 < 2) && (!decide (r.length = 0) || !decide (b0 % 8 = 0))))))

theorem valB_cons (c : Nat) (r : List Nat) (hr : ∀ b ∈ r, b < 256) : 256 ^ r.length * c ≤ valB (c :: r) ∧ valB (c :: r) < 256 ^ r.length * (c + 1) := by
  suffices ∀ (r : List Nat), (∀ b ∈ r, b < 256) → ∀ N, 256 ^ r.length * N ≤ r.foldl (fun a b => 256 * a + b) N ∧ r.foldl (fun a b => 256 * a + b) N < 256 ^ r.length * (N + 1) by
    have := this r hr c
    unfold valB
    simpa using this
  intro r
  induction r with
  | nil => intro _ N; simp
  | cons b r ih =>
    intro h N
    have hb := h b (List.mem_cons_self ..)
    obtain ⟨h1, h2⟩ := ih (fun d hd => h d (List.mem_cons_of_mem _ hd)) (256 * N + b)
    simp only [List.foldl_cons, List.length_cons, Nat.pow_succ]
    have hp : 0 < 256 ^ r.length := Nat.pow_pos (by decide)
    constructor
    · refine Nat.le_trans ?_ h1
      rw [Nat.mul_assoc]
      exact Nat.mul_le_mul_left _ (by omega)
    · refine Nat.lt_of_lt_of_le h2 ?_
      rw [Nat.mul_assoc]
      exact Nat.mul_le_mul_left _ (by omega)

theorem nb_valB (r : List Nat) (hr : ∀ b ∈ r, b < 256) : nb (valB r) = r.length ↔ (r.length = 0 ∨ hd1 r ≠ 0) := by
  cases r with
  | nil => simp [valB, nb_zero]
  | cons c r =>
    have hc := hr c (List.mem_cons_self ..)
    obtain ⟨h1, h2⟩ := valB_cons c r (fun b hb => hr b (List.mem_cons_of_mem _ hb))
    have hp : 0 < 256 ^ r.length := Nat.pow_pos (by decide)
    have h3 := nb_le (valB (c :: r)) r.length
    have h4 := nb_le (valB (c :: r)) (r.length + 1)
    have h5 : valB (c :: r) < 256 ^ (r.length + 1) := by
      refine Nat.lt_of_lt_of_le h2 ?_
      rw [Nat.pow_succ]
      exact Nat.mul_le_mul_left _ (by omega)
    have h6 := h4.2 h5
    simp only [List.length_cons, Nat.add_eq_zero_iff, Nat.one_ne_zero, and_false, false_or, hd1]
    by_cases hc0 : c = 0
    · subst hc0
      rw [Nat.zero_add, Nat.mul_one] at h2
      have := h3.2 h2
      omega
    · have h7 : ¬ valB (c :: r) < 256 ^ r.length := by
        have : 256 ^ r.length * 1 ≤ 256 ^ r.length * c := Nat.mul_le_mul_left _ (by omega)
        omega
      have : ¬ nb (valB (c :: r)) ≤ r.length := fun h => h7 (h3.1 h)
      omega

theorem okD_bad (b0 b1 : Nat) (r : List Nat) (hr : ∀ b ∈ r, b < 256) : okD b0 b1 r.length (valB r) = !rbad b0 b1 r := by
  have h1 := nb_valB r hr
  have h2 := nb_pos (valB r)
  have h3 : r.length = 0 → valB r = 0 := fun h => by
    cases r with
    | nil => rfl
    | cons => simp at h
  unfold okD rbad
  by_cases hn : nb (valB r) = r.length
  · have e1 : decide (valB r = 0) = decide (r.length = 0) := by
      rw [Bool.eq_iff_iff]; simp only [decide_eq_true_eq]; omega
    have e2 : decide (0 < valB r) = !decide (r.length = 0) := by
      rw [Bool.eq_iff_iff]; simp only [decide_eq_true_eq, Bool.not_eq_true', decide_eq_false_iff_not]; omega
    have e3 : (!decide (r.length = 0) && decide (hd1 r = 0)) = false := by
      rcases h1.1 hn with h | h
      · rw [decide_eq_true h]; rfl
      · rw [decide_eq_false h, Bool.and_false]
    rw [e1, e2, e3, decide_eq_true hn]
    generalize decide (r.length = 0) = z
    generalize decide (b0 % 8 = 0) = m
    cases z <;> cases m <;> rw [Bool.eq_iff_iff] <;> simp <;> omega
  · have e3 : (!decide (r.length = 0) && decide (hd1 r = 0)) = true := by
      by_cases hz : r.length = 0
      · exact absurd (h1.2 (.inl hz)) hn
      · by_cases hh : hd1 r = 0
        · rw [decide_eq_false hz, decide_eq_true hh]; rfl
        · exact absurd (h1.2 (.inr hh)) hn
    rw [e3, decide_eq_false hn]
    simp

theorem nb_quo8 {a b : Nat} (h : 0 < b) (h2 : a < 256) : NBin .quo .u8 .u8 a b (.int .u8 ((a / b : Nat) : Int)) := .mk fun t => by
  show Sem.pure? (Op.intDiv .quo .u8 (a : Int) (b : Int)) = _
  unfold Op.intDiv
  rw [if_neg (by omega)]
  show some (Value.int .u8 (IntKind.u8.wrap ((a : Int).tdiv (b : Int)))) = _
  have : a / b < 256 := Nat.lt_of_le_of_lt (Nat.div_le_self _ _) h2
  rw [show (a : Int).tdiv (b : Int) = ((a / b : Nat) : Int) from rfl, wrapB, Nat.mod_eq_of_lt this]
section
variable {P : Program} {base j : Nat} {xs : List IOper} {fr : Fr} {H : Heap} {acc : List RRec} {KD : List RRec → Fr → Heap → Prop} {d : Nat} {gd : Option (Nat × Bool)}
theorem sq8 {t : TypeId} {x y : Operand} {a b : Nat} (h : DK P base (j + 1) xs ((d, .sc (.int .u8 ((a / b : Nat) : Int))) :: fr) H (⟨⟨some d, gd, .op (.bin .quo t x y)⟩, (base, j), .sc (.int .u8 ((a / b : Nat) : Int)), drd fr (.bin .quo t x y), dwr base j fr (.bin .quo t x y)⟩ :: acc) KD)
    (hg : gok fr gd = some true := by rfl) {na nb : Int} (hx : ev fr x = .sc (.int .u8 na) := by rfl) (hy : ev fr y = .sc (.int .u8 nb) := by rfl) (ha : na = (a : Int) := by first | with_reducible rfl | exact natlit _) (hb : nb = (b : Int) := by first | with_reducible rfl | exact natlit _)
    (h0 : 0 < b := by omega) (h2 : a < 256 := by omega) : DK P base j (⟨some d, gd, .op (.bin .quo t x y)⟩ :: xs) fr H acc KD := .o hg (dstep_nb (by rw [hx, ha]) (by rw [hy, hb]) (nb_quo8 h0 h2)) h
end

/-- What the document's Decode is to give. -/
def RDecQ (b0 b1 : Nat) (r : List Nat) (res : AV) (H' : Heap) : Prop :=
  (rbad b0 b1 r = false ∧ res = .tup [.ptr 0 0 0 0, .sc (.int .i64 0)] ∧ H' = [[.cells 6 [(rdecF b0 b1 (valB r)).row]]]) ∨ (rbad b0 b1 r = true ∧ res = .tup [.sc (.pointer none), .sc (.int .i64 7)] ∧ H' = [])

theorem RDecQ_bad {b0 b1 : Nat} {r : List Nat} (h : rbad b0 b1 r = true) : RDecQ b0 b1 r (.tup [.sc (.pointer none), .sc (.int .i64 7)]) [] := .inr ⟨h, rfl, rfl⟩
theorem RDecQ_good {b0 b1 : Nat} {r : List Nat} (h : rbad b0 b1 r = false) : RDecQ b0 b1 r (.tup [.ptr 0 0 0 0, .sc (.int .i64 0)]) [[.cells 6 [(rdecF b0 b1 (valB r)).row]]] := .inl ⟨h, rfl, rfl⟩

set_option maxHeartbeats 4000000 in
theorem rdec_ok (b0 b1 : Nat) (r : List Nat) (h0 : b0 < 256) (_h1 : b1 < 256) (hr : ∀ b ∈ r, b < 256) (hl : r.length ≤ 280) : CallOK Try.prog 22 [byV (b0 :: b1 :: r)] [] (RDecQ b0 b1 r) := by
  refine CallOK.of cF22 ?_ (Nat.le_of_ble_eq_true rfl)
  have el : (bytR (b0 :: b1 :: r)).length = r.length + 2 := by rw [bytR_len]; rfl
  have er := bytR_len r
  have x0 : rowIx (bytR (b0 :: b1 :: r)) 0 = some [.sc (.int .u8 (b0 : Int))] := rfl
  have x1 : rowIx (bytR (b0 :: b1 :: r)) 1 = some [.sc (.int .u8 (b1 : Int))] := rfl
  unfold byV
  refine walkX0 ?_
  rw [el, show decide (282 < r.length + 2) = false from decide_eq_false (by omega)]
  refine walkX0 ?_
  rw [el, show decide (r.length + 2 < 2) = false from decide_eq_false (by omega)]
  refine walkX0 ?_
  refine AWP.dk mixed ?_
  refine walkR ?_
  refine DK.o rfl (dstep_sl1 (rows := bytR (b0 :: b1 :: r)) (l := 2) (h := r.length + 2) rfl (by rw [el]; exact sb_from (q := 2) rfl (by omega))) ?_
  rw [show ((bytR (b0 :: b1 :: r)).drop 2).take (r.length + 2 - 2) = bytR r by
    rw [show (bytR (b0 :: b1 :: r)).drop 2 = bytR r from rfl]
    exact List.take_of_length_le (by omega)]
  have hb : (0 + (bytR r).length) * (1 + 1) ≤ 70368744177664 := by omega
  refine wd9 ?_ (rows1 := []) (rows2 := bytR r) (len := 0) (hb := hb)
  (repeat (first | refine sq8 ?_ | (first | refine wr13 ?_ | refine wd13 ?_ | refine wr14 ?_ | refine wv1 ?_ | refine wv2 ?_ | refine wv3 ?_ | refine wv4 ?_ | refine wv5 ?_ | refine wv6 ?_ | refine wv7 ?_ | refine wv8 ?_ | refine wv9 ?_ | refine wv10 ?_ | refine wr1 ?_ | refine wr2 ?_ | refine wr3 ?_ | refine wr4 ?_ | refine Reg.nil ?_ | refine wd1 ?_ | refine wd2 ?_ | refine wd3 ?_ | refine wd4 ?_ | refine wr5 ?_ | refine wr6 ?_ | refine wr7 ?_ | refine wr8 ?_ | refine wr9 ?_ | refine wr10 ?_ | refine wd5 ?_ | refine wd6 ?_ | refine wd7 ?_ | refine wd8 ?_ | refine wd9 ?_ | refine wd10 ?_ | refine wr11 ?_ | refine wr12 ?_ | refine wd11 ?_ | refine wd12 ?_ )))
  refine DK.nil ⟨by kernel_rfl, ?_⟩
  refine AWP.sub (fr' := [(0, .list 1 (bytR (b0 :: b1 :: r))), (4, .ptr 0 0 0 0)]) (H' := [[.cells 6 [[.sc (.bool (decide (b1 = 1))), .list 1 (bytR r), .sc (.bool (decide (b0 % 2 = 1))), .sc (.bool (decide (b0 / 2 % 2 = 1))), .sc (.bool (decide (b0 / 4 % 2 = 1))), .sc (.int .i64 ((b0 / 8 : Nat) : Int))]]]]) ?_ ?_
  · exact Sub.wx [] [[(0,31)]]
  have hzl : r.length = 0 ∨ ∃ c q, r = c :: q := by
    cases r with
    | nil => exact .inl rfl
    | cons c q => exact .inr ⟨c, q, rfl⟩
  have hgood : rbad b0 b1 r = false → [AV.sc (.bool (decide (b1 = 1))), .list 1 (bytR r), .sc (.bool (decide (b0 % 2 = 1))), .sc (.bool (decide (b0 / 2 % 2 = 1))), .sc (.bool (decide (b0 / 4 % 2 = 1))), .sc (.int .i64 ((b0 / 8 : Nat) : Int))] = (rdecF b0 b1 (valB r)).row := fun h => by
    have h2 := okD_bad b0 b1 r hr
    rw [h] at h2
    unfold okD at h2
    simp only [Bool.not_false, Bool.and_eq_true, decide_eq_true_eq] at h2
    obtain ⟨h3, _⟩ := valB_spec r hr
    have h4 : bV (valB r) = .list 1 (bytR r) := by unfold bV; rw [h2.2, h3]
    show _ = [AV.sc (.bool (decide (b1 = 1))), bV (valB r), _, _, _, _]
    rw [h4]
    rfl
  have hz8 : b0 / 8 ≤ 9223372036854775807 := by omega
  refine walkX0 ?_
  rw [er]
  refine walkX0 ?_
  by_cases c1 : 2 < b0 / 8
  · rw [show decide (2 < b0 / 8) = true from decide_eq_true c1]
    refine walkX0 ?_
    (refine endH [] (by first | exact .inr rfl | exact .inl rfl) rfl (RDecQ_bad (by simp [rbad, c1])) ?_ ?_ rfl rfl rfl; all_goals (repeat' (first | exact ToAll.nil | exact famsTo.nil | exact famTo.nil | exact ToL.nil | exact ToR.nil | refine ToAll.cons ?_ ?_ | refine famsTo.cons ?_ ?_ | refine wt10 ?_ ?_ | exact To.undef _ | exact To.sc _ | exact To.hslL rfl rfl | exact To.ptrO rfl rfl rfl | exact To.mrefO rfl | exact To.nil rfl rfl rfl | exact wt1 | exact To.nilL | refine To.int ?_ | refine To.bool ?_ | refine To.hslL rfl ?_ | refine wt2 rfl ?_ ?_ ?_ | refine To.tupL ?_ | refine To.aggL ?_ | refine To.cptrL ?_ | refine wt3 ?_ | refine wt4 ?_ | refine To.cloL ?_ ?_ | exact wt5 | refine wt6 ?_ | refine ToB.one ?_ | exact wt7 | ((with_reducible apply ToL.consE); case e9 => rfl) | refine wt8 ?_ | refine ToL.cons ?_ ?_ | exact wt11 | refine wt9 ?_ ?_ | refine wt12 ?_ | (with_reducible rfl) | assumption)); all_goals (first | rfl | assumption | (simp; done) | (simp; omega) | (rw [wrap_small (by omega) (by omega)]; done) | (rw [wrap_small (by omega) (by omega)]; omega) | (refine congrArg Nat.cast ?_; assumption) | skip))
  rw [show decide (2 < b0 / 8) = false from decide_eq_false c1]
  refine walkX0 ?_
  by_cases c2 : 1 < b1
  · rw [show decide (1 < b1) = true from decide_eq_true c2]
    refine walkX0 ?_
    (refine endH [] (by first | exact .inr rfl | exact .inl rfl) rfl (RDecQ_bad (by simp [rbad, c2])) ?_ ?_ rfl rfl rfl; all_goals (repeat' (first | exact ToAll.nil | exact famsTo.nil | exact famTo.nil | exact ToL.nil | exact ToR.nil | refine ToAll.cons ?_ ?_ | refine famsTo.cons ?_ ?_ | refine wt10 ?_ ?_ | exact To.undef _ | exact To.sc _ | exact To.hslL rfl rfl | exact To.ptrO rfl rfl rfl | exact To.mrefO rfl | exact To.nil rfl rfl rfl | exact wt1 | exact To.nilL | refine To.int ?_ | refine To.bool ?_ | refine To.hslL rfl ?_ | refine wt2 rfl ?_ ?_ ?_ | refine To.tupL ?_ | refine To.aggL ?_ | refine To.cptrL ?_ | refine wt3 ?_ | refine wt4 ?_ | refine To.cloL ?_ ?_ | exact wt5 | refine wt6 ?_ | refine ToB.one ?_ | exact wt7 | ((with_reducible apply ToL.consE); case e9 => rfl) | refine wt8 ?_ | refine ToL.cons ?_ ?_ | exact wt11 | refine wt9 ?_ ?_ | refine wt12 ?_ | (with_reducible rfl) | assumption)); all_goals (first | rfl | assumption | (simp; done) | (simp; omega) | (rw [wrap_small (by omega) (by omega)]; done) | (rw [wrap_small (by omega) (by omega)]; omega) | (refine congrArg Nat.cast ?_; assumption) | skip))
  rw [show decide (1 < b1) = false from decide_eq_false c2]
  refine walkX0 ?_
  rcases hzl with hz | ⟨c, q, rfl⟩
  · rw [show decide (r.length = 0) = true from decide_eq_true hz]
    refine walkX0 ?_
    by_cases c3 : b1 = 1
    · rw [show decide (b1 = 1) = true from decide_eq_true c3]
      refine walkX0 ?_
      (refine endH [] (by first | exact .inr rfl | exact .inl rfl) rfl (RDecQ_bad (by simp [rbad, hz, c3])) ?_ ?_ rfl rfl rfl; all_goals (repeat' (first | exact ToAll.nil | exact famsTo.nil | exact famTo.nil | exact ToL.nil | exact ToR.nil | refine ToAll.cons ?_ ?_ | refine famsTo.cons ?_ ?_ | refine wt10 ?_ ?_ | exact To.undef _ | exact To.sc _ | exact To.hslL rfl rfl | exact To.ptrO rfl rfl rfl | exact To.mrefO rfl | exact To.nil rfl rfl rfl | exact wt1 | exact To.nilL | refine To.int ?_ | refine To.bool ?_ | refine To.hslL rfl ?_ | refine wt2 rfl ?_ ?_ ?_ | refine To.tupL ?_ | refine To.aggL ?_ | refine To.cptrL ?_ | refine wt3 ?_ | refine wt4 ?_ | refine To.cloL ?_ ?_ | exact wt5 | refine wt6 ?_ | refine ToB.one ?_ | exact wt7 | ((with_reducible apply ToL.consE); case e9 => rfl) | refine wt8 ?_ | refine ToL.cons ?_ ?_ | exact wt11 | refine wt9 ?_ ?_ | refine wt12 ?_ | (with_reducible rfl) | assumption)); all_goals (first | rfl | assumption | (simp; done) | (simp; omega) | (rw [wrap_small (by omega) (by omega)]; done) | (rw [wrap_small (by omega) (by omega)]; omega) | (refine congrArg Nat.cast ?_; assumption) | skip))
    rw [show decide (b1 = 1) = false from decide_eq_false c3] at hgood ⊢
    refine walkX0 ?_
    by_cases c4 : b0 / 8 < 2
    · rw [show decide (b0 / 8 < 2) = true from decide_eq_true c4]
      refine walkX0 ?_
      by_cases c5 : b0 % 8 = 0
      · rw [show decide (b0 % 8 = 0) = true from decide_eq_true c5]
        have hg : rbad b0 b1 r = false := by simp [rbad, hz, c1, c2, c3, c4, c5]
        rw [hgood hg]
        refine walkX0 ?_
        (refine endH [[(0,0)]] (by first | exact .inr rfl | exact .inl rfl) rfl (RDecQ_good hg) ?_ ?_ rfl rfl rfl; all_goals (repeat' (first | exact ToAll.nil | exact famsTo.nil | exact famTo.nil | exact ToL.nil | exact ToR.nil | refine ToAll.cons ?_ ?_ | refine famsTo.cons ?_ ?_ | refine wt10 ?_ ?_ | exact To.undef _ | exact To.sc _ | exact To.hslL rfl rfl | exact To.ptrO rfl rfl rfl | exact To.mrefO rfl | exact To.nil rfl rfl rfl | exact wt1 | exact To.nilL | refine To.int ?_ | refine To.bool ?_ | refine To.hslL rfl ?_ | refine wt2 rfl ?_ ?_ ?_ | refine To.tupL ?_ | refine To.aggL ?_ | refine To.cptrL ?_ | refine wt3 ?_ | refine wt4 ?_ | refine To.cloL ?_ ?_ | exact wt5 | refine wt6 ?_ | refine ToB.one ?_ | exact wt7 | ((with_reducible apply ToL.consE); case e9 => rfl) | refine wt8 ?_ | refine ToL.cons ?_ ?_ | exact wt11 | refine wt9 ?_ ?_ | refine wt12 ?_ | (with_reducible rfl) | assumption)); all_goals (first | rfl | assumption | (simp; done) | (simp; omega) | (rw [wrap_small (by omega) (by omega)]; done) | (rw [wrap_small (by omega) (by omega)]; omega) | (refine congrArg Nat.cast ?_; assumption) | skip))
      · rw [show decide (b0 % 8 = 0) = false from decide_eq_false c5]
        refine walkX0 ?_
        (refine endH [] (by first | exact .inr rfl | exact .inl rfl) rfl (RDecQ_bad (by simp [rbad, hz, c4, c5])) ?_ ?_ rfl rfl rfl; all_goals (repeat' (first | exact ToAll.nil | exact famsTo.nil | exact famTo.nil | exact ToL.nil | exact ToR.nil | refine ToAll.cons ?_ ?_ | refine famsTo.cons ?_ ?_ | refine wt10 ?_ ?_ | exact To.undef _ | exact To.sc _ | exact To.hslL rfl rfl | exact To.ptrO rfl rfl rfl | exact To.mrefO rfl | exact To.nil rfl rfl rfl | exact wt1 | exact To.nilL | refine To.int ?_ | refine To.bool ?_ | refine To.hslL rfl ?_ | refine wt2 rfl ?_ ?_ ?_ | refine To.tupL ?_ | refine To.aggL ?_ | refine To.cptrL ?_ | refine wt3 ?_ | refine wt4 ?_ | refine To.cloL ?_ ?_ | exact wt5 | refine wt6 ?_ | refine ToB.one ?_ | exact wt7 | ((with_reducible apply ToL.consE); case e9 => rfl) | refine wt8 ?_ | refine ToL.cons ?_ ?_ | exact wt11 | refine wt9 ?_ ?_ | refine wt12 ?_ | (with_reducible rfl) | assumption)); all_goals (first | rfl | assumption | (simp; done) | (simp; omega) | (rw [wrap_small (by omega) (by omega)]; done) | (rw [wrap_small (by omega) (by omega)]; omega) | (refine congrArg Nat.cast ?_; assumption) | skip))
    · rw [show decide (b0 / 8 < 2) = false from decide_eq_false c4]
      have hg : rbad b0 b1 r = false := by simp [rbad, hz, c1, c2, c3, c4]
      rw [hgood hg]
      refine walkX0 ?_
      (refine endH [[(0,0)]] (by first | exact .inr rfl | exact .inl rfl) rfl (RDecQ_good hg) ?_ ?_ rfl rfl rfl; all_goals (repeat' (first | exact ToAll.nil | exact famsTo.nil | exact famTo.nil | exact ToL.nil | exact ToR.nil | refine ToAll.cons ?_ ?_ | refine famsTo.cons ?_ ?_ | refine wt10 ?_ ?_ | exact To.undef _ | exact To.sc _ | exact To.hslL rfl rfl | exact To.ptrO rfl rfl rfl | exact To.mrefO rfl | exact To.nil rfl rfl rfl | exact wt1 | exact To.nilL | refine To.int ?_ | refine To.bool ?_ | refine To.hslL rfl ?_ | refine wt2 rfl ?_ ?_ ?_ | refine To.tupL ?_ | refine To.aggL ?_ | refine To.cptrL ?_ | refine wt3 ?_ | refine wt4 ?_ | refine To.cloL ?_ ?_ | exact wt5 | refine wt6 ?_ | refine ToB.one ?_ | exact wt7 | ((with_reducible apply ToL.consE); case e9 => rfl) | refine wt8 ?_ | refine ToL.cons ?_ ?_ | exact wt11 | refine wt9 ?_ ?_ | refine wt12 ?_ | (with_reducible rfl) | assumption)); all_goals (first | rfl | assumption | (simp; done) | (simp; omega) | (rw [wrap_small (by omega) (by omega)]; done) | (rw [wrap_small (by omega) (by omega)]; omega) | (refine congrArg Nat.cast ?_; assumption) | skip))
  · have hz2 : ¬ (c :: q).length = 0 := by simp
    rw [show decide ((c :: q).length = 0) = false from rfl]
    refine walkX0 ?_
    by_cases c3 : c = 0
    · rw [show decide (c = 0) = true from decide_eq_true c3]
      refine walkX0 ?_
      (refine endH [] (by first | exact .inr rfl | exact .inl rfl) rfl (RDecQ_bad (by simp [rbad, hd1, c3])) ?_ ?_ rfl rfl rfl; all_goals (repeat' (first | exact ToAll.nil | exact famsTo.nil | exact famTo.nil | exact ToL.nil | exact ToR.nil | refine ToAll.cons ?_ ?_ | refine famsTo.cons ?_ ?_ | refine wt10 ?_ ?_ | exact To.undef _ | exact To.sc _ | exact To.hslL rfl rfl | exact To.ptrO rfl rfl rfl | exact To.mrefO rfl | exact To.nil rfl rfl rfl | exact wt1 | exact To.nilL | refine To.int ?_ | refine To.bool ?_ | refine To.hslL rfl ?_ | refine wt2 rfl ?_ ?_ ?_ | refine To.tupL ?_ | refine To.aggL ?_ | refine To.cptrL ?_ | refine wt3 ?_ | refine wt4 ?_ | refine To.cloL ?_ ?_ | exact wt5 | refine wt6 ?_ | refine ToB.one ?_ | exact wt7 | ((with_reducible apply ToL.consE); case e9 => rfl) | refine wt8 ?_ | refine ToL.cons ?_ ?_ | exact wt11 | refine wt9 ?_ ?_ | refine wt12 ?_ | (with_reducible rfl) | assumption)); all_goals (first | rfl | assumption | (simp; done) | (simp; omega) | (rw [wrap_small (by omega) (by omega)]; done) | (rw [wrap_small (by omega) (by omega)]; omega) | (refine congrArg Nat.cast ?_; assumption) | skip))
    rw [show decide (c = 0) = false from decide_eq_false c3]
    refine walkX0 ?_
    by_cases c4 : b0 / 8 < 2
    · rw [show decide (b0 / 8 < 2) = true from decide_eq_true c4]
      refine walkX0 ?_
      (refine endH [] (by first | exact .inr rfl | exact .inl rfl) rfl (RDecQ_bad (by simp [rbad, c4])) ?_ ?_ rfl rfl rfl; all_goals (repeat' (first | exact ToAll.nil | exact famsTo.nil | exact famTo.nil | exact ToL.nil | exact ToR.nil | refine ToAll.cons ?_ ?_ | refine famsTo.cons ?_ ?_ | refine wt10 ?_ ?_ | exact To.undef _ | exact To.sc _ | exact To.hslL rfl rfl | exact To.ptrO rfl rfl rfl | exact To.mrefO rfl | exact To.nil rfl rfl rfl | exact wt1 | exact To.nilL | refine To.int ?_ | refine To.bool ?_ | refine To.hslL rfl ?_ | refine wt2 rfl ?_ ?_ ?_ | refine To.tupL ?_ | refine To.aggL ?_ | refine To.cptrL ?_ | refine wt3 ?_ | refine wt4 ?_ | refine To.cloL ?_ ?_ | exact wt5 | refine wt6 ?_ | refine ToB.one ?_ | exact wt7 | ((with_reducible apply ToL.consE); case e9 => rfl) | refine wt8 ?_ | refine ToL.cons ?_ ?_ | exact wt11 | refine wt9 ?_ ?_ | refine wt12 ?_ | (with_reducible rfl) | assumption)); all_goals (first | rfl | assumption | (simp; done) | (simp; omega) | (rw [wrap_small (by omega) (by omega)]; done) | (rw [wrap_small (by omega) (by omega)]; omega) | (refine congrArg Nat.cast ?_; assumption) | skip))
    · rw [show decide (b0 / 8 < 2) = false from decide_eq_false c4]
      have hg : rbad b0 b1 (c :: q) = false := by simp [rbad, hd1, c1, c2, c3, c4]
      rw [hgood hg]
      refine walkX0 ?_
      (refine endH [[(0,0)]] (by first | exact .inr rfl | exact .inl rfl) rfl (RDecQ_good hg) ?_ ?_ rfl rfl rfl; all_goals (repeat' (first | exact ToAll.nil | exact famsTo.nil | exact famTo.nil | exact ToL.nil | exact ToR.nil | refine ToAll.cons ?_ ?_ | refine famsTo.cons ?_ ?_ | refine wt10 ?_ ?_ | exact To.undef _ | exact To.sc _ | exact To.hslL rfl rfl | exact To.ptrO rfl rfl rfl | exact To.mrefO rfl | exact To.nil rfl rfl rfl | exact wt1 | exact To.nilL | refine To.int ?_ | refine To.bool ?_ | refine To.hslL rfl ?_ | refine wt2 rfl ?_ ?_ ?_ | refine To.tupL ?_ | refine To.aggL ?_ | refine To.cptrL ?_ | refine wt3 ?_ | refine wt4 ?_ | refine To.cloL ?_ ?_ | exact wt5 | refine wt6 ?_ | refine ToB.one ?_ | exact wt7 | ((with_reducible apply ToL.consE); case e9 => rfl) | refine wt8 ?_ | refine ToL.cons ?_ ?_ | exact wt11 | refine wt9 ?_ ?_ | refine wt12 ?_ | (with_reducible rfl) | assumption)); all_goals (first | rfl | assumption | (simp; done) | (simp; omega) | (rw [wrap_small (by omega) (by omega)]; done) | (rw [wrap_small (by omega) (by omega)]; omega) | (refine congrArg Nat.cast ?_; assumption) | skip))

theorem rdec_at (H : Heap) (b0 b1 : Nat) (r : List Nat) (h0 : b0 < 256) (h1 : b1 < 256) (hr : ∀ b ∈ r, b < 256) (hl : r.length ≤ 280) : CallOK Try.prog 22 [byV (b0 :: b1 :: r)] H fun res H' =>
    (rbad b0 b1 r = false ∧ res = .tup [.ptr H.length 0 0 0, .sc (.int .i64 0)] ∧ H' = H ++ [[.cells 6 [(rdecF b0 b1 (valB r)).row]]]) ∨ (rbad b0 b1 r = true ∧ res = .tup [.sc (.pointer none), .sc (.int .i64 7)] ∧ H' = H) := by
  refine (rdec_ok b0 b1 r h0 h1 hr hl).frame (fun a ha => by rw [List.mem_singleton.1 ha]; exact pv _) H ?_
  rintro res H0 (⟨e, rfl, rfl⟩ | ⟨e, rfl, rfl⟩)
  · refine ⟨_, _, ren_ptr _ _, fun g i x' hx _ => ?_, fun _ _ h => h, .inl ⟨e, rfl, rfl⟩⟩
    obtain ⟨rfl, rfl, rfl⟩ := hget_one _ hx
    exact ⟨_, rfl, (pureB_rrow _).ren⟩
  · exact ⟨_, [], .pure (pv _), fun g i x' hx _ => by simp [hget] at hx, fun _ _ h => h, .inr ⟨e, rfl, by rw [List.append_nil]⟩⟩

end Go.Proofs.Ytnngbbiajioghaa
namespace Go.Proofs.Ytnngbbiajioghaa
open Go.Av Go.Proofs
set_option exponentiation.threshold 4000
set_option maxRecDepth 20000

/-! The law SumBytes. -/

theorem okD_facts {b0 b1 m V : Nat} (h : okD b0 b1 m V = true) : b0 / 8 ≤ 2 ∧ (b0 / 8 = 2 ∨ (V = 0 ∧ b0 % 8 = 0)) ∧ (b1 = 0 ∨ (b1 = 1 ∧ 0 < V)) ∧ nb V = m := by
  unfold okD at h
  simp only [Bool.and_eq_true, Bool.or_eq_true, decide_eq_true_eq] at h
  exact ⟨h.1.1.1, h.1.1.2, h.1.2, h.2⟩

theorem enc_dec {b0 b1 : Nat} {r : List Nat} (h0 : b0 < 256) (hr : ∀ b ∈ r, b < 256) (hl : r.length ≤ 280) (h : okD b0 b1 r.length (valB r) = true) : encV (decF b0 (decN b1 (valB r))) = byV (b0 :: b1 :: r) := by
  obtain ⟨hR, hV⟩ := valB_spec r hr
  obtain ⟨k1, k2, k3, k4⟩ := okD_facts h
  obtain ⟨n1, n2, n3, n4⟩ := decN_facts (b1 := b1) (pow_lt_big hV hl)
  have hd : digs r.length (valB r) = r := bytR_inj (by rw [digs_R]; exact hR.symm)
  rw [encV_by, decF_flags h0]
  show byV (b0 :: flg (decide (2 ^ 2303 ≤ decN b1 (valB r))) 1 :: digs (nb (absN (decN b1 (valB r)))) (absN (decN b1 (valB r)))) = _
  rw [n2, k4, hd]
  congr 2
  congr 1
  by_cases hp : 2 ^ 2303 ≤ decN b1 (valB r)
  · rw [decide_eq_true hp]
    have := n3.1 hp
    show 1 = b1
    omega
  · rw [decide_eq_false hp]
    have : ¬ (b1 = 1 ∧ 0 < valB r) := fun q => hp (n3.2 q)
    show 0 = b1
    omega

theorem rel_dec {b0 b1 : Nat} {r : List Nat} (h0 : b0 < 256) (hr : ∀ b ∈ r, b < 256) (hl : r.length ≤ 280) (h : okD b0 b1 r.length (valB r) = true) : Rel (decF b0 (decN b1 (valB r))) (rdecF b0 b1 (valB r)) := by
  obtain ⟨hR, hV⟩ := valB_spec r hr
  obtain ⟨k1, k2, k3, k4⟩ := okD_facts h
  have hlt := pow_lt_big hV hl
  have hbit : ∀ b, b < 256 → (!decide (b &&& 1 = 0)) = decide (b % 2 = 1) ∧ (!decide (b &&& 2 = 0)) = decide (b / 2 % 2 = 1) ∧ (!decide (b &&& 4 = 0)) = decide (b / 4 % 2 = 1) := by decide
  obtain ⟨q1, q2, q3⟩ := hbit b0 h0
  obtain ⟨f1, f2⟩ := big_facts
  refine ⟨?_, fun hm => ?_, hlt, q1, q2, q3, rfl, fun hz => ?_, k1⟩
  · unfold decF decN rdecF
    simp only [decide_eq_true_eq]
    by_cases hb : b1 = 1
    · rw [if_pos hb, if_pos hb]
      have : 0 < valB r := by omega
      refine Nat.mod_eq_of_lt ?_
      rw [f2]
      generalize 2 ^ 2303 = P at *
      omega
    · rw [if_neg hb, if_neg hb]
  · have : b1 = 1 := of_decide_eq_true hm
    show 0 < valB r
    omega
  · have : b0 / 8 ≠ 2 := hz
    show valB r = 0
    omega

theorem good_dec {b0 b1 : Nat} {r : List Nat} (hr : ∀ b ∈ r, b < 256) (hl : r.length ≤ 280) (h : okD b0 b1 r.length (valB r) = true) : (decF b0 (decN b1 (valB r))).n < 2 ^ 2304 ∧ (decF b0 (decN b1 (valB r))).zero ≤ 2 := by
  obtain ⟨hR, hV⟩ := valB_spec r hr
  exact ⟨(decN_facts (b1 := b1) (pow_lt_big hV hl)).1, (okD_facts h).1⟩

theorem rlookv_at {f : FuncId} {v : Value} {H : Heap} {g i : Nat} {a : Rs} (hx : hget H g i = some (.cells 6 [a.row])) (h : PureRun Try.prog f [.cptr a.row] (.sc v)) : CallOK Try.prog f [.ptr g i 0 0] H fun res H' => res = .sc v ∧ H' = H :=
  CallOK.view (args' := [.cptr a.row]) h (.sc _) (ToL.cons (To.fzp (hget_gh hx) rfl rfl (To.cptrL (ToL.pure (pr a.row)))) ToL.nil) ⟨rfl, rfl⟩

set_option maxHeartbeats 4000000 in
theorem sumBytes_ok (l : List Nat) (hb : ∀ b ∈ l, b < 256) : PureRun Try.prog 4 [byV l] (.sc (.bool true)) := by
  refine PureRun.mkI cF4 (Nat.le_of_ble_eq_true rfl) ?_
  have hw := works_ok
  have el := bytR_len l
  have hby : byV l = .list 1 (bytR l) := rfl
  by_cases hs : 282 < l.length ∨ l.length < 2
  · have h1 := decode_short_at [] l hs
    have h2 := rdec_short [] l hs
    rw [hby] at h1 h2 ⊢
    refine walkX0 ?_
    rw [el]
    refine AWP.condD rfl (fun h => ?_) (fun h => ?_)
    · refine walkX0 ?_
      exact EndP.w
    have he : (if 282 < l.length then (8 : Int) else 7) = 8 ∨ (if 282 < l.length then (8 : Int) else 7) = 7 := by split <;> simp
    generalize (if 282 < l.length then (8 : Int) else 7) = e at *
    refine walkX0 ?_
    refine Reg.c (Nat.zero_le _) rfl (h1.mono ?_)
    rintro res H' ⟨rfl, rfl⟩
    refine walkX0 ?_
    refine Reg.c (Nat.zero_le _) rfl (h2.mono ?_)
    rintro res H' ⟨rfl, rfl⟩
    rcases he with rfl | rfl
    · refine walkX0 ?_
      exact EndP.w
    · refine walkX0 ?_
      exact EndP.w
  · obtain ⟨b0, b1, r, rfl⟩ : ∃ b0 b1 r, l = b0 :: b1 :: r := by
      match l, hs with
      | [], h => exact absurd (.inr (by decide)) h
      | [_], h => exact absurd (.inr (Nat.le_refl 2)) h
      | b0 :: b1 :: r, _ => exact ⟨b0, b1, r, rfl⟩
    have hr : ∀ b ∈ r, b < 256 := fun b h => hb b (List.mem_cons_of_mem _ (List.mem_cons_of_mem _ h))
    have hl : r.length ≤ 280 := by simp at hs; omega
    have h0 := hb b0 (List.mem_cons_self ..)
    have h1 := hb b1 (List.mem_cons_of_mem _ (List.mem_cons_self ..))
    have d1 := decode_at [] b0 b1 r h0 h1 hr hl
    have d2 := fun H => rdec_at H b0 b1 r h0 h1 hr hl
    have hok := okD_bad b0 b1 r hr
    have hgd := good_dec (b0 := b0) (b1 := b1) hr hl
    have hrel := rel_dec (b1 := b1) h0 hr hl
    have hen := enc_dec (b1 := b1) h0 hr hl
    generalize (b0 :: b1 :: r) = l at *
    generalize decF b0 (decN b1 (valB r)) = s at *
    generalize rdecF b0 b1 (valB r) = y at *
    refine walkX0 ?_
    rw [el]
    refine AWP.condD rfl (fun h => ?_) (fun h => ?_)
    · refine walkX0 ?_
      exact EndP.w
    rw [hby] at d1 d2 hen
    refine walkX0 ?_
    refine Reg.c (Nat.zero_le _) rfl (d1.mono ?_)
    rintro res H' (⟨e, rfl, rfl⟩ | ⟨e, rfl, rfl⟩)
    · have hrel := hrel e
      have hgd := hgd e
      have hen := hen e
      rw [e] at hok
      refine walkX0 ?_
      refine Reg.c (Nat.zero_le _) rfl ((d2 _).mono ?_)
      rintro res H' (⟨e2, rfl, rfl⟩ | ⟨e2, rfl, rfl⟩)
      case inr => rw [e2] at hok; cases hok
      have v1 := value_ok s hgd.1
      have v2 := rvalue_ok y hrel.nb
      rw [← rvalue_rel hrel] at v2
      generalize s.value = v at *
      refine walkX0 ?_
      refine Reg.c (Nat.zero_le _) rfl ((encode_at (s := s) rfl hgd.1 hgd.2).mono ?_)
      rintro res H' ⟨rfl, rfl⟩
      rw [hen]
      refine walkX0 ?_
      refine Reg.o rfl (dstep_bs (l := l) rfl) ?_
      refine walkX0 ?_
      refine Reg.o rfl (dstep_bs (l := l) rfl) ?_
      refine Reg.o rfl (dstep_seq (s := strB l) rfl rfl) ?_
      refine walkX0 ?_
      refine Reg.c (Nat.zero_le _) rfl ((look_at (a := s) (m := true) rfl v1).mono ?_)
      rintro res H' ⟨rfl, rfl⟩
      refine walkX0 ?_
      refine Reg.c (Nat.zero_le _) rfl ((rlookv_at (a := y) rfl v2).mono ?_)
      rintro res H' ⟨rfl, rfl⟩
      refine walkX0 ?_
      rw [show decide (v = v) = true from decide_eq_true rfl]
      refine walkX0 ?_
      exact EndP.w
    · rw [e] at hok
      refine walkX0 ?_
      refine Reg.c (Nat.zero_le _) rfl ((d2 _).mono ?_)
      rintro res H' (⟨e2, rfl, rfl⟩ | ⟨e2, rfl, rfl⟩)
      case inl => rw [e2] at hok; cases hok
      refine walkX0 ?_
      exact EndP.w

end Go.Proofs.Ytnngbbiajioghaa
