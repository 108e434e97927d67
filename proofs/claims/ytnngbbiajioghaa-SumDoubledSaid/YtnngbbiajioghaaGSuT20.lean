import Derived.Test.YtnngbbiajioghaaGSuT11
namespace Go.Proofs.Ytnngbbiajioghaa
open Go.Av Go.Proofs
set_option exponentiation.threshold 3000
theorem walkSuT12 {G G' : Prop} (h : G') (t : Boxed G' → G := by intro hw9; (repeat (first | refine su1 ?_ | refine su2 ?_ | refine su3 ?_ | refine su4 ?_ | refine su5 ?_ | refine su6 ?_ | refine su7 ?_ | refine su8 ?_ | refine su9 ?_ | refine sd1 ?_ | refine sd2 ?_ | refine sd3 ?_ | refine sd4 ?_ | refine sd5 ?_ | refine sd6 ?_ | refine sd7 ?_ | refine sd8 ?_ | refine sd9 ?_ | (first | refine wr13 ?_ | refine wd13 ?_ | refine wr14 ?_ | refine wv1 ?_ | refine wv2 ?_ | refine wv3 ?_ | refine wv4 ?_ | refine wv5 ?_ | refine wv6 ?_ | refine wv7 ?_ | refine wv8 ?_ | refine wv9 ?_ | refine wv10 ?_ | refine wr1 ?_ | refine wr2 ?_ | refine wr3 ?_ | refine wr4 ?_ | refine Reg.nil ?_ | refine wd1 ?_ | refine wd2 ?_ | refine wd3 ?_ | refine wd4 ?_ | refine AWP.seq ?_ | refine AWP.region ?_ | refine AWP.dk mixed ?_ | refine AWP.condT rfl ?_ | refine AWP.condF rfl ?_ | refine AWP.skip ?_ | refine AWP.ret ?_ | refine AWP.exit ?_ | refine AWP.block ?_ | refine wr5 ?_ | refine wr6 ?_ | refine wr7 ?_ | refine wr8 ?_ | refine wr9 ?_ | refine wr10 ?_ | refine wd5 ?_ | refine wd6 ?_ | refine wd7 ?_ | refine wd8 ?_ | refine wd9 ?_ | refine wd10 ?_ | refine wr11 ?_ | refine wr12 ?_ | refine wd11 ?_ | refine wd12 ?_ ))); exact hw9.out) : G := t ⟨h⟩

theorem valid_ok (m : Bool) (s : St) : PureRun Try.prog 60 [.cptr (s.acc m)] (.sc (.bool m)) := by
  refine PureRun.mkI cF60 (Nat.le_of_ble_eq_true rfl) ?_
  refine walkSuT12 ?_
  exact EndP.w
theorem valid_nil : PureRun Try.prog 60 [.sc (.pointer none)] (.sc (.bool false)) := by
  refine PureRun.mkI cF60 (Nat.le_of_ble_eq_true rfl) ?_
  refine walkSuT12 ?_
  exact EndP.w

/-- The real number nearest to a sum. -/
def St.value (s : St) : Nat :=
  if s.nan = true ∨ (s.plus = true ∧ s.minus = true) then nanN
  else if s.plus = true then infN
  else if s.minus = true then signN + infN
  else if s.zero = 1 then signN
  else if 2 ^ 2303 ≤ s.n then signN ||| roundN (2 ^ 2304 - s.n)
  else roundN s.n

theorem roundN_le (N : Nat) : roundN N ≤ infN := by
  unfold roundN
  split
  · exact Nat.le_refl _
  · exact Nat.min_le_left _ _

set_option maxRecDepth 20000 in
set_option maxHeartbeats 1000000 in
theorem value_ok (s : St) (hs : s.n < 2 ^ 2304) : PureRun Try.prog 24 [.cptr (s.acc true)] (.sc (.int .u64 (s.value : Int))) := by
  refine PureRun.mkI cF24 (Nat.le_of_ble_eq_true rfl) ?_
  have hv := valid_ok true s
  obtain ⟨n, na, pl, mi, ze⟩ := s
  simp only at hs
  have hb := below_ok hs
  have hz := size_ok hs
  have hr := rounded_ok (N := absN n) (by unfold absN; split <;> omega)
  have hr2 := rounded_ok hs
  have hle := roundN_le (absN n)
  have hle2 : roundN (absN n) < 18446744073709551616 := by unfold infN at hle; omega
  have hab : absN n = if 2 ^ 2303 ≤ n then 2 ^ 2304 - n else n := rfl
  cases na
  · cases pl
    · cases mi
      · by_cases hze : ze = 1
        · subst hze
          rw [show St.value ⟨n, false, false, false, 1⟩ = 9223372036854775808 from rfl]
          clear hb hz hr hr2 hle hle2 hab hs
          refine walkSuT12 ?_
          exact EndP.w
        · by_cases hq : 2 ^ 2303 ≤ n
          · have e : St.value ⟨n, false, false, false, ze⟩ = 9223372036854775808 ||| roundN (absN n) := by
              show _ = signN ||| _
              rw [hab]
              unfold St.value
              simp only [Bool.false_eq_true, false_and, or_self, if_false, if_neg hze, if_pos hq]
            rw [decide_eq_true hq] at hb
            rw [e]
            generalize absN n = q at *
            clear hs hq hab e
            refine walkSuT12 ?_
            refine AWP.condD rfl (fun h => absurd h hze) (fun h => ?_)
            refine walkSuT12 ?_
            exact EndP.w
          · have e : St.value ⟨n, false, false, false, ze⟩ = roundN n := by
              unfold St.value
              simp only [Bool.false_eq_true, false_and, or_self, if_false, if_neg hze, if_neg hq]
            rw [decide_eq_false hq] at hb
            rw [e]
            clear hs hq hab e
            refine walkSuT12 ?_
            refine AWP.condD rfl (fun h => absurd h hze) (fun h => ?_)
            refine walkSuT12 ?_
            exact EndP.w
      · rw [show St.value ⟨n, false, false, true, ze⟩ = 18442240474082181120 from rfl]
        clear hb hz hr hr2 hle hle2 hab hs
        refine walkSuT12 ?_
        exact EndP.w
    · cases mi
      · rw [show St.value ⟨n, false, true, false, ze⟩ = 9218868437227405312 from rfl]
        clear hb hz hr hr2 hle hle2 hab hs
        refine walkSuT12 ?_
        exact EndP.w
      · rw [show St.value ⟨n, false, true, true, ze⟩ = 9221120237041090560 from rfl]
        clear hb hz hr hr2 hle hle2 hab hs
        refine walkSuT12 ?_
        exact EndP.w
  · rw [show St.value ⟨n, true, pl, mi, ze⟩ = 9221120237041090560 from rfl]
    clear hb hz hr hr2 hle hle2 hab hs
    refine walkSuT12 ?_
    exact EndP.w

end Go.Proofs.Ytnngbbiajioghaa
namespace Go.Proofs.Ytnngbbiajioghaa
open Go.Av Go.Proofs
set_option exponentiation.threshold 3000

/-! Bits. -/
theorem and_sign {b : Nat} (h : b < 18446744073709551616) : b &&& 9223372036854775808 = if 9223372036854775808 ≤ b then 9223372036854775808 else 0 := by
  have e : b &&& 2 ^ 63 = if b.testBit 63 then 2 ^ 63 else 0 := by
    apply Nat.eq_of_testBit_eq
    intro i
    rw [Nat.testBit_and, Nat.testBit_two_pow]
    by_cases hi : 63 = i
    · subst hi
      cases hb : b.testBit 63
      · simp
      · rw [if_pos rfl, Nat.testBit_two_pow]; simp
    · simp only [hi, decide_false, Bool.and_false]
      split
      · rw [Nat.testBit_two_pow]; simp [hi]
      · simp
  have e2 : b.testBit 63 = decide (2 ^ 63 ≤ b) := by
    rw [Nat.testBit_eq_decide_div_mod_eq]
    rw [Bool.eq_iff_iff]
    simp
    omega
  rw [show (9223372036854775808 : Nat) = 2 ^ 63 from rfl, e, e2]
  simp
theorem and_abs (b : Nat) : b &&& 9223372036854775807 = b % 9223372036854775808 := Nat.and_two_pow_sub_one_eq_mod b 63
theorem and_mant (b : Nat) : b &&& 4503599627370495 = b % 4503599627370496 := Nat.and_two_pow_sub_one_eq_mod b 52
theorem and_exp (b : Nat) : b &&& 2047 = b % 2048 := Nat.and_two_pow_sub_one_eq_mod b 11
theorem or_mant {m : Nat} (h : m < 4503599627370496) : m ||| 4503599627370496 = m + 4503599627370496 := by
  have := Nat.two_pow_add_eq_or_of_lt (i := 52) (b := m) h 1
  rw [Nat.or_comm, show (4503599627370496 : Nat) = 2 ^ 52 * 1 from rfl, ← this]
  omega

/-- The end of a function whose results are variables in memory. -/
theorem resOne_cell {t sz g i off s row : Nat} {fr : Fr} {H : Heap} {rows : List (List AV)} {r m : List AV} (ht : fr.get t = .ptr g i row off) (hh : hget H g i = some (.cells s rows)) (hr : rows[row]? = some r) (hp : Part r off sz m) : resOne fr H (.cell t sz true) = some (.agg m) := by
  obtain ⟨⟨q, h1⟩, rfl⟩ := hp
  have e : Nat.ble m.length (m ++ q).length = true := Nat.ble_eq_true_of_le (by simp)
  simp only [resOne, ht, hh, hr, h1, ldAV, e, List.take_left]
theorem endp_cell {t sz g i off s row : Nat} {e : Exit} {fr : Fr} {H : Heap} {rows : List (List AV)} {r m : List AV} (he : e = .normal ∨ e = .ret) (ht : fr.get t = .ptr g i row off := by rfl) (hh : hget H g i = some (.cells s rows) := by rfl) (hr : rows[row]? = some r := by rfl)
    (hp : Part r off sz m := by first | exact part_s _ | exact part_n _ | exact part_as _ _ | exact part_an _ _ | exact part_a _ _) [hm : PR m] : EndP [.cell t sz true] (.agg m) e fr H :=
  EndP.mk he (show resOf fr H _ = some (.agg m) by unfold resOf; simp only [resAll, resOne_cell ht hh hr hp]) rfl (.pure (.agg _ hm.out))

/-- What the sum of one real number knows. -/
def oneN (b : Nat) : Nat := if b / 4503599627370496 % 2048 = 0 then b % 4503599627370496 * 2 ^ 0 else (b % 4503599627370496 + 4503599627370496) * 2 ^ (b / 4503599627370496 % 2048 - 1)
def oneS (b : Nat) : St :=
  if infN < b % 9223372036854775808 then ⟨0, true, false, false, 2⟩
  else if b % 9223372036854775808 = infN then ⟨0, false, decide (¬ 9223372036854775808 ≤ b), decide (9223372036854775808 ≤ b), 2⟩
  else if b = 9223372036854775808 then ⟨0, false, false, false, 1⟩
  else ⟨if 9223372036854775808 ≤ b then 2 ^ 2304 - oneN b else oneN b, false, false, false, 2⟩

theorem oneN_lt {b : Nat} (h : ¬ infN ≤ b % 9223372036854775808) : oneN b < 2 ^ 2098 := by
  unfold infN at h
  unfold oneN
  have h1 : b % 4503599627370496 < 4503599627370496 := Nat.mod_lt _ (by decide)
  split
  · rw [Nat.pow_zero, Nat.mul_one]
    exact Nat.lt_of_lt_of_le h1 (show (4503599627370496 : Nat) ≤ 2 ^ 2098 by rw [show (4503599627370496 : Nat) = 2 ^ 52 from rfl]; exact Nat.pow_le_pow_right (by decide) (by decide))
  · have h2 : b / 4503599627370496 % 2048 - 1 ≤ 2045 := by omega
    have h3 : (2 : Nat) ^ 2098 = 2 ^ 53 * 2 ^ 2045 := by rw [← Nat.pow_add]
    rw [h3]
    exact Nat.lt_of_lt_of_le ((Nat.mul_lt_mul_right (Nat.pow_pos (by decide))).2 (show _ < 2 ^ 53 by omega)) (Nat.mul_le_mul_left _ (Nat.pow_le_pow_right (by decide) h2))

set_option maxHeartbeats 2000000 in
set_option maxRecDepth 20000 in
theorem one_ok {b : Nat} (hb : b < 18446744073709551616) : PureRun Try.prog 68 [.sc (.int .u64 (b : Int))] (.agg (oneS b).row) := by
  refine PureRun.mkI cF68 (Nat.le_of_ble_eq_true rfl) ?_
  have hn := isnan_ok hb
  rw [and_abs] at hn
  have hd : b / 2 ^ 52 < 18446744073709551616 := by omega
  have he : b / 2 ^ 52 &&& 2047 ≤ 9223372036854775807 := by rw [and_exp]; omega
  refine walkSuT12 ?_
  rw [and_mant, and_exp]
  have hx : b / 2 ^ 52 % 2048 ≤ 2047 := by omega
  by_cases c1 : infN < b % 9223372036854775808
  · rw [decide_eq_true c1] at hn ⊢
    rw [show oneS b = ⟨0, true, false, false, 2⟩ from if_pos c1]
    clear c1
    refine walkSuT12 ?_
    exact endp_cell (.inr rfl)
  rw [decide_eq_false c1] at hn ⊢
  have hsg := and_sign hb
  by_cases c2 : b % 9223372036854775808 = infN
  · have e : oneS b = ⟨0, false, decide (¬ 9223372036854775808 ≤ b), decide (9223372036854775808 ≤ b), 2⟩ := by unfold oneS; rw [if_neg c1, if_pos c2]
    rw [e]
    refine walkSuT12 ?_
    refine AWP.condD rfl (fun _ => ?_) (fun h => absurd (by rw [and_abs]; exact c2) h)
    clear c1 c2 e
    refine walkSuT12 ?_
    rw [hsg]
    have e2 : decide ((if 9223372036854775808 ≤ b then 9223372036854775808 else 0) = 0) = decide (¬ 9223372036854775808 ≤ b) := by split <;> simp_all
    have e3 : (!decide ((if 9223372036854775808 ≤ b then 9223372036854775808 else 0) = 0)) = decide (9223372036854775808 ≤ b) := by split <;> simp_all
    rw [e3, e2]
    exact endp_cell (.inr rfl)
  refine walkSuT12 ?_
  refine AWP.condD rfl (fun h => absurd (by rw [and_abs] at h; exact h) c2) (fun _ => ?_)
  refine walkSuT12 ?_
  refine AWP.condD rfl (fun c3 => ?_) (fun c3 => ?_)
  · have e : oneS b = ⟨0, false, false, false, 1⟩ := by unfold oneS; rw [if_neg c1, if_neg c2, if_pos c3]
    rw [e]
    refine walkSuT12 ?_
    exact endp_cell (.inr rfl)
  have e : oneS b = ⟨if 9223372036854775808 ≤ b then 2 ^ 2304 - oneN b else oneN b, false, false, false, 2⟩ := by unfold oneS; rw [if_neg c1, if_neg c2, if_neg c3]
  have hlt := oneN_lt (b := b) (by omega)
  have hneg := neg_pure (oneN b) (Nat.lt_of_lt_of_le hlt (Nat.pow_le_pow_right (by decide) (by decide)))
  have hm : b % 4503599627370496 < 18446744073709551616 := by omega
  have hm2 : b % 4503599627370496 + 4503599627370496 < 18446744073709551616 := by omega
  have hm3 := or_mant (Nat.mod_lt b (show 0 < 4503599627370496 by decide))
  rw [e]
  generalize hT : 2 ^ 2304 - oneN b = T at *
  refine AWP.seq ?_
  refine walkSuT12 ?_
  refine AWP.joinB0 [(0, .sc (.int .u64 (b : Int))), (2, .ptr 0 0 0 0), (3, .ptr 1 0 0 0)] [[.cells 40 [s0.row]], [.cells 40 [St.row ⟨oneN b, false, false, false, 2⟩]]] ?_ ?_
  · refine AWP.condD rfl (fun c4 => ?_) (fun c4 => ?_)
    · have h103 := shifted_ok (k := 0) hm (by decide)
      have e4 : oneN b = b % 4503599627370496 * 2 ^ 0 := if_pos c4
      rw [← e4] at h103
      clear hneg hT hlt e e4
      refine walkSuT12 ?_
      exact Sub.w [] [[(0,0)],[(1,0)]]
    · have h103 := shifted_ok (k := b / 2 ^ 52 % 2048 - 1) hm2 (by omega)
      have e4 : oneN b = (b % 4503599627370496 + 4503599627370496) * 2 ^ (b / 2 ^ 52 % 2048 - 1) := if_neg c4
      rw [← e4] at h103
      clear hneg hT hlt e e4
      refine walkSuT12 ?_
      rw [hm3]
      refine walkSuT12 ?_
      exact Sub.w [] [[(0,0)],[(1,0)]]
  · clear hlt e
    refine walkSuT12 ?_
    rw [hsg]
    by_cases c5 : 9223372036854775808 ≤ b
    · rw [if_pos c5, if_pos c5]
      refine walkSuT12 ?_
      exact endp_cell (.inr rfl)
    · rw [if_neg c5, if_neg c5]
      refine walkSuT12 ?_
      exact endp_cell (.inr rfl)

end Go.Proofs.Ytnngbbiajioghaa
namespace Go.Proofs.Ytnngbbiajioghaa
open Go.Av Go.Proofs
set_option exponentiation.threshold 3000

def big : Nat := 2 ^ 2304
theorem wd_big {N i : Nat} (hi : i < 36) : wd (N % big) i = wd N i := by
  have := wd_mod N 2304 i
  unfold big
  rw [this, if_pos (by omega)]
theorem ws_big (N : Nat) : ws 36 (wd (N % big)) = ws 36 (wd N) := ws_congr fun _ hi => wd_big hi
theorem big_pos : 0 < big := Nat.pow_pos (by decide)

/-- What one sum adds to another. -/
def mergeS (a s : St) : Option St :=
  if 2240 < blen (absN ((a.n + s.n) % big)) then none
  else some ⟨(a.n + s.n) % big, a.nan || s.nan, a.plus || s.plus, a.minus || s.minus, max a.zero s.zero⟩
def mergeR (a s : St) : Int × St := match mergeS a s with
  | none => (14, a)
  | some t => (0, t)

theorem absN_lt {N : Nat} (h : N < 2 ^ 2304) : absN N < 2 ^ 2304 := by
  unfold absN; split <;> omega

set_option maxHeartbeats 4000000 in
set_option maxRecDepth 20000 in
theorem merge_ok (a s : St) : CallOK Try.prog 67 [.ptr 0 0 0 0, .agg s.row] [[.cells 41 [a.acc true]]] fun res H' => res = .sc (.int .i64 (mergeR a s).1) ∧ H' = [[.cells 41 [(mergeR a s).2.acc true]]] := by
  refine CallOK.of cF67 ?_ (Nat.le_of_ble_eq_true rfl)
  have hadd := add_pure a.n s.n
  rw [← ws_big (a.n + s.n)] at hadd
  have hlt : (a.n + s.n) % big < 2 ^ 2304 := Nat.mod_lt _ big_pos
  have hsize := size_ok hlt
  have hlen := length_ok (absN_lt hlt)
  unfold mergeR mergeS
  generalize (a.n + s.n) % big = T at *
  generalize blen (absN T) = n at *
  generalize absN T = A at *
  clear hlt
  have e0 := ws_len 36 (wd T)
  have ez : zrow [(36, Value.int IntKind.u64 0)] = ws 36 fun _ => 0 := by kernel_rfl
  refine walkSuT12 ?_
  refine DK.nil ⟨by kernel_rfl, ?_⟩
  refine walkSuT12 ?_
  refine AWP.condD rfl (fun h => ?_) (fun h => ?_)
  · rw [if_pos h]
    refine walkSuT12 ?_
    (refine ⟨by first | exact .inr rfl | exact .inl rfl, _, .sc (.int .i64 14), [[.cells 41 [a.acc true]]], rfl, SubV.to [] [[(0,0)]] ?_ ?_ rfl rfl rfl, ?_⟩; all_goals (repeat' (first | exact ToAll.nil | exact famsTo.nil | exact famTo.nil | exact ToL.nil | exact ToR.nil | refine ToAll.cons ?_ ?_ | refine famsTo.cons ?_ ?_ | refine wt10 ?_ ?_ | exact To.undef _ | exact To.sc _ | exact To.hslL rfl rfl | exact To.ptrO rfl rfl rfl | exact To.mrefO rfl | exact To.nil rfl rfl rfl | exact wt1 | exact To.nilL | refine To.int ?_ | refine To.bool ?_ | refine To.hslL rfl ?_ | refine wt2 rfl ?_ ?_ ?_ | refine To.tupL ?_ | refine To.aggL ?_ | refine To.cptrL ?_ | refine wt3 ?_ | refine wt4 ?_ | refine To.cloL ?_ ?_ | exact wt5 | refine wt6 ?_ | refine ToB.one ?_ | exact wt7 | ((with_reducible apply ToL.consE); case e9 => rfl) | refine wt8 ?_ | refine ToL.cons ?_ ?_ | exact wt11 | refine wt9 ?_ ?_ | refine wt12 ?_ | (with_reducible rfl) | assumption)); all_goals (first | rfl | assumption | (simp; done) | (simp; omega) | (rw [wrap_small (by omega) (by omega)]; done) | (rw [wrap_small (by omega) (by omega)]; omega) | (refine congrArg Nat.cast ?_; assumption) | skip))
  · rw [if_neg h]
    refine AWP.skip ?_
    obtain ⟨an, anan, aplus, aminus, azero⟩ := a
    cases anan <;> cases aplus <;> cases aminus
    all_goals
      refine walkSuT12 ?_
      refine DK.nil ⟨by kernel_rfl, ?_⟩
      refine walkSuT12 ?_
      (refine endH [[(0,0)]] (by first | exact .inr rfl | exact .inl rfl) rfl ⟨rfl, rfl⟩ ?_ ?_ rfl rfl rfl; all_goals (repeat' (first | exact ToAll.nil | exact famsTo.nil | exact famTo.nil | exact ToL.nil | exact ToR.nil | refine ToAll.cons ?_ ?_ | refine famsTo.cons ?_ ?_ | refine wt10 ?_ ?_ | exact To.undef _ | exact To.sc _ | exact To.hslL rfl rfl | exact To.ptrO rfl rfl rfl | exact To.mrefO rfl | exact To.nil rfl rfl rfl | exact wt1 | exact To.nilL | refine To.int ?_ | refine To.bool ?_ | refine To.hslL rfl ?_ | refine wt2 rfl ?_ ?_ ?_ | refine To.tupL ?_ | refine To.aggL ?_ | refine To.cptrL ?_ | refine wt3 ?_ | refine wt4 ?_ | refine To.cloL ?_ ?_ | exact wt5 | refine wt6 ?_ | refine ToB.one ?_ | exact wt7 | ((with_reducible apply ToL.consE); case e9 => rfl) | refine wt8 ?_ | refine ToL.cons ?_ ?_ | exact wt11 | refine wt9 ?_ ?_ | refine wt12 ?_ | (with_reducible rfl) | assumption)); all_goals (first | rfl | assumption | (simp; done) | (simp; omega) | (rw [wrap_small (by omega) (by omega)]; done) | (rw [wrap_small (by omega) (by omega)]; omega) | (refine congrArg Nat.cast ?_; assumption) | skip))

/-- .. wherever the sum lies. -/
theorem pureB_acc (m : Bool) (s : St) : PureB (.cells 41 [s.acc m]) := fun r hr => by
  rw [List.mem_singleton.1 hr]; exact s.acc_pure m
theorem merge_at {H : Heap} {g i : Nat} {a : St} (hx : hget H g i = some (.cells 41 [a.acc true])) (s : St) :
    CallOK Try.prog 67 [.ptr g i 0 0, .agg s.row] H fun res H' => res = .sc (.int .i64 (mergeR a s).1) ∧ H' = hset H g i (.cells 41 [(mergeR a s).2.acc true]) := by
  refine (CallOK.via1 (args := [.ptr g i 0 0, .agg s.row]) (R := fun res y => res = .sc (.int .i64 (mergeR a s).1) ∧ y = .cells 41 [(mergeR a s).2.acc true]) g i ((merge_ok a s).mono ?_) hx (pureB_acc _ _) ⟨.ptr _ _ _ _ _ _ rfl, .pure (.agg _ s.row_pure), trivial⟩).mono ?_
  · rintro res H' ⟨rfl, rfl⟩
    exact ⟨_, rfl, .sc _, pureB_acc _ _, rfl, rfl⟩
  · rintro res H' ⟨y, rfl, rfl, rfl⟩
    exact ⟨rfl, rfl⟩

end Go.Proofs.Ytnngbbiajioghaa
namespace Go.Proofs.Ytnngbbiajioghaa
open Go.Av Go.Proofs
set_option exponentiation.threshold 3000

/-! Values, their comparisons, and operations as closures. -/

/-- A value: bits, and a place. -/
def vR (b : Nat) (p : Int) : List AV := [.sc (.int .u64 (b : Int)), .sc (.int .i64 p)]
def vV (b : Nat) (p : Int) : AV := .agg (vR b p)
instance (b : Nat) (p : Int) : PR (vR b p) := ⟨allPure_cons (.sc _) (allPure_cons (.sc _) allPure_nil)⟩
instance (b : Nat) (p : Int) : PV (vV b p) := ⟨.agg _ (pr _)⟩

/-- As a signed number. -/
def sg (b : Nat) : Int := IntKind.i64.wrap (b : Int)
/-- How two numbers compare. -/
def cmpI (x y : Int) : Int := if x < y then -1 else if y < x then 1 else 0

theorem f118_ok (x : Int) : PureRun Try.prog 118 [.sc (.int .i64 x)] (.sc (.bool false)) := by
  refine PureRun.mkI cF118 (Nat.le_of_ble_eq_true rfl) ?_
  refine walkX ?_
  rw [show (x != x) = false by simp]
  exact EndP.w
theorem f96_ok (x : Int) : PureRun Try.prog 96 [.sc (.int .u64 x)] (.sc (.bool false)) := by
  refine PureRun.mkI cF96 (Nat.le_of_ble_eq_true rfl) ?_
  refine walkW ?_
  rw [show (x != x) = false by simp]
  exact EndP.w
theorem cmpi_ok (x y : Int) : PureRun Try.prog 108 [.sc (.int .i64 x), .sc (.int .i64 y)] (.sc (.int .i64 (cmpI x y))) := by
  refine PureRun.mkI cF108 (Nat.le_of_ble_eq_true rfl) ?_
  have h1 := f118_ok x
  have h2 := f118_ok y
  refine walkX ?_
  unfold cmpI
  refine AWP.condD rfl (fun h => ?_) (fun h => ?_)
  · rw [if_pos h]
    refine walkX ?_
    exact EndP.w
  · rw [if_neg h]
    refine walkX ?_
    refine AWP.condD rfl (fun h => ?_) (fun h => ?_)
    · rw [if_pos h]
      refine walkX ?_
      exact EndP.w
    · rw [if_neg h]
      refine walkX ?_
      exact EndP.w
theorem cmpu_ok (x y : Int) : PureRun Try.prog 53 [.sc (.int .u64 x), .sc (.int .u64 y)] (.sc (.int .i64 (cmpI x y))) := by
  refine PureRun.mkI cF53 (Nat.le_of_ble_eq_true rfl) ?_
  have h1 := f96_ok x
  have h2 := f96_ok y
  refine walkW ?_
  unfold cmpI
  refine AWP.condD rfl (fun h => ?_) (fun h => ?_)
  · rw [if_pos h]
    refine walkW ?_
    exact EndP.w
  · rw [if_neg h]
    refine walkW ?_
    refine AWP.condD rfl (fun h => ?_) (fun h => ?_)
    · rw [if_pos h]
      refine walkW ?_
      exact EndP.w
    · rw [if_neg h]
      refine walkW ?_
      exact EndP.w

/-- Bits whose order is that of real numbers. -/
def ordN (b : Nat) : Nat := if 9223372036854775808 ≤ b then 18446744073709551615 - b else b + 9223372036854775808
def quiet (b : Nat) : Nat := if infN < b % 9223372036854775808 then nanN else b
def compareS (a b : Nat) : Int := cmpI (ordN (quiet a)) (ordN (quiet b))

theorem or_sign {b : Nat} (h : b < 9223372036854775808) : b ||| 9223372036854775808 = b + 9223372036854775808 := by
  have := Nat.two_pow_add_eq_or_of_lt (i := 63) (b := b) h 1
  rw [Nat.or_comm, show (9223372036854775808 : Nat) = 2 ^ 63 * 1 from rfl, ← this]
  omega

theorem ordered_ok {b : Nat} (hb : b < 18446744073709551616) : PureRun Try.prog 54 [.sc (.int .u64 (b : Int))] (.sc (.int .u64 (ordN b : Nat))) := by
  refine PureRun.mkI cF54 (Nat.le_of_ble_eq_true rfl) ?_
  have hs := and_sign hb
  refine walkX ?_
  rw [hs]
  unfold ordN
  by_cases h : 9223372036854775808 ≤ b
  · rw [if_pos h, if_pos h]
    refine walkX ?_
    rw [unot hb]
    exact EndP.w
  · rw [if_neg h, if_neg h]
    have := or_sign (b := b) (by omega)
    refine walkX ?_
    rw [this]
    exact EndP.w

theorem quiet_lt {b : Nat} (hb : b < 18446744073709551616) : quiet b < 18446744073709551616 := by
  unfold quiet nanN; split <;> omega

set_option maxRecDepth 20000 in
theorem compare_ok {a b : Nat} (ha : a < 18446744073709551616) (hb : b < 18446744073709551616) : PureRun Try.prog 18 [.sc (.int .u64 (a : Int)), .sc (.int .u64 (b : Int))] (.sc (.int .i64 (compareS a b))) := by
  refine PureRun.mkI cF18 (Nat.le_of_ble_eq_true rfl) ?_
  have h1 := isnan_ok ha
  have h2 := isnan_ok hb
  rw [and_abs] at h1 h2
  have o1 := ordered_ok (quiet_lt ha)
  have o2 := ordered_ok (quiet_lt hb)
  have hc := cmpu_ok (ordN (quiet a)) (ordN (quiet b))
  refine walkX ?_
  refine AWP.joinT0 [(0, .sc (.int .u64 (quiet a : Nat))), (1, .sc (.int .u64 (b : Int)))] [] ?_ ?_
  · unfold quiet
    refine AWP.condD rfl (fun h => ?_) (fun h => ?_)
    · rw [if_pos h]
      refine walkX ?_
      exact Sub.w [] []
    · rw [if_neg h]
      refine walkX ?_
      exact Sub.w [] []
  refine walkX ?_
  refine AWP.joinT0 [(0, .sc (.int .u64 (quiet a : Nat))), (1, .sc (.int .u64 (quiet b : Nat)))] [] ?_ ?_
  · generalize quiet a = qa
    unfold quiet
    refine AWP.condD rfl (fun h => ?_) (fun h => ?_)
    · rw [if_pos h]
      refine walkX ?_
      exact Sub.w [] []
    · rw [if_neg h]
      refine walkX ?_
      exact Sub.w [] []
  unfold compareS
  refine walkX ?_
  exact EndP.w

end Go.Proofs.Ytnngbbiajioghaa
namespace Go.Proofs.Ytnngbbiajioghaa
open Go.Av Go.Proofs
set_option exponentiation.threshold 3000
set_option maxRecDepth 20000

/-- The end of a function whose result is a value in a variable. -/
theorem vR_len (b : Nat) (p : Int) : (vR b p).length = 2 := rfl

/-! Closures: of what they are made, and what they do. -/

def fT (n : Nat) : AV := .clo (.func n) [] []
def cT (n : Nat) (f : AV) : AV := .clo (.func n) [] [.cptr [f]]
instance (n : Nat) : PV (fT n) := ⟨.clo _ _ _ allPure_nil allPure_nil⟩
instance (n : Nat) (f : AV) [h : PV f] : PV (cT n f) := ⟨.clo _ _ _ allPure_nil (allPure_cons (.cptr _ (allPure_cons h.out allPure_nil)) allPure_nil)⟩

/-- A closure, called with these arguments, gives this. -/
def Does (f : AV) (args : List AV) (v : AV) : Prop := ∃ g cs, f = .clo (.func g) [] cs ∧ PureRun Try.prog g ([] ++ args ++ cs) v

theorem does_fT {n : Nat} {args : List AV} {v : AV} (h : PureRun Try.prog n args v) : Does (fT n) args v := ⟨n, [], rfl, by rw [List.append_nil]; exact h⟩
theorem does_cT {n : Nat} {f : AV} {args : List AV} {v : AV} (h : PureRun Try.prog n (args ++ [.cptr [f]]) v) : Does (cT n f) args v := ⟨n, _, rfl, h⟩

/-- Functions that make closures. -/
theorem mk77 (fn : Fn) (cs : List AV) [PR cs] : PureRun Try.prog 77 [.clo fn [] cs] (cT 106 (.clo fn [] cs)) := by
  refine PureRun.mkI cF77 (Nat.le_of_ble_eq_true rfl) ?_
  refine walkX ?_
  exact EndP.mk (.inr rfl) rfl rfl (To.cloL trivial (ToL.cons (To.fzp rfl rfl rfl (To.cptrL (ToL.cons wt1 trivial))) trivial))
theorem mk80 (fn : Fn) (cs : List AV) [PR cs] : PureRun Try.prog 80 [.clo fn [] cs] (cT 107 (.clo fn [] cs)) := by
  refine PureRun.mkI cF80 (Nat.le_of_ble_eq_true rfl) ?_
  refine walkX ?_
  exact EndP.mk (.inr rfl) rfl rfl (To.cloL trivial (ToL.cons (To.fzp rfl rfl rfl (To.cptrL (ToL.cons wt1 trivial))) trivial))
theorem mk82 (fn : Fn) (cs : List AV) [PR cs] : PureRun Try.prog 82 [.clo fn [] cs] (cT 109 (.clo fn [] cs)) := by
  refine PureRun.mkI cF82 (Nat.le_of_ble_eq_true rfl) ?_
  refine walkX ?_
  exact EndP.mk (.inr rfl) rfl rfl (To.cloL trivial (ToL.cons (To.fzp rfl rfl rfl (To.cptrL (ToL.cons wt1 trivial))) trivial))
theorem mk90 (fn : Fn) (cs : List AV) [PR cs] : PureRun Try.prog 90 [.clo fn [] cs] (cT 111 (.clo fn [] cs)) := by
  refine PureRun.mkI cF90 (Nat.le_of_ble_eq_true rfl) ?_
  refine walkX ?_
  exact EndP.mk (.inr rfl) rfl rfl (To.cloL trivial (ToL.cons (To.fzp rfl rfl rfl (To.cptrL (ToL.cons wt1 trivial))) trivial))
theorem mk86 (fn : Fn) (cs : List AV) [PR cs] : PureRun Try.prog 86 [.clo fn [] cs] (cT 106 (cT 110 (.clo fn [] cs))) := by
  refine PureRun.mkI cF86 (Nat.le_of_ble_eq_true rfl) ?_
  have h := mk77 (.func 110) [.cptr [.clo fn [] cs]]
  refine walkX ?_
  refine Reg.sub (fr' := [(3, .clo (.func 110) [] [.cptr [.clo fn [] cs]])]) (H' := []) (Sub.to [] [] (.cons (To.cloL trivial (ToL.cons (To.fzp rfl rfl rfl (To.cptrL (ToL.cons wt1 trivial))) trivial)) .nil) trivial rfl rfl rfl) ?_
  refine walkX ?_
  exact EndP.w
theorem mk92 (n : Int) : PureRun Try.prog 92 [.sc (.int .i64 n)] (.clo (.func 112) [] [.cptr [.sc (.int .i64 n)]]) := by
  refine PureRun.mkI cF92 (Nat.le_of_ble_eq_true rfl) ?_
  refine walkX ?_
  exact EndP.mk (.inr rfl) rfl rfl (To.cloL trivial (ToL.cons (To.fzp rfl rfl rfl (To.cptrL (ToL.cons wt1 trivial))) trivial))

theorem do78 (a b : Nat) : PureRun Try.prog 78 [.sc (.int .u64 (a : Int)), .sc (.int .u64 (b : Int))] (.sc (.int .u64 ((a + b) % 18446744073709551616 : Nat))) := by
  refine PureRun.mkI cF78 (Nat.le_of_ble_eq_true rfl) ?_
  refine walkW ?_
  rw [show (a : Int) + (b : Int) = ((a + b : Nat) : Int) by omega, wrapU]
  exact EndP.w
theorem do79 (a b : Nat) : PureRun Try.prog 79 [.sc (.int .u64 (a : Int)), .sc (.int .u64 (b : Int))] (.sc (.int .u64 (a * b % 18446744073709551616 : Nat))) := by
  refine PureRun.mkI cF79 (Nat.le_of_ble_eq_true rfl) ?_
  refine walkW ?_
  rw [show (a : Int) * (b : Int) = ((a * b : Nat) : Int) by rw [Int.natCast_mul], wrapU]
  exact EndP.w
theorem do83 {a b : Nat} (ha : a < 18446744073709551616) (hb : b < 18446744073709551616) : PureRun Try.prog 83 [.sc (.int .u64 (a : Int)), .sc (.int .u64 (b : Int))] (.sc (.int .u64 (a &&& b : Nat))) := by
  refine PureRun.mkI cF83 (Nat.le_of_ble_eq_true rfl) ?_
  refine walkX ?_
  exact EndP.w
theorem do84 {a b : Nat} (ha : a < 18446744073709551616) (hb : b < 18446744073709551616) : PureRun Try.prog 84 [.sc (.int .u64 (a : Int)), .sc (.int .u64 (b : Int))] (.sc (.int .u64 (a ||| b : Nat))) := by
  refine PureRun.mkI cF84 (Nat.le_of_ble_eq_true rfl) ?_
  refine walkX ?_
  exact EndP.w
theorem do85 {a b : Nat} (ha : a < 18446744073709551616) (hb : b < 18446744073709551616) : PureRun Try.prog 85 [.sc (.int .u64 (a : Int)), .sc (.int .u64 (b : Int))] (.sc (.int .u64 (a ^^^ b : Nat))) := by
  refine PureRun.mkI cF85 (Nat.le_of_ble_eq_true rfl) ?_
  refine walkX ?_
  exact EndP.w
theorem do87 (a b : Bool) : PureRun Try.prog 87 [.sc (.bool a), .sc (.bool b)] (.sc (.bool (a && b))) := by
  refine PureRun.mkI cF87 (Nat.le_of_ble_eq_true rfl) ?_
  cases a
  all_goals
    refine walkX ?_
    exact EndP.w
theorem do88 (a b : Bool) : PureRun Try.prog 88 [.sc (.bool a), .sc (.bool b)] (.sc (.bool (a || b))) := by
  refine PureRun.mkI cF88 (Nat.le_of_ble_eq_true rfl) ?_
  cases a
  all_goals
    refine walkX ?_
    exact EndP.w
theorem do81 (a b : Nat) (p q : Int) : PureRun Try.prog 81 [vV a p, vV b q] (.sc (.int .i64 (cmpI (sg a) (sg b)))) := by
  refine PureRun.mkI cF81 (Nat.le_of_ble_eq_true rfl) ?_
  have h := cmpi_ok (sg a) (sg b)
  refine walkW ?_
  exact EndP.w
theorem do91 {a b : Nat} (ha : a < 18446744073709551616) (hb : b < 18446744073709551616) (p q : Int) : PureRun Try.prog 91 [vV a p, vV b q] (.sc (.int .i64 (compareS a b))) := by
  refine PureRun.mkI cF91 (Nat.le_of_ble_eq_true rfl) ?_
  have h := compare_ok ha hb
  generalize compareS a b = c at h
  refine walkW ?_
  exact EndP.w

theorem do106 {f : AV} [PV f] {a b c : Nat} (p q : Int) (h : Does f [.sc (.int .u64 (a : Int)), .sc (.int .u64 (b : Int))] (.sc (.int .u64 (c : Int)))) : Does (cT 106 f) [vV a p, vV b q] (vV c 0) := by
  refine does_cT (PureRun.mkI cF106 (Nat.le_of_ble_eq_true rfl) ?_)
  obtain ⟨g, cs, rfl, hp⟩ := h
  refine walkX ?_
  exact EndP.w
theorem do107 {f : AV} [PV f] {a b : Nat} (p q c : Int) (h : Does f [vV b q, vV a p] (.sc (.int .i64 c))) : Does (cT 107 f) [vV a p, vV b q] (if c < 0 then vV b q else vV a p) := by
  have hv : PV (if c < 0 then vV b q else vV a p) := by split <;> infer_instance
  refine does_cT (PureRun.mkI cF107 (Nat.le_of_ble_eq_true rfl) ?_)
  obtain ⟨g, cs, rfl, hp⟩ := h
  refine walkX ?_
  refine AWP.condD rfl (fun h => ?_) (fun h => ?_)
  · rw [if_pos h]
    refine walkW ?_
    exact EndP.w
  · rw [if_neg h]
    refine walkW ?_
    exact EndP.w
theorem do109 {f : AV} [PV f] {a b : Nat} (p q c : Int) (h : Does f [vV b q, vV a p] (.sc (.int .i64 c))) : Does (cT 109 f) [vV a p, vV b q] (.sc (.int .i64 c)) := by
  refine does_cT (PureRun.mkI cF109 (Nat.le_of_ble_eq_true rfl) ?_)
  obtain ⟨g, cs, rfl, hp⟩ := h
  refine walkX ?_
  exact EndP.w
theorem do110 {f : AV} [PV f] {a b : Nat} (c : Bool) (h : Does f [.sc (.bool (!decide (a = 0))), .sc (.bool (!decide (b = 0)))] (.sc (.bool c))) : Does (cT 110 f) [.sc (.int .u64 (a : Int)), .sc (.int .u64 (b : Int))] (.sc (.int .u64 (c.toNat : Int))) := by
  refine does_cT (PureRun.mkI cF110 (Nat.le_of_ble_eq_true rfl) ?_)
  obtain ⟨g, cs, rfl, hp⟩ := h
  cases c
  all_goals
    refine walkX ?_
    exact EndP.w
set_option maxRecDepth 20000 in
theorem do111 {f : AV} [PV f] {a b c : Nat} (p q r : Int) (ha : a < 18446744073709551616) (hb : b < 18446744073709551616) (h : Does f [vV a p, vV b q] (vV c r)) :
    Does (cT 111 f) [vV a p, vV b q] (if infN < a % 9223372036854775808 ∨ infN < b % 9223372036854775808 then vV nanN 0 else vV c r) := by
  have hv : PV (if infN < a % 9223372036854775808 ∨ infN < b % 9223372036854775808 then vV nanN 0 else vV c r) := by split <;> infer_instance
  refine does_cT (PureRun.mkI cF111 (Nat.le_of_ble_eq_true rfl) ?_)
  obtain ⟨g, cs, rfl, hp⟩ := h
  have h1 := isnan_ok ha
  have h2 := isnan_ok hb
  rw [and_abs] at h1 h2
  by_cases c1 : infN < a % 9223372036854775808
  · rw [if_pos (.inl c1)]
    rw [decide_eq_true c1] at h1
    refine walkX ?_
    exact EndP.w
  · by_cases c2 : infN < b % 9223372036854775808
    · rw [if_pos (.inr c2)]
      rw [decide_eq_false c1] at h1
      rw [decide_eq_true c2] at h2
      refine walkX ?_
      exact EndP.w
    · rw [if_neg (by omega)]
      rw [decide_eq_false c1] at h1
      rw [decide_eq_false c2] at h2
      refine walkX ?_
      exact EndP.w

/-- A place's sign. -/
theorem or_ok (x y : Int) : PureRun Try.prog 113 [.list 1 [[.sc (.int .i64 x)], [.sc (.int .i64 y)]]] (.sc (.int .i64 (if x = 0 then y else x))) := by
  refine PureRun.mkI cF113 (Nat.le_of_ble_eq_true rfl) ?_
  refine walkW ?_
  refine AWP.loop (fun k : Nat => [(0, .list 1 [[.sc (.int .i64 x)], [.sc (.int .i64 y)]]), (3, .sc (.int .i64 0)), (6, .list 1 [[.sc (.int .i64 x)], [.sc (.int .i64 y)]]), (7, .sc (.int .i64 2)), (8, .sc (.int .i64 (k : Int)))]) (fun _ => []) (fun k => k ≤ 2 ∧ (0 < k → x = 0) ∧ (1 < k → y = 0)) (fun k => 2 - k) 0 ⟨by omega, fun h => absurd h (by omega), fun h => absurd h (by omega)⟩ ?_ ?_
  · exact Sub.w [] []
  rintro k ⟨hk, hx, hy⟩
  match k, hk with
  | 0, _ =>
    refine walkX ?_
    refine AWP.cond rfl (fun h => ?_) (fun h => ?_)
    · have h : ¬ x = 0 := by simpa using h
      rw [if_neg h]
      refine walkX ?_
      exact EndP.w
    · have h : x = 0 := by simpa using h
      refine walkX ?_
      refine ⟨1, ⟨by omega, fun _ => h, fun h => absurd h (by omega)⟩, by omega, ?_⟩
      exact Sub.w [] []
  | 1, _ =>
    have hx := hx (by omega)
    rw [if_pos hx]
    refine walkX ?_
    refine AWP.cond rfl (fun h => ?_) (fun h => ?_)
    · refine walkX ?_
      exact EndP.w
    · have h : y = 0 := by simpa using h
      refine walkX ?_
      refine ⟨2, ⟨by omega, fun _ => hx, fun _ => h⟩, by omega, ?_⟩
      exact Sub.w [] []
  | 2, _ =>
    rw [if_pos (hx (by omega)), hy (by omega)]
    refine walkX ?_
    exact EndP.w

/-- How two located numbers compare. -/
def locS (s : Int) (a b : Nat) (p q : Int) : Int := if s * cmpI (sg a) (sg b) = 0 then cmpI p q else s * cmpI (sg a) (sg b)

theorem cmpI_small (x y : Int) : -1 ≤ cmpI x y ∧ cmpI x y ≤ 1 := by
  unfold cmpI
  split
  · omega
  · split <;> omega

theorem do112 (s : Int) (hs : s = 1 ∨ s = -1) (a b : Nat) (p q : Int) : Does (.clo (.func 112) [] [.cptr [.sc (.int .i64 s)]]) [vV a p, vV b q] (.sc (.int .i64 (locS s a b p q))) := by
  refine ⟨112, _, rfl, PureRun.mkI cF112 (Nat.le_of_ble_eq_true rfl) ?_⟩
  have h1 := do81 a b p q
  have h2 := cmpi_ok p q
  have hc := cmpI_small (sg a) (sg b)
  have ho := or_ok (s * cmpI (sg a) (sg b)) (cmpI p q)
  have hl : locS s a b p q = if s * cmpI (sg a) (sg b) = 0 then cmpI p q else s * cmpI (sg a) (sg b) := rfl
  rw [hl]
  generalize cmpI (sg a) (sg b) = c at *
  generalize cmpI p q = d at *
  have hw : IntKind.i64.wrap (s * c) = s * c := by rcases hs with rfl | rfl <;> exact wrap_small (by omega) (by omega)
  refine AWP.seq ?_
  refine AWP.region ?_
  refine walkR ?_
  refine AWP.seq ?_
  refine AWP.dkm 11 _ mixed rfl rfl (by kernel_rfl) (by kernel_rfl) (by kernel_rfl) ?_
  refine walkX ?_
  refine DK.nil ⟨by kernel_rfl, ?_⟩
  rw [hw]
  (refine Reg.pv (by first | exact Nat.zero_le _ | exact Nat.le_refl _ | (simp; done) | (simp; omega)) rfl ho (by first | exact .sc _ | (exact .agg _ (fun c hc => by simp at hc; rcases hc with h | h <;> subst h <;> exact .sc _)) | assumption) ?vw9 ?_; case vw9 => (all_goals (repeat' (first | exact ToAll.nil | exact famsTo.nil | exact famTo.nil | exact ToL.nil | exact ToR.nil | refine ToAll.cons ?_ ?_ | refine famsTo.cons ?_ ?_ | refine wt10 ?_ ?_ | exact To.undef _ | exact To.sc _ | exact To.hslL rfl rfl | exact To.ptrO rfl rfl rfl | exact To.mrefO rfl | exact To.nil rfl rfl rfl | exact wt1 | exact To.nilL | refine To.int ?_ | refine To.bool ?_ | refine To.hslL rfl ?_ | refine wt2 rfl ?_ ?_ ?_ | refine To.tupL ?_ | refine To.aggL ?_ | refine To.cptrL ?_ | refine wt3 ?_ | refine wt4 ?_ | refine To.cloL ?_ ?_ | exact wt5 | refine wt6 ?_ | refine ToB.one ?_ | exact wt7 | ((with_reducible apply ToL.consE); case e9 => rfl) | refine wt8 ?_ | refine ToL.cons ?_ ?_ | exact wt11 | refine wt9 ?_ ?_ | refine wt12 ?_ | (with_reducible rfl) | assumption)); all_goals (first | rfl | assumption | (simp; done) | (simp; omega))))
  refine Reg.nil ?_
  refine walkX ?_
  refine DK.nil ⟨by kernel_rfl, ?_⟩
  refine walkX ?_
  exact EndP.w

end Go.Proofs.Ytnngbbiajioghaa
namespace Go.Proofs.Ytnngbbiajioghaa
open Go.Av Go.Proofs
set_option exponentiation.threshold 3000
set_option maxRecDepth 20000

/-! Which operation there is for a kind. -/

def loc (n : Int) : AV := .clo (.func 112) [] [.cptr [.sc (.int .i64 n)]]
def opTab : List (List Int × AV) := [([1, 1], cT 106 (fT 78)), ([1, 2], cT 106 (fT 89)), ([2, 1], cT 106 (fT 79)), ([3, 1], cT 107 (fT 81)), ([3, 2], cT 111 (cT 107 (fT 91))), ([4, 1], cT 107 (cT 109 (fT 81))),
  ([4, 2], cT 111 (cT 107 (cT 109 (fT 91)))), ([5, 1], cT 106 (fT 83)), ([6, 1], cT 106 (fT 84)), ([7, 1], cT 106 (fT 85)), ([8, 1], cT 106 (cT 110 (fT 87))), ([9, 1], cT 106 (cT 110 (fT 88))), ([10, 3], cT 107 (loc 1)), ([11, 3], cT 107 (loc (-1)))]
def opV (op kind : Int) : AV := (ufind [op, kind] opTab).getD (.sc .nilFunc)

theorem opTab_pure : ∀ p ∈ opTab, Pure p.2 := by
  intro p hp
  simp only [opTab, List.mem_cons, List.not_mem_nil, or_false] at hp
  rcases hp with rfl | rfl | rfl | rfl | rfl | rfl | rfl | rfl | rfl | rfl | rfl | rfl | rfl | rfl <;> (simp only [loc]; exact pv _)
instance (op kind : Int) : PV (opV op kind) := ⟨by
  unfold opV
  cases h : ufind [op, kind] opTab with
  | none => exact .sc _
  | some x => exact opTab_pure _ (ufind_mem h)⟩

def fnC (n : Nat) : AV := .sc (.func (.func n) #[] #[])
theorem le_fn (n : Nat) : ∀ (j : Nat) a b, [fnC n][j]? = some a → [fT n][j]? = some b → Le a b := fun j a b ha hb => by
  cases j with
  | zero => simp at ha hb; subst ha; subst hb; exact Le.func n
  | succ j => simp at ha
theorem mk77f (n : Nat) : PureRun Try.prog 77 [fnC n] (cT 106 (fT n)) := (mk77 (.func n) []).args rfl (le_fn n)
theorem mk80f (n : Nat) : PureRun Try.prog 80 [fnC n] (cT 107 (fT n)) := (mk80 (.func n) []).args rfl (le_fn n)
theorem mk82f (n : Nat) : PureRun Try.prog 82 [fnC n] (cT 109 (fT n)) := (mk82 (.func n) []).args rfl (le_fn n)
theorem mk86f (n : Nat) : PureRun Try.prog 86 [fnC n] (cT 106 (cT 110 (fT n))) := (mk86 (.func n) []).args rfl (le_fn n)

theorem dstep_lookU {g i : Nat} {fr : Fr} {H : Heap} {ks : List LK} {z : AV} {x ix : Operand} {g' i' n : Nat} {k : List Value} {c : List Int} {es : List (List Int × AV)} {r : Bool} (hx : ev fr x = .mref g' i') (hk : flatOf (ev fr ix) = some k) (hr : cellsEq ks k k = some r) (hu : ukey k = some c)
    (hh : hget H g' i' = some (.umap n es)) (hn : Nat.beq c.length n = true) : dstep g i (.xop (.lookF ks z false) [x, ix]) fr H = some ((ufind c es).getD z, H) := by
  simp only [dstep, avals, List.map_cons, List.map_nil, xstep, hk, hr, hx, mlookF, hh, hu, hn]
  cases ufind c es <;> rfl

theorem dstep_lookV {g i : Nat} {fr : Fr} {H : Heap} {ks : List LK} {z v : AV} {x ix : Operand} {g' i' n : Nat} {k : List Value} {c : List Int} {es : List (List Int × AV)} {r : Bool} (hx : ev fr x = .mref g' i') (hk : flatOf (ev fr ix) = some k) (hr : cellsEq ks k k = some r) (hu : ukey k = some c)
    (hh : hget H g' i' = some (.umap n es)) (hn : Nat.beq c.length n = true) (hv : (ufind c es).getD z = v) : dstep g i (.xop (.lookF ks z false) [x, ix]) fr H = some (v, H) := by rw [dstep_lookU hx hk hr hu hh hn, hv]
theorem dstep_mv {g i : Nat} {fr : Fr} {H : Heap} (x : Operand) : dstep g i (.move x) fr H = some (ev fr x, H) := fz_eq _ _
theorem endp_tmp {t : Nat} {X : AV} {e : Exit} {fr : Fr} {H : Heap} (he : e = .normal ∨ e = .ret) (ht : fr.get t = X) [h : PV X] : EndP [.tmp t] X e fr H :=
  EndP.mk he (show resOf fr H _ = some X by unfold resOf; simp only [resAll, resOne, ht, fz_eq]) rfl (.pure h.out)

set_option maxHeartbeats 4000000 in
theorem operations_ok (op kind : Int) : PureRun Try.prog 49 [.sc (.int .i64 op), .sc (.int .i64 kind)] (opV op kind) := by
  refine PureRun.mkI cF49 (Nat.le_of_ble_eq_true rfl) ?_
  have a1 := mk77f 78
  have a2 := mk77f 79
  have a3 := mk80f 81
  have a4 := mk82f 81
  have a5 := mk80 (.func 109) [.cptr [fT 81]]
  have a6 := mk77f 83
  have a7 := mk77f 84
  have a8 := mk77f 85
  have a9 := mk86f 87
  have b1 := mk86f 88
  have b2 := mk77f 89
  have b3 := mk80f 91
  have b4 := mk90 (.func 107) [.cptr [fT 91]]
  have b5 := mk82f 91
  have b6 := mk80 (.func 109) [.cptr [fT 91]]
  have b7 := mk90 (.func 107) [.cptr [cT 109 (fT 91)]]
  have b8 := mk92 1
  have b9 := mk80 (.func 112) [.cptr [.sc (.int .i64 1)]]
  have c1 := mk92 (-1)
  have c2 := mk80 (.func 112) [.cptr [.sc (.int .i64 (-1))]]
  refine walkW ?_
  refine DK.o (v := opV op kind) rfl (dstep_lookV (r := decide (op = op) && (decide (kind = kind) && true)) rfl rfl rfl rfl rfl rfl (by kernel_rfl)) ?_
  refine DK.o rfl (dstep_mv _) ?_
  refine DK.nil ⟨by kernel_rfl, ?_⟩
  refine walkW ?_
  exact endp_tmp (.inr rfl) rfl

end Go.Proofs.Ytnngbbiajioghaa
namespace Go.Proofs.Ytnngbbiajioghaa
open Go.Av Go.Proofs
set_option exponentiation.threshold 3000
set_option maxRecDepth 20000

/-! Sums in memory: made, added to, looked at. -/

theorem new_at (H : Heap) : CallOK Try.prog 27 [] H fun res H' => res = .ptr H.length 0 0 0 ∧ H' = hset H H.length 0 (.cells 41 [s0.acc true]) := by
  refine CallOK.of cF27 ?_ (Nat.le_of_ble_eq_true rfl)
  refine walkSuT12 ?_
  exact ⟨.inr rfl, _, _, _, rfl, .refl _ _ _, rfl, rfl⟩

theorem hget_gh {H : Heap} {g i : Nat} {x : Blk} (h : hget H g i = some x) : hget (H ++ gh []) g i = some x := by
  rw [show H ++ gh [] = H from List.append_nil H]; exact h

/-- A function that looks at one sum. -/
theorem look_at {f : FuncId} {v : Value} {H : Heap} {g i : Nat} {m : Bool} {a : St} (hx : hget H g i = some (.cells 41 [a.acc m])) (h : PureRun Try.prog f [.cptr (a.acc m)] (.sc v)) : CallOK Try.prog f [.ptr g i 0 0] H fun res H' => res = .sc v ∧ H' = H :=
  CallOK.view (args' := [.cptr (a.acc m)]) h (.sc v) (ToL.cons (To.fzp (hget_gh hx) rfl rfl (To.cptrL (ToL.pure (a.acc_pure m)))) ToL.nil) ⟨rfl, rfl⟩

theorem hget_hset_same {H : Heap} {g i : Nat} {x y : Blk} (h : hget H g i = some y) : hget (hset H g i x) g i = some x := by
  rw [get_hset _ _ _ _ _ _ (.inl (by rw [h]; rfl)), if_pos ⟨rfl, rfl⟩]

theorem add_at {H : Heap} {g i : Nat} {a : St} (hx : hget H g i = some (.cells 41 [a.acc true])) {b : Nat} (hb : b < 18446744073709551616) :
    CallOK Try.prog 28 [.ptr g i 0 0, .sc (.int .u64 (b : Int))] H fun res H' => res = .sc (.int .i64 (mergeR a (oneS b)).1) ∧ H' = hset H g i (.cells 41 [(mergeR a (oneS b)).2.acc true]) := by
  refine CallOK.of cF28 ?_ (Nat.le_of_ble_eq_true rfl)
  have h1 := look_at hx (valid_ok true a)
  have h2 := one_ok hb
  have h3 := merge_at hx (oneS b)
  refine walkSuT12 ?_
  refine Reg.c (Nat.le_refl _) rfl (h1.mono ?_)
  rintro res H' ⟨rfl, rfl⟩
  refine walkSuT12 ?_
  refine Reg.c (Nat.le_refl _) rfl (h3.mono ?_)
  rintro res H2 ⟨rfl, rfl⟩
  refine walkSuT12 ?_
  exact ⟨.inr rfl, _, _, _, rfl, .refl _ _ _, rfl, rfl⟩

/-- The value of the sum of two real numbers. -/
def twoN (a b : Nat) : Nat := (mergeR (mergeR s0 (oneS a)).2 (oneS b)).2.value
theorem mergeR_lt {a s : St} (h : a.n < 2 ^ 2304) : (mergeR a s).2.n < 2 ^ 2304 := by
  unfold mergeR
  split
  · exact h
  · rename_i t e
    unfold mergeS at e
    split at e
    · cases e
    · injection e with e
      subst e
      exact Nat.mod_lt _ big_pos
theorem two_ok {a b : Nat} (ha : a < 18446744073709551616) (hb : b < 18446744073709551616) : PureRun Try.prog 89 [.sc (.int .u64 (a : Int)), .sc (.int .u64 (b : Int))] (.sc (.int .u64 (twoN a b : Nat))) := by
  refine PureRun.mkI cF89 (Nat.le_of_ble_eq_true rfl) ?_
  refine walkSuT12 ?_
  refine Reg.c (Nat.zero_le _) rfl ((new_at _).mono ?_)
  rintro res H' ⟨rfl, rfl⟩
  refine walkSuT12 ?_
  refine Reg.c (Nat.zero_le _) rfl ((add_at (a := s0) rfl ha).mono ?_)
  rintro res H' ⟨rfl, rfl⟩
  refine walkSuT12 ?_
  refine Reg.c (Nat.zero_le _) rfl ((add_at (a := (mergeR s0 (oneS a)).2) rfl hb).mono ?_)
  rintro res H' ⟨rfl, rfl⟩
  refine walkSuT12 ?_
  have hlt : (mergeR (mergeR s0 (oneS a)).2 (oneS b)).2.n < 2 ^ 2304 := mergeR_lt (mergeR_lt (by decide))
  refine Reg.c (Nat.zero_le _) rfl ((look_at (a := (mergeR (mergeR s0 (oneS a)).2 (oneS b)).2) (m := true) rfl (value_ok _ hlt)).mono ?_)
  rintro res H' ⟨rfl, rfl⟩
  refine walkSuT12 ?_
  exact EndP.w

end Go.Proofs.Ytnngbbiajioghaa
namespace Go.Proofs.Ytnngbbiajioghaa
open Go.Av Go.Proofs
set_option exponentiation.threshold 3000
set_option maxRecDepth 20000

/-! Check, valid, Do. -/

abbrev Vl := Nat × Int
def vrow (v : Vl) : List AV := vR v.1 v.2
def vsR (l : List Vl) : List (List AV) := l.map vrow
def vsV (l : List Vl) : AV := .list 2 (vsR l)
instance (v : Vl) : PR (vrow v) := ⟨pr (vR v.1 v.2)⟩
instance (l : List Vl) : PRs (vsR l) := ⟨fun r hr => by
  obtain ⟨a, _, rfl⟩ := List.mem_map.1 hr
  exact pr (vrow a)⟩
instance (l : List Vl) : PV (vsV l) := ⟨.list _ _ (prs _)⟩
theorem vsR_len (l : List Vl) : (vsR l).length = l.length := by simp [vsR]
theorem vsR_ix (l : List Vl) (k : Nat) (h : k < l.length) : rowIx (vsR l) (k : Int) = some (vrow l[k]) := rowIx_map vrow l k h

def opNil (op kind : Int) : Bool := (ufind [op, kind] opTab).isNone
def checkE (op kind : Int) : Int := if op < 1 ∨ 11 < op ∨ kind < 1 ∨ 3 < kind then 2 else if opNil op kind = true then 13 else 0

theorem opTab_clo : ∀ p ∈ opTab, ∃ g cs, p.2 = .clo (.func g) [] cs := by
  intro p hp
  simp only [opTab, List.mem_cons, List.not_mem_nil, or_false] at hp
  rcases hp with rfl | rfl | rfl | rfl | rfl | rfl | rfl | rfl | rfl | rfl | rfl | rfl | rfl | rfl <;> exact ⟨_, _, rfl⟩
theorem opV_clo {op kind : Int} (h : opNil op kind = false) : ∃ f, ufind [op, kind] opTab = some f ∧ opV op kind = f ∧ ∃ g cs, f = .clo (.func g) [] cs := by
  unfold opNil at h
  cases e : ufind [op, kind] opTab with
  | none => rw [e] at h; cases h
  | some f => exact ⟨f, rfl, by unfold opV; rw [e]; rfl, opTab_clo _ (ufind_mem e)⟩
theorem opV_nil {op kind : Int} (h : opNil op kind = true) : opV op kind = .sc .nilFunc := by
  unfold opNil at h
  cases e : ufind [op, kind] opTab with
  | none => unfold opV; rw [e]; rfl
  | some f => rw [e] at h; cases h

theorem check_ok (op kind : Int) : PureRun Try.prog 16 [.sc (.int .i64 op), .sc (.int .i64 kind)] (.sc (.int .i64 (checkE op kind))) := by
  refine PureRun.mkI cF16 (Nat.le_of_ble_eq_true rfl) ?_
  have ho := operations_ok op kind
  have hV : PV (opV op kind) := inferInstance
  unfold checkE
  refine walkW ?_
  refine Reg.gs rfl (fun g1 => ?_) (fun g1 => ?_)
  · rw [g1, if_pos (.inl (of_decide_eq_true g1))]
    refine walkW ?_
    exact EndP.w
  rw [g1]
  have g1 := of_decide_eq_false g1
  refine walkW ?_
  refine Reg.gs rfl (fun g2 => ?_) (fun g2 => ?_)
  · rw [g2, if_pos (.inr (.inl (of_decide_eq_true g2)))]
    refine walkW ?_
    exact EndP.w
  rw [g2]
  have g2 := of_decide_eq_false g2
  refine walkW ?_
  refine Reg.gs rfl (fun g3 => ?_) (fun g3 => ?_)
  · rw [g3, if_pos (.inr (.inr (.inl (of_decide_eq_true g3))))]
    refine walkW ?_
    exact EndP.w
  rw [g3]
  have g3 := of_decide_eq_false g3
  refine walkW ?_
  refine AWP.condD rfl (fun g4 => ?_) (fun g4 => ?_)
  · rw [if_pos (.inr (.inr (.inr g4)))]
    refine walkW ?_
    exact EndP.w
  rw [if_neg (by omega)]
  cases hn : opNil op kind with
  | true =>
    rw [if_pos rfl]
    rw [opV_nil hn] at ho
    refine walkW ?_
    exact EndP.w
  | false =>
    rw [if_neg (by simp)]
    obtain ⟨f, _, e, g, cs, e2⟩ := opV_clo hn
    rw [e, e2] at ho
    refine walkW ?_
    exact EndP.w

def validS (kind : Int) (l : List Vl) : Bool := decide (kind = 3) || l.all fun v => decide (v.2 = 0)

theorem valid_list_ok (kind : Int) (l : List Vl) (hl : l.length ≤ 1000000) : PureRun Try.prog 48 [.sc (.int .i64 kind), vsV l] (.sc (.bool (validS kind l))) := by
  refine PureRun.mkI cF48 (Nat.le_of_ble_eq_true rfl) ?_
  have e0 := vsR_len l
  have hnp : ∀ k, (l.take k).all (fun v => decide (v.2 = 0)) = true ∨ True := fun _ => .inr trivial
  refine walkW ?_
  rw [e0]
  refine AWP.loop (fun k : Nat => [(0, .sc (.int .i64 kind)), (7, vsV l), (8, .sc (.int .i64 (l.length : Int))), (9, .sc (.int .i64 (k : Int)))]) (fun _ => []) (fun k => k ≤ l.length ∧ (decide (kind = 3) = true ∨ (l.take k).all (fun v => decide (v.2 = 0)) = true)) (fun k => l.length - k) 0
    ⟨Nat.zero_le _, .inr (by simp)⟩ ?_ ?_
  · exact Sub.w [] []
  rintro k ⟨hk, hv⟩
  refine walkX ?_
  refine AWP.condD rfl (fun h => ?_) (fun h => ?_)
  · have hr := vsR_ix l k h
    have ht : l.take (k + 1) = l.take k ++ [l[k]] := List.take_succ_eq_append_getElem h
    have hm : l[k] ∈ l := List.getElem_mem h
    generalize l[k] = v at hr ht hm
    have hr : rowIx (vsR l) (k : Int) = some (vR v.1 v.2) := hr
    refine walkX ?_
    refine Reg.gs rfl (fun g => ?_) (fun g => ?_)
    · rw [g]
      have g3 : ¬ kind = 3 := by simpa using g
      refine walkX ?_
      refine AWP.cond rfl (fun g2 => ?_) (fun g2 => ?_)
      · have g2 : ¬ v.2 = 0 := by simpa using g2
        have e : validS kind l = false := by
          unfold validS
          rw [decide_eq_false g3, Bool.false_or]
          apply Bool.eq_false_iff.2
          intro hall
          exact g2 (of_decide_eq_true (List.all_eq_true.1 hall v hm))
        rw [e]
        refine walkX ?_
        exact EndP.w
      · have g2 : v.2 = 0 := by simpa using g2
        refine walkX ?_
        refine ⟨k + 1, ⟨by omega, .inr ?_⟩, by omega, ?_⟩
        · rw [ht, List.all_append]
          rcases hv with hv | hv
          · exact absurd (of_decide_eq_true hv) g3
          · rw [hv]; simp [g2]
        · exact Sub.w [] []
    · rw [g]
      have g3 : kind = 3 := by simpa using g
      refine walkX ?_
      refine ⟨k + 1, ⟨by omega, .inl (decide_eq_true g3)⟩, by omega, ?_⟩
      exact Sub.w [] []
  · have e : k = l.length := by omega
    subst e
    have e : validS kind l = true := by
      unfold validS
      rw [Bool.or_eq_true]
      rw [List.take_of_length_le (Nat.le_refl _)] at hv
      exact hv
    rw [e]
    refine walkX ?_
    exact EndP.w

/-- The result of an operation for two values. -/
def opR (op kind : Int) (a b : Vl) : Vl :=
  if kind = 1 then
    if op = 1 then ((a.1 + b.1) % 18446744073709551616, 0)
    else if op = 2 then (a.1 * b.1 % 18446744073709551616, 0)
    else if op = 3 then (if cmpI (sg b.1) (sg a.1) < 0 then b else a)
    else if op = 4 then (if cmpI (sg a.1) (sg b.1) < 0 then b else a)
    else if op = 5 then (a.1 &&& b.1, 0)
    else if op = 6 then (a.1 ||| b.1, 0)
    else if op = 7 then (a.1 ^^^ b.1, 0)
    else if op = 8 then ((!decide (a.1 = 0) && !decide (b.1 = 0)).toNat, 0)
    else ((!decide (a.1 = 0) || !decide (b.1 = 0)).toNat, 0)
  else if kind = 2 then
    if op = 1 then (twoN a.1 b.1, 0)
    else if infN < a.1 % 9223372036854775808 ∨ infN < b.1 % 9223372036854775808 then (nanN, 0)
    else if op = 3 then (if compareS b.1 a.1 < 0 then b else a)
    else (if compareS a.1 b.1 < 0 then b else a)
  else if op = 10 then (if locS 1 b.1 a.1 b.2 a.2 < 0 then b else a)
  else (if locS (-1) b.1 a.1 b.2 a.2 < 0 then b else a)

theorem ite_vV {c : Prop} [Decidable c] (a b : Vl) : (if c then vV b.1 b.2 else vV a.1 a.2) = vV (if c then b else a).1 (if c then b else a).2 := by split <;> rfl

theorem op_does {op kind : Int} {f : AV} (hf : ufind [op, kind] opTab = some f) (a b : Vl) (ha : a.1 < 18446744073709551616) (hb : b.1 < 18446744073709551616) : Does f [vV a.1 a.2, vV b.1 b.2] (vV (opR op kind a b).1 (opR op kind a b).2) := by
  have hm := ufind_mem hf
  simp only [opTab, List.mem_cons, List.not_mem_nil, or_false, Prod.mk.injEq, List.cons.injEq, and_true] at hm
  rcases hm with h | h | h | h | h | h | h | h | h | h | h | h | h | h <;> obtain ⟨⟨rfl, rfl⟩, rfl⟩ := h
  · exact do106 _ _ (does_fT (do78 _ _))
  · exact do106 _ _ (does_fT (two_ok ha hb))
  · exact do106 _ _ (does_fT (do79 _ _))
  · have := do107 a.2 b.2 _ (does_fT (do81 b.1 a.1 b.2 a.2))
    rw [ite_vV] at this
    exact this
  · have := do107 a.2 b.2 _ (does_fT (do91 hb ha b.2 a.2))
    rw [ite_vV] at this
    have := do111 a.2 b.2 _ ha hb this
    have e : opR 3 2 a b = if infN < a.1 % 9223372036854775808 ∨ infN < b.1 % 9223372036854775808 then (nanN, 0) else if compareS b.1 a.1 < 0 then b else a := by unfold opR; simp
    rw [e]
    generalize (if compareS b.1 a.1 < 0 then b else a) = c at *
    split at this
    · rename_i h; rw [if_pos h]; exact this
    · rename_i h; rw [if_neg h]; exact this
  · have := do107 a.2 b.2 _ (do109 (f := fT 81) b.2 a.2 _ (does_fT (do81 a.1 b.1 a.2 b.2)))
    rw [ite_vV] at this
    exact this
  · have := do107 a.2 b.2 _ (do109 (f := fT 91) b.2 a.2 _ (does_fT (do91 ha hb a.2 b.2)))
    rw [ite_vV] at this
    have := do111 a.2 b.2 _ ha hb this
    have e : opR 4 2 a b = if infN < a.1 % 9223372036854775808 ∨ infN < b.1 % 9223372036854775808 then (nanN, 0) else if compareS a.1 b.1 < 0 then b else a := by unfold opR; simp
    rw [e]
    generalize (if compareS a.1 b.1 < 0 then b else a) = c at *
    split at this
    · rename_i h; rw [if_pos h]; exact this
    · rename_i h; rw [if_neg h]; exact this
  · exact do106 _ _ (does_fT (do83 ha hb))
  · exact do106 _ _ (does_fT (do84 ha hb))
  · exact do106 _ _ (does_fT (do85 ha hb))
  · exact do106 _ _ (do110 (f := fT 87) _ (does_fT (do87 _ _)))
  · exact do106 _ _ (do110 (f := fT 88) _ (does_fT (do88 _ _)))
  · have := do107 a.2 b.2 _ (do112 1 (.inl rfl) b.1 a.1 b.2 a.2)
    rw [ite_vV] at this
    exact this
  · have := do107 a.2 b.2 _ (do112 (-1) (.inr rfl) b.1 a.1 b.2 a.2)
    rw [ite_vV] at this
    exact this

end Go.Proofs.Ytnngbbiajioghaa
namespace Go.Proofs.Ytnngbbiajioghaa
open Go.Av Go.Proofs
set_option exponentiation.threshold 3000
set_option maxRecDepth 20000

/-! Do, and reductions. -/

theorem does_run {g : FuncId} {cs args : List AV} {v : AV} (h : Does (.clo (.func g) [] cs) args v) : PureRun Try.prog g ([] ++ args ++ cs) v := by
  obtain ⟨g', cs', e, hp⟩ := h
  injection e with e1 e2 e3
  injection e1 with e1
  subst e1; subst e3
  exact hp

theorem twoN_lt (a b : Nat) : twoN a b < 18446744073709551616 := by
  unfold twoN
  generalize (mergeR (mergeR s0 (oneS a)).2 (oneS b)).2 = s
  unfold St.value
  have h1 := roundN_le (2 ^ 2304 - s.n)
  have h2 := roundN_le s.n
  have h3 : roundN (2 ^ 2304 - s.n) < 2 ^ 64 := by unfold infN at h1; omega
  have h4 := Nat.or_lt_two_pow (x := signN) (n := 64) (by decide) h3
  unfold infN at h2
  split
  · decide
  · split
    · decide
    · split
      · decide
      · split
        · decide
        · split
          · exact h4
          · omega

theorem opR_lt {op kind : Int} {a b : Vl} (ha : a.1 < 18446744073709551616) (hb : b.1 < 18446744073709551616) : (opR op kind a b).1 < 18446744073709551616 := by
  have h1 : a.1 &&& b.1 < 18446744073709551616 := Nat.lt_of_le_of_lt Nat.and_le_left ha
  have h2 : a.1 ||| b.1 < 18446744073709551616 := Nat.or_lt_two_pow (n := 64) ha hb
  have h3 : a.1 ^^^ b.1 < 18446744073709551616 := Nat.xor_lt_two_pow (n := 64) ha hb
  have h4 := twoN_lt a.1 b.1
  have h5 : ∀ c : Bool, c.toNat < 18446744073709551616 := fun c => by cases c <;> decide
  have h6 : ∀ (c : Prop) [Decidable c], (if c then b else a).1 < 18446744073709551616 := fun c _ => by split <;> assumption
  unfold opR
  split
  · split
    · exact Nat.mod_lt _ (by decide)
    · split
      · exact Nat.mod_lt _ (by decide)
      · split
        · exact h6 _
        · split
          · exact h6 _
          · split
            · exact h1
            · split
              · exact h2
              · split
                · exact h3
                · split <;> exact h5 _
  · split
    · split
      · exact h4
      · split
        · decide
        · split <;> exact h6 _
    · split <;> exact h6 _

/-- The result of Do. -/
def doS (op kind : Int) (a b : Vl) : Vl × Int :=
  if checkE op kind ≠ 0 then ((0, 0), checkE op kind)
  else if validS kind [a, b] = false then ((0, 0), 2)
  else (opR op kind a b, 0)

theorem check_op {op kind : Int} (h : checkE op kind = 0) : opNil op kind = false := by
  cases hn : opNil op kind with
  | false => rfl
  | true =>
    unfold checkE at h
    rw [hn, if_pos rfl] at h
    split at h <;> cases h

set_option maxHeartbeats 1000000 in
theorem do_ok (op kind : Int) (a b : Vl) (ha : a.1 < 18446744073709551616) (hb : b.1 < 18446744073709551616) :
    PureRun Try.prog 14 [.sc (.int .i64 op), .sc (.int .i64 kind), .agg (vrow a), .agg (vrow b)] (.tup [.agg (vrow (doS op kind a b).1), .sc (.int .i64 (doS op kind a b).2)]) := by
  refine PureRun.mkI cF14 (Nat.le_of_ble_eq_true rfl) ?_
  have hc := check_ok op kind
  have hv := valid_list_ok kind [a, b] (by simp)
  have hvv : vsV [a, b] = .list 2 [vrow a, vrow b] := rfl
  unfold doS
  rw [hvv] at hv
  unfold vrow at hv ⊢
  refine walkW ?_
  refine AWP.cond rfl (fun h => ?_) (fun h => ?_)
  · have h : checkE op kind ≠ 0 := by simpa using h
    rw [if_pos h]
    refine walkW ?_
    exact EndP.w
  have h : checkE op kind = 0 := by simpa using h
  rw [if_neg (by omega)]
  refine walkW ?_
  (refine Reg.pv (by first | exact Nat.zero_le _ | exact Nat.le_refl _ | (simp; done) | (simp; omega)) rfl hv (by first | exact .sc _ | (exact .agg _ (fun c hc => by simp at hc; rcases hc with h | h <;> subst h <;> exact .sc _)) | assumption) ?vw9 ?_; case vw9 => (all_goals (repeat' (first | exact ToAll.nil | exact famsTo.nil | exact famTo.nil | exact ToL.nil | exact ToR.nil | refine ToAll.cons ?_ ?_ | refine famsTo.cons ?_ ?_ | refine wt10 ?_ ?_ | exact To.undef _ | exact To.sc _ | exact To.hslL rfl rfl | exact To.ptrO rfl rfl rfl | exact To.mrefO rfl | exact To.nil rfl rfl rfl | exact wt1 | exact To.nilL | refine To.int ?_ | refine To.bool ?_ | refine To.hslL rfl ?_ | refine wt2 rfl ?_ ?_ ?_ | refine To.tupL ?_ | refine To.aggL ?_ | refine To.cptrL ?_ | refine wt3 ?_ | refine wt4 ?_ | refine To.cloL ?_ ?_ | exact wt5 | refine wt6 ?_ | refine ToB.one ?_ | exact wt7 | ((with_reducible apply ToL.consE); case e9 => rfl) | refine wt8 ?_ | refine ToL.cons ?_ ?_ | exact wt11 | refine wt9 ?_ ?_ | refine wt12 ?_ | (with_reducible rfl) | assumption)); all_goals (first | rfl | assumption | (simp; done) | (simp; omega))))
  refine walkW ?_
  cases hq : validS kind [a, b] with
  | false =>
    rw [if_pos rfl]
    refine walkW ?_
    exact EndP.w
  | true =>
    rw [if_neg (by simp)]
    obtain ⟨f, hf, e, g, cs, e2⟩ := opV_clo (check_op h)
    have ho := operations_ok op kind
    have hd := op_does hf a b ha hb
    rw [e, e2] at ho
    rw [e2] at hd
    have hr := does_run hd
    generalize opR op kind a b = r at *
    refine AWP.condF rfl ?_
    refine AWP.skip ?_
    refine AWP.seq ?_
    refine AWP.dkm 5 _ mixed rfl rfl (by kernel_rfl) (by kernel_rfl) (by kernel_rfl) ?_
    refine walkX ?_
    refine DK.nil ⟨by kernel_rfl, ?_⟩
    refine walkX ?_
    refine DK.nil ⟨by kernel_rfl, ?_⟩
    refine walkX ?_
    exact EndP.w

/-- The result of an operation for some values. -/
def sumAll (l : List Vl) : St := l.foldl (fun a v => (mergeR a (oneS v.1)).2) s0
def start (op kind : Int) (v : Vl) : Vl := if kind = 2 then opR op kind v v else v
def reduceS (op kind : Int) (l : List Vl) : Vl := match l with
  | [] => (0, 0)
  | v :: r => if op = 1 ∧ kind = 2 then ((sumAll (v :: r)).value, 0) else r.foldl (fun a b => opR op kind a b) (start op kind v)

theorem reduceS_cons (op kind : Int) (v : Vl) (r : List Vl) : reduceS op kind (v :: r) = if op = 1 ∧ kind = 2 then ((sumAll (v :: r)).value, 0) else r.foldl (fun a b => opR op kind a b) (start op kind v) := rfl
theorem sumAll_lt (l : List Vl) : (sumAll l).n < 2 ^ 2304 := by
  unfold sumAll
  suffices ∀ (l : List Vl) (s : St), s.n < 2 ^ 2304 → (l.foldl (fun a v => (mergeR a (oneS v.1)).2) s).n < 2 ^ 2304 from this l s0 (by decide)
  intro l
  induction l with
  | nil => exact fun s h => h
  | cons v l ih => exact fun s h => ih _ (mergeR_lt h)

theorem foldl_take {α β : Type} (f : β → α → β) (b : β) (l : List α) (k : Nat) (h : k < l.length) : (l.take (k + 1)).foldl f b = f ((l.take k).foldl f b) l[k] := by
  rw [List.take_succ_eq_append_getElem h, List.foldl_append, List.foldl_cons, List.foldl_nil]
theorem sumAll_take (l : List Vl) (k : Nat) (h : k < l.length) : sumAll (l.take (k + 1)) = (mergeR (sumAll (l.take k)) (oneS l[k].1)).2 := by
  unfold sumAll
  rw [foldl_take]

theorem dstep_sl1 {g i : Nat} {fr : Fr} {H : Heap} {sz : Nat} {x : Operand} {rows : List (List AV)} {lo hi mx : Option Operand} {l h : Nat} (hx : ev fr x = .list sz rows) (hb : sbounds fr rows.length lo hi mx = some (l, h)) :
    dstep g i (.slice sz x lo hi mx) fr H = some (.list sz ((rows.drop l).take (h - l)), H) := by
  have e : Nat.beq sz sz = true := by simp
  simp only [dstep, hx, e, hb]

theorem sb_from {fr : Fr} {n q : Nat} {x : Operand} {k : IntKind} (hx : ev fr x = .sc (.int k (q : Int))) (h : q ≤ n) : sbounds fr n (some x) none none = some (q, n) := by
  have e1 : Nat.ble q n = true := Nat.ble_eq_true_of_le h
  have e2 : Nat.ble n n = true := Nat.ble_eq_true_of_le (Nat.le_refl n)
  simp only [sbounds, sbnd, hx]
  show (match Nat.ble q n && (Nat.ble n n && Nat.ble n n) && true with | true => some (q, n) | false => none) = _
  rw [e1, e2]
  rfl
theorem sb_to {fr : Fr} {n q : Nat} {x : Operand} {k : IntKind} (hx : ev fr x = .sc (.int k (q : Int))) (h : q ≤ n) : sbounds fr n none (some x) none = some (0, q) := by
  have e1 : Nat.ble q n = true := Nat.ble_eq_true_of_le h
  have e2 : Nat.ble n n = true := Nat.ble_eq_true_of_le (Nat.le_refl n)
  have e3 : Nat.ble 0 q = true := Nat.ble_eq_true_of_le (Nat.zero_le q)
  simp only [sbounds, sbnd, hx]
  show (match Nat.ble 0 q && (Nat.ble q n && Nat.ble n n) && true with | true => some (0, q) | false => none) = _
  rw [e1, e2, e3]
  rfl

set_option maxHeartbeats 1000000 in
theorem reduce_ok (op kind : Int) (l : List Vl) (h0 : l ≠ []) (hl : l.length ≤ 1000000) (hb : ∀ v ∈ l, v.1 < 18446744073709551616) (hc : checkE op kind = 0) :
    PureRun Try.prog 69 [.sc (.int .i64 op), .sc (.int .i64 kind), vsV l] (.agg (vrow (reduceS op kind l))) := by
  refine PureRun.mkI cF69 (Nat.le_of_ble_eq_true rfl) ?_
  have e0 := vsR_len l
  by_cases hs : op = 1 ∧ kind = 2
  · obtain ⟨rfl, rfl⟩ := hs
    refine walkW ?_
    refine Reg.c (Nat.zero_le _) rfl ((new_at _).mono ?_)
    rintro res H' ⟨rfl, rfl⟩
    refine walkW ?_
    rw [e0]
    refine AWP.loop (fun k : Nat => [(6, .ptr 0 0 0 0), (7, .ptr 1 0 0 0), (21, vsV l), (22, .sc (.int .i64 (l.length : Int))), (23, .sc (.int .i64 (k : Int)))]) (fun k => [[.cells 2 [vR 0 0]], [.cells 41 [(sumAll (l.take k)).acc true]]]) (fun k => k ≤ l.length) (fun k => l.length - k) 0 (Nat.zero_le _) ?_ ?_
    · exact Sub.w [] [[(0,0)],[(1,0)]]
    intro k hk
    refine walkX ?_
    refine AWP.condD rfl (fun h => ?_) (fun h => ?_)
    · have hr : rowIx (vsR l) (k : Int) = some (vR l[k].1 l[k].2) := vsR_ix l k h
      have hv := hb l[k] (List.getElem_mem h)
      have hf : sumAll (l.take (k + 1)) = (mergeR (sumAll (l.take k)) (oneS l[k].1)).2 := sumAll_take l k h
      generalize l[k] = v at *
      generalize sumAll (l.take k) = s at *
      refine walkX ?_
      refine Reg.c (Nat.zero_le _) rfl ((add_at (a := s) (g := 1) (i := 0) (b := v.1) rfl hv).mono ?_)
      rintro res H' ⟨rfl, rfl⟩
      refine walkX ?_
      refine ⟨k + 1, by omega, by omega, ?_⟩
      (apply Sub.to [] [[(0,0)],[(1,0)]]; all_goals (repeat' (first | exact ToAll.nil | exact famsTo.nil | exact famTo.nil | exact ToL.nil | exact ToR.nil | refine ToAll.cons ?_ ?_ | refine famsTo.cons ?_ ?_ | refine wt10 ?_ ?_ | exact To.undef _ | exact To.sc _ | exact To.hslL rfl rfl | exact To.ptrO rfl rfl rfl | exact To.mrefO rfl | exact To.nil rfl rfl rfl | exact wt1 | exact To.nilL | refine To.int ?_ | refine To.bool ?_ | refine To.hslL rfl ?_ | refine wt2 rfl ?_ ?_ ?_ | refine To.tupL ?_ | refine To.aggL ?_ | refine To.cptrL ?_ | refine wt3 ?_ | refine wt4 ?_ | refine To.cloL ?_ ?_ | exact wt5 | refine wt6 ?_ | refine ToB.one ?_ | exact wt7 | ((with_reducible apply ToL.consE); case e9 => rfl) | refine wt8 ?_ | refine ToL.cons ?_ ?_ | exact wt11 | refine wt9 ?_ ?_ | refine wt12 ?_ | (with_reducible rfl) | assumption)); all_goals (first | rfl | assumption | (simp; done) | (simp; omega) | (rw [wrap_small (by omega) (by omega)]; done) | (rw [wrap_small (by omega) (by omega)]; omega) | (refine congrArg Nat.cast ?_; assumption) | skip))
      rw [hf]
    · have hk : k = l.length := by omega
      subst hk
      rw [List.take_of_length_le (Nat.le_refl _)]
      have hlt := sumAll_lt l
      have e : reduceS 1 2 l = ((sumAll l).value, 0) := by
        cases l with
        | nil => exact absurd rfl h0
        | cons v r =>
          rw [reduceS_cons, if_pos ⟨rfl, rfl⟩]
      rw [e]
      unfold vrow
      generalize sumAll l = s at *
      refine walkX ?_
      refine Reg.c (Nat.zero_le _) rfl ((look_at (a := s) (m := true) rfl (value_ok _ hlt)).mono ?_)
      rintro res H' ⟨rfl, rfl⟩
      refine walkX ?_
      exact EndP.w
  · obtain ⟨f, hf, e, g, cs, e2⟩ := opV_clo (check_op hc)
    have ho := operations_ok op kind
    have hpf := opTab_pure _ (ufind_mem hf)
    rw [show ([op, kind], f).2 = f from rfl, e2] at hpf
    have hcs : PR cs := by
      cases hpf with
      | clo _ _ _ _ h => exact ⟨h⟩
    have hdo : ∀ a b : Vl, a.1 < 18446744073709551616 → b.1 < 18446744073709551616 → PureRun Try.prog g ([] ++ [.agg (vrow a), .agg (vrow b)] ++ cs) (.agg (vrow (opR op kind a b))) := fun a b ha hb => by
      have hd := op_does hf a b ha hb
      rw [e2] at hd
      exact does_run hd
    rw [e, e2] at ho
    cases l with
    | nil => exact absurd rfl h0
    | cons v r =>
      have hv := hb v (List.mem_cons_self ..)
      have hbr : ∀ w ∈ r, w.1 < 18446744073709551616 := fun w hw => hb w (List.mem_cons_of_mem _ hw)
      have hlen : (v :: r).length = r.length + 1 := rfl
      have e1 : reduceS op kind (v :: r) = r.foldl (fun a b => opR op kind a b) (start op kind v) := by
        rw [reduceS_cons, if_neg hs]
      rw [e1]
      refine AWP.seq ?_
      refine AWP.region ?_
      refine walkR ?_
      refine AWP.seq ?_
      refine AWP.joinT0 [(0, .sc (.int .i64 op)), (1, .sc (.int .i64 kind)), (2, vsV (v :: r)), (6, .ptr 0 0 0 0)] [[.cells 2 [vR 0 0]]] ?_ ?_
      · refine walkW ?_
        refine Reg.gs rfl (fun g1 => ?_) (fun g1 => ?_)
        · rw [g1]
          have g1 : op = 1 := by simpa using g1
          refine walkW ?_
          refine AWP.cond rfl (fun g2 => ?_) (fun g2 => ?_)
          · have g2 : kind = 2 := by simpa using g2
            exact absurd ⟨g1, g2⟩ hs
          · refine walkW ?_
            exact Sub.w [] [[(0,0)]]
        · rw [g1]
          refine walkW ?_
          exact Sub.w [] [[(0,0)]]
      have hr0 : rowIx (vsR (v :: r)) 0 = some (vrow v) := rfl
      refine walkW ?_
      refine AWP.joinT0 [(2, vsV (v :: r)), (6, .ptr 0 0 0 0), (10, .clo (.func g) [] cs), (11, .ptr 1 0 0 0)] [[.cells 2 [vR 0 0]], [.cells 2 [vrow (start op kind v)]]] ?_ ?_
      · refine AWP.cond rfl (fun g1 => ?_) (fun g1 => ?_)
        · have g1 : kind = 2 := by simpa using g1
          have hd := hdo v v hv hv
          have e3 : start op kind v = opR op kind v v := if_pos g1
          rw [e3]
          generalize opR op kind v v = o at hd
          refine walkX ?_
          exact Sub.w [] [[(0,0)],[(1,0)]]
        · have g1 : ¬ kind = 2 := by simpa using g1
          rw [show start op kind v = v from if_neg g1]
          refine walkW ?_
          exact Sub.w [] [[(0,0)],[(1,0)]]
      have hst : (start op kind v).1 < 18446744073709551616 := by
        unfold start
        split
        · exact opR_lt hv hv
        · exact hv
      generalize start op kind v = o at *
      have e0r := vsR_len r
      refine AWP.seq ?_
      refine AWP.seq ?_
      refine AWP.region ?_
      refine Reg.o rfl rfl ?_
      refine Reg.o rfl (dstep_sl1 (rows := vsR (v :: r)) (l := 1) (h := r.length + 1) rfl (by rw [vsR_len]; exact sb_from (q := 1) rfl (by omega))) ?_
      rw [show ((vsR (v :: r)).drop 1).take (r.length + 1 - 1) = vsR r by
        rw [show (vsR (v :: r)).drop 1 = vsR r from rfl]
        exact List.take_of_length_le (by rw [e0r]; omega)]
      refine walkW ?_
      rw [e0r]
      refine AWP.loop (fun k : Nat => [(6, .ptr 0 0 0 0), (10, .clo (.func g) [] cs), (11, .ptr 1 0 0 0), (48, vsV r), (49, .sc (.int .i64 (r.length : Int))), (50, .sc (.int .i64 (k : Int)))])
        (fun k => [[.cells 2 [vR 0 0]], [.cells 2 [vrow ((r.take k).foldl (fun a b => opR op kind a b) o)]]]) (fun k => k ≤ r.length ∧ ((r.take k).foldl (fun a b => opR op kind a b) o).1 < 18446744073709551616) (fun k => r.length - k) 0 ⟨Nat.zero_le _, hst⟩ ?_ ?_
      · exact Sub.w [] [[(0,0)],[(1,0)]]
      rintro k ⟨hk, hlt⟩
      refine walkX ?_
      refine AWP.condD rfl (fun h => ?_) (fun h => ?_)
      · have hr : rowIx (vsR r) (k : Int) = some (vrow r[k]) := vsR_ix r k h
        have hw := hbr r[k] (List.getElem_mem h)
        have hft := foldl_take (fun a b => opR op kind a b) o r k h
        have hdk := hdo _ _ hlt hw
        have hlt2 : (opR op kind ((r.take k).foldl (fun a b => opR op kind a b) o) r[k]).1 < 18446744073709551616 := opR_lt hlt hw
        rw [← hft] at hdk hlt2
        generalize hA2 : (r.take (k + 1)).foldl (fun a b => opR op kind a b) o = A2 at hdk hlt2 hft ⊢
        generalize (r.take k).foldl (fun a b => opR op kind a b) o = A at hdk hft ⊢
        generalize r[k] = w at *
        refine walkX ?_
        refine ⟨k + 1, ⟨by omega, by rw [hA2]; exact hlt2⟩, by omega, ?_⟩
        rw [hA2]
        exact Sub.w [] [[(0,0)],[(1,0)]]
      · have hk : k = r.length := by omega
        subst hk
        rw [List.take_of_length_le (Nat.le_refl _)]
        generalize r.foldl (fun a b => opR op kind a b) o = A
        refine walkX ?_
        exact EndP.w

end Go.Proofs.Ytnngbbiajioghaa
