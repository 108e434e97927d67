import Derived.Test.YtpkpfgpfkajkpaaGAvZ
import Derived.Test.YtpkpfgpfkajkpaaGAvK2
namespace Go.Av

/-! Whole numbers as natural ones: what operations give, where nothing overflows. -/

theorem natlit (n : Nat) : (OfNat.ofNat n : Int) = ((OfNat.ofNat n : Nat) : Int) := rfl

/-- What an operation gives for two numbers. -/
structure NBin (op : BinOp) (k k' : IntKind) (a b : Nat) (v : Value) : Prop where
  out : ∀ t, Sem.pure? (binOp op t (.int k (a : Int)) (.int k' (b : Int))) = some v

theorem wrap64 {n : Nat} (h : n ≤ 9223372036854775807) : IntKind.i64.wrap (n : Int) = (n : Int) := wrap_small (by omega) (by omega)
theorem wrapU (n : Nat) : IntKind.u64.wrap (n : Int) = ((n % 18446744073709551616 : Nat) : Int) := by
  have hb : IntKind.u64.bits = 64 := rfl
  have hs : IntKind.u64.signed = false := rfl
  simp only [IntKind.wrap, hb, hs]
  simp
theorem wrapU_lt {n : Nat} (h : n < 18446744073709551616) : IntKind.u64.wrap (n : Int) = (n : Int) := by rw [wrapU, Nat.mod_eq_of_lt h]
theorem wrapB (n : Nat) : IntKind.u8.wrap (n : Int) = ((n % 256 : Nat) : Int) := by
  have hb : IntKind.u8.bits = 8 := rfl
  have hs : IntKind.u8.signed = false := rfl
  simp only [IntKind.wrap, hb, hs]
  simp

theorem nb_add {a b : Nat} (h : a + b ≤ 9223372036854775807) : NBin .add .i64 .i64 a b (.int .i64 ((a + b : Nat) : Int)) := .mk fun t => by
  show some (Value.int .i64 (IntKind.i64.wrap ((a : Int) + (b : Int)))) = _
  rw [show (a : Int) + (b : Int) = ((a + b : Nat) : Int) by omega, wrap64 h]
theorem nb_sub {a b : Nat} (h : b ≤ a) (h2 : a ≤ 9223372036854775807) : NBin .sub .i64 .i64 a b (.int .i64 ((a - b : Nat) : Int)) := .mk fun t => by
  show some (Value.int .i64 (IntKind.i64.wrap ((a : Int) - (b : Int)))) = _
  rw [show (a : Int) - (b : Int) = ((a - b : Nat) : Int) by omega, wrap64 (by omega)]
theorem nb_mul {a b : Nat} (h : a * b ≤ 9223372036854775807) : NBin .mul .i64 .i64 a b (.int .i64 ((a * b : Nat) : Int)) := .mk fun t => by
  show some (Value.int .i64 (IntKind.i64.wrap ((a : Int) * (b : Int)))) = _
  rw [show (a : Int) * (b : Int) = ((a * b : Nat) : Int) by rw [Int.natCast_mul], wrap64 h]
theorem nb_quo {a b : Nat} (h : 0 < b) (h2 : a ≤ 9223372036854775807) : NBin .quo .i64 .i64 a b (.int .i64 ((a / b : Nat) : Int)) := .mk fun t => by
  show Sem.pure? (Op.intDiv .quo .i64 (a : Int) (b : Int)) = _
  unfold Op.intDiv
  rw [if_neg (by omega)]
  show some (Value.int .i64 (IntKind.i64.wrap ((a : Int).tdiv (b : Int)))) = _
  rw [show (a : Int).tdiv (b : Int) = ((a / b : Nat) : Int) from rfl, wrap64 (Nat.le_trans (Nat.div_le_self _ _) h2)]
theorem nb_uquo {a b : Nat} (h : 0 < b) (h2 : a < 18446744073709551616) : NBin .quo .u64 .u64 a b (.int .u64 ((a / b : Nat) : Int)) := .mk fun t => by
  show Sem.pure? (Op.intDiv .quo .u64 (a : Int) (b : Int)) = _
  unfold Op.intDiv
  rw [if_neg (by omega)]
  show some (Value.int .u64 (IntKind.u64.wrap ((a : Int).tdiv (b : Int)))) = _
  rw [show (a : Int).tdiv (b : Int) = ((a / b : Nat) : Int) from rfl, wrapU_lt (Nat.lt_of_le_of_lt (Nat.div_le_self _ _) h2)]
theorem nb_rem {k : IntKind} {a b : Nat} (h : 0 < b) : NBin .rem k k a b (.int k ((a % b : Nat) : Int)) := .mk fun t => by
  have e : binOp .rem t (.int k (a : Int)) (.int k (b : Int)) = Op.intDiv .rem k (a : Int) (b : Int) := by
    show (if k ≠ k then _ else _) = _
    rw [if_neg (by simp)]
  rw [e]
  unfold Op.intDiv
  rw [if_neg (by omega)]
  rfl
theorem nb_uadd {a b : Nat} : NBin .add .u64 .u64 a b (.int .u64 (((a + b) % 18446744073709551616 : Nat) : Int)) := .mk fun t => by
  show some (Value.int .u64 (IntKind.u64.wrap ((a : Int) + (b : Int)))) = _
  rw [show (a : Int) + (b : Int) = ((a + b : Nat) : Int) by omega, wrapU]
theorem nb_uadd' {a b : Nat} (h : a + b < 18446744073709551616) : NBin .add .u64 .u64 a b (.int .u64 ((a + b : Nat) : Int)) := .mk fun t => by
  rw [nb_uadd.out t, Nat.mod_eq_of_lt h]
theorem nb_usub {a b : Nat} (h : b ≤ a) (h2 : a < 18446744073709551616) : NBin .sub .u64 .u64 a b (.int .u64 ((a - b : Nat) : Int)) := .mk fun t => by
  show some (Value.int .u64 (IntKind.u64.wrap ((a : Int) - (b : Int)))) = _
  rw [show (a : Int) - (b : Int) = ((a - b : Nat) : Int) by omega, wrapU_lt (by omega)]
theorem nb_umul {a b : Nat} : NBin .mul .u64 .u64 a b (.int .u64 (((a * b) % 18446744073709551616 : Nat) : Int)) := .mk fun t => by
  show some (Value.int .u64 (IntKind.u64.wrap ((a : Int) * (b : Int)))) = _
  rw [show (a : Int) * (b : Int) = ((a * b : Nat) : Int) by rw [Int.natCast_mul], wrapU]
theorem nb_umul' {a b : Nat} (h : a * b < 18446744073709551616) : NBin .mul .u64 .u64 a b (.int .u64 ((a * b : Nat) : Int)) := .mk fun t => by
  rw [nb_umul.out t, Nat.mod_eq_of_lt h]
theorem ofInt_nat {n : Nat} (h : n < 18446744073709551616) : (BitVec.ofInt 64 (n : Int)).toNat = n := by
  rw [BitVec.toNat_ofInt]
  omega
theorem nb_uand {a b : Nat} (ha : a < 18446744073709551616) (hb : b < 18446744073709551616) : NBin .and .u64 .u64 a b (.int .u64 ((a &&& b : Nat) : Int)) := .mk fun t => by
  show some (Value.int .u64 (IntKind.u64.wrap ((BitVec.ofInt 64 (a : Int) &&& BitVec.ofInt 64 (b : Int)).toNat : Int))) = _
  rw [BitVec.toNat_and, ofInt_nat ha, ofInt_nat hb, wrapU_lt (Nat.lt_of_le_of_lt Nat.and_le_left ha)]
theorem nb_uor {a b : Nat} (ha : a < 18446744073709551616) (hb : b < 18446744073709551616) : NBin .or .u64 .u64 a b (.int .u64 ((a ||| b : Nat) : Int)) := .mk fun t => by
  show some (Value.int .u64 (IntKind.u64.wrap ((BitVec.ofInt 64 (a : Int) ||| BitVec.ofInt 64 (b : Int)).toNat : Int))) = _
  rw [BitVec.toNat_or, ofInt_nat ha, ofInt_nat hb, wrapU_lt (Nat.or_lt_two_pow (n := 64) ha hb)]
theorem nb_uxor {a b : Nat} (ha : a < 18446744073709551616) (hb : b < 18446744073709551616) : NBin .xor .u64 .u64 a b (.int .u64 ((a ^^^ b : Nat) : Int)) := .mk fun t => by
  show some (Value.int .u64 (IntKind.u64.wrap ((BitVec.ofInt 64 (a : Int) ^^^ BitVec.ofInt 64 (b : Int)).toNat : Int))) = _
  rw [BitVec.toNat_xor, ofInt_nat ha, ofInt_nat hb, wrapU_lt (Nat.xor_lt_two_pow (n := 64) ha hb)]
theorem nb_uandn {a b : Nat} (ha : a < 18446744073709551616) (hb : b < 18446744073709551616) : NBin .andNot .u64 .u64 a b (.int .u64 ((a &&& (18446744073709551615 - b) : Nat) : Int)) := .mk fun t => by
  show some (Value.int .u64 (IntKind.u64.wrap ((BitVec.ofInt 64 (a : Int) &&& ~~~ BitVec.ofInt 64 (b : Int)).toNat : Int))) = _
  rw [BitVec.toNat_and, BitVec.toNat_not, ofInt_nat ha, ofInt_nat hb, wrapU_lt (Nat.lt_of_le_of_lt Nat.and_le_left ha)]
theorem nb_ushl {k' : IntKind} {a b : Nat} : NBin .shl .u64 k' a b (.int .u64 ((a * 2 ^ b % 18446744073709551616 : Nat) : Int)) := .mk fun t => by
  show Sem.pure? (Op.shift .shl .u64 (a : Int) k' (b : Int)) = _
  unfold Op.shift
  rw [if_neg (by omega)]
  show some (Value.int .u64 (IntKind.u64.wrap ((a : Int) * 2 ^ min ((b : Int).toNat) 64))) = _
  rw [Int.toNat_natCast, show (a : Int) * 2 ^ min b 64 = ((a * 2 ^ min b 64 : Nat) : Int) by rw [Int.natCast_mul, Int.natCast_pow]; rfl, wrapU]
  congr 3
  rcases Nat.le_total b 64 with h | h
  · rw [Nat.min_eq_left h]
  · rw [Nat.min_eq_right h]
    obtain ⟨c, rfl⟩ : ∃ c, b = 64 + c := ⟨b - 64, by omega⟩
    rw [Nat.pow_add, Nat.mul_comm (2 ^ 64) (2 ^ c), ← Nat.mul_assoc]
    simp
theorem nb_ushr {k' : IntKind} {a b : Nat} (ha : a < 18446744073709551616) : NBin .shr .u64 k' a b (.int .u64 ((a / 2 ^ b : Nat) : Int)) := .mk fun t => by
  show Sem.pure? (Op.shift .shr .u64 (a : Int) k' (b : Int)) = _
  unfold Op.shift
  rw [if_neg (by omega)]
  show some (Value.int .u64 ((a : Int).fdiv (2 ^ min ((b : Int).toNat) 64))) = _
  rw [Int.toNat_natCast, show (2 : Int) ^ min b 64 = ((2 ^ min b 64 : Nat) : Int) by rw [Int.natCast_pow]; rfl, Int.fdiv_eq_ediv_of_nonneg _ (Int.natCast_nonneg _), ← Int.natCast_ediv]
  congr 3
  rcases Nat.le_total b 64 with h | h
  · rw [Nat.min_eq_left h]
  · rw [Nat.min_eq_right h, Nat.div_eq_of_lt ha, Nat.div_eq_of_lt]
    exact Nat.lt_of_lt_of_le ha (Nat.pow_le_pow_right (n := 2) (by decide) h)

theorem nb_ishr {a b : Nat} (ha : a ≤ 9223372036854775807) : NBin .shr .i64 .i64 a b (.int .i64 ((a / 2 ^ b : Nat) : Int)) := .mk fun t => by
  show Sem.pure? (Op.shift .shr .i64 (a : Int) .i64 (b : Int)) = _
  unfold Op.shift
  rw [if_neg (by omega)]
  show some (Value.int .i64 ((a : Int).fdiv (2 ^ min ((b : Int).toNat) 64))) = _
  rw [Int.toNat_natCast, show (2 : Int) ^ min b 64 = ((2 ^ min b 64 : Nat) : Int) by rw [Int.natCast_pow]; rfl, Int.fdiv_eq_ediv_of_nonneg _ (Int.natCast_nonneg _), ← Int.natCast_ediv]
  congr 3
  rcases Nat.le_total b 64 with h | h
  · rw [Nat.min_eq_left h]
  · rw [Nat.min_eq_right h, Nat.div_eq_of_lt (by omega), Nat.div_eq_of_lt]
    exact Nat.lt_of_lt_of_le (show a < 2 ^ 64 by omega) (Nat.pow_le_pow_right (n := 2) (by decide) h)

theorem nb_cmp {op : BinOp} {k : IntKind} {a b : Nat} {c : Bool} (ho : op ≠ .shl ∧ op ≠ .shr ∧ op ≠ .add ∧ op ≠ .sub ∧ op ≠ .mul ∧ op ≠ .quo ∧ op ≠ .rem ∧ op ≠ .and ∧ op ≠ .or ∧ op ≠ .xor ∧ op ≠ .andNot)
    (h : Sem.pure? (Op.intCmp op (a : Int) (b : Int)) = some (.bool c)) : NBin op k k a b (.bool c) := .mk fun t => by
  rw [← h]
  cases op <;> first | (exfalso; simp at ho; done) | (show Sem.pure? (if k ≠ k then _ else _) = _; rw [if_neg (by simp)])
theorem nb_lss {k : IntKind} {a b : Nat} : NBin .lss k k a b (.bool (decide (a < b))) := nb_cmp (by simp) (by simp [Op.intCmp, Sem.pure?, pure])
theorem nb_leq {k : IntKind} {a b : Nat} : NBin .leq k k a b (.bool (decide (a ≤ b))) := nb_cmp (by simp) (by simp [Op.intCmp, Sem.pure?, pure])
theorem nb_gtr {k : IntKind} {a b : Nat} : NBin .gtr k k a b (.bool (decide (b < a))) := nb_cmp (by simp) (by simp [Op.intCmp, Sem.pure?, pure])
theorem nb_geq {k : IntKind} {a b : Nat} : NBin .geq k k a b (.bool (decide (b ≤ a))) := nb_cmp (by simp) (by simp [Op.intCmp, Sem.pure?, pure])
theorem int_beq (a b : Nat) : ((a : Int) == (b : Int)) = decide (a = b) := by rw [Bool.eq_iff_iff]; simp; omega
theorem nb_eql {k : IntKind} {a b : Nat} : NBin .eql k k a b (.bool (decide (a = b))) := nb_cmp (by simp) (by show some (Value.bool ((a : Int) == (b : Int))) = _; rw [int_beq])
theorem nb_neq {k : IntKind} {a b : Nat} : NBin .neq k k a b (.bool (!decide (a = b))) := nb_cmp (by simp) (by show some (Value.bool (!((a : Int) == (b : Int)))) = _; rw [int_beq])

theorem dstep_nb {g i : Nat} {fr : Fr} {H : Heap} {op : BinOp} {t : TypeId} {x y : Operand} {kd kd' : IntKind} {a b : Nat} {v : Value} (hx : ev fr x = .sc (.int kd (a : Int))) (hy : ev fr y = .sc (.int kd' (b : Int))) (hv : NBin op kd kd' a b v) :
    dstep g i (.bin op t x y) fr H = some (.sc v, H) := by
  simp only [dstep, hx, hy]
  have e : (do eqGuard op t x y (.int kd (a : Int)) (.int kd' (b : Int)); binOp op t (.int kd (a : Int)) (.int kd' (b : Int)) : Sem Value) = binOp op t (.int kd (a : Int)) (.int kd' (b : Int)) := by cases op <;> rfl
  rw [e, hv.out t]

/-- What a conversion gives. -/
structure NConv (k : IntKind) (a : Nat) (b : Nat) : Prop where
  out : k.wrap (a : Int) = (b : Int)
theorem nc_i64 {a : Nat} (h : a ≤ 9223372036854775807) : NConv .i64 a a := .mk (wrap64 h)
theorem nc_u64' {a : Nat} (h : a < 18446744073709551616) : NConv .u64 a a := .mk (wrapU_lt h)
theorem nc_u64 {a : Nat} : NConv .u64 a (a % 18446744073709551616) := .mk (wrapU a)
theorem nc_u8' {a : Nat} (h : a < 256) : NConv .u8 a a := .mk (by rw [wrapB, Nat.mod_eq_of_lt h])
theorem nc_u8 {a : Nat} : NConv .u8 a (a % 256) := .mk (wrapB a)
theorem dstep_nc {g i : Nat} {fr : Fr} {H : Heap} {k k' : IntKind} {x : Operand} {a b : Nat} (hx : ev fr x = .sc (.int k' (a : Int))) (hv : NConv k a b) : dstep g i (.conv k x) fr H = some (.sc (.int k (b : Int)), H) := by
  simp only [dstep, hx]
  rw [hv.out]

theorem dstep_nmax {g i : Nat} {fr : Fr} {H : Heap} {x y : Operand} {kd kd' : IntKind} {a b : Nat} (hx : ev fr x = .sc (.int kd (a : Int))) (hy : ev fr y = .sc (.int kd' (b : Int))) : dstep g i (.max [x, y]) fr H = some (.sc (.int kd ((max a b : Nat) : Int)), H) := by
  simp only [dstep, avals, List.map_cons, List.map_nil, hx, hy, scs]
  show some (AV.sc (.int kd (if (b : Int) > (a : Int) then (b : Int) else (a : Int))), H) = _
  congr 4
  split <;> omega
theorem dstep_nmin {g i : Nat} {fr : Fr} {H : Heap} {x y : Operand} {kd kd' : IntKind} {a b : Nat} (hx : ev fr x = .sc (.int kd (a : Int))) (hy : ev fr y = .sc (.int kd' (b : Int))) : dstep g i (.min [x, y]) fr H = some (.sc (.int kd ((min a b : Nat) : Int)), H) := by
  simp only [dstep, avals, List.map_cons, List.map_nil, hx, hy, scs]
  show some (AV.sc (.int kd (if (b : Int) < (a : Int) then (b : Int) else (a : Int))), H) = _
  congr 4
  split <;> omega

section
variable {P : Program} {N k : Nat} {xs : List IOper} {fr : Fr} {H : Heap} {K : Fr → Heap → Prop} {d : Nat} {gd : Option (Nat × Bool)}
theorem wv1 {op : BinOp} {t : TypeId} {x y : Operand} {kd kd' : IntKind} {a b : Nat} {v : Value} (h : Reg P N k xs ((d, .sc v) :: fr) H K) (hg : gok fr gd = some true := by rfl) {na nb : Int} (hx : ev fr x = .sc (.int kd na) := by rfl)
    (hy : ev fr y = .sc (.int kd' nb) := by rfl) (ha : na = (a : Int) := by first | with_reducible rfl | exact natlit _) (hb : nb = (b : Int) := by first | with_reducible rfl | exact natlit _)
    (hv : NBin op kd kd' a b v := by first | exact nb_lss | exact nb_eql | exact nb_neq | exact nb_geq | exact nb_gtr | exact nb_leq | (refine nb_add ?_ <;> first | with_reducible assumption | omega) | (refine nb_sub ?_ ?_ <;> first | with_reducible assumption | omega) | (refine nb_mul ?_ <;> first | with_reducible assumption | omega) | (refine nb_quo ?_ ?_ <;> first | with_reducible assumption | omega) | (refine nb_uquo ?_ ?_ <;> first | with_reducible assumption | omega) | (refine nb_rem ?_ <;> first | with_reducible assumption | omega) | (refine nb_uadd' ?_ <;> first | with_reducible assumption | omega) | exact nb_uadd | (refine nb_usub ?_ ?_ <;> first | with_reducible assumption | omega) | (refine nb_umul' ?_ <;> first | with_reducible assumption | omega) | exact nb_umul | (refine nb_uand ?_ ?_ <;> first | with_reducible assumption | omega) | (refine nb_uor ?_ ?_ <;> first | with_reducible assumption | omega) | (refine nb_uxor ?_ ?_ <;> first | with_reducible assumption | omega) | (refine nb_uandn ?_ ?_ <;> first | with_reducible assumption | omega) | exact nb_ushl | (refine nb_ushr ?_ <;> first | with_reducible assumption | omega) | (refine nb_ishr ?_ <;> first | with_reducible assumption | omega)) : Reg P N k (⟨some d, gd, .op (.bin op t x y)⟩ :: xs) fr H K := .o hg (dstep_nb (by rw [hx, ha]) (by rw [hy, hb]) hv) h
theorem wv2 {c : IntKind} {x : Operand} {kd : IntKind} {a b : Nat} (h : Reg P N k xs ((d, .sc (.int c (b : Int))) :: fr) H K) (hg : gok fr gd = some true := by rfl) {na : Int} (hx : ev fr x = .sc (.int kd na) := by rfl) (ha : na = (a : Int) := by first | with_reducible rfl | exact natlit _)
    (hv : NConv c a b := by first | (refine nc_i64 ?_ <;> first | with_reducible assumption | omega) | (refine nc_u64' ?_ <;> first | with_reducible assumption | omega) | exact nc_u64 | (refine nc_u8' ?_ <;> first | with_reducible assumption | omega) | exact nc_u8) : Reg P N k (⟨some d, gd, .op (.conv c x)⟩ :: xs) fr H K := .o hg (dstep_nc (by rw [hx, ha]) hv) h

theorem wv5 {x y : Operand} {kd kd' : IntKind} {a b : Nat} (h : Reg P N k xs ((d, (.sc (.int kd ((max a b : Nat) : Int)))) :: fr) H K) (hg : gok fr gd = some true := by rfl) {na nb : Int} (hx : ev fr x = .sc (.int kd na) := by rfl) (hy : ev fr y = .sc (.int kd' nb) := by rfl) (ha : na = (a : Int) := by first | with_reducible rfl | exact natlit _) (hb : nb = (b : Int) := by first | with_reducible rfl | exact natlit _) : Reg P N k (⟨some d, gd, .op (.max [x, y])⟩ :: xs) fr H K := .o hg (dstep_nmax (by rw [hx, ha]) (by rw [hy, hb])) h
theorem wv6 {x y : Operand} {kd kd' : IntKind} {a b : Nat} (h : Reg P N k xs ((d, (.sc (.int kd ((min a b : Nat) : Int)))) :: fr) H K) (hg : gok fr gd = some true := by rfl) {na nb : Int} (hx : ev fr x = .sc (.int kd na) := by rfl) (hy : ev fr y = .sc (.int kd' nb) := by rfl) (ha : na = (a : Int) := by first | with_reducible rfl | exact natlit _) (hb : nb = (b : Int) := by first | with_reducible rfl | exact natlit _) : Reg P N k (⟨some d, gd, .op (.min [x, y])⟩ :: xs) fr H K := .o hg (dstep_nmin (by rw [hx, ha]) (by rw [hy, hb])) h
theorem wv9 {f : FuncId} {args : List Operand} {v : AV} (h : Reg P N k xs ((d, v) :: fr) H K) (hk : k ≤ H.length := by first | exact Nat.zero_le _ | exact Nat.le_of_ble_eq_true rfl) (hg : gok fr gd = some true := by rfl) (hp : PureRun P f (avals fr args) v := by assumption) :
    Reg P N k (⟨some d, gd, .call f args⟩ :: xs) fr H K := .p hk hg hp h
theorem wv10 {f : Operand} {g : FuncId} {fs cs : List AV} {args : List Operand} {v : AV} (h : Reg P N k xs ((d, v) :: fr) H K) (hk : k ≤ H.length := by first | exact Nat.zero_le _ | exact Nat.le_of_ble_eq_true rfl) (hg : gok fr gd = some true := by rfl) (hf : ev fr f = .clo (.func g) fs cs := by rfl)
    (hp : PureRun P g (fs ++ avals fr args ++ cs) v := by assumption) : Reg P N k (⟨some d, gd, .callV f args⟩ :: xs) fr H K := .callV hk hg rfl hf (.ofPure hp H h)
variable {base j : Nat} {acc : List RRec} {KD : List RRec → Fr → Heap → Prop}
theorem wv3 {op : BinOp} {t : TypeId} {x y : Operand} {kd kd' : IntKind} {a b : Nat} {v : Value}
    (h : DK P base (j + 1) xs ((d, .sc v) :: fr) H (⟨⟨some d, gd, .op (.bin op t x y)⟩, (base, j), .sc v, drd fr (.bin op t x y), dwr base j fr (.bin op t x y)⟩ :: acc) KD) (hg : gok fr gd = some true := by rfl) {na nb : Int} (hx : ev fr x = .sc (.int kd na) := by rfl)
    (hy : ev fr y = .sc (.int kd' nb) := by rfl) (ha : na = (a : Int) := by first | with_reducible rfl | exact natlit _) (hb : nb = (b : Int) := by first | with_reducible rfl | exact natlit _)
    (hv : NBin op kd kd' a b v := by first | exact nb_lss | exact nb_eql | exact nb_neq | exact nb_geq | exact nb_gtr | exact nb_leq | (refine nb_add ?_ <;> first | with_reducible assumption | omega) | (refine nb_sub ?_ ?_ <;> first | with_reducible assumption | omega) | (refine nb_mul ?_ <;> first | with_reducible assumption | omega) | (refine nb_quo ?_ ?_ <;> first | with_reducible assumption | omega) | (refine nb_uquo ?_ ?_ <;> first | with_reducible assumption | omega) | (refine nb_rem ?_ <;> first | with_reducible assumption | omega) | (refine nb_uadd' ?_ <;> first | with_reducible assumption | omega) | exact nb_uadd | (refine nb_usub ?_ ?_ <;> first | with_reducible assumption | omega) | (refine nb_umul' ?_ <;> first | with_reducible assumption | omega) | exact nb_umul | (refine nb_uand ?_ ?_ <;> first | with_reducible assumption | omega) | (refine nb_uor ?_ ?_ <;> first | with_reducible assumption | omega) | (refine nb_uxor ?_ ?_ <;> first | with_reducible assumption | omega) | (refine nb_uandn ?_ ?_ <;> first | with_reducible assumption | omega) | exact nb_ushl | (refine nb_ushr ?_ <;> first | with_reducible assumption | omega) | (refine nb_ishr ?_ <;> first | with_reducible assumption | omega)) : DK P base j (⟨some d, gd, .op (.bin op t x y)⟩ :: xs) fr H acc KD := .o hg (dstep_nb (by rw [hx, ha]) (by rw [hy, hb]) hv) h
theorem wv7 {x y : Operand} {kd kd' : IntKind} {a b : Nat} (h : DK P base (j + 1) xs ((d, (.sc (.int kd ((max a b : Nat) : Int)))) :: fr) H (⟨⟨some d, gd, .op (.max [x, y])⟩, (base, j), (.sc (.int kd ((max a b : Nat) : Int))), drd fr (.max [x, y]), dwr base j fr (.max [x, y])⟩ :: acc) KD) (hg : gok fr gd = some true := by rfl) {na nb : Int} (hx : ev fr x = .sc (.int kd na) := by rfl) (hy : ev fr y = .sc (.int kd' nb) := by rfl) (ha : na = (a : Int) := by first | with_reducible rfl | exact natlit _) (hb : nb = (b : Int) := by first | with_reducible rfl | exact natlit _) : DK P base j (⟨some d, gd, .op (.max [x, y])⟩ :: xs) fr H acc KD := .o hg (dstep_nmax (by rw [hx, ha]) (by rw [hy, hb])) h
theorem wv8 {x y : Operand} {kd kd' : IntKind} {a b : Nat} (h : DK P base (j + 1) xs ((d, (.sc (.int kd ((min a b : Nat) : Int)))) :: fr) H (⟨⟨some d, gd, .op (.min [x, y])⟩, (base, j), (.sc (.int kd ((min a b : Nat) : Int))), drd fr (.min [x, y]), dwr base j fr (.min [x, y])⟩ :: acc) KD) (hg : gok fr gd = some true := by rfl) {na nb : Int} (hx : ev fr x = .sc (.int kd na) := by rfl) (hy : ev fr y = .sc (.int kd' nb) := by rfl) (ha : na = (a : Int) := by first | with_reducible rfl | exact natlit _) (hb : nb = (b : Int) := by first | with_reducible rfl | exact natlit _) : DK P base j (⟨some d, gd, .op (.min [x, y])⟩ :: xs) fr H acc KD := .o hg (dstep_nmin (by rw [hx, ha]) (by rw [hy, hb])) h
theorem wv4 {c : IntKind} {x : Operand} {kd : IntKind} {a b : Nat} (h : DK P base (j + 1) xs ((d, .sc (.int c (b : Int))) :: fr) H (⟨⟨some d, gd, .op (.conv c x)⟩, (base, j), .sc (.int c (b : Int)), drd fr (.conv c x), dwr base j fr (.conv c x)⟩ :: acc) KD) (hg : gok fr gd = some true := by rfl)
    {na : Int} (hx : ev fr x = .sc (.int kd na) := by rfl) (ha : na = (a : Int) := by first | with_reducible rfl | exact natlit _)
    (hv : NConv c a b := by first | (refine nc_i64 ?_ <;> first | with_reducible assumption | omega) | (refine nc_u64' ?_ <;> first | with_reducible assumption | omega) | exact nc_u64 | (refine nc_u8' ?_ <;> first | with_reducible assumption | omega) | exact nc_u8) : DK P base j (⟨some d, gd, .op (.conv c x)⟩ :: xs) fr H acc KD := .o hg (dstep_nc (by rw [hx, ha]) hv) h
end

/-- A walk's ways come together, in one of many states. -/
theorem AWP.joinT {P : Program} {N k : Nat} {a b : ICode} {fr : Fr} {H : Heap} {Q : Exit → Fr → Heap → Prop} {σ : Type} (F' : σ → Fr) (H' : σ → Heap) (I : σ → Prop) (h1 : AWP P N k a (thenQ (fun fr2 H2 => ∃ s, I s ∧ Sub k N fr2 H2 (F' s) (H' s)) Q) fr H)
    (h2 : ∀ s, I s → AWP P N k b Q (F' s) (H' s)) : AWP P N k a (thenQ (AWP P N k b Q) Q) fr H :=
  AWP.mono h1 fun e fr H h => by
    cases e <;> first | exact h | (obtain ⟨s, hs, hsub⟩ := h; exact AWP.sub hsub (h2 s hs))

theorem AWP.condD {P : Program} {N k : Nat} {fr : Fr} {H : Heap} {Q : Exit → Fr → Heap → Prop} {c : Operand} {x y : ICode} {p : Prop} [Decidable p] (hb : ev fr c = .sc (.bool (decide p))) (h1 : p → AWP P N k x Q fr H) (h2 : ¬ p → AWP P N k y Q fr H) :
    AWP P N k (.cond c x y) Q fr H := AWP.cond hb (fun h => h1 (of_decide_eq_true h)) (fun h => h2 (of_decide_eq_false h))
theorem AWP.condDn {P : Program} {N k : Nat} {fr : Fr} {H : Heap} {Q : Exit → Fr → Heap → Prop} {c : Operand} {x y : ICode} {p : Prop} [Decidable p] (hb : ev fr c = .sc (.bool (!decide p))) (h1 : ¬ p → AWP P N k x Q fr H) (h2 : p → AWP P N k y Q fr H) :
    AWP P N k (.cond c x y) Q fr H := AWP.cond hb (fun h => h1 (by simpa using h)) (fun h => h2 (by simpa using h))

/-- .. of two, three numbers. -/
theorem AWP.joinT2 {P : Program} {N k : Nat} {a b : ICode} {fr : Fr} {H : Heap} {Q : Exit → Fr → Heap → Prop} {α β : Type} (F' : α → β → Fr) (H' : α → β → Heap) (I : α → β → Prop) (h1 : AWP P N k a (thenQ (fun fr2 H2 => ∃ s t, I s t ∧ Sub k N fr2 H2 (F' s t) (H' s t)) Q) fr H)
    (h2 : ∀ s t, I s t → AWP P N k b Q (F' s t) (H' s t)) : AWP P N k a (thenQ (AWP P N k b Q) Q) fr H :=
  AWP.mono h1 fun e fr H h => by
    cases e <;> first | exact h | (obtain ⟨s, t, hs, hsub⟩ := h; exact AWP.sub hsub (h2 s t hs))
theorem AWP.joinT3 {P : Program} {N k : Nat} {a b : ICode} {fr : Fr} {H : Heap} {Q : Exit → Fr → Heap → Prop} {α β γ : Type} (F' : α → β → γ → Fr) (H' : α → β → γ → Heap) (I : α → β → γ → Prop) (h1 : AWP P N k a (thenQ (fun fr2 H2 => ∃ s t u, I s t u ∧ Sub k N fr2 H2 (F' s t u) (H' s t u)) Q) fr H)
    (h2 : ∀ s t u, I s t u → AWP P N k b Q (F' s t u) (H' s t u)) : AWP P N k a (thenQ (AWP P N k b Q) Q) fr H :=
  AWP.mono h1 fun e fr H h => by
    cases e <;> first | exact h | (obtain ⟨s, t, u, hs, hsub⟩ := h; exact AWP.sub hsub (h2 s t u hs))
/-- .. in one state. -/
theorem AWP.joinT0 {P : Program} {N k : Nat} {a b : ICode} {fr : Fr} {H : Heap} {Q : Exit → Fr → Heap → Prop} (F' : Fr) (H' : Heap) (h1 : AWP P N k a (thenQ (fun fr2 H2 => Sub k N fr2 H2 F' H') Q) fr H)
    (h2 : AWP P N k b Q F' H') : AWP P N k a (thenQ (AWP P N k b Q) Q) fr H :=
  AWP.mono h1 fun e fr H h => by
    cases e <;> first | exact h | exact AWP.sub h h2
theorem AWP.loop2 {P : Program} {N k : Nat} {fr : Fr} {H : Heap} {Q : Exit → Fr → Heap → Prop} {α β : Type} (F : α → β → Fr) (G : α → β → Heap) (I : α → β → Prop) (μ : α → β → Nat) {p : ICode} (s0 : α) (t0 : β) (h0 : I s0 t0) (hs : Sub k N fr H (F s0 t0) (G s0 t0))
    (round : ∀ s t, I s t → AWP P N k p (thenQ (fun fr' H' => ∃ s' t', I s' t' ∧ μ s' t' < μ s t ∧ Sub k N fr' H' (F s' t') (G s' t')) Q) (F s t) (G s t)) : AWP P N k (.loop p) Q fr H :=
  AWP.loop (σ := α × β) (fun s => F s.1 s.2) (fun s => G s.1 s.2) (fun s => I s.1 s.2) (fun s => μ s.1 s.2) (s0, t0) h0 hs fun s hi => AWP.mono (round s.1 s.2 hi) fun e fr H h => by
    cases e <;> first | exact h | (obtain ⟨s', t', h⟩ := h; exact ⟨(s', t'), h⟩)
theorem AWP.loop3 {P : Program} {N k : Nat} {fr : Fr} {H : Heap} {Q : Exit → Fr → Heap → Prop} {α β γ : Type} (F : α → β → γ → Fr) (G : α → β → γ → Heap) (I : α → β → γ → Prop) (μ : α → β → γ → Nat) {p : ICode} (s0 : α) (t0 : β) (u0 : γ) (h0 : I s0 t0 u0)
    (hs : Sub k N fr H (F s0 t0 u0) (G s0 t0 u0))
    (round : ∀ s t u, I s t u → AWP P N k p (thenQ (fun fr' H' => ∃ s' t' u', I s' t' u' ∧ μ s' t' u' < μ s t u ∧ Sub k N fr' H' (F s' t' u') (G s' t' u')) Q) (F s t u) (G s t u)) : AWP P N k (.loop p) Q fr H :=
  AWP.loop (σ := α × β × γ) (fun s => F s.1 s.2.1 s.2.2) (fun s => G s.1 s.2.1 s.2.2) (fun s => I s.1 s.2.1 s.2.2) (fun s => μ s.1 s.2.1 s.2.2) (s0, t0, u0) h0 hs fun s hi => AWP.mono (round s.1 s.2.1 s.2.2 hi) fun e fr H h => by
    cases e <;> first | exact h | (obtain ⟨s', t', u', h⟩ := h; exact ⟨(s', t', u'), h⟩)

/-- .. whatever is to hold behind them, if it is code that goes on. -/
theorem AWP.joinB0 {P : Program} {N k : Nat} {a b : ICode} {fr : Fr} {H : Heap} {Q Q' : Exit → Fr → Heap → Prop} (F' : Fr) (H' : Heap) (h1 : AWP P N k a (thenQ (fun fr2 H2 => Sub k N fr2 H2 F' H') Q) fr H)
    (h2 : AWP P N k b Q' F' H') (hq : ∀ fr H, AWP P N k b Q' fr H → Q .normal fr H := by intro _ _ h; exact h) : AWP P N k a Q fr H :=
  AWP.mono h1 fun e fr H h => by
    cases e <;> first | exact h | exact hq _ _ (AWP.sub h h2)
theorem AWP.joinB {P : Program} {N k : Nat} {a b : ICode} {fr : Fr} {H : Heap} {Q Q' : Exit → Fr → Heap → Prop} {α : Type} (F' : α → Fr) (H' : α → Heap) (I : α → Prop) (h1 : AWP P N k a (thenQ (fun fr2 H2 => ∃ s, I s ∧ Sub k N fr2 H2 (F' s) (H' s)) Q) fr H)
    (h2 : ∀ s, I s → AWP P N k b Q' (F' s) (H' s)) (hq : ∀ fr H, AWP P N k b Q' fr H → Q .normal fr H := by intro _ _ h; exact h) : AWP P N k a Q fr H :=
  AWP.mono h1 fun e fr H h => by
    cases e <;> first | exact h | (obtain ⟨s, hs, h⟩ := h; exact hq _ _ (AWP.sub h (h2 s hs)))

/-- The end of a function with effects. -/
theorem endH {k : Nat} {rs : List IRes} {fr : Fr} {H : Heap} {e : Exit} {R : AV → Heap → Prop} {res res' : AV} {H2 : Heap} (ids : List (List (Nat × Nat))) (he : e = .normal ∨ e = .ret) (hres : resOf fr H rs = some res) (hR : R res' H2)
    (h5 : To (ToT (H ++ gh []) H.length (notIn ids)) (rho ids) res res') (h4 : famsTo (ToB (ToT (H ++ gh []) H.length (notIn ids)) (rho ids)) (H ++ gh []) ids H2) (h1 : lowOK 0 k ids = true) (h2 : lens k ids (H ++ gh []) = true) (h3 : ndup ids.flatten = true) :
    (e = .normal ∨ e = .ret) ∧ ∃ res res' H2, resOf fr H rs = some res ∧ SubV k H res H2 res' ∧ R res' H2 := ⟨he, res, res', H2, hres, SubV.to [] ids h5 h4 h1 h2 h3, hR⟩

/-- The pairs of a stretch, by reckoning. -/
def segBa (af : List (List Nat)) (s b : Nat) (rb : RRec) : Nat → List RRec → Bool
  | _, [] => true
  | a, ra :: l => (Nat.ble b a || (befB af af.length (s + a) (s + b) || indep ra rb)) && segBa af s b rb (a + 1) l
def segBb (af : List (List Nat)) (s : Nat) (R : List RRec) : Nat → List RRec → Bool
  | _, [] => true
  | b, rb :: l => segBa af s b rb 0 R && segBb af s R (b + 1) l
theorem segBa_spec {af s b rb} : ∀ {l : List RRec} {a0 : Nat}, segBa af s b rb a0 l = true → ∀ (j : Nat) ra, l[j]? = some ra → a0 + j < b → befB af af.length (s + (a0 + j)) (s + b) = true ∨ indep ra rb = true
  | [], _, _, j, _, h, _ => by simp at h
  | r :: l, a0, h, j, ra, hj, hb => by
    simp only [segBa, Bool.and_eq_true, Bool.or_eq_true] at h
    cases j with
    | zero =>
      simp only [List.getElem?_cons_zero, Option.some.injEq] at hj
      subst hj
      rcases h.1 with h1 | h1
      · have := Nat.le_of_ble_eq_true h1; omega
      · exact h1
    | succ j =>
      have := segBa_spec h.2 j ra (by simpa using hj) (by omega)
      rw [show a0 + (j + 1) = a0 + 1 + j by omega]
      exact this
theorem segBb_spec {af s R} : ∀ {l : List RRec} {b0 : Nat}, segBb af s R b0 l = true → ∀ (j : Nat) rb, l[j]? = some rb → segBa af s (b0 + j) rb 0 R = true
  | [], _, _, j, _, h => by simp at h
  | r :: l, b0, h, j, rb, hj => by
    simp only [segBb, Bool.and_eq_true] at h
    cases j with
    | zero =>
      simp only [List.getElem?_cons_zero, Option.some.injEq] at hj
      subst hj
      exact h.1
    | succ j =>
      have := segBb_spec h.2 j rb (by simpa using hj)
      rw [show b0 + (j + 1) = b0 + 1 + j by omega]
      exact this
theorem SegOK.of {af s R} (h : segBb af s R 0 R = true) : SegOK af s R := fun a b ra rb hab ha hb => by
  have := segBb_spec h b rb hb
  rw [Nat.zero_add] at this
  have := segBa_spec this a ra ha (by omega)
  rwa [Nat.zero_add] at this

/-- A region whose order is open, but for one call that stands in its midst. -/
theorem AWP.dkm {P : Program} {N k : Nat} {fr : Fr} {H : Heap} {Q : Exit → Fr → Heap → Prop} {zs : List IOper} {af : List (List Nat)} (n : Nat) (y : IOper) (hp : P.follows .mixedOrders = true) (hz : zs = zs.take n ++ y :: zs.drop (n + 1)) (hl : (zs.take n).length = n)
    (hlow : lowB 0 af = true) (h1 : ((List.range n).all fun j => befB af af.length j n) = true) (h2 : ((List.range (zs.drop (n + 1)).length).all fun j => befB af af.length n (n + 1 + j)) = true)
    (h : DK P H.length 0 (zs.take n) fr (H ++ [List.replicate (zs.take n).length .dead]) [] fun R1 fr1 H1 => segBb af 0 R1 0 R1 = true ∧ Reg P N k [y] fr1 H1 fun fr2 H2 =>
      DK P H2.length 0 (zs.drop (n + 1)) fr2 (H2 ++ [List.replicate (zs.drop (n + 1)).length .dead]) [] fun R2 fr3 H3 => segBb af (n + 1) R2 0 R2 = true ∧ Q .normal fr3 H3) : AWP P N k (.draw zs af) Q fr H := by
  obtain ⟨R1, fr1, H1, hr, hs, hreg⟩ := h
  rw [List.reverse_nil, List.nil_append] at hs
  refine AWP.drawMid (R1 := R1) (fr1 := fr1) (H1 := H1) hz hp hlow (fun j hj => ?_) (fun j hj => ?_) hr (.of hs) (hreg.mono fun fr2 H2 hk => ?_)
  · rw [hl] at hj ⊢
    exact List.all_eq_true.1 h1 j (List.mem_range.2 hj)
  · rw [hl]
    exact List.all_eq_true.1 h2 j (List.mem_range.2 hj)
  · obtain ⟨R2, fr3, H3, hr2, hs2, hq⟩ := hk
    rw [List.reverse_nil, List.nil_append] at hs2
    exact ⟨R2, fr3, H3, hr2, by rw [hl]; exact .of hs2, hq⟩

theorem PureRun.args {P : Program} {f : FuncId} {args args' : List AV} {v : AV} (h : PureRun P f args' v) (hl : args.length = args'.length) (hle : ∀ (j : Nat) a b, args[j]? = some a → args'[j]? = some b → Le a b) : PureRun P f args v := by
  refine ⟨h.1, fun M J w cargs h1 h2 h3 => h.2 M J w cargs (by omega) (fun j c v hc hv => ?_) h3⟩
  have hj := (List.getElem?_eq_some_iff.1 hc).1
  have e : args[j]? = some args[j] := List.getElem?_eq_getElem (by omega)
  exact hle j _ c e hc M J v (h2 j _ v e hv)

/-- A function's own name is a closure that has caught nothing. -/
theorem Le.func (f : FuncId) : Le (.sc (.func (.func f) #[] #[])) (.clo (.func f) [] []) := fun M J v h => by
  cases h
  exact .clo _ _ _ _ _ rfl rfl (fun j c v h _ => by simp at h) (fun j c v h _ => by simp at h)

end Go.Av
namespace Go.Av

/-! A call whose contract speaks of no block, from a heap that has some: what it makes stands behind them. -/

/-- The new numbers, from those that the callee gave. -/
def beh (n a b : Nat) : Option (Nat × Nat) := match Nat.blt a n with
  | true => none
  | false => some (a - n, b)
theorem beh_lt {n a b : Nat} (h : a < n) : beh n a b = none := by
  have e : Nat.blt a n = true := by simpa [Nat.blt_eq] using h
  simp only [beh, e]
theorem beh_ge {n a b : Nat} (h : n ≤ a) : beh n a b = some (a - n, b) := by
  have e : Nat.blt a n = false := by
    apply Bool.eq_false_iff.2
    intro q
    have : a < n := by simpa [Nat.blt_eq] using q
    omega
  simp only [beh, e]

theorem hget_app_lt {H X : Heap} {a b : Nat} (h : a < H.length) : hget (H ++ X) a b = hget H a b := by
  unfold hget
  rw [List.getElem?_append_left h]
theorem hget_app_ge {H X : Heap} {a b : Nat} (h : H.length ≤ a) : hget (H ++ X) a b = hget X (a - H.length) b := by
  unfold hget
  rw [List.getElem?_append_right h]

theorem CallOK.frame {P : Program} {f : FuncId} {args : List AV} {R R' : AV → Heap → Prop} (h : CallOK P f args [] R) (ha : ∀ a ∈ args, Pure a) (H : Heap)
    (hR : ∀ res H0, R res H0 → ∃ res' H0', Ren (beh H.length) res res' ∧ (∀ g i x', hget H0' g i = some x' → x'.live = true → ∃ x, hget H0 g i = some x ∧ RenB (beh H.length) x x') ∧ (∀ g i, (hget H0 g i).isSome → (hget H0' g i).isSome) ∧ R' res' (H ++ H0')) : CallOK P f args H R' := by
  refine ⟨h.1, fun M J w cargs hl hr hH hM => ?_⟩
  have hH0 : HRep M (fun _ _ => none) [] w.heap :=
    ⟨fun g i x hx => (by simp [hget] at hx), fun g i g' i' l l' β _ _ hJ => (by cases hJ), fun g i l β _ hJ => (by cases hJ), fun g i l hJ => (by cases hJ)⟩
  refine (h.2 M (fun _ _ => none) w cargs hl (fun j c x hc hx => (hr j c x hc hx).anyJ (ha c (List.mem_of_getElem? hc)) _) hH0 hM).mono ?_
  rintro e w' ⟨cv, M', J', res, H0, rfl, hs, hrep, hr0⟩
  obtain ⟨res', H0', r1, r2, r3, r4⟩ := hR res H0 hr0
  have hno : ∀ g i, ¬ liveAt [] g i := by
    rintro g i ⟨x, hx, _⟩
    simp [hget] at hx
  have hsame : ∀ (β : Nat) o, w.heap[β]? = some o → w'.heap[β]? = some o := fun β o ho => hs.frame β o ho fun g i l hl _ => absurd hl (hno g i)
  let J2 : Inj := fun a b => if a < H.length then J a b else J' (a - H.length) b
  have hJlt : ∀ g i l, J g i = some l → g < H.length := fun g i l hJ => hget_lt ((hH.dom g i l hJ).1)
  have x1 : Ext M J M' J2 := ⟨hs.m, fun g i l hJ => by
    show (if g < H.length then J g i else J' (g - H.length) i) = some l
    rw [if_pos (hJlt g i l hJ)]; exact hJ⟩
  have x2 : Ext M' (J'.via (beh H.length)) M' J2 := ⟨fun _ _ h => h, fun a b l hJ => by
    show (if a < H.length then J a b else J' (a - H.length) b) = some l
    by_cases hlt : a < H.length
    · unfold Inj.via at hJ
      rw [beh_lt hlt] at hJ
      cases hJ
    · rw [if_neg hlt]
      unfold Inj.via at hJ
      rw [beh_ge (by omega)] at hJ
      exact hJ⟩
  have hl1 : ∀ a b, a < H.length → liveAt (H ++ H0') a b → liveAt H a b := by
    rintro a b hlt ⟨x, hx, hxl⟩
    rw [hget_app_lt hlt] at hx
    exact ⟨x, hx, hxl⟩
  have hl2 : ∀ a b, H.length ≤ a → liveAt (H ++ H0') a b → liveAt H0 (a - H.length) b := by
    rintro a b hge ⟨x, hx, hxl⟩
    rw [hget_app_ge hge] at hx
    obtain ⟨y, hy, hb⟩ := r2 _ _ x hx hxl
    exact ⟨y, hy, hb.live hxl⟩
  have j1 : ∀ {a b : Nat} {l : Loc}, a < H.length → J2 a b = some l → J a b = some l := fun {a b l} hlt hJ => by
    have : (if a < H.length then J a b else J' (a - H.length) b) = some l := hJ
    rwa [if_pos hlt] at this
  have j2 : ∀ {a b : Nat} {l : Loc}, H.length ≤ a → J2 a b = some l → J' (a - H.length) b = some l := fun {a b l} hge hJ => by
    have : (if a < H.length then J a b else J' (a - H.length) b) = some l := hJ
    rwa [if_neg (by omega)] at this
  have hnew : ∀ g i l β, liveAt H0 g i → J' g i = some l → l.blk = some β → w.heap.size ≤ β := fun g i l β a b c => by
    rcases hs.live g i l β a b c with ⟨g0, i0, l0, q, _⟩ | q
    · exact absurd q (hno g0 i0)
    · exact q
  have hfresh : ∀ β o, M' β = some o → M β = some o ∨ w.heap.size ≤ β := fun β o ho => by
    rcases hs.fresh β o ho with q | q | ⟨g, i, l, q, _⟩
    · exact .inl q
    · exact .inr q
    · exact absurd q (hno g i)
  refine ⟨cv, M', J2, res', H ++ H0', rfl, ⟨hs.m, fun g i l hg hJ => x1.j g i l hJ, ⟨?_, ?_, ?_, ?_⟩, hs.mrep, hs.os, hs.tape, hs.output, hs.size, fun β o ho _ => hsame β o ho, ?_, ?_, hs.bk⟩, (hrep.ren r1).ext x2, r4⟩
  · intro a b x hx hxl
    by_cases hlt : a < H.length
    · rw [hget_app_lt hlt] at hx
      obtain ⟨l, p, q⟩ := hH.blk a b x hx hxl
      refine ⟨l, x1.j a b l p, q.ext x1 fun β hβ => ?_⟩
      have hb := (hH.dom a b l p).2 β hβ
      rw [Array.getElem?_eq_getElem hb]
      exact hsame β _ (Array.getElem?_eq_getElem hb)
    · rw [hget_app_ge (by omega)] at hx
      obtain ⟨y, hy, hb⟩ := r2 _ _ x hx hxl
      obtain ⟨l, p, q⟩ := hs.hrep.blk _ _ y hy (hb.live hxl)
      refine ⟨l, x2.j a b l ?_, (q.ren hb).ext x2 fun β _ => rfl⟩
      unfold Inj.via
      rw [beh_ge (by omega)]
      exact p
  · intro a b a' b' l l' β la lb ja jb ba bb
    by_cases h1 : a < H.length
    · by_cases h2 : a' < H.length
      · exact hH.inj a b a' b' l l' β (hl1 a b h1 la) (hl1 a' b' h2 lb) (j1 h1 ja) (j1 h2 jb) ba bb
      · have q1 := (hH.dom a b l (j1 h1 ja)).2 β ba
        have q2 := hnew _ _ l' β (hl2 a' b' (by omega) lb) (j2 (by omega) jb) bb
        omega
    · by_cases h2 : a' < H.length
      · have q1 := (hH.dom a' b' l' (j1 h2 jb)).2 β bb
        have q2 := hnew _ _ l β (hl2 a b (by omega) la) (j2 (by omega) ja) ba
        omega
      · have := hs.hrep.inj _ _ _ _ l l' β (hl2 a b (by omega) la) (hl2 a' b' (by omega) lb) (j2 (by omega) ja) (j2 (by omega) jb) ba bb
        exact ⟨by omega, this.2⟩
  · intro a b l β la ja ba
    by_cases h1 : a < H.length
    · cases e : M' β with
      | none => rfl
      | some o =>
        rcases hfresh β o e with q | q
        · rw [hH.out a b l β (hl1 a b h1 la) (j1 h1 ja) ba] at q; cases q
        · have := (hH.dom a b l (j1 h1 ja)).2 β ba; omega
    · exact hs.hrep.out _ _ l β (hl2 a b (by omega) la) (j2 (by omega) ja) ba
  · intro a b l ja
    by_cases h1 : a < H.length
    · have := hH.dom a b l (j1 h1 ja)
      exact ⟨by rw [hget_app_lt h1]; exact this.1, fun β hβ => Nat.lt_of_lt_of_le (this.2 β hβ) hs.size⟩
    · have := hs.hrep.dom _ _ l (j2 (by omega) ja)
      exact ⟨by rw [hget_app_ge (by omega)]; exact r3 _ _ this.1, this.2⟩
  · intro β o ho
    rcases hfresh β o ho with q | q
    · exact .inl q
    · exact .inr (.inl q)
  · intro a b l β la ja ba
    by_cases h1 : a < H.length
    · exact .inl ⟨a, b, l, hl1 a b h1 la, j1 h1 ja, ba⟩
    · exact .inr (hnew _ _ l β (hl2 a b (by omega) la) (j2 (by omega) ja) ba)

end Go.Av
