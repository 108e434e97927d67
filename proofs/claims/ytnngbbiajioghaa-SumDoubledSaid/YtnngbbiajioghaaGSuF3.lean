import Derived.Test.YtnngbbiajioghaaGSuW2
import Derived.Test.YtnngbbiajioghaaGSuE3
import Derived.Test.YtnngbbiajioghaaGSuR6
import Ieee.Arith
namespace Go.Proofs.Ytnngbbiajioghaa
open Go.Av Go.Proofs
set_option exponentiation.threshold 4000
set_option maxRecDepth 20000

/-! Sums, wherever they lie. -/
section
variable {P : Program} {k : Nat} {xs : List (IOper × List (Nat × Nat))} {pr : List (Nat × Nat)} {fr : Fr} {H : Heap} {K : Fr → Heap → Prop} {d : Nat} {gd : Option (Nat × Bool)}
theorem tsu1 {sz : Nat} {a : Operand} {g' i' row off s : Nat} {rows : List (List AV)} {r m : List AV} (h : RT P k xs ((d, (.agg m)) :: fr) H K) (hg : gok fr gd = some true := by rfl) (ha : ev fr a = .ptr g' i' row off := by rfl) (hh : hget H g' i' = some (.cells s rows) := by rfl) (hr : rows[row]? = some r := by first | rfl | assumption) (hp : Part r off sz m := by first | exact part_s _ | exact part_n _ | exact part_as _ _ | exact part_an _ _ | exact part_a _ _) : RT P k ((⟨some d, gd, .op (.load sz true a)⟩, pr) :: xs) fr H K := RT.o hg (dstep_ldP ha hh hr hp) (Keeps.refl _ _) h
theorem tsu2 {sz : Nat} {a : Operand} {r m : List AV} (h : RT P k xs ((d, (.agg m)) :: fr) H K) (hg : gok fr gd = some true := by rfl) (ha : ev fr a = .cptr r := by rfl) (hp : Part r 0 sz m := by first | exact part_ds _ _ | exact part_dn _ _ | exact part_a _ _ | exact part_s _) : RT P k ((⟨some d, gd, .op (.load sz true a)⟩, pr) :: xs) fr H K := RT.o hg (dstep_ldC ha hp) (Keeps.refl _ _) h
theorem tsu3 {sz : Nat} {a x : Operand} {g' i' row off s : Nat} {rows : List (List AV)} {r cs r' : List AV} (h : RT P k xs fr (hset H g' i' (.cells s (rows.set row r'))) K) (hg : gok fr gd = some true := by rfl) (ha : ev fr a = .ptr g' i' row off := by rfl) (hx : (ev fr x).cs = some cs := by rfl) (hh : hget H g' i' = some (.cells s rows) := by rfl) (hr : rows[row]? = some r := by first | rfl | assumption) (hl : cs.length = sz := by first | rfl | exact ws_len _ _ | exact St.row_len _ | exact St.acc_len _ _) (hp : Spl r off cs r' := by first | exact spl_s _ _ | exact spl_as _ _ _ | exact spl_a _ _ _ _ | exact spl_zw _ | exact spl_n _ _ | exact spl_nan _ _ | exact spl_plus _ _ | exact spl_minus _ _ | exact spl_zero _ _ | exact spl_an _ _ _ | exact spl_anan _ _ _ | exact spl_aplus _ _ _ | exact spl_aminus _ _ _ | exact spl_azero _ _ _) (kp : Keeps pr H (hset H g' i' (.cells s (rows.set row r'))) := by first | exact Keeps.refl _ _ | (repeat (first | exact trivial | refine And.intro rfl ?_))) : RT P k ((⟨none, gd, .op (.store sz a x)⟩, pr) :: xs) fr H K := RT.on hg (dstep_stP ha hx hh hr hl hp) kp h
theorem tsu4 (h : RT P k xs ((d, (.ptr H.length 0 0 0)) :: fr) (hset H H.length 0 (.cells 40 [s0.row])) K) (hg : gok fr gd = some true := by rfl) (kp : Keeps pr H (hset H H.length 0 (.cells 40 [s0.row])) := by first | exact Keeps.refl _ _ | (repeat (first | exact trivial | refine And.intro rfl ?_))) : RT P k ((⟨some d, gd, .op (.alloc [(36, .int .u64 0), (3, .bool false), (1, .int .i64 0)])⟩, pr) :: xs) fr H K := RT.o hg (dstep_al40) kp h
theorem tsu5 (h : RT P k xs ((d, (.ptr H.length 0 0 0)) :: fr) (hset H H.length 0 (.cells 41 [s0.acc false])) K) (hg : gok fr gd = some true := by rfl) (kp : Keeps pr H (hset H H.length 0 (.cells 41 [s0.acc false])) := by first | exact Keeps.refl _ _ | (repeat (first | exact trivial | refine And.intro rfl ?_))) : RT P k ((⟨some d, gd, .op (.alloc [(1, .bool false), (36, .int .u64 0), (3, .bool false), (1, .int .i64 0)])⟩, pr) :: xs) fr H K := RT.o hg (dstep_al41) kp h
theorem tsu6 {x : Operand} {z : Nat} {nz : Int} (h : RT P k xs ((d, (.agg (St.row (St.mk 0 false false false z)))) :: fr) H K) (hg : gok fr gd = some true := by rfl) (hx : ev fr x = .sc (.int .i64 nz) := by rfl) (hz : nz = (z : Int) := by first | with_reducible rfl | exact natlit _) : RT P k ((⟨some d, gd, .op (.build [(36, .int .u64 0), (3, .bool false), (1, .int .i64 0)] [(39, 1, x)])⟩, pr) :: xs) fr H K := RT.o hg (dstep_bz (by rw [hx, hz])) (Keeps.refl _ _) h
theorem tsu7 {x : Operand} {b : Bool} (h : RT P k xs ((d, (.agg (s0.acc b))) :: fr) H K) (hg : gok fr gd = some true := by rfl) (hx : ev fr x = .sc (.bool b) := by rfl) : RT P k ((⟨some d, gd, .op (.build [(1, .bool false), (36, .int .u64 0), (3, .bool false), (1, .int .i64 0)] [(0, 1, x)])⟩, pr) :: xs) fr H K := RT.o hg (dstep_b1 hx) (Keeps.refl _ _) h
theorem tsu8 {x1 x2 x3 x4 x5 : Operand} {n z : Nat} {a b c : Bool} (h : RT P k xs ((d, (.agg (St.row ⟨n, a, b, c, z⟩))) :: fr) H K) (hg : gok fr gd = some true := by rfl) (h1 : ev fr x1 = .agg (ws 36 (wd n)) := by rfl) (h2 : ev fr x2 = .sc (.bool a) := by rfl) (h3 : ev fr x3 = .sc (.bool b) := by rfl) (h4 : ev fr x4 = .sc (.bool c) := by rfl) (h5 : ev fr x5 = .sc (.int .i64 (z : Int)) := by rfl) : RT P k ((⟨some d, gd, .op (.build [(36, .int .u64 0), (3, .bool false), (1, .int .i64 0)] [(0, 36, x1), (36, 1, x2), (37, 1, x3), (38, 1, x4), (39, 1, x5)])⟩, pr) :: xs) fr H K := RT.o hg (dstep_b5 h1 h2 h3 h4 h5) (Keeps.refl _ _) h
theorem tsu9 {x : Operand} {cs : List AV} {n : Nat} (h : RT P k xs ((d, (.ptr H.length 0 0 0)) :: fr) (hset H H.length 0 (.cells n [cs])) K) (hg : gok fr gd = some true := by rfl) (hx : ev fr x = .agg cs := by rfl) (h1 : cs.all AV.cell1 = true := by first | exact St.row_cell1 _ | exact St.acc_cell1 _ _ | exact ws_cell1 _ _) (hn : cs.length = n := by first | exact St.row_len _ | exact St.acc_len _ _ | exact ws_len _ _) (kp : Keeps pr H (hset H H.length 0 (.cells n [cs])) := by first | exact Keeps.refl _ _ | (repeat (first | exact trivial | refine And.intro rfl ?_))) : RT P k ((⟨some d, gd, .op (.box x)⟩, pr) :: xs) fr H K := RT.o hg (dstep_bx hx h1 hn) kp h
theorem twr11 {n : Nat} {x ix : Operand} {kd : IntKind} {q g' i' row : Nat} (h : RT P k xs ((d, .ptr g' i' row q) :: fr) H K) (hg : gok fr gd = some true := by rfl) (hx : ev fr x = .ptr g' i' row 0 := by rfl) (hi : ev fr ix = .sc (.int kd (q : Int)) := by rfl) (hq : q < n := by first | assumption | omega) : RT P k ((⟨some d, gd, .op (.idxArr n 1 x ix)⟩, pr) :: xs) fr H K := RT.o hg (dstep_idxArr1 hx hi hq) (Keeps.refl _ _) h
end
theorem walkLS {G G' : Prop} (h : G') (t : Boxed G' → G := by intro hw9; (repeat (first | refine LP.t0 ?_ | refine LP.t1 ?_ | refine LP.t2 ?_ | refine LP.c ?_ | refine RT.nil ?_ | refine LP.z ?_ | refine tsu1 ?_ | refine tsu2 ?_ | refine tsu3 ?_ | refine tsu4 ?_ | refine tsu5 ?_ | refine tsu6 ?_ | refine tsu7 ?_ | refine tsu8 ?_ | refine tsu9 ?_ | refine tv1 ?_ | refine tv2 ?_ | refine tv5 ?_ | refine tv6 ?_ | refine tv9 ?_ | refine tv10 ?_ | refine tr1 ?_ | refine tr2 ?_ | refine tr3 ?_ | refine tr4 ?_ | refine tr5 ?_ | refine tr6 ?_ | refine tr7 ?_ | refine tr8 ?_ | refine tr9 ?_ | refine tr10 ?_ | refine twr11 ?_ )); exact hw9.out) : G := t ⟨h⟩
theorem walkS0 {G G' : Prop} (h : G') (t : Boxed G' → G := by intro hw9; (repeat (first | refine su1 ?_ | refine su2 ?_ | refine su3 ?_ | refine su4 ?_ | refine su5 ?_ | refine su6 ?_ | refine su7 ?_ | refine su8 ?_ | refine su9 ?_ | refine sd1 ?_ | refine sd2 ?_ | refine sd3 ?_ | refine sd4 ?_ | refine sd5 ?_ | refine sd6 ?_ | refine sd7 ?_ | refine sd8 ?_ | refine sd9 ?_ | (first | refine wr13 ?_ | refine wd13 ?_ | refine wr14 ?_ | refine wv1 ?_ | refine wv2 ?_ | refine wv3 ?_ | refine wv4 ?_ | refine wv5 ?_ | refine wv6 ?_ | refine wv7 ?_ | refine wv8 ?_ | refine wv9 ?_ | refine wv10 ?_ | refine wr1 ?_ | refine wr2 ?_ | refine wr3 ?_ | refine wr4 ?_ | refine Reg.nil ?_ | refine wd1 ?_ | refine wd2 ?_ | refine wd3 ?_ | refine wd4 ?_ | refine AWP.seq ?_ | refine AWP.region ?_ | refine AWP.condT rfl ?_ | refine AWP.condF rfl ?_ | refine AWP.skip ?_ | refine AWP.ret ?_ | refine AWP.exit ?_ | refine AWP.block ?_ | refine wr5 ?_ | refine wr6 ?_ | refine wr7 ?_ | refine wr8 ?_ | refine wr9 ?_ | refine wr10 ?_ | refine wd5 ?_ | refine wd6 ?_ | refine wd7 ?_ | refine wd8 ?_ | refine wd9 ?_ | refine wd10 ?_ | refine wr11 ?_ | refine wr12 ?_ | refine wd11 ?_ | refine wd12 ?_ ))); exact hw9.out) : G := t ⟨h⟩

theorem hset_new : ∀ (H : Heap) (x : Blk), hset H H.length 0 x = H ++ [[x]]
  | [], x => rfl
  | f :: H, x => by
    show f :: hset H H.length 0 x = _
    rw [hset_new H x]; rfl
theorem hset_new2 : ∀ (H : Heap) (x y : Blk), hset (H ++ [[x]]) H.length 0 y = H ++ [[y]]
  | [], x, y => rfl
  | f :: H, x, y => by
    show f :: hset (H ++ [[x]]) H.length 0 y = _
    rw [hset_new2 H x y]; rfl
theorem hget_new (H : Heap) (x : Blk) : hget (H ++ [[x]]) H.length 0 = some x := by
  rw [hget_append, if_pos rfl]; rfl

/-- A sum that is not valid. -/
def NV (H : Heap) (a : AV) : Prop := a = .sc (.pointer none) ∨ ∃ g i s, a = .ptr g i 0 0 ∧ hget H g i = some (.cells 41 [St.acc false s])
/-- .. and one that is. -/
def VA (H : Heap) (a : AV) (s : St) : Prop := ∃ g i, a = .ptr g i 0 0 ∧ hget H g i = some (.cells 41 [St.acc true s])

theorem inval_ok {H : Heap} {a : AV} (h : NV H a) : CallOK Try.prog 60 [a] H fun res H' => res = .sc (.bool false) ∧ H' = H := by
  rcases h with rfl | ⟨g, i, s, rfl, hx⟩
  · exact valid_nil.callOK H
  · exact look_at hx (valid_ok false s)
theorem va_ok {H : Heap} {a : AV} {s : St} (h : VA H a s) : CallOK Try.prog 60 [a] H fun res H' => res = .sc (.bool true) ∧ H' = H := by
  obtain ⟨g, i, rfl, hx⟩ := h
  exact look_at hx (valid_ok true s)

theorem nv_encode {H : Heap} {a : AV} (h : NV H a) : CallOK Try.prog 23 [a] H fun res H' => res = .tup [.sc (.slice none 0 0), .sc (.int .i64 1)] ∧ H' = H := by
  have hv := inval_ok h
  rcases h with rfl | ⟨g, i, s, rfl, hx⟩
  all_goals
    refine CallOK.of cF23 ?_ (Nat.le_of_ble_eq_true rfl)
    refine walkSuT12 ?_
    refine Reg.c (Nat.le_refl _) rfl (hv.mono ?_)
    rintro res H' ⟨rfl, rfl⟩
    refine walkSuT12 ?_
    exact ⟨.inr rfl, _, _, _, rfl, .refl _ _ _, rfl, rfl⟩
theorem nv_value {H : Heap} {a : AV} (h : NV H a) : CallOK Try.prog 24 [a] H fun res H' => res = .sc (.int .u64 0) ∧ H' = H := by
  have hv := inval_ok h
  rcases h with rfl | ⟨g, i, s, rfl, hx⟩
  all_goals
    refine CallOK.of cF24 ?_ (Nat.le_of_ble_eq_true rfl)
    refine walkSuT12 ?_
    refine Reg.c (Nat.le_refl _) rfl (hv.mono ?_)
    rintro res H' ⟨rfl, rfl⟩
    refine walkSuT12 ?_
    exact ⟨.inr rfl, _, _, _, rfl, .refl _ _ _, rfl, rfl⟩
theorem nv_copy {H : Heap} {a : AV} (h : NV H a) : CallOK Try.prog 38 [a] H fun res H' => res = .sc (.pointer none) ∧ H' = H := by
  have hv := inval_ok h
  rcases h with rfl | ⟨g, i, s, rfl, hx⟩
  all_goals
    refine CallOK.of cF38 ?_ (Nat.le_of_ble_eq_true rfl)
    refine walkSuT12 ?_
    refine Reg.c (Nat.le_refl _) rfl (hv.mono ?_)
    rintro res H' ⟨rfl, rfl⟩
    refine walkSuT12 ?_
    exact ⟨.inr rfl, _, _, _, rfl, .refl _ _ _, rfl, rfl⟩
theorem nv_add {H : Heap} {a : AV} (h : NV H a) (b : Int) : CallOK Try.prog 28 [a, .sc (.int .u64 b)] H fun res H' => res = .sc (.int .i64 1) ∧ H' = H := by
  have hv := inval_ok h
  rcases h with rfl | ⟨g, i, s, rfl, hx⟩
  all_goals
    refine CallOK.of cF28 ?_ (Nat.le_of_ble_eq_true rfl)
    refine walkSuT12 ?_
    refine Reg.c (Nat.le_refl _) rfl (hv.mono ?_)
    rintro res H' ⟨rfl, rfl⟩
    refine walkSuT12 ?_
    exact ⟨.inr rfl, _, _, _, rfl, .refl _ _ _, rfl, rfl⟩
/-- A pointer, or nil. -/
def Pt (a : AV) : Prop := a = .sc (.pointer none) ∨ ∃ g i, a = .ptr g i 0 0
theorem NV.pt {H : Heap} {a : AV} (h : NV H a) : Pt a := h.imp_right fun ⟨g, i, _, e, _⟩ => ⟨g, i, e⟩
theorem VA.pt {H : Heap} {a : AV} {s : St} (h : VA H a s) : Pt a := let ⟨g, i, e, _⟩ := h; .inr ⟨g, i, e⟩
theorem nv_merge1 {H : Heap} {a b : AV} (h : NV H a) (hb : Pt b) : CallOK Try.prog 30 [a, b] H fun res H' => res = .sc (.int .i64 1) ∧ H' = H := by
  have hv := inval_ok h
  rcases h.pt with rfl | ⟨g, i, rfl⟩ <;> rcases hb with rfl | ⟨g2, i2, rfl⟩
  all_goals
    refine CallOK.of cF30 ?_ (Nat.le_of_ble_eq_true rfl)
    refine walkSuT12 ?_
    refine Reg.c (Nat.le_refl _) rfl (hv.mono ?_)
    rintro res H' ⟨rfl, rfl⟩
    refine walkSuT12 ?_
    exact ⟨.inr rfl, _, _, _, rfl, .refl _ _ _, rfl, rfl⟩
theorem nv_merge2 {H : Heap} {a b : AV} {s : St} (ha : VA H a s) (h : NV H b) : CallOK Try.prog 30 [a, b] H fun res H' => res = .sc (.int .i64 1) ∧ H' = H := by
  have hv := inval_ok h
  have hw := va_ok ha
  obtain ⟨g, i, rfl, _⟩ := ha
  rcases h.pt with rfl | ⟨g2, i2, rfl⟩
  all_goals
    refine CallOK.of cF30 ?_ (Nat.le_of_ble_eq_true rfl)
    refine walkSuT12 ?_
    refine Reg.c (Nat.le_refl _) rfl (hw.mono ?_)
    rintro res H' ⟨rfl, rfl⟩
    refine walkSuT12 ?_
    refine Reg.c (Nat.le_refl _) rfl (hv.mono ?_)
    rintro res H' ⟨rfl, rfl⟩
    refine walkSuT12 ?_
    exact ⟨.inr rfl, _, _, _, rfl, .refl _ _ _, rfl, rfl⟩
theorem nv_same1 {H : Heap} {a b : AV} (h : NV H a) (hb : Pt b) : CallOK Try.prog 29 [a, b] H fun res H' => res = .sc (.bool false) ∧ H' = H := by
  have hv := inval_ok h
  rcases h.pt with rfl | ⟨g, i, rfl⟩ <;> rcases hb with rfl | ⟨g2, i2, rfl⟩
  all_goals
    refine CallOK.of cF29 ?_ (Nat.le_of_ble_eq_true rfl)
    refine walkS0 ?_
    refine AWP.lin [(true, 0), (false, 1), (true, 2), (true, 3), (false, 4), (true, 5), (true, 6), (true, 7), (true, 8), (true, 9), (true, 10), (true, 11), (true, 12), (true, 13), (true, 14), (true, 15), (true, 16), (true, 17)] mixed (by kernel_rfl) (by kernel_rfl) ?_
    refine walkLS ?_
    refine RT.cc (Nat.le_refl _) rfl hv ?_
    rintro res H' ⟨rfl, rfl⟩
    refine ⟨Keeps.refl _ _, ?_⟩
    refine walkLS ?_
    refine walkSuT12 ?_
    exact ⟨.inr rfl, _, _, _, rfl, .refl _ _ _, rfl, rfl⟩
theorem nv_same2 {H : Heap} {a b : AV} {s : St} (ha : VA H a s) (h : NV H b) : CallOK Try.prog 29 [a, b] H fun res H' => res = .sc (.bool false) ∧ H' = H := by
  have hv := inval_ok h
  have hw := va_ok ha
  obtain ⟨g, i, rfl, _⟩ := ha
  rcases h.pt with rfl | ⟨g2, i2, rfl⟩
  all_goals
    refine CallOK.of cF29 ?_ (Nat.le_of_ble_eq_true rfl)
    refine walkS0 ?_
    refine AWP.lin [(true, 0), (false, 1), (true, 2), (true, 3), (false, 4), (true, 5), (true, 6), (true, 7), (true, 8), (true, 9), (true, 10), (true, 11), (true, 12), (true, 13), (true, 14), (true, 15), (true, 16), (true, 17)] mixed (by kernel_rfl) (by kernel_rfl) ?_
    refine walkLS ?_
    refine RT.cc (Nat.le_refl _) rfl hw ?_
    rintro res H' ⟨rfl, rfl⟩
    refine ⟨Keeps.refl _ _, ?_⟩
    refine walkLS ?_
    refine RT.cc (Nat.le_refl _) rfl hv ?_
    rintro res H' ⟨rfl, rfl⟩
    refine ⟨Keeps.refl _ _, ?_⟩
    refine walkLS ?_
    refine walkSuT12 ?_
    exact ⟨.inr rfl, _, _, _, rfl, .refl _ _ _, rfl, rfl⟩

theorem same_at {H : Heap} {g i g' i' : Nat} {s t : St} (hx : hget H g i = some (.cells 41 [s.acc true])) (hy : hget H g' i' = some (.cells 41 [t.acc true])) (hs : s.n < 2 ^ 2304) (ht : t.n < 2 ^ 2304) :
    CallOK Try.prog 29 [.ptr g i 0 0, .ptr g' i' 0 0] H fun res H' => res = .sc (.bool (s.eqb t)) ∧ H' = H := by
  refine CallOK.of cF29 ?_ (Nat.le_of_ble_eq_true rfl)
  refine walkS0 ?_
  refine AWP.lin [(true, 0), (false, 1), (true, 2), (true, 3), (false, 4), (true, 5), (true, 6), (true, 7), (true, 8), (true, 9), (true, 10), (true, 11), (true, 12), (true, 13), (true, 14), (true, 15), (true, 16), (true, 17)] mixed (by kernel_rfl) (by kernel_rfl) ?_
  refine walkLS ?_
  refine RT.cc (Nat.le_refl _) rfl (look_at hx (valid_ok true s)) ?_
  rintro res H' ⟨rfl, rfl⟩
  refine ⟨Keeps.refl _ _, ?_⟩
  refine walkLS ?_
  refine RT.cc (Nat.le_refl _) rfl (look_at hy (valid_ok true t)) ?_
  rintro res H' ⟨rfl, rfl⟩
  refine ⟨Keeps.refl _ _, ?_⟩
  refine walkLS ?_
  refine tsu1 ?_ (hh := hx)
  refine walkLS ?_
  refine tsu1 ?_ (hh := hy)
  refine RT.nil ?_
  refine LP.t0 ?_
  refine RT.o rfl (dstep_eqSt (s := s) (t := t) rfl rfl hs ht) (Keeps.refl _ _) ?_
  refine walkLS ?_
  refine walkSuT12 ?_
  exact ⟨.inr rfl, _, _, _, rfl, .refl _ _ _, by simp, rfl⟩

theorem merge2_at {H : Heap} {g i g' i' : Nat} {a s : St} (hx : hget H g i = some (.cells 41 [a.acc true])) (hy : hget H g' i' = some (.cells 41 [s.acc true])) :
    CallOK Try.prog 30 [.ptr g i 0 0, .ptr g' i' 0 0] H fun res H' => res = .sc (.int .i64 (mergeR a s).1) ∧ H' = hset H g i (.cells 41 [(mergeR a s).2.acc true]) := by
  refine CallOK.of cF30 ?_ (Nat.le_of_ble_eq_true rfl)
  refine walkSuT12 ?_
  refine Reg.c (Nat.le_refl _) rfl ((look_at hx (valid_ok true a)).mono ?_)
  rintro res H' ⟨rfl, rfl⟩
  refine walkSuT12 ?_
  refine Reg.c (Nat.le_refl _) rfl ((look_at hy (valid_ok true s)).mono ?_)
  rintro res H' ⟨rfl, rfl⟩
  refine walkSuT12 ?_
  refine su1 ?_ (hh := hy)
  refine walkSuT12 ?_
  refine Reg.c (Nat.le_refl _) rfl ((merge_at hx s).mono ?_)
  rintro res H' ⟨rfl, rfl⟩
  refine walkSuT12 ?_
  exact ⟨.inr rfl, _, _, _, rfl, .refl _ _ _, rfl, rfl⟩

theorem copy_at {H : Heap} {g i : Nat} {s : St} (hx : hget H g i = some (.cells 41 [s.acc true])) : CallOK Try.prog 38 [.ptr g i 0 0] H fun res H' => res = .ptr H.length 0 0 0 ∧ H' = H ++ [[.cells 41 [s.acc true]]] := by
  refine CallOK.of cF38 ?_ (Nat.le_of_ble_eq_true rfl)
  refine walkSuT12 ?_
  refine Reg.c (Nat.le_refl _) rfl ((look_at hx (valid_ok true s)).mono ?_)
  rintro res H' ⟨rfl, rfl⟩
  refine walkSuT12 ?_
  refine su1 ?_ (hh := hx)
  refine walkSuT12 ?_
  rw [hset_new]
  refine su3 ?_ (hh := hget_new _ _)
  refine walkSuT12 ?_
  rw [hset_new2]
  exact ⟨.inr rfl, _, _, _, rfl, .refl _ _ _, rfl, rfl⟩

end Go.Proofs.Ytnngbbiajioghaa
namespace Go.Proofs.Ytnngbbiajioghaa
open Go.Av Go.Proofs
set_option exponentiation.threshold 4000
set_option maxRecDepth 20000

/-! Operations are commutative and associative. -/

theorem sg_cases {b : Nat} (h : b < 18446744073709551616) : sg b = if b < 9223372036854775808 then (b : Int) else (b : Int) - 18446744073709551616 := by
  have hb : IntKind.i64.bits = 64 := rfl
  have hs : IntKind.i64.signed = true := rfl
  unfold sg
  simp only [IntKind.wrap, hb, hs]
  simp
  split <;> split <;> omega
theorem sg_inj {a b : Nat} (ha : a < 18446744073709551616) (hb : b < 18446744073709551616) (h : sg a = sg b) : a = b := by
  rw [sg_cases ha, sg_cases hb] at h
  split at h <;> split at h <;> omega

theorem cmpI_neg (x y : Int) : cmpI x y < 0 ↔ x < y := cmpI_lt x y
theorem cmpI_zero (x y : Int) : cmpI x y = 0 ↔ x = y := by
  unfold cmpI
  split
  · omega
  · split <;> omega
theorem cmpI_pos (x y : Int) : 0 < cmpI x y ↔ y < x := by
  unfold cmpI
  split
  · omega
  · split <;> omega

/-- The one that comes first, by a number that tells all apart. -/
def minBy (f : Vl → Int) (a b : Vl) : Vl := if f b < f a then b else a
theorem minBy_comm {f : Vl → Int} {a b : Vl} (h : f a = f b → a = b) : minBy f a b = minBy f b a := by
  unfold minBy
  split <;> split
  · omega
  · rfl
  · rfl
  · exact h (by omega)
theorem minBy_assoc {f : Vl → Int} {a b c : Vl} : minBy f (minBy f a b) c = minBy f a (minBy f b c) := by
  unfold minBy
  repeat' split
  all_goals first | rfl | omega

/-- .. by two numbers. -/
def lexBy (f g : Vl → Int) (a b : Vl) : Vl := if f b < f a ∨ (f b = f a ∧ g b < g a) then b else a
theorem lexBy_comm {f g : Vl → Int} {a b : Vl} (h : f a = f b → g a = g b → a = b) : lexBy f g a b = lexBy f g b a := by
  unfold lexBy
  split <;> split
  · omega
  · rfl
  · rfl
  · exact h (by omega) (by omega)
theorem lexBy_assoc {f g : Vl → Int} {a b c : Vl} : lexBy f g (lexBy f g a b) c = lexBy f g a (lexBy f g b c) := by
  unfold lexBy
  repeat' split
  all_goals first | rfl | omega

theorem ordN_inj {a b : Nat} (ha : a < 18446744073709551616) (hb : b < 18446744073709551616) (h : ordN a = ordN b) : a = b := by
  unfold ordN at h
  split at h <;> split at h <;> omega
theorem quiet_id {a : Nat} (h : ¬ infN < a % 9223372036854775808) : quiet a = a := if_neg h

def fInt (v : Vl) : Int := sg v.1
def fIntN (v : Vl) : Int := - sg v.1
def fReal (v : Vl) : Int := (ordN v.1 : Int)
def fRealN (v : Vl) : Int := - (ordN v.1 : Int)
def fPl (v : Vl) : Int := v.2
abbrev nanV (v : Vl) : Prop := infN < v.1 % 9223372036854775808

theorem opR_min (a b : Vl) : opR 3 1 a b = minBy fInt a b := by
  unfold opR minBy fInt
  simp only [if_true, show ¬ (3 : Int) = 1 by decide, show ¬ (3 : Int) = 2 by decide, if_false, cmpI_neg]
theorem opR_max (a b : Vl) : opR 4 1 a b = minBy fIntN a b := by
  unfold opR minBy fIntN
  simp only [if_true, show ¬ (4 : Int) = 1 by decide, show ¬ (4 : Int) = 2 by decide, show ¬ (4 : Int) = 3 by decide, if_false, cmpI_neg]
  congr 1
  simp
theorem compareS_neg {a b : Nat} (ha : ¬ infN < a % 9223372036854775808) (hb : ¬ infN < b % 9223372036854775808) : compareS a b < 0 ↔ (ordN a : Int) < ordN b := by
  unfold compareS
  rw [quiet_id ha, quiet_id hb, cmpI_neg]
theorem opR_rmin {a b : Vl} (ha : ¬ nanV a) (hb : ¬ nanV b) : opR 3 2 a b = minBy fReal a b := by
  rw [opR_real3, if_neg (fun h => h.elim ha hb)]
  unfold minBy fReal
  simp only [compareS_neg hb ha]
theorem opR_rmax {a b : Vl} (ha : ¬ nanV a) (hb : ¬ nanV b) : opR 4 2 a b = minBy fRealN a b := by
  rw [opR_real4, if_neg (fun h => h.elim ha hb)]
  unfold minBy fRealN
  simp only [compareS_neg ha hb]
  congr 1
  simp
theorem opR_rnan {op : Int} (ho : op = 3 ∨ op = 4) {a b : Vl} (h : nanV a ∨ nanV b) : opR op 2 a b = (nanN, 0) := by
  rcases ho with rfl | rfl
  · rw [opR_real3, if_pos h]
  · rw [opR_real4, if_pos h]
theorem nanV_nan : nanV (nanN, 0) := by unfold nanV; decide
theorem minBy_or (f : Vl → Int) (a b : Vl) : minBy f a b = a ∨ minBy f a b = b := by
  unfold minBy
  split
  · exact .inr rfl
  · exact .inl rfl
theorem opR_minloc (a b : Vl) : opR 10 3 a b = lexBy fInt fPl a b := by
  unfold opR lexBy fInt fPl
  simp only [show ¬ (3 : Int) = 1 by decide, show ¬ (3 : Int) = 2 by decide, if_false, if_true]
  congr 1
  rw [locS_lt (.inl rfl)]
  refine propext ⟨fun h => ?_, fun h => ?_⟩ <;> omega
theorem opR_maxloc (a b : Vl) : opR 11 3 a b = lexBy fIntN fPl a b := by
  unfold opR lexBy fIntN fPl
  simp only [show ¬ (3 : Int) = 1 by decide, show ¬ (3 : Int) = 2 by decide, show ¬ (11 : Int) = 10 by decide, if_false]
  congr 1
  rw [locS_lt (.inr rfl)]
  refine propext ⟨fun h => ?_, fun h => ?_⟩ <;> omega

/-- What two sums know together. -/
def comb (a s : St) : St := ⟨(a.n + s.n) % big, a.nan || s.nan, a.plus || s.plus, a.minus || s.minus, max a.zero s.zero⟩
theorem comb_comm (a b : St) : comb a b = comb b a := by
  unfold comb
  rw [Nat.add_comm, Bool.or_comm, Bool.or_comm a.plus, Bool.or_comm a.minus, Nat.max_comm]
theorem comb_assoc (a b c : St) : comb (comb a b) c = comb a (comb b c) := by
  unfold comb
  simp only [Bool.or_assoc, Nat.max_assoc, Nat.add_assoc, Nat.mod_add_mod, Nat.add_mod_mod]
theorem comb_zero {a : St} (h : a.n < big) : comb s0 a = a := by
  unfold comb s0
  simp only [Bool.false_or, Nat.zero_max, Nat.zero_add, Nat.mod_eq_of_lt h]

/-- A number near 0, in two's complement. -/
def Sml (K : Nat) (s : St) : Prop := s.n < big ∧ (s.n ≤ K ∨ big ≤ s.n + K)
theorem Sml.comb {K L : Nat} {a b : St} (ha : Sml K a) (hb : Sml L b) : Sml (K + L) (comb a b) := by
  have := big_pos
  unfold Sml Go.Proofs.Ytnngbbiajioghaa.comb at *
  simp only
  generalize big = B at *
  refine ⟨Nat.mod_lt _ this, ?_⟩
  by_cases h : a.n + b.n < B
  · rw [Nat.mod_eq_of_lt h]; omega
  · rw [Nat.mod_eq_sub_mod (by omega), Nat.mod_eq_of_lt (by omega)]; omega
theorem Sml.mono {K L : Nat} {a : St} (ha : Sml K a) (h : K ≤ L) : Sml L a := ⟨ha.1, by have := ha.2; omega⟩
theorem blen_small {N : Nat} (h : N < 2 ^ 2240) : ¬ 2240 < blen N := by
  have := (blen_iff N 2240).2 h
  omega
theorem big_facts2 : 4 * 2 ^ 2240 ≤ 2 ^ 2303 ∧ big = 2 * 2 ^ 2303 := big_facts
theorem Sml.abs {K : Nat} {a : St} (ha : Sml K a) (hK : K < 2 ^ 2240) : absN a.n < 2 ^ 2240 := by
  obtain ⟨f1, f2⟩ := big_facts2
  unfold Sml at ha
  unfold absN
  rw [show (2 : Nat) ^ 2304 = big from rfl]
  generalize big = B at *
  generalize 2 ^ 2303 = C at *
  generalize 2 ^ 2240 = D at *
  split <;> omega
theorem mergeR_small {K L : Nat} {a b : St} (ha : Sml K a) (hb : Sml L b) (h : K + L < 2 ^ 2240) : mergeR a b = (0, comb a b) := by
  have h2 : ¬ 2240 < blen (absN ((a.n + b.n) % big)) := blen_small ((ha.comb hb).abs h)
  unfold mergeR mergeS
  rw [if_neg h2]
  rfl
theorem sml_zero : Sml 0 s0 := ⟨big_pos, .inl (Nat.le_refl _)⟩
def oneB : Nat := 2 ^ 2098
theorem sml_one {b : Nat} (hb0 : b < 18446744073709551616) : Sml oneB (oneS b) := by
  have hz : Sml 0 (St.mk 0 false false false 0) := ⟨big_pos, .inl (Nat.le_refl _)⟩
  unfold oneS
  split
  · exact ⟨big_pos, .inl (Nat.zero_le _)⟩
  · split
    · exact ⟨big_pos, .inl (Nat.zero_le _)⟩
    · split
      · exact ⟨big_pos, .inl (Nat.zero_le _)⟩
      · rename_i h1 h2 h3
        have hlt : oneN b < oneB := oneN_lt (by omega)
        have hb : oneB < big := Nat.pow_lt_pow_right (by decide) (by decide)
        by_cases hs : 9223372036854775808 ≤ b
        · rw [if_pos hs]
          have hpos : 0 < oneN b := by
            refine oneN_pos fun h0 => ?_
            unfold infN at *
            omega
          show big - oneN b < big ∧ (big - oneN b ≤ oneB ∨ big ≤ big - oneN b + oneB)
          clear h1 h2 h3
          generalize big = B at *
          generalize oneN b = x at *
          generalize oneB = y at *
          exact ⟨by omega, .inr (by omega)⟩
        · rw [if_neg hs]
          exact ⟨Nat.lt_trans hlt hb, .inl (Nat.le_of_lt hlt)⟩
theorem oneB_60 (k : Nat) (h : k ≤ 4096) : k * oneB < 2 ^ 2240 := by
  have h1 : k * oneB ≤ 2 ^ 12 * 2 ^ 2098 := Nat.mul_le_mul_right _ h
  rw [← Nat.pow_add] at h1
  exact Nat.lt_of_le_of_lt h1 (Nat.pow_lt_pow_right (by decide) (by decide))
theorem twoN_eq {a b : Nat} (ha : a < 18446744073709551616) (hb : b < 18446744073709551616) : twoN a b = (comb (oneS a) (oneS b)).value := by
  unfold twoN
  have h2 := oneB_60 2 (by decide)
  have h1 : mergeR s0 (oneS a) = (0, oneS a) := by
    rw [mergeR_small sml_zero (sml_one ha) (by omega), comb_zero (sml_one ha).1]
  rw [h1]
  simp only
  rw [mergeR_small (sml_one ha) (sml_one hb) (by omega)]
theorem twoN_comm {a b : Nat} (ha : a < 18446744073709551616) (hb : b < 18446744073709551616) : twoN a b = twoN b a := by rw [twoN_eq ha hb, twoN_eq hb ha, comb_comm]

/-- All that Check lets pass. -/
theorem check_cases {op kind : Int} (h : checkE op kind = 0) : (kind = 1 ∧ 1 ≤ op ∧ op ≤ 9) ∨ (kind = 2 ∧ (op = 1 ∨ op = 3 ∨ op = 4)) ∨ (kind = 3 ∧ (op = 10 ∨ op = 11)) := by
  have hn := check_op h
  unfold checkE at h
  split at h
  · cases h
  · rename_i hc
    rw [opNil_iff (by omega) (by omega) (by omega) (by omega)] at hn
    simp only [Bool.not_eq_false', Bool.or_eq_true, Bool.and_eq_true, decide_eq_true_eq] at hn
    omega

theorem opR_comm {op kind : Int} (hc : checkE op kind = 0) {a b : Vl} (ha : a.1 < 18446744073709551616) (hb : b.1 < 18446744073709551616) (pa : kind ≠ 3 → a.2 = 0) (pb : kind ≠ 3 → b.2 = 0) : opR op kind a b = opR op kind b a := by
  have e1 : kind ≠ 3 → a.1 = b.1 → a = b := fun hk h => Prod.ext h ((pa hk).trans (pb hk).symm)
  rcases check_cases hc with ⟨rfl, h1, h2⟩ | ⟨rfl, h1⟩ | ⟨rfl, h1⟩
  · have e2 : sg a.1 = sg b.1 → a = b := fun h => e1 (by decide) (sg_inj ha hb h)
    rcases (by omega : op = 1 ∨ op = 2 ∨ op = 3 ∨ op = 4 ∨ op = 5 ∨ op = 6 ∨ op = 7 ∨ op = 8 ∨ op = 9) with rfl | rfl | rfl | rfl | rfl | rfl | rfl | rfl | rfl
    · simp only [opR, if_true, Nat.add_comm]
    · unfold opR
      simp only [if_true, show ¬ (2 : Int) = 1 by decide, if_false]
      rw [Nat.mul_comm]
    · rw [opR_min, opR_min]; exact minBy_comm e2
    · rw [opR_max, opR_max]; exact minBy_comm fun h => e2 (by unfold fIntN at h; omega)
    · unfold opR
      simp (decide := true) only [if_true, if_false]
      rw [Nat.and_comm]
    · unfold opR
      simp (decide := true) only [if_true, if_false]
      rw [Nat.or_comm]
    · unfold opR
      simp (decide := true) only [if_true, if_false]
      rw [Nat.xor_comm]
    · unfold opR
      simp (decide := true) only [if_true, if_false]
      rw [Bool.and_comm]
    · unfold opR
      simp (decide := true) only [if_true, if_false]
      rw [Bool.or_comm]
  · rcases h1 with rfl | rfl | rfl
    · unfold opR
      simp (decide := true) only [if_true, if_false]
      rw [twoN_comm ha hb]
    · by_cases hn : nanV a ∨ nanV b
      · rw [opR_rnan (.inl rfl) hn, opR_rnan (.inl rfl) hn.symm]
      · rw [opR_rmin (fun h => hn (.inl h)) (fun h => hn (.inr h)), opR_rmin (fun h => hn (.inr h)) (fun h => hn (.inl h))]
        exact minBy_comm fun h => e1 (by decide) (ordN_inj ha hb (by unfold fReal at h; omega))
    · by_cases hn : nanV a ∨ nanV b
      · rw [opR_rnan (.inr rfl) hn, opR_rnan (.inr rfl) hn.symm]
      · rw [opR_rmax (fun h => hn (.inl h)) (fun h => hn (.inr h)), opR_rmax (fun h => hn (.inr h)) (fun h => hn (.inl h))]
        exact minBy_comm fun h => e1 (by decide) (ordN_inj ha hb (by unfold fRealN at h; omega))
  · rcases h1 with rfl | rfl
    · rw [opR_minloc, opR_minloc]
      exact lexBy_comm fun h1 h2 => Prod.ext (sg_inj ha hb h1) h2
    · rw [opR_maxloc, opR_maxloc]
      exact lexBy_comm fun h1 h2 => Prod.ext (sg_inj ha hb (by unfold fIntN at h1; omega)) h2

theorem opR_assoc {op kind : Int} (hc : checkE op kind = 0) (hs : ¬ (op = 1 ∧ kind = 2)) {a b c : Vl} : opR op kind (opR op kind a b) c = opR op kind a (opR op kind b c) := by
  rcases check_cases hc with ⟨rfl, h1, h2⟩ | ⟨rfl, h1⟩ | ⟨rfl, h1⟩
  · rcases (by omega : op = 1 ∨ op = 2 ∨ op = 3 ∨ op = 4 ∨ op = 5 ∨ op = 6 ∨ op = 7 ∨ op = 8 ∨ op = 9) with rfl | rfl | rfl | rfl | rfl | rfl | rfl | rfl | rfl
    · simp only [opR, if_true, Nat.mod_add_mod, Nat.add_mod_mod, Nat.add_assoc]
    · unfold opR
      simp (decide := true) only [if_true, if_false, Nat.mul_mod_mod, Nat.mod_mul_mod, Nat.mul_assoc]
    · simp only [opR_min]; exact minBy_assoc
    · simp only [opR_max]; exact minBy_assoc
    · unfold opR
      simp (decide := true) only [if_true, if_false, Nat.and_assoc]
    · unfold opR
      simp (decide := true) only [if_true, if_false, Nat.or_assoc]
    · unfold opR
      simp (decide := true) only [if_true, if_false, Nat.xor_assoc]
    · unfold opR
      simp (decide := true) only [if_true, if_false]
      by_cases x : a.1 = 0 <;> by_cases y : b.1 = 0 <;> by_cases z : c.1 = 0 <;> simp [x, y, z]
    · unfold opR
      simp (decide := true) only [if_true, if_false]
      by_cases x : a.1 = 0 <;> by_cases y : b.1 = 0 <;> by_cases z : c.1 = 0 <;> simp [x, y, z]
  · rcases h1 with rfl | h1
    · exact absurd ⟨rfl, rfl⟩ hs
    · have key : ∀ x y : Vl, (nanV x ∨ nanV y → opR op 2 x y = (nanN, 0)) ∧ (¬ nanV x → ¬ nanV y → ¬ nanV (opR op 2 x y)) := fun x y => by
        refine ⟨opR_rnan h1, fun hx hy => ?_⟩
        rcases h1 with rfl | rfl
        · rw [opR_rmin hx hy]
          rcases minBy_or fReal x y with e | e <;> rw [e] <;> assumption
        · rw [opR_rmax hx hy]
          rcases minBy_or fRealN x y with e | e <;> rw [e] <;> assumption
      by_cases na : nanV a
      · rw [(key a b).1 (.inl na), (key (nanN, 0) c).1 (.inl nanV_nan), (key a _).1 (.inl na)]
      · by_cases nb : nanV b
        · rw [(key a b).1 (.inr nb), (key (nanN, 0) c).1 (.inl nanV_nan), (key b c).1 (.inl nb), (key a _).1 (.inr nanV_nan)]
        · by_cases nc : nanV c
          · rw [(key _ c).1 (.inr nc), (key b c).1 (.inr nc), (key a _).1 (.inr nanV_nan)]
          · have n1 := (key a b).2 na nb
            have n2 := (key b c).2 nb nc
            rcases h1 with rfl | rfl
            · rw [opR_rmin n1 nc, opR_rmin na n2, opR_rmin na nb, opR_rmin nb nc]; exact minBy_assoc
            · rw [opR_rmax n1 nc, opR_rmax na n2, opR_rmax na nb, opR_rmax nb nc]; exact minBy_assoc
  · rcases h1 with rfl | rfl
    · simp only [opR_minloc]; exact lexBy_assoc
    · simp only [opR_maxloc]; exact lexBy_assoc

theorem opR_place' {op kind : Int} (hc : checkE op kind = 0) {a b : Vl} (pa : kind ≠ 3 → a.2 = 0) (pb : kind ≠ 3 → b.2 = 0) : kind ≠ 3 → (opR op kind a b).2 = 0 := fun hk =>
  opR_place hk (pa hk) (pb hk) (by rcases check_cases hc with h | h | h <;> omega)
theorem valid2 {kind : Int} {a b : Vl} (pa : kind ≠ 3 → a.2 = 0) (pb : kind ≠ 3 → b.2 = 0) : validS kind [a, b] = true := by
  unfold validS
  by_cases h : kind = 3
  · simp [h]
  · simp [h, pa h, pb h]
theorem doS_good {op kind : Int} (hc : checkE op kind = 0) {a b : Vl} (pa : kind ≠ 3 → a.2 = 0) (pb : kind ≠ 3 → b.2 = 0) : doS op kind a b = (opR op kind a b, 0) := by
  unfold doS
  rw [if_neg (by omega), valid2 pa pb, if_neg (by simp)]

end Go.Proofs.Ytnngbbiajioghaa
namespace Go.Proofs.Ytnngbbiajioghaa
open Go.Av Go.Proofs
set_option exponentiation.threshold 4000
set_option maxRecDepth 20000

/-! Bytes as strings; sums out of their own bytes. -/

theorem dstep_seq {g i : Nat} {fr : Fr} {H : Heap} {t : TypeId} {x y : Operand} {s : ByteArray} (hx : ev fr x = .sc (.string s)) (hy : ev fr y = .sc (.string s)) : dstep g i (.bin .eql t x y) fr H = some (.sc (.bool true), H) := by
  simp only [dstep, hx, hy]
  show some (AV.sc (.bool (s.toList == s.toList)), H) = _
  simp
theorem dstep_sne {g i : Nat} {fr : Fr} {H : Heap} {t : TypeId} {x y : Operand} {s : ByteArray} (hx : ev fr x = .sc (.string s)) (hy : ev fr y = .sc (.string s)) : dstep g i (.bin .neq t x y) fr H = some (.sc (.bool false), H) := by
  simp only [dstep, hx, hy]
  show some (AV.sc (.bool (!(s.toList == s.toList))), H) = _
  simp
def strB (l : List Nat) : ByteArray := pushAll .empty (l.map UInt8.ofNat)
theorem bytesOf_by : ∀ l : List Nat, bytesOf (bytR l) = some (l.map UInt8.ofNat)
  | [] => rfl
  | b :: l => by
    show (match bytesOf (bytR l) with | some m => some (UInt8.ofNat ((b : Int).toNat) :: m) | none => none) = _
    rw [bytesOf_by l, Int.toNat_natCast]
    rfl
theorem dstep_bs {g i : Nat} {fr : Fr} {H : Heap} {x : Operand} {l : List Nat} (hx : ev fr x = byV l) : dstep g i (.xop .bstr [x]) fr H = some (.sc (.string (strB l)), H) := by
  simp only [dstep, avals, List.map_cons, List.map_nil, hx, xstep, byV, rowsX, rowsOf, bytesOf_by]
  rfl

/-- What holds of every sum. -/
structure Good (s : St) : Prop where
  n : s.n < 2 ^ 2304
  abs : absN s.n < 2 ^ 2240
  zero : s.zero ≤ 2
  none : s.zero ≠ 2 → s.n = 0 ∧ s.nan = false ∧ s.plus = false ∧ s.minus = false
theorem good_zero : Good s0 := ⟨Nat.pow_pos (by decide), Nat.pow_pos (by decide), by decide, fun _ => ⟨rfl, rfl, rfl, rfl⟩⟩
theorem good_one {b : Nat} (hb : b < 18446744073709551616) : Good (oneS b) := by
  have h1 := sml_one hb
  have h2 := h1.abs (show oneB < 2 ^ 2240 from Nat.pow_lt_pow_right (by decide) (by decide))
  have h3 : (oneS b).zero ≤ 2 ∧ ((oneS b).zero ≠ 2 → (oneS b).n = 0 ∧ (oneS b).nan = false ∧ (oneS b).plus = false ∧ (oneS b).minus = false) := by
    unfold oneS
    split
    · exact ⟨Nat.le_refl 2, fun h => absurd rfl h⟩
    · split
      · exact ⟨Nat.le_refl 2, fun h => absurd rfl h⟩
      · split
        · exact ⟨by decide, fun _ => ⟨rfl, rfl, rfl, rfl⟩⟩
        · exact ⟨Nat.le_refl 2, fun h => absurd rfl h⟩
  exact ⟨h1.1, h2, h3.1, h3.2⟩
theorem good_merge {a s : St} (ha : Good a) (hs : Good s) : Good (mergeR a s).2 := by
  unfold mergeR mergeS
  by_cases h : 2240 < blen (absN ((a.n + s.n) % big))
  · rw [if_pos h]; exact ha
  · rw [if_neg h]
    have h2 : absN ((a.n + s.n) % big) < 2 ^ 2240 := (blen_iff _ _).1 (by omega)
    have za := ha.zero
    have zs := hs.zero
    refine ⟨Nat.mod_lt _ big_pos, h2, by show max a.zero s.zero ≤ 2; omega, fun hz => ?_⟩
    have hz : max a.zero s.zero ≠ 2 := hz
    obtain ⟨a1, a2, a3, a4⟩ := ha.none (by omega)
    obtain ⟨b1, b2, b3, b4⟩ := hs.none (by omega)
    simp only
    rw [a1, a2, a3, a4, b1, b2, b3, b4]
    exact ⟨Nat.mod_eq_of_lt big_pos, rfl, rfl, rfl⟩

theorem digs_len (m V : Nat) : (digs m V).length = m := by simp [digs]
theorem valB_digs {m V : Nat} (hV : V < 256 ^ m) : valB (digs m V) = V := by
  have hd : ∀ b ∈ digs m V, b < 256 := fun b hb => by
    obtain ⟨i, _, rfl⟩ := List.mem_map.1 hb
    exact dg_lt _ _
  obtain ⟨h1, h2⟩ := valB_spec (digs m V) hd
  rw [digs_R, digs_len] at h1
  rw [digs_len] at h2
  refine dg_inj h2 hV fun i hi => ?_
  have h3 : (bR m V)[m - 1 - i]? = (bR m (valB (digs m V)))[m - 1 - i]? := by rw [h1]
  rw [bR_get (by omega), bR_get (by omega), show m - 1 - (m - 1 - i) = i by omega] at h3
  injection h3 with h3
  injection h3 with h3
  unfold u8c at h3
  injection h3 with h3
  injection h3 with _ h3
  omega

theorem flags_lt {s : St} (h : s.zero ≤ 2) : flags s < 256 := by
  have h1 := flg_le s.nan 1
  have h2 := flg_le s.plus 2
  have h3 := flg_le s.minus 4
  unfold flags
  omega
theorem dec_enc {s : St} (h : Good s) : okD (flags s) (flg (decide (2 ^ 2303 ≤ s.n)) 1) (nb (absN s.n)) (absN s.n) = true ∧ decF (flags s) (decN (flg (decide (2 ^ 2303 ≤ s.n)) 1) (absN s.n)) = s := by
  have hz := h.zero
  have key : ∀ (a b c : Bool) (z : Nat), z ≤ 2 → (!decide ((flg a 1 + flg b 2 + flg c 4 + 8 * z) &&& 1 = 0)) = a ∧ (!decide ((flg a 1 + flg b 2 + flg c 4 + 8 * z) &&& 2 = 0)) = b ∧ (!decide ((flg a 1 + flg b 2 + flg c 4 + 8 * z) &&& 4 = 0)) = c ∧ (flg a 1 + flg b 2 + flg c 4 + 8 * z) / 2 ^ 3 = z := by
    intro a b c z hz
    rcases (by omega : z = 0 ∨ z = 1 ∨ z = 2) with rfl | rfl | rfl <;> cases a <;> cases b <;> cases c <;> decide
  obtain ⟨k1, k2, k3, k4⟩ := key s.nan s.plus s.minus s.zero hz
  have hneg : 2 ^ 2303 ≤ s.n → decN 1 (absN s.n) = s.n ∧ 0 < absN s.n := by
    intro hp
    have hn := h.n
    have f2 := big_facts.2
    have hpos : 0 < 2 ^ 2303 := Nat.pow_pos (by decide)
    unfold decN absN
    rw [if_pos rfl, if_pos hp]
    rw [f2] at hn ⊢
    clear f2
    generalize 2 ^ 2303 = P at *
    refine ⟨?_, by omega⟩
    rw [show 2 * P - (2 * P - s.n) = s.n by omega, Nat.mod_eq_of_lt hn]
  have hpos : ¬ 2 ^ 2303 ≤ s.n → decN 0 (absN s.n) = s.n := by
    intro hp
    unfold decN absN
    rw [if_neg (by decide), if_neg hp]
  have e8 : flags s / 8 = s.zero := k4
  constructor
  · unfold okD
    rw [e8]
    have c1 : (decide (s.zero = 2) || (decide (absN s.n = 0) && decide (flags s % 8 = 0))) = true := by
      by_cases h2 : s.zero = 2
      · rw [decide_eq_true h2]; rfl
      · obtain ⟨a1, a2, a3, a4⟩ := h.none h2
        rw [decide_eq_true (show absN s.n = 0 by rw [a1]; decide), decide_eq_true (show flags s % 8 = 0 by unfold flags; rw [a2, a3, a4]; show (0 + 0 + 0 + 8 * s.zero) % 8 = 0; omega)]
        simp
    rw [decide_eq_true hz, c1]
    by_cases hp : 2 ^ 2303 ≤ s.n
    · rw [decide_eq_true hp, show flg true 1 = 1 from rfl, decide_eq_true (hneg hp).2]
      simp
    · rw [decide_eq_false hp, show flg false 1 = 0 from rfl]
      simp
  · have e : decN (flg (decide (2 ^ 2303 ≤ s.n)) 1) (absN s.n) = s.n := by
      by_cases hp : 2 ^ 2303 ≤ s.n
      · rw [decide_eq_true hp]; exact (hneg hp).1
      · rw [decide_eq_false hp]; exact hpos hp
    rw [e]
    unfold decF flags
    rw [k1, k2, k3, k4]

theorem decode_own (H : Heap) {s : St} (h : Good s) : CallOK Try.prog 21 [encV s] H fun res H' => res = .tup [.ptr H.length 0 0 0, .sc (.int .i64 0)] ∧ H' = H ++ [[.cells 41 [s.acc true]]] := by
  obtain ⟨h1, h2⟩ := dec_enc h
  have hnb : nb (absN s.n) ≤ 280 := (nb_le _ _).2 (by rw [pow256]; exact h.abs)
  have hv := valB_digs (lt_nb (absN s.n))
  rw [encV_by]
  refine (decode_at H (flags s) (flg (decide (2 ^ 2303 ≤ s.n)) 1) (digs (nb (absN s.n)) (absN s.n)) (flags_lt h.zero) (Nat.lt_of_le_of_lt (flg_le _ _) (by decide)) (fun b hb => ?_) (by rw [digs_len]; exact hnb)).mono ?_
  · obtain ⟨i, _, rfl⟩ := List.mem_map.1 hb
    exact dg_lt _ _
  · rintro res H' (⟨_, rfl, rfl⟩ | ⟨e, _⟩)
    · rw [hv, h2]; exact ⟨rfl, rfl⟩
    · rw [digs_len, hv, h1] at e; cases e

end Go.Proofs.Ytnngbbiajioghaa
namespace Go.Proofs.Ytnngbbiajioghaa
open Go.Av Go.Proofs
set_option exponentiation.threshold 4000
set_option maxRecDepth 20000

/-! Sums do not hang on the order. -/

def sumL (l : List Nat) : St := l.foldl (fun a b => comb a (oneS b)) s0
theorem comb_lt (a b : St) : (comb a b).n < big := Nat.mod_lt _ big_pos
theorem sumL_lt (l : List Nat) : (sumL l).n < big := by
  unfold sumL
  suffices ∀ (l : List Nat) (s : St), s.n < big → (l.foldl (fun a b => comb a (oneS b)) s).n < big from this l s0 big_pos
  intro l
  induction l with
  | nil => exact fun s h => h
  | cons b l ih => exact fun s _ => ih _ (comb_lt _ _)
theorem comb_zero' {a : St} (h : a.n < big) : comb a s0 = a := by rw [comb_comm, comb_zero h]
theorem foldl_comb (l : List Nat) : ∀ s : St, s.n < big → l.foldl (fun a b => comb a (oneS b)) s = comb s (sumL l) := by
  induction l with
  | nil => intro s h; exact (comb_zero' h).symm
  | cons b l ih =>
    intro s h
    have e : sumL (b :: l) = comb (comb s0 (oneS b)) (sumL l) := ih _ (comb_lt _ _)
    rw [List.foldl_cons, ih _ (comb_lt _ _), e]
    rw [← comb_assoc, ← comb_assoc, comb_zero' h]
theorem sumL_append (l m : List Nat) : sumL (l ++ m) = comb (sumL l) (sumL m) := by
  show (l ++ m).foldl _ s0 = _
  rw [List.foldl_append]
  exact foldl_comb m _ (sumL_lt l)
theorem sumL_rot (l : List Nat) (m : Nat) : sumL (l.drop m ++ l.take m) = sumL l := by
  rw [sumL_append, comb_comm, ← sumL_append, List.take_append_drop]
theorem sumL_one {b : Nat} (hb : b < 18446744073709551616) : sumL [b] = oneS b := comb_zero (sml_one hb).1
theorem sumL_snoc (l : List Nat) (b : Nat) : sumL (l ++ [b]) = comb (sumL l) (oneS b) := by
  show (l ++ [b]).foldl _ s0 = _
  rw [List.foldl_append]
  rfl
theorem sumL_cons {b : Nat} (hb : b < 18446744073709551616) (l : List Nat) : sumL (b :: l) = comb (oneS b) (sumL l) := by
  rw [show b :: l = [b] ++ l from rfl, sumL_append, sumL_one hb]
theorem sml_sumL (l : List Nat) (hb : ∀ b ∈ l, b < 18446744073709551616) : Sml (l.length * oneB) (sumL l) := by
  induction l with
  | nil => exact sml_zero.mono (Nat.zero_le _)
  | cons b l ih =>
    rw [sumL_cons (hb b (List.mem_cons_self ..))]
    have := (sml_one (hb b (List.mem_cons_self ..))).comb (ih fun c hc => hb c (List.mem_cons_of_mem _ hc))
    refine this.mono ?_
    rw [List.length_cons, Nat.add_mul, Nat.one_mul]
    omega
theorem merge_sumL (l : List Nat) (b : Nat) (hb : ∀ c ∈ l, c < 18446744073709551616) (h : b < 18446744073709551616) (hl : l.length ≤ 4000) : mergeR (sumL l) (oneS b) = (0, sumL (l ++ [b])) := by
  have h1 := oneB_60 (l.length + 1) (by omega)
  rw [Nat.add_mul, Nat.one_mul] at h1
  rw [mergeR_small (sml_sumL l hb) (sml_one h) h1, sumL_snoc]
theorem sumAll_sumL (l : List Vl) (hb : ∀ v ∈ l, v.1 < 18446744073709551616) (hl : l.length ≤ 4000) : sumAll l = sumL (l.map (·.1)) := by
  suffices ∀ (m : List Vl) (p : List Nat), (∀ c ∈ p, c < 18446744073709551616) → (∀ v ∈ m, v.1 < 18446744073709551616) → p.length + m.length ≤ 4000 → m.foldl (fun a v => (mergeR a (oneS v.1)).2) (sumL p) = sumL (p ++ m.map (·.1)) by
    have := this l [] (fun c hc => by cases hc) hb (by simpa using hl)
    rw [List.nil_append] at this
    exact this
  intro m
  induction m with
  | nil => intro p _ _ _; simp
  | cons v m ih =>
    intro p hp hm hl
    have hv := hm v (List.mem_cons_self ..)
    rw [List.foldl_cons, merge_sumL p v.1 hp hv (by simp at hl; omega)]
    rw [ih (p ++ [v.1]) (fun c hc => by
      rcases List.mem_append.1 hc with h | h
      · exact hp c h
      · rw [List.mem_singleton.1 h]; exact hv) (fun u hu => hm u (List.mem_cons_of_mem _ hu)) (by simp at hl ⊢; omega)]
    simp
theorem good_sumL (l : List Nat) (hb : ∀ b ∈ l, b < 18446744073709551616) (hl : l.length ≤ 4000) : Good (sumL l) := by
  suffices ∀ (m p : List Nat), (∀ c ∈ p, c < 18446744073709551616) → (∀ c ∈ m, c < 18446744073709551616) → p.length + m.length ≤ 4000 → Good (sumL p) → Good (sumL (p ++ m)) by
    exact this l [] (fun c hc => by cases hc) hb (by simpa using hl) good_zero
  intro m
  induction m with
  | nil => intro p _ _ _ h; simpa using h
  | cons b m ih =>
    intro p hp hm hl h
    have hv := hm b (List.mem_cons_self ..)
    have e := merge_sumL p b hp hv (by simp at hl; omega)
    have g := good_merge h (good_one hv)
    rw [e] at g
    have := ih (p ++ [b]) (fun c hc => by
      rcases List.mem_append.1 hc with h | h
      · exact hp c h
      · rw [List.mem_singleton.1 h]; exact hv) (fun u hu => hm u (List.mem_cons_of_mem _ hu)) (by simp at hl ⊢; omega) g
    simpa using this

theorem eqb_refl (s : St) : s.eqb s = true := by unfold St.eqb; simp

/-- Four parts together. -/
def comb4 (p : Nat → St) : St := comb (comb (p 0) (p 1)) (comb (p 2) (p 3))
theorem comb4_upd (p : Nat → St) (k : Nat) (hk : k < 4) (x : St) : comb4 (fun i => if i = k then comb (p k) x else p i) = comb x (comb4 p) := by
  unfold comb4
  have sw : ∀ a b c : St, comb a (comb b c) = comb b (comb a c) := fun a b c => by rw [← comb_assoc, comb_comm a b, comb_assoc]
  rcases (by omega : k = 0 ∨ k = 1 ∨ k = 2 ∨ k = 3) with rfl | rfl | rfl | rfl <;> simp only [if_true, show ¬ (0 : Nat) = 1 by decide, show ¬ (0 : Nat) = 2 by decide, show ¬ (0 : Nat) = 3 by decide, show ¬ (1 : Nat) = 0 by decide, show ¬ (1 : Nat) = 2 by decide, show ¬ (1 : Nat) = 3 by decide,
    show ¬ (2 : Nat) = 0 by decide, show ¬ (2 : Nat) = 1 by decide, show ¬ (2 : Nat) = 3 by decide, show ¬ (3 : Nat) = 0 by decide, show ¬ (3 : Nat) = 1 by decide, show ¬ (3 : Nat) = 2 by decide, if_false]
  · rw [comb_comm (p 0) x, comb_assoc x, comb_assoc x]
  · rw [comb_comm (p 1) x, sw (p 0) x, comb_assoc x]
  · rw [comb_comm (p 2) x, comb_assoc x, sw _ x]
  · rw [comb_comm (p 3) x, sw (p 2) x, sw _ x]
/-- .. in whichever order. -/
theorem comb4_rot (p : Nat → St) (hp : ∀ k, k < 4 → (p k).n < big) (o : Nat) : comb (comb (comb (comb s0 (p ((0 + o) % 4))) (p ((1 + o) % 4))) (p ((2 + o) % 4))) (p ((3 + o) % 4)) = comb4 p := by
  have sw : ∀ a b c : St, comb a (comb b c) = comb b (comb a c) := fun a b c => by rw [← comb_assoc, comb_comm a b, comb_assoc]
  have h0 := hp ((0 + o) % 4) (Nat.mod_lt _ (by decide))
  rw [comb_zero h0]
  unfold comb4
  rcases (by omega : o % 4 = 0 ∨ o % 4 = 1 ∨ o % 4 = 2 ∨ o % 4 = 3) with h | h | h | h
  · rw [show (0 + o) % 4 = 0 by omega, show (1 + o) % 4 = 1 by omega, show (2 + o) % 4 = 2 by omega, show (3 + o) % 4 = 3 by omega, comb_assoc (comb (p 0) (p 1))]
  · rw [show (0 + o) % 4 = 1 by omega, show (1 + o) % 4 = 2 by omega, show (2 + o) % 4 = 3 by omega, show (3 + o) % 4 = 0 by omega, comb_comm _ (p 0), comb_assoc (p 0), comb_assoc (p 1)]
  · rw [show (0 + o) % 4 = 2 by omega, show (1 + o) % 4 = 3 by omega, show (2 + o) % 4 = 0 by omega, show (3 + o) % 4 = 1 by omega, comb_assoc (comb (p 2) (p 3)), comb_comm]
  · rw [show (0 + o) % 4 = 3 by omega, show (1 + o) % 4 = 0 by omega, show (2 + o) % 4 = 1 by omega, show (3 + o) % 4 = 2 by omega, comb_comm _ (p 2), comb_assoc (p 3), comb_comm (p 3), ← comb_assoc (p 2), comb_comm (p 2), comb_assoc]

end Go.Proofs.Ytnngbbiajioghaa
namespace Go.Proofs.Ytnngbbiajioghaa
open Go.Av Go.Proofs
set_option exponentiation.threshold 4000
set_option maxRecDepth 20000

/-! Sums of two numbers as by the machine: the plain law. -/
theorem dLeast : Ieee.double.leastPlace = -1074 := by decide
theorem dBinade : Ieee.double.binade = expN := by decide
theorem dInf : Ieee.double.infRung = infN := by decide
theorem dSign : Ieee.double.signWeight = signN := by decide

theorem log2_shl {m : Nat} (h : m ≠ 0) (q : Nat) : (m * 2 ^ q).log2 = m.log2 + q := by
  have h0 : 0 < 2 ^ q := Nat.pow_pos (by decide)
  have h1 : m * 2 ^ q ≠ 0 := Nat.mul_ne_zero h (by omega)
  have a1 := Nat.log2_self_le h
  have a2 := Nat.lt_log2_self (n := m)
  refine (Nat.log2_eq_iff h1).2 ⟨?_, ?_⟩
  · rw [Nat.pow_add]; exact Nat.mul_le_mul_right _ a1
  · rw [show m.log2 + q + 1 = m.log2 + 1 + q by omega, Nat.pow_add _ (m.log2 + 1) q]
    exact (Nat.mul_lt_mul_right h0).2 a2

/-- The word nearest to a number times a power of two is the document's rounding of that number. -/
theorem cut_eq (neg : Bool) {m q k : Nat} (hk : k = m.log2 + q - 52) :
    Ieee.Toward.even.cut neg (m <<< (q - k)) (k - q) =
      if 0 < (if k = 0 then -1 else cmpN (m * 2 ^ q % 2 ^ k) (2 ^ (k - 1))) ∨ ((if k = 0 then -1 else cmpN (m * 2 ^ q % 2 ^ k) (2 ^ (k - 1))) = (0 : Int) ∧ m * 2 ^ q / 2 ^ k % 2 = 1) then m * 2 ^ q / 2 ^ k + 1 else m * 2 ^ q / 2 ^ k := by
  by_cases h : k ≤ q
  · have e1 : m * 2 ^ q = m * 2 ^ (q - k) * 2 ^ k := by rw [Nat.mul_assoc, ← Nat.pow_add, Nat.sub_add_cancel h]
    have h0 : 0 < 2 ^ k := Nat.pow_pos (by decide)
    have e2 : m * 2 ^ q % 2 ^ k = 0 := by rw [e1, Nat.mul_mod_left]
    have e3 : m * 2 ^ q / 2 ^ k = m * 2 ^ (q - k) := by rw [e1, Nat.mul_div_cancel _ h0]
    have e4 : (if k = 0 then (-1 : Int) else cmpN 0 (2 ^ (k - 1))) = -1 := by
      split
      · rfl
      · unfold cmpN
        rw [if_pos (Nat.pow_pos (by decide))]
    rw [e2, e3, e4, if_neg (by omega), show k - q = 0 by omega]
    unfold Ieee.Toward.cut
    simp [Nat.mod_one, Nat.shiftLeft_eq]
  · have hq : q - k = 0 := by omega
    have hd : k - q ≤ m.log2 := by omega
    have h1 : 0 < 2 ^ q := Nat.pow_pos (by decide)
    have ek : 2 ^ k = 2 ^ (k - q) * 2 ^ q := by rw [← Nat.pow_add, Nat.sub_add_cancel (by omega)]
    have ek1 : 2 ^ (k - 1) = 2 ^ (k - q - 1) * 2 ^ q := by rw [← Nat.pow_add]; congr 1; omega
    have e2 : m * 2 ^ q % 2 ^ k = m % 2 ^ (k - q) * 2 ^ q := by rw [ek, Nat.mul_mod_mul_right]
    have e3 : m * 2 ^ q / 2 ^ k = m / 2 ^ (k - q) := by rw [ek, Nat.mul_div_mul_right _ _ h1]
    have e5 : 2 ^ (k - q) = 2 * 2 ^ (k - q - 1) := by rw [← Nat.pow_succ']; congr 1; omega
    have e4 : cmpN (m % 2 ^ (k - q) * 2 ^ q) (2 ^ (k - q - 1) * 2 ^ q) = cmpN (m % 2 ^ (k - q)) (2 ^ (k - q - 1)) := by
      unfold cmpN
      simp only [Nat.mul_lt_mul_right h1]
    rw [e2, e3, ek1, e4, if_neg (show ¬ k = 0 by omega), hq]
    unfold Ieee.Toward.cut
    simp only [Nat.shiftLeft_zero, Nat.one_shiftLeft]
    rw [Nat.min_eq_left (by omega)]
    unfold cmpN
    rw [e5]
    generalize 2 ^ (k - q - 1) = g
    generalize m / (2 * g) = lo
    generalize m % (2 * g) = r
    by_cases c1 : r < g
    · rw [if_pos c1]
      simp
      omega
    · by_cases c2 : g < r
      · rw [if_neg c1, if_pos c2]
        simp
        omega
      · have : r = g := by omega
        subst this
        rw [if_neg c1, if_neg c1]
        by_cases c3 : lo % 2 = 1
        · simp [c3]
        · simp [c3]

theorem nearest_eq (neg : Bool) {m : Nat} (hm : m ≠ 0) (q : Nat) : Ieee.double.nearest neg m ((q : Int) - 1074) = (if neg then signN else 0) + roundN (m * 2 ^ q) := by
  have hl := log2_shl hm q
  have h1 : m * 2 ^ q ≠ 0 := Nat.mul_ne_zero hm (Nat.ne_of_gt (Nat.pow_pos (by decide)))
  have hb : blen (m * 2 ^ q) - 53 = m.log2 + q - 52 := by unfold blen; rw [if_neg h1, hl]; omega
  unfold Ieee.Format.nearest
  rw [if_neg hm, dLeast, dBinade, dInf]
  have hf : (Ieee.double.fractionBits : Int) = 52 := rfl
  have e1 : max ((q : Int) - 1074 + m.log2 - Ieee.double.fractionBits) (-1074) = ((m.log2 + q - 52 : Nat) : Int) - 1074 := by rw [hf]; omega
  simp only [e1]
  have e2 : ((q : Int) - 1074 - (((m.log2 + q - 52 : Nat) : Int) - 1074)).toNat = q - (m.log2 + q - 52) := by omega
  have e3 : (((m.log2 + q - 52 : Nat) : Int) - 1074 - ((q : Int) - 1074)).toNat = (m.log2 + q - 52) - q := by omega
  have e4 : (((m.log2 + q - 52 : Nat) : Int) - 1074 - (-1074)).toNat = m.log2 + q - 52 := by omega
  rw [e2, e3, e4, cut_eq neg rfl]
  unfold roundN
  rw [hb]
  have hw : ∀ r, Ieee.double.word neg r = (if neg then signN else 0) + r := fun r => by
    unfold Ieee.Format.word
    rw [dSign]
    cases neg <;> simp
  rw [hw]
  congr 1
  by_cases hk : 2045 < m.log2 + q - 52
  · rw [if_pos hk]
    refine Nat.min_eq_right ?_
    have h2 : 4503599627370496 ≤ m * 2 ^ q / 2 ^ (m.log2 + q - 52) := by
      rw [Nat.le_div_iff_mul_le (Nat.pow_pos (by decide)), show (4503599627370496 : Nat) = 2 ^ 52 from rfl, ← Nat.pow_add, show 52 + (m.log2 + q - 52) = (m * 2 ^ q).log2 by rw [hl]; omega]
      exact Nat.log2_self_le h1
    have h3 : ∀ (p : Prop) [Decidable p] (x : Nat), x ≤ if p then x + 1 else x := fun p _ x => by split <;> omega
    refine Nat.le_trans ?_ (Nat.add_le_add_left (h3 _ _) _)
    unfold infN expN
    omega
  · rw [if_neg hk, Nat.min_comm]

end Go.Proofs.Ytnngbbiajioghaa
namespace Go.Proofs.Ytnngbbiajioghaa
open Go.Av Go.Proofs
set_option exponentiation.threshold 4000
set_option maxRecDepth 20000

/-! Sums of two numbers as by the machine: what a word stands for. -/
theorem read_nan {b : Nat} (h : infN < b % 9223372036854775808) : ∃ s t, Ieee.double.read b = .nan s t := by
  unfold infN at h
  unfold Ieee.Format.read
  simp only [dSign, dBinade, dInf]
  unfold signN expN infN
  rw [if_neg (by omega), if_neg (by omega), if_neg (by omega)]
  exact ⟨_, _, rfl⟩
theorem neg_eq {b : Nat} (hb : b < 18446744073709551616) : (b / 9223372036854775808 % 2 == 1) = decide (9223372036854775808 ≤ b) := by
  rw [Bool.eq_iff_iff]
  simp
  omega
theorem read_inf {b : Nat} (hb : b < 18446744073709551616) (h : b % 9223372036854775808 = infN) : Ieee.double.read b = .infinity (decide (9223372036854775808 ≤ b)) := by
  unfold infN at h
  unfold Ieee.Format.read
  simp only [dSign, dBinade, dInf]
  unfold signN expN infN
  rw [if_neg (by omega), if_neg (by omega), if_pos (by omega), neg_eq hb]
theorem read_num {b : Nat} (hb : b < 18446744073709551616) (h : b % 9223372036854775808 < infN) : ∃ m q : Nat, Ieee.double.read b = .number (decide (9223372036854775808 ≤ b)) m ((q : Int) - 1074) ∧ m * 2 ^ q = oneN b := by
  unfold infN at h
  unfold Ieee.Format.read
  simp only [dSign, dBinade, dInf, dLeast]
  unfold signN expN infN
  rw [neg_eq hb]
  have e1 : b / 4503599627370496 % 2048 = b % 9223372036854775808 / 4503599627370496 := by omega
  by_cases h1 : b % 9223372036854775808 < 4503599627370496
  · rw [if_pos h1]
    refine ⟨_, 0, rfl, ?_⟩
    unfold oneN
    rw [e1, if_pos (by omega)]
    congr 1
    omega
  · rw [if_neg h1, if_pos (by omega)]
    refine ⟨4503599627370496 + b % 9223372036854775808 % 4503599627370496, b % 9223372036854775808 / 4503599627370496 - 1, ?_, ?_⟩
    · congr 1
    · unfold oneN
      rw [e1, if_neg (by omega)]
      congr 1
      omega
theorem round_lt (N : Nat) : roundN N < 9223372036854775808 := Nat.lt_of_le_of_lt (roundN_le N) (by decide)
theorem sign_or (N : Nat) : signN ||| roundN N = signN + roundN N := by
  rw [Nat.or_comm]
  have := or_sign (round_lt N)
  unfold signN
  omega

/-- Two numbers, as whole numbers of the least unit. -/
theorem sum_num {s t : Bool} {m n q r : Nat} :
    ∃ v : Int, ∃ p : Nat, ∃ neg : Bool, Ieee.Datum.sum (.number s m ((q : Int) - 1074)) (.number t n ((r : Int) - 1074)) = some (.number neg v.natAbs ((p : Int) - 1074)) ∧ neg = (if v = 0 then s && t else decide (v < 0))
      ∧ v * 2 ^ p = (if s then -((m * 2 ^ q : Nat) : Int) else (m * 2 ^ q : Nat)) + (if t then -((n * 2 ^ r : Nat) : Int) else (n * 2 ^ r : Nat)) := by
  have eb : min ((q : Int) - 1074) ((r : Int) - 1074) = ((min q r : Nat) : Int) - 1074 := by omega
  have e1 : ((q : Int) - 1074 - (((min q r : Nat) : Int) - 1074)).toNat = q - min q r := by omega
  have e2 : ((r : Int) - 1074 - (((min q r : Nat) : Int) - 1074)).toNat = r - min q r := by omega
  refine ⟨Ieee.signed s m (q - min q r) + Ieee.signed t n (r - min q r), min q r, _, by unfold Ieee.Datum.sum; simp only [eb, e1, e2], rfl, ?_⟩
  have f : ∀ (s : Bool) (m q p : Nat), p ≤ q → Ieee.signed s m (q - p) * 2 ^ p = (if s then -((m * 2 ^ q : Nat) : Int) else (m * 2 ^ q : Nat)) := fun s m q p hp => by
    have e : m <<< (q - p) * 2 ^ p = m * 2 ^ q := by rw [Nat.shiftLeft_eq, Nat.mul_assoc, ← Nat.pow_add, Nat.sub_add_cancel hp]
    unfold Ieee.signed
    cases s
    · show ((m <<< (q - p) : Nat) : Int) * 2 ^ p = ((m * 2 ^ q : Nat) : Int)
      rw [← e]
      push_cast
      rfl
    · show -((m <<< (q - p) : Nat) : Int) * 2 ^ p = -((m * 2 ^ q : Nat) : Int)
      rw [← e]
      push_cast
      rw [Int.neg_mul]
  rw [Int.add_mul, f s m q _ (by omega), f t n r _ (by omega)]

end Go.Proofs.Ytnngbbiajioghaa
namespace Go.Proofs.Ytnngbbiajioghaa
open Go.Av Go.Proofs
set_option exponentiation.threshold 4000
set_option maxRecDepth 20000

/-! Sums of two numbers as by the machine: the law. -/
theorem one_n {b : Nat} (hb : b < 18446744073709551616) (h : b % 9223372036854775808 < infN) :
    (oneS b).nan = false ∧ (oneS b).plus = false ∧ (oneS b).minus = false ∧ ((oneS b).zero = if b = 9223372036854775808 then 1 else 2) ∧
      ∃ c : Int, ((oneS b).n : Int) = (if 9223372036854775808 ≤ b then -((oneN b : Nat) : Int) else (oneN b : Nat)) + c * (big : Nat) := by
  have hlt := oneN_lt (b := b) (by omega)
  have hbig : (2 : Nat) ^ 2098 < 2 ^ 2304 := Nat.pow_lt_pow_right (by decide) (by decide)
  unfold oneS
  rw [if_neg (by omega), if_neg (by omega)]
  by_cases h1 : b = 9223372036854775808
  · rw [if_pos h1, if_pos h1]
    refine ⟨rfl, rfl, rfl, rfl, 0, ?_⟩
    subst h1
    show ((0 : Nat) : Int) = _
    have : oneN 9223372036854775808 = 0 := by decide +kernel
    rw [this]
    simp
  · rw [if_neg h1, if_neg h1]
    refine ⟨rfl, rfl, rfl, rfl, ?_⟩
    by_cases h2 : 9223372036854775808 ≤ b
    · rw [if_pos h2]
      refine ⟨1, ?_⟩
      rw [if_pos h2]
      show ((2 ^ 2304 - oneN b : Nat) : Int) = _
      unfold big
      omega
    · rw [if_neg h2]
      refine ⟨0, ?_⟩
      rw [if_neg h2]
      show ((oneN b : Nat) : Int) = _
      simp

theorem word_eq (neg : Bool) (r : Nat) : Ieee.double.word neg r = (if neg then signN else 0) + r := by
  unfold Ieee.Format.word
  rw [dSign]
  cases neg <;> simp
theorem one_inf {b : Nat} (h : b % 9223372036854775808 = infN) : oneS b = ⟨0, false, decide (¬ 9223372036854775808 ≤ b), decide (9223372036854775808 ≤ b), 2⟩ := by
  unfold oneS
  rw [if_neg (by omega), if_pos h]
theorem one_nan {b : Nat} (h : infN < b % 9223372036854775808) : oneS b = ⟨0, true, false, false, 2⟩ := by
  unfold oneS
  rw [if_pos h]
theorem value_nan {s : St} (h : s.nan = true) : s.value = nanN := by
  unfold St.value
  rw [if_pos (.inl h)]
theorem value_both {s : St} (h : s.plus = true) (g : s.minus = true) : s.value = nanN := by
  unfold St.value
  rw [if_pos (.inr ⟨h, g⟩)]
theorem value_plus {s : St} (f : s.nan = false) (h : s.plus = true) (g : s.minus = false) : s.value = infN := by
  unfold St.value
  rw [f, h, g]
  rfl
theorem value_minus {s : St} (f : s.nan = false) (h : s.plus = false) (g : s.minus = true) : s.value = signN + infN := by
  unfold St.value
  rw [f, h, g]
  rfl
theorem value_num {s : St} (f : s.nan = false) (h : s.plus = false) (g : s.minus = false) : s.value = if s.zero = 1 then signN else if 2 ^ 2303 ≤ s.n then signN + roundN (2 ^ 2304 - s.n) else roundN s.n := by
  unfold St.value
  rw [f, h, g, sign_or]
  simp

theorem add_num {a b : Nat} (ha : a < 18446744073709551616) (hb : b < 18446744073709551616) (ia : a % 9223372036854775808 < infN) (ib : b % 9223372036854775808 < infN) :
    ∃ r, Ieee.double.add a b = some r ∧ (comb (oneS a) (oneS b)).value = r ∧ ¬ infN < r % 9223372036854775808 := by
  obtain ⟨m, q, e1, f1⟩ := read_num ha ia
  obtain ⟨n, r, e2, f2⟩ := read_num hb ib
  obtain ⟨v, p, neg, e3, e4, e5⟩ := sum_num (s := decide (9223372036854775808 ≤ a)) (t := decide (9223372036854775808 ≤ b)) (m := m) (n := n) (q := q) (r := r)
  obtain ⟨a1, a2, a3, a4, c, a5⟩ := one_n ha ia
  obtain ⟨b1, b2, b3, b4, d, b5⟩ := one_n hb ib
  have la := oneN_lt (b := a) (by omega)
  have lb := oneN_lt (b := b) (by omega)
  have za : 9223372036854775808 ≤ a → oneN a = 0 → a = 9223372036854775808 := fun h h0 => by
    have := oneN_pos (b := a)
    omega
  have zb : 9223372036854775808 ≤ b → oneN b = 0 → b = 9223372036854775808 := fun h h0 => by
    have := oneN_pos (b := b)
    omega
  have z0 : oneN 9223372036854775808 = 0 := by decide +kernel
  rw [f1, f2] at e5
  simp only [decide_eq_true_eq] at e5
  unfold Ieee.Format.add
  rw [e1, e2, e3]
  refine ⟨_, rfl, ?_⟩
  have hv := value_num (s := comb (oneS a) (oneS b)) (show ((oneS a).nan || (oneS b).nan) = false by rw [a1, b1]; rfl) (show ((oneS a).plus || (oneS b).plus) = false by rw [a2, b2]; rfl) (show ((oneS a).minus || (oneS b).minus) = false by rw [a3, b3]; rfl)
  have hz : (comb (oneS a) (oneS b)).zero = max (if a = 9223372036854775808 then 1 else 2) (if b = 9223372036854775808 then 1 else 2) := by
    show max (oneS a).zero (oneS b).zero = _
    rw [a4, b4]
  have hn : ((comb (oneS a) (oneS b)).n : Int) = (v * 2 ^ p) % (big : Nat) := by
    show ((((oneS a).n + (oneS b).n) % big : Nat) : Int) = _
    rw [Int.natCast_emod, Int.natCast_add, a5, b5, e5, show ∀ x y z : Int, (x + c * z) + (y + d * z) = (x + y) + (c + d) * z from fun x y z => by rw [Int.add_mul]; omega, Int.add_mul_emod_self_right]
  rw [hv, hz]
  generalize (comb (oneS a) (oneS b)).n = N at *
  show _ = Ieee.double.nearest neg v.natAbs ((p : Int) - 1074) ∧ ¬ infN < Ieee.double.nearest neg v.natAbs ((p : Int) - 1074) % _
  have hT : (2 : Nat) ^ 2304 = 2 * 2 ^ 2303 := big_facts.2
  have hS : (2 : Nat) ^ 2098 + 2 ^ 2098 < 2 ^ 2303 := by
    rw [← Nat.two_mul, ← Nat.pow_succ']
    exact Nat.pow_lt_pow_right (by decide) (by decide)
  have hbig : big = 2 ^ 2304 := rfl
  rw [hbig] at hn
  by_cases v0 : v = 0
  · subst v0
    rw [Int.zero_mul] at e5 hn
    rw [Int.zero_emod] at hn
    have hN : N = 0 := by omega
    subst hN
    rw [if_pos rfl] at e4
    rw [show Ieee.double.nearest neg (0 : Int).natAbs ((p : Int) - 1074) = (if neg then signN else 0) + 0 from word_eq neg 0, if_neg (show ¬ 2 ^ 2303 ≤ 0 from Nat.not_le.2 (Nat.pow_pos (by decide))), round_zero]
    by_cases sa : 9223372036854775808 ≤ a
    · by_cases sb : 9223372036854775808 ≤ b
      · rw [decide_eq_true sa, decide_eq_true sb] at e4
        rw [if_pos sa, if_pos sb] at e5
        have xa := za sa (by omega)
        have xb := zb sb (by omega)
        rw [e4, if_pos xa, if_pos xb]
        exact ⟨rfl, by decide⟩
      · rw [decide_eq_false sb, Bool.and_false] at e4
        rw [e4, if_neg (show ¬ b = 9223372036854775808 by omega), if_neg (by split <;> decide)]
        exact ⟨rfl, by decide⟩
    · rw [decide_eq_false sa, Bool.false_and] at e4
      rw [e4, if_neg (show ¬ a = 9223372036854775808 by omega), if_neg (by split <;> decide)]
      exact ⟨rfl, by decide⟩
  · rw [if_neg v0] at e4
    have hne : ¬ max (if a = 9223372036854775808 then 1 else 2) (if b = 9223372036854775808 then 1 else 2) = 1 := fun h => by
      by_cases xa : a = 9223372036854775808
      · by_cases xb : b = 9223372036854775808
        · subst xa xb
          rw [z0] at e5
          have h1 : v * 2 ^ p = 0 := by rw [e5]; simp
          rcases Int.mul_eq_zero.1 h1 with h2 | h2
          · exact v0 h2
          · exact absurd h2 (Int.ne_of_gt (Int.pow_pos (by decide)))
        · rw [if_neg xb] at h
          revert h
          split <;> decide
      · rw [if_neg xa] at h
        revert h
        split <;> decide
    rw [if_neg hne, nearest_eq neg (by omega) p]
    have hw : v * 2 ^ p = if v < 0 then -((v.natAbs * 2 ^ p : Nat) : Int) else ((v.natAbs * 2 ^ p : Nat) : Int) := by
      split
      · rename_i h
        rw [Int.natCast_mul, Int.ofNat_natAbs_of_nonpos (by omega), Int.neg_mul, Int.neg_neg]
        simp
      · rename_i h
        rw [Int.natCast_mul, Int.natAbs_of_nonneg (by omega)]
        simp
    have hpos : 0 < v.natAbs * 2 ^ p := Nat.mul_pos (by omega) (Nat.pow_pos (by decide))
    rw [hw] at e5 hn
    have hr := roundN_le (v.natAbs * 2 ^ p)
    generalize v.natAbs * 2 ^ p = W at *
    have hb2 : ∀ x : Int, 0 ≤ x → x < ((2 ^ 2304 : Nat) : Int) → x % ((2 ^ 2304 : Nat) : Int) = x := fun x h1 h2 => Int.emod_eq_of_lt h1 h2
    have hm : ∀ x : Int, (-x) % ((2 ^ 2304 : Nat) : Int) = (((2 ^ 2304 : Nat) : Int) - x) % ((2 ^ 2304 : Nat) : Int) := fun x => by
      rw [show ((2 ^ 2304 : Nat) : Int) - x = -x + 1 * ((2 ^ 2304 : Nat) : Int) by omega, Int.add_mul_emod_self_right]
    have hsg : signN = 9223372036854775808 := rfl
    have hin : infN = 9218868437227405312 := rfl
    generalize (2 : Nat) ^ 2304 = B at *
    generalize (2 : Nat) ^ 2303 = T at *
    generalize (2 : Nat) ^ 2098 = S at *
    have hWS : W < S + S := by
      split at e5 <;> split at e5 <;> split at e5 <;> omega
    by_cases hv : v < 0
    · rw [if_pos hv, hm, hb2 _ (by omega) (by omega)] at hn
      rw [e4, decide_eq_true hv, if_pos rfl, if_pos (by omega), show B - N = W by omega]
      omega
    · rw [if_neg hv, hb2 _ (by omega) (by omega)] at hn
      rw [e4, decide_eq_false hv, if_neg (show ¬ T ≤ N by omega), show N = W by omega]
      simp only [Bool.false_eq_true, if_false, Nat.zero_add, true_and]
      omega

theorem add_value {a b : Nat} (ha : a < 18446744073709551616) (hb : b < 18446744073709551616) :
    match Ieee.double.add a b with
    | none => (comb (oneS a) (oneS b)).value = nanN
    | some r => (comb (oneS a) (oneS b)).value = r ∧ ¬ infN < r % 9223372036854775808 := by
  by_cases na : infN < a % 9223372036854775808
  · obtain ⟨s, t, e⟩ := read_nan na
    unfold Ieee.Format.add
    rw [e]
    exact value_nan (show ((oneS a).nan || (oneS b).nan) = true by rw [one_nan na]; rfl)
  by_cases nb : infN < b % 9223372036854775808
  · obtain ⟨s, t, e⟩ := read_nan nb
    unfold Ieee.Format.add
    rw [e, show Ieee.Datum.sum (Ieee.double.read a) (.nan s t) = none by cases Ieee.double.read a <;> rfl]
    exact value_nan (show ((oneS a).nan || (oneS b).nan) = true by rw [one_nan nb]; simp)
  have hi : ∀ s, Ieee.double.write (.infinity s) = (if s then signN else 0) + infN := fun s => by
    show Ieee.double.word s Ieee.double.infRung = _
    rw [word_eq, dInf]
  have hp : ¬ infN < infN % 9223372036854775808 := by decide
  have hm : ¬ infN < (signN + infN) % 9223372036854775808 := by decide
  by_cases ia : a % 9223372036854775808 = infN
  · have ea := read_inf ha ia
    have oa := one_inf ia
    by_cases ib : b % 9223372036854775808 = infN
    · have eb := read_inf hb ib
      have ob := one_inf ib
      unfold Ieee.Format.add
      rw [ea, eb, oa, ob]
      by_cases sa : 9223372036854775808 ≤ a <;> by_cases sb : 9223372036854775808 ≤ b
      · rw [decide_eq_true sa, decide_eq_true sb]
        exact ⟨(value_minus rfl (by simp [comb, sa, sb]) rfl).trans (hi true).symm, by rw [hi]; exact hm⟩
      · rw [decide_eq_true sa, decide_eq_false sb]
        exact value_both (by simp [comb, sb]) rfl
      · rw [decide_eq_false sa, decide_eq_true sb]
        exact value_both (by simp [comb, sa]) rfl
      · rw [decide_eq_false sa, decide_eq_false sb]
        exact ⟨(value_plus rfl (by simp [comb, sa, sb]) rfl).trans (hi false).symm, by rw [hi]; exact hp⟩
    · obtain ⟨b1, b2, b3, b4, d, b5⟩ := one_n hb (by omega)
      obtain ⟨n, r, e2, f2⟩ := read_num hb (by omega)
      unfold Ieee.Format.add
      rw [ea, e2, oa]
      by_cases sa : 9223372036854775808 ≤ a
      · rw [decide_eq_true sa]
        exact ⟨(value_minus (by simp [comb, b1]) (by simp [comb, sa, b2]) rfl).trans (hi true).symm, by rw [hi]; exact hm⟩
      · rw [decide_eq_false sa]
        exact ⟨(value_plus (by simp [comb, b1]) (by simp [comb, sa]) (by simp [comb, b3])).trans (hi false).symm, by rw [hi]; exact hp⟩
  · by_cases ib : b % 9223372036854775808 = infN
    · have eb := read_inf hb ib
      have ob := one_inf ib
      obtain ⟨b1, b2, b3, b4, d, b5⟩ := one_n ha (by omega)
      obtain ⟨n, r, e2, f2⟩ := read_num ha (by omega)
      unfold Ieee.Format.add
      rw [eb, e2, ob]
      by_cases sb : 9223372036854775808 ≤ b
      · rw [decide_eq_true sb]
        exact ⟨(value_minus (by simp [comb, b1]) (by simp [comb, sb, b2]) (by simp [comb])).trans (hi true).symm, by rw [hi]; exact hm⟩
      · rw [decide_eq_false sb]
        exact ⟨(value_plus (by simp [comb, b1]) (by simp [comb, sb]) (by simp [comb, b3])).trans (hi false).symm, by rw [hi]; exact hp⟩
    · obtain ⟨r, e, h⟩ := add_num ha hb (by omega) (by omega)
      rw [e]
      exact h

end Go.Proofs.Ytnngbbiajioghaa
