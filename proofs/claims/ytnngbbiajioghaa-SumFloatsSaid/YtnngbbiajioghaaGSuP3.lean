import Derived.Test.YtnngbbiajioghaaGSuW2
import Derived.Test.YtnngbbiajioghaaGSuE3
import Derived.Test.YtnngbbiajioghaaGSuR6
namespace Go.Proofs.Ytnngbbiajioghaa
open Go.Av Go.Proofs
set_option exponentiation.threshold 4000
set_option maxRecDepth 20000

/-! Sums, wherever they lie. -/
section
variable {P : Program} {k : Nat} {xs : List (IOper × List (Nat × Nat))} {pr : List (Nat × Nat)} {fr : Fr} {H : Heap} {K : Fr → Heap → Prop} {d : Nat} {gd : Option (Nat × Bool)}
theorem tsu1 {sz : Nat} {a : Operand} {g' i' row off s : Nat} {rows : List (List AV)} {r m : List AV} (h : RT P k xs ((d, (.agg m)) :: fr) H K) (hg : gok fr gd = some true := by rfl) (ha : ev fr a = .ptr g' i' row off := by rfl) (hh : hget H g' i' = some (.cells s rows) := by rfl) (hr : rows[row]? = some r := by first | rfl | assumption) (hp : Part r off sz m := by first | exact part_s _ | exact part_n _ | exact part_as _ _ | exact part_an _ _ | exact part_a _ _) : RT P k ((⟨some d, gd, .op (.load sz true a)⟩, pr) :: xs) fr H K := RT.o hg (dstep_ldP ha hh hr hp) (Keeps.refl _ _) h
theorem tsu2 {sz : Nat} {a : Operand} {r m : List AV} (h : RT P k xs ((d, (.agg m)) :: fr) H K) (hg : gok fr gd = some true := by rfl) (ha : ev fr a = .cptr r := by rfl) (hp : Part r 0 sz m := by first | exact part_ds _ _ | exact part_dn _ _ | exact part_a _ _ | exact part_s _) : RT P k ((⟨some d, gd, .op (.load sz true a)⟩, pr) :: xs) fr H K := RT.o hg (dstep_ldC ha hp) (Keeps.refl _ _) h
theorem tsu3 {sz : Nat} {a x : Operand} {g' i' row off s : Nat} {rows : List (List AV)} {r cs r' : List AV} (h : RT P k xs fr (hset H g' i' (.cells s (rows.set row r'))) K) (hg : gok fr gd = some true := by rfl) (ha : ev fr a = .ptr g' i' row off := by rfl) (hx : (ev fr x).cs = some cs := by rfl) (hh : hget H g' i' = some (.cells s rows) := by rfl) (hr : rows[row]? = some r := by first | rfl | assumption) (hl : cs.length = sz := by first | rfl | exact ws_len _ _ | exact St.row_len _ | exact St.acc_len _ _) (hp : Spl r off cs r' := by first | exact spl_s _ _ | exact spl_as _ _ _ | exact spl_a _ _ _ _ | exact spl_zw _ | exact spl_n _ _ | exact spl_nan _ _ | exact spl_plus _ _ | exact spl_minus _ _ | exact spl_zero _ _ | exact spl_an _ _ _ | exact spl_anan _ _ _ | exact spl_aplus _ _ _ | exact spl_aminus _ _ _ | exact spl_azero _ _ _) (kp : Keeps pr H (hset H g' i' (.cells s (rows.set row r'))) := by first | exact Keeps.refl _ _ | (repeat (first | exact trivial | refine And.intro rfl ?_))) : RT P k ((⟨none, gd, .op (.store sz a x)⟩, pr) :: xs) fr H K := RT.on hg (dstep_stP ha hx hh hr hl hp) kp h
theorem tsu4 (h : RT P k xs ((d, (.ptr H.length 0 0 0)) :: fr) (hset H H.length 0 (.cells 40 [s0.row])) K) (hg : gok fr gd = some true := by rfl) (kp : Keeps pr H (hset H H.length 0 (.cells 40 [s0.row])) := by first | exact Keeps.refl _ _ | (repeat (first | exact trivial | refine And.intro rfl ?_))) : RT P k ((⟨some d, gd, .op (.alloc [(36, .int .u64 0), (3, .bool false), (1, .int .i64 0)])⟩, pr) :: xs) fr H K := RT.o hg (dstep_al40) kp h
theorem tsu5 (h : RT P k xs ((d, (.ptr H.length 0 0 0)) :: fr) (hset H H.length 0 (.cells 41 [s0.acc false])) K) (hg : gok fr gd = some true := by rfl) (kp : Keeps pr H (hset H H.length 0 (.cells 41 [s0.acc false])) := by first | exact Keeps.refl _ _ | (repeat (first | exact trivial | refine And.intro rfl ?_))) : RT P k ((⟨some d, gd, .op (.alloc [(1, .bool false), (36, .int .u64 0), (3, .bool false), (1, .int .i64 0)])⟩, pr) :: xs) fr H K := RT.o hg (dstep_al41) kp h
theorem tsu6 {x : Operand} {z : Nat} {nz : Int} (h : RT P k xs ((d, (.agg (St.row (St.mk 0 false false false z)))) :: fr) H K) (hg : gok fr gd = some true := by rfl) (hx : ev fr x = .sc (.int .i64 nz) := by rfl) (hz : nz = (z : Int) := by first | with_reducible rfl | exact natlit _) : RT P k ((⟨some d, gd, .op (.build [(36, .int .u64 0), (3, .bool false), (1, .int .i64 0)] [(39, 1, x)])⟩, pr) :: xs) fr H K := RT.o hg (dstep_bz (by rw [hx, hz])) (Keeps.refl _ _) h
theorem tsu7 {x : Operand} {b : Bool} (h : RT P k xs ((d, (.agg (s0.acc b))) :: fr) H K) (hg : gok fr gd = some true := by rfl) (hx : ev fr x = .sc (.bool b) := by rfl) : RT P k ((⟨some d, gd, .op (.build [(1, .bool false), (36, .int .u64 0), (3, .bool false), (1, .int .i64 0)] [(0, 1, x)])⟩, pr) :: xs) fr H K := RT.o hg (dstep_b1 hx) (Keeps.refl _ _) h
theorem tsu8 {x1 x2 x3 x4 x5 : Operand} {n z : Nat} {a b c : Bool} (h : RT P k xs ((d, (.agg (St.row ⟨n, a, b, c, z⟩))) :: fr) H K) (hg : gok fr gd = some true := by rfl) (h1 : ev fr x1 = .agg (ws 36 (wd n)) := by rfl) (h2 : ev fr x2 = .sc (.bool a) := by rfl) (h3 : ev fr x3 = .sc (.bool b) := by rfl) (h4 : ev fr x4 = .sc (.bool c) := by rfl) (h5 : ev fr x5 = .sc (.int .i64 (z : Int)) := by rfl) : RT P k ((⟨some d, gd, .op (.build [(36, .int .u64 0), (3, .bool false), (1, .int .i64 0)] [(0, 36, x1), (36, 1, x2), (37, 1, x3), (38, 1, x4), (39, 1, x5)])⟩, pr) :: xs) fr H K := RT.o hg (dstep_b5 h1 h2 h3 h4 h5) (Keeps.refl _ _) h
theorem tsu9 {x : Operand} {cs : List AV} {n : Nat} (h : RT P k xs ((d, (.ptr H.length 0 0 0)) :: fr) (hset H H.length 0 (.cells n [cs])) K) (hg : gok fr gd = some true := by rfl) (hx : ev fr x = .agg cs := by rfl) (h1 : cs.all AV.cell1 = true := by first | exact St.row_cell1 _ | exact St.acc_cell1 _ _ | exact ws_cell1 _ _) (hn : cs.length = n := by first | exact St.row_len _ | exact St.acc_len _ _ | exact ws_len _ _) (kp : Keeps pr H (hset H H.length 0 (.cells n [cs])) := by first | exact Keeps.refl _ _ | (repeat (first | exact trivial | refine And.intro rfl ?_))) : RT P k ((⟨some d, gd, .op (.box x)⟩, pr) :: xs) fr H K := RT.o hg (dstep_bx hx h1 hn) kp h
theorem twr11 {n : Nat} {x ix : Operand} {kd : IntKind} {q g' i' row : Nat} (h : RT P k xs ((d, .ptr g' i' row q) :: fr) H K) (hg : gok fr gd = some true := by rfl) (hx : ev fr x = .ptr g' i' row 0 := by rfl) (hi : ev fr ix = .sc (.int kd (q : Int)) := by rfl) (hq : q < n := by first | assumption | omega) : RT P k ((⟨some d, gd, .op (.idxArr n 1 x ix)⟩, pr) :: xs) fr H K := RT.o hg (dstep_idxArr1 hx hi hq) (Keeps.refl _ _) h
end
theorem walkLS {G G' : Prop} (h : G') (t : Boxed G' → G := by intro hw9; (repeat (first | refine LP.t0 ?_ | refine LP.t1 ?_ | refine LP.t2 ?_ | refine LP.c ?_ | refine RT.nil ?_ | refine LP.z ?_ | refine tsu1 ?_ | refine tsu2 ?_ | refine tsu3 ?_ | refine tsu4 ?_ | refine tsu5 ?_ | refine tsu6 ?_ | refine tsu7 ?_ | refine tsu8 ?_ | refine tsu9 ?_ | refine tv1 ?_ | refine tv2 ?_ | refine tv5 ?_ | refine tv6 ?_ | refine tv9 ?_ | refine tv10 ?_ | refine tr1 ?_ | refine tr2 ?_ | refine tr3 ?_ | refine tr4 ?_ | refine tr5 ?_ | refine tr6 ?_ | refine tr7 ?_ | refine tr8 ?_ | refine tr9 ?_ | refine tr10 ?_ | refine twr11 ?_ )); exact hw9.out) : G := t ⟨h⟩
theorem walkS0 {G G' : Prop} (h : G') (t : Boxed G' → G := by intro hw9; (repeat (first | refine su1 ?_ | refine su2 ?_ | refine su3 ?_ | refine su4 ?_ | refine su5 ?_ | refine su6 ?_ | refine su7 ?_ | refine su8 ?_ | refine su9 ?_ | refine sd1 ?_ | refine sd2 ?_ | refine sd3 ?_ | refine sd4 ?_ | refine sd5 ?_ | refine sd6 ?_ | refine sd7 ?_ | refine sd8 ?_ | refine sd9 ?_ | (first | refine wr13 ?_ | refine wd13 ?_ | refine wr14 ?_ | refine wv1 ?_ | refine wv2 ?_ | refine wv3 ?_ | refine wv4 ?_ | refine wv5 ?_ | refine wv6 ?_ | refine wv7 ?_ | refine wv8 ?_ | refine wv9 ?_ | refine wv10 ?_ | refine wr1 ?_ | refine wr2 ?_ | refine wr3 ?_ | refine wr4 ?_ | refine Reg.nil ?_ | refine wd1 ?_ | refine wd2 ?_ | refine wd3 ?_ | refine wd4 ?_ | refine AWP.seq ?_ | refine AWP.region ?_ | refine AWP.condT rfl ?_ | refine AWP.condF rfl ?_ | refine AWP.skip ?_ | refine AWP.ret ?_ | refine AWP.exit ?_ | refine AWP.block ?_ | refine wr5 ?_ | refine wr6 ?_ | refine wr7 ?_ | refine wr8 ?_ | refine wr9 ?_ | refine wr10 ?_ | refine wd5 ?_ | refine wd6 ?_ | refine wd7 ?_ | refine wd8 ?_ | refine wd9 ?_ | refine wd10 ?_ | refine wr11 ?_ | refine wr12 ?_ | refine wd11 ?_ | refine wd12 ?_ ))); exact hw9.out) : G := t ⟨h⟩

theorem hset_new : ∀ (H : Heap) (x : Blk), hset H H.length 0 x = H ++ [[x]]
  | [], x => rfl
  | f :: H, x => by
    show f :: hset H H.length 0 x = _
    rw [hset_new H x]; rfl
theorem hset_new2 : ∀ (H : Heap) (x y : Blk), hset (H ++ [[x]]) H.length 0 y = H ++ [[y]]
  | [], x, y => rfl
  | f :: H, x, y => by
    show f :: hset (H ++ [[x]]) H.length 0 y = _
    rw [hset_new2 H x y]; rfl
theorem hget_new (H : Heap) (x : Blk) : hget (H ++ [[x]]) H.length 0 = some x := by
  rw [hget_append, if_pos rfl]; rfl

/-- A sum that is not valid. -/
def NV (H : Heap) (a : AV) : Prop := a = .sc (.pointer none) ∨ ∃ g i s, a = .ptr g i 0 0 ∧ hget H g i = some (.cells 41 [St.acc false s])
/-- .. and one that is. -/
def VA (H : Heap) (a : AV) (s : St) : Prop := ∃ g i, a = .ptr g i 0 0 ∧ hget H g i = some (.cells 41 [St.acc true s])

theorem inval_ok {H : Heap} {a : AV} (h : NV H a) : CallOK Try.prog 60 [a] H fun res H' => res = .sc (.bool false) ∧ H' = H := by
  rcases h with rfl | ⟨g, i, s, rfl, hx⟩
  · exact valid_nil.callOK H
  · exact look_at hx (valid_ok false s)
theorem va_ok {H : Heap} {a : AV} {s : St} (h : VA H a s) : CallOK Try.prog 60 [a] H fun res H' => res = .sc (.bool true) ∧ H' = H := by
  obtain ⟨g, i, rfl, hx⟩ := h
  exact look_at hx (valid_ok true s)

theorem nv_encode {H : Heap} {a : AV} (h : NV H a) : CallOK Try.prog 23 [a] H fun res H' => res = .tup [.sc (.slice none 0 0), .sc (.int .i64 1)] ∧ H' = H := by
  have hv := inval_ok h
  rcases h with rfl | ⟨g, i, s, rfl, hx⟩
  all_goals
    refine CallOK.of cF23 ?_ (Nat.le_of_ble_eq_true rfl)
    refine walkSuT12 ?_
    refine Reg.c (Nat.le_refl _) rfl (hv.mono ?_)
    rintro res H' ⟨rfl, rfl⟩
    refine walkSuT12 ?_
    exact ⟨.inr rfl, _, _, _, rfl, .refl _ _ _, rfl, rfl⟩
theorem nv_value {H : Heap} {a : AV} (h : NV H a) : CallOK Try.prog 24 [a] H fun res H' => res = .sc (.int .u64 0) ∧ H' = H := by
  have hv := inval_ok h
  rcases h with rfl | ⟨g, i, s, rfl, hx⟩
  all_goals
    refine CallOK.of cF24 ?_ (Nat.le_of_ble_eq_true rfl)
    refine walkSuT12 ?_
    refine Reg.c (Nat.le_refl _) rfl (hv.mono ?_)
    rintro res H' ⟨rfl, rfl⟩
    refine walkSuT12 ?_
    exact ⟨.inr rfl, _, _, _, rfl, .refl _ _ _, rfl, rfl⟩
theorem nv_copy {H : Heap} {a : AV} (h : NV H a) : CallOK Try.prog 38 [a] H fun res H' => res = .sc (.pointer none) ∧ H' = H := by
  have hv := inval_ok h
  rcases h with rfl | ⟨g, i, s, rfl, hx⟩
  all_goals
    refine CallOK.of cF38 ?_ (Nat.le_of_ble_eq_true rfl)
    refine walkSuT12 ?_
    refine Reg.c (Nat.le_refl _) rfl (hv.mono ?_)
    rintro res H' ⟨rfl, rfl⟩
    refine walkSuT12 ?_
    exact ⟨.inr rfl, _, _, _, rfl, .refl _ _ _, rfl, rfl⟩
theorem nv_add {H : Heap} {a : AV} (h : NV H a) (b : Int) : CallOK Try.prog 28 [a, .sc (.int .u64 b)] H fun res H' => res = .sc (.int .i64 1) ∧ H' = H := by
  have hv := inval_ok h
  rcases h with rfl | ⟨g, i, s, rfl, hx⟩
  all_goals
    refine CallOK.of cF28 ?_ (Nat.le_of_ble_eq_true rfl)
    refine walkSuT12 ?_
    refine Reg.c (Nat.le_refl _) rfl (hv.mono ?_)
    rintro res H' ⟨rfl, rfl⟩
    refine walkSuT12 ?_
    exact ⟨.inr rfl, _, _, _, rfl, .refl _ _ _, rfl, rfl⟩
/-- A pointer, or nil. -/
def Pt (a : AV) : Prop := a = .sc (.pointer none) ∨ ∃ g i, a = .ptr g i 0 0
theorem NV.pt {H : Heap} {a : AV} (h : NV H a) : Pt a := h.imp_right fun ⟨g, i, _, e, _⟩ => ⟨g, i, e⟩
theorem VA.pt {H : Heap} {a : AV} {s : St} (h : VA H a s) : Pt a := let ⟨g, i, e, _⟩ := h; .inr ⟨g, i, e⟩
theorem nv_merge1 {H : Heap} {a b : AV} (h : NV H a) (hb : Pt b) : CallOK Try.prog 30 [a, b] H fun res H' => res = .sc (.int .i64 1) ∧ H' = H := by
  have hv := inval_ok h
  rcases h.pt with rfl | ⟨g, i, rfl⟩ <;> rcases hb with rfl | ⟨g2, i2, rfl⟩
  all_goals
    refine CallOK.of cF30 ?_ (Nat.le_of_ble_eq_true rfl)
    refine walkSuT12 ?_
    refine Reg.c (Nat.le_refl _) rfl (hv.mono ?_)
    rintro res H' ⟨rfl, rfl⟩
    refine walkSuT12 ?_
    exact ⟨.inr rfl, _, _, _, rfl, .refl _ _ _, rfl, rfl⟩
theorem nv_merge2 {H : Heap} {a b : AV} {s : St} (ha : VA H a s) (h : NV H b) : CallOK Try.prog 30 [a, b] H fun res H' => res = .sc (.int .i64 1) ∧ H' = H := by
  have hv := inval_ok h
  have hw := va_ok ha
  obtain ⟨g, i, rfl, _⟩ := ha
  rcases h.pt with rfl | ⟨g2, i2, rfl⟩
  all_goals
    refine CallOK.of cF30 ?_ (Nat.le_of_ble_eq_true rfl)
    refine walkSuT12 ?_
    refine Reg.c (Nat.le_refl _) rfl (hw.mono ?_)
    rintro res H' ⟨rfl, rfl⟩
    refine walkSuT12 ?_
    refine Reg.c (Nat.le_refl _) rfl (hv.mono ?_)
    rintro res H' ⟨rfl, rfl⟩
    refine walkSuT12 ?_
    exact ⟨.inr rfl, _, _, _, rfl, .refl _ _ _, rfl, rfl⟩
theorem nv_same1 {H : Heap} {a b : AV} (h : NV H a) (hb : Pt b) : CallOK Try.prog 29 [a, b] H fun res H' => res = .sc (.bool false) ∧ H' = H := by
  have hv := inval_ok h
  rcases h.pt with rfl | ⟨g, i, rfl⟩ <;> rcases hb with rfl | ⟨g2, i2, rfl⟩
  all_goals
    refine CallOK.of cF29 ?_ (Nat.le_of_ble_eq_true rfl)
    refine walkS0 ?_
    refine AWP.lin [(true, 0), (false, 1), (true, 2), (true, 3), (false, 4), (true, 5), (true, 6), (true, 7), (true, 8), (true, 9), (true, 10), (true, 11), (true, 12), (true, 13), (true, 14), (true, 15), (true, 16), (true, 17)] mixed (by kernel_rfl) (by kernel_rfl) ?_
    refine walkLS ?_
    refine RT.cc (Nat.le_refl _) rfl hv ?_
    rintro res H' ⟨rfl, rfl⟩
    refine ⟨Keeps.refl _ _, ?_⟩
    refine walkLS ?_
    refine walkSuT12 ?_
    exact ⟨.inr rfl, _, _, _, rfl, .refl _ _ _, rfl, rfl⟩
theorem nv_same2 {H : Heap} {a b : AV} {s : St} (ha : VA H a s) (h : NV H b) : CallOK Try.prog 29 [a, b] H fun res H' => res = .sc (.bool false) ∧ H' = H := by
  have hv := inval_ok h
  have hw := va_ok ha
  obtain ⟨g, i, rfl, _⟩ := ha
  rcases h.pt with rfl | ⟨g2, i2, rfl⟩
  all_goals
    refine CallOK.of cF29 ?_ (Nat.le_of_ble_eq_true rfl)
    refine walkS0 ?_
    refine AWP.lin [(true, 0), (false, 1), (true, 2), (true, 3), (false, 4), (true, 5), (true, 6), (true, 7), (true, 8), (true, 9), (true, 10), (true, 11), (true, 12), (true, 13), (true, 14), (true, 15), (true, 16), (true, 17)] mixed (by kernel_rfl) (by kernel_rfl) ?_
    refine walkLS ?_
    refine RT.cc (Nat.le_refl _) rfl hw ?_
    rintro res H' ⟨rfl, rfl⟩
    refine ⟨Keeps.refl _ _, ?_⟩
    refine walkLS ?_
    refine RT.cc (Nat.le_refl _) rfl hv ?_
    rintro res H' ⟨rfl, rfl⟩
    refine ⟨Keeps.refl _ _, ?_⟩
    refine walkLS ?_
    refine walkSuT12 ?_
    exact ⟨.inr rfl, _, _, _, rfl, .refl _ _ _, rfl, rfl⟩

theorem same_at {H : Heap} {g i g' i' : Nat} {s t : St} (hx : hget H g i = some (.cells 41 [s.acc true])) (hy : hget H g' i' = some (.cells 41 [t.acc true])) (hs : s.n < 2 ^ 2304) (ht : t.n < 2 ^ 2304) :
    CallOK Try.prog 29 [.ptr g i 0 0, .ptr g' i' 0 0] H fun res H' => res = .sc (.bool (s.eqb t)) ∧ H' = H := by
  refine CallOK.of cF29 ?_ (Nat.le_of_ble_eq_true rfl)
  refine walkS0 ?_
  refine AWP.lin [(true, 0), (false, 1), (true, 2), (true, 3), (false, 4), (true, 5), (true, 6), (true, 7), (true, 8), (true, 9), (true, 10), (true, 11), (true, 12), (true, 13), (true, 14), (true, 15), (true, 16), (true, 17)] mixed (by kernel_rfl) (by kernel_rfl) ?_
  refine walkLS ?_
  refine RT.cc (Nat.le_refl _) rfl (look_at hx (valid_ok true s)) ?_
  rintro res H' ⟨rfl, rfl⟩
  refine ⟨Keeps.refl _ _, ?_⟩
  refine walkLS ?_
  refine RT.cc (Nat.le_refl _) rfl (look_at hy (valid_ok true t)) ?_
  rintro res H' ⟨rfl, rfl⟩
  refine ⟨Keeps.refl _ _, ?_⟩
  refine walkLS ?_
  refine tsu1 ?_ (hh := hx)
  refine walkLS ?_
  refine tsu1 ?_ (hh := hy)
  refine RT.nil ?_
  refine LP.t0 ?_
  refine RT.o rfl (dstep_eqSt (s := s) (t := t) rfl rfl hs ht) (Keeps.refl _ _) ?_
  refine walkLS ?_
  refine walkSuT12 ?_
  exact ⟨.inr rfl, _, _, _, rfl, .refl _ _ _, by simp, rfl⟩

theorem merge2_at {H : Heap} {g i g' i' : Nat} {a s : St} (hx : hget H g i = some (.cells 41 [a.acc true])) (hy : hget H g' i' = some (.cells 41 [s.acc true])) :
    CallOK Try.prog 30 [.ptr g i 0 0, .ptr g' i' 0 0] H fun res H' => res = .sc (.int .i64 (mergeR a s).1) ∧ H' = hset H g i (.cells 41 [(mergeR a s).2.acc true]) := by
  refine CallOK.of cF30 ?_ (Nat.le_of_ble_eq_true rfl)
  refine walkSuT12 ?_
  refine Reg.c (Nat.le_refl _) rfl ((look_at hx (valid_ok true a)).mono ?_)
  rintro res H' ⟨rfl, rfl⟩
  refine walkSuT12 ?_
  refine Reg.c (Nat.le_refl _) rfl ((look_at hy (valid_ok true s)).mono ?_)
  rintro res H' ⟨rfl, rfl⟩
  refine walkSuT12 ?_
  refine su1 ?_ (hh := hy)
  refine walkSuT12 ?_
  refine Reg.c (Nat.le_refl _) rfl ((merge_at hx s).mono ?_)
  rintro res H' ⟨rfl, rfl⟩
  refine walkSuT12 ?_
  exact ⟨.inr rfl, _, _, _, rfl, .refl _ _ _, rfl, rfl⟩

theorem copy_at {H : Heap} {g i : Nat} {s : St} (hx : hget H g i = some (.cells 41 [s.acc true])) : CallOK Try.prog 38 [.ptr g i 0 0] H fun res H' => res = .ptr H.length 0 0 0 ∧ H' = H ++ [[.cells 41 [s.acc true]]] := by
  refine CallOK.of cF38 ?_ (Nat.le_of_ble_eq_true rfl)
  refine walkSuT12 ?_
  refine Reg.c (Nat.le_refl _) rfl ((look_at hx (valid_ok true s)).mono ?_)
  rintro res H' ⟨rfl, rfl⟩
  refine walkSuT12 ?_
  refine su1 ?_ (hh := hx)
  refine walkSuT12 ?_
  rw [hset_new]
  refine su3 ?_ (hh := hget_new _ _)
  refine walkSuT12 ?_
  rw [hset_new2]
  exact ⟨.inr rfl, _, _, _, rfl, .refl _ _ _, rfl, rfl⟩

end Go.Proofs.Ytnngbbiajioghaa
namespace Go.Proofs.Ytnngbbiajioghaa
open Go.Av Go.Proofs
set_option exponentiation.threshold 4000
set_option maxRecDepth 20000

/-! Operations are commutative and associative. -/

theorem sg_cases {b : Nat} (h : b < 18446744073709551616) : sg b = if b < 9223372036854775808 then (b : Int) else (b : Int) - 18446744073709551616 := by
  have hb : IntKind.i64.bits = 64 := rfl
  have hs : IntKind.i64.signed = true := rfl
  unfold sg
  simp only [IntKind.wrap, hb, hs]
  simp
  split <;> split <;> omega
theorem sg_inj {a b : Nat} (ha : a < 18446744073709551616) (hb : b < 18446744073709551616) (h : sg a = sg b) : a = b := by
  rw [sg_cases ha, sg_cases hb] at h
  split at h <;> split at h <;> omega

theorem cmpI_neg (x y : Int) : cmpI x y < 0 ↔ x < y := cmpI_lt x y
theorem cmpI_zero (x y : Int) : cmpI x y = 0 ↔ x = y := by
  unfold cmpI
  split
  · omega
  · split <;> omega
theorem cmpI_pos (x y : Int) : 0 < cmpI x y ↔ y < x := by
  unfold cmpI
  split
  · omega
  · split <;> omega

/-- The one that comes first, by a number that tells all apart. -/
def minBy (f : Vl → Int) (a b : Vl) : Vl := if f b < f a then b else a
theorem minBy_comm {f : Vl → Int} {a b : Vl} (h : f a = f b → a = b) : minBy f a b = minBy f b a := by
  unfold minBy
  split <;> split
  · omega
  · rfl
  · rfl
  · exact h (by omega)
theorem minBy_assoc {f : Vl → Int} {a b c : Vl} : minBy f (minBy f a b) c = minBy f a (minBy f b c) := by
  unfold minBy
  repeat' split
  all_goals first | rfl | omega

/-- .. by two numbers. -/
def lexBy (f g : Vl → Int) (a b : Vl) : Vl := if f b < f a ∨ (f b = f a ∧ g b < g a) then b else a
theorem lexBy_comm {f g : Vl → Int} {a b : Vl} (h : f a = f b → g a = g b → a = b) : lexBy f g a b = lexBy f g b a := by
  unfold lexBy
  split <;> split
  · omega
  · rfl
  · rfl
  · exact h (by omega) (by omega)
theorem lexBy_assoc {f g : Vl → Int} {a b c : Vl} : lexBy f g (lexBy f g a b) c = lexBy f g a (lexBy f g b c) := by
  unfold lexBy
  repeat' split
  all_goals first | rfl | omega

theorem ordN_inj {a b : Nat} (ha : a < 18446744073709551616) (hb : b < 18446744073709551616) (h : ordN a = ordN b) : a = b := by
  unfold ordN at h
  split at h <;> split at h <;> omega
theorem quiet_id {a : Nat} (h : ¬ infN < a % 9223372036854775808) : quiet a = a := if_neg h

def fInt (v : Vl) : Int := sg v.1
def fIntN (v : Vl) : Int := - sg v.1
def fReal (v : Vl) : Int := (ordN v.1 : Int)
def fRealN (v : Vl) : Int := - (ordN v.1 : Int)
def fPl (v : Vl) : Int := v.2
abbrev nanV (v : Vl) : Prop := infN < v.1 % 9223372036854775808

theorem opR_min (a b : Vl) : opR 3 1 a b = minBy fInt a b := by
  unfold opR minBy fInt
  simp only [if_true, show ¬ (3 : Int) = 1 by decide, show ¬ (3 : Int) = 2 by decide, if_false, cmpI_neg]
theorem opR_max (a b : Vl) : opR 4 1 a b = minBy fIntN a b := by
  unfold opR minBy fIntN
  simp only [if_true, show ¬ (4 : Int) = 1 by decide, show ¬ (4 : Int) = 2 by decide, show ¬ (4 : Int) = 3 by decide, if_false, cmpI_neg]
  congr 1
  simp
theorem compareS_neg {a b : Nat} (ha : ¬ infN < a % 9223372036854775808) (hb : ¬ infN < b % 9223372036854775808) : compareS a b < 0 ↔ (ordN a : Int) < ordN b := by
  unfold compareS
  rw [quiet_id ha, quiet_id hb, cmpI_neg]
theorem opR_rmin {a b : Vl} (ha : ¬ nanV a) (hb : ¬ nanV b) : opR 3 2 a b = minBy fReal a b := by
  rw [opR_real3, if_neg (fun h => h.elim ha hb)]
  unfold minBy fReal
  simp only [compareS_neg hb ha]
theorem opR_rmax {a b : Vl} (ha : ¬ nanV a) (hb : ¬ nanV b) : opR 4 2 a b = minBy fRealN a b := by
  rw [opR_real4, if_neg (fun h => h.elim ha hb)]
  unfold minBy fRealN
  simp only [compareS_neg ha hb]
  congr 1
  simp
theorem opR_rnan {op : Int} (ho : op = 3 ∨ op = 4) {a b : Vl} (h : nanV a ∨ nanV b) : opR op 2 a b = (nanN, 0) := by
  rcases ho with rfl | rfl
  · rw [opR_real3, if_pos h]
  · rw [opR_real4, if_pos h]
theorem nanV_nan : nanV (nanN, 0) := by unfold nanV; decide
theorem minBy_or (f : Vl → Int) (a b : Vl) : minBy f a b = a ∨ minBy f a b = b := by
  unfold minBy
  split
  · exact .inr rfl
  · exact .inl rfl
theorem opR_minloc (a b : Vl) : opR 10 3 a b = lexBy fInt fPl a b := by
  unfold opR lexBy fInt fPl
  simp only [show ¬ (3 : Int) = 1 by decide, show ¬ (3 : Int) = 2 by decide, if_false, if_true]
  congr 1
  rw [locS_lt (.inl rfl)]
  refine propext ⟨fun h => ?_, fun h => ?_⟩ <;> omega
theorem opR_maxloc (a b : Vl) : opR 11 3 a b = lexBy fIntN fPl a b := by
  unfold opR lexBy fIntN fPl
  simp only [show ¬ (3 : Int) = 1 by decide, show ¬ (3 : Int) = 2 by decide, show ¬ (11 : Int) = 10 by decide, if_false]
  congr 1
  rw [locS_lt (.inr rfl)]
  refine propext ⟨fun h => ?_, fun h => ?_⟩ <;> omega

/-- What two sums know together. -/
def comb (a s : St) : St := ⟨(a.n + s.n) % big, a.nan || s.nan, a.plus || s.plus, a.minus || s.minus, max a.zero s.zero⟩
theorem comb_comm (a b : St) : comb a b = comb b a := by
  unfold comb
  rw [Nat.add_comm, Bool.or_comm, Bool.or_comm a.plus, Bool.or_comm a.minus, Nat.max_comm]
theorem comb_assoc (a b c : St) : comb (comb a b) c = comb a (comb b c) := by
  unfold comb
  simp only [Bool.or_assoc, Nat.max_assoc, Nat.add_assoc, Nat.mod_add_mod, Nat.add_mod_mod]
theorem comb_zero {a : St} (h : a.n < big) : comb s0 a = a := by
  unfold comb s0
  simp only [Bool.false_or, Nat.zero_max, Nat.zero_add, Nat.mod_eq_of_lt h]

/-- A number near 0, in two's complement. -/
def Sml (K : Nat) (s : St) : Prop := s.n < big ∧ (s.n ≤ K ∨ big ≤ s.n + K)
theorem Sml.comb {K L : Nat} {a b : St} (ha : Sml K a) (hb : Sml L b) : Sml (K + L) (comb a b) := by
  have := big_pos
  unfold Sml Go.Proofs.Ytnngbbiajioghaa.comb at *
  simp only
  generalize big = B at *
  refine ⟨Nat.mod_lt _ this, ?_⟩
  by_cases h : a.n + b.n < B
  · rw [Nat.mod_eq_of_lt h]; omega
  · rw [Nat.mod_eq_sub_mod (by omega), Nat.mod_eq_of_lt (by omega)]; omega
theorem Sml.mono {K L : Nat} {a : St} (ha : Sml K a) (h : K ≤ L) : Sml L a := ⟨ha.1, by have := ha.2; omega⟩
theorem blen_small {N : Nat} (h : N < 2 ^ 2240) : ¬ 2240 < blen N := by
  have := (blen_iff N 2240).2 h
  omega
theorem big_facts2 : 4 * 2 ^ 2240 ≤ 2 ^ 2303 ∧ big = 2 * 2 ^ 2303 := big_facts
theorem Sml.abs {K : Nat} {a : St} (ha : Sml K a) (hK : K < 2 ^ 2240) : absN a.n < 2 ^ 2240 := by
  obtain ⟨f1, f2⟩ := big_facts2
  unfold Sml at ha
  unfold absN
  rw [show (2 : Nat) ^ 2304 = big from rfl]
  generalize big = B at *
  generalize 2 ^ 2303 = C at *
  generalize 2 ^ 2240 = D at *
  split <;> omega
theorem mergeR_small {K L : Nat} {a b : St} (ha : Sml K a) (hb : Sml L b) (h : K + L < 2 ^ 2240) : mergeR a b = (0, comb a b) := by
  have h2 : ¬ 2240 < blen (absN ((a.n + b.n) % big)) := blen_small ((ha.comb hb).abs h)
  unfold mergeR mergeS
  rw [if_neg h2]
  rfl
theorem sml_zero : Sml 0 s0 := ⟨big_pos, .inl (Nat.le_refl _)⟩
def oneB : Nat := 2 ^ 2098
theorem sml_one {b : Nat} (hb0 : b < 18446744073709551616) : Sml oneB (oneS b) := by
  have hz : Sml 0 (St.mk 0 false false false 0) := ⟨big_pos, .inl (Nat.le_refl _)⟩
  unfold oneS
  split
  · exact ⟨big_pos, .inl (Nat.zero_le _)⟩
  · split
    · exact ⟨big_pos, .inl (Nat.zero_le _)⟩
    · split
      · exact ⟨big_pos, .inl (Nat.zero_le _)⟩
      · rename_i h1 h2 h3
        have hlt : oneN b < oneB := oneN_lt (by omega)
        have hb : oneB < big := Nat.pow_lt_pow_right (by decide) (by decide)
        by_cases hs : 9223372036854775808 ≤ b
        · rw [if_pos hs]
          have hpos : 0 < oneN b := by
            refine oneN_pos fun h0 => ?_
            unfold infN at *
            omega
          show big - oneN b < big ∧ (big - oneN b ≤ oneB ∨ big ≤ big - oneN b + oneB)
          clear h1 h2 h3
          generalize big = B at *
          generalize oneN b = x at *
          generalize oneB = y at *
          exact ⟨by omega, .inr (by omega)⟩
        · rw [if_neg hs]
          exact ⟨Nat.lt_trans hlt hb, .inl (Nat.le_of_lt hlt)⟩
theorem oneB_60 (k : Nat) (h : k ≤ 4096) : k * oneB < 2 ^ 2240 := by
  have h1 : k * oneB ≤ 2 ^ 12 * 2 ^ 2098 := Nat.mul_le_mul_right _ h
  rw [← Nat.pow_add] at h1
  exact Nat.lt_of_le_of_lt h1 (Nat.pow_lt_pow_right (by decide) (by decide))
theorem twoN_eq {a b : Nat} (ha : a < 18446744073709551616) (hb : b < 18446744073709551616) : twoN a b = (comb (oneS a) (oneS b)).value := by
  unfold twoN
  have h2 := oneB_60 2 (by decide)
  have h1 : mergeR s0 (oneS a) = (0, oneS a) := by
    rw [mergeR_small sml_zero (sml_one ha) (by omega), comb_zero (sml_one ha).1]
  rw [h1]
  simp only
  rw [mergeR_small (sml_one ha) (sml_one hb) (by omega)]
theorem twoN_comm {a b : Nat} (ha : a < 18446744073709551616) (hb : b < 18446744073709551616) : twoN a b = twoN b a := by rw [twoN_eq ha hb, twoN_eq hb ha, comb_comm]

/-- All that Check lets pass. -/
theorem check_cases {op kind : Int} (h : checkE op kind = 0) : (kind = 1 ∧ 1 ≤ op ∧ op ≤ 9) ∨ (kind = 2 ∧ (op = 1 ∨ op = 3 ∨ op = 4)) ∨ (kind = 3 ∧ (op = 10 ∨ op = 11)) := by
  have hn := check_op h
  unfold checkE at h
  split at h
  · cases h
  · rename_i hc
    rw [opNil_iff (by omega) (by omega) (by omega) (by omega)] at hn
    simp only [Bool.not_eq_false', Bool.or_eq_true, Bool.and_eq_true, decide_eq_true_eq] at hn
    omega

theorem opR_comm {op kind : Int} (hc : checkE op kind = 0) {a b : Vl} (ha : a.1 < 18446744073709551616) (hb : b.1 < 18446744073709551616) (pa : kind ≠ 3 → a.2 = 0) (pb : kind ≠ 3 → b.2 = 0) : opR op kind a b = opR op kind b a := by
  have e1 : kind ≠ 3 → a.1 = b.1 → a = b := fun hk h => Prod.ext h ((pa hk).trans (pb hk).symm)
  rcases check_cases hc with ⟨rfl, h1, h2⟩ | ⟨rfl, h1⟩ | ⟨rfl, h1⟩
  · have e2 : sg a.1 = sg b.1 → a = b := fun h => e1 (by decide) (sg_inj ha hb h)
    rcases (by omega : op = 1 ∨ op = 2 ∨ op = 3 ∨ op = 4 ∨ op = 5 ∨ op = 6 ∨ op = 7 ∨ op = 8 ∨ op = 9) with rfl | rfl | rfl | rfl | rfl | rfl | rfl | rfl | rfl
    · simp only [opR, if_true, Nat.add_comm]
    · unfold opR
      simp only [if_true, show ¬ (2 : Int) = 1 by decide, if_false]
      rw [Nat.mul_comm]
    · rw [opR_min, opR_min]; exact minBy_comm e2
    · rw [opR_max, opR_max]; exact minBy_comm fun h => e2 (by unfold fIntN at h; omega)
    · unfold opR
      simp (decide := true) only [if_true, if_false]
      rw [Nat.and_comm]
    · unfold opR
      simp (decide := true) only [if_true, if_false]
      rw [Nat.or_comm]
    · unfold opR
      simp (decide := true) only [if_true, if_false]
      rw [Nat.xor_comm]
    · unfold opR
      simp (decide := true) only [if_true, if_false]
      rw [Bool.and_comm]
    · unfold opR
      simp (decide := true) only [if_true, if_false]
      rw [Bool.or_comm]
  · rcases h1 with rfl | rfl | rfl
    · unfold opR
      simp (decide := true) only [if_true, if_false]
      rw [twoN_comm ha hb]
    · by_cases hn : nanV a ∨ nanV b
      · rw [opR_rnan (.inl rfl) hn, opR_rnan (.inl rfl) hn.symm]
      · rw [opR_rmin (fun h => hn (.inl h)) (fun h => hn (.inr h)), opR_rmin (fun h => hn (.inr h)) (fun h => hn (.inl h))]
        exact minBy_comm fun h => e1 (by decide) (ordN_inj ha hb (by unfold fReal at h; omega))
    · by_cases hn : nanV a ∨ nanV b
      · rw [opR_rnan (.inr rfl) hn, opR_rnan (.inr rfl) hn.symm]
      · rw [opR_rmax (fun h => hn (.inl h)) (fun h => hn (.inr h)), opR_rmax (fun h => hn (.inr h)) (fun h => hn (.inl h))]
        exact minBy_comm fun h => e1 (by decide) (ordN_inj ha hb (by unfold fRealN at h; omega))
  · rcases h1 with rfl | rfl
    · rw [opR_minloc, opR_minloc]
      exact lexBy_comm fun h1 h2 => Prod.ext (sg_inj ha hb h1) h2
    · rw [opR_maxloc, opR_maxloc]
      exact lexBy_comm fun h1 h2 => Prod.ext (sg_inj ha hb (by unfold fIntN at h1; omega)) h2

theorem opR_assoc {op kind : Int} (hc : checkE op kind = 0) (hs : ¬ (op = 1 ∧ kind = 2)) {a b c : Vl} : opR op kind (opR op kind a b) c = opR op kind a (opR op kind b c) := by
  rcases check_cases hc with ⟨rfl, h1, h2⟩ | ⟨rfl, h1⟩ | ⟨rfl, h1⟩
  · rcases (by omega : op = 1 ∨ op = 2 ∨ op = 3 ∨ op = 4 ∨ op = 5 ∨ op = 6 ∨ op = 7 ∨ op = 8 ∨ op = 9) with rfl | rfl | rfl | rfl | rfl | rfl | rfl | rfl | rfl
    · simp only [opR, if_true, Nat.mod_add_mod, Nat.add_mod_mod, Nat.add_assoc]
    · unfold opR
      simp (decide := true) only [if_true, if_false, Nat.mul_mod_mod, Nat.mod_mul_mod, Nat.mul_assoc]
    · simp only [opR_min]; exact minBy_assoc
    · simp only [opR_max]; exact minBy_assoc
    · unfold opR
      simp (decide := true) only [if_true, if_false, Nat.and_assoc]
    · unfold opR
      simp (decide := true) only [if_true, if_false, Nat.or_assoc]
    · unfold opR
      simp (decide := true) only [if_true, if_false, Nat.xor_assoc]
    · unfold opR
      simp (decide := true) only [if_true, if_false]
      by_cases x : a.1 = 0 <;> by_cases y : b.1 = 0 <;> by_cases z : c.1 = 0 <;> simp [x, y, z]
    · unfold opR
      simp (decide := true) only [if_true, if_false]
      by_cases x : a.1 = 0 <;> by_cases y : b.1 = 0 <;> by_cases z : c.1 = 0 <;> simp [x, y, z]
  · rcases h1 with rfl | h1
    · exact absurd ⟨rfl, rfl⟩ hs
    · have key : ∀ x y : Vl, (nanV x ∨ nanV y → opR op 2 x y = (nanN, 0)) ∧ (¬ nanV x → ¬ nanV y → ¬ nanV (opR op 2 x y)) := fun x y => by
        refine ⟨opR_rnan h1, fun hx hy => ?_⟩
        rcases h1 with rfl | rfl
        · rw [opR_rmin hx hy]
          rcases minBy_or fReal x y with e | e <;> rw [e] <;> assumption
        · rw [opR_rmax hx hy]
          rcases minBy_or fRealN x y with e | e <;> rw [e] <;> assumption
      by_cases na : nanV a
      · rw [(key a b).1 (.inl na), (key (nanN, 0) c).1 (.inl nanV_nan), (key a _).1 (.inl na)]
      · by_cases nb : nanV b
        · rw [(key a b).1 (.inr nb), (key (nanN, 0) c).1 (.inl nanV_nan), (key b c).1 (.inl nb), (key a _).1 (.inr nanV_nan)]
        · by_cases nc : nanV c
          · rw [(key _ c).1 (.inr nc), (key b c).1 (.inr nc), (key a _).1 (.inr nanV_nan)]
          · have n1 := (key a b).2 na nb
            have n2 := (key b c).2 nb nc
            rcases h1 with rfl | rfl
            · rw [opR_rmin n1 nc, opR_rmin na n2, opR_rmin na nb, opR_rmin nb nc]; exact minBy_assoc
            · rw [opR_rmax n1 nc, opR_rmax na n2, opR_rmax na nb, opR_rmax nb nc]; exact minBy_assoc
  · rcases h1 with rfl | rfl
    · simp only [opR_minloc]; exact lexBy_assoc
    · simp only [opR_maxloc]; exact lexBy_assoc

theorem opR_place' {op kind : Int} (hc : checkE op kind = 0) {a b : Vl} (pa : kind ≠ 3 → a.2 = 0) (pb : kind ≠ 3 → b.2 = 0) : kind ≠ 3 → (opR op kind a b).2 = 0 := fun hk =>
  opR_place hk (pa hk) (pb hk) (by rcases check_cases hc with h | h | h <;> omega)
theorem valid2 {kind : Int} {a b : Vl} (pa : kind ≠ 3 → a.2 = 0) (pb : kind ≠ 3 → b.2 = 0) : validS kind [a, b] = true := by
  unfold validS
  by_cases h : kind = 3
  · simp [h]
  · simp [h, pa h, pb h]
theorem doS_good {op kind : Int} (hc : checkE op kind = 0) {a b : Vl} (pa : kind ≠ 3 → a.2 = 0) (pb : kind ≠ 3 → b.2 = 0) : doS op kind a b = (opR op kind a b, 0) := by
  unfold doS
  rw [if_neg (by omega), valid2 pa pb, if_neg (by simp)]

end Go.Proofs.Ytnngbbiajioghaa
namespace Go.Proofs.Ytnngbbiajioghaa
open Go.Av Go.Proofs
set_option exponentiation.threshold 4000
set_option maxRecDepth 20000

/-! The document's sums, wherever they lie. -/
theorem part_r (r : Rs) : Part r.row 0 6 r.row := ⟨⟨[], by rw [List.append_nil]; rfl⟩, rfl⟩
theorem rrow_cell1 (r : Rs) : r.row.all AV.cell1 = true := rfl
theorem spl_r {l : List AV} (h : l.length = 6) (r : Rs) : Spl l 0 r.row r.row := spl_all (by rw [h]; rfl) (rrow_cell1 r)

theorem rmerge_at {H : Heap} {g i g' i' : Nat} {a s : Rs} (hx : hget H g i = some (.cells 6 [a.row])) (hy : hget H g' i' = some (.cells 6 [s.row])) (ha : nb a.N ≤ 1000) (hs : nb s.N ≤ 1000) :
    CallOK Try.prog 36 [.ptr g i 0 0, .ptr g' i' 0 0] H fun res H' => res = .sc (.int .i64 (mergedR a s).1) ∧ H' = hset H g i (.cells 6 [(mergedR a s).2.row]) := by
  refine CallOK.of cF36 ?_ (Nat.le_of_ble_eq_true rfl)
  refine walkSuT12 ?_
  refine su1 ?_ (hh := hy) (hp := part_r s)
  refine walkSuT12 ?_
  refine Reg.c (Nat.le_refl _) rfl ((merged_at hx s ha hs).mono ?_)
  rintro res H' ⟨rfl, rfl⟩
  refine walkSuT12 ?_
  exact ⟨.inr rfl, _, _, _, rfl, .refl _ _ _, rfl, rfl⟩

theorem rcopy_at {H : Heap} {g i : Nat} {s : Rs} (hx : hget H g i = some (.cells 6 [s.row])) : CallOK Try.prog 37 [.ptr g i 0 0] H fun res H' => res = .ptr H.length 0 0 0 ∧ H' = H ++ [[.cells 6 [s.row]]] := by
  refine CallOK.of cF37 ?_ (Nat.le_of_ble_eq_true rfl)
  refine walkSuT12 ?_
  refine su1 ?_ (hh := hx) (hp := part_r s)
  refine wr1 ?_
  rw [hset_new]
  refine su3 ?_ (hh := hget_new _ _) (hl := rfl) (hp := spl_r rfl s)
  refine walkSuT12 ?_
  rw [show ([zrow [(1, .bool false), (1, .slice none 0 0), (3, .bool false), (1, .int .i64 0)]] : List (List AV)).set 0 s.row = [s.row] from rfl, hset_new2]
  exact ⟨.inr rfl, _, _, _, rfl, .refl _ _ _, rfl, rfl⟩

/-- The document's bytes of a sum. -/
def rflags (r : Rs) : Nat := r.nan.toNat + 2 * r.plus.toNat + 4 * r.below.toNat + 8 * r.zero
def rencV (r : Rs) : AV := .list 1 ([u8c (rflags r)] :: [u8c r.minus.toNat] :: bR (nb r.N) r.N)
instance (r : Rs) : PV (rencV r) := ⟨.list _ _ fun q hq => by
  rcases List.mem_cons.1 hq with rfl | hq
  · exact pr [u8c _]
  · rcases List.mem_cons.1 hq with rfl | hq
    · exact pr [u8c _]
    · exact prs (bR (nb r.N) r.N) q hq⟩

set_option maxHeartbeats 4000000 in
theorem rencode_ok (r : Rs) (hN : nb r.N ≤ 1000) (hz : r.zero ≤ 2) : CallOK Try.prog 39 [.ptr 0 0 0 0] [[.cells 6 [r.row]]] fun res H' => res = rencV r ∧ H' = [[.cells 6 [r.row]]] := by
  refine CallOK.of cF39 ?_ (Nat.le_of_ble_eq_true rfl)
  have h1 := truth_ok r.nan
  have h2 := truth_ok r.plus
  have h3 := truth_ok r.below
  have h4 := truth_ok r.minus
  have e0 := bR_len (nb r.N) r.N
  have b1 : r.nan.toNat ≤ 1 := Bool.toNat_le _
  have b2 : r.plus.toNat ≤ 1 := Bool.toNat_le _
  have b3 : r.below.toNat ≤ 1 := Bool.toNat_le _
  have b4 : r.minus.toNat ≤ 1 := Bool.toNat_le _
  unfold rencV rflags
  generalize r.nan.toNat = n1 at *
  generalize r.plus.toNat = n2 at *
  generalize r.below.toNat = n3 at *
  generalize r.minus.toNat = n4 at *
  refine walkX ?_
  refine DK.nil ⟨by kernel_rfl, ?_⟩
  refine walkX ?_
  (refine endH [[(0,0)]] (by first | exact .inr rfl | exact .inl rfl) rfl ⟨rfl, rfl⟩ ?_ ?_ rfl rfl rfl; all_goals (repeat' (first | exact ToAll.nil | exact famsTo.nil | exact famTo.nil | exact ToL.nil | exact ToR.nil | refine ToAll.cons ?_ ?_ | refine famsTo.cons ?_ ?_ | refine wt10 ?_ ?_ | exact To.undef _ | exact To.sc _ | exact To.hslL rfl rfl | exact To.ptrO rfl rfl rfl | exact To.mrefO rfl | exact To.nil rfl rfl rfl | exact wt1 | exact To.nilL | refine To.int ?_ | refine To.bool ?_ | refine To.hslL rfl ?_ | refine wt2 rfl ?_ ?_ ?_ | refine To.tupL ?_ | refine To.aggL ?_ | refine To.cptrL ?_ | refine wt3 ?_ | refine wt4 ?_ | refine To.cloL ?_ ?_ | exact wt5 | refine wt6 ?_ | refine ToB.one ?_ | exact wt7 | ((with_reducible apply ToL.consE); case e9 => rfl) | refine wt8 ?_ | refine ToL.cons ?_ ?_ | exact wt11 | refine wt9 ?_ ?_ | refine wt12 ?_ | (with_reducible rfl) | assumption)); all_goals (first | rfl | assumption | (simp; done) | (simp; omega) | (rw [wrap_small (by omega) (by omega)]; done) | (rw [wrap_small (by omega) (by omega)]; omega) | (refine congrArg Nat.cast ?_; assumption) | skip))

theorem rencode_at {H : Heap} {g i : Nat} {r : Rs} (hx : hget H g i = some (.cells 6 [r.row])) (hN : nb r.N ≤ 1000) (hz : r.zero ≤ 2) : CallOK Try.prog 39 [.ptr g i 0 0] H fun res H' => res = rencV r ∧ H' = hset H g i (.cells 6 [r.row]) := by
  refine (CallOK.via1 (args := [.ptr g i 0 0]) (R := fun res y => res = rencV r ∧ y = .cells 6 [r.row]) g i ((rencode_ok r hN hz).mono ?_) hx (pureB_rrow _) ⟨.ptr _ _ _ _ _ _ rfl, trivial⟩).mono ?_
  · rintro res H' ⟨rfl, rfl⟩
    exact ⟨_, rfl, pv _, pureB_rrow _, rfl, rfl⟩
  · rintro res H' ⟨y, rfl, rfl, rfl⟩
    exact ⟨rfl, rfl⟩

theorem rel_abs {s : St} {r : Rs} (h : Rel s r) : absN s.n = r.N ∧ (2 ^ 2303 ≤ s.n ↔ r.minus = true) ∧ s.n < 2 ^ 2304 := by
  obtain ⟨f1, f2⟩ := big_facts
  have h1 := h.n
  have h2 := h.lt
  have h3 := h.pos
  unfold absN
  rw [f2] at *
  generalize 2 ^ 2303 = P at *
  generalize 2 ^ 2240 = Q at *
  cases hm : r.minus with
  | true =>
    rw [hm, if_pos rfl] at h1
    have := h3 hm
    refine ⟨by rw [if_pos (by omega)]; omega, ⟨fun _ => rfl, fun _ => by omega⟩, by omega⟩
  | false =>
    rw [hm, if_neg (by simp)] at h1
    refine ⟨by rw [if_neg (by omega)]; omega, ⟨fun _ => by omega, fun h => by cases h⟩, by omega⟩

theorem rel_enc {s : St} {r : Rs} (h : Rel s r) : encV s = rencV r := by
  obtain ⟨h1, h2, h3⟩ := rel_abs h
  have e1 : flags s = rflags r := by
    unfold flags rflags
    rw [h.nan, h.plus, h.below, h.zero]
    cases r.nan <;> cases r.plus <;> cases r.below <;> rfl
  have e2 : flg (decide (2 ^ 2303 ≤ s.n)) 1 = r.minus.toNat := by
    cases hm : r.minus with
    | true => rw [decide_eq_true (h2.2 hm)]; rfl
    | false => rw [decide_eq_false (fun q => by rw [h2.1 q] at hm; cases hm)]; rfl
  unfold encV encR rencV
  rw [e1, e2, h1]

/-- Equal, for the document. -/
def rsame (a b : Rs) : Bool := (a.minus == b.minus) && (decide (a.N = b.N) && ((a.nan == b.nan) && ((a.plus == b.plus) && ((a.below == b.below) && decide (a.zero = b.zero)))))
theorem rel_same {s t : St} {a b : Rs} (h : Rel s a) (h' : Rel t b) : s.eqb t = rsame a b := by
  obtain ⟨a1, a2, a3⟩ := rel_abs h
  obtain ⟨b1, b2, b3⟩ := rel_abs h'
  have key : decide (s.n = t.n) = ((a.minus == b.minus) && decide (a.N = b.N)) := by
    rw [Bool.eq_iff_iff]
    simp only [Bool.and_eq_true, decide_eq_true_eq, beq_iff_eq]
    constructor
    · intro e
      rw [e] at a1 a2
      refine ⟨?_, by rw [← a1, ← b1]⟩
      cases ha : a.minus <;> cases hb : b.minus
      · rfl
      · exact absurd (a2.1 (b2.2 hb)) (by rw [ha]; simp)
      · exact absurd (b2.1 (a2.2 ha)) (by rw [hb]; simp)
      · rfl
    · rintro ⟨e1, e2⟩
      rw [h.n, h'.n, e1, e2]
  unfold St.eqb rsame
  rw [key, h.nan, h.plus, h.below, h.zero, h'.nan, h'.plus, h'.below, h'.zero, Bool.and_assoc]
  congr 6
  exact propext ⟨fun h => by omega, fun h => by omega⟩

theorem cmpN_zero (X Y : Nat) : (cmpN X Y == 0) = decide (X = Y) := by
  unfold cmpN
  rw [Bool.eq_iff_iff]
  simp only [decide_eq_true_eq, beq_iff_eq]
  repeat' split
  all_goals omega

set_option maxHeartbeats 4000000 in
theorem rsame_ok (a b : Rs) (ha : nb a.N ≤ 1000) (hb : nb b.N ≤ 1000) : PureRun Try.prog 40 [.cptr a.row, .cptr b.row] (.sc (.bool (rsame a b))) := by
  refine PureRun.mkI cF40 (Nat.le_of_ble_eq_true rfl) ?_
  have ho := order_ok (X := a.N) (Y := b.N) (by omega) (by omega)
  have hz := cmpN_zero a.N b.N
  unfold rsame
  rw [← hz]
  generalize cmpN a.N b.N = c at *
  clear hz ha hb
  refine walkX ?_
  generalize (a.minus == b.minus) = x1
  cases x1
  · refine walkX ?_
    refine DK.nil ⟨by kernel_rfl, ?_⟩
    refine walkX ?_
    exact EndP.w
  refine walkX ?_
  generalize (c == 0) = x2
  cases x2
  · refine walkX ?_
    refine DK.nil ⟨by kernel_rfl, ?_⟩
    refine walkX ?_
    exact EndP.w
  refine walkX ?_
  generalize (a.nan == b.nan) = x3
  cases x3
  · refine walkX ?_
    refine DK.nil ⟨by kernel_rfl, ?_⟩
    refine walkX ?_
    exact EndP.w
  refine walkX ?_
  generalize (a.plus == b.plus) = x4
  cases x4
  · refine walkX ?_
    refine DK.nil ⟨by kernel_rfl, ?_⟩
    refine walkX ?_
    exact EndP.w
  refine walkX ?_
  generalize (a.below == b.below) = x5
  cases x5
  · refine walkX ?_
    refine DK.nil ⟨by kernel_rfl, ?_⟩
    refine walkX ?_
    exact EndP.w
  refine walkX ?_
  refine DK.nil ⟨by kernel_rfl, ?_⟩
  refine walkX ?_
  exact EndP.w
theorem rsame_at {H : Heap} {g i g' i' : Nat} {a b : Rs} (hx : hget H g i = some (.cells 6 [a.row])) (hy : hget H g' i' = some (.cells 6 [b.row])) (ha : nb a.N ≤ 1000) (hb : nb b.N ≤ 1000) :
    CallOK Try.prog 40 [.ptr g i 0 0, .ptr g' i' 0 0] H fun res H' => res = .sc (.bool (rsame a b)) ∧ H' = H :=
  CallOK.view (args' := [.cptr a.row, .cptr b.row]) (rsame_ok a b ha hb) (.sc _) (ToL.cons (To.fzp (hget_gh hx) rfl rfl (To.cptrL (ToL.pure (pr a.row)))) (ToL.cons (To.fzp (hget_gh hy) rfl rfl (To.cptrL (ToL.pure (pr b.row)))) ToL.nil)) ⟨rfl, rfl⟩

end Go.Proofs.Ytnngbbiajioghaa
namespace Go.Proofs.Ytnngbbiajioghaa
open Go.Av Go.Proofs
set_option exponentiation.threshold 4000
set_option maxRecDepth 20000

/-! Bytes as strings; sums out of their own bytes. -/

theorem dstep_seq {g i : Nat} {fr : Fr} {H : Heap} {t : TypeId} {x y : Operand} {s : ByteArray} (hx : ev fr x = .sc (.string s)) (hy : ev fr y = .sc (.string s)) : dstep g i (.bin .eql t x y) fr H = some (.sc (.bool true), H) := by
  simp only [dstep, hx, hy]
  show some (AV.sc (.bool (s.toList == s.toList)), H) = _
  simp
theorem dstep_sne {g i : Nat} {fr : Fr} {H : Heap} {t : TypeId} {x y : Operand} {s : ByteArray} (hx : ev fr x = .sc (.string s)) (hy : ev fr y = .sc (.string s)) : dstep g i (.bin .neq t x y) fr H = some (.sc (.bool false), H) := by
  simp only [dstep, hx, hy]
  show some (AV.sc (.bool (!(s.toList == s.toList))), H) = _
  simp
def strB (l : List Nat) : ByteArray := pushAll .empty (l.map UInt8.ofNat)
theorem bytesOf_by : ∀ l : List Nat, bytesOf (bytR l) = some (l.map UInt8.ofNat)
  | [] => rfl
  | b :: l => by
    show (match bytesOf (bytR l) with | some m => some (UInt8.ofNat ((b : Int).toNat) :: m) | none => none) = _
    rw [bytesOf_by l, Int.toNat_natCast]
    rfl
theorem dstep_bs {g i : Nat} {fr : Fr} {H : Heap} {x : Operand} {l : List Nat} (hx : ev fr x = byV l) : dstep g i (.xop .bstr [x]) fr H = some (.sc (.string (strB l)), H) := by
  simp only [dstep, avals, List.map_cons, List.map_nil, hx, xstep, byV, rowsX, rowsOf, bytesOf_by]
  rfl

/-- What holds of every sum. -/
structure Good (s : St) : Prop where
  n : s.n < 2 ^ 2304
  abs : absN s.n < 2 ^ 2240
  zero : s.zero ≤ 2
  none : s.zero ≠ 2 → s.n = 0 ∧ s.nan = false ∧ s.plus = false ∧ s.minus = false
theorem good_zero : Good s0 := ⟨Nat.pow_pos (by decide), Nat.pow_pos (by decide), by decide, fun _ => ⟨rfl, rfl, rfl, rfl⟩⟩
theorem good_one {b : Nat} (hb : b < 18446744073709551616) : Good (oneS b) := by
  have h1 := sml_one hb
  have h2 := h1.abs (show oneB < 2 ^ 2240 from Nat.pow_lt_pow_right (by decide) (by decide))
  have h3 : (oneS b).zero ≤ 2 ∧ ((oneS b).zero ≠ 2 → (oneS b).n = 0 ∧ (oneS b).nan = false ∧ (oneS b).plus = false ∧ (oneS b).minus = false) := by
    unfold oneS
    split
    · exact ⟨Nat.le_refl 2, fun h => absurd rfl h⟩
    · split
      · exact ⟨Nat.le_refl 2, fun h => absurd rfl h⟩
      · split
        · exact ⟨by decide, fun _ => ⟨rfl, rfl, rfl, rfl⟩⟩
        · exact ⟨Nat.le_refl 2, fun h => absurd rfl h⟩
  exact ⟨h1.1, h2, h3.1, h3.2⟩
theorem good_merge {a s : St} (ha : Good a) (hs : Good s) : Good (mergeR a s).2 := by
  unfold mergeR mergeS
  by_cases h : 2240 < blen (absN ((a.n + s.n) % big))
  · rw [if_pos h]; exact ha
  · rw [if_neg h]
    have h2 : absN ((a.n + s.n) % big) < 2 ^ 2240 := (blen_iff _ _).1 (by omega)
    have za := ha.zero
    have zs := hs.zero
    refine ⟨Nat.mod_lt _ big_pos, h2, by show max a.zero s.zero ≤ 2; omega, fun hz => ?_⟩
    have hz : max a.zero s.zero ≠ 2 := hz
    obtain ⟨a1, a2, a3, a4⟩ := ha.none (by omega)
    obtain ⟨b1, b2, b3, b4⟩ := hs.none (by omega)
    simp only
    rw [a1, a2, a3, a4, b1, b2, b3, b4]
    exact ⟨Nat.mod_eq_of_lt big_pos, rfl, rfl, rfl⟩

theorem digs_len (m V : Nat) : (digs m V).length = m := by simp [digs]
theorem valB_digs {m V : Nat} (hV : V < 256 ^ m) : valB (digs m V) = V := by
  have hd : ∀ b ∈ digs m V, b < 256 := fun b hb => by
    obtain ⟨i, _, rfl⟩ := List.mem_map.1 hb
    exact dg_lt _ _
  obtain ⟨h1, h2⟩ := valB_spec (digs m V) hd
  rw [digs_R, digs_len] at h1
  rw [digs_len] at h2
  refine dg_inj h2 hV fun i hi => ?_
  have h3 : (bR m V)[m - 1 - i]? = (bR m (valB (digs m V)))[m - 1 - i]? := by rw [h1]
  rw [bR_get (by omega), bR_get (by omega), show m - 1 - (m - 1 - i) = i by omega] at h3
  injection h3 with h3
  injection h3 with h3
  unfold u8c at h3
  injection h3 with h3
  injection h3 with _ h3
  omega

theorem flags_lt {s : St} (h : s.zero ≤ 2) : flags s < 256 := by
  have h1 := flg_le s.nan 1
  have h2 := flg_le s.plus 2
  have h3 := flg_le s.minus 4
  unfold flags
  omega
theorem dec_enc {s : St} (h : Good s) : okD (flags s) (flg (decide (2 ^ 2303 ≤ s.n)) 1) (nb (absN s.n)) (absN s.n) = true ∧ decF (flags s) (decN (flg (decide (2 ^ 2303 ≤ s.n)) 1) (absN s.n)) = s := by
  have hz := h.zero
  have key : ∀ (a b c : Bool) (z : Nat), z ≤ 2 → (!decide ((flg a 1 + flg b 2 + flg c 4 + 8 * z) &&& 1 = 0)) = a ∧ (!decide ((flg a 1 + flg b 2 + flg c 4 + 8 * z) &&& 2 = 0)) = b ∧ (!decide ((flg a 1 + flg b 2 + flg c 4 + 8 * z) &&& 4 = 0)) = c ∧ (flg a 1 + flg b 2 + flg c 4 + 8 * z) / 2 ^ 3 = z := by
    intro a b c z hz
    rcases (by omega : z = 0 ∨ z = 1 ∨ z = 2) with rfl | rfl | rfl <;> cases a <;> cases b <;> cases c <;> decide
  obtain ⟨k1, k2, k3, k4⟩ := key s.nan s.plus s.minus s.zero hz
  have hneg : 2 ^ 2303 ≤ s.n → decN 1 (absN s.n) = s.n ∧ 0 < absN s.n := by
    intro hp
    have hn := h.n
    have f2 := big_facts.2
    have hpos : 0 < 2 ^ 2303 := Nat.pow_pos (by decide)
    unfold decN absN
    rw [if_pos rfl, if_pos hp]
    rw [f2] at hn ⊢
    clear f2
    generalize 2 ^ 2303 = P at *
    refine ⟨?_, by omega⟩
    rw [show 2 * P - (2 * P - s.n) = s.n by omega, Nat.mod_eq_of_lt hn]
  have hpos : ¬ 2 ^ 2303 ≤ s.n → decN 0 (absN s.n) = s.n := by
    intro hp
    unfold decN absN
    rw [if_neg (by decide), if_neg hp]
  have e8 : flags s / 8 = s.zero := k4
  constructor
  · unfold okD
    rw [e8]
    have c1 : (decide (s.zero = 2) || (decide (absN s.n = 0) && decide (flags s % 8 = 0))) = true := by
      by_cases h2 : s.zero = 2
      · rw [decide_eq_true h2]; rfl
      · obtain ⟨a1, a2, a3, a4⟩ := h.none h2
        rw [decide_eq_true (show absN s.n = 0 by rw [a1]; decide), decide_eq_true (show flags s % 8 = 0 by unfold flags; rw [a2, a3, a4]; show (0 + 0 + 0 + 8 * s.zero) % 8 = 0; omega)]
        simp
    rw [decide_eq_true hz, c1]
    by_cases hp : 2 ^ 2303 ≤ s.n
    · rw [decide_eq_true hp, show flg true 1 = 1 from rfl, decide_eq_true (hneg hp).2]
      simp
    · rw [decide_eq_false hp, show flg false 1 = 0 from rfl]
      simp
  · have e : decN (flg (decide (2 ^ 2303 ≤ s.n)) 1) (absN s.n) = s.n := by
      by_cases hp : 2 ^ 2303 ≤ s.n
      · rw [decide_eq_true hp]; exact (hneg hp).1
      · rw [decide_eq_false hp]; exact hpos hp
    rw [e]
    unfold decF flags
    rw [k1, k2, k3, k4]

theorem decode_own (H : Heap) {s : St} (h : Good s) : CallOK Try.prog 21 [encV s] H fun res H' => res = .tup [.ptr H.length 0 0 0, .sc (.int .i64 0)] ∧ H' = H ++ [[.cells 41 [s.acc true]]] := by
  obtain ⟨h1, h2⟩ := dec_enc h
  have hnb : nb (absN s.n) ≤ 280 := (nb_le _ _).2 (by rw [pow256]; exact h.abs)
  have hv := valB_digs (lt_nb (absN s.n))
  rw [encV_by]
  refine (decode_at H (flags s) (flg (decide (2 ^ 2303 ≤ s.n)) 1) (digs (nb (absN s.n)) (absN s.n)) (flags_lt h.zero) (Nat.lt_of_le_of_lt (flg_le _ _) (by decide)) (fun b hb => ?_) (by rw [digs_len]; exact hnb)).mono ?_
  · obtain ⟨i, _, rfl⟩ := List.mem_map.1 hb
    exact dg_lt _ _
  · rintro res H' (⟨_, rfl, rfl⟩ | ⟨e, _⟩)
    · rw [hv, h2]; exact ⟨rfl, rfl⟩
    · rw [digs_len, hv, h1] at e; cases e

end Go.Proofs.Ytnngbbiajioghaa
namespace Go.Proofs.Ytnngbbiajioghaa
open Go.Av Go.Proofs
set_option exponentiation.threshold 4000
set_option maxRecDepth 20000

/-! Sums do not hang on the order. -/

def sumL (l : List Nat) : St := l.foldl (fun a b => comb a (oneS b)) s0
theorem comb_lt (a b : St) : (comb a b).n < big := Nat.mod_lt _ big_pos
theorem sumL_lt (l : List Nat) : (sumL l).n < big := by
  unfold sumL
  suffices ∀ (l : List Nat) (s : St), s.n < big → (l.foldl (fun a b => comb a (oneS b)) s).n < big from this l s0 big_pos
  intro l
  induction l with
  | nil => exact fun s h => h
  | cons b l ih => exact fun s _ => ih _ (comb_lt _ _)
theorem comb_zero' {a : St} (h : a.n < big) : comb a s0 = a := by rw [comb_comm, comb_zero h]
theorem foldl_comb (l : List Nat) : ∀ s : St, s.n < big → l.foldl (fun a b => comb a (oneS b)) s = comb s (sumL l) := by
  induction l with
  | nil => intro s h; exact (comb_zero' h).symm
  | cons b l ih =>
    intro s h
    have e : sumL (b :: l) = comb (comb s0 (oneS b)) (sumL l) := ih _ (comb_lt _ _)
    rw [List.foldl_cons, ih _ (comb_lt _ _), e]
    rw [← comb_assoc, ← comb_assoc, comb_zero' h]
theorem sumL_append (l m : List Nat) : sumL (l ++ m) = comb (sumL l) (sumL m) := by
  show (l ++ m).foldl _ s0 = _
  rw [List.foldl_append]
  exact foldl_comb m _ (sumL_lt l)
theorem sumL_rot (l : List Nat) (m : Nat) : sumL (l.drop m ++ l.take m) = sumL l := by
  rw [sumL_append, comb_comm, ← sumL_append, List.take_append_drop]
theorem sumL_one {b : Nat} (hb : b < 18446744073709551616) : sumL [b] = oneS b := comb_zero (sml_one hb).1
theorem sumL_snoc (l : List Nat) (b : Nat) : sumL (l ++ [b]) = comb (sumL l) (oneS b) := by
  show (l ++ [b]).foldl _ s0 = _
  rw [List.foldl_append]
  rfl
theorem sumL_cons {b : Nat} (hb : b < 18446744073709551616) (l : List Nat) : sumL (b :: l) = comb (oneS b) (sumL l) := by
  rw [show b :: l = [b] ++ l from rfl, sumL_append, sumL_one hb]
theorem sml_sumL (l : List Nat) (hb : ∀ b ∈ l, b < 18446744073709551616) : Sml (l.length * oneB) (sumL l) := by
  induction l with
  | nil => exact sml_zero.mono (Nat.zero_le _)
  | cons b l ih =>
    rw [sumL_cons (hb b (List.mem_cons_self ..))]
    have := (sml_one (hb b (List.mem_cons_self ..))).comb (ih fun c hc => hb c (List.mem_cons_of_mem _ hc))
    refine this.mono ?_
    rw [List.length_cons, Nat.add_mul, Nat.one_mul]
    omega
theorem merge_sumL (l : List Nat) (b : Nat) (hb : ∀ c ∈ l, c < 18446744073709551616) (h : b < 18446744073709551616) (hl : l.length ≤ 4000) : mergeR (sumL l) (oneS b) = (0, sumL (l ++ [b])) := by
  have h1 := oneB_60 (l.length + 1) (by omega)
  rw [Nat.add_mul, Nat.one_mul] at h1
  rw [mergeR_small (sml_sumL l hb) (sml_one h) h1, sumL_snoc]
theorem sumAll_sumL (l : List Vl) (hb : ∀ v ∈ l, v.1 < 18446744073709551616) (hl : l.length ≤ 4000) : sumAll l = sumL (l.map (·.1)) := by
  suffices ∀ (m : List Vl) (p : List Nat), (∀ c ∈ p, c < 18446744073709551616) → (∀ v ∈ m, v.1 < 18446744073709551616) → p.length + m.length ≤ 4000 → m.foldl (fun a v => (mergeR a (oneS v.1)).2) (sumL p) = sumL (p ++ m.map (·.1)) by
    have := this l [] (fun c hc => by cases hc) hb (by simpa using hl)
    rw [List.nil_append] at this
    exact this
  intro m
  induction m with
  | nil => intro p _ _ _; simp
  | cons v m ih =>
    intro p hp hm hl
    have hv := hm v (List.mem_cons_self ..)
    rw [List.foldl_cons, merge_sumL p v.1 hp hv (by simp at hl; omega)]
    rw [ih (p ++ [v.1]) (fun c hc => by
      rcases List.mem_append.1 hc with h | h
      · exact hp c h
      · rw [List.mem_singleton.1 h]; exact hv) (fun u hu => hm u (List.mem_cons_of_mem _ hu)) (by simp at hl ⊢; omega)]
    simp
theorem good_sumL (l : List Nat) (hb : ∀ b ∈ l, b < 18446744073709551616) (hl : l.length ≤ 4000) : Good (sumL l) := by
  suffices ∀ (m p : List Nat), (∀ c ∈ p, c < 18446744073709551616) → (∀ c ∈ m, c < 18446744073709551616) → p.length + m.length ≤ 4000 → Good (sumL p) → Good (sumL (p ++ m)) by
    exact this l [] (fun c hc => by cases hc) hb (by simpa using hl) good_zero
  intro m
  induction m with
  | nil => intro p _ _ _ h; simpa using h
  | cons b m ih =>
    intro p hp hm hl h
    have hv := hm b (List.mem_cons_self ..)
    have e := merge_sumL p b hp hv (by simp at hl; omega)
    have g := good_merge h (good_one hv)
    rw [e] at g
    have := ih (p ++ [b]) (fun c hc => by
      rcases List.mem_append.1 hc with h | h
      · exact hp c h
      · rw [List.mem_singleton.1 h]; exact hv) (fun u hu => hm u (List.mem_cons_of_mem _ hu)) (by simp at hl ⊢; omega) g
    simpa using this

theorem eqb_refl (s : St) : s.eqb s = true := by unfold St.eqb; simp

/-- Four parts together. -/
def comb4 (p : Nat → St) : St := comb (comb (p 0) (p 1)) (comb (p 2) (p 3))
theorem comb4_upd (p : Nat → St) (k : Nat) (hk : k < 4) (x : St) : comb4 (fun i => if i = k then comb (p k) x else p i) = comb x (comb4 p) := by
  unfold comb4
  have sw : ∀ a b c : St, comb a (comb b c) = comb b (comb a c) := fun a b c => by rw [← comb_assoc, comb_comm a b, comb_assoc]
  rcases (by omega : k = 0 ∨ k = 1 ∨ k = 2 ∨ k = 3) with rfl | rfl | rfl | rfl <;> simp only [if_true, show ¬ (0 : Nat) = 1 by decide, show ¬ (0 : Nat) = 2 by decide, show ¬ (0 : Nat) = 3 by decide, show ¬ (1 : Nat) = 0 by decide, show ¬ (1 : Nat) = 2 by decide, show ¬ (1 : Nat) = 3 by decide,
    show ¬ (2 : Nat) = 0 by decide, show ¬ (2 : Nat) = 1 by decide, show ¬ (2 : Nat) = 3 by decide, show ¬ (3 : Nat) = 0 by decide, show ¬ (3 : Nat) = 1 by decide, show ¬ (3 : Nat) = 2 by decide, if_false]
  · rw [comb_comm (p 0) x, comb_assoc x, comb_assoc x]
  · rw [comb_comm (p 1) x, sw (p 0) x, comb_assoc x]
  · rw [comb_comm (p 2) x, comb_assoc x, sw _ x]
  · rw [comb_comm (p 3) x, sw (p 2) x, sw _ x]
/-- .. in whichever order. -/
theorem comb4_rot (p : Nat → St) (hp : ∀ k, k < 4 → (p k).n < big) (o : Nat) : comb (comb (comb (comb s0 (p ((0 + o) % 4))) (p ((1 + o) % 4))) (p ((2 + o) % 4))) (p ((3 + o) % 4)) = comb4 p := by
  have sw : ∀ a b c : St, comb a (comb b c) = comb b (comb a c) := fun a b c => by rw [← comb_assoc, comb_comm a b, comb_assoc]
  have h0 := hp ((0 + o) % 4) (Nat.mod_lt _ (by decide))
  rw [comb_zero h0]
  unfold comb4
  rcases (by omega : o % 4 = 0 ∨ o % 4 = 1 ∨ o % 4 = 2 ∨ o % 4 = 3) with h | h | h | h
  · rw [show (0 + o) % 4 = 0 by omega, show (1 + o) % 4 = 1 by omega, show (2 + o) % 4 = 2 by omega, show (3 + o) % 4 = 3 by omega, comb_assoc (comb (p 0) (p 1))]
  · rw [show (0 + o) % 4 = 1 by omega, show (1 + o) % 4 = 2 by omega, show (2 + o) % 4 = 3 by omega, show (3 + o) % 4 = 0 by omega, comb_comm _ (p 0), comb_assoc (p 0), comb_assoc (p 1)]
  · rw [show (0 + o) % 4 = 2 by omega, show (1 + o) % 4 = 3 by omega, show (2 + o) % 4 = 0 by omega, show (3 + o) % 4 = 1 by omega, comb_assoc (comb (p 2) (p 3)), comb_comm]
  · rw [show (0 + o) % 4 = 3 by omega, show (1 + o) % 4 = 0 by omega, show (2 + o) % 4 = 1 by omega, show (3 + o) % 4 = 2 by omega, comb_comm _ (p 2), comb_assoc (p 3), comb_comm (p 3), ← comb_assoc (p 2), comb_comm (p 2), comb_assoc]

end Go.Proofs.Ytnngbbiajioghaa
