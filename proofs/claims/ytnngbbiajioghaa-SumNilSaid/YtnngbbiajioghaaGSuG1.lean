import Derived.Test.YtnngbbiajioghaaGSuW2
namespace Go.Proofs.Ytnngbbiajioghaa
open Go.Av Go.Proofs
set_option exponentiation.threshold 4000
set_option maxRecDepth 20000

/-! Sums, wherever they lie. -/
section
variable {P : Program} {k : Nat} {xs : List (IOper × List (Nat × Nat))} {pr : List (Nat × Nat)} {fr : Fr} {H : Heap} {K : Fr → Heap → Prop} {d : Nat} {gd : Option (Nat × Bool)}
theorem tsu1 {sz : Nat} {a : Operand} {g' i' row off s : Nat} {rows : List (List AV)} {r m : List AV} (h : RT P k xs ((d, (.agg m)) :: fr) H K) (hg : gok fr gd = some true := by rfl) (ha : ev fr a = .ptr g' i' row off := by rfl) (hh : hget H g' i' = some (.cells s rows) := by rfl) (hr : rows[row]? = some r := by first | rfl | assumption) (hp : Part r off sz m := by first | exact part_s _ | exact part_n _ | exact part_as _ _ | exact part_an _ _ | exact part_a _ _) : RT P k ((⟨some d, gd, .op (.load sz true a)⟩, pr) :: xs) fr H K := RT.o hg (dstep_ldP ha hh hr hp) (Keeps.refl _ _) h
theorem tsu2 {sz : Nat} {a : Operand} {r m : List AV} (h : RT P k xs ((d, (.agg m)) :: fr) H K) (hg : gok fr gd = some true := by rfl) (ha : ev fr a = .cptr r := by rfl) (hp : Part r 0 sz m := by first | exact part_ds _ _ | exact part_dn _ _ | exact part_a _ _ | exact part_s _) : RT P k ((⟨some d, gd, .op (.load sz true a)⟩, pr) :: xs) fr H K := RT.o hg (dstep_ldC ha hp) (Keeps.refl _ _) h
theorem tsu3 {sz : Nat} {a x : Operand} {g' i' row off s : Nat} {rows : List (List AV)} {r cs r' : List AV} (h : RT P k xs fr (hset H g' i' (.cells s (rows.set row r'))) K) (hg : gok fr gd = some true := by rfl) (ha : ev fr a = .ptr g' i' row off := by rfl) (hx : (ev fr x).cs = some cs := by rfl) (hh : hget H g' i' = some (.cells s rows) := by rfl) (hr : rows[row]? = some r := by first | rfl | assumption) (hl : cs.length = sz := by first | rfl | exact ws_len _ _ | exact St.row_len _ | exact St.acc_len _ _) (hp : Spl r off cs r' := by first | exact spl_s _ _ | exact spl_as _ _ _ | exact spl_a _ _ _ _ | exact spl_zw _ | exact spl_n _ _ | exact spl_nan _ _ | exact spl_plus _ _ | exact spl_minus _ _ | exact spl_zero _ _ | exact spl_an _ _ _ | exact spl_anan _ _ _ | exact spl_aplus _ _ _ | exact spl_aminus _ _ _ | exact spl_azero _ _ _) (kp : Keeps pr H (hset H g' i' (.cells s (rows.set row r'))) := by first | exact Keeps.refl _ _ | (repeat (first | exact trivial | refine And.intro rfl ?_))) : RT P k ((⟨none, gd, .op (.store sz a x)⟩, pr) :: xs) fr H K := RT.on hg (dstep_stP ha hx hh hr hl hp) kp h
theorem tsu4 (h : RT P k xs ((d, (.ptr H.length 0 0 0)) :: fr) (hset H H.length 0 (.cells 40 [s0.row])) K) (hg : gok fr gd = some true := by rfl) (kp : Keeps pr H (hset H H.length 0 (.cells 40 [s0.row])) := by first | exact Keeps.refl _ _ | (repeat (first | exact trivial | refine And.intro rfl ?_))) : RT P k ((⟨some d, gd, .op (.alloc [(36, .int .u64 0), (3, .bool false), (1, .int .i64 0)])⟩, pr) :: xs) fr H K := RT.o hg (dstep_al40) kp h
theorem tsu5 (h : RT P k xs ((d, (.ptr H.length 0 0 0)) :: fr) (hset H H.length 0 (.cells 41 [s0.acc false])) K) (hg : gok fr gd = some true := by rfl) (kp : Keeps pr H (hset H H.length 0 (.cells 41 [s0.acc false])) := by first | exact Keeps.refl _ _ | (repeat (first | exact trivial | refine And.intro rfl ?_))) : RT P k ((⟨some d, gd, .op (.alloc [(1, .bool false), (36, .int .u64 0), (3, .bool false), (1, .int .i64 0)])⟩, pr) :: xs) fr H K := RT.o hg (dstep_al41) kp h
theorem tsu6 {x : Operand} {z : Nat} {nz : Int} (h : RT P k xs ((d, (.agg (St.row (St.mk 0 false false false z)))) :: fr) H K) (hg : gok fr gd = some true := by rfl) (hx : ev fr x = .sc (.int .i64 nz) := by rfl) (hz : nz = (z : Int) := by first | with_reducible rfl | exact natlit _) : RT P k ((⟨some d, gd, .op (.build [(36, .int .u64 0), (3, .bool false), (1, .int .i64 0)] [(39, 1, x)])⟩, pr) :: xs) fr H K := RT.o hg (dstep_bz (by rw [hx, hz])) (Keeps.refl _ _) h
theorem tsu7 {x : Operand} {b : Bool} (h : RT P k xs ((d, (.agg (s0.acc b))) :: fr) H K) (hg : gok fr gd = some true := by rfl) (hx : ev fr x = .sc (.bool b) := by rfl) : RT P k ((⟨some d, gd, .op (.build [(1, .bool false), (36, .int .u64 0), (3, .bool false), (1, .int .i64 0)] [(0, 1, x)])⟩, pr) :: xs) fr H K := RT.o hg (dstep_b1 hx) (Keeps.refl _ _) h
theorem tsu8 {x1 x2 x3 x4 x5 : Operand} {n z : Nat} {a b c : Bool} (h : RT P k xs ((d, (.agg (St.row ⟨n, a, b, c, z⟩))) :: fr) H K) (hg : gok fr gd = some true := by rfl) (h1 : ev fr x1 = .agg (ws 36 (wd n)) := by rfl) (h2 : ev fr x2 = .sc (.bool a) := by rfl) (h3 : ev fr x3 = .sc (.bool b) := by rfl) (h4 : ev fr x4 = .sc (.bool c) := by rfl) (h5 : ev fr x5 = .sc (.int .i64 (z : Int)) := by rfl) : RT P k ((⟨some d, gd, .op (.build [(36, .int .u64 0), (3, .bool false), (1, .int .i64 0)] [(0, 36, x1), (36, 1, x2), (37, 1, x3), (38, 1, x4), (39, 1, x5)])⟩, pr) :: xs) fr H K := RT.o hg (dstep_b5 h1 h2 h3 h4 h5) (Keeps.refl _ _) h
theorem tsu9 {x : Operand} {cs : List AV} {n : Nat} (h : RT P k xs ((d, (.ptr H.length 0 0 0)) :: fr) (hset H H.length 0 (.cells n [cs])) K) (hg : gok fr gd = some true := by rfl) (hx : ev fr x = .agg cs := by rfl) (h1 : cs.all AV.cell1 = true := by first | exact St.row_cell1 _ | exact St.acc_cell1 _ _ | exact ws_cell1 _ _) (hn : cs.length = n := by first | exact St.row_len _ | exact St.acc_len _ _ | exact ws_len _ _) (kp : Keeps pr H (hset H H.length 0 (.cells n [cs])) := by first | exact Keeps.refl _ _ | (repeat (first | exact trivial | refine And.intro rfl ?_))) : RT P k ((⟨some d, gd, .op (.box x)⟩, pr) :: xs) fr H K := RT.o hg (dstep_bx hx h1 hn) kp h
end
theorem walkLS {G G' : Prop} (h : G') (t : Boxed G' → G := by intro hw9; (repeat (first | refine LP.t0 ?_ | refine LP.t1 ?_ | refine LP.t2 ?_ | refine LP.c ?_ | refine RT.nil ?_ | refine LP.z ?_ | refine tsu1 ?_ | refine tsu2 ?_ | refine tsu3 ?_ | refine tsu4 ?_ | refine tsu5 ?_ | refine tsu6 ?_ | refine tsu7 ?_ | refine tsu8 ?_ | refine tsu9 ?_ | refine tv1 ?_ | refine tv2 ?_ | refine tv5 ?_ | refine tv6 ?_ | refine tv9 ?_ | refine tv10 ?_ | refine tr1 ?_ | refine tr2 ?_ | refine tr3 ?_ | refine tr4 ?_ | refine tr5 ?_ | refine tr6 ?_ | refine tr7 ?_ | refine tr8 ?_ | refine tr9 ?_ | refine tr10 ?_ )); exact hw9.out) : G := t ⟨h⟩
theorem walkS0 {G G' : Prop} (h : G') (t : Boxed G' → G := by intro hw9; (repeat (first | refine su1 ?_ | refine su2 ?_ | refine su3 ?_ | refine su4 ?_ | refine su5 ?_ | refine su6 ?_ | refine su7 ?_ | refine su8 ?_ | refine su9 ?_ | refine sd1 ?_ | refine sd2 ?_ | refine sd3 ?_ | refine sd4 ?_ | refine sd5 ?_ | refine sd6 ?_ | refine sd7 ?_ | refine sd8 ?_ | refine sd9 ?_ | (first | refine wr13 ?_ | refine wd13 ?_ | refine wr14 ?_ | refine wv1 ?_ | refine wv2 ?_ | refine wv3 ?_ | refine wv4 ?_ | refine wv5 ?_ | refine wv6 ?_ | refine wv7 ?_ | refine wv8 ?_ | refine wv9 ?_ | refine wv10 ?_ | refine wr1 ?_ | refine wr2 ?_ | refine wr3 ?_ | refine wr4 ?_ | refine Reg.nil ?_ | refine wd1 ?_ | refine wd2 ?_ | refine wd3 ?_ | refine wd4 ?_ | refine AWP.seq ?_ | refine AWP.region ?_ | refine AWP.condT rfl ?_ | refine AWP.condF rfl ?_ | refine AWP.skip ?_ | refine AWP.ret ?_ | refine AWP.exit ?_ | refine AWP.block ?_ | refine wr5 ?_ | refine wr6 ?_ | refine wr7 ?_ | refine wr8 ?_ | refine wr9 ?_ | refine wr10 ?_ | refine wd5 ?_ | refine wd6 ?_ | refine wd7 ?_ | refine wd8 ?_ | refine wd9 ?_ | refine wd10 ?_ | refine wr11 ?_ | refine wr12 ?_ | refine wd11 ?_ | refine wd12 ?_ ))); exact hw9.out) : G := t ⟨h⟩

theorem hset_new : ∀ (H : Heap) (x : Blk), hset H H.length 0 x = H ++ [[x]]
  | [], x => rfl
  | f :: H, x => by
    show f :: hset H H.length 0 x = _
    rw [hset_new H x]; rfl
theorem hset_new2 : ∀ (H : Heap) (x y : Blk), hset (H ++ [[x]]) H.length 0 y = H ++ [[y]]
  | [], x, y => rfl
  | f :: H, x, y => by
    show f :: hset (H ++ [[x]]) H.length 0 y = _
    rw [hset_new2 H x y]; rfl
theorem hget_new (H : Heap) (x : Blk) : hget (H ++ [[x]]) H.length 0 = some x := by
  rw [hget_append, if_pos rfl]; rfl

/-- A sum that is not valid. -/
def NV (H : Heap) (a : AV) : Prop := a = .sc (.pointer none) ∨ ∃ g i s, a = .ptr g i 0 0 ∧ hget H g i = some (.cells 41 [St.acc false s])
/-- .. and one that is. -/
def VA (H : Heap) (a : AV) (s : St) : Prop := ∃ g i, a = .ptr g i 0 0 ∧ hget H g i = some (.cells 41 [St.acc true s])

theorem inval_ok {H : Heap} {a : AV} (h : NV H a) : CallOK Try.prog 60 [a] H fun res H' => res = .sc (.bool false) ∧ H' = H := by
  rcases h with rfl | ⟨g, i, s, rfl, hx⟩
  · exact valid_nil.callOK H
  · exact look_at hx (valid_ok false s)
theorem va_ok {H : Heap} {a : AV} {s : St} (h : VA H a s) : CallOK Try.prog 60 [a] H fun res H' => res = .sc (.bool true) ∧ H' = H := by
  obtain ⟨g, i, rfl, hx⟩ := h
  exact look_at hx (valid_ok true s)

theorem nv_encode {H : Heap} {a : AV} (h : NV H a) : CallOK Try.prog 23 [a] H fun res H' => res = .tup [.sc (.slice none 0 0), .sc (.int .i64 1)] ∧ H' = H := by
  have hv := inval_ok h
  rcases h with rfl | ⟨g, i, s, rfl, hx⟩
  all_goals
    refine CallOK.of cF23 ?_ (Nat.le_of_ble_eq_true rfl)
    refine walkSuT12 ?_
    refine Reg.c (Nat.le_refl _) rfl (hv.mono ?_)
    rintro res H' ⟨rfl, rfl⟩
    refine walkSuT12 ?_
    exact ⟨.inr rfl, _, _, _, rfl, .refl _ _ _, rfl, rfl⟩
theorem nv_value {H : Heap} {a : AV} (h : NV H a) : CallOK Try.prog 24 [a] H fun res H' => res = .sc (.int .u64 0) ∧ H' = H := by
  have hv := inval_ok h
  rcases h with rfl | ⟨g, i, s, rfl, hx⟩
  all_goals
    refine CallOK.of cF24 ?_ (Nat.le_of_ble_eq_true rfl)
    refine walkSuT12 ?_
    refine Reg.c (Nat.le_refl _) rfl (hv.mono ?_)
    rintro res H' ⟨rfl, rfl⟩
    refine walkSuT12 ?_
    exact ⟨.inr rfl, _, _, _, rfl, .refl _ _ _, rfl, rfl⟩
theorem nv_copy {H : Heap} {a : AV} (h : NV H a) : CallOK Try.prog 38 [a] H fun res H' => res = .sc (.pointer none) ∧ H' = H := by
  have hv := inval_ok h
  rcases h with rfl | ⟨g, i, s, rfl, hx⟩
  all_goals
    refine CallOK.of cF38 ?_ (Nat.le_of_ble_eq_true rfl)
    refine walkSuT12 ?_
    refine Reg.c (Nat.le_refl _) rfl (hv.mono ?_)
    rintro res H' ⟨rfl, rfl⟩
    refine walkSuT12 ?_
    exact ⟨.inr rfl, _, _, _, rfl, .refl _ _ _, rfl, rfl⟩
theorem nv_add {H : Heap} {a : AV} (h : NV H a) (b : Int) : CallOK Try.prog 28 [a, .sc (.int .u64 b)] H fun res H' => res = .sc (.int .i64 1) ∧ H' = H := by
  have hv := inval_ok h
  rcases h with rfl | ⟨g, i, s, rfl, hx⟩
  all_goals
    refine CallOK.of cF28 ?_ (Nat.le_of_ble_eq_true rfl)
    refine walkSuT12 ?_
    refine Reg.c (Nat.le_refl _) rfl (hv.mono ?_)
    rintro res H' ⟨rfl, rfl⟩
    refine walkSuT12 ?_
    exact ⟨.inr rfl, _, _, _, rfl, .refl _ _ _, rfl, rfl⟩
/-- A pointer, or nil. -/
def Pt (a : AV) : Prop := a = .sc (.pointer none) ∨ ∃ g i, a = .ptr g i 0 0
theorem NV.pt {H : Heap} {a : AV} (h : NV H a) : Pt a := h.imp_right fun ⟨g, i, _, e, _⟩ => ⟨g, i, e⟩
theorem VA.pt {H : Heap} {a : AV} {s : St} (h : VA H a s) : Pt a := let ⟨g, i, e, _⟩ := h; .inr ⟨g, i, e⟩
theorem nv_merge1 {H : Heap} {a b : AV} (h : NV H a) (hb : Pt b) : CallOK Try.prog 30 [a, b] H fun res H' => res = .sc (.int .i64 1) ∧ H' = H := by
  have hv := inval_ok h
  rcases h.pt with rfl | ⟨g, i, rfl⟩ <;> rcases hb with rfl | ⟨g2, i2, rfl⟩
  all_goals
    refine CallOK.of cF30 ?_ (Nat.le_of_ble_eq_true rfl)
    refine walkSuT12 ?_
    refine Reg.c (Nat.le_refl _) rfl (hv.mono ?_)
    rintro res H' ⟨rfl, rfl⟩
    refine walkSuT12 ?_
    exact ⟨.inr rfl, _, _, _, rfl, .refl _ _ _, rfl, rfl⟩
theorem nv_merge2 {H : Heap} {a b : AV} {s : St} (ha : VA H a s) (h : NV H b) : CallOK Try.prog 30 [a, b] H fun res H' => res = .sc (.int .i64 1) ∧ H' = H := by
  have hv := inval_ok h
  have hw := va_ok ha
  obtain ⟨g, i, rfl, _⟩ := ha
  rcases h.pt with rfl | ⟨g2, i2, rfl⟩
  all_goals
    refine CallOK.of cF30 ?_ (Nat.le_of_ble_eq_true rfl)
    refine walkSuT12 ?_
    refine Reg.c (Nat.le_refl _) rfl (hw.mono ?_)
    rintro res H' ⟨rfl, rfl⟩
    refine walkSuT12 ?_
    refine Reg.c (Nat.le_refl _) rfl (hv.mono ?_)
    rintro res H' ⟨rfl, rfl⟩
    refine walkSuT12 ?_
    exact ⟨.inr rfl, _, _, _, rfl, .refl _ _ _, rfl, rfl⟩
theorem nv_same1 {H : Heap} {a b : AV} (h : NV H a) (hb : Pt b) : CallOK Try.prog 29 [a, b] H fun res H' => res = .sc (.bool false) ∧ H' = H := by
  have hv := inval_ok h
  rcases h.pt with rfl | ⟨g, i, rfl⟩ <;> rcases hb with rfl | ⟨g2, i2, rfl⟩
  all_goals
    refine CallOK.of cF29 ?_ (Nat.le_of_ble_eq_true rfl)
    refine walkS0 ?_
    refine AWP.lin [(true, 0), (false, 1), (true, 2), (true, 3), (false, 4), (true, 5), (true, 6), (true, 7), (true, 8), (true, 9), (true, 10), (true, 11), (true, 12), (true, 13), (true, 14), (true, 15), (true, 16), (true, 17)] mixed (by kernel_rfl) (by kernel_rfl) ?_
    refine walkLS ?_
    refine RT.cc (Nat.le_refl _) rfl hv ?_
    rintro res H' ⟨rfl, rfl⟩
    refine ⟨Keeps.refl _ _, ?_⟩
    refine walkLS ?_
    refine walkSuT12 ?_
    exact ⟨.inr rfl, _, _, _, rfl, .refl _ _ _, rfl, rfl⟩
theorem nv_same2 {H : Heap} {a b : AV} {s : St} (ha : VA H a s) (h : NV H b) : CallOK Try.prog 29 [a, b] H fun res H' => res = .sc (.bool false) ∧ H' = H := by
  have hv := inval_ok h
  have hw := va_ok ha
  obtain ⟨g, i, rfl, _⟩ := ha
  rcases h.pt with rfl | ⟨g2, i2, rfl⟩
  all_goals
    refine CallOK.of cF29 ?_ (Nat.le_of_ble_eq_true rfl)
    refine walkS0 ?_
    refine AWP.lin [(true, 0), (false, 1), (true, 2), (true, 3), (false, 4), (true, 5), (true, 6), (true, 7), (true, 8), (true, 9), (true, 10), (true, 11), (true, 12), (true, 13), (true, 14), (true, 15), (true, 16), (true, 17)] mixed (by kernel_rfl) (by kernel_rfl) ?_
    refine walkLS ?_
    refine RT.cc (Nat.le_refl _) rfl hw ?_
    rintro res H' ⟨rfl, rfl⟩
    refine ⟨Keeps.refl _ _, ?_⟩
    refine walkLS ?_
    refine RT.cc (Nat.le_refl _) rfl hv ?_
    rintro res H' ⟨rfl, rfl⟩
    refine ⟨Keeps.refl _ _, ?_⟩
    refine walkLS ?_
    refine walkSuT12 ?_
    exact ⟨.inr rfl, _, _, _, rfl, .refl _ _ _, rfl, rfl⟩

theorem same_at {H : Heap} {g i g' i' : Nat} {s t : St} (hx : hget H g i = some (.cells 41 [s.acc true])) (hy : hget H g' i' = some (.cells 41 [t.acc true])) (hs : s.n < 2 ^ 2304) (ht : t.n < 2 ^ 2304) :
    CallOK Try.prog 29 [.ptr g i 0 0, .ptr g' i' 0 0] H fun res H' => res = .sc (.bool (s.eqb t)) ∧ H' = H := by
  refine CallOK.of cF29 ?_ (Nat.le_of_ble_eq_true rfl)
  refine walkS0 ?_
  refine AWP.lin [(true, 0), (false, 1), (true, 2), (true, 3), (false, 4), (true, 5), (true, 6), (true, 7), (true, 8), (true, 9), (true, 10), (true, 11), (true, 12), (true, 13), (true, 14), (true, 15), (true, 16), (true, 17)] mixed (by kernel_rfl) (by kernel_rfl) ?_
  refine walkLS ?_
  refine RT.cc (Nat.le_refl _) rfl (look_at hx (valid_ok true s)) ?_
  rintro res H' ⟨rfl, rfl⟩
  refine ⟨Keeps.refl _ _, ?_⟩
  refine walkLS ?_
  refine RT.cc (Nat.le_refl _) rfl (look_at hy (valid_ok true t)) ?_
  rintro res H' ⟨rfl, rfl⟩
  refine ⟨Keeps.refl _ _, ?_⟩
  refine walkLS ?_
  refine tsu1 ?_ (hh := hx)
  refine walkLS ?_
  refine tsu1 ?_ (hh := hy)
  refine RT.nil ?_
  refine LP.t0 ?_
  refine RT.o rfl (dstep_eqSt (s := s) (t := t) rfl rfl hs ht) (Keeps.refl _ _) ?_
  refine walkLS ?_
  refine walkSuT12 ?_
  exact ⟨.inr rfl, _, _, _, rfl, .refl _ _ _, by simp, rfl⟩

theorem merge2_at {H : Heap} {g i g' i' : Nat} {a s : St} (hx : hget H g i = some (.cells 41 [a.acc true])) (hy : hget H g' i' = some (.cells 41 [s.acc true])) :
    CallOK Try.prog 30 [.ptr g i 0 0, .ptr g' i' 0 0] H fun res H' => res = .sc (.int .i64 (mergeR a s).1) ∧ H' = hset H g i (.cells 41 [(mergeR a s).2.acc true]) := by
  refine CallOK.of cF30 ?_ (Nat.le_of_ble_eq_true rfl)
  refine walkSuT12 ?_
  refine Reg.c (Nat.le_refl _) rfl ((look_at hx (valid_ok true a)).mono ?_)
  rintro res H' ⟨rfl, rfl⟩
  refine walkSuT12 ?_
  refine Reg.c (Nat.le_refl _) rfl ((look_at hy (valid_ok true s)).mono ?_)
  rintro res H' ⟨rfl, rfl⟩
  refine walkSuT12 ?_
  refine su1 ?_ (hh := hy)
  refine walkSuT12 ?_
  refine Reg.c (Nat.le_refl _) rfl ((merge_at hx s).mono ?_)
  rintro res H' ⟨rfl, rfl⟩
  refine walkSuT12 ?_
  exact ⟨.inr rfl, _, _, _, rfl, .refl _ _ _, rfl, rfl⟩

theorem copy_at {H : Heap} {g i : Nat} {s : St} (hx : hget H g i = some (.cells 41 [s.acc true])) : CallOK Try.prog 38 [.ptr g i 0 0] H fun res H' => res = .ptr H.length 0 0 0 ∧ H' = H ++ [[.cells 41 [s.acc true]]] := by
  refine CallOK.of cF38 ?_ (Nat.le_of_ble_eq_true rfl)
  refine walkSuT12 ?_
  refine Reg.c (Nat.le_refl _) rfl ((look_at hx (valid_ok true s)).mono ?_)
  rintro res H' ⟨rfl, rfl⟩
  refine walkSuT12 ?_
  refine su1 ?_ (hh := hx)
  refine walkSuT12 ?_
  rw [hset_new]
  refine su3 ?_ (hh := hget_new _ _)
  refine walkSuT12 ?_
  rw [hset_new2]
  exact ⟨.inr rfl, _, _, _, rfl, .refl _ _ _, rfl, rfl⟩

end Go.Proofs.Ytnngbbiajioghaa
