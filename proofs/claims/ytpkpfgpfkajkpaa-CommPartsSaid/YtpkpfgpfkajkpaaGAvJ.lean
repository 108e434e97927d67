import Derived.Test.YtpkpfgpfkajkpaaGAvL
namespace Go.Av
section
variable {P : Program} {k : Nat} {xs : List (IOper × List (Nat × Nat))} {pr : List (Nat × Nat)} {fr : Fr} {H : Heap} {K : Fr → Heap → Prop} {d : Nat} {gd : Option (Nat × Bool)}
theorem RT.o {o : IOp} {v : AV} {H' : Heap} (hg : gok fr gd = some true) (hs : dstep H.length 0 o fr H = some (v, H')) (hp : Keeps pr H H') (h : RT P k xs ((d, v) :: fr) H' K) : RT P k ((⟨some d, gd, .op o⟩, pr) :: xs) fr H K := .op (x := ⟨some d, gd, .op o⟩) hg rfl hs hp h
theorem RT.on {o : IOp} {v : AV} {H' : Heap} (hg : gok fr gd = some true) (hs : dstep H.length 0 o fr H = some (v, H')) (hp : Keeps pr H H') (h : RT P k xs fr H' K) : RT P k ((⟨none, gd, .op o⟩, pr) :: xs) fr H K := .op (x := ⟨none, gd, .op o⟩) hg rfl hs hp h
theorem RT.s {a : IAct} (hg : gok fr gd = some false) (h : RT P k xs ((d, .sc Go.undef) :: fr) H K) : RT P k ((⟨some d, gd, a⟩, pr) :: xs) fr H K := .skip (x := ⟨some d, gd, a⟩) hg h
theorem RT.sn {a : IAct} (hg : gok fr gd = some false) (h : RT P k xs fr H K) : RT P k ((⟨none, gd, a⟩, pr) :: xs) fr H K := .skip (x := ⟨none, gd, a⟩) hg h
theorem RT.p {f : FuncId} {args : List Operand} {v : AV} (hk : k ≤ H.length) (hg : gok fr gd = some true) (hp : PureRun P f (avals fr args) v) (h : RT P k xs ((d, v) :: fr) H K) : RT P k ((⟨some d, gd, .call f args⟩, pr) :: xs) fr H K :=
  .call (x := ⟨some d, gd, .call f args⟩) (R := fun res H' => res = v ∧ H' = H) hk hg rfl (CallOK.ofPure hp H ⟨rfl, rfl⟩) (fun _ _ h => by rw [h.2]; exact Keeps.refl _ _) fun _ _ hr => by rw [hr.1, hr.2]; exact h
theorem RT.cc {f : FuncId} {args : List Operand} {R : AV → Heap → Prop} (hk : k ≤ H.length) (hg : gok fr gd = some true) (hc : CallOK P f (avals fr args) H R) (h : ∀ res H', R res H' → Keeps pr H H' ∧ RT P k xs ((d, res) :: fr) H' K) : RT P k ((⟨some d, gd, .call f args⟩, pr) :: xs) fr H K :=
  .call (x := ⟨some d, gd, .call f args⟩) hk hg rfl hc (fun res H' hr => (h res H' hr).1) fun res H' hr => (h res H' hr).2
theorem RT.cv {f : Operand} {g : FuncId} {fs cs : List AV} {args : List Operand} {R : AV → Heap → Prop} (hk : k ≤ H.length) (hg : gok fr gd = some true) (hf : ev fr f = .clo (.func g) fs cs) (hc : CallOK P g (fs ++ avals fr args ++ cs) H R)
    (h : ∀ res H', R res H' → Keeps pr H H' ∧ RT P k xs ((d, res) :: fr) H' K) : RT P k ((⟨some d, gd, .callV f args⟩, pr) :: xs) fr H K :=
  .callV (x := ⟨some d, gd, .callV f args⟩) hk hg rfl hf hc (fun res H' hr => (h res H' hr).1) fun res H' hr => (h res H' hr).2
theorem LP.z {cl : List Nat} {zs : List IOper} {pend : List (Nat × List (Nat × Nat))} (h : K fr H) : LP P k cl zs [] pend fr H K := h
theorem LP.t0 {cl : List Nat} {zs : List IOper} {pl : List (Bool × Nat)} {i : Nat} {x : IOper} {pend : List (Nat × List (Nat × Nat))} (h : RT P k [(x, [])] fr H fun fr' H' => LP P k cl zs pl pend fr' H' K) (hx : zs[i]? = some x := by rfl) (hB : rdX fr x = [] := by rfl) : LP P k cl zs ((true, i) :: pl) pend fr H K :=
  ⟨x, [], hx, fun q hq => by rw [hB] at hq; exact hq, h⟩
theorem LP.t1 {cl : List Nat} {zs : List IOper} {pl : List (Bool × Nat)} {i g b : Nat} {x : IOper} {pend : List (Nat × List (Nat × Nat))} (h : RT P k [(x, [])] fr H fun fr' H' => LP P k cl zs pl ((i, [(g, b)]) :: pend) fr' H' K) (hx : zs[i]? = some x := by rfl) (hB : rdX fr x = [(g, b)] := by rfl) : LP P k cl zs ((true, i) :: pl) pend fr H K :=
  ⟨x, [(g, b)], hx, fun q hq => by rw [hB] at hq; exact hq, h⟩
theorem LP.t2 {cl : List Nat} {zs : List IOper} {pl : List (Bool × Nat)} {i g b g' b' : Nat} {x : IOper} {pend : List (Nat × List (Nat × Nat))} (h : RT P k [(x, [])] fr H fun fr' H' => LP P k cl zs pl ((i, [(g, b), (g', b')]) :: pend) fr' H' K) (hx : zs[i]? = some x := by rfl) (hB : rdX fr x = [(g, b), (g', b')] := by rfl) : LP P k cl zs ((true, i) :: pl) pend fr H K :=
  ⟨x, [(g, b), (g', b')], hx, fun q hq => by rw [hB] at hq; exact hq, h⟩
theorem LP.c {cl : List Nat} {zs : List IOper} {pl : List (Bool × Nat)} {i : Nat} {x : IOper} {pend : List (Nat × List (Nat × Nat))} (h : RT P k [(x, protOf cl pend i)] fr H fun fr' H' => LP P k cl zs pl pend fr' H' K) (hx : zs[i]? = some x := by rfl) : LP P k cl zs ((false, i) :: pl) pend fr H K := ⟨x, hx, h⟩
theorem tr1 {o : IOp} {v : AV} {H' : Heap} (h : RT P k xs ((d, v) :: fr) H' K) (hg : gok fr gd = some true := by rfl) (hs : dstep H.length 0 o fr H = some (v, H') := by rfl) (kp : Keeps pr H H' := by first | exact Keeps.refl _ _ | (repeat (first | exact trivial | refine And.intro rfl ?_))) : RT P k ((⟨some d, gd, .op o⟩, pr) :: xs) fr H K := RT.o hg hs kp h
theorem tr2 {o : IOp} {v : AV} {H' : Heap} (h : RT P k xs fr H' K) (hg : gok fr gd = some true := by rfl) (hs : dstep H.length 0 o fr H = some (v, H') := by rfl) (kp : Keeps pr H H' := by first | exact Keeps.refl _ _ | (repeat (first | exact trivial | refine And.intro rfl ?_))) : RT P k ((⟨none, gd, .op o⟩, pr) :: xs) fr H K := RT.on hg hs kp h
theorem tr3 {a : IAct} (h : RT P k xs ((d, .sc Go.undef) :: fr) H K) (hg : gok fr gd = some false := by rfl) : RT P k ((⟨some d, gd, a⟩, pr) :: xs) fr H K := RT.s hg h
theorem tr4 {a : IAct} (h : RT P k xs fr H K) (hg : gok fr gd = some false := by rfl) : RT P k ((⟨none, gd, a⟩, pr) :: xs) fr H K := RT.sn hg h
theorem tr5 {sz : Nat} {x ix : Operand} {kd : IntKind} {q g' i' len : Nat} {rows : List (List AV)} (h : RT P k xs ((d, .ptr g' i' q 0) :: fr) H K) (hg : gok fr gd = some true := by rfl) (hx : ev fr x = .hsl g' i' 0 len := by rfl) (hi : ev fr ix = .sc (.int kd (q : Int)) := by rfl) (hh : hget H g' i' = some (.cells sz rows) := by rfl) (h1 : q < len := by first | assumption | omega) (h2 : rows.length = len := by first | assumption | rfl | omega | (simp; done) | (simp; omega)) : RT P k ((⟨some d, gd, .op (.idxSl sz x ix)⟩, pr) :: xs) fr H K := RT.o hg (dstep_idx0 hx hi hh h1 h2) (Keeps.refl _ _) h
theorem tr6 {sz : Nat} {x ix : Operand} {kd : IntKind} {n : Int} {rows : List (List AV)} {r : List AV} (h : RT P k xs ((d, .cptr r) :: fr) H K) (hg : gok fr gd = some true := by rfl) (hx : ev fr x = .list sz rows := by rfl) (hi : ev fr ix = .sc (.int kd n) := by rfl) (hr : rowIx rows n = some r := by assumption) : RT P k ((⟨some d, gd, .op (.idxSl sz x ix)⟩, pr) :: xs) fr H K := RT.o hg (dstep_idxSl hx hi hr) (Keeps.refl _ _) h
theorem tr7 {a : Operand} {g' i' row off s : Nat} {rows : List (List AV)} {r : List AV} {c : AV} (h : RT P k xs ((d, c) :: fr) H K) (hg : gok fr gd = some true := by rfl) (ha : ev fr a = .ptr g' i' row off := by rfl) (hh : hget H g' i' = some (.cells s rows) := by rfl) (hr : rows[row]? = some r := by first | rfl | assumption) (hc : r[off]? = some c := by first | rfl | assumption) : RT P k ((⟨some d, gd, .op (.load 1 false a)⟩, pr) :: xs) fr H K := RT.o hg (dstep_ld1 ha hh hr hc) (Keeps.refl _ _) h
theorem tr8 {a x : Operand} {g' i' row off s : Nat} {rows : List (List AV)} {r : List AV} {c : AV} (h : RT P k xs fr (hset H g' i' (.cells s (rows.set row (r.set off c)))) K) (hg : gok fr gd = some true := by rfl) (ha : ev fr a = .ptr g' i' row off := by rfl) (hx : (ev fr x).cs = some [c] := by rfl) (hh : hget H g' i' = some (.cells s rows) := by rfl) (hr : rows[row]? = some r := by first | rfl | assumption) (hl : off < r.length := by first | assumption | exact Nat.le_of_ble_eq_true rfl | omega | (simp; done) | (simp; omega)) (h1 : c.cell1 = true := by rfl) (kp : Keeps pr H (hset H g' i' (.cells s (rows.set row (r.set off c)))) := by first | exact Keeps.refl _ _ | (repeat (first | exact trivial | refine And.intro rfl ?_))) : RT P k ((⟨none, gd, .op (.store 1 a x)⟩, pr) :: xs) fr H K := RT.on hg (dstep_st1 ha hx hh hr hl h1) kp h
theorem tr9 {sz bytes : Nat} {s x : Operand} {g' i' len : Nat} {rows1 rows2 : List (List AV)} (h : RT P k xs ((d, .hsl H.length 0 0 (len + rows2.length)) :: fr) (hset (hset H g' i' .dead) H.length 0 (.cells sz (rows1 ++ rows2))) K) (hg : gok fr gd = some true := by rfl) (hs : ev fr s = .hsl g' i' 0 len := by rfl) (hx : rowsX sz H (ev fr x) = some (sz, rows2) := by rfl) (hh : hget H g' i' = some (.cells sz rows1) := by rfl) (hl : rows1.length = len := by first | assumption | rfl | omega | (simp; done) | (simp; omega)) (hb : (len + rows2.length) * (bytes + 1) ≤ 70368744177664 := by first | omega | (simp; omega)) (e3 : (Nat.beq H.length g' && Nat.beq 0 i') = false := by rfl) (kp : Keeps pr H (hset (hset H g' i' .dead) H.length 0 (.cells sz (rows1 ++ rows2))) := by first | exact Keeps.refl _ _ | (repeat (first | exact trivial | refine And.intro rfl ?_))) : RT P k ((⟨some d, gd, .op (.append sz bytes s x)⟩, pr) :: xs) fr H K := RT.o hg (dstep_app hs hx hh hl hb e3) kp h
theorem tr10 {f : FuncId} {args : List Operand} {v : AV} (h : RT P k xs ((d, v) :: fr) H K) (hk : k ≤ H.length := by first | exact Nat.zero_le _ | exact Nat.le_refl _ | (simp; done) | (simp; omega)) (hg : gok fr gd = some true := by rfl) (hp : PureRun P f (avals fr args) v := by assumption) : RT P k ((⟨some d, gd, .call f args⟩, pr) :: xs) fr H K := RT.p hk hg hp h
theorem tv1 {op : BinOp} {t : TypeId} {x y : Operand} {kd kd' : IntKind} {a b : Nat} {v : Value} (h : RT P k xs ((d, .sc v) :: fr) H K) (hg : gok fr gd = some true := by rfl) {na nb : Int} (hx : ev fr x = .sc (.int kd na) := by rfl) (hy : ev fr y = .sc (.int kd' nb) := by rfl) (ha : na = (a : Int) := by first | with_reducible rfl | exact natlit _) (hb : nb = (b : Int) := by first | with_reducible rfl | exact natlit _) (hv : NBin op kd kd' a b v := by first | exact nb_lss | exact nb_eql | exact nb_neq | exact nb_geq | exact nb_gtr | exact nb_leq | (refine nb_add ?_ <;> first | with_reducible assumption | omega) | (refine nb_sub ?_ ?_ <;> first | with_reducible assumption | omega) | (refine nb_mul ?_ <;> first | with_reducible assumption | omega) | (refine nb_quo ?_ ?_ <;> first | with_reducible assumption | omega) | (refine nb_uquo ?_ ?_ <;> first | with_reducible assumption | omega) | (refine nb_rem ?_ <;> first | with_reducible assumption | omega) | (refine nb_uadd' ?_ <;> first | with_reducible assumption | omega) | exact nb_uadd | (refine nb_usub ?_ ?_ <;> first | with_reducible assumption | omega) | (refine nb_umul' ?_ <;> first | with_reducible assumption | omega) | exact nb_umul | (refine nb_uand ?_ ?_ <;> first | with_reducible assumption | omega) | (refine nb_uor ?_ ?_ <;> first | with_reducible assumption | omega) | (refine nb_uxor ?_ ?_ <;> first | with_reducible assumption | omega) | (refine nb_uandn ?_ ?_ <;> first | with_reducible assumption | omega) | exact nb_ushl | (refine nb_ushr ?_ <;> first | with_reducible assumption | omega) | (refine nb_ishr ?_ <;> first | with_reducible assumption | omega)) : RT P k ((⟨some d, gd, .op (.bin op t x y)⟩, pr) :: xs) fr H K := RT.o hg (dstep_nb (by rw [hx, ha]) (by rw [hy, hb]) hv) (Keeps.refl _ _) h
theorem tv2 {c : IntKind} {x : Operand} {kd : IntKind} {a b : Nat} (h : RT P k xs ((d, .sc (.int c (b : Int))) :: fr) H K) (hg : gok fr gd = some true := by rfl) {na : Int} (hx : ev fr x = .sc (.int kd na) := by rfl) (ha : na = (a : Int) := by first | with_reducible rfl | exact natlit _) (hv : NConv c a b := by first | (refine nc_i64 ?_ <;> first | with_reducible assumption | omega) | (refine nc_u64' ?_ <;> first | with_reducible assumption | omega) | exact nc_u64 | (refine nc_u8' ?_ <;> first | with_reducible assumption | omega) | exact nc_u8) : RT P k ((⟨some d, gd, .op (.conv c x)⟩, pr) :: xs) fr H K := RT.o hg (dstep_nc (by rw [hx, ha]) hv) (Keeps.refl _ _) h
theorem tv5 {x y : Operand} {kd kd' : IntKind} {a b : Nat} (h : RT P k xs ((d, (.sc (.int kd ((max a b : Nat) : Int)))) :: fr) H K) (hg : gok fr gd = some true := by rfl) {na nb : Int} (hx : ev fr x = .sc (.int kd na) := by rfl) (hy : ev fr y = .sc (.int kd' nb) := by rfl) (ha : na = (a : Int) := by first | with_reducible rfl | exact natlit _) (hb : nb = (b : Int) := by first | with_reducible rfl | exact natlit _) : RT P k ((⟨some d, gd, .op (.max [x, y])⟩, pr) :: xs) fr H K := RT.o hg (dstep_nmax (by rw [hx, ha]) (by rw [hy, hb])) (Keeps.refl _ _) h
theorem tv6 {x y : Operand} {kd kd' : IntKind} {a b : Nat} (h : RT P k xs ((d, (.sc (.int kd ((min a b : Nat) : Int)))) :: fr) H K) (hg : gok fr gd = some true := by rfl) {na nb : Int} (hx : ev fr x = .sc (.int kd na) := by rfl) (hy : ev fr y = .sc (.int kd' nb) := by rfl) (ha : na = (a : Int) := by first | with_reducible rfl | exact natlit _) (hb : nb = (b : Int) := by first | with_reducible rfl | exact natlit _) : RT P k ((⟨some d, gd, .op (.min [x, y])⟩, pr) :: xs) fr H K := RT.o hg (dstep_nmin (by rw [hx, ha]) (by rw [hy, hb])) (Keeps.refl _ _) h
theorem tv9 {f : FuncId} {args : List Operand} {v : AV} (h : RT P k xs ((d, v) :: fr) H K) (hk : k ≤ H.length := by first | exact Nat.zero_le _ | exact Nat.le_of_ble_eq_true rfl) (hg : gok fr gd = some true := by rfl) (hp : PureRun P f (avals fr args) v := by assumption) : RT P k ((⟨some d, gd, .call f args⟩, pr) :: xs) fr H K := RT.p hk hg hp h
theorem tv10 {f : Operand} {g : FuncId} {fs cs : List AV} {args : List Operand} {v : AV} (h : RT P k xs ((d, v) :: fr) H K) (hk : k ≤ H.length := by first | exact Nat.zero_le _ | exact Nat.le_of_ble_eq_true rfl) (hg : gok fr gd = some true := by rfl) (hf : ev fr f = .clo (.func g) fs cs := by rfl) (hp : PureRun P g (fs ++ avals fr args ++ cs) v := by assumption) : RT P k ((⟨some d, gd, .callV f args⟩, pr) :: xs) fr H K := RT.cv (R := fun res H2 => res = v ∧ H2 = H) hk hg hf (.ofPure hp H ⟨rfl, rfl⟩) fun _ _ hr => by rw [hr.1, hr.2]; exact ⟨Keeps.refl _ _, h⟩
end
end Go.Av
namespace Go.Av
structure Boxed (p : Prop) : Prop where
  out : p
theorem walkX {G G' : Prop} (h : G') (t : Boxed G' → G := by intro hw9; (repeat (first | refine wr13 ?_ | refine wd13 ?_ | refine wr14 ?_ | refine wv1 ?_ | refine wv2 ?_ | refine wv3 ?_ | refine wv4 ?_ | refine wv5 ?_ | refine wv6 ?_ | refine wv7 ?_ | refine wv8 ?_ | refine wv9 ?_ | refine wv10 ?_ | refine wr1 ?_ | refine wr2 ?_ | refine wr3 ?_ | refine wr4 ?_ | refine Reg.nil ?_ | refine wd1 ?_ | refine wd2 ?_ | refine wd3 ?_ | refine wd4 ?_ | refine AWP.seq ?_ | refine AWP.region ?_ | refine AWP.dk mixed ?_ | refine AWP.condT rfl ?_ | refine AWP.condF rfl ?_ | refine AWP.skip ?_ | refine AWP.ret ?_ | refine AWP.exit ?_ | refine AWP.block ?_ | refine wr5 ?_ | refine wr6 ?_ | refine wr7 ?_ | refine wr8 ?_ | refine wr9 ?_ | refine wr10 ?_ | refine wd5 ?_ | refine wd6 ?_ | refine wd7 ?_ | refine wd8 ?_ | refine wd9 ?_ | refine wd10 ?_ | refine wr11 ?_ | refine wr12 ?_ | refine wd11 ?_ | refine wd12 ?_ )); exact hw9.out) : G := t ⟨h⟩
theorem walkR {G G' : Prop} (h : G') (t : Boxed G' → G := by intro hw9; (repeat (first | refine wr13 ?_ | refine wd13 ?_ | refine wr14 ?_ | refine wv1 ?_ | refine wv2 ?_ | refine wv3 ?_ | refine wv4 ?_ | refine wv5 ?_ | refine wv6 ?_ | refine wv7 ?_ | refine wv8 ?_ | refine wv9 ?_ | refine wv10 ?_ | refine wr1 ?_ | refine wr2 ?_ | refine wr3 ?_ | refine wr4 ?_ | refine Reg.nil ?_ | refine wd1 ?_ | refine wd2 ?_ | refine wd3 ?_ | refine wd4 ?_ | refine wr5 ?_ | refine wr6 ?_ | refine wr7 ?_ | refine wr8 ?_ | refine wr9 ?_ | refine wr10 ?_ | refine wd5 ?_ | refine wd6 ?_ | refine wd7 ?_ | refine wd8 ?_ | refine wd9 ?_ | refine wd10 ?_ | refine wr11 ?_ | refine wr12 ?_ | refine wd11 ?_ | refine wd12 ?_ )); exact hw9.out) : G := t ⟨h⟩
theorem walkW {G G' : Prop} (h : G') (t : Boxed G' → G := by intro hw9; (repeat (first | refine wr13 ?_ | refine wd13 ?_ | refine wr14 ?_ | refine wr1 ?_ | refine wr2 ?_ | refine wr3 ?_ | refine wr4 ?_ | refine Reg.nil ?_ | refine wd1 ?_ | refine wd2 ?_ | refine wd3 ?_ | refine wd4 ?_ | refine AWP.seq ?_ | refine AWP.region ?_ | refine AWP.dk mixed ?_ | refine AWP.condT rfl ?_ | refine AWP.condF rfl ?_ | refine AWP.skip ?_ | refine AWP.ret ?_ | refine AWP.exit ?_ | refine AWP.block ?_ | refine wr5 ?_ | refine wr6 ?_ | refine wr7 ?_ | refine wr8 ?_ | refine wr9 ?_ | refine wr10 ?_ | refine wd5 ?_ | refine wd6 ?_ | refine wd7 ?_ | refine wd8 ?_ | refine wd9 ?_ | refine wd10 ?_ | refine wr11 ?_ | refine wr12 ?_ | refine wd11 ?_ | refine wd12 ?_ )); exact hw9.out) : G := t ⟨h⟩
theorem walkL {G G' : Prop} (h : G') (t : Boxed G' → G := by intro hw9; (repeat (first | refine LP.t0 ?_ | refine LP.t1 ?_ | refine LP.t2 ?_ | refine LP.c ?_ | refine RT.nil ?_ | refine LP.z ?_ | refine tv1 ?_ | refine tv2 ?_ | refine tv5 ?_ | refine tv6 ?_ | refine tv9 ?_ | refine tv10 ?_ | refine tr1 ?_ | refine tr2 ?_ | refine tr3 ?_ | refine tr4 ?_ | refine tr5 ?_ | refine tr6 ?_ | refine tr7 ?_ | refine tr8 ?_ | refine tr9 ?_ | refine tr10 ?_ )); exact hw9.out) : G := t ⟨h⟩
theorem walkX0 {G G' : Prop} (h : G') (t : Boxed G' → G := by intro hw9; (repeat (first | refine wr13 ?_ | refine wd13 ?_ | refine wr14 ?_ | refine wv1 ?_ | refine wv2 ?_ | refine wv3 ?_ | refine wv4 ?_ | refine wv5 ?_ | refine wv6 ?_ | refine wv7 ?_ | refine wv8 ?_ | refine wv9 ?_ | refine wv10 ?_ | refine wr1 ?_ | refine wr2 ?_ | refine wr3 ?_ | refine wr4 ?_ | refine Reg.nil ?_ | refine wd1 ?_ | refine wd2 ?_ | refine wd3 ?_ | refine wd4 ?_ | refine AWP.seq ?_ | refine AWP.region ?_ | refine AWP.condT rfl ?_ | refine AWP.condF rfl ?_ | refine AWP.skip ?_ | refine AWP.ret ?_ | refine AWP.exit ?_ | refine AWP.block ?_ | refine wr5 ?_ | refine wr6 ?_ | refine wr7 ?_ | refine wr8 ?_ | refine wr9 ?_ | refine wr10 ?_ | refine wd5 ?_ | refine wd6 ?_ | refine wd7 ?_ | refine wd8 ?_ | refine wd9 ?_ | refine wd10 ?_ | refine wr11 ?_ | refine wr12 ?_ | refine wd11 ?_ | refine wd12 ?_ )); exact hw9.out) : G := t ⟨h⟩
theorem Sub.w {k N : Nat} {fr fr' : Fr} {H H' : Heap} (szs : List Nat) (ids : List (List (Nat × Nat))) (h4 : famsTo (ToB (ToT (H ++ gh szs) H.length (notIn ids)) (rho ids)) (H ++ gh szs) ids H' := by (repeat' (first | exact ToAll.nil | exact famsTo.nil | exact famTo.nil | exact ToL.nil | exact ToR.nil | refine ToAll.cons ?_ ?_ | refine famsTo.cons ?_ ?_ | refine wt10 ?_ ?_ | exact To.undef _ | exact To.sc _ | exact To.hslL rfl rfl | exact To.ptrO rfl rfl rfl | exact To.mrefO rfl | exact To.nil rfl rfl rfl | exact wt1 | exact To.nilL | refine To.int ?_ | refine To.bool ?_ | refine To.hslL rfl ?_ | refine wt2 rfl ?_ ?_ ?_ | refine To.tupL ?_ | refine To.aggL ?_ | refine To.cptrL ?_ | refine wt3 ?_ | refine wt4 ?_ | refine To.cloL ?_ ?_ | exact wt5 | refine wt6 ?_ | refine ToB.one ?_ | exact wt7 | ((with_reducible apply ToL.consE); case e9 => rfl) | refine wt8 ?_ | refine ToL.cons ?_ ?_ | exact wt11 | refine wt9 ?_ ?_ | refine wt12 ?_ | (with_reducible rfl) | assumption)); all_goals (first | rfl | assumption | (simp; done) | (simp; omega) | (rw [wrap_small (by omega) (by omega)]; done) | (rw [wrap_small (by omega) (by omega)]; omega) | (refine congrArg Nat.cast ?_; assumption)))
    (h5 : ToAll (ToT (H ++ gh szs) H.length (notIn ids)) (rho ids) fr fr' := by (repeat' (first | exact ToAll.nil | exact famsTo.nil | exact famTo.nil | exact ToL.nil | exact ToR.nil | refine ToAll.cons ?_ ?_ | refine famsTo.cons ?_ ?_ | refine wt10 ?_ ?_ | exact To.undef _ | exact To.sc _ | exact To.hslL rfl rfl | exact To.ptrO rfl rfl rfl | exact To.mrefO rfl | exact To.nil rfl rfl rfl | exact wt1 | exact To.nilL | refine To.int ?_ | refine To.bool ?_ | refine To.hslL rfl ?_ | refine wt2 rfl ?_ ?_ ?_ | refine To.tupL ?_ | refine To.aggL ?_ | refine To.cptrL ?_ | refine wt3 ?_ | refine wt4 ?_ | refine To.cloL ?_ ?_ | exact wt5 | refine wt6 ?_ | refine ToB.one ?_ | exact wt7 | ((with_reducible apply ToL.consE); case e9 => rfl) | refine wt8 ?_ | refine ToL.cons ?_ ?_ | exact wt11 | refine wt9 ?_ ?_ | refine wt12 ?_ | (with_reducible rfl) | assumption)); all_goals (first | rfl | assumption | (simp; done) | (simp; omega) | (rw [wrap_small (by omega) (by omega)]; done) | (rw [wrap_small (by omega) (by omega)]; omega) | (refine congrArg Nat.cast ?_; assumption))) (h1 : lowOK 0 k ids = true := by rfl) (h2 : lens k ids (H ++ gh szs) = true := by rfl) (h3 : ndup ids.flatten = true := by rfl) : Sub k N fr H fr' H' := .to szs ids h5 h4 h1 h2 h3
theorem Sub.wx {k N : Nat} {fr fr' : Fr} {H H' : Heap} (szs : List Nat) (ids : List (List (Nat × Nat))) (h4 : famsTo (ToB (ToT (H ++ gh szs) H.length (notIn ids)) (rho ids)) (H ++ gh szs) ids H' := by (repeat' (first | exact ToAll.nil | exact famsTo.nil | exact famTo.nil | exact ToL.nil | exact ToR.nil | refine ToAll.cons ?_ ?_ | refine famsTo.cons ?_ ?_ | refine wt10 ?_ ?_ | exact To.undef _ | exact To.sc _ | exact To.hslL rfl rfl | exact To.ptrO rfl rfl rfl | exact To.mrefO rfl | exact To.nil rfl rfl rfl | exact wt1 | exact To.nilL | refine To.int ?_ | refine To.bool ?_ | refine To.hslL rfl ?_ | refine wt2 rfl ?_ ?_ ?_ | refine To.tupL ?_ | refine To.aggL ?_ | refine To.cptrL ?_ | refine wt3 ?_ | refine wt4 ?_ | refine To.cloL ?_ ?_ | refine ToB.one ?_ | exact wt5 | refine wt6 ?_ | ((with_reducible apply ToL.consE); case e9 => rfl) | refine ToL.cons ?_ ?_ | exact wt7 | refine wt8 ?_ | exact wt11 | refine wt9 ?_ ?_ | refine wt12 ?_ | (with_reducible rfl) | assumption)); all_goals (first | rfl | assumption | (simp; done) | (simp; omega) | (rw [wrap_small (by omega) (by omega)]; done) | (rw [wrap_small (by omega) (by omega)]; omega) | (refine congrArg Nat.cast ?_; assumption)))
    (h5 : ToAll (ToT (H ++ gh szs) H.length (notIn ids)) (rho ids) fr fr' := by (repeat' (first | exact ToAll.nil | exact famsTo.nil | exact famTo.nil | exact ToL.nil | exact ToR.nil | refine ToAll.cons ?_ ?_ | refine famsTo.cons ?_ ?_ | refine wt10 ?_ ?_ | exact To.undef _ | exact To.sc _ | exact To.hslL rfl rfl | exact To.ptrO rfl rfl rfl | exact To.mrefO rfl | exact To.nil rfl rfl rfl | exact wt1 | exact To.nilL | refine To.int ?_ | refine To.bool ?_ | refine To.hslL rfl ?_ | refine wt2 rfl ?_ ?_ ?_ | refine To.tupL ?_ | refine To.aggL ?_ | refine To.cptrL ?_ | refine wt3 ?_ | refine wt4 ?_ | refine To.cloL ?_ ?_ | refine ToB.one ?_ | exact wt5 | refine wt6 ?_ | ((with_reducible apply ToL.consE); case e9 => rfl) | refine ToL.cons ?_ ?_ | exact wt7 | refine wt8 ?_ | exact wt11 | refine wt9 ?_ ?_ | refine wt12 ?_ | (with_reducible rfl) | assumption)); all_goals (first | rfl | assumption | (simp; done) | (simp; omega) | (rw [wrap_small (by omega) (by omega)]; done) | (rw [wrap_small (by omega) (by omega)]; omega) | (refine congrArg Nat.cast ?_; assumption))) (h1 : lowOK 0 k ids = true := by rfl) (h2 : lens k ids (H ++ gh szs) = true := by rfl) (h3 : ndup ids.flatten = true := by rfl) : Sub k N fr H fr' H' := .to szs ids h5 h4 h1 h2 h3
theorem Sub.wr {k N : Nat} {fr fr' : Fr} {H H' : Heap} (szs : List Nat) (ids : List (List (Nat × Nat))) (h4 : famsTo (ToB (ToT (H ++ gh szs) H.length (notIn ids)) (rho ids)) (H ++ gh szs) ids H' := by (repeat' (first | exact ToAll.nil | exact famsTo.nil | exact famTo.nil | exact ToL.nil | exact ToR.nil | refine ToAll.cons ?_ ?_ | refine famsTo.cons ?_ ?_ | refine wt10 ?_ ?_ | exact To.undef _ | exact To.sc _ | exact To.hslL rfl rfl | exact To.ptrO rfl rfl rfl | exact To.mrefO rfl | exact To.nil rfl rfl rfl | exact wt1 | exact To.nilL | refine To.int ?_ | refine To.bool ?_ | refine To.hslL rfl ?_ | refine wt2 rfl ?_ ?_ ?_ | refine To.tupL ?_ | refine To.aggL ?_ | refine To.cptrL ?_ | refine wt3 ?_ | refine wt4 ?_ | refine To.cloL ?_ ?_ | refine ToB.one ?_ | exact wt5 | refine ToB.rowsR (ToR.cons ?_ ?_) | refine ToR.cons ?_ ?_ | refine wt6 ?_ | ((with_reducible apply ToL.consE); case e9 => rfl) | refine ToL.cons ?_ ?_ | exact wt7 | refine wt8 ?_ | exact wt11 | refine wt9 ?_ ?_ | refine wt12 ?_ | (with_reducible rfl) | assumption)); all_goals (first | rfl | assumption | (simp; done) | (simp; omega) | (rw [wrap_small (by omega) (by omega)]; done) | (rw [wrap_small (by omega) (by omega)]; omega) | (refine congrArg Nat.cast ?_; assumption)))
    (h5 : ToAll (ToT (H ++ gh szs) H.length (notIn ids)) (rho ids) fr fr' := by (repeat' (first | exact ToAll.nil | exact famsTo.nil | exact famTo.nil | exact ToL.nil | exact ToR.nil | refine ToAll.cons ?_ ?_ | refine famsTo.cons ?_ ?_ | refine wt10 ?_ ?_ | exact To.undef _ | exact To.sc _ | exact To.hslL rfl rfl | exact To.ptrO rfl rfl rfl | exact To.mrefO rfl | exact To.nil rfl rfl rfl | exact wt1 | exact To.nilL | refine To.int ?_ | refine To.bool ?_ | refine To.hslL rfl ?_ | refine wt2 rfl ?_ ?_ ?_ | refine To.tupL ?_ | refine To.aggL ?_ | refine To.cptrL ?_ | refine wt3 ?_ | refine wt4 ?_ | refine To.cloL ?_ ?_ | refine ToB.one ?_ | exact wt5 | refine ToB.rowsR (ToR.cons ?_ ?_) | refine ToR.cons ?_ ?_ | refine wt6 ?_ | ((with_reducible apply ToL.consE); case e9 => rfl) | refine ToL.cons ?_ ?_ | exact wt7 | refine wt8 ?_ | exact wt11 | refine wt9 ?_ ?_ | refine wt12 ?_ | (with_reducible rfl) | assumption)); all_goals (first | rfl | assumption | (simp; done) | (simp; omega) | (rw [wrap_small (by omega) (by omega)]; done) | (rw [wrap_small (by omega) (by omega)]; omega) | (refine congrArg Nat.cast ?_; assumption))) (h1 : lowOK 0 k ids = true := by rfl) (h2 : lens k ids (H ++ gh szs) = true := by rfl) (h3 : ndup ids.flatten = true := by rfl) : Sub k N fr H fr' H' := .to szs ids h5 h4 h1 h2 h3
theorem EndP.w {rs : List IRes} {X : AV} {e : Exit} {fr : Fr} {H : Heap} {res : AV} (he : e = .normal ∨ e = .ret := by first | exact .inr rfl | exact .inl rfl) (h : resOf fr H rs = some res := by rfl)
    (t : To (ToT (H ++ gh []) H.length (notIn [])) (rho []) res X := by (repeat' (first | exact ToAll.nil | exact famsTo.nil | exact famTo.nil | exact ToL.nil | exact ToR.nil | refine ToAll.cons ?_ ?_ | refine famsTo.cons ?_ ?_ | refine wt10 ?_ ?_ | exact To.undef _ | exact To.sc _ | exact To.hslL rfl rfl | exact To.ptrO rfl rfl rfl | exact To.mrefO rfl | exact To.nil rfl rfl rfl | exact wt1 | exact To.nilL | refine To.int ?_ | refine To.bool ?_ | refine To.hslL rfl ?_ | refine wt2 rfl ?_ ?_ ?_ | refine To.tupL ?_ | refine To.aggL ?_ | refine To.cptrL ?_ | refine wt3 ?_ | refine wt4 ?_ | refine To.cloL ?_ ?_ | exact wt5 | refine wt6 ?_ | refine ToB.one ?_ | exact wt7 | ((with_reducible apply ToL.consE); case e9 => rfl) | refine wt8 ?_ | refine ToL.cons ?_ ?_ | exact wt11 | refine wt9 ?_ ?_ | refine wt12 ?_ | (with_reducible rfl) | assumption)); all_goals (first | rfl | assumption | (simp; done) | (simp; omega) | (rw [wrap_small (by omega) (by omega)]; done) | (rw [wrap_small (by omega) (by omega)]; omega) | (refine congrArg Nat.cast ?_; assumption))) : EndP rs X e fr H := .mk he h rfl t
theorem endW {k : Nat} {rs : List IRes} {fr : Fr} {H : Heap} {e : Exit} {R : AV → Heap → Prop} {res res' : AV} {H2 : Heap} (ids : List (List (Nat × Nat))) (hR : R res' H2) (he : e = .normal ∨ e = .ret := by first | exact .inr rfl | exact .inl rfl) (hres : resOf fr H rs = some res := by rfl)
    (h5 : To (ToT (H ++ gh []) H.length (notIn ids)) (rho ids) res res' := by (repeat' (first | exact ToAll.nil | exact famsTo.nil | exact famTo.nil | exact ToL.nil | exact ToR.nil | refine ToAll.cons ?_ ?_ | refine famsTo.cons ?_ ?_ | refine wt10 ?_ ?_ | exact To.undef _ | exact To.sc _ | exact To.hslL rfl rfl | exact To.ptrO rfl rfl rfl | exact To.mrefO rfl | exact To.nil rfl rfl rfl | exact wt1 | exact To.nilL | refine To.int ?_ | refine To.bool ?_ | refine To.hslL rfl ?_ | refine wt2 rfl ?_ ?_ ?_ | refine To.tupL ?_ | refine To.aggL ?_ | refine To.cptrL ?_ | refine wt3 ?_ | refine wt4 ?_ | refine To.cloL ?_ ?_ | exact wt5 | refine wt6 ?_ | refine ToB.one ?_ | exact wt7 | ((with_reducible apply ToL.consE); case e9 => rfl) | refine wt8 ?_ | refine ToL.cons ?_ ?_ | exact wt11 | refine wt9 ?_ ?_ | refine wt12 ?_ | (with_reducible rfl) | assumption)); all_goals (first | rfl | assumption | (simp; done) | (simp; omega) | (rw [wrap_small (by omega) (by omega)]; done) | (rw [wrap_small (by omega) (by omega)]; omega) | (refine congrArg Nat.cast ?_; assumption))) (h4 : famsTo (ToB (ToT (H ++ gh []) H.length (notIn ids)) (rho ids)) (H ++ gh []) ids H2 := by (repeat' (first | exact ToAll.nil | exact famsTo.nil | exact famTo.nil | exact ToL.nil | exact ToR.nil | refine ToAll.cons ?_ ?_ | refine famsTo.cons ?_ ?_ | refine wt10 ?_ ?_ | exact To.undef _ | exact To.sc _ | exact To.hslL rfl rfl | exact To.ptrO rfl rfl rfl | exact To.mrefO rfl | exact To.nil rfl rfl rfl | exact wt1 | exact To.nilL | refine To.int ?_ | refine To.bool ?_ | refine To.hslL rfl ?_ | refine wt2 rfl ?_ ?_ ?_ | refine To.tupL ?_ | refine To.aggL ?_ | refine To.cptrL ?_ | refine wt3 ?_ | refine wt4 ?_ | refine To.cloL ?_ ?_ | exact wt5 | refine wt6 ?_ | refine ToB.one ?_ | exact wt7 | ((with_reducible apply ToL.consE); case e9 => rfl) | refine wt8 ?_ | refine ToL.cons ?_ ?_ | exact wt11 | refine wt9 ?_ ?_ | refine wt12 ?_ | (with_reducible rfl) | assumption)); all_goals (first | rfl | assumption | (simp; done) | (simp; omega) | (rw [wrap_small (by omega) (by omega)]; done) | (rw [wrap_small (by omega) (by omega)]; omega) | (refine congrArg Nat.cast ?_; assumption))) (h1 : lowOK 0 k ids = true := by rfl) (h2 : lens k ids (H ++ gh []) = true := by rfl) (h3 : ndup ids.flatten = true := by rfl) :
    (e = .normal ∨ e = .ret) ∧ ∃ res res' H2, resOf fr H rs = some res ∧ SubV k H res H2 res' ∧ R res' H2 := endH ids he hres hR h5 h4 h1 h2 h3
end Go.Av
namespace Go.Av
inductive Pl
  | nil
  | take (i : Nat) (p : Pl)
  | only (i : Nat) (p : Pl)
  | two (i : Nat) (p : Pl) (j : Nat) (q : Pl)
def frB (cl : List Nat) (i j : Nat) : List Nat → List Nat → Bool
  | _, [] => true
  | pre, x :: r => (Nat.beq x i || (Nat.beq x j || pre.any fun a => bef cl a x)) && frB cl i j (pre ++ [x]) r
theorem frB_spec {cl : List Nat} {i j : Nat} : ∀ {A pre : List Nat} {x : Nat} {B : List Nat}, frB cl i j pre (A ++ x :: B) = true → x = i ∨ x = j ∨ ∃ a ∈ pre ++ A, bef cl a x = true
  | [], pre, x, B, h => by
    simp only [List.nil_append, frB, Bool.and_eq_true, Bool.or_eq_true, List.any_eq_true] at h
    rcases h.1 with h | h | ⟨a, ha, hb⟩
    · exact .inl (Nat.eq_of_beq_eq_true h)
    · exact .inr (.inl (Nat.eq_of_beq_eq_true h))
    · exact .inr (.inr ⟨a, by simpa using ha, hb⟩)
  | y :: A, pre, x, B, h => by
    simp only [List.cons_append, frB, Bool.and_eq_true] at h
    rcases frB_spec h.2 with h | h | ⟨a, ha, hb⟩
    · exact .inl h
    · exact .inr (.inl h)
    · exact .inr (.inr ⟨a, by simpa using ha, hb⟩)
def noB (i : Nat) (l : List Nat) : Bool := l.all fun a => !Nat.beq a i
theorem noB_spec {i : Nat} {l : List Nat} (h : noB i l = true) : i ∉ l := fun hm => by
  have := List.all_eq_true.1 h i hm
  simp at this
theorem split_one {i : Nat} {A B A' B' : List Nat} (e : A ++ i :: B = A' ++ i :: B') (h1 : i ∉ A') (h2 : i ∉ B') : A = A' ∧ B = B' := by
  rcases List.append_eq_append_iff.1 e with ⟨C, e1, e2⟩ | ⟨C, e1, e2⟩
  · cases C with
    | nil =>
      simp only [List.append_nil] at e1
      simp only [List.nil_append, List.cons.injEq] at e2
      exact ⟨e1.symm, e2.2⟩
    | cons c C =>
      simp only [List.cons_append, List.cons.injEq] at e2
      obtain ⟨rfl, _⟩ := e2
      exact absurd (by rw [e1]; simp) h1
  · cases C with
    | nil =>
      simp only [List.append_nil] at e1
      simp only [List.nil_append, List.cons.injEq] at e2
      exact ⟨e1, e2.2.symm⟩
    | cons c C =>
      simp only [List.cons_append, List.cons.injEq] at e2
      obtain ⟨rfl, e3⟩ := e2
      exact absurd (by rw [e3]; simp) h2
def okP2 (cl : List Nat) (zs : List IOper) : Pl → List Nat → Bool
  | .nil, rem => rem.isEmpty
  | .take i pl, rem => match splitL i rem, zs[i]? with
    | some (A, B), some x => quietX x && (A.all (fun j => !bef cl i j && apartJ zs x j) && (B.all (fun j => bef cl i j || apartJ zs x j) && okP2 cl zs pl (A ++ B)))
    | _, _ => false
  | .only i pl, rem => match rem with
    | a :: B => Nat.beq a i && (B.all (fun j => bef cl i j) && okP2 cl zs pl B)
    | [] => false
  | .two i p j q, rem => frB cl i j [] rem && match splitL i rem, splitL j rem with
    | some (A, B), some (C, D) => (noB i A && (noB i B && okP2 cl zs p (A ++ B))) && (noB j C && (noB j D && okP2 cl zs q (C ++ D)))
    | _, _ => false
def LP2 (P : Program) (k : Nat) (cl : List Nat) (zs : List IOper) : Pl → List (Nat × List (Nat × Nat)) → Fr → Heap → (Fr → Heap → Prop) → Prop
  | .nil, _, fr, H, K => K fr H
  | .take i pl, pend, fr, H, K => ∃ x B, zs[i]? = some x ∧ (∀ q ∈ rdX fr x, q ∈ B) ∧ RT P k [(x, [])] fr H fun fr' H' => LP2 P k cl zs pl (addP i B pend) fr' H' K
  | .only i pl, pend, fr, H, K => ∃ x, zs[i]? = some x ∧ RT P k [(x, protOf cl pend i)] fr H fun fr' H' => LP2 P k cl zs pl pend fr' H' K
  | .two i p j q, pend, fr, H, K => (∃ x, zs[i]? = some x ∧ RT P k [(x, protOf cl pend i)] fr H fun fr' H' => LP2 P k cl zs p pend fr' H' K) ∧ ∃ x, zs[j]? = some x ∧ RT P k [(x, protOf cl pend j)] fr H fun fr' H' => LP2 P k cl zs q pend fr' H' K
theorem LP2.sound {P : Program} {k : Nat} {cl : List Nat} {zs : List IOper} : ∀ (pl : Pl) (rem l : List Nat) (pend : List (Nat × List (Nat × Nat))) {fr : Fr} {H : Heap} {K : Fr → Heap → Prop}, okP2 cl zs pl rem = true → SchedI (fun a b => ¬ bef cl a b = true) rem l →
    LP2 P k cl zs pl pend fr H K → RT P k (l.map (item cl zs pend)) fr H (Kc K)
  | .nil, rem, l, pend, fr, H, K, hok, hs, h => by
    have e : rem = [] := by cases rem with | nil => rfl | cons => cases hok
    rw [hs.nil_inv e]
    exact .nil (.of h)
  | .two i p j q, rem, l, pend, fr, H, K, hok, hs, h => by
    simp only [okP2, Bool.and_eq_true] at hok
    obtain ⟨hf, hok⟩ := hok
    split at hok
    · rename_i A B C D e1 e2
      simp only [Bool.and_eq_true] at hok
      obtain ⟨⟨a1, a2, a3⟩, b1, b2, b3⟩ := hok
      have s1 := splitL_spec e1
      have s2 := splitL_spec e2
      obtain ⟨⟨x, hx, hi⟩, y, hy, hj⟩ := h
      cases hs with
      | nil => simp at s1
      | cons A0 z B0 l hA hs =>
        rcases frB_spec hf with h | h | ⟨a, ha, hb⟩
        · subst h
          obtain ⟨rfl, rfl⟩ := split_one s1 (noB_spec a1) (noB_spec a2)
          rw [List.map_cons, item_get hx]
          exact RT.cons (hi.mono fun fr' H' h => LP2.sound p _ l pend a3 hs h)
        · subst h
          obtain ⟨rfl, rfl⟩ := split_one s2 (noB_spec b1) (noB_spec b2)
          rw [List.map_cons, item_get hy]
          exact RT.cons (hj.mono fun fr' H' h => LP2.sound q _ l pend b3 hs h)
        · exact absurd hb (hA a (by simpa using ha))
    · cases hok
  | .only i pl, rem, l, pend, fr, H, K, hok, hs, h => by
    cases rem with
    | nil => cases hok
    | cons a B =>
      simp only [okP2, Bool.and_eq_true] at hok
      obtain ⟨e, hB, hok⟩ := hok
      have := Nat.eq_of_beq_eq_true e
      subst this
      obtain ⟨l1, l2, q1, q2, q3⟩ := hs.pull [] a B rfl
      have e1 : l1 = [] := by
        cases l1 with
        | nil => rfl
        | cons j l1 =>
          rcases q3 j (List.mem_cons_self ..) with h | ⟨h, h'⟩
          · cases h
          · exact absurd (List.all_eq_true.1 hB j h) h'
      subst e1
      subst q1
      obtain ⟨x, hx, h⟩ := h
      rw [List.nil_append, List.map_cons, item_get hx]
      exact RT.cons (h.mono fun fr' H' h => LP2.sound pl B l2 pend hok q2 h)
  | .take i pl, rem, l, pend, fr, H, K, hok, hs, h => by
    simp only [okP2] at hok
    split at hok
    · rename_i A B x e1 e2
      simp only [Bool.and_eq_true] at hok
      obtain ⟨hq, hA, hB, hok⟩ := hok
      have e := splitL_spec e1
      obtain ⟨l1, l2, q1, q2, q3⟩ := hs.pull A i B e
      obtain ⟨x', C, hx, hC, h⟩ := h
      rw [e2] at hx
      injection hx with hx
      subst hx
      subst q1
      rw [List.map_append, List.map_cons, item_get e2]
      have hap : ∀ j ∈ l1, ¬ bef cl i j = true ∧ apartJ zs x j = true := fun j hj => by
        rcases q3 j hj with h | ⟨h, h'⟩
        · have := List.all_eq_true.1 hA j h
          simp only [Bool.and_eq_true, Bool.not_eq_true'] at this
          exact ⟨by rw [this.1]; simp, this.2⟩
        · have := List.all_eq_true.1 hB j h
          simp only [Bool.or_eq_true] at this
          exact ⟨h', this.resolve_left h'⟩
      have key : ∀ (pend' : List (Nat × List (Nat × Nat))), (∀ j, ∀ q ∈ protOf cl pend j, q ∈ protOf cl pend' j) → (∀ j, ¬ bef cl i j = true → ∀ q ∈ C, q ∈ protOf cl pend' j) → ∀ (v : AV), Took x fr H v C → LP2 P k cl zs pl pend' (fr.put x.dst v) H K →
          RT P k (l1.map (item cl zs pend) ++ (x, protOf cl pend i) :: l2.map (item cl zs pend)) fr H (Kc K) := by
        intro pend' h1 h2 v ht h
        have hrt := LP2.sound pl (A ++ B) (l1 ++ l2) pend' hok q2 h
        rw [List.map_append] at hrt
        have hins := RT.insert (px := protOf cl pend i) (B := C) (l1.map (item cl zs pend')) hrt ht fun a ha => by
          obtain ⟨j, hj, rfl⟩ := List.mem_map.1 ha
          obtain ⟨p1, p2⟩ := hap j hj
          unfold apartJ at p2
          split at p2
          · rename_i y hy
            rw [item_get hy]
            exact ⟨p2, h2 j p1⟩
          · cases p2
        have hdrop : ∀ (L L' : List (IOper × List (Nat × Nat))), Fewer L' L → ∀ {fr : Fr} {H : Heap} {K : Fr → Heap → Prop}, RT P k L fr H K → RT P k L' fr H K := by
          intro L L' hf
          induction hf with
          | nil => exact fun h => h
          | @cons a b L' L hab _ ih =>
            obtain ⟨a1, a2⟩ := a
            obtain ⟨b1, b2⟩ := b
            obtain ⟨rfl, hsub⟩ := hab
            have kk : ∀ {H H' : Heap}, Keeps b2 H H' → Keeps a2 H H' := fun {H H'} h => by
              have hm := h.mem
              clear h
              induction a2 with
              | nil => trivial
              | cons q r ihr => exact ⟨hm q (hsub q (List.mem_cons_self ..)), ihr fun p hp => hsub p (List.mem_cons_of_mem _ hp)⟩
            intro fr H K h
            cases h with
            | op hg hx hs hp h => exact .op hg hx hs (kk hp) (ih h)
            | skip hg h => exact .skip hg (ih h)
            | call hk hg hx hc hp h => exact .call hk hg hx hc (fun res H' hr => kk (hp res H' hr)) fun res H' hr => ih (h res H' hr)
            | callV hk hg hx hf hc hp h => exact .callV hk hg hx hf hc (fun res H' hr => kk (hp res H' hr)) fun res H' hr => ih (h res H' hr)
        have fm : ∀ L : List Nat, Fewer (L.map (item cl zs pend)) (L.map (item cl zs pend')) := fun L => by
          induction L with
          | nil => exact .nil
          | cons j L ih => exact .cons ⟨rfl, h1 j⟩ ih
        have fa : ∀ {a b c d : List (IOper × List (Nat × Nat))}, Fewer a b → Fewer c d → Fewer (a ++ c) (b ++ d) := fun {a b c d} h1 h2 => by
          induction h1 with
          | nil => exact h2
          | cons h _ ih => exact .cons h ih
        exact (hdrop _ _ (fa (fm l1) (.cons ⟨rfl, fun q hq => hq⟩ (fm l2))) hins).mono fun _ _ => Kc.kc
      have fin : ∀ {fr' : Fr} {H' : Heap} {K' : Fr → Heap → Prop}, RT P k [] fr' H' K' → K' fr' H' := fun h => by
        cases h with
        | nil h => exact h
      have mk : ∀ (v : AV), Took x fr H v C → LP2 P k cl zs pl (addP i C pend) (fr.put x.dst v) H K → RT P k (l1.map (item cl zs pend) ++ (x, protOf cl pend i) :: l2.map (item cl zs pend)) fr H (Kc K) := by
        intro v ht h
        cases C with
        | nil => exact key pend (fun _ _ h => h) (fun _ _ q hq => by cases hq) v ht h
        | cons c C =>
          refine key ((i, c :: C) :: pend) (fun j q hq => ?_) (fun j hj q hq => ?_) v ht h
          · simp only [protOf]
            split
            · exact hq
            · exact List.mem_append_right _ hq
          · simp only [protOf]
            split
            · rename_i hb; exact absurd hb hj
            · exact List.mem_append_left _ hq
      unfold quietX at hq
      cases h with
      | @op _ _ _ _ _ _ o v H' hg hxa hst hp h =>
        rw [hxa] at hq
        obtain ⟨rfl, hst'⟩ := quiet_gi (g' := H.length) (i' := 0) (quietO_wr hq _ _ _) hst
        refine mk v (.inl ⟨hg, o, hxa, hq, hst', fun q hq' => hC q ?_⟩) (fin h)
        unfold rdX
        rw [hxa]
        exact hq'
      | skip hg h => exact mk _ (.inr ⟨hg, rfl⟩) (fin h)
      | call hk hg hxa => rw [hxa] at hq; cases hq
      | callV hk hg hxa => rw [hxa] at hq; cases hq
    · cases hok
section
variable {P : Program} {k : Nat} {fr : Fr} {H : Heap} {K : Fr → Heap → Prop} {cl : List Nat} {zs : List IOper} {i j : Nat} {x y : IOper} {p q : Pl} {pend : List (Nat × List (Nat × Nat))}
theorem LP2.z (h : K fr H) : LP2 P k cl zs .nil pend fr H K := h
theorem LP2.t0 (h : RT P k [(x, [])] fr H fun fr' H' => LP2 P k cl zs p pend fr' H' K) (hx : zs[i]? = some x := by rfl) (hB : rdX fr x = [] := by rfl) : LP2 P k cl zs (.take i p) pend fr H K := ⟨x, [], hx, fun q hq => by rw [hB] at hq; exact hq, h⟩
theorem LP2.t1 {g b : Nat} (h : RT P k [(x, [])] fr H fun fr' H' => LP2 P k cl zs p ((i, [(g, b)]) :: pend) fr' H' K) (hx : zs[i]? = some x := by rfl) (hB : rdX fr x = [(g, b)] := by rfl) : LP2 P k cl zs (.take i p) pend fr H K := ⟨x, [(g, b)], hx, fun q hq => by rw [hB] at hq; exact hq, h⟩
theorem LP2.t2 {g b g' b' : Nat} (h : RT P k [(x, [])] fr H fun fr' H' => LP2 P k cl zs p ((i, [(g, b), (g', b')]) :: pend) fr' H' K) (hx : zs[i]? = some x := by rfl) (hB : rdX fr x = [(g, b), (g', b')] := by rfl) : LP2 P k cl zs (.take i p) pend fr H K :=
  ⟨x, [(g, b), (g', b')], hx, fun q hq => by rw [hB] at hq; exact hq, h⟩
theorem LP2.c (h : RT P k [(x, protOf cl pend i)] fr H fun fr' H' => LP2 P k cl zs p pend fr' H' K) (hx : zs[i]? = some x := by rfl) : LP2 P k cl zs (.only i p) pend fr H K := ⟨x, hx, h⟩
theorem LP2.w (h1 : RT P k [(x, protOf cl pend i)] fr H fun fr' H' => LP2 P k cl zs p pend fr' H' K) (h2 : RT P k [(y, protOf cl pend j)] fr H fun fr' H' => LP2 P k cl zs q pend fr' H' K) (hx : zs[i]? = some x := by rfl) (hy : zs[j]? = some y := by rfl) : LP2 P k cl zs (.two i p j q) pend fr H K :=
  ⟨⟨x, hx, h1⟩, y, hy, h2⟩
end
end Go.Av
namespace Go.Av
set_option maxRecDepth 20000
theorem copM_next {P : Program} {op : Op} {x : Operand} (h : copM P op = some (.mop .next [x])) : op = .next x false := by
  unfold copM at h
  split at h
  · revert h; split <;> simp
  · simp only [Option.some.injEq, IOp.mop.injEq, List.cons.injEq, and_true, true_and] at h
    subst h
    rfl
  all_goals (revert h; (repeat' split) <;> simp; done)
set_option maxHeartbeats 1000000 in
theorem copX_mop {P : Program} {op : Op} {e : MOp} {xs : List Operand} (h : copX P op = some (.mop e xs)) : False := by
  unfold copX at h
  split at h
  all_goals (revert h; (repeat' split) <;> simp; done)
set_option maxHeartbeats 1000000 in
theorem cop_mop {P : Program} {op : Op} {e : MOp} {xs : List Operand} (h : cop P op = some (.mop e xs)) : False := by
  unfold cop at h
  split at h
  all_goals (revert h; (repeat' split) <;> simp; done)
theorem cact_next {P : Program} {op : Op} {x : Operand} (h : cact P op = some (.op (.mop .next [x]))) : op = .next x false := by
  unfold cact at h
  split at h
  · rename_i io hx
    simp only [Option.some.injEq, IAct.op.injEq] at h
    subst h
    exact copM_next hx
  split at h
  · rename_i io hx
    simp only [Option.some.injEq, IAct.op.injEq] at h
    subst h
    exact (copX_mop hx).elim
  · unfold cact0 at h
    split at h
    · cases h
    · cases h
    · simp only [Option.map_eq_some_iff, IAct.op.injEq] at h
      obtain ⟨a, ha, rfl⟩ := h
      exact (cop_mop ha).elim
theorem Reg.next {P : Program} {N k : Nat} {xs : List IOper} {fr : Fr} {H : Heap} {K : Fr → Heap → Prop} {d : Nat} {gd : Option (Nat × Bool)} {x : Operand} {g i : Nat} {cur : Option (Value × AV)} {es : List (Value × AV)} (hg : gok fr gd = some true)
    (hx : ev fr x = .ptr g i 0 0) (hh : hget H g i = some (.it cur es))
    (h0 : es = [] → Reg P N k xs ((d, .tup [.sc (.bool false)]) :: fr) H K)
    (h1 : ∀ l1 y l2, es = l1 ++ y :: l2 → Reg P N k xs ((d, .tup [.sc (.bool true), .sc y.1, y.2]) :: fr) (hset H g i (.it (some y) (l1 ++ l2))) K) :
    Reg P N k (⟨some d, gd, .op (.mop .next [x])⟩ :: xs) fr H K := by
  intro ops l hm M J tmps w hF hH hM Q hQ
  cases l with
  | nil => exact hm.elim
  | cons i0 l =>
    obtain ⟨⟨o0, ho, hc⟩, hm'⟩ := hm
    obtain ⟨c1, c2, c3⟩ := coper_some hc
    have hw := gok_sound hF c2 hg
    have hop := cact_next c3
    have rx := ev_rep (ds := []) hF x
    rw [hx] at rx
    simp only [wpOps, ho, hw, if_true]
    left
    generalize hcv : Act.eval ⟨tmps, []⟩ x = cv at rx
    cases rx with
    | ptr _ _ _ _ β lc hJ hb =>
      rw [Nat.zero_mul] at hcv
      obtain ⟨ob, e1, e2⟩ := hH.its hh hJ hb
      rcases next_it (P := P) hM e1 e2 o0.type with ⟨e3, hrun⟩ | ⟨l1, l2, y, e, w1, ob', e3, hw1, hrun, e4, e5, e6, e7⟩
      · have hrun2 : (execOp (Act.eval ⟨tmps, []⟩) o0).run P w = .ok (.value (.tuple #[.bool false])) w := by simp [execOp, hop, hcv, hrun]
        simp only [Oper.wp, hrun2, Oper.upon]
        rw [put_defers]
        exact h0 e3 ops l hm' M J _ w (hF.put c1 (.tup _ _ rfl fun j c v a b => by
          cases j with
          | zero => simp at a b; subst a; subst b; exact .sc _
          | succ j => simp at a)) hH hM Q hQ
      · have hrun2 : (execOp (Act.eval ⟨tmps, []⟩) o0).run P w = .ok (.value (.tuple #[.bool true, e.key, e.val])) (ChangeMaps.setBlock w1 β ob') := by simp [execOp, hop, hcv, hrun]
        have s1 : Step k M J H w M J H w1 := by
          rcases hw1 with rfl | rfl
          · exact .refl k hH hM
          · exact Step.drew k hH hM rfl rfl rfl rfl
        have hw1h : w1.heap[β]? = some ob := by rcases hw1 with rfl | rfl <;> exact e1
        have s2 : Step k M J H w1 M J (hset H g i (.it (some y) (l1 ++ l2))) (ChangeMaps.setBlock w1 β ob') := by
          refine Step.write k s1.hrep s1.mrep g i lc β _ hh rfl hJ hb ob' _ (fun _ => ⟨β, ob', hb, ?_, e7⟩) rfl rfl rfl rfl
          show (w1.heap.setIfInBounds β ob')[β]? = some ob'
          simp [lt_of_heap' hw1h]
        simp only [Oper.wp, hrun2, Oper.upon]
        rw [put_defers]
        have st := s1.trans s2
        refine h1 l1 y l2 e3 ops l hm' M J _ _ (hF.put c1 (.tup _ _ rfl fun j c v a b => ?_)) st.hrep st.mrep Q fun a' w'' hp => hQ a' w'' ?_
        · match j with
          | 0 => simp at a b; subst a; subst b; exact .sc _
          | 1 => simp at a b; subst a; subst b; rw [← e4]; exact .sc _
          | 2 => simp at a b; subst a; subst b; exact e5
          | j + 3 => simp at a
        · obtain ⟨M2, J2, fr2, H2, q1, q2, q3, q4⟩ := hp
          exact ⟨M2, J2, fr2, H2, st.trans q1, q2, q3, q4⟩
theorem Sub.trunc {k N : Nat} {fr : Fr} {H : Heap} {g i sz : Nat} {rows : List (List AV)} (n : Nat) (hg : hget H g i = some (.cells sz rows)) : Sub k N fr H fr (hset H g i (.cells sz (rows.take n))) := by
  intro M J tmps w hF hH hM
  have hget := fun g' i' => get_hset H g i (.cells sz (rows.take n)) g' i' (.inl (by rw [hg]; rfl))
  have hlive : ∀ g' i', liveAt (hset H g i (.cells sz (rows.take n))) g' i' → liveAt H g' i' := by
    rintro g' i' ⟨y, hy, hyl⟩
    rw [hget] at hy
    by_cases e : g' = g ∧ i' = i
    · obtain ⟨rfl, rfl⟩ := e; exact ⟨_, hg, rfl⟩
    · rw [if_neg e] at hy; exact ⟨y, hy, hyl⟩
  have hle : (rows.take n).length * sz ≤ rows.length * sz := Nat.mul_le_mul_right _ (by rw [List.length_take]; omega)
  have htake : ∀ (q : Nat) (r : List AV), (rows.take n)[q]? = some r → rows[q]? = some r := fun q r h => by
    rw [List.getElem?_take] at h
    split at h
    · exact h
    · cases h
  refine ⟨M, J, ⟨fun _ _ h => h, fun _ _ _ _ h => h, ⟨?_, ?_, ?_, ?_⟩, hM, rfl, rfl, rfl, Nat.le_refl _, fun _ _ h _ => h, fun _ _ h => .inl h, fun g' i' l β h1 h2 h3 => .inl ⟨g', i', l, hlive g' i' h1, h2, h3⟩, fun _ r h => ⟨r, h, rfl⟩⟩, hF⟩
  · intro g' i' x hx hl
    rw [hget] at hx
    by_cases e : g' = g ∧ i' = i
    · obtain ⟨rfl, rfl⟩ := e
      rw [if_pos ⟨rfl, rfl⟩] at hx
      injection hx with hx
      subst hx
      obtain ⟨l, h1, h2, h3, h4⟩ := hH.blk _ _ _ hg rfl
      refine ⟨l, h1, h2, fun q r hq => h3 q r (htake q r hq), ?_⟩
      cases e : l.blk with
      | none => rw [e] at h4; subst h4; simp
      | some β =>
        rw [e] at h4
        obtain ⟨cs, t, a, b, c, o, d⟩ := h4
        exact ⟨cs, t, a, b, by omega, fun j v hj => o j v (by omega), fun q r j c v hq => d q r j c v (htake q r hq)⟩
    · rw [if_neg e] at hx
      exact hH.blk _ _ _ hx hl
  · intro g1 i1 g2 i2 l1 l2 β a b
    exact hH.inj g1 i1 g2 i2 l1 l2 β (hlive _ _ a) (hlive _ _ b)
  · intro g' i' l β a
    exact hH.out g' i' l β (hlive _ _ a)
  · intro g' i' l a
    refine ⟨?_, (hH.dom g' i' l a).2⟩
    rw [hget]
    split
    · rfl
    · exact (hH.dom g' i' l a).1
end Go.Av
namespace Go.Av
inductive Bare : AV → Prop
  | undef : Bare .undef
  | sc (v : Value) : Bare (.sc v)
  | agg (cs : List AV) (h : ∀ c ∈ cs, Bare c) : Bare (.agg cs)
  | tup (cs : List AV) (h : ∀ c ∈ cs, Bare c) : Bare (.tup cs)
  | ptr (g i r o : Nat) : Bare (.ptr g i r o)
  | hsl (g i s l : Nat) : Bare (.hsl g i s l)
  | mref (g i : Nat) : Bare (.mref g i)
theorem Rep.anyM {M J} {a : AV} {v : Value} (h : Rep M J a v) (hb : Bare a) (M' : Mem) : Rep M' J a v := by
  induction hb generalizing v with
  | undef => cases h; exact .undef _
  | sc v => cases h; exact .sc _
  | agg cs _ ih =>
    cases h with
    | agg _ cvs hl hr => exact .agg _ cvs hl fun j c v a b => ih c (List.mem_of_getElem? a) (hr j c v a b)
  | tup cs _ ih =>
    cases h with
    | tup _ cvs hl hr => exact .tup _ cvs hl fun j c v a b => ih c (List.mem_of_getElem? a) (hr j c v a b)
  | ptr g i r o => cases h with | ptr _ _ _ _ β l hJ hb => exact .ptr _ _ _ _ β l hJ hb
  | hsl g i s l =>
    cases h with
    | hsl _ _ _ _ cap β l hJ hb hc hlc => exact .hsl _ _ _ _ cap β l hJ hb hc hlc
    | hslNil _ _ a l hJ hb => exact .hslNil _ _ a l hJ hb
  | mref g i => cases h with | mref _ _ β l hJ hb => exact .mref _ _ β l hJ hb
def BareB : Blk → Prop
  | .dead => True
  | .cells _ rows => ∀ r ∈ rows, ∀ c ∈ r, Bare c
  | _ => False
theorem BRep.anyM {M J} {l : Loc} {h : Array Obj} {x : Blk} (hb : BRep M J l h x) (hx : BareB x) (M' : Mem) : BRep M' J l h x := by
  cases x with
  | dead => trivial
  | cells sz rows =>
    obtain ⟨h1, h2, h3⟩ := hb
    refine ⟨h1, h2, ?_⟩
    cases e : l.blk with
    | none => rw [e] at h3; exact h3
    | some β =>
      rw [e] at h3
      obtain ⟨cs, t, a, b, c, o, d⟩ := h3
      exact ⟨cs, t, a, b, c, o, fun i r j c v x y z => (d i r j c v x y z).anyM (hx r (List.mem_of_getElem? x) c (List.mem_of_getElem? y)) M'⟩
  | _ => exact hx.elim
theorem CallOK.viewF {P : Program} {f : FuncId} {args args' : List AV} {R R' : AV → Heap → Prop} {H : Heap} (h : CallOK P f args' [] R) (ha : ToL (ToT (H ++ gh []) H.length (notIn [])) (rho []) args args')
    (hR : ∀ res H0, R res H0 → Bare res ∧ (∀ g i x, hget H0 g i = some x → BareB x) ∧ ∃ res' H0', Ren (beh H.length) res res' ∧ (∀ g i x', hget H0' g i = some x' → x'.live = true → ∃ x, hget H0 g i = some x ∧ RenB (beh H.length) x x') ∧ (∀ g i, (hget H0 g i).isSome → (hget H0' g i).isSome) ∧ R' res' (H ++ H0')) : CallOK P f args H R' := by
  refine ⟨h.1, fun M J w cargs hl hr hH hM => ?_⟩
  obtain ⟨h1, h2⟩ := ha.spec
  obtain ⟨M1, J1, s1, t1⟩ := to_step (k := 0) (szs := []) (ids := []) (H' := []) hH hM rfl rfl rfl trivial
  refine (h.2 M1 J1 w cargs (by omega) (fun j c x a b => ?_) s1.hrep s1.mrep).mono ?_
  · obtain ⟨c0, hc0⟩ := get_of_len h1 a
    exact t1 _ _ _ (h2 j c0 c hc0 a) (hr j c0 x hc0 b)
  rintro e w' ⟨cv, M', J', res, H0, rfl, hs, hrep, hr0⟩
  obtain ⟨b1, b2, res', H0', r1, r2, r3, r4⟩ := hR res H0 hr0
  have hno : ∀ g i, ¬ liveAt [] g i := by
    rintro g i ⟨x, hx, _⟩
    simp [hget] at hx
  have hsame : ∀ (β : Nat) o, w.heap[β]? = some o → w'.heap[β]? = some o := fun β o ho => hs.frame β o ho fun g i l hl _ => absurd hl (hno g i)
  let J2 : Inj := fun a b => if a < H.length then J a b else J' (a - H.length) b
  have hJlt : ∀ g i l, J g i = some l → g < H.length := fun g i l hJ => hget_lt ((hH.dom g i l hJ).1)
  have x1 : Ext M J M J2 := ⟨fun _ _ h => h, fun g i l hJ => by
    show (if g < H.length then J g i else J' (g - H.length) i) = some l
    rw [if_pos (hJlt g i l hJ)]; exact hJ⟩
  have x2 : Ext M (J'.via (beh H.length)) M J2 := ⟨fun _ _ h => h, fun a b l hJ => by
    show (if a < H.length then J a b else J' (a - H.length) b) = some l
    by_cases hlt : a < H.length
    · unfold Inj.via at hJ
      rw [beh_lt hlt] at hJ
      cases hJ
    · rw [if_neg hlt]
      unfold Inj.via at hJ
      rw [beh_ge (by omega)] at hJ
      exact hJ⟩
  have hl1 : ∀ a b, a < H.length → liveAt (H ++ H0') a b → liveAt H a b := by
    rintro a b hlt ⟨x, hx, hxl⟩
    rw [hget_app_lt hlt] at hx
    exact ⟨x, hx, hxl⟩
  have hl2 : ∀ a b, H.length ≤ a → liveAt (H ++ H0') a b → liveAt H0 (a - H.length) b := by
    rintro a b hge ⟨x, hx, hxl⟩
    rw [hget_app_ge hge] at hx
    obtain ⟨y, hy, hb⟩ := r2 _ _ x hx hxl
    exact ⟨y, hy, hb.live hxl⟩
  have j1 : ∀ {a b : Nat} {l : Loc}, a < H.length → J2 a b = some l → J a b = some l := fun {a b l} hlt hJ => by
    have : (if a < H.length then J a b else J' (a - H.length) b) = some l := hJ
    rwa [if_pos hlt] at this
  have j2 : ∀ {a b : Nat} {l : Loc}, H.length ≤ a → J2 a b = some l → J' (a - H.length) b = some l := fun {a b l} hge hJ => by
    have : (if a < H.length then J a b else J' (a - H.length) b) = some l := hJ
    rwa [if_neg (by omega)] at this
  have hnew : ∀ g i l β, liveAt H0 g i → J' g i = some l → l.blk = some β → w.heap.size ≤ β := fun g i l β a b c => by
    rcases hs.live g i l β a b c with ⟨g0, i0, l0, q, _⟩ | q
    · exact absurd q (hno g0 i0)
    · exact q
  refine ⟨cv, M, J2, res', H ++ H0', rfl, ⟨fun _ _ h => h, fun g i l hg hJ => x1.j g i l hJ, ⟨?_, ?_, ?_, ?_⟩, fun β o ho => hsame β o (hM β o ho), hs.os, hs.tape, hs.output, hs.size, fun β o ho _ => hsame β o ho, fun β o ho => .inl ho, ?_, hs.bk⟩, ((hrep.anyM b1 M).ren r1).ext x2, r4⟩
  · intro a b x hx hxl
    by_cases hlt : a < H.length
    · rw [hget_app_lt hlt] at hx
      obtain ⟨l, p, q⟩ := hH.blk a b x hx hxl
      refine ⟨l, x1.j a b l p, q.ext x1 fun β hβ => ?_⟩
      have hb := (hH.dom a b l p).2 β hβ
      rw [Array.getElem?_eq_getElem hb]
      exact hsame β _ (Array.getElem?_eq_getElem hb)
    · rw [hget_app_ge (by omega)] at hx
      obtain ⟨y, hy, hb⟩ := r2 _ _ x hx hxl
      obtain ⟨l, p, q⟩ := hs.hrep.blk _ _ y hy (hb.live hxl)
      refine ⟨l, x2.j a b l ?_, ((q.anyM (b2 _ _ y hy) M).ren hb).ext x2 fun β _ => rfl⟩
      unfold Inj.via
      rw [beh_ge (by omega)]
      exact p
  · intro a b a' b' l l' β la lb ja jb ba bb
    by_cases h1 : a < H.length
    · by_cases h2 : a' < H.length
      · exact hH.inj a b a' b' l l' β (hl1 a b h1 la) (hl1 a' b' h2 lb) (j1 h1 ja) (j1 h2 jb) ba bb
      · have q1 := (hH.dom a b l (j1 h1 ja)).2 β ba
        have q2 := hnew _ _ l' β (hl2 a' b' (by omega) lb) (j2 (by omega) jb) bb
        omega
    · by_cases h2 : a' < H.length
      · have q1 := (hH.dom a' b' l' (j1 h2 jb)).2 β bb
        have q2 := hnew _ _ l β (hl2 a b (by omega) la) (j2 (by omega) ja) ba
        omega
      · have := hs.hrep.inj _ _ _ _ l l' β (hl2 a b (by omega) la) (hl2 a' b' (by omega) lb) (j2 (by omega) ja) (j2 (by omega) jb) ba bb
        exact ⟨by omega, this.2⟩
  · intro a b l β la ja ba
    by_cases h1 : a < H.length
    · exact hH.out a b l β (hl1 a b h1 la) (j1 h1 ja) ba
    · exact hM.lt (hnew _ _ l β (hl2 a b (by omega) la) (j2 (by omega) ja) ba)
  · intro a b l ja
    by_cases h1 : a < H.length
    · have := hH.dom a b l (j1 h1 ja)
      exact ⟨by rw [hget_app_lt h1]; exact this.1, fun β hβ => Nat.lt_of_lt_of_le (this.2 β hβ) hs.size⟩
    · have := hs.hrep.dom _ _ l (j2 (by omega) ja)
      exact ⟨by rw [hget_app_ge (by omega)]; exact r3 _ _ this.1, this.2⟩
  · intro a b l β la ja ba
    by_cases h1 : a < H.length
    · exact .inl ⟨a, b, l, hl1 a b h1 la, j1 h1 ja, ba⟩
    · exact .inr (hnew _ _ l β (hl2 a b (by omega) la) (j2 (by omega) ja) ba)
theorem CallOK.viewL {P : Program} {f : FuncId} {args args' : List AV} {n sz : Nat} {rows : List (List AV)} {H : Heap} (hb : ∀ r ∈ rows, ∀ c ∈ r, ∃ v, c = .sc v) (h : CallOK P f args' [] fun res H' => res = .hsl 0 0 0 n ∧ H' = [[.cells sz rows]]) (ha : ToL (ToT (H ++ gh []) H.length (notIn [])) (rho []) args args') :
    CallOK P f args H fun res H' => res = .hsl H.length 0 0 n ∧ H' = H ++ [[.cells sz rows]] := by
  refine h.viewF ha ?_
  rintro res H0 ⟨rfl, rfl⟩
  refine ⟨.hsl .., fun g i x hx => ?_, .hsl H.length 0 0 n, [[.cells sz rows]], .hsl _ _ _ _ _ _ (by rw [beh_ge (Nat.le_refl _), Nat.sub_self]), fun g i x' hx hl => ⟨x', hx, ?_⟩, fun _ _ h => h, rfl, rfl⟩
  · match g, i with
    | 0, 0 =>
      injection hx with hx
      subst hx
      intro r hr c hc
      obtain ⟨v, rfl⟩ := hb r hr c hc
      exact .sc v
    | 0, i + 1 => simp [hget] at hx
    | g + 1, i => simp [hget] at hx
  · match g, i with
    | 0, 0 =>
      injection hx with hx
      subst hx
      exact .pure _ _ fun r hr c hc => by
        obtain ⟨v, rfl⟩ := hb r hr c hc
        exact .sc v
    | 0, i + 1 => simp [hget] at hx
    | g + 1, i => simp [hget] at hx
theorem dstep_appN {g i : Nat} {fr : Fr} {H : Heap} {bytes m : Nat} {z : List (Nat × Value)} {s x : Operand} (hs : ev fr s = .sc (.slice none 0 0)) (hx : ev fr x = .sc (.int .i64 ((m + 1 : Nat) : Int))) (hb : (m + 1) * (bytes + 1) ≤ 70368744177664) :
    dstep g i (.mop (.appN bytes z) [s, x]) fr H = some (.hsl g i 0 (m + 1), hset H g i (.cells (zrow z).length (List.replicate (m + 1) (zrow z)))) := by
  have e : Nat.ble ((m + 1) * (bytes + 1)) 70368744177664 = true := Nat.ble_eq_true_of_le hb
  simp only [dstep, avals, List.map_cons, List.map_nil, hs, hx]
  show (match Nat.ble ((m + 1) * (bytes + 1)) 70368744177664 with | true => _ | false => _) = _
  rw [e]
theorem dstep_cut {g i : Nat} {fr : Fr} {H : Heap} {sz : Nat} {x hi : Operand} {k : IntKind} {q g' i' st len : Nat} {rows : List (List AV)} (hx : ev fr x = .hsl g' i' st len) (hh : ev fr hi = .sc (.int k (q : Int))) (hg : hget H g' i' = some (.cells sz rows)) (hq : q ≤ len) :
    dstep g i (.slice sz x none (some hi) none) fr H = some (.hsl g' i' st q, H) := by
  have e0 : Nat.ble 0 q = true := Nat.ble_eq_true_of_le (Nat.zero_le _)
  have e1 : Nat.ble q len = true := Nat.ble_eq_true_of_le hq
  have e2 : Nat.ble len len = true := Nat.ble_eq_true_of_le (Nat.le_refl _)
  have e3 : sbounds fr len none (some hi) none = some (0, q) := by
    simp only [sbounds, sbnd, hh]
    show (match Nat.ble 0 q && (Nat.ble q len && Nat.ble len len) && true with | true => some (0, q) | false => none) = _
    rw [e0, e1, e2]
    rfl
  have e4 : Nat.beq sz sz = true := by simp
  simp only [dstep, hx, hg, e4, e3]
end Go.Av
