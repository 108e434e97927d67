import Derived.Test.YtbpmbofinoinmaaGAvLr
import Derived.Test.YtbpmbofinoinmaaGAvR
import Derived.Test.YtbpmbofinoinmaaGAv23
namespace Go.Av
structure Boxed (p : Prop) : Prop where
 out : p
theorem walkX {G G' : Prop} (h : G') (t : Boxed G' → G := by intro hw9; (repeat (first | refine wr13 ?_ | refine wd13 ?_ | refine wr14 ?_ | refine wv1 ?_ | refine wv2 ?_ | refine wv3 ?_ | refine wv4 ?_ | refine wv5 ?_ | refine wv6 ?_ | refine wv7 ?_ | refine wv8 ?_ | refine wv9 ?_ | refine wv10 ?_ | refine wr1 ?_ | refine wr2 ?_ | refine wr3 ?_ | refine wr4 ?_ | refine Reg.nil ?_ | refine wd1 ?_ | refine wd2 ?_ | refine wd3 ?_ | refine wd4 ?_ | refine AWP.seq ?_ | refine AWP.region ?_ | refine AWP.dk mixed ?_ | refine AWP.condT rfl ?_ | refine AWP.condF rfl ?_ | refine AWP.skip ?_ | refine AWP.ret ?_ | refine AWP.exit ?_ | refine AWP.block ?_ | refine wr5 ?_ | refine wr6 ?_ | refine wr7 ?_ | refine wr8 ?_ | refine wr9 ?_ | refine wr10 ?_ | refine wd5 ?_ | refine wd6 ?_ | refine wd7 ?_ | refine wd8 ?_ | refine wd9 ?_ | refine wd10 ?_ | refine wr11 ?_ | refine wr12 ?_ | refine wd11 ?_ | refine wd12 ?_ )); exact hw9.out) : G := t ⟨h⟩
theorem walkR {G G' : Prop} (h : G') (t : Boxed G' → G := by intro hw9; (repeat (first | refine wr13 ?_ | refine wd13 ?_ | refine wr14 ?_ | refine wv1 ?_ | refine wv2 ?_ | refine wv3 ?_ | refine wv4 ?_ | refine wv5 ?_ | refine wv6 ?_ | refine wv7 ?_ | refine wv8 ?_ | refine wv9 ?_ | refine wv10 ?_ | refine wr1 ?_ | refine wr2 ?_ | refine wr3 ?_ | refine wr4 ?_ | refine Reg.nil ?_ | refine wd1 ?_ | refine wd2 ?_ | refine wd3 ?_ | refine wd4 ?_ | refine wr5 ?_ | refine wr6 ?_ | refine wr7 ?_ | refine wr8 ?_ | refine wr9 ?_ | refine wr10 ?_ | refine wd5 ?_ | refine wd6 ?_ | refine wd7 ?_ | refine wd8 ?_ | refine wd9 ?_ | refine wd10 ?_ | refine wr11 ?_ | refine wr12 ?_ | refine wd11 ?_ | refine wd12 ?_ )); exact hw9.out) : G := t ⟨h⟩
theorem walkX0 {G G' : Prop} (h : G') (t : Boxed G' → G := by intro hw9; (repeat (first | refine wr13 ?_ | refine wd13 ?_ | refine wr14 ?_ | refine wv1 ?_ | refine wv2 ?_ | refine wv3 ?_ | refine wv4 ?_ | refine wv5 ?_ | refine wv6 ?_ | refine wv7 ?_ | refine wv8 ?_ | refine wv9 ?_ | refine wv10 ?_ | refine wr1 ?_ | refine wr2 ?_ | refine wr3 ?_ | refine wr4 ?_ | refine Reg.nil ?_ | refine wd1 ?_ | refine wd2 ?_ | refine wd3 ?_ | refine wd4 ?_ | refine AWP.seq ?_ | refine AWP.region ?_ | refine AWP.condT rfl ?_ | refine AWP.condF rfl ?_ | refine AWP.skip ?_ | refine AWP.ret ?_ | refine AWP.exit ?_ | refine AWP.block ?_ | refine wr5 ?_ | refine wr6 ?_ | refine wr7 ?_ | refine wr8 ?_ | refine wr9 ?_ | refine wr10 ?_ | refine wd5 ?_ | refine wd6 ?_ | refine wd7 ?_ | refine wd8 ?_ | refine wd9 ?_ | refine wd10 ?_ | refine wr11 ?_ | refine wr12 ?_ | refine wd11 ?_ | refine wd12 ?_ )); exact hw9.out) : G := t ⟨h⟩
theorem Sub.w {k N : Nat} {fr fr' : Fr} {H H' : Heap} (szs : List Nat) (ids : List (List (Nat × Nat))) (h4 : famsTo (ToB (ToT (H ++ gh szs) H.length (notIn ids)) (rho ids)) (H ++ gh szs) ids H' := by (repeat' (first | exact ToAll.nil | exact famsTo.nil | exact famTo.nil | exact ToL.nil | exact ToR.nil | refine ToAll.cons ?_ ?_ | refine famsTo.cons ?_ ?_ | refine wt10 ?_ ?_ | exact To.undef _ | exact To.sc _ | exact To.hslL rfl rfl | exact To.ptrO rfl rfl rfl | exact To.mrefO rfl | exact To.nil rfl rfl rfl | exact wt1 | exact To.nilL | refine To.int ?_ | refine To.bool ?_ | refine To.hslL rfl ?_ | refine wt2 rfl ?_ ?_ ?_ | refine To.tupL ?_ | refine To.aggL ?_ | refine To.cptrL ?_ | refine wt3 ?_ | refine wt4 ?_ | refine To.cloL ?_ ?_ | exact wt5 | refine wt6 ?_ | refine ToB.one ?_ | exact wt7 | ((with_reducible apply ToL.consE); case e9 => rfl) | refine wt8 ?_ | refine ToL.cons ?_ ?_ | exact wt11 | refine wt9 ?_ ?_ | refine wt12 ?_ | (with_reducible rfl) | assumption)); all_goals (first | rfl | assumption | (simp; done) | (simp; omega) | (rw [wrap_small (by omega) (by omega)]; done) | (rw [wrap_small (by omega) (by omega)]; omega) | (refine congrArg Nat.cast ?_; assumption)))
  (h5 : ToAll (ToT (H ++ gh szs) H.length (notIn ids)) (rho ids) fr fr' := by (repeat' (first | exact ToAll.nil | exact famsTo.nil | exact famTo.nil | exact ToL.nil | exact ToR.nil | refine ToAll.cons ?_ ?_ | refine famsTo.cons ?_ ?_ | refine wt10 ?_ ?_ | exact To.undef _ | exact To.sc _ | exact To.hslL rfl rfl | exact To.ptrO rfl rfl rfl | exact To.mrefO rfl | exact To.nil rfl rfl rfl | exact wt1 | exact To.nilL | refine To.int ?_ | refine To.bool ?_ | refine To.hslL rfl ?_ | refine wt2 rfl ?_ ?_ ?_ | refine To.tupL ?_ | refine To.aggL ?_ | refine To.cptrL ?_ | refine wt3 ?_ | refine wt4 ?_ | refine To.cloL ?_ ?_ | exact wt5 | refine wt6 ?_ | refine ToB.one ?_ | exact wt7 | ((with_reducible apply ToL.consE); case e9 => rfl) | refine wt8 ?_ | refine ToL.cons ?_ ?_ | exact wt11 | refine wt9 ?_ ?_ | refine wt12 ?_ | (with_reducible rfl) | assumption)); all_goals (first | rfl | assumption | (simp; done) | (simp; omega) | (rw [wrap_small (by omega) (by omega)]; done) | (rw [wrap_small (by omega) (by omega)]; omega) | (refine congrArg Nat.cast ?_; assumption))) (h1 : lowOK 0 k ids = true := by rfl) (h2 : lens k ids (H ++ gh szs) = true := by rfl) (h3 : ndup ids.flatten = true := by rfl) : Sub k N fr H fr' H' := .to szs ids h5 h4 h1 h2 h3
theorem Sub.wr {k N : Nat} {fr fr' : Fr} {H H' : Heap} (szs : List Nat) (ids : List (List (Nat × Nat))) (h4 : famsTo (ToB (ToT (H ++ gh szs) H.length (notIn ids)) (rho ids)) (H ++ gh szs) ids H' := by (repeat' (first | exact ToAll.nil | exact famsTo.nil | exact famTo.nil | exact ToL.nil | exact ToR.nil | refine ToAll.cons ?_ ?_ | refine famsTo.cons ?_ ?_ | refine wt10 ?_ ?_ | exact To.undef _ | exact To.sc _ | exact To.hslL rfl rfl | exact To.ptrO rfl rfl rfl | exact To.mrefO rfl | exact To.nil rfl rfl rfl | exact wt1 | exact To.nilL | refine To.int ?_ | refine To.bool ?_ | refine To.hslL rfl ?_ | refine wt2 rfl ?_ ?_ ?_ | refine To.tupL ?_ | refine To.aggL ?_ | refine To.cptrL ?_ | refine wt3 ?_ | refine wt4 ?_ | refine To.cloL ?_ ?_ | refine ToB.one ?_ | exact wt5 | refine ToB.rowsR (ToR.cons ?_ ?_) | refine ToR.cons ?_ ?_ | refine wt6 ?_ | ((with_reducible apply ToL.consE); case e9 => rfl) | refine ToL.cons ?_ ?_ | exact wt7 | refine wt8 ?_ | exact wt11 | refine wt9 ?_ ?_ | refine wt12 ?_ | (with_reducible rfl) | assumption)); all_goals (first | rfl | assumption | (simp; done) | (simp; omega) | (rw [wrap_small (by omega) (by omega)]; done) | (rw [wrap_small (by omega) (by omega)]; omega) | (refine congrArg Nat.cast ?_; assumption)))
  (h5 : ToAll (ToT (H ++ gh szs) H.length (notIn ids)) (rho ids) fr fr' := by (repeat' (first | exact ToAll.nil | exact famsTo.nil | exact famTo.nil | exact ToL.nil | exact ToR.nil | refine ToAll.cons ?_ ?_ | refine famsTo.cons ?_ ?_ | refine wt10 ?_ ?_ | exact To.undef _ | exact To.sc _ | exact To.hslL rfl rfl | exact To.ptrO rfl rfl rfl | exact To.mrefO rfl | exact To.nil rfl rfl rfl | exact wt1 | exact To.nilL | refine To.int ?_ | refine To.bool ?_ | refine To.hslL rfl ?_ | refine wt2 rfl ?_ ?_ ?_ | refine To.tupL ?_ | refine To.aggL ?_ | refine To.cptrL ?_ | refine wt3 ?_ | refine wt4 ?_ | refine To.cloL ?_ ?_ | refine ToB.one ?_ | exact wt5 | refine ToB.rowsR (ToR.cons ?_ ?_) | refine ToR.cons ?_ ?_ | refine wt6 ?_ | ((with_reducible apply ToL.consE); case e9 => rfl) | refine ToL.cons ?_ ?_ | exact wt7 | refine wt8 ?_ | exact wt11 | refine wt9 ?_ ?_ | refine wt12 ?_ | (with_reducible rfl) | assumption)); all_goals (first | rfl | assumption | (simp; done) | (simp; omega) | (rw [wrap_small (by omega) (by omega)]; done) | (rw [wrap_small (by omega) (by omega)]; omega) | (refine congrArg Nat.cast ?_; assumption))) (h1 : lowOK 0 k ids = true := by rfl) (h2 : lens k ids (H ++ gh szs) = true := by rfl) (h3 : ndup ids.flatten = true := by rfl) : Sub k N fr H fr' H' := .to szs ids h5 h4 h1 h2 h3
theorem EndP.w {rs : List IRes} {X : AV} {e : Exit} {fr : Fr} {H : Heap} {res : AV} (he : e = .normal ∨ e = .ret := by first | exact .inr rfl | exact .inl rfl) (h : resOf fr H rs = some res := by rfl)
  (t : To (ToT (H ++ gh []) H.length (notIn [])) (rho []) res X := by (repeat' (first | exact ToAll.nil | exact famsTo.nil | exact famTo.nil | exact ToL.nil | exact ToR.nil | refine ToAll.cons ?_ ?_ | refine famsTo.cons ?_ ?_ | refine wt10 ?_ ?_ | exact To.undef _ | exact To.sc _ | exact To.hslL rfl rfl | exact To.ptrO rfl rfl rfl | exact To.mrefO rfl | exact To.nil rfl rfl rfl | exact wt1 | exact To.nilL | refine To.int ?_ | refine To.bool ?_ | refine To.hslL rfl ?_ | refine wt2 rfl ?_ ?_ ?_ | refine To.tupL ?_ | refine To.aggL ?_ | refine To.cptrL ?_ | refine wt3 ?_ | refine wt4 ?_ | refine To.cloL ?_ ?_ | exact wt5 | refine wt6 ?_ | refine ToB.one ?_ | exact wt7 | ((with_reducible apply ToL.consE); case e9 => rfl) | refine wt8 ?_ | refine ToL.cons ?_ ?_ | exact wt11 | refine wt9 ?_ ?_ | refine wt12 ?_ | (with_reducible rfl) | assumption)); all_goals (first | rfl | assumption | (simp; done) | (simp; omega) | (rw [wrap_small (by omega) (by omega)]; done) | (rw [wrap_small (by omega) (by omega)]; omega) | (refine congrArg Nat.cast ?_; assumption))) : EndP rs X e fr H := .mk he h rfl t
theorem endW {k : Nat} {rs : List IRes} {fr : Fr} {H : Heap} {e : Exit} {R : AV → Heap → Prop} {res res' : AV} {H2 : Heap} (ids : List (List (Nat × Nat))) (hR : R res' H2) (he : e = .normal ∨ e = .ret := by first | exact .inr rfl | exact .inl rfl) (hres : resOf fr H rs = some res := by rfl)
  (h5 : To (ToT (H ++ gh []) H.length (notIn ids)) (rho ids) res res' := by (repeat' (first | exact ToAll.nil | exact famsTo.nil | exact famTo.nil | exact ToL.nil | exact ToR.nil | refine ToAll.cons ?_ ?_ | refine famsTo.cons ?_ ?_ | refine wt10 ?_ ?_ | exact To.undef _ | exact To.sc _ | exact To.hslL rfl rfl | exact To.ptrO rfl rfl rfl | exact To.mrefO rfl | exact To.nil rfl rfl rfl | exact wt1 | exact To.nilL | refine To.int ?_ | refine To.bool ?_ | refine To.hslL rfl ?_ | refine wt2 rfl ?_ ?_ ?_ | refine To.tupL ?_ | refine To.aggL ?_ | refine To.cptrL ?_ | refine wt3 ?_ | refine wt4 ?_ | refine To.cloL ?_ ?_ | exact wt5 | refine wt6 ?_ | refine ToB.one ?_ | exact wt7 | ((with_reducible apply ToL.consE); case e9 => rfl) | refine wt8 ?_ | refine ToL.cons ?_ ?_ | exact wt11 | refine wt9 ?_ ?_ | refine wt12 ?_ | (with_reducible rfl) | assumption)); all_goals (first | rfl | assumption | (simp; done) | (simp; omega) | (rw [wrap_small (by omega) (by omega)]; done) | (rw [wrap_small (by omega) (by omega)]; omega) | (refine congrArg Nat.cast ?_; assumption))) (h4 : famsTo (ToB (ToT (H ++ gh []) H.length (notIn ids)) (rho ids)) (H ++ gh []) ids H2 := by (repeat' (first | exact ToAll.nil | exact famsTo.nil | exact famTo.nil | exact ToL.nil | exact ToR.nil | refine ToAll.cons ?_ ?_ | refine famsTo.cons ?_ ?_ | refine wt10 ?_ ?_ | exact To.undef _ | exact To.sc _ | exact To.hslL rfl rfl | exact To.ptrO rfl rfl rfl | exact To.mrefO rfl | exact To.nil rfl rfl rfl | exact wt1 | exact To.nilL | refine To.int ?_ | refine To.bool ?_ | refine To.hslL rfl ?_ | refine wt2 rfl ?_ ?_ ?_ | refine To.tupL ?_ | refine To.aggL ?_ | refine To.cptrL ?_ | refine wt3 ?_ | refine wt4 ?_ | refine To.cloL ?_ ?_ | exact wt5 | refine wt6 ?_ | refine ToB.one ?_ | exact wt7 | ((with_reducible apply ToL.consE); case e9 => rfl) | refine wt8 ?_ | refine ToL.cons ?_ ?_ | exact wt11 | refine wt9 ?_ ?_ | refine wt12 ?_ | (with_reducible rfl) | assumption)); all_goals (first | rfl | assumption | (simp; done) | (simp; omega) | (rw [wrap_small (by omega) (by omega)]; done) | (rw [wrap_small (by omega) (by omega)]; omega) | (refine congrArg Nat.cast ?_; assumption))) (h1 : lowOK 0 k ids = true := by rfl) (h2 : lens k ids (H ++ gh []) = true := by rfl) (h3 : ndup ids.flatten = true := by rfl) :
  (e = .normal ∨ e = .ret) ∧ ∃ res res' H2, resOf fr H rs = some res ∧ SubV k H res H2 res' ∧ R res' H2 := endH ids he hres hR h5 h4 h1 h2 h3
end Go.Av
namespace Go.Av
theorem walkO {G G' : Prop} (h : G') (t : Boxed G' → G := by intro hw9; (repeat (first | refine Reg.o rfl rfl ?_ | refine Reg.on rfl rfl ?_ | refine Reg.s rfl ?_ | refine Reg.sn rfl ?_ | refine Reg.nil ?_ | refine DK.o rfl rfl ?_ | refine DK.on rfl rfl ?_ | refine DK.s rfl ?_ | refine DK.sn rfl ?_ | refine AWP.seq ?_ | refine AWP.region ?_ | refine AWP.dk mixed ?_ | refine AWP.condT rfl ?_ | refine AWP.condF rfl ?_ | refine AWP.skip ?_ | refine AWP.ret ?_ | refine AWP.exit ?_ | refine AWP.block ?_ )); exact hw9.out) : G := t ⟨h⟩
end Go.Av
namespace Go.Av
set_option maxRecDepth 20000
end Go.Av
namespace Go.Av
set_option maxRecDepth 20000
end Go.Av
namespace Go.Av
inductive Bare : AV → Prop
 | undef : Bare .undef
 | sc (v : Value) : Bare (.sc v)
 | agg (cs : List AV) (h : ∀ c ∈ cs, Bare c) : Bare (.agg cs)
 | tup (cs : List AV) (h : ∀ c ∈ cs, Bare c) : Bare (.tup cs)
 | ptr (g i r o : Nat) : Bare (.ptr g i r o)
 | hsl (g i s l : Nat) : Bare (.hsl g i s l)
 | mref (g i : Nat) : Bare (.mref g i)
theorem Rep.anyM {M J} {a : AV} {v : Value} (h : Rep M J a v) (hb : Bare a) (M' : Mem) : Rep M' J a v := by
 induction hb generalizing v with
 | undef => cases h; exact .undef _
 | sc v => cases h; exact .sc _
 | agg cs _ ih =>
  cases h with
  | agg _ cvs hl hr => exact .agg _ cvs hl fun j c v a b => ih c (List.mem_of_getElem? a) (hr j c v a b)
 | tup cs _ ih =>
  cases h with
  | tup _ cvs hl hr => exact .tup _ cvs hl fun j c v a b => ih c (List.mem_of_getElem? a) (hr j c v a b)
 | ptr g i r o => cases h with | ptr _ _ _ _ β l hJ hb => exact .ptr _ _ _ _ β l hJ hb
 | hsl g i s l =>
  cases h with
  | hsl _ _ _ _ cap β l hJ hb hc hlc => exact .hsl _ _ _ _ cap β l hJ hb hc hlc
  | hslNil _ _ a l hJ hb => exact .hslNil _ _ a l hJ hb
 | mref g i => cases h with | mref _ _ β l hJ hb => exact .mref _ _ β l hJ hb
def BareB : Blk → Prop
 | .dead => True
 | .cells _ rows => ∀ r ∈ rows, ∀ c ∈ r, Bare c
 | _ => False
theorem BRep.anyM {M J} {l : Loc} {h : Array Obj} {x : Blk} (hb : BRep M J l h x) (hx : BareB x) (M' : Mem) : BRep M' J l h x := by
 cases x with
 | dead => trivial
 | cells sz rows =>
  obtain ⟨h1, h2, h3⟩ := hb
  refine ⟨h1, h2, ?_⟩
  cases e : l.blk with
  | none => rw [e] at h3; exact h3
  | some β =>
   rw [e] at h3
   obtain ⟨cs, t, a, b, c, o, d⟩ := h3
   exact ⟨cs, t, a, b, c, o, fun i r j c v x y z => (d i r j c v x y z).anyM (hx r (List.mem_of_getElem? x) c (List.mem_of_getElem? y)) M'⟩
 | _ => exact hx.elim
theorem CallOK.viewF {P : Program} {f : FuncId} {args args' : List AV} {R R' : AV → Heap → Prop} {H : Heap} (h : CallOK P f args' [] R) (ha : ToL (ToT (H ++ gh []) H.length (notIn [])) (rho []) args args')
  (hR : ∀ res H0, R res H0 → Bare res ∧ (∀ g i x, hget H0 g i = some x → BareB x) ∧ ∃ res' H0', Ren (beh H.length) res res' ∧ (∀ g i x', hget H0' g i = some x' → x'.live = true → ∃ x, hget H0 g i = some x ∧ RenB (beh H.length) x x') ∧ (∀ g i, (hget H0 g i).isSome → (hget H0' g i).isSome) ∧ R' res' (H ++ H0')) : CallOK P f args H R' := by
 refine ⟨h.1, fun M J w cargs hl hr hH hM => ?_⟩
 obtain ⟨h1, h2⟩ := ha.spec
 obtain ⟨M1, J1, s1, t1⟩ := to_step (k := 0) (szs := []) (ids := []) (H' := []) hH hM rfl rfl rfl trivial
 refine (h.2 M1 J1 w cargs (by omega) (fun j c x a b => ?_) s1.hrep s1.mrep).mono ?_
 ·obtain ⟨c0, hc0⟩ := get_of_len h1 a
  exact t1 _ _ _ (h2 j c0 c hc0 a) (hr j c0 x hc0 b)
 rintro e w' ⟨cv, M', J', res, H0, rfl, hs, hrep, hr0⟩
 obtain ⟨b1, b2, res', H0', r1, r2, r3, r4⟩ := hR res H0 hr0
 have hno : ∀ g i, ¬ liveAt [] g i := by
  rintro g i ⟨x, hx, _⟩
  simp [hget] at hx
 have hsame : ∀ (β : Nat) o, w.heap[β]? = some o → w'.heap[β]? = some o := fun β o ho => hs.frame β o ho fun g i l hl _ => absurd hl (hno g i)
 let J2 : Inj := fun a b => if a < H.length then J a b else J' (a - H.length) b
 have hJlt : ∀ g i l, J g i = some l → g < H.length := fun g i l hJ => hget_lt ((hH.dom g i l hJ).1)
 have x1 : Ext M J M J2 := ⟨fun _ _ h => h, fun g i l hJ => by
  show (if g < H.length then J g i else J' (g - H.length) i) = some l
  rw [if_pos (hJlt g i l hJ)]; exact hJ⟩
 have x2 : Ext M (J'.via (beh H.length)) M J2 := ⟨fun _ _ h => h, fun a b l hJ => by
  show (if a < H.length then J a b else J' (a - H.length) b) = some l
  by_cases hlt : a < H.length
  ·unfold Inj.via at hJ
   rw [beh_lt hlt] at hJ
   cases hJ
  ·rw [if_neg hlt]
   unfold Inj.via at hJ
   rw [beh_ge (by omega)] at hJ
   exact hJ⟩
 have hl1 : ∀ a b, a < H.length → liveAt (H ++ H0') a b → liveAt H a b := by
  rintro a b hlt ⟨x, hx, hxl⟩
  rw [hget_app_lt hlt] at hx
  exact ⟨x, hx, hxl⟩
 have hl2 : ∀ a b, H.length ≤ a → liveAt (H ++ H0') a b → liveAt H0 (a - H.length) b := by
  rintro a b hge ⟨x, hx, hxl⟩
  rw [hget_app_ge hge] at hx
  obtain ⟨y, hy, hb⟩ := r2 _ _ x hx hxl
  exact ⟨y, hy, hb.live hxl⟩
 have j1 : ∀ {a b : Nat} {l : Loc}, a < H.length → J2 a b = some l → J a b = some l := fun {a b l} hlt hJ => by
  have : (if a < H.length then J a b else J' (a - H.length) b) = some l := hJ
  rwa [if_pos hlt] at this
 have j2 : ∀ {a b : Nat} {l : Loc}, H.length ≤ a → J2 a b = some l → J' (a - H.length) b = some l := fun {a b l} hge hJ => by
  have : (if a < H.length then J a b else J' (a - H.length) b) = some l := hJ
  rwa [if_neg (by omega)] at this
 have hnew : ∀ g i l β, liveAt H0 g i → J' g i = some l → l.blk = some β → w.heap.size ≤ β := fun g i l β a b c => by
  rcases hs.live g i l β a b c with ⟨g0, i0, l0, q, _⟩ | q
  ·exact absurd q (hno g0 i0)
  ·exact q
 refine ⟨cv, M, J2, res', H ++ H0', rfl, ⟨fun _ _ h => h, fun g i l hg hJ => x1.j g i l hJ, ⟨?_, ?_, ?_, ?_⟩, fun β o ho => hsame β o (hM β o ho), hs.os, hs.tape, hs.output, hs.size, fun β o ho _ => hsame β o ho, fun β o ho => .inl ho, ?_, hs.bk⟩, ((hrep.anyM b1 M).ren r1).ext x2, r4⟩
 ·intro a b x hx hxl
  by_cases hlt : a < H.length
  ·rw [hget_app_lt hlt] at hx
   obtain ⟨l, p, q⟩ := hH.blk a b x hx hxl
   refine ⟨l, x1.j a b l p, q.ext x1 fun β hβ => ?_⟩
   have hb := (hH.dom a b l p).2 β hβ
   rw [Array.getElem?_eq_getElem hb]
   exact hsame β _ (Array.getElem?_eq_getElem hb)
  ·rw [hget_app_ge (by omega)] at hx
   obtain ⟨y, hy, hb⟩ := r2 _ _ x hx hxl
   obtain ⟨l, p, q⟩ := hs.hrep.blk _ _ y hy (hb.live hxl)
   refine ⟨l, x2.j a b l ?_, ((q.anyM (b2 _ _ y hy) M).ren hb).ext x2 fun β _ => rfl⟩
   unfold Inj.via
   rw [beh_ge (by omega)]
   exact p
 ·intro a b a' b' l l' β la lb ja jb ba bb
  by_cases h1 : a < H.length
  ·by_cases h2 : a' < H.length
   ·exact hH.inj a b a' b' l l' β (hl1 a b h1 la) (hl1 a' b' h2 lb) (j1 h1 ja) (j1 h2 jb) ba bb
   ·have q1 := (hH.dom a b l (j1 h1 ja)).2 β ba
    have q2 := hnew _ _ l' β (hl2 a' b' (by omega) lb) (j2 (by omega) jb) bb
    omega
  ·by_cases h2 : a' < H.length
   ·have q1 := (hH.dom a' b' l' (j1 h2 jb)).2 β bb
    have q2 := hnew _ _ l β (hl2 a b (by omega) la) (j2 (by omega) ja) ba
    omega
   ·have := hs.hrep.inj _ _ _ _ l l' β (hl2 a b (by omega) la) (hl2 a' b' (by omega) lb) (j2 (by omega) ja) (j2 (by omega) jb) ba bb
    exact ⟨by omega, this.2⟩
 ·intro a b l β la ja ba
  by_cases h1 : a < H.length
  ·exact hH.out a b l β (hl1 a b h1 la) (j1 h1 ja) ba
  ·exact hM.lt (hnew _ _ l β (hl2 a b (by omega) la) (j2 (by omega) ja) ba)
 ·intro a b l ja
  by_cases h1 : a < H.length
  ·have := hH.dom a b l (j1 h1 ja)
   exact ⟨by rw [hget_app_lt h1]; exact this.1, fun β hβ => Nat.lt_of_lt_of_le (this.2 β hβ) hs.size⟩
  ·have := hs.hrep.dom _ _ l (j2 (by omega) ja)
   exact ⟨by rw [hget_app_ge (by omega)]; exact r3 _ _ this.1, this.2⟩
 ·intro a b l β la ja ba
  by_cases h1 : a < H.length
  ·exact .inl ⟨a, b, l, hl1 a b h1 la, j1 h1 ja, ba⟩
  ·exact .inr (hnew _ _ l β (hl2 a b (by omega) la) (j2 (by omega) ja) ba)
theorem CallOK.viewL {P : Program} {f : FuncId} {args args' : List AV} {n sz : Nat} {rows : List (List AV)} {H : Heap} (hb : ∀ r ∈ rows, ∀ c ∈ r, ∃ v, c = .sc v) (h : CallOK P f args' [] fun res H' => res = .hsl 0 0 0 n ∧ H' = [[.cells sz rows]]) (ha : ToL (ToT (H ++ gh []) H.length (notIn [])) (rho []) args args') :
  CallOK P f args H fun res H' => res = .hsl H.length 0 0 n ∧ H' = H ++ [[.cells sz rows]] := by
 refine h.viewF ha ?_
 rintro res H0 ⟨rfl, rfl⟩
 refine ⟨.hsl .., fun g i x hx => ?_, .hsl H.length 0 0 n, [[.cells sz rows]], .hsl _ _ _ _ _ _ (by rw [beh_ge (Nat.le_refl _), Nat.sub_self]), fun g i x' hx hl => ⟨x', hx, ?_⟩, fun _ _ h => h, rfl, rfl⟩
 ·match g, i with
  | 0, 0 =>
   injection hx with hx
   subst hx
   intro r hr c hc
   obtain ⟨v, rfl⟩ := hb r hr c hc
   exact .sc v
  | 0, i + 1 => simp [hget] at hx
  | g + 1, i => simp [hget] at hx
 ·match g, i with
  | 0, 0 =>
   injection hx with hx
   subst hx
   exact .pure _ _ fun r hr c hc => by
    obtain ⟨v, rfl⟩ := hb r hr c hc
    exact .sc v
  | 0, i + 1 => simp [hget] at hx
  | g + 1, i => simp [hget] at hx
end Go.Av
namespace Go.Av
open Go.MapKept
set_option maxRecDepth 20000
section
variable {P : Program} {M : Mem} {J : Inj} {H : Heap} {w : World} {g i : Nat}
variable {N : Nat} {fr : Fr} {tmps : Array Value} {ds : List Deferred} {o : Oper}
end
end Go.Av
namespace Go.Av
inductive FK where
 | c (ps : List (Nat × Nat))
 | w (g n : Nat) (ps : List (Nat × Nat))
def FK.l : FK → List (Nat × Nat)
 | .c ps => ps
 | .w g n ps => (List.range n).map (fun i => (g, i)) ++ ps
def FK.ps : FK → List (Nat × Nat)
 | .c ps => ps
 | .w _ _ ps => ps
def FK.gs : FK → List Nat
 | .c _ => []
 | .w g _ _ => [g]
def idK (ks : List FK) : List (List (Nat × Nat)) := ks.map FK.l
def notK (ks : List FK) (g i : Nat) : Bool := !(idIn (g, i) (ks.map FK.ps).flatten || (ks.map FK.gs).flatten.any fun x => Nat.beq g x)
def ndupN : List Nat → Bool
 | [] => true
 | x :: l => !(l.any fun y => Nat.beq x y) && ndupN l
def okK (ks : List FK) : Bool := ndup (ks.map FK.ps).flatten && (ndupN (ks.map FK.gs).flatten && (ks.map FK.ps).flatten.all fun p => !((ks.map FK.gs).flatten.any fun x => Nat.beq p.1 x))
theorem ndupN_spec : ∀ {l : List Nat}, ndupN l = true → l.Nodup
 | [], _ => List.nodup_nil
 | x :: l, h => by
  simp only [ndupN, Bool.and_eq_true, Bool.not_eq_true'] at h
  refine List.nodup_cons.2 ⟨fun hm => ?_, ndupN_spec h.2⟩
  have : (l.any fun y => Nat.beq x y) = true := List.any_eq_true.2 ⟨x, hm, by simp⟩
  rw [this] at h
  cases h.1
theorem FK.mem {k : FK} {p : Nat × Nat} (h : p ∈ k.l) : p ∈ k.ps ∨ p.1 ∈ k.gs := by
 cases k with
 | c ps => exact .inl h
 | w g n ps =>
  rcases List.mem_append.1 h with h | h
  ·obtain ⟨i, _, rfl⟩ := List.mem_map.1 h
   exact .inr (by simp [FK.gs])
  ·exact .inl h
theorem idK_nodup {ks : List FK} (h : okK ks = true) : (idK ks).flatten.Nodup := by
 unfold okK at h
 simp only [Bool.and_eq_true] at h
 obtain ⟨g1, g2, g3⟩ := h
 have h1 := ndup_spec g1
 have h2 := ndupN_spec g2
 rw [List.all_eq_true] at g3
 have h3 : ∀ p ∈ (ks.map FK.ps).flatten, p.1 ∉ (ks.map FK.gs).flatten := fun p hp hg => by
  have := g3 p hp
  rw [show ((ks.map FK.gs).flatten.any fun x => Nat.beq p.1 x) = true from List.any_eq_true.2 ⟨p.1, hg, by simp⟩] at this
  cases this
 clear g1 g2 g3
 unfold idK
 induction ks with
 | nil => exact List.nodup_nil
 | cons k ks ih =>
  simp only [List.map_cons, List.flatten_cons] at h1 h2 h3 ⊢
  obtain ⟨a1, a2, a3⟩ := List.nodup_append.1 h1
  obtain ⟨b1, b2, b3⟩ := List.nodup_append.1 h2
  refine List.nodup_append.2 ⟨?_, ih a2 b2 fun p hp hg => h3 p (List.mem_append_right _ hp) (List.mem_append_right _ hg), ?_⟩
  ·cases k with
   | c ps => exact a1
   | w g n ps =>
    refine List.nodup_append.2 ⟨?_, a1, ?_⟩
    ·refine List.pairwise_map.2 (List.nodup_range.imp fun hne e => hne ?_)
     exact (Prod.mk.inj e).2
    ·rintro p hp q hq rfl
     obtain ⟨i, _, rfl⟩ := List.mem_map.1 hp
     exact h3 (g, i) (List.mem_append_left _ hq) (List.mem_append_left _ (by simp [FK.gs]))
  ·rintro p hp q hq rfl
   obtain ⟨f, hf, hpf⟩ := List.mem_flatten.1 hq
   obtain ⟨k', hk', rfl⟩ := List.mem_map.1 hf
   rcases FK.mem hp with h | h <;> rcases FK.mem hpf with h' | h'
   ·exact a3 p h p (List.mem_flatten.2 ⟨_, List.mem_map.2 ⟨k', hk', rfl⟩, h'⟩) rfl
   ·exact h3 p (List.mem_append_left _ h) (List.mem_append_right _ (List.mem_flatten.2 ⟨_, List.mem_map.2 ⟨k', hk', rfl⟩, h'⟩))
   ·exact h3 p (List.mem_append_right _ (List.mem_flatten.2 ⟨_, List.mem_map.2 ⟨k', hk', rfl⟩, h'⟩)) (List.mem_append_left _ h)
   ·exact b3 p.1 h p.1 (List.mem_flatten.2 ⟨_, List.mem_map.2 ⟨k', hk', rfl⟩, h'⟩) rfl
theorem notK_in {ks : List FK} {p : Nat × Nat} (h : p ∈ (idK ks).flatten) : notK ks p.1 p.2 = false := by
 obtain ⟨f, hf, hpf⟩ := List.mem_flatten.1 h
 obtain ⟨k, hk, rfl⟩ := List.mem_map.1 hf
 unfold notK
 rcases FK.mem hpf with h | h
 ·rw [idIn_iff.2 (List.mem_flatten.2 ⟨_, List.mem_map.2 ⟨k, hk, rfl⟩, h⟩)]
  rfl
 ·rw [show ((ks.map FK.gs).flatten.any fun x => Nat.beq p.1 x) = true from List.any_eq_true.2 ⟨p.1, List.mem_flatten.2 ⟨_, List.mem_map.2 ⟨k, hk, rfl⟩, h⟩, by simp⟩]
  simp
inductive LowF (j : Nat) (F : List Blk) : FK → Prop
 | c (ps : List (Nat × Nat)) (h : (ps.zipIdx.all fun x => Nat.beq x.1.1 j && Nat.beq x.1.2 x.2) = true) (h' : Nat.ble F.length ps.length = true) : LowF j F (.c ps)
 | w (n : Nat) (ps : List (Nat × Nat)) (h : F.length ≤ n) : LowF j F (.w j n ps)
def lowK : Nat → Nat → List FK → Heap → Prop
 | _, 0, _, _ => True
 | j, k + 1, f :: r, F :: H => LowF j F f ∧ lowK (j + 1) k r H
 | _, _ + 1, _, _ => False
theorem lowK_spec : ∀ (k j : Nat) {ks : List FK} {H : Heap}, lowK j k ks H → ∀ g i, g < k → (hget H g i).isSome → rho (idK ks) g i = some (j + g, i)
 | 0, _, _, _, _, g, _, hg, _ => by omega
 | k + 1, j, [], _, h, _, _, _, _ => h.elim
 | k + 1, j, _ :: _, [], h, _, _, _, _ => h.elim
 | k + 1, j, f :: r, F :: H, ⟨h1, h2⟩, 0, i, _, hs => by
  have hi : i < F.length := by
   have : (F[i]?).isSome := hs
   exact (List.getElem?_eq_some_iff.1 (Option.isSome_iff_exists.1 this).choose_spec).1
  show f.l[i]? = some (j + 0, i)
  cases h1 with
  | c ps h h' =>
   have hip : i < ps.length := Nat.lt_of_lt_of_le hi (Nat.le_of_ble_eq_true h')
   rw [List.all_eq_true] at h
   have := h (ps[i], i) (by rw [List.mem_zipIdx_iff_getElem?]; exact List.getElem?_eq_getElem hip)
   simp only [Bool.and_eq_true] at this
   show ps[i]? = _
   rw [List.getElem?_eq_getElem hip]
   exact congrArg some (Prod.ext (Nat.eq_of_beq_eq_true this.1) (Nat.eq_of_beq_eq_true this.2))
  | w n ps h =>
   show ((List.range n).map (fun i => (j, i)) ++ ps)[i]? = _
   rw [List.getElem?_append_left (by simp; omega), List.getElem?_map, List.getElem?_range (by omega)]
   rfl
 | k + 1, j, f :: r, F :: H, ⟨h1, h2⟩, g + 1, i, hg, hs => by
  have := lowK_spec k (j + 1) h2 g i (by omega) hs
  rw [show j + (g + 1) = j + 1 + g by omega]
  exact this
theorem rho_w {ks : List FK} {g g' n i : Nat} {ps : List (Nat × Nat)} (h : ks[g]? = some (.w g' n ps)) (hi : i < n) : rho (idK ks) g i = some (g', i) := by
 unfold rho idK
 rw [List.getElem?_map, h]
 show ((List.range n).map (fun i => (g', i)) ++ ps)[i]? = _
 rw [List.getElem?_append_left (by simp; omega), List.getElem?_map, List.getElem?_range (by omega)]
 rfl
theorem rho_w2 {ks : List FK} {g g' n i : Nat} {ps : List (Nat × Nat)} {p : Nat × Nat} (h : ks[g]? = some (.w g' n ps)) (hi : ps[i]? = some p) : rho (idK ks) g (n + i) = some p := by
 unfold rho idK
 rw [List.getElem?_map, h]
 show ((List.range n).map (fun i => (g', i)) ++ ps)[n + i]? = _
 rw [List.getElem?_append_right (by simp)]
 simpa using hi
theorem NumbT.listK {T : AV → AV → Prop} {k : Nat} {H H2 H' : Heap} {ks : List FK} (h1 : lowK 0 k ks H) (h3 : okK ks = true) (h4 : famsTo (ToB T (rho (idK ks))) H (idK ks) H')
  (hk : ∀ g i, (hget H2 g i).isSome = (hget H g i).isSome) (hs : ∀ p ∈ (idK ks).flatten, hget H2 p.1 p.2 = hget H p.1 p.2) : NumbT T (rho (idK ks)) k H2 H' := by
 obtain ⟨hl, hf⟩ := famsTo_get h4
 have hnd := idK_nodup h3
 generalize hids : idK ks = ids at *
 refine ⟨fun g i hg hi => ?_, fun g i g' i' p hp hp' => ?_, fun g i x hx _ => ?_, fun g i p hp _ => ?_⟩
 ·rw [hk] at hi
  have := lowK_spec k 0 h1 g i hg hi
  rw [Nat.zero_add, hids] at this
  exact this
 ·unfold rho at hp hp'
  split at hp
  ·rename_i f e
   split at hp'
   ·rename_i f' e'
    unfold List.Nodup at hnd
    rw [List.pairwise_flatten] at hnd
    by_cases hgg : g = g'
    ·subst hgg
     rw [e] at e'
     injection e' with e'
     subst e'
     refine ⟨rfl, ?_⟩
     have hn := hnd.1 f (List.mem_of_getElem? e)
     have hi := (List.getElem?_eq_some_iff.1 hp).1
     exact (List.getElem?_inj hi hn).1 (hp.trans hp'.symm)
    ·exfalso
     have hpw := hnd.2
     rw [List.pairwise_iff_getElem] at hpw
     have hg1 := (List.getElem?_eq_some_iff.1 e).1
     have hg2 := (List.getElem?_eq_some_iff.1 e').1
     have v1 := (List.getElem?_eq_some_iff.1 e).2
     have v2 := (List.getElem?_eq_some_iff.1 e').2
     rcases Nat.lt_or_gt_of_ne hgg with hlt | hgt
     ·have := hpw g g' hg1 hg2 hlt
      rw [v1, v2] at this
      exact this p (List.mem_of_getElem? hp) p (List.mem_of_getElem? hp') rfl
     ·have := hpw g' g hg2 hg1 hgt
      rw [v1, v2] at this
      exact this p (List.mem_of_getElem? hp') p (List.mem_of_getElem? hp) rfl
   ·cases hp'
  ·cases hp
 ·unfold hget at hx
  split at hx
  ·rename_i f e
   have hg := (List.getElem?_eq_some_iff.1 e).1
   have e' : ids[g]? = some ids[g] := List.getElem?_eq_getElem (by omega)
   obtain ⟨q1, q2⟩ := famTo_get (hf g _ _ e' e)
   have hi := (List.getElem?_eq_some_iff.1 hx).1
   have e2 : ids[g][i]? = some ids[g][i] := List.getElem?_eq_getElem (by omega)
   obtain ⟨y, r1, r2⟩ := q2 i _ x e2 hx
   have hr : rho ids g i = some ids[g][i] := by simp only [rho, e']; exact e2
   exact ⟨ids[g][i].1, ids[g][i].2, y, hr, (hs _ (rho_mem hr)).trans r1, r2⟩
  ·cases hx
 ·unfold rho at hp
  split at hp
  ·rename_i f e
   have hg := (List.getElem?_eq_some_iff.1 e).1
   have e' : H'[g]? = some H'[g] := List.getElem?_eq_getElem (by omega)
   obtain ⟨q1, _⟩ := famTo_get (hf g _ _ e e')
   have hi := (List.getElem?_eq_some_iff.1 hp).1
   simp only [hget, e', List.getElem?_eq_getElem (show i < H'[g].length by omega)]
   rfl
  ·cases hp
section
variable {k N : Nat} {fr fr' : Fr} {H H' : Heap} {ks : List FK} {szs : List Nat}
theorem toK_step {M J} {w : World} (hH : HRep M J H w.heap) (hM : MRep M w.heap) (h1 : lowK 0 k ks (H ++ gh szs)) (h3 : okK ks = true)
  (h4 : famsTo (ToB (ToT (H ++ gh szs) H.length (notK ks)) (rho (idK ks))) (H ++ gh szs) (idK ks) H') :
  ∃ M' J', Step k M J H w M' J' H' w ∧ ∀ a b v, To (ToT (H ++ gh szs) H.length (notK ks)) (rho (idK ks)) a b → Rep M J a v → Rep M' J' b v := by
 obtain ⟨s1, x1, t1⟩ := Step.ghost (k := k) hH hM (Ghost.gh H szs)
 obtain ⟨s2, x2, t2⟩ := Step.frz (k := k) s1.hrep s1.mrep (Frozen.killS (notK ks) (H ++ gh szs))
 have hT : ∀ a b v, ToT (H ++ gh szs) H.length (notK ks) a b → Rep (M.freeze (J.ghost H (H ++ gh szs)) (H ++ gh szs) (notK ks) w.heap) (J.ghost H (H ++ gh szs)) a v →
   Rep (M.freeze (J.ghost H (H ++ gh szs)) (H ++ gh szs) (notK ks) w.heap) (J.ghost H (H ++ gh szs)) b v := by
  intro a b v h hv
  cases h with
  | fz h =>
   refine t2 a b v h ?_
   cases h with
   | hsl g i start len sz rows hS h hl =>
    cases hv with
    | hsl _ _ _ _ cap β l hJ hb hc hlc => exact .hsl _ _ _ _ cap β l hJ hb hc hlc
    | hslNil _ _ a0 l hJ hb => exact .hslNil _ _ a0 l hJ hb
   | ptr g i row off sz rows r hS h hr =>
    cases hv with
    | ptr _ _ _ _ β l hJ hb => exact .ptr _ _ _ _ β l hJ hb
   | mref g i es hS h =>
    cases hv with
    | mref _ _ β l hJ hb => exact .mref _ _ β l hJ hb
  | gh g sz hg h' =>
   cases hv
   refine .hslNil g 0 _ ⟨none, sz, 0⟩ ?_ rfl
   have : hget H g 0 = none := by
    cases e : hget H g 0 with
    | none => rfl
    | some y =>
     have := hget_lt (by rw [e]; rfl : (hget H g 0).isSome)
     have := Nat.le_of_ble_eq_true hg
     omega
   unfold Inj.ghost
   rw [this, h']
  | nil sz => cases hv; exact .nilList sz none 0
 have hn : NumbT (ToT (H ++ gh szs) H.length (notK ks)) (rho (idK ks)) k (killS (notK ks) (H ++ gh szs)) H' := by
  refine NumbT.listK h1 h3 h4 (fun g i => by rw [hget_killS, Option.isSome_map]) fun p hp => ?_
  rw [hget_killS, notK_in hp]
  cases hget (H ++ gh szs) p.1 p.2 <;> rfl
 refine ⟨_, _, Step.to hT (s1.trans s2) hn, fun a b v h hv => To.rep hT h ?_⟩
 exact (hv.ext x1).ext x2
theorem Sub.toK (szs : List Nat) (ks : List FK) (h5 : ToAll (ToT (H ++ gh szs) H.length (notK ks)) (rho (idK ks)) fr fr')
  (h4 : famsTo (ToB (ToT (H ++ gh szs) H.length (notK ks)) (rho (idK ks))) (H ++ gh szs) (idK ks) H') (h1 : lowK 0 k ks (H ++ gh szs)) (h3 : okK ks = true := by rfl) : Sub k N fr H fr' H' := by
 intro M J tmps w hF hH hM
 obtain ⟨M', J', q1, q2⟩ := toK_step (szs := szs) hH hM h1 h3 h4
 exact ⟨M', J', q1, hF.1, fun t => q2 _ _ _ (h5.get t) (hF.2 t)⟩
theorem SubV.toK {a b : AV} (szs : List Nat) (ks : List FK) (h5 : To (ToT (H ++ gh szs) H.length (notK ks)) (rho (idK ks)) a b)
  (h4 : famsTo (ToB (ToT (H ++ gh szs) H.length (notK ks)) (rho (idK ks))) (H ++ gh szs) (idK ks) H') (h1 : lowK 0 k ks (H ++ gh szs)) (h3 : okK ks = true := by rfl) : SubV k H a H' b := by
 intro M J v w hv hH hM
 obtain ⟨M', J', q1, q2⟩ := toK_step (szs := szs) hH hM h1 h3 h4
 exact ⟨M', J', q1, q2 _ _ _ h5 hv⟩
theorem endKs {rs : List IRes} {e : Exit} {R : AV → Heap → Prop} {res res' : AV} {H2 : Heap} (ks : List FK) (hR : R res' H2) (he : e = .normal ∨ e = .ret) (hres : resOf fr H rs = some res)
  (h5 : To (ToT (H ++ gh []) H.length (notK ks)) (rho (idK ks)) res res') (h4 : famsTo (ToB (ToT (H ++ gh []) H.length (notK ks)) (rho (idK ks))) (H ++ gh []) (idK ks) H2) (h1 : lowK 0 k ks (H ++ gh [])) (h3 : okK ks = true := by rfl) :
  (e = .normal ∨ e = .ret) ∧ ∃ res res' H2, resOf fr H rs = some res ∧ SubV k H res H2 res' ∧ R res' H2 := ⟨he, res, res', H2, hres, SubV.toK [] ks h5 h4 h1 h3, hR⟩
end
section
variable {R : Blk → Blk → Prop} {H : Heap}
theorem famTo.range {g n : Nat} {f : Nat → Blk} {ps : List (Nat × Nat)} {xs : List Blk} (h : ∀ i, i < n → ∃ y, hget H g i = some y ∧ R y (f i)) (h' : famTo R H ps xs) : famTo R H ((List.range n).map (fun i => (g, i)) ++ ps) (fam n f ++ xs) := by
 unfold fam
 have key : ∀ (l : List Nat), (∀ i ∈ l, ∃ y, hget H g i = some y ∧ R y (f i)) → famTo R H (l.map (fun i => (g, i)) ++ ps) (l.map f ++ xs) := by
  intro l
  induction l with
  | nil => exact fun _ => h'
  | cons i l ih => exact fun h => ⟨h i (by simp), ih fun j hj => h j (by simp [hj])⟩
 exact key _ fun i hi => h i (List.mem_range.1 hi)
theorem famTo.ofFam {g n : Nat} {f : Nat → Blk} (h : ∀ i, i < n → ∃ y, hget H g i = some y ∧ R y (f i)) : famTo R H (FK.w g n []).l (fam n f) := by
 have := famTo.range (f := f) (ps := []) (xs := []) h trivial
 rw [List.append_nil (fam n f)] at this
 exact this
theorem famTo.famS {g n : Nat} {f : Nat → Blk} {p : Nat × Nat} {y : Blk} (h : ∀ i, i < n → ∃ y, hget H g i = some y ∧ R y (f i)) (h' : hget H p.1 p.2 = some y) (hy : R y (f n)) : famTo R H (FK.w g n [p]).l (fam (n + 1) f) := by
 have := famTo.range (f := f) (ps := [p]) (xs := [f n]) h ⟨⟨y, h', hy⟩, trivial⟩
 unfold Av.fam at *
 rw [List.range_succ, List.map_append]
 exact this
end
theorem fam_set {n k : Nat} {f : Nat → Blk} {x : Blk} : (fam n f).set k x = fam n fun j => if j = k then x else f j := by
 apply List.ext_getElem?
 intro j
 unfold fam
 rw [List.getElem?_set]
 by_cases hj : j < n
 ·rw [List.getElem?_map, List.getElem?_map, List.getElem?_range hj]
  simp only [Option.map_some, List.length_map, List.length_range]
  by_cases h : k = j
  ·subst h
   simp [hj]
  ·rw [if_neg h, if_neg (fun e => h e.symm)]
 ·rw [List.getElem?_map, List.getElem?_map, List.getElem?_eq_none (show (List.range n).length ≤ j by rw [List.length_range]; omega)]
  simp
  omega
theorem fam_congr {n : Nat} {f f' : Nat → Blk} (h : ∀ k, k < n → f k = f' k) : fam n f = fam n f' := List.map_congr_left fun k hk => by rw [h k (List.mem_range.1 hk)]
end Go.Av
namespace Go.Av
set_option maxRecDepth 20000
set_option maxHeartbeats 1000000 in
theorem cop_eqNilS {P : Program} {op : Op} {neg : Bool} {x : Operand} (h : cop P op = some (.eqNilS neg x)) : ∃ t u e, P.underlying t = some (.slice e) ∧ op = .binOp (if neg then .neq else .eql) t x (.const (.slice none 0 0)) u := by
 unfold cop at h
 split at h
 case h_11 =>
  split at h
  case h_7 h1 =>
   split at h
   ·simp only [Option.some.injEq, IOp.eqNilS.injEq] at h
    obtain ⟨rfl, rfl⟩ := h
    exact ⟨_, _, _, h1, rfl⟩
   ·cases h
  case h_8 h1 =>
   split at h
   ·simp only [Option.some.injEq, IOp.eqNilS.injEq] at h
    obtain ⟨rfl, rfl⟩ := h
    exact ⟨_, _, _, h1, rfl⟩
   ·cases h
  all_goals (exfalso; revert h; (repeat' split) <;> simp; done)
 all_goals (exfalso; revert h; (repeat' split) <;> simp; done)
set_option maxHeartbeats 1000000 in
theorem copX_eqNilS {P : Program} {op : Op} {neg : Bool} {x : Operand} (h : copX P op = some (.eqNilS neg x)) : False := by
 unfold copX at h
 split at h
 all_goals (revert h; (repeat' split) <;> simp; done)
set_option maxHeartbeats 1000000 in
theorem copM_eqNilS {P : Program} {op : Op} {neg : Bool} {x : Operand} (h : copM P op = some (.eqNilS neg x)) : False := by
 unfold copM at h
 split at h
 all_goals (revert h; (repeat' split) <;> simp; done)
theorem cact_eqNilS {P : Program} {op : Op} {neg : Bool} {x : Operand} (h : cact P op = some (.op (.eqNilS neg x))) : ∃ t u e, P.underlying t = some (.slice e) ∧ op = .binOp (if neg then .neq else .eql) t x (.const (.slice none 0 0)) u := by
 unfold cact at h
 split at h
 ·rename_i io hx
  simp only [Option.some.injEq, IAct.op.injEq] at h
  subst h
  exact (copM_eqNilS hx).elim
 split at h
 ·rename_i io hx
  simp only [Option.some.injEq, IAct.op.injEq] at h
  subst h
  exact (copX_eqNilS hx).elim
 ·unfold cact0 at h
  split at h
  ·cases h
  ·cases h
  ·simp only [Option.map_eq_some_iff, IAct.op.injEq] at h
   obtain ⟨a, ha, rfl⟩ := h
   exact cop_eqNilS ha
theorem Reg.nilOr {P : Program} {N k : Nat} {xs : List IOper} {fr : Fr} {H : Heap} {K : Fr → Heap → Prop} {d : Nat} {gd : Option (Nat × Bool)} {neg : Bool} {x : Operand} {sz : Nat} {rows : List (List AV)} (hg : gok fr gd = some true)
  (hx : ev fr x = .list sz rows) (h : ∀ b, Reg P N k xs ((d, .sc (.bool b)) :: fr) H K) : Reg P N k (⟨some d, gd, .op (.eqNilS neg x)⟩ :: xs) fr H K := by
 intro ops l hm M J tmps w hF hH hM Q hQ
 cases l with
 | nil => exact hm.elim
 | cons i l =>
  obtain ⟨⟨o0, ho, hc⟩, hm'⟩ := hm
  obtain ⟨c1, c2, c3⟩ := coper_some hc
  have hw := gok_sound hF c2 hg
  obtain ⟨t, u, e, ht, hop⟩ := cact_eqNilS c3
  have rx := ev_rep (ds := []) hF x
  rw [hx] at rx
  simp only [wpOps, ho, hw, if_true]
  left
  have key : ∀ (p : Option Addr) (n c : Nat), Act.eval ⟨tmps, []⟩ x = .slice p n c → (execOp (Act.eval ⟨tmps, []⟩) o0).run P w = .ok (.value (.bool (if neg then !p.isNone else p.isNone))) w := by
   intro p n c hp
   have hq0 : ∀ d, (Op.equalIn (d + 1) t (.slice p n c) (.slice none 0 0)).run P w = .ok p.isNone w := fun d => by
    cases p <;> simp [Op.equalIn, run_underlying ht]
   have hq : (Op.equal t (.slice p n c) (.slice none 0 0)).run P w = .ok p.isNone w := hq0 9999
   have hk : Act.eval ⟨tmps, []⟩ (.const (.slice none 0 0)) = .slice none 0 0 := rfl
   cases neg <;> simp [execOp, hop, hp, hk, eqGuard, binOp, hq]
  have hrun : ∃ b, (execOp (Act.eval ⟨tmps, []⟩) o0).run P w = .ok (.value (.bool b)) w := by
   generalize hcv : Act.eval ⟨tmps, []⟩ x = cv at rx key
   cases rx with
   | nilList => exact ⟨_, key _ _ _ rfl⟩
   | list => exact ⟨_, key _ _ _ rfl⟩
  obtain ⟨b, hrun⟩ := hrun
  simp only [Oper.wp, hrun, Oper.upon]
  rw [put_defers]
  exact h b ops l hm' M J _ w (hF.put c1 (.sc _)) hH hM Q hQ
end Go.Av
namespace Go.Av
def idH (H : Heap) (g i : Nat) : Option (Nat × Nat) := match (hget H g i).isSome with
 | true => some (g, i)
 | false => none
theorem idH_some {H : Heap} {g i : Nat} {p : Nat × Nat} (h : idH H g i = some p) : (hget H g i).isSome = true ∧ p = (g, i) := by
 unfold idH at h
 split at h
 ·rename_i e
  injection h with h
  exact ⟨e, h.symm⟩
 ·cases h
theorem idH_of {H : Heap} {g i : Nat} (h : (hget H g i).isSome = true) : idH H g i = some (g, i) := by
 unfold idH
 rw [h]
theorem idH_none {H : Heap} {g i : Nat} (h : ¬ (hget H g i).isSome = true) : idH H g i = none := by
 unfold idH
 rw [show (hget H g i).isSome = false by simpa using h]
structure Closed (H0 H : Heap) : Prop where
 len : H.length = H0.length
 dom : ∀ g i, (hget H g i).isSome = (hget H0 g i).isSome
 blk : ∀ g i x, hget H g i = some x → x.live = true ∧ RenB (idH H0) x x
theorem hget_isSome_lt {H : Heap} {g i : Nat} (h : (hget H g i).isSome = true) : g < H.length := by
 unfold hget at h
 split at h
 ·rename_i f hf; exact (List.getElem?_eq_some_iff.1 hf).1
 ·cases h
theorem CallOK.more {P : Program} {f : FuncId} {args : List AV} {H0 : Heap} (G : Heap) {R : AV → Heap → Prop} (hc : Closed H0 H0) (h : CallOK P f args H0 fun res H' => Pure res ∧ Closed H0 H' ∧ R res H') (ha : ∀ a ∈ args, Ren (idH H0) a a) :
  CallOK P f args (H0 ++ G) fun res H' => ∃ H1, H' = H1 ++ G ∧ R res H1 := by
 refine CallOK.via (idH H0) (idH H0) h rfl (fun j a b e1 e2 => ?_) (fun a b p e => ?_) (fun a b q e => ?_) (fun a b y e => ?_) (fun a b p e => ?_) fun res H' hr => ?_
 ·rw [e1] at e2
  injection e2 with e2
  subst e2
  exact ha a (List.mem_of_getElem? e1)
 ·obtain ⟨h1, rfl⟩ := idH_some e
  exact idH_of h1
 ·obtain ⟨h1, rfl⟩ := idH_some e
  exact idH_of h1
 ·have hs : (hget H0 a b).isSome = true := by rw [e]; rfl
  obtain ⟨h1, h2⟩ := hc.blk a b y e
  exact ⟨h1, (a, b), y, idH_of hs, by rw [hget_app_lt (hget_isSome_lt hs)]; exact e, h2⟩
 ·exact (idH_some e).1
 ·obtain ⟨hp, hcl, hR⟩ := hr
  refine ⟨fun a b e => by rw [← hcl.dom]; exact e, res, H' ++ G, .pure hp, fun a b z hz hzl => ?_, fun a b e => ?_, H', rfl, hR⟩
  ·by_cases hl : a < H'.length
   ·rw [hget_app_lt hl] at hz
    have hs : (hget H0 a b).isSome = true := by rw [← hcl.dom, hz]; rfl
    exact .inl ⟨(a, b), z, idH_of hs, hz, (hcl.blk a b z hz).2⟩
   ·refine .inr ⟨idH_none fun hs => hl (by rw [hcl.len]; exact hget_isSome_lt hs), ?_⟩
    rw [hget_app_ge (by omega)] at hz
    rw [hget_app_ge (by rw [hcl.len] at hl; omega), ← hcl.len]
    exact hz
  ·by_cases hl : a < H0.length
   ·rw [hget_app_lt hl] at e
    rw [hget_app_lt (by rw [hcl.len]; exact hl), hcl.dom]
    exact e
   ·rw [hget_app_ge (by omega)] at e
    rw [hget_app_ge (by rw [hcl.len]; omega), hcl.len]
    exact e
end Go.Av
