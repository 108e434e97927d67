import Derived.Test.YtpkpfgpfkajkpaaGAvF
import Derived.Test.YtpkpfgpfkajkpaaGAvI
import Derived.Test.YtpkpfgpfkajkpaaGAvB
namespace Go.Av
inductive Bare : AV → Prop
 | undef : Bare .undef
 | sc (v : Value) : Bare (.sc v)
 | agg (cs : List AV) (h : ∀ c ∈ cs, Bare c) : Bare (.agg cs)
 | tup (cs : List AV) (h : ∀ c ∈ cs, Bare c) : Bare (.tup cs)
 | ptr (g i r o : Nat) : Bare (.ptr g i r o)
 | hsl (g i s l : Nat) : Bare (.hsl g i s l)
 | mref (g i : Nat) : Bare (.mref g i)
theorem Rep.anyM {M J} {a : AV} {v : Value} (h : Rep M J a v) (hb : Bare a) (M' : Mem) : Rep M' J a v := by
 induction hb generalizing v with
 | undef => cases h; exact .undef _
 | sc v => cases h; exact .sc _
 | agg cs _ ih =>
  cases h with
  | agg _ cvs hl hr => exact .agg _ cvs hl fun j c v a b => ih c (List.mem_of_getElem? a) (hr j c v a b)
 | tup cs _ ih =>
  cases h with
  | tup _ cvs hl hr => exact .tup _ cvs hl fun j c v a b => ih c (List.mem_of_getElem? a) (hr j c v a b)
 | ptr g i r o => cases h with | ptr _ _ _ _ β l hJ hb => exact .ptr _ _ _ _ β l hJ hb
 | hsl g i s l =>
  cases h with
  | hsl _ _ _ _ cap β l hJ hb hc hlc => exact .hsl _ _ _ _ cap β l hJ hb hc hlc
  | hslNil _ _ a l hJ hb => exact .hslNil _ _ a l hJ hb
 | mref g i => cases h with | mref _ _ β l hJ hb => exact .mref _ _ β l hJ hb
def BareB : Blk → Prop
 | .dead => True
 | .cells _ rows => ∀ r ∈ rows, ∀ c ∈ r, Bare c
 | _ => False
theorem BRep.anyM {M J} {l : Loc} {h : Array Obj} {x : Blk} (hb : BRep M J l h x) (hx : BareB x) (M' : Mem) : BRep M' J l h x := by
 cases x with
 | dead => trivial
 | cells sz rows =>
  obtain ⟨h1, h2, h3⟩ := hb
  refine ⟨h1, h2, ?_⟩
  cases e : l.blk with
  | none => rw [e] at h3; exact h3
  | some β =>
   rw [e] at h3
   obtain ⟨cs, t, a, b, c, o, d⟩ := h3
   exact ⟨cs, t, a, b, c, o, fun i r j c v x y z => (d i r j c v x y z).anyM (hx r (List.mem_of_getElem? x) c (List.mem_of_getElem? y)) M'⟩
 | _ => exact hx.elim
theorem CallOK.viewF {P : Program} {f : FuncId} {args args' : List AV} {R R' : AV → Heap → Prop} {H : Heap} (h : CallOK P f args' [] R) (ha : ToL (ToT (H ++ gh []) H.length (notIn [])) (rho []) args args')
  (hR : ∀ res H0, R res H0 → Bare res ∧ (∀ g i x, hget H0 g i = some x → BareB x) ∧ ∃ res' H0', Ren (beh H.length) res res' ∧ (∀ g i x', hget H0' g i = some x' → x'.live = true → ∃ x, hget H0 g i = some x ∧ RenB (beh H.length) x x') ∧ (∀ g i, (hget H0 g i).isSome → (hget H0' g i).isSome) ∧ R' res' (H ++ H0')) : CallOK P f args H R' := by
 refine ⟨h.1, fun M J w cargs hl hr hH hM => ?_⟩
 obtain ⟨h1, h2⟩ := ha.spec
 obtain ⟨M1, J1, s1, t1⟩ := to_step (k := 0) (szs := []) (ids := []) (H' := []) hH hM rfl rfl rfl trivial
 refine (h.2 M1 J1 w cargs (by omega) (fun j c x a b => ?_) s1.hrep s1.mrep).mono ?_
 ·obtain ⟨c0, hc0⟩ := get_of_len h1 a
  exact t1 _ _ _ (h2 j c0 c hc0 a) (hr j c0 x hc0 b)
 rintro e w' ⟨cv, M', J', res, H0, rfl, hs, hrep, hr0⟩
 obtain ⟨b1, b2, res', H0', r1, r2, r3, r4⟩ := hR res H0 hr0
 have hno : ∀ g i, ¬ liveAt [] g i := by
  rintro g i ⟨x, hx, _⟩
  simp [hget] at hx
 have hsame : ∀ (β : Nat) o, w.heap[β]? = some o → w'.heap[β]? = some o := fun β o ho => hs.frame β o ho fun g i l hl _ => absurd hl (hno g i)
 let J2 : Inj := fun a b => if a < H.length then J a b else J' (a - H.length) b
 have hJlt : ∀ g i l, J g i = some l → g < H.length := fun g i l hJ => hget_lt ((hH.dom g i l hJ).1)
 have x1 : Ext M J M J2 := ⟨fun _ _ h => h, fun g i l hJ => by
  show (if g < H.length then J g i else J' (g - H.length) i) = some l
  rw [if_pos (hJlt g i l hJ)]; exact hJ⟩
 have x2 : Ext M (J'.via (beh H.length)) M J2 := ⟨fun _ _ h => h, fun a b l hJ => by
  show (if a < H.length then J a b else J' (a - H.length) b) = some l
  by_cases hlt : a < H.length
  ·unfold Inj.via at hJ
   rw [beh_lt hlt] at hJ
   cases hJ
  ·rw [if_neg hlt]
   unfold Inj.via at hJ
   rw [beh_ge (by omega)] at hJ
   exact hJ⟩
 have hl1 : ∀ a b, a < H.length → liveAt (H ++ H0') a b → liveAt H a b := by
  rintro a b hlt ⟨x, hx, hxl⟩
  rw [hget_app_lt hlt] at hx
  exact ⟨x, hx, hxl⟩
 have hl2 : ∀ a b, H.length ≤ a → liveAt (H ++ H0') a b → liveAt H0 (a - H.length) b := by
  rintro a b hge ⟨x, hx, hxl⟩
  rw [hget_app_ge hge] at hx
  obtain ⟨y, hy, hb⟩ := r2 _ _ x hx hxl
  exact ⟨y, hy, hb.live hxl⟩
 have j1 : ∀ {a b : Nat} {l : Loc}, a < H.length → J2 a b = some l → J a b = some l := fun {a b l} hlt hJ => by
  have : (if a < H.length then J a b else J' (a - H.length) b) = some l := hJ
  rwa [if_pos hlt] at this
 have j2 : ∀ {a b : Nat} {l : Loc}, H.length ≤ a → J2 a b = some l → J' (a - H.length) b = some l := fun {a b l} hge hJ => by
  have : (if a < H.length then J a b else J' (a - H.length) b) = some l := hJ
  rwa [if_neg (by omega)] at this
 have hnew : ∀ g i l β, liveAt H0 g i → J' g i = some l → l.blk = some β → w.heap.size ≤ β := fun g i l β a b c => by
  rcases hs.live g i l β a b c with ⟨g0, i0, l0, q, _⟩ | q
  ·exact absurd q (hno g0 i0)
  ·exact q
 refine ⟨cv, M, J2, res', H ++ H0', rfl, ⟨fun _ _ h => h, fun g i l hg hJ => x1.j g i l hJ, ⟨?_, ?_, ?_, ?_⟩, fun β o ho => hsame β o (hM β o ho), hs.os, hs.tape, hs.output, hs.size, fun β o ho _ => hsame β o ho, fun β o ho => .inl ho, ?_, hs.bk⟩, ((hrep.anyM b1 M).ren r1).ext x2, r4⟩
 ·intro a b x hx hxl
  by_cases hlt : a < H.length
  ·rw [hget_app_lt hlt] at hx
   obtain ⟨l, p, q⟩ := hH.blk a b x hx hxl
   refine ⟨l, x1.j a b l p, q.ext x1 fun β hβ => ?_⟩
   have hb := (hH.dom a b l p).2 β hβ
   rw [Array.getElem?_eq_getElem hb]
   exact hsame β _ (Array.getElem?_eq_getElem hb)
  ·rw [hget_app_ge (by omega)] at hx
   obtain ⟨y, hy, hb⟩ := r2 _ _ x hx hxl
   obtain ⟨l, p, q⟩ := hs.hrep.blk _ _ y hy (hb.live hxl)
   refine ⟨l, x2.j a b l ?_, ((q.anyM (b2 _ _ y hy) M).ren hb).ext x2 fun β _ => rfl⟩
   unfold Inj.via
   rw [beh_ge (by omega)]
   exact p
 ·intro a b a' b' l l' β la lb ja jb ba bb
  by_cases h1 : a < H.length
  ·by_cases h2 : a' < H.length
   ·exact hH.inj a b a' b' l l' β (hl1 a b h1 la) (hl1 a' b' h2 lb) (j1 h1 ja) (j1 h2 jb) ba bb
   ·have q1 := (hH.dom a b l (j1 h1 ja)).2 β ba
    have q2 := hnew _ _ l' β (hl2 a' b' (by omega) lb) (j2 (by omega) jb) bb
    omega
  ·by_cases h2 : a' < H.length
   ·have q1 := (hH.dom a' b' l' (j1 h2 jb)).2 β bb
    have q2 := hnew _ _ l β (hl2 a b (by omega) la) (j2 (by omega) ja) ba
    omega
   ·have := hs.hrep.inj _ _ _ _ l l' β (hl2 a b (by omega) la) (hl2 a' b' (by omega) lb) (j2 (by omega) ja) (j2 (by omega) jb) ba bb
    exact ⟨by omega, this.2⟩
 ·intro a b l β la ja ba
  by_cases h1 : a < H.length
  ·exact hH.out a b l β (hl1 a b h1 la) (j1 h1 ja) ba
  ·exact hM.lt (hnew _ _ l β (hl2 a b (by omega) la) (j2 (by omega) ja) ba)
 ·intro a b l ja
  by_cases h1 : a < H.length
  ·have := hH.dom a b l (j1 h1 ja)
   exact ⟨by rw [hget_app_lt h1]; exact this.1, fun β hβ => Nat.lt_of_lt_of_le (this.2 β hβ) hs.size⟩
  ·have := hs.hrep.dom _ _ l (j2 (by omega) ja)
   exact ⟨by rw [hget_app_ge (by omega)]; exact r3 _ _ this.1, this.2⟩
 ·intro a b l β la ja ba
  by_cases h1 : a < H.length
  ·exact .inl ⟨a, b, l, hl1 a b h1 la, j1 h1 ja, ba⟩
  ·exact .inr (hnew _ _ l β (hl2 a b (by omega) la) (j2 (by omega) ja) ba)
theorem CallOK.viewL {P : Program} {f : FuncId} {args args' : List AV} {n sz : Nat} {rows : List (List AV)} {H : Heap} (hb : ∀ r ∈ rows, ∀ c ∈ r, ∃ v, c = .sc v) (h : CallOK P f args' [] fun res H' => res = .hsl 0 0 0 n ∧ H' = [[.cells sz rows]]) (ha : ToL (ToT (H ++ gh []) H.length (notIn [])) (rho []) args args') :
  CallOK P f args H fun res H' => res = .hsl H.length 0 0 n ∧ H' = H ++ [[.cells sz rows]] := by
 refine h.viewF ha ?_
 rintro res H0 ⟨rfl, rfl⟩
 refine ⟨.hsl .., fun g i x hx => ?_, .hsl H.length 0 0 n, [[.cells sz rows]], .hsl _ _ _ _ _ _ (by rw [beh_ge (Nat.le_refl _), Nat.sub_self]), fun g i x' hx hl => ⟨x', hx, ?_⟩, fun _ _ h => h, rfl, rfl⟩
 ·match g, i with
  | 0, 0 =>
   injection hx with hx
   subst hx
   intro r hr c hc
   obtain ⟨v, rfl⟩ := hb r hr c hc
   exact .sc v
  | 0, i + 1 => simp [hget] at hx
  | g + 1, i => simp [hget] at hx
 ·match g, i with
  | 0, 0 =>
   injection hx with hx
   subst hx
   exact .pure _ _ fun r hr c hc => by
    obtain ⟨v, rfl⟩ := hb r hr c hc
    exact .sc v
  | 0, i + 1 => simp [hget] at hx
  | g + 1, i => simp [hget] at hx
theorem dstep_appN {g i : Nat} {fr : Fr} {H : Heap} {bytes m : Nat} {z : List (Nat × Value)} {s x : Operand} (hs : ev fr s = .sc (.slice none 0 0)) (hx : ev fr x = .sc (.int .i64 ((m + 1 : Nat) : Int))) (hb : (m + 1) * (bytes + 1) ≤ 70368744177664) :
  dstep g i (.mop (.appN bytes z) [s, x]) fr H = some (.hsl g i 0 (m + 1), hset H g i (.cells (zrow z).length (List.replicate (m + 1) (zrow z)))) := by
 have e : Nat.ble ((m + 1) * (bytes + 1)) 70368744177664 = true := Nat.ble_eq_true_of_le hb
 simp only [dstep, avals, List.map_cons, List.map_nil, hs, hx]
 show (match Nat.ble ((m + 1) * (bytes + 1)) 70368744177664 with | true => _ | false => _) = _
 rw [e]
theorem dstep_cut {g i : Nat} {fr : Fr} {H : Heap} {sz : Nat} {x hi : Operand} {k : IntKind} {q g' i' st len : Nat} {rows : List (List AV)} (hx : ev fr x = .hsl g' i' st len) (hh : ev fr hi = .sc (.int k (q : Int))) (hg : hget H g' i' = some (.cells sz rows)) (hq : q ≤ len) :
  dstep g i (.slice sz x none (some hi) none) fr H = some (.hsl g' i' st q, H) := by
 have e0 : Nat.ble 0 q = true := Nat.ble_eq_true_of_le (Nat.zero_le _)
 have e1 : Nat.ble q len = true := Nat.ble_eq_true_of_le hq
 have e2 : Nat.ble len len = true := Nat.ble_eq_true_of_le (Nat.le_refl _)
 have e3 : sbounds fr len none (some hi) none = some (0, q) := by
  simp only [sbounds, sbnd, hh]
  show (match Nat.ble 0 q && (Nat.ble q len && Nat.ble len len) && true with | true => some (0, q) | false => none) = _
  rw [e0, e1, e2]
  rfl
 have e4 : Nat.beq sz sz = true := by simp
 simp only [dstep, hx, hg, e4, e3]
end Go.Av
namespace Go.Av
open Go.MapKept
set_option maxRecDepth 20000
section
variable {P : Program} {M : Mem} {J : Inj} {H : Heap} {w : World} {g i : Nat}
variable {N : Nat} {fr : Fr} {tmps : Array Value} {ds : List Deferred} {o : Oper}
set_option maxHeartbeats 1000000 in
theorem append_two (hF : FRep N M J fr tmps) (hH : HRep M J H w.heap) (hM : MRep M w.heap) (hn : hok H g i) (hJ : J g i = none) {t e : TypeId} {inf : TypeInfo} {z : List (Nat × Value)} {s x : Operand} {args : Array Operand} {ts : Array TypeId}
  (ha : args.toList = [s, x]) (hts : ts.toList = [t, t]) (ht : P.underlying t = some (.slice e)) (hi : P.info? e = some inf) (hz : zOf P e = some z) (h : o.op = .call ⟨.builtin .append, args, ts⟩)
  {g' i' len : Nat} {rows1 rows2 : List (List AV)} (ea : ev fr s = .hsl g' i' 0 len) (hrows : rowsX inf.size H (ev fr x) = some (inf.size, rows2)) (hg : hget H g' i' = some (.cells inf.size rows1)) (hlen1 : rows1.length = len) (hbound : (len + rows2.length) * (inf.bytes + 1) ≤ 70368744177664) :
  OpOK P M J H w g i (execOp (Act.eval ⟨tmps, ds⟩) o) (.hsl g' i' 0 (len + rows2.length)) (hset H g' i' (.cells inf.size (rows1 ++ rows2))) ∨ OpOK P M J H w g i (execOp (Act.eval ⟨tmps, ds⟩) o) (.hsl g i 0 (len + rows2.length)) (hset H g i (.cells inf.size (rows1 ++ rows2))) := by
 have hx := ev_rep (ds := ds) hF x
 have hsv := ev_rep (ds := ds) hF s
 rw [ea] at hsv
 have ha' : args = #[s, x] := by cases args; simp_all
 have ht' : ts = #[t, t] := by cases ts; simp_all
 subst ha'; subst ht'
 obtain ⟨inf', zv, hi', hz0, hsize, hone, hun⟩ := zOf_some hz
 rw [hi] at hi'
 injection hi' with hi'
 subst hi'
 obtain ⟨b, m, c, hxv, hm, hrl2, news, hnl, hnone, hnrep, hnrun⟩ := rowsX_cells (P := P) hH hM hx hrows
 generalize hcx : Act.eval ⟨tmps, ds⟩ x = xv at hxv hnrun
 generalize hcs : Act.eval ⟨tmps, ds⟩ s = sv at hsv
 subst hxv
 have hbytes : (len + m) * inf.bytes ≤ 70368744177664 := by
  rw [hm]; exact Nat.le_trans (Nat.mul_le_mul_left _ (by omega)) hbound
 have hcount : len + m ≤ 70368744177664 := by
  rw [hm]
  have h1 : (len + rows2.length) * 1 ≤ (len + rows2.length) * (inf.bytes + 1) := Nat.mul_le_mul_left _ (by omega)
  omega
 obtain ⟨l0, p1, p2, p3, p4⟩ := hH.cells hg
 subst hm
 have hsuf : ∀ r w1, (Builtin.append_ #[t, t] o.type #[sv, .slice b rows2.length c]).run P w = .ok r w1 → (execOp (Act.eval ⟨tmps, ds⟩) o).run P w = .ok (.value r) w1 := by
  intro r w1 hr
  simp [execOp, h, resolve, invoke, builtin, hcx, hcs, hr]
 have hgrow : ∀ (base : Option Addr) (sCap : Nat) (olds : List Value), sv = .slice base len sCap → sCap < len + rows2.length → olds.length = len * inf.size → (∀ v ∈ olds, v.oneCell' = true) →
   (∀ w' : World, w'.heap = w.heap → (Builtin.firstCells inf.size len sv).run P w' = .ok olds.toArray w') →
   (∀ (q : Nat) (r : List AV) (j : Nat) c v, rows1[q]? = some r → r[j]? = some c → olds[q * inf.size + j]? = some v → Rep M J c v) →
   OpOK P M J H w g i (execOp (Act.eval ⟨tmps, ds⟩) o) (.hsl g i 0 (len + rows2.length)) (hset H g i (.cells inf.size (rows1 ++ rows2))) := by
  intro base sCap olds hsv' hcap hol hoone horun horep
  subst hsv'
  have hrun := run_app_grow (P := P) (w := w) t o.type e inf zv ht hi hz0 base len sCap olds horun b rows2.length c news hnrun hcap (by omega) (growslice_fits hcap (by omega))
  have hge : len + rows2.length ≤ grownCap w (len + rows2.length) sCap e := grownCap_ge w _ _ _
  generalize grownCap w (len + rows2.length) sCap e = cap' at hrun hge
  have hzl : (Builtin.zeroCells zv.cells (cap' - (len + rows2.length))).size = (cap' - (len + rows2.length)) * inf.size := by rw [size_zeroCells, hsize]
  have hsz3 : (olds.toArray ++ news.toArray ++ Builtin.zeroCells zv.cells (cap' - (len + rows2.length))).size = cap' * inf.size := by
   simp only [Array.size_append, List.size_toArray, hol, hnl, hzl]
   rw [← Nat.add_mul, ← Nat.add_mul]
   congr 1
   omega
  have hmul : (len + rows2.length) * inf.size = len * inf.size + rows2.length * inf.size := Nat.add_mul _ _ _
  have hmul2 : (len + rows2.length) * inf.size ≤ cap' * inf.size := Nat.mul_le_mul_right _ hge
  have hget : ∀ (j : Nat) v, (olds.toArray ++ news.toArray ++ Builtin.zeroCells zv.cells (cap' - (len + rows2.length)))[j]? = some v →
    (j < len * inf.size → olds[j]? = some v) ∧ (len * inf.size ≤ j → j < (len + rows2.length) * inf.size → news[j - len * inf.size]? = some v) := by
   intro j v hv
   refine ⟨fun hj => ?_, fun hj hj' => ?_⟩
   ·rw [Array.getElem?_append_left (by simp; omega), Array.getElem?_append_left (by simp; omega)] at hv
    simpa using hv
   ·rw [Array.getElem?_append_left (by simp; omega), Array.getElem?_append_right (by simp; omega)] at hv
    simpa [hol] using hv
  have hB : BRep M J ⟨some w.heap.size, inf.size, cap' * inf.size⟩ (w.heap.push (.cells (olds.toArray ++ news.toArray ++ Builtin.zeroCells zv.cells (cap' - (len + rows2.length))) e)) (.cells inf.size (rows1 ++ rows2)) := by
   refine BRep.append rfl rfl (get_push _ _) hsz3 hlen1 p3 hrl2 hmul2 (fun j v hj hv => ?_) (fun q r j c v hq hc hv => ?_) (fun q r j c v hq hc hv => ?_)
   ·by_cases hlt : j < len * inf.size
    ·exact hoone _ (List.mem_of_getElem? ((hget j v hv).1 hlt))
    ·exact hnone _ (List.mem_of_getElem? ((hget j v hv).2 (by omega) hj))
   ·have h1 := row_le (sz := inf.size) (List.getElem?_eq_some_iff.1 hq).1
    have h2 := (List.getElem?_eq_some_iff.1 hc).1
    rw [p3 q r hq] at h2
    rw [hlen1] at h1
    exact horep q r j c v hq hc ((hget _ v hv).1 (by omega))
   ·have h1 := row_le (sz := inf.size) (List.getElem?_eq_some_iff.1 hq).1
    have h2 := (List.getElem?_eq_some_iff.1 hc).1
    rw [hrl2 q r hq] at h2
    have h3 := (hget _ v hv).2 (by omega) (by omega)
    rw [show len * inf.size + (q * inf.size + j) - len * inf.size = q * inf.size + j by omega] at h3
    exact hnrep q r j c v hq hc h3
  refine ⟨_, _, J.set g i ⟨some w.heap.size, inf.size, cap' * inf.size⟩, .inl (hsuf _ _ hrun), ?_, Inj.set_ext _ hJ M, fun k => ?_, fun a b hab => by simp only [Inj.set, if_neg hab]⟩
  ·have := Rep.hsl (M := M) (J := J.set g i ⟨some w.heap.size, inf.size, cap' * inf.size⟩) g i 0 (len + rows2.length) cap' w.heap.size _ (Inj.set_self _) rfl (by simp) hge
   rwa [Nat.zero_mul] at this
  ·exact (Step.alloc k hH hM g i hn hJ (some (.cells (olds.toArray ++ news.toArray ++ Builtin.zeroCells zv.cells (cap' - (len + rows2.length))) e)) _ _ rfl hB rfl rfl rfl rfl)
 cases hsv with
 | hslNil _ _ a0 l hJ' hb' =>
  rw [hJ'] at p1
  injection p1 with p1
  subst p1
  have hr0 : rows1 = [] := by simpa using hlen1
  subst hr0
  by_cases hm0 : rows2.length = 0
  ·have hr2 : rows2 = [] := by simpa using hm0
   subst hr2
   have hn0 : news = [] := by simpa using hnl
   subst hn0
   have hrun : (Builtin.append_ #[t, t] o.type #[.slice a0 0 0, .slice b 0 c]).run P w = .ok (.slice a0 0 0) w := by
    have := hnrun w rfl
    simp at this
    cases a0 with
    | none => simp [Builtin.append_, run_underlying ht, sizeOf, typeInfo, hi, Builtin.lenOf, this]
    | some a => simp [Builtin.append_, run_underlying ht, sizeOf, typeInfo, hi, Builtin.lenOf, this, storeCells]
   refine .inr ⟨_, w, J.set g i ⟨none, inf.size, 0⟩, .inl (hsuf _ _ hrun), .hslNil g i _ _ (Inj.set_self _) rfl, Inj.set_ext _ hJ M, fun k => ?_, fun a b hab => by simp only [Inj.set, if_neg hab]⟩
   exact (Step.alloc k hH hM g i hn hJ none _ _ rfl ⟨rfl, fun q r hq => by simp at hq, rfl⟩ rfl rfl rfl rfl)
  ·refine .inr (hgrow a0 0 [] rfl (by omega) (by simp) (fun v hv => by cases hv) (fun w' _ => by cases a0 <;> simp [Builtin.firstCells, loadCells, loadCellsFrom]) (fun q r j c v hq => by simp at hq))
 | hsl _ _ _ _ cap β l hJ' hb' hc' hlc =>
  rw [hJ'] at p1
  injection p1 with p1
  subst p1
  obtain ⟨cs, e', q1, q2, q3, q4, q5⟩ := p4 β hb'
  rw [Nat.zero_add] at hc'
  rw [Nat.zero_mul] at hgrow hsuf hcs
  rw [p2] at hc'
  by_cases hroom : len + rows2.length ≤ cap
  ·have hmul : (len + rows2.length) * inf.size = len * inf.size + rows2.length * inf.size := Nat.add_mul _ _ _
   have hmul2 : (len + rows2.length) * inf.size ≤ cap * inf.size := Nat.mul_le_mul_right _ hroom
   have hst := run_storeCells P β (len * inf.size) e' news w cs 0 q1 (by rw [hnl]; omega) hnone
   rw [Nat.add_zero] at hst
   have hrun : (Builtin.append_ #[t, t] o.type #[.slice (some ⟨β, 0, none⟩) len cap, .slice b rows2.length c]).run P w = .ok (.slice (some ⟨β, 0, none⟩) (len + rows2.length) cap) (wset w β (.cells (splice cs (len * inf.size) news) e' (0, 0))) := by
    have := hnrun w rfl
    simp [Builtin.append_, run_underlying ht, sizeOf, typeInfo, hi, Builtin.lenOf, hroom, this, addr_add, hst]
   have hblt := lt_of_heap q1
   refine .inl ⟨_, _, J, .inl (hsuf _ _ hrun), ?_, .refl _ _, fun k => ?_, fun a b hab => rfl⟩
   ·have := Rep.hsl (M := M) (J := J) g' i' 0 (len + rows2.length) cap β _ hJ' hb' (by rw [Nat.zero_add, p2]; exact hc') hroom
    rwa [Nat.zero_mul] at this
   ·refine Step.write k hH hM g' i' l β _ hg rfl hJ' hb' (.cells (splice cs (len * inf.size) news) e' (0, 0)) _ (fun _ => ?_) rfl rfl rfl rfl
    refine BRep.append p2 hb' (heap_wset_same _ _ _ hblt) (by simp [q2]) hlen1 p3 hrl2 (by omega) (fun j v hj hv => ?_) (fun q r j c v hq hc hv => ?_) (fun q r j c v hq hc hv => ?_)
    ·rw [get_splice] at hv
     split at hv
     ·exact hnone _ (List.mem_of_getElem? hv)
     ·exact q4 j v (by rw [hlen1]; omega) hv
    ·have h1 := row_le (sz := inf.size) (List.getElem?_eq_some_iff.1 hq).1
     have h2 := (List.getElem?_eq_some_iff.1 hc).1
     rw [p3 q r hq] at h2
     rw [hlen1] at h1
     rw [get_splice, if_neg (by omega)] at hv
     exact q5 q r j c v hq hc hv
    ·have h1 := row_le (sz := inf.size) (List.getElem?_eq_some_iff.1 hq).1
     have h2 := (List.getElem?_eq_some_iff.1 hc).1
     rw [hrl2 q r hq] at h2
     rw [get_splice, if_pos (by rw [hnl]; omega)] at hv
     rw [show len * inf.size + (q * inf.size + j) - len * inf.size = q * inf.size + j by omega] at hv
     exact hnrep q r j c v hq hc hv
  ·have hle0 : 0 + len * inf.size ≤ cs.size := by
    have : len * inf.size ≤ cap * inf.size := Nat.mul_le_mul_right _ hlc
    omega
   have hget : ∀ j v, (cs.extract 0 (0 + len * inf.size)).toList[j]? = some v → j < len * inf.size ∧ cs[j]? = some v := by
    intro j v hv
    rw [Array.getElem?_toList, Array.getElem?_extract] at hv
    split at hv
    ·rw [Nat.zero_add] at hv
     exact ⟨by omega, hv⟩
    ·cases hv
   refine .inr ?_
   refine hgrow (some ⟨β, 0, none⟩) cap (cs.extract 0 (0 + len * inf.size)).toList rfl (by omega) (by simp; omega) (fun v hv => ?_) (fun w' hw' => ?_) (fun q r j c v hq hc hv => q5 q r j c v hq hc (hget _ v hv).2)
   ·obtain ⟨j, hj⟩ := List.getElem?_of_mem hv
    have := hget j v hj
    exact q4 j v (by rw [hlen1]; exact this.1) this.2
   ·rw [Array.toArray_toList]
    exact run_loadCells_block P (by rw [hw']; exact q1) hle0
end
set_option maxHeartbeats 1000000 in
theorem cop_append {P : Program} {op : Op} {sz bytes : Nat} {s x : Operand} (h : cop P op = some (.append sz bytes s x)) : ∃ args ts t e inf z, op = .call ⟨.builtin .append, args, ts⟩ ∧ args.toList = [s, x] ∧ ts.toList = [t, t] ∧ P.underlying t = some (.slice e) ∧ P.info? e = some inf ∧ zOf P e = some z ∧ sz = inf.size ∧ bytes = inf.bytes := by
 unfold cop at h
 split at h
 case h_27 =>
  rename_i args ts
  split at h
  ·rename_i s' x' t u ha ht
   split at h
   ·rename_i e h1
    split at h
    ·rename_i inf z h2 h3
     split at h
     ·rename_i h4
      simp only [Bool.and_eq_true, decide_eq_true_eq] at h4
      obtain ⟨rfl, _⟩ := h4
      simp only [Option.some.injEq, IOp.append.injEq] at h
      obtain ⟨rfl, rfl, rfl, rfl⟩ := h
      exact ⟨args, ts, t, e, inf, z, rfl, ha, ht, h1, h2, h3, rfl, rfl⟩
     ·cases h
    ·cases h
   ·cases h
  ·cases h
 all_goals (exfalso; revert h; (repeat' split) <;> simp; done)
set_option maxHeartbeats 1000000 in
theorem copX_append {P : Program} {op : Op} {sz bytes : Nat} {s x : Operand} (h : copX P op = some (.append sz bytes s x)) : False := by
 unfold copX at h
 split at h
 all_goals (revert h; (repeat' split) <;> simp; done)
set_option maxHeartbeats 1000000 in
theorem copM_append {P : Program} {op : Op} {sz bytes : Nat} {s x : Operand} (h : copM P op = some (.append sz bytes s x)) : False := by
 unfold copM at h
 split at h
 all_goals (revert h; (repeat' split) <;> simp; done)
theorem cact_append {P : Program} {op : Op} {sz bytes : Nat} {s x : Operand} (h : cact P op = some (.op (.append sz bytes s x))) : cop P op = some (.append sz bytes s x) := by
 unfold cact at h
 split at h
 ·rename_i io hx
  simp only [Option.some.injEq, IAct.op.injEq] at h
  subst h
  exact (copM_append hx).elim
 split at h
 ·rename_i io hx
  simp only [Option.some.injEq, IAct.op.injEq] at h
  subst h
  exact (copX_append hx).elim
 ·unfold cact0 at h
  split at h
  ·cases h
  ·cases h
  ·simp only [Option.map_eq_some_iff, IAct.op.injEq] at h
   obtain ⟨a, ha, rfl⟩ := h
   exact ha
theorem Reg.app2 {P : Program} {N k : Nat} {xs : List IOper} {fr : Fr} {H : Heap} {K : Fr → Heap → Prop} {d : Nat} {gd : Option (Nat × Bool)} {sz bytes : Nat} {s x : Operand} {g' i' len : Nat} {rows1 rows2 : List (List AV)} (hg : gok fr gd = some true)
  (hs : ev fr s = .hsl g' i' 0 len) (hx : rowsX sz H (ev fr x) = some (sz, rows2)) (hh : hget H g' i' = some (.cells sz rows1)) (hl : rows1.length = len) (hb : (len + rows2.length) * (bytes + 1) ≤ 70368744177664)
  (h0 : Reg P N k xs ((d, .hsl g' i' 0 (len + rows2.length)) :: fr) (hset H g' i' (.cells sz (rows1 ++ rows2))) K)
  (h1 : Reg P N k xs ((d, .hsl H.length 0 0 (len + rows2.length)) :: fr) (hset H H.length 0 (.cells sz (rows1 ++ rows2))) K) :
  Reg P N k (⟨some d, gd, .op (.append sz bytes s x)⟩ :: xs) fr H K := by
 intro ops l hm M J tmps w hF hH hM Q hQ
 cases l with
 | nil => exact hm.elim
 | cons i0 l =>
  obtain ⟨⟨o0, ho, hc⟩, hm'⟩ := hm
  obtain ⟨c1, c2, c3⟩ := coper_some hc
  have hw := gok_sound hF c2 hg
  obtain ⟨args, ts, t, e, inf, z, hop, ha, hts, ht, hi, hz, rfl, rfl⟩ := cop_append (cact_append c3)
  have hfree : J H.length 0 = none := hH.fresh
  have key := append_two (P := P) (ds := []) (g := H.length) (i := 0) hF hH hM (.inr ⟨rfl, rfl⟩) hfree ha hts ht hi hz hop hs hx hh hl hb
  simp only [wpOps, ho, hw, if_true]
  have go : ∀ (v : AV) (H' : Heap), OpOK P M J H w H.length 0 (execOp (Act.eval ⟨tmps, []⟩) o0) v H' → Reg P N k xs ((d, v) :: fr) H' K → o0.wp P ⟨tmps, []⟩ w (wpOps P ops Q l) Q := by
   intro v H' hok hreg
   obtain ⟨cv, w', J', hrun, hrep, hext, hstep, _⟩ := hok
   have hnext : wpOps P ops Q l (Act.put ⟨tmps, []⟩ o0.dst cv) w' := by
    rw [put_defers]
    refine hreg ops l hm' M J' _ w' ((hF.ext hext).put c1 hrep) (hstep k).hrep (hstep k).mrep Q fun a' w'' hp => hQ a' w'' ?_
    obtain ⟨M2, J2, fr2, H2, q1, q2, q3, q4⟩ := hp
    exact ⟨M2, J2, fr2, H2, (hstep k).trans q1, q2, q3, q4⟩
   rcases hrun with hrun | ⟨hrun, rfl⟩
   ·simp only [Oper.wp, hrun, Oper.upon]
    exact hnext
   ·simp only [Oper.wp, hrun, Oper.upon]
    exact hnext
  left
  rcases key with hok | hok
  ·exact go _ _ hok h0
  ·exact go _ _ hok h1
theorem CallOK.viewT {P : Program} {f : FuncId} {args args' : List AV} {n sz : Nat} {v : Value} {rows : List (List AV)} {H : Heap} (hb : ∀ r ∈ rows, ∀ c ∈ r, ∃ v, c = .sc v) (h : CallOK P f args' [] fun res H' => res = .tup [.hsl 0 0 0 n, .sc v] ∧ H' = [[.cells sz rows]]) (ha : ToL (ToT (H ++ gh []) H.length (notIn [])) (rho []) args args') :
  CallOK P f args H fun res H' => res = .tup [.hsl H.length 0 0 n, .sc v] ∧ H' = H ++ [[.cells sz rows]] := by
 refine h.viewF ha ?_
 rintro res H0 ⟨rfl, rfl⟩
 refine ⟨.tup _ fun c hc => (by rcases List.mem_cons.1 hc with rfl | hc; exact .hsl ..; rw [List.mem_singleton.1 hc]; exact .sc _), fun g i x hx => ?_, .tup [.hsl H.length 0 0 n, .sc v], [[.cells sz rows]], .tup _ _ rfl fun j x y a b => (by match j with | 0 => (injection a with a; injection b with b; subst a; subst b; exact .hsl _ _ _ _ _ _ (by rw [beh_ge (Nat.le_refl _), Nat.sub_self])) | 1 => (injection a with a; injection b with b; subst a; subst b; exact .sc _) | j + 2 => simp at a), fun g i x' hx hl => ⟨x', hx, ?_⟩, fun _ _ h => h, rfl, rfl⟩
 ·match g, i with
  | 0, 0 =>
   injection hx with hx
   subst hx
   intro r hr c hc
   obtain ⟨v, rfl⟩ := hb r hr c hc
   exact .sc v
  | 0, i + 1 => simp [hget] at hx
  | g + 1, i => simp [hget] at hx
 ·match g, i with
  | 0, 0 =>
   injection hx with hx
   subst hx
   exact .pure _ _ fun r hr c hc => by
    obtain ⟨v, rfl⟩ := hb r hr c hc
    exact .sc v
  | 0, i + 1 => simp [hget] at hx
  | g + 1, i => simp [hget] at hx
end Go.Av
namespace Go.Av
def eqV (a b : Value) : Bool :=
 match a with
 | .int k n => match b with
  | .int k' n' => decide (k = k') && decide (n = n')
  | _ => false
 | .bool x => match b with
  | .bool y => match x with
   | true => y
   | false => !y
  | _ => false
 | .slice none 0 0 => match b with
  | .slice none 0 0 => true
  | _ => false
 | .pointer none => match b with
  | .pointer none => true
  | _ => false
 | .map none => match b with
  | .map none => true
  | _ => false
 | _ => false
theorem eqV_sound {a b : Value} (h : eqV a b = true) : a = b := by
 unfold eqV at h
 split at h
 ·split at h
  ·simp only [Bool.and_eq_true, decide_eq_true_eq] at h
   rw [h.1, h.2]
  ·cases h
 ·split at h
  ·rename_i x _ y
   cases x <;> cases y <;> first | rfl | cases h
  ·cases h
 ·split at h
  ·rfl
  ·cases h
 ·split at h
  ·rfl
  ·cases h
 ·split at h
  ·rfl
  ·cases h
 ·cases h
def eqN (a b : Nat) : Bool := Nat.beq a b
theorem eqN_sound {a b : Nat} (h : eqN a b = true) : a = b := Nat.eq_of_beq_eq_true h
mutual
def eqA : AV → AV → Bool
 | .undef, b => match b with
  | .undef => true
  | _ => false
 | .sc u, b => match b with
  | .sc v => eqV u v
  | _ => false
 | .agg l, b => match b with
  | .agg m => eqL l m
  | _ => false
 | .tup _, _ => false
 | .list s r, b => match b with
  | .list s' r' => eqN s s' && eqR r r'
  | _ => false
 | .cptr l, b => match b with
  | .cptr m => eqL l m
  | _ => false
 | .tmap _, _ => false
 | .ptr g i r o, b => match b with
  | .ptr g' i' r' o' => (eqN g g' && eqN i i') && (eqN r r' && eqN o o')
  | _ => false
 | .hsl g i r o, b => match b with
  | .hsl g' i' r' o' => (eqN g g' && eqN i i') && (eqN r r' && eqN o o')
  | _ => false
 | .mref g i, b => match b with
  | .mref g' i' => eqN g g' && eqN i i'
  | _ => false
 | .clo _ _ _, _ => false
 | .yld _ _, _ => false
def eqL : List AV → List AV → Bool
 | [], m => match m with
  | [] => true
  | _ => false
 | a :: l, m => match m with
  | b :: m => eqA a b && eqL l m
  | [] => false
def eqR : List (List AV) → List (List AV) → Bool
 | [], m => match m with
  | [] => true
  | _ => false
 | a :: l, m => match m with
  | b :: m => eqL a b && eqR l m
  | [] => false
end
mutual
theorem eqA_sound : ∀ (a b : AV), eqA a b = true → a = b
 | .undef, b, h => by
  simp only [eqA] at h
  split at h
  ·rfl
  ·cases h
 | .sc u, b, h => by
  simp only [eqA] at h
  split at h
  ·rw [eqV_sound h]
  ·cases h
 | .agg l, b, h => by
  simp only [eqA] at h
  split at h
  ·rw [eqL_sound l _ h]
  ·cases h
 | .tup _, _, h => by simp only [eqA] at h; cases h
 | .list s r, b, h => by
  simp only [eqA] at h
  split at h
  ·simp only [Bool.and_eq_true] at h
   rw [eqN_sound h.1, eqR_sound r _ h.2]
  ·cases h
 | .cptr l, b, h => by
  simp only [eqA] at h
  split at h
  ·rw [eqL_sound l _ h]
  ·cases h
 | .tmap _, _, h => by simp only [eqA] at h; cases h
 | .ptr g i r o, b, h => by
  simp only [eqA] at h
  split at h
  ·simp only [Bool.and_eq_true] at h
   rw [eqN_sound h.1.1, eqN_sound h.1.2, eqN_sound h.2.1, eqN_sound h.2.2]
  ·cases h
 | .hsl g i r o, b, h => by
  simp only [eqA] at h
  split at h
  ·simp only [Bool.and_eq_true] at h
   rw [eqN_sound h.1.1, eqN_sound h.1.2, eqN_sound h.2.1, eqN_sound h.2.2]
  ·cases h
 | .mref g i, b, h => by
  simp only [eqA] at h
  split at h
  ·simp only [Bool.and_eq_true] at h
   rw [eqN_sound h.1, eqN_sound h.2]
  ·cases h
 | .clo _ _ _, _, h => by simp only [eqA] at h; cases h
 | .yld _ _, _, h => by simp only [eqA] at h; cases h
theorem eqL_sound : ∀ (a b : List AV), eqL a b = true → a = b
 | [], b, h => by
  simp only [eqL] at h
  split at h
  ·rfl
  ·cases h
 | a :: l, m, h => by
  simp only [eqL] at h
  split at h
  ·simp only [Bool.and_eq_true] at h
   rw [eqA_sound a _ h.1, eqL_sound l _ h.2]
  ·cases h
theorem eqR_sound : ∀ (a b : List (List AV)), eqR a b = true → a = b
 | [], b, h => by
  simp only [eqR] at h
  split at h
  ·rfl
  ·cases h
 | a :: l, m, h => by
  simp only [eqR] at h
  split at h
  ·simp only [Bool.and_eq_true] at h
   rw [eqL_sound a _ h.1, eqR_sound l _ h.2]
  ·cases h
end
def eqM : List (Value × AV) → List (Value × AV) → Bool
 | [], m => match m with
  | [] => true
  | _ => false
 | (k, a) :: l, m => match m with
  | (k', b) :: m => (eqV k k' && eqA a b) && eqM l m
  | [] => false
theorem eqM_sound : ∀ (a b : List (Value × AV)), eqM a b = true → a = b
 | [], b, h => by
  simp only [eqM] at h
  split at h
  ·rfl
  ·cases h
 | (k, a) :: l, m, h => by
  simp only [eqM] at h
  split at h
  ·simp only [Bool.and_eq_true] at h
   rw [eqV_sound h.1.1, eqA_sound a _ h.1.2, eqM_sound l _ h.2]
  ·cases h
def eqB : Option Blk → Option Blk → Bool
 | none, y => match y with
  | none => true
  | _ => false
 | some x, y => match y with
  | none => false
  | some y => match x with
   | .dead => match y with
    | .dead => true
    | _ => false
   | .cells s r => match y with
    | .cells s' r' => eqN s s' && eqR r r'
    | _ => false
   | .map es => match y with
    | .map es' => eqM es es'
    | _ => false
   | _ => false
theorem eqB_sound {a b : Option Blk} (h : eqB a b = true) : a = b := by
 unfold eqB at h
 split at h
 ·split at h
  ·rfl
  ·cases h
 ·split at h
  ·cases h
  ·split at h
   ·split at h
    ·rfl
    ·cases h
   ·split at h
    ·simp only [Bool.and_eq_true] at h
     rw [eqN_sound h.1, eqR_sound _ _ h.2]
    ·cases h
   ·split at h
    ·rw [eqM_sound _ _ h]
    ·cases h
   ·cases h
def keepsB : List (Nat × Nat) → Heap → Heap → Bool
 | [], _, _ => true
 | q :: r, H, H' => eqB (hget H' q.1 q.2) (hget H q.1 q.2) && keepsB r H H'
theorem keepsB_sound {H H' : Heap} : ∀ (l : List (Nat × Nat)), keepsB l H H' = true → Keeps l H H'
 | [], _ => trivial
 | q :: r, h => by
  simp only [keepsB, Bool.and_eq_true] at h
  exact ⟨eqB_sound h.1, keepsB_sound r h.2⟩
def findT (cl : List Nat) (zs : List IOper) : List Nat → List Nat → Option (Nat × List Nat)
 | _, [] => none
 | A, i :: B => match zs[i]? with
  | some x => match quietX x && (A.all (fun j => !bef cl i j && apartJ zs x j) && B.all (fun j => bef cl i j || apartJ zs x j)) with
   | true => some (i, A ++ B)
   | false => findT cl zs (A ++ [i]) B
  | none => none
def planK (cl : List Nat) (zs : List IOper) : Nat → List Nat → List (Bool × Nat)
 | 0, _ => []
 | f + 1, rem => match rem with
  | [] => []
  | a :: r => match findT cl zs [] (a :: r) with
   | some (i, rem') => (true, i) :: planK cl zs f rem'
   | none => (false, a) :: planK cl zs f r
noncomputable def rdXK (T : FT) (x : IOper) : List (Nat × Nat) :=
 match x.act with
 | .op o => drdE T.evK o
 | _ => []
theorem rdXK_eq {fr : Fr} {T : FT} (h : AgT fr T) (x : IOper) : rdX fr x = rdXK T x := by
 obtain ⟨d, g, a⟩ := x
 cases a with
 | op o =>
  show drd fr o = drdE T.evK o
  rw [drdE_eq, h.evK]
 | _ => rfl
section
variable {P : Program} {N k : Nat} {call : Caller}
theorem regK1 (hcall : CallerOK P call) {x : IOper} {pr : List (Nat × Nat)} {T : FT} {H : Heap} {T' : FT} {H' : Heap} (h : regK call k [x] T H = .out T' H') (hp : Keeps pr H H') {fr : Fr} (ha : AgT fr T) : RT P k [(x, pr)] fr H fun fr' H2 => AgT fr' T' ∧ H2 = H' := by
 obtain ⟨d, gd, a⟩ := x
 replace h : regGd call k d a (regK call k []) gd T H = .out T' H' := h
 have fin : ∀ {T1 : FT} {H1 : Heap} {fr1 : Fr}, regK call k [] T1 H1 = .out T' H' → AgT fr1 T1 → RT P k [] fr1 H1 fun fr' H2 => AgT fr' T' ∧ H2 = H' := fun h ha => by
  injection h with h1 h2
  subst h1; subst h2
  exact .nil ⟨ha, rfl⟩
 have hH : ∀ {T1 : FT} {H1 : Heap}, regK call k [] T1 H1 = .out T' H' → H1 = H' := fun h => by injection h
 have act : ∀ {gd : Option (Nat × Bool)}, gok fr gd = some true → regAct call k d (regK call k []) a T H = .out T' H' → RT P k [(⟨d, gd, a⟩, pr)] fr H fun fr' H2 => AgT fr' T' ∧ H2 = H' := by
  intro gd hg h
  cases a with
  | op o =>
   simp only [regAct] at h
   unfold opThen at h
   split at h
   ·rename_i v H1 e
    rw [← ha.evK, lenK_eq] at e
    obtain ⟨T1, h1, h2⟩ := putThen_out h ha
    have := hH h2
    subst this
    exact .op (x := ⟨d, gd, .op o⟩) hg rfl (dstepK_sound e) hp (fin h2 h1)
   ·cases h
  | call f args =>
   simp only [regAct] at h
   cases hb : Nat.ble k (lenK H) with
   | false => rw [hb] at h; cases h
   | true =>
    rw [hb] at h
    have hk : k ≤ H.length := by rw [← lenK_eq]; exact Nat.le_of_ble_eq_true hb
    replace h : callThen d T (regK call k []) (call f (mapK T args) H) = .out T' H' := h
    unfold callThen at h
    split at h
    ·rename_i v H1 e
     obtain ⟨T1, h1, h2⟩ := putThen_out h ha
     have := hH h2
     subst this
     refine .call (x := ⟨d, gd, .call f args⟩) (R := fun r H2 => r = v ∧ H2 = H1) hk hg rfl ?_ (fun res H2 hr => by rw [hr.2]; exact hp) ?_
     ·rw [ha.mapK]
      exact hcall f _ H v _ e
     ·rintro res H2 ⟨rfl, rfl⟩
      exact fin h2 h1
    ·cases h
  | callV f args =>
   simp only [regAct] at h
   cases hb : Nat.ble k (lenK H) with
   | false => rw [hb] at h; cases h
   | true =>
    rw [hb] at h
    have hk : k ≤ H.length := by rw [← lenK_eq]; exact Nat.le_of_ble_eq_true hb
    replace h : cloThen call d (mapK T args) T H (regK call k []) (T.evK f) = .out T' H' := h
    unfold cloThen at h
    split at h
    ·rename_i g fs cs ef
     unfold callThen at h
     split at h
     ·rename_i v H1 e
      obtain ⟨T1, h1, h2⟩ := putThen_out h ha
      have := hH h2
      subst this
      refine .callV (x := ⟨d, gd, .callV f args⟩) (f := f) (g := g) (fs := fs) (cs := cs) (R := fun r H2 => r = v ∧ H2 = H1) hk hg rfl (by rw [ha.evK]; exact ef) ?_ (fun res H2 hr => by rw [hr.2]; exact hp) ?_
      ·rw [ha.mapK]
       exact hcall g _ H v _ e
      ·rintro res H2 ⟨rfl, rfl⟩
       exact fin h2 h1
     ·cases h
    ·cases h
 cases gd with
 | none => exact act rfl h
 | some p =>
  obtain ⟨t, b⟩ := p
  rcases gok_evK ha h with ⟨h1, h2⟩ | ⟨h1, h2⟩
  ·exact act h1 h2
  ·obtain ⟨T1, h3, h4⟩ := putThen_out h2 ha
   exact .skip (x := ⟨d, some (t, b), a⟩) h1 (fin h4 h3)
noncomputable def linK (call : Caller) (k : Nat) (cl : List Nat) (zs : List IOper) : List (Bool × Nat) → List (Nat × List (Nat × Nat)) → FT → Heap → RR
 | [], _, T, H => .out T H
 | (true, i) :: pl, pend, T, H => match zs[i]? with
  | some x => match regK call k [x] T H with
   | .out T' H' => linK call k cl zs pl (addP i (rdXK T x) pend) T' H'
   | .stuck => .stuck
  | none => .stuck
 | (false, i) :: pl, pend, T, H => match zs[i]? with
  | some x => match regK call k [x] T H with
   | .out T' H' => match keepsB (protOf cl pend i) H H' with
    | true => linK call k cl zs pl pend T' H'
    | false => .stuck
   | .stuck => .stuck
  | none => .stuck
theorem linK_sound (hcall : CallerOK P call) {cl : List Nat} {zs : List IOper} {T' : FT} {H' : Heap} {K : Fr → Heap → Prop} (hK : ∀ fr', AgT fr' T' → K fr' H') : ∀ (pl : List (Bool × Nat)) (pend : List (Nat × List (Nat × Nat))) (T : FT) (H : Heap) (fr : Fr), linK call k cl zs pl pend T H = .out T' H' → AgT fr T →
  LP P k cl zs pl pend fr H K
 | [], pend, T, H, fr, h, ha => by
  injection h with h1 h2
  subst h1; subst h2
  exact hK fr ha
 | (true, i) :: pl, pend, T, H, fr, h, ha => by
  simp only [linK] at h
  split at h
  ·rename_i x hx
   split at h
   ·rename_i T1 H1 hr
    refine ⟨x, rdXK T x, hx, fun q hq => by rw [← rdXK_eq ha]; exact hq, (regK1 (pr := []) hcall hr trivial ha).mono ?_⟩
    rintro fr1 H2 ⟨ha1, rfl⟩
    exact linK_sound hcall hK pl _ T1 _ fr1 h ha1
   ·cases h
  ·cases h
 | (false, i) :: pl, pend, T, H, fr, h, ha => by
  simp only [linK] at h
  split at h
  ·rename_i x hx
   split at h
   ·rename_i T1 H1 hr
    split at h
    ·rename_i hk
     refine ⟨x, hx, (regK1 hcall hr (keepsB_sound _ hk) ha).mono ?_⟩
     rintro fr1 H2 ⟨ha1, rfl⟩
     exact linK_sound hcall hK pl _ T1 _ fr1 h ha1
    ·cases h
   ·cases h
  ·cases h
noncomputable def linX (call : Caller) (k : Nat) (cl : List Nat) (zs : List IOper) (af : List (List Nat)) (pl : List (Bool × Nat)) (T : FT) (H : Heap) : XR :=
 match lowB 0 af && okP cl zs pl (List.range zs.length) with
 | true => (linK call k cl zs pl [] T H).x
 | false => .stuck
theorem linX_sound (hp : P.follows .mixedOrders = true) (hcall : CallerOK P call) {zs : List IOper} {af : List (List Nat)} {pl : List (Bool × Nat)} {T : FT} {H : Heap} {e : Exit} {T' : FT} {H' : Heap} (h : linX call k (clo af) zs af pl T H = .out e T' H') {fr : Fr} (ha : AgT fr T)
  {Q : Exit → Fr → Heap → Prop} (hQ : ∀ fr', AgT fr' T' → Q e fr' H') : AWP P N k (.draw zs af) Q fr H := by
 unfold linX at h
 split at h
 ·rename_i hb
  simp only [Bool.and_eq_true] at hb
  obtain ⟨rfl, hr⟩ := RR.x_out h
  refine AWP.lin pl hp hb.1 hb.2 ?_
  exact linK_sound hcall hQ pl [] T H fr hr ha
 ·cases h
noncomputable def drawY (call : Caller) (k : Nat) (zs : List IOper) (af : List (List Nat)) (T : FT) (H : Heap) : XR :=
 match drawX call k zs af T H with
 | .out e T' H' => .out e T' H'
 | .stuck => linX call k (clo af) zs af (planK (clo af) zs zs.length (List.range zs.length)) T H
theorem drawY_sound (hp : P.follows .mixedOrders = true) (hcall : CallerOK P call) {zs : List IOper} {af : List (List Nat)} {T : FT} {H : Heap} {e : Exit} {T' : FT} {H' : Heap} (h : drawY call k zs af T H = .out e T' H') {fr : Fr} (ha : AgT fr T)
  {Q : Exit → Fr → Heap → Prop} (hQ : ∀ fr', AgT fr' T' → Q e fr' H') : AWP P N k (.draw zs af) Q fr H := by
 unfold drawY at h
 split at h
 ·rename_i e1 T1 H1 hd
  injection h with h1 h2 h3
  subst h1; subst h2; subst h3
  exact drawX_sound hp hcall hd ha hQ
 ·exact linX_sound hp hcall h ha hQ
end
noncomputable def execL (call : Caller) (k fuel : Nat) (c : ICode) : FT → Heap → XR :=
 ICode.rec (motive := fun _ => FT → Heap → XR)
  (fun T H => .out .normal T H)
  (fun xs T H => (regK call k xs T H).x)
  (fun xs af T H => drawY call k xs af T H)
  (fun _ _ a b T H => seqK b (a T H))
  (fun c _ _ a b T H => condK (a T H) (b T H) (T.evK c))
  (fun id _ a T H => blockK id (a T H))
  (fun _ a T H => iterK a fuel T H)
  (fun _ _ _ _ _ _ _ _ => .stuck)
  (fun id T H => .out (.exit id) T H)
  (fun T H => .out .ret T H)
  (fun _ _ => .stuck) c
section
variable {P : Program} {N k fuel : Nat} {call : Caller}
theorem execL_sound (hp : P.follows .mixedOrders = true) (hcall : CallerOK P call) : ∀ (c : ICode) (T : FT) (H : Heap) (e : Exit) (T' : FT) (H' : Heap), execL call k fuel c T H = .out e T' H' → ∀ fr, AgT fr T →
  ∀ (Q : Exit → Fr → Heap → Prop), (∀ fr', AgT fr' T' → Q e fr' H') → AWP P N k c Q fr H := by
 intro c
 induction c with
 | skip =>
  intro T H e T' H' h fr ha Q hQ
  injection h with h1 h2 h3
  subst h1; subst h2; subst h3
  exact AWP.skip (hQ fr ha)
 | region xs =>
  intro T H e T' H' h fr ha Q hQ
  obtain ⟨rfl, hr⟩ := RR.x_out h
  exact AWP.region (regK_sound hcall hQ xs T H fr hr ha)
 | draw xs af =>
  intro T H e T' H' h fr ha Q hQ
  exact drawY_sound hp hcall h ha hQ
 | seq a b iha ihb =>
  intro T H e T' H' h fr ha Q hQ
  rcases seqK_out (b := execL call k fuel b) (r := execL call k fuel a T H) h with ⟨T1, H1, h1, h2⟩ | ⟨h1, h2⟩
  ·exact AWP.seq (iha T H _ T1 H1 h1 fr ha _ fun fr1 ha1 => ihb T1 H1 e T' H' h2 fr1 ha1 Q hQ)
  ·refine AWP.seq (iha T H _ T' H' h2 fr ha _ fun fr1 ha1 => ?_)
   cases e with
   | normal => exact absurd rfl h1
   | _ => exact hQ fr1 ha1
 | cond c a b iha ihb =>
  intro T H e T' H' h fr ha Q hQ
  replace h : condK (execL call k fuel a T H) (execL call k fuel b T H) (T.evK c) = .out e T' H' := h
  unfold condK at h
  split at h
  ·rename_i e1
   rw [← ha.evK] at e1
   exact AWP.condT e1 (iha T H e T' H' h fr ha Q hQ)
  ·rename_i e1
   rw [← ha.evK] at e1
   exact AWP.condF e1 (ihb T H e T' H' h fr ha Q hQ)
  ·cases h
 | block id a iha =>
  intro T H e T' H' h fr ha Q hQ
  replace h : blockK id (execL call k fuel a T H) = .out e T' H' := h
  cases hr : execL call k fuel a T H with
  | stuck => rw [hr] at h; cases h
  | out e1 T1 H1 =>
   rw [hr] at h
   refine AWP.block (iha T H e1 T1 H1 hr fr ha _ fun fr1 ha1 => ?_)
   cases e1 with
   | exit id' =>
    replace h : Bool.rec (motive := fun _ => XR) (.out (.exit id') T1 H1) (.out .normal T1 H1) (Nat.beq id' id) = .out e T' H' := h
    show (match Nat.beq id' id with | true => Q .normal | false => Q (.exit id')) fr1 H1
    cases hb : Nat.beq id' id with
    | true =>
     rw [hb] at h
     injection h with h1 h2 h3
     subst h1; subst h2; subst h3
     exact hQ fr1 ha1
    | false =>
     rw [hb] at h
     injection h with h1 h2 h3
     subst h1; subst h2; subst h3
     exact hQ fr1 ha1
   | _ =>
    injection h with h1 h2 h3
    subst h1; subst h2; subst h3
    exact hQ fr1 ha1
 | loop a iha =>
  intro T H e T' H' h fr ha Q hQ
  replace h : iterK (execL call k fuel a) fuel T H = .out e T' H' := h
  refine AWP.loop (σ := Nat × FT × Heap × Fr) (fun s => s.2.2.2) (fun s => s.2.2.1) (fun s => AgT s.2.2.2 s.2.1 ∧ iterK (execL call k fuel a) s.1 s.2.1 s.2.2.1 = .out e T' H') (fun s => s.1) (fuel, T, H, fr) ⟨ha, h⟩ (Sub.refl _ _ _ _) ?_
  rintro ⟨n, T1, H1, fr1⟩ ⟨ha1, h1⟩
  simp only at ha1 h1 ⊢
  cases n with
  | zero => cases h1
  | succ n =>
   replace h1 : seqK (iterK (execL call k fuel a) n) (execL call k fuel a T1 H1) = .out e T' H' := h1
   rcases seqK_out h1 with ⟨T2, H2, h2, h3⟩ | ⟨h2, h3⟩
   ·refine iha T1 H1 _ T2 H2 h2 fr1 ha1 _ fun fr2 ha2 => ?_
    exact ⟨(n, T2, H2, fr2), ⟨ha2, h3⟩, Nat.lt_succ_self n, Sub.refl _ _ _ _⟩
   ·refine iha T1 H1 _ T' H' h3 fr1 ha1 _ fun fr2 ha2 => ?_
    cases e with
    | normal => exact absurd rfl h2
    | _ => exact hQ fr2 ha2
 | exit id =>
  intro T H e T' H' h fr ha Q hQ
  injection h with h1 h2 h3
  subst h1; subst h2; subst h3
  exact AWP.exit (hQ fr ha)
 | ret =>
  intro T H e T' H' h fr ha Q hQ
  injection h with h1 h2 h3
  subst h1; subst h2; subst h3
  exact AWP.ret (hQ fr ha)
 | rangeF =>
  intro T H e T' H' h
  cases h
 | bad =>
  intro T H e T' H' h
  cases h
end
noncomputable def bodyL (call : Caller) (fuel : Nat) (args : List AV) (H : Heap) (F : IFun) : Option (AV × Heap) :=
 match F with
 | ⟨n, code, res⟩ => match Nat.ble (lenK args) n with
  | true => match argsK args 0 (FT.full 12) with
   | some T => finK (lenK H) res (execL call (lenK H) fuel code T H)
   | none => none
  | false => none
noncomputable def callL (tab : FuncId → Option IFun) (call : Caller) (fuel : Nat) (f : FuncId) (args : List AV) (H : Heap) (s : Option (AV × Heap)) : Option (AV × Heap) :=
 match s with
 | some r => some r
 | none => match tab f with
  | some F => bodyL call fuel args H F
  | none => none
def fn1 (a : AV) : AV :=
 match a with
 | .sc (.func (.func f) ⟨[]⟩ ⟨[]⟩) => .clo (.func f) [] []
 | a => a
noncomputable def fnA (l : List AV) : List AV := List.rec (motive := fun _ => List AV) [] (fun a _ ih => fn1 a :: ih) l
theorem fnA_eq (l : List AV) : fnA l = l.map fn1 := by
 induction l with
 | nil => rfl
 | cons a l ih =>
  show fn1 a :: fnA l = _
  rw [ih]
  rfl
theorem fn1_le (a : AV) : Le a (fn1 a) := by
 unfold fn1
 split
 ·exact Le.func _
 ·exact fun _ _ _ h => h
theorem CallOK.fnA {P : Program} {f : FuncId} {args : List AV} {H : Heap} {R : AV → Heap → Prop} (h : CallOK P f (fnA args) H R) : CallOK P f args H R := by
 rw [fnA_eq] at h
 refine h.args (by simp) fun j a b ha hb => ?_
 rw [List.getElem?_map, ha] at hb
 injection hb with hb
 subst hb
 exact fn1_le a
noncomputable def runL (sum : Caller) (tab : FuncId → Option IFun) (fuel : Nat) (d : Nat) : Caller :=
 Nat.rec (motive := fun _ => Caller) (fun _ _ _ => none) (fun _ ih f args H => callL tab ih fuel f (fnA args) H (sum f (fnA args) H)) d
theorem bodyL_sound {P : Program} (hp : P.follows .mixedOrders = true) {call : Caller} (hcall : CallerOK P call) {fuel : Nat} {f : FuncId} {F : IFun} (hf : cfun P f = some F) {args : List AV} {H : Heap} {v : AV} {H' : Heap} (h : bodyL call fuel args H F = some (v, H')) :
  CallOK P f args H fun r H2 => r = v ∧ H2 = H' := by
 obtain ⟨n, code, res⟩ := F
 simp only [bodyL] at h
 split at h
 ·rename_i hn
  split at h
  ·rename_i T hT
   rw [lenK_eq] at hn h
   have ha : AgT (argsFr 0 args) T := by
    intro t
    rw [argsK_spec args 0 _ T hT [] (fun t => (FT.get_full 12 t).symm) (fun t _ => rfl) t]
    cases Fr.get (argsFr 0 args) t <;> rfl
   refine CallOK.of hf ?_ (Nat.le_of_ble_eq_true hn)
   unfold finK at h
   split at h
   ·rename_i e T1 H1 hx
    have key : Bool.rec (motive := fun _ => Option (AV × Heap)) none (retK H.length H1 (resOfK (resAllK T1 H1 res))) (resPtr T1 res) = some (v, H') → (e = .normal ∨ e = .ret) →
      AWP P n H.length code (fun e fr' Hx => (e = .normal ∨ e = .ret) ∧ ∃ r r' H2, resOf fr' Hx res = some r ∧ SubV H.length Hx r H2 r' ∧ r' = v ∧ H2 = H') (argsFr 0 args) H := by
     intro h he
     cases hpt : resPtr T1 res with
     | false => rw [hpt] at h; cases h
     | true =>
      rw [hpt] at h
      replace h : retK H.length H1 (resOfK (resAllK T1 H1 res)) = some (v, H') := h
      unfold retK at h
      split at h
      ·rename_i u hu
       injection h with h
       have hs := endK_sub H.length u H1
       rw [h] at hs
       refine execL_sound hp hcall code T H e T1 H1 hx _ ha _ fun fr' ha' => ⟨he, u, v, H', ?_, hs, rfl, rfl⟩
       unfold resOfK at hu
       unfold resOf
       split at hu
       ·rename_i x hx'
        rw [resAllK_eq ha' res _ hpt hx']
        exact hu
       ·rename_i xs hne hx'
        rw [resAllK_eq ha' res _ hpt hx']
        injection hu with hu
        subst hu
        split
        ·rename_i e1
         injection e1 with e1
         exact absurd e1 (hne _)
        ·rename_i e1
         injection e1 with e1
         rw [e1]
        ·rename_i e1
         cases e1
       ·cases hu
      ·cases h
    split at h
    ·exact key h (.inl rfl)
    ·exact key h (.inr rfl)
    ·cases h
   ·cases h
  ·cases h
 ·cases h
theorem runL_sound {P : Program} (hp : P.follows .mixedOrders = true) {sum : Caller} (hsum : CallerOK P sum) {tab : FuncId → Option IFun} (htab : ∀ f F, tab f = some F → cfun P f = some F) {fuel : Nat} : ∀ (d : Nat), CallerOK P (runL sum tab fuel d) := by
 intro d
 induction d with
 | zero => intro f args H v H' h; cases h
 | succ d ih =>
  intro f args H v H' h
  replace h : callL tab (runL sum tab fuel d) fuel f (fnA args) H (sum f (fnA args) H) = some (v, H') := h
  refine CallOK.fnA ?_
  unfold callL at h
  split at h
  ·rename_i r e
   rw [h] at e
   exact hsum f (fnA args) H v H' e
  ·split at h
   ·rename_i F e
    exact bodyL_sound hp ih (htab f F e) h
   ·cases h
end Go.Av
