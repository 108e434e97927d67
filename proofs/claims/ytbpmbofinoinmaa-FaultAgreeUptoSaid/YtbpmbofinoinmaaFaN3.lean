import Derived.Test.YtbpmbofinoinmaaFaN2
namespace Go.Proofs.Ytbpmbofinoinmaa
open Go.Av Go.Proofs

/-! News, walked. -/

abbrev NewsR := List Int × Int × Int
def newsR (n src : Int) (l : List C) : NewsR :=
  if checkS n l = 0 then (if src < 0 ∨ src ≥ n then ([], 0, 11) else ((newsGo n.toNat l (n.toNat + 2) 1 (news0 n.toNat src.toNat)).1, (newsGo n.toNat l (n.toNat + 2) 1 (news0 n.toNat src.toNat)).2, 0)) else ([], 0, checkS n l)
def newsV (p : NewsR) : AV := .tup [.list 1 (intsR p.1), .sc (.int .i64 p.2.1), .sc (.int .i64 p.2.2)]
theorem pure_newsV (p : NewsR) : Pure (newsV p) := .tup _ (allPure_cons (.list _ _ (pure_intsR _)) (allPure_cons (.sc _) (allPure_cons (.sc _) allPure_nil)))

theorem le_tup3 {a a' b c : AV} (h : Le a a') : Le (.tup [a, b, c]) (.tup [a', b, c]) := by
  intro M J v hv
  cases hv with
  | tup _ cvs hl hr =>
    refine .tup _ cvs hl fun j x v hx hv => ?_
    match j, hx with
    | 0, hx => simp at hx; subst hx; exact h M J v (hr 0 a v rfl hv)
    | 1, hx => exact hr 1 x v hx hv
    | 2, hx => exact hr 2 x v hx hv
    | j + 3, hx => simp at hx

theorem fin_nil3 {e : Exit} (he : e = .normal ∨ e = .ret) {rs : List IRes} {fr : Fr} {H : Heap} {b c : AV} {R : AV → Heap → Prop} (hres : resOf fr H rs = some (.tup [.sc (.slice none 0 0), b, c])) (sz : Nat) (hp : Pure (.tup [.list sz [], b, c])) (hR : R (.tup [.list sz [], b, c]) []) :
    (e = .normal ∨ e = .ret) ∧ ∃ res res' H2, resOf fr H rs = some res ∧ SubV 0 H res H2 res' ∧ R res' H2 :=
  ⟨he, _, _, [], hres, (SubV.le (le_tup3 (Le.nil sz))).trans (.pure hp), hR⟩

theorem len_le {n : Int} {l : List C} (_h : checkS n l = 0) (hl : l.length ≤ 4000000) : l.length ≤ 4000000 := hl

theorem intsR_rep (n : Nat) (v : Int) : List.replicate n [AV.sc (.int .i64 v)] = intsR (List.replicate n v) := by simp [intsR]

theorem news_bad (n src : Int) (l : List C) (hl : l.length ≤ 9223372036854775807) (hb : checkS n l ≠ 0 ∨ (src < 0 ∨ src ≥ n)) : CallOK Try.prog 19 [.sc (.int .i64 n), .sc (.int .i64 src), crV l] [] (fun res _ => res = newsV (newsR n src l)) := by
  refine CallOK.of cF19 ?_ (by simp [F19])
  repeat (first | refine Reg.o rfl rfl ?_ | refine Reg.on rfl rfl ?_ | refine Reg.s rfl ?_ | refine Reg.sn rfl ?_ | refine Reg.nil ?_ | refine DK.o rfl rfl ?_ | refine DK.on rfl rfl ?_ | refine DK.s rfl ?_ | refine DK.sn rfl ?_ | refine AWP.seq ?_ | refine AWP.region ?_ | refine AWP.dk mixed ?_ | refine AWP.condT rfl ?_ | refine AWP.condF rfl ?_ | refine AWP.skip ?_ | refine AWP.ret ?_ | refine AWP.exit ?_ | refine AWP.block ?_ )
  refine Reg.c (Nat.le_refl _) rfl (CallOK.ofPure (PureRun.of (allPure_cons (.sc _) (allPure_cons (pure_cr l) allPure_nil)) (.sc _) (check_big n l hl)) _ ?_)
  repeat (first | refine Reg.o rfl rfl ?_ | refine Reg.on rfl rfl ?_ | refine Reg.s rfl ?_ | refine Reg.sn rfl ?_ | refine Reg.nil ?_ | refine DK.o rfl rfl ?_ | refine DK.on rfl rfl ?_ | refine DK.s rfl ?_ | refine DK.sn rfl ?_ | refine AWP.seq ?_ | refine AWP.region ?_ | refine AWP.dk mixed ?_ | refine AWP.condT rfl ?_ | refine AWP.condF rfl ?_ | refine AWP.skip ?_ | refine AWP.ret ?_ | refine AWP.exit ?_ | refine AWP.block ?_ )
  refine AWP.cond rfl (fun hc => ?_) (fun hc => ?_)
  · have hc' : checkS n l ≠ 0 := by simpa using hc
    repeat (first | refine Reg.o rfl rfl ?_ | refine Reg.on rfl rfl ?_ | refine Reg.s rfl ?_ | refine Reg.sn rfl ?_ | refine Reg.nil ?_ | refine DK.o rfl rfl ?_ | refine DK.on rfl rfl ?_ | refine DK.s rfl ?_ | refine DK.sn rfl ?_ | refine AWP.seq ?_ | refine AWP.region ?_ | refine AWP.dk mixed ?_ | refine AWP.condT rfl ?_ | refine AWP.condF rfl ?_ | refine AWP.skip ?_ | refine AWP.ret ?_ | refine AWP.exit ?_ | refine AWP.block ?_ )
    refine fin_nil3 (.inr rfl) rfl 1 (.tup _ (allPure_cons (.list _ _ (fun r hr => by cases hr)) (allPure_cons (.sc _) (allPure_cons (.sc _) allPure_nil)))) ?_
    unfold newsR
    rw [if_neg hc']
    rfl
  · have hc' : checkS n l = 0 := by simpa using hc
    have hb' : src < 0 ∨ src ≥ n := hb.resolve_left fun h => h hc'
    have e : newsR n src l = ([], 0, 11) := by unfold newsR; rw [if_pos hc', if_pos hb']
    repeat (first | refine Reg.o rfl rfl ?_ | refine Reg.on rfl rfl ?_ | refine Reg.s rfl ?_ | refine Reg.sn rfl ?_ | refine Reg.nil ?_ | refine DK.o rfl rfl ?_ | refine DK.on rfl rfl ?_ | refine DK.s rfl ?_ | refine DK.sn rfl ?_ | refine AWP.seq ?_ | refine AWP.region ?_ | refine AWP.dk mixed ?_ | refine AWP.condT rfl ?_ | refine AWP.condF rfl ?_ | refine AWP.skip ?_ | refine AWP.ret ?_ | refine AWP.exit ?_ | refine AWP.block ?_ )
    refine Reg.gs rfl (fun h1 => ?_) (fun h1 => ?_)
    · repeat (first | refine Reg.o rfl rfl ?_ | refine Reg.on rfl rfl ?_ | refine Reg.s rfl ?_ | refine Reg.sn rfl ?_ | refine Reg.nil ?_ | refine DK.o rfl rfl ?_ | refine DK.on rfl rfl ?_ | refine DK.s rfl ?_ | refine DK.sn rfl ?_ | refine AWP.seq ?_ | refine AWP.region ?_ | refine AWP.dk mixed ?_ | refine AWP.condT rfl ?_ | refine AWP.condF rfl ?_ | refine AWP.skip ?_ | refine AWP.ret ?_ | refine AWP.exit ?_ | refine AWP.block ?_ )
      refine fin_nil3 (.inr rfl) rfl 1 (.tup _ (allPure_cons (.list _ _ (fun r hr => by cases hr)) (allPure_cons (.sc _) (allPure_cons (.sc _) allPure_nil)))) ?_
      rw [e]
      rfl
    · repeat (first | refine Reg.o rfl rfl ?_ | refine Reg.on rfl rfl ?_ | refine Reg.s rfl ?_ | refine Reg.sn rfl ?_ | refine Reg.nil ?_ | refine DK.o rfl rfl ?_ | refine DK.on rfl rfl ?_ | refine DK.s rfl ?_ | refine DK.sn rfl ?_ | refine AWP.seq ?_ | refine AWP.region ?_ | refine AWP.dk mixed ?_ | refine AWP.condT rfl ?_ | refine AWP.condF rfl ?_ | refine AWP.skip ?_ | refine AWP.ret ?_ | refine AWP.exit ?_ | refine AWP.block ?_ )
      refine AWP.cond rfl (fun h2 => ?_) (fun h2 => ?_)
      · repeat (first | refine Reg.o rfl rfl ?_ | refine Reg.on rfl rfl ?_ | refine Reg.s rfl ?_ | refine Reg.sn rfl ?_ | refine Reg.nil ?_ | refine DK.o rfl rfl ?_ | refine DK.on rfl rfl ?_ | refine DK.s rfl ?_ | refine DK.sn rfl ?_ | refine AWP.seq ?_ | refine AWP.region ?_ | refine AWP.dk mixed ?_ | refine AWP.condT rfl ?_ | refine AWP.condF rfl ?_ | refine AWP.skip ?_ | refine AWP.ret ?_ | refine AWP.exit ?_ | refine AWP.block ?_ )
        refine fin_nil3 (.inr rfl) rfl 1 (.tup _ (allPure_cons (.list _ _ (fun r hr => by cases hr)) (allPure_cons (.sc _) (allPure_cons (.sc _) allPure_nil)))) ?_
        rw [e]
        rfl
      · exfalso
        simp at h1 h2
        omega

theorem clo_lo (f : FuncId) : Ren (lowS 3) (.clo (.func f) [] [.ptr 0 0 0 0, .ptr 2 0 0 0]) (.clo (.func f) [] [.ptr 0 0 0 0, .ptr 2 0 0 0]) := by
  refine .clo _ _ _ _ _ rfl rfl (fun j x y h => (by simp at h)) fun j x y hx hy => ?_
  cases eq_of_get hx hy
  match j, hx with
  | 0, hx => simp at hx; subst hx; exact .ptr 0 0 0 0 0 0 (lowS_lt (by omega))
  | 1, hx => simp at hx; subst hx; exact .ptr 2 0 2 0 0 0 (lowS_lt (by omega))
  | j + 2, hx => simp at hx

theorem newsMsg (r : Int) (out : List Int) : X51.MsgOK (newsS r out) := by
  intro j m h
  unfold newsS at h
  split at h
  · injection h with h
    subst h
    exact ⟨rfl, allPure_cons (.sc _) allPure_nil, rfl, rfl⟩
  · cases h

theorem outI_succ (l : List C) (r : Int) (F : Nat → List Nat) (out : List Int) (i : Nat) : outI l r F out (i + 1) = if livesS l i r = true then newsT r (outI l r F out i) i (F i) else outI l r F out i := rfl

theorem from_nil {n : Nat} {l : List C} {r : Int} {S : Nat → Option (List AV)} (h : X51.sent l r S n = false) (k : Nat) : X51.from' n l r S n k = [] := by
  unfold X51.from'
  rw [List.filter_eq_nil_iff]
  intro j hj hh
  unfold X51.sent at h
  rw [List.any_eq_false] at h
  have := h j hj
  simp [X51.hears] at hh
  simp [hh.1, hh.2.1] at this

theorem outI_same {n : Nat} {l : List C} {r : Int} {out : List Int} (h : sentN n l r out = false) : stepN n l r out = out := by
  have key : ∀ i, outI l r (hearF n l r out) out i = out := by
    intro i
    induction i with
    | zero => rfl
    | succ i ih =>
      unfold outI
      split
      · rw [ih]
        unfold newsT
        rw [if_pos (.inr (.inr (from_nil h i)))]
      · exact ih
  exact key n

/-- A round of the news. -/
theorem round_ok {n : Nat} {l : List C} {r : Int} {out : List Int} (hn1 : 1 ≤ n) (hn : n ≤ 64) (hr : 1 ≤ r ∧ r ≤ 1000) (hg : ∀ c ∈ l, GoodC n c) (hlen : out.length = n) {X : Heap} :
    CallOK Try.prog 51 [schV n l, .sc (.int .i64 r), .clo (.func 52) [] [.ptr 0 0 0 0, .ptr 2 0 0 0], .clo (.func 53) [] [.ptr 0 0 0 0, .ptr 2 0 0 0]] ([boxB n] :: [newsB out] :: [oneB (.int .i64 r)] :: X)
      (fun res H' => res = .sc (.bool (sentN n l r out)) ∧ H' = [boxB n] :: [newsB (stepN n l r out)] :: [oneB (.int .i64 r)] :: X) := by
  have h := X51.exchange_ok (n := n) (l := l) (r := r) (S := newsS r out) (fs := 52) (ft := 53) (cs := [.ptr 0 0 0 0, .ptr 2 0 0 0]) (ct := [.ptr 0 0 0 0, .ptr 2 0 0 0]) (A := boxB n) (B := newsB out) (D := oneB (.int .i64 r)) hn1 hn hr (newsMsg r out)
    (fun i hi => by have := reach_bounds hg hn1 i r; omega) (Inv := fun i a b d => a = boxB n ∧ b = newsB (outI l r (hearF n l r out) out i) ∧ d = oneB (.int .i64 r)) ⟨rfl, rfl, rfl⟩
    (fun i a b d hi hlv h => ⟨h.1, by rw [h.2.1, outI_succ, if_neg (by rw [hlv]; decide)], h.2.2⟩)
    (fun i a b d hi hlv _ _ _ h => by
      obtain ⟨rfl, rfl, rfl⟩ := h
      have ht := take_news_ok r (outI l r (hearF n l r out) out i) i (by rw [outI_len, hlen]; exact hi) (hearF n l r out i) (.list 1 (X51.msgs (newsS r out) (hearF n l r out i)))
      rw [outI_len, hlen] at ht
      refine ht.mono ?_
      rintro res H' ⟨hp, rfl⟩
      refine ⟨_, _, _, rfl, hp, lo_box _, lo_news _, lo_one _, rfl, ?_, rfl⟩
      rw [outI_succ, if_pos hlv])
    (fun i hi => by
      have hs := send_ok r hr out i (by omega)
      rw [hlen] at hs
      exact hs) (lo_box _) (lo_news _) (lo_one _) (clo_lo 52) (clo_lo 53)
  refine (CallOK.heads (xs := [boxB n, newsB out, oneB (.int .i64 r)]) (k := 3) (X := X) rfl (R := fun res ys => res = .sc (.bool (sentN n l r out)) ∧ ys = [boxB n, newsB (stepN n l r out), oneB (.int .i64 r)]) (h.mono ?_) ?_ ⟨.pure (pure_sch n l), .sc _, clo_lo 52, clo_lo 53, trivial⟩).mono ?_
  · rintro res H' ⟨rfl, a, b, d, rfl, h1, h2, h3, rfl, rfl, rfl⟩
    refine ⟨_, rfl, rfl, .sc _, ?_, rfl, rfl⟩
    intro y hy
    simp at hy
    rcases hy with rfl | rfl | rfl
    · exact h1
    · exact h2
    · exact h3
  · intro y hy
    simp at hy
    rcases hy with rfl | rfl | rfl
    · exact lo_box _
    · exact lo_news _
    · exact lo_one _
  · rintro res H' ⟨ys, _, rfl, _, rfl, rfl⟩
    exact ⟨rfl, rfl⟩

def initL (n k : Nat) : List Int := List.replicate k (-1) ++ List.replicate (n - k) 0
theorem initL_len (n k : Nat) (h : k ≤ n) : (initL n k).length = n := by simp [initL]; omega
theorem initL_set (n k : Nat) (h : k < n) : (initL n k).set k (-1) = initL n (k + 1) := by
  unfold initL
  rw [List.set_append_right _ _ (by simp)]
  rw [List.length_replicate, Nat.sub_self, show n - k = (n - (k + 1)) + 1 by omega, List.replicate_succ, List.set_cons_zero, List.replicate_succ' (n := k)]
  simp

set_option maxHeartbeats 1000000 in
theorem news_good (n src : Nat) (l : List C) (hl : l.length ≤ 4000000) (hc : checkS n l = 0) (hs : src < n) : CallOK Try.prog 19 [.sc (.int .i64 n), .sc (.int .i64 src), crV l] [] (fun res _ => res = newsV (newsR n src l)) := by
  obtain ⟨⟨hn1, hn⟩, hg, hd⟩ := check_zero hc
  have hn1 : 1 ≤ n := by omega
  have hn : n ≤ 64 := by omega
  refine CallOK.of cF19 ?_ (by simp [F19])
  repeat (first | refine Reg.o rfl rfl ?_ | refine Reg.on rfl rfl ?_ | refine Reg.s rfl ?_ | refine Reg.sn rfl ?_ | refine Reg.nil ?_ | refine DK.o rfl rfl ?_ | refine DK.on rfl rfl ?_ | refine DK.s rfl ?_ | refine DK.sn rfl ?_ | refine AWP.seq ?_ | refine AWP.region ?_ | refine AWP.dk mixed ?_ | refine AWP.condT rfl ?_ | refine AWP.condF rfl ?_ | refine AWP.skip ?_ | refine AWP.ret ?_ | refine AWP.exit ?_ | refine AWP.block ?_ )
  refine Reg.c (Nat.le_refl _) rfl (CallOK.ofPure (PureRun.of (allPure_cons (.sc _) (allPure_cons (pure_cr l) allPure_nil)) (.sc _) (check_ok n l hl)) _ ?_)
  rw [hc]
  repeat (first | refine Reg.o rfl rfl ?_ | refine Reg.on rfl rfl ?_ | refine Reg.s rfl ?_ | refine Reg.sn rfl ?_ | refine Reg.nil ?_ | refine DK.o rfl rfl ?_ | refine DK.on rfl rfl ?_ | refine DK.s rfl ?_ | refine DK.sn rfl ?_ | refine AWP.seq ?_ | refine AWP.region ?_ | refine AWP.dk mixed ?_ | refine AWP.condT rfl ?_ | refine AWP.condF rfl ?_ | refine AWP.skip ?_ | refine AWP.ret ?_ | refine AWP.exit ?_ | refine AWP.block ?_ )
  refine AWP.cond rfl (fun h2 => ?_) (fun h2 => ?_)
  · simp at h2
    omega
  repeat (first | refine Reg.o rfl rfl ?_ | refine Reg.on rfl rfl ?_ | refine Reg.s rfl ?_ | refine Reg.sn rfl ?_ | refine Reg.nil ?_ | refine DK.o rfl rfl ?_ | refine DK.on rfl rfl ?_ | refine DK.s rfl ?_ | refine DK.sn rfl ?_ | refine AWP.seq ?_ | refine AWP.region ?_ | refine AWP.dk mixed ?_ | refine AWP.condT rfl ?_ | refine AWP.condF rfl ?_ | refine AWP.skip ?_ | refine AWP.ret ?_ | refine AWP.exit ?_ | refine AWP.block ?_ )
  refine Reg.c (Nat.le_refl _) rfl (CallOK.ofPure (PureRun.of (allPure_cons (.sc _) (allPure_cons (pure_cr l) allPure_nil)) (pure_sch n l) (scheduled_ok n l hl hd)) _ ?_)
  repeat (first | refine Reg.o rfl rfl ?_ | refine Reg.on rfl rfl ?_ | refine Reg.s rfl ?_ | refine Reg.sn rfl ?_ | refine Reg.nil ?_ | refine DK.o rfl rfl ?_ | refine DK.on rfl rfl ?_ | refine DK.s rfl ?_ | refine DK.sn rfl ?_ | refine AWP.seq ?_ | refine AWP.region ?_ | refine AWP.dk mixed ?_ | refine AWP.condT rfl ?_ | refine AWP.condF rfl ?_ | refine AWP.skip ?_ | refine AWP.ret ?_ | refine AWP.exit ?_ | refine AWP.block ?_ )
  refine Reg.o rfl (dstep_mk (n := n) rfl (by omega) (by omega)) ?_
  repeat (first | refine Reg.o rfl rfl ?_ | refine Reg.on rfl rfl ?_ | refine Reg.s rfl ?_ | refine Reg.sn rfl ?_ | refine Reg.nil ?_ | refine DK.o rfl rfl ?_ | refine DK.on rfl rfl ?_ | refine DK.s rfl ?_ | refine DK.sn rfl ?_ | refine AWP.seq ?_ | refine AWP.region ?_ | refine AWP.dk mixed ?_ | refine AWP.condT rfl ?_ | refine AWP.condF rfl ?_ | refine AWP.skip ?_ | refine AWP.ret ?_ | refine AWP.exit ?_ | refine AWP.block ?_ )
  refine AWP.loop (fun k : Nat => [(1, .sc (.int .i64 src)), (10, .ptr 2 0 0 0), (11, .ptr 0 0 0 0), (34, .sc (.int .i64 n)), (35, .sc (.int .i64 k))]) (fun k => [[boxB n], [newsB (initL n k)], [X51.schB n l]]) (fun k => k ≤ n) (fun k => n - k) 0 (Nat.zero_le _) ?_ ?_
  · exact Sub.re [[(2, 0)], [(1, 0)], [(0, 0)]] rfl rfl rfl ⟨⟨⟨_, rfl, RenB.one (sz := 1) (xs := [.hsl 1 0 0 n]) ⟨.hsl _ _ _ _ _ _ rfl, trivial⟩⟩, trivial⟩, ⟨⟨_, rfl, RenB.rows (rows := List.replicate n [.sc (.int .i64 0)]) (by rw [intsR_rep]; rfl) (pure_intsR _)⟩, trivial⟩,
      ⟨⟨_, rfl, X51.pure_schB n l⟩, trivial⟩, trivial⟩ ⟨.int rfl, .ptr _ _ _ _ _ _ rfl, .ptr _ _ _ _ _ _ rfl, .int rfl, .int rfl, trivial⟩
  intro k hk
  have hk1 : IntKind.i64.wrap ((k : Int) + 1) = ((k + 1 : Nat) : Int) := by rw [wrap_small (by omega) (by omega)]; omega
  have hlenk := initL_len n k hk
  repeat (first | refine Reg.o rfl rfl ?_ | refine Reg.on rfl rfl ?_ | refine Reg.s rfl ?_ | refine Reg.sn rfl ?_ | refine Reg.nil ?_ | refine DK.o rfl rfl ?_ | refine DK.on rfl rfl ?_ | refine DK.s rfl ?_ | refine DK.sn rfl ?_ | refine AWP.seq ?_ | refine AWP.region ?_ | refine AWP.dk mixed ?_ | refine AWP.condT rfl ?_ | refine AWP.condF rfl ?_ | refine AWP.skip ?_ | refine AWP.ret ?_ | refine AWP.exit ?_ | refine AWP.block ?_ )
  refine AWP.cond rfl (fun h => ?_) (fun h => ?_)
  · have hlt : k < n := by simpa using h
    repeat (first | refine Reg.o rfl rfl ?_ | refine Reg.on rfl rfl ?_ | refine Reg.s rfl ?_ | refine Reg.sn rfl ?_ | refine Reg.nil ?_ | refine DK.o rfl rfl ?_ | refine DK.on rfl rfl ?_ | refine DK.s rfl ?_ | refine DK.sn rfl ?_ | refine AWP.seq ?_ | refine AWP.region ?_ | refine AWP.dk mixed ?_ | refine AWP.condT rfl ?_ | refine AWP.condF rfl ?_ | refine AWP.skip ?_ | refine AWP.ret ?_ | refine AWP.exit ?_ | refine AWP.block ?_ )
    refine Reg.o rfl (dstep_idxH (q := k) rfl rfl rfl hlt (by simp [intsR, hlenk])) ?_
    refine Reg.on rfl (dstep_stN rfl rfl rfl (by rw [Nat.zero_add]; exact intsR_get (by omega)) rfl (Nat.le_refl _) rfl) ?_
    repeat (first | refine Reg.o rfl rfl ?_ | refine Reg.on rfl rfl ?_ | refine Reg.s rfl ?_ | refine Reg.sn rfl ?_ | refine Reg.nil ?_ | refine DK.o rfl rfl ?_ | refine DK.on rfl rfl ?_ | refine DK.s rfl ?_ | refine DK.sn rfl ?_ | refine AWP.seq ?_ | refine AWP.region ?_ | refine AWP.dk mixed ?_ | refine AWP.condT rfl ?_ | refine AWP.condF rfl ?_ | refine AWP.skip ?_ | refine AWP.ret ?_ | refine AWP.exit ?_ | refine AWP.block ?_ )
    refine ⟨k + 1, by omega, by omega, Sub.re [[(0, 0)], [(1, 0)], [(2, 0)]] rfl rfl rfl ⟨⟨⟨_, rfl, RenB.one (sz := 1) (xs := [.hsl 1 0 0 n]) ⟨.hsl _ _ _ _ _ _ rfl, trivial⟩⟩, trivial⟩, ⟨⟨_, rfl, RenB.rows (rows := (intsR (initL n k)).set (0 + k) [.sc (.int .i64 (-1))]) ?_ (pure_intsR _)⟩, trivial⟩,
      ⟨⟨_, rfl, X51.pure_schB n l⟩, trivial⟩, trivial⟩ ⟨.int rfl, .ptr _ _ _ _ _ _ rfl, .ptr _ _ _ _ _ _ rfl, .int rfl, .int hk1, trivial⟩⟩
    rw [Nat.zero_add, intsR_set, initL_set n k hlt]
  have hkn : k = n := by
    have : ¬ k < n := by simpa using h
    omega
  subst hkn
  repeat (first | refine Reg.o rfl rfl ?_ | refine Reg.on rfl rfl ?_ | refine Reg.s rfl ?_ | refine Reg.sn rfl ?_ | refine Reg.nil ?_ | refine DK.o rfl rfl ?_ | refine DK.on rfl rfl ?_ | refine DK.s rfl ?_ | refine DK.sn rfl ?_ | refine AWP.seq ?_ | refine AWP.region ?_ | refine AWP.dk mixed ?_ | refine AWP.condT rfl ?_ | refine AWP.condF rfl ?_ | refine AWP.skip ?_ | refine AWP.ret ?_ | refine AWP.exit ?_ | refine AWP.block ?_ )
  refine Reg.o rfl (dstep_idxH (q := src) rfl rfl rfl hs (by simp [intsR, hlenk])) ?_
  refine Reg.on rfl (dstep_stN rfl rfl rfl (by rw [Nat.zero_add]; exact intsR_get (by omega)) rfl (Nat.le_refl _) rfl) ?_
  repeat (first | refine Reg.o rfl rfl ?_ | refine Reg.on rfl rfl ?_ | refine Reg.s rfl ?_ | refine Reg.sn rfl ?_ | refine Reg.nil ?_ | refine DK.o rfl rfl ?_ | refine DK.on rfl rfl ?_ | refine DK.s rfl ?_ | refine DK.sn rfl ?_ | refine AWP.seq ?_ | refine AWP.region ?_ | refine AWP.dk mixed ?_ | refine AWP.condT rfl ?_ | refine AWP.condF rfl ?_ | refine AWP.skip ?_ | refine AWP.ret ?_ | refine AWP.exit ?_ | refine AWP.block ?_ )
  refine AWP.loop (σ := Nat × Int × List Int) (fun s => [(10, .ptr 3 0 0 0), (11, .ptr 0 0 0 0), (13, .ptr 2 0 0 0)]) (fun s => [[boxB k], [newsB s.2.2], [oneB (.int .i64 s.2.1)], [X51.schB k l]])
    (fun s => s.2.2.length = k ∧ 1 ≤ s.2.1 ∧ s.2.1 + s.1 = k + 3 ∧ newsGo k l (k + 2) 1 (news0 k src) = newsGo k l s.1 s.2.1 s.2.2 ∧ cnt s.2.2 + flg s.2.1 s.2.2 + 1 ≤ s.1 ∧ ∀ v ∈ s.2.2, v < s.2.1) (fun s => s.1) (k + 2, 1, news0 k src) ?_ ?_ ?_
  · refine ⟨by simp [news0], by simp, by simp only; omega, rfl, ?_, fun v hv => ?_⟩
    · have h1 : cnt (news0 k src) ≤ k := by
        unfold cnt
        exact Nat.le_trans (List.length_filter_le _ _) (by simp [news0])
      have h2 : flg 1 (news0 k src) ≤ 1 := by unfold flg; split <;> omega
      simp only
      omega
    · rcases List.mem_or_eq_of_mem_set hv with h | h
      · have := (List.mem_replicate.1 h).2; simp only; omega
      · simp only; omega
  · refine Sub.re [[(0, 0)], [(1, 0)], [(3, 0)], [(2, 0)]] rfl rfl rfl ⟨⟨⟨_, rfl, RenB.one (sz := 1) (xs := [.hsl 1 0 0 k]) ⟨.hsl _ _ _ _ _ _ rfl, trivial⟩⟩, trivial⟩, ⟨⟨_, rfl, RenB.rows (rows := (intsR (initL k k)).set (0 + src) [.sc (.int .i64 0)]) ?_ (pure_intsR _)⟩, trivial⟩,
      ⟨⟨_, rfl, RenB.one (sz := 1) (xs := [.sc (.int .i64 1)]) ⟨.sc _, trivial⟩⟩, trivial⟩, ⟨⟨_, rfl, X51.pure_schB k l⟩, trivial⟩, trivial⟩ ⟨.ptr _ _ _ _ _ _ rfl, .ptr _ _ _ _ _ _ rfl, .ptr _ _ _ _ _ _ rfl, trivial⟩
    rw [Nat.zero_add, intsR_set]
    simp [initL, news0]
  rintro ⟨f, r, out⟩ ⟨hlen, hr1, hrf, hgo, hcnt, hv⟩
  simp only at hlen hr1 hrf hgo hcnt hv
  repeat (first | refine Reg.o rfl rfl ?_ | refine Reg.on rfl rfl ?_ | refine Reg.s rfl ?_ | refine Reg.sn rfl ?_ | refine Reg.nil ?_ | refine DK.o rfl rfl ?_ | refine DK.on rfl rfl ?_ | refine DK.s rfl ?_ | refine DK.sn rfl ?_ | refine AWP.seq ?_ | refine AWP.region ?_ | refine AWP.dk mixed ?_ | refine AWP.condT rfl ?_ | refine AWP.condF rfl ?_ | refine AWP.skip ?_ | refine AWP.ret ?_ | refine AWP.exit ?_ | refine AWP.block ?_ )
  refine Reg.c (by simp) rfl ((round_ok (X := [[X51.schB k l]]) hn1 hn ⟨hr1, by omega⟩ hg hlen).mono ?_)
  rintro res H' ⟨rfl, rfl⟩
  repeat (first | refine Reg.o rfl rfl ?_ | refine Reg.on rfl rfl ?_ | refine Reg.s rfl ?_ | refine Reg.sn rfl ?_ | refine Reg.nil ?_ | refine DK.o rfl rfl ?_ | refine DK.on rfl rfl ?_ | refine DK.s rfl ?_ | refine DK.sn rfl ?_ | refine AWP.seq ?_ | refine AWP.region ?_ | refine AWP.dk mixed ?_ | refine AWP.condT rfl ?_ | refine AWP.condF rfl ?_ | refine AWP.skip ?_ | refine AWP.ret ?_ | refine AWP.exit ?_ | refine AWP.block ?_ )
  refine AWP.cond rfl (fun hsn => ?_) (fun hsn => ?_)
  · have hsn' : sentN k l r out = false := by simpa using hsn
    have hstep : stepN k l r out = out := by
      rcases outI_same hsn' with h
      exact h
    have hf : ∃ f', f = f' + 1 := ⟨f - 1, by omega⟩
    obtain ⟨f', rfl⟩ := hf
    have hw : IntKind.i64.wrap (r - 1) = r - 1 := wrap_small (by omega) (by omega)
    repeat (first | refine Reg.o rfl rfl ?_ | refine Reg.on rfl rfl ?_ | refine Reg.s rfl ?_ | refine Reg.sn rfl ?_ | refine Reg.nil ?_ | refine DK.o rfl rfl ?_ | refine DK.on rfl rfl ?_ | refine DK.s rfl ?_ | refine DK.sn rfl ?_ | refine AWP.seq ?_ | refine AWP.region ?_ | refine AWP.dk mixed ?_ | refine AWP.condT rfl ?_ | refine AWP.condF rfl ?_ | refine AWP.skip ?_ | refine AWP.ret ?_ | refine AWP.exit ?_ | refine AWP.block ?_ )
    refine DK.nil ⟨by kernel_rfl, ?_⟩
    repeat (first | refine Reg.o rfl rfl ?_ | refine Reg.on rfl rfl ?_ | refine Reg.s rfl ?_ | refine Reg.sn rfl ?_ | refine Reg.nil ?_ | refine DK.o rfl rfl ?_ | refine DK.on rfl rfl ?_ | refine DK.s rfl ?_ | refine DK.sn rfl ?_ | refine AWP.seq ?_ | refine AWP.region ?_ | refine AWP.dk mixed ?_ | refine AWP.condT rfl ?_ | refine AWP.condF rfl ?_ | refine AWP.skip ?_ | refine AWP.ret ?_ | refine AWP.exit ?_ | refine AWP.block ?_ )
    refine fin_frz (R := fun res' _ => res' = newsV (newsR k src l)) (.inr rfl) (res := .tup [.hsl 1 0 0 k, .sc (.int .i64 (IntKind.i64.wrap (r - 1))), .sc (.int .i64 0)]) (res' := newsV (newsR k src l)) rfl ?_ (pure_newsV _) rfl
    have e : newsR k src l = (out, r - 1, 0) := by
      unfold newsR
      rw [if_pos hc, if_neg (by omega)]
      show ((newsGo k l (k + 2) 1 (news0 k src)).1, (newsGo k l (k + 2) 1 (news0 k src)).2, (0 : Int)) = _
      rw [hgo]
      unfold newsGo
      rw [if_neg (by rw [hsn']; decide)]
    rw [e, hw]
    refine Cong.tupL (l := [.hsl 1 0 0 k, .sc (.int .i64 (r - 1)), .sc (.int .i64 0)]) (m := [.list 1 (intsR out), .sc (.int .i64 (r - 1)), .sc (.int .i64 0)]) ⟨?_, .refl _, .refl _, trivial⟩
    have e2 : AV.list 1 (intsR out) = AV.list 1 (intsR (stepN k l r out)) := by rw [hstep]
    rw [e2]
    exact FzA.all rfl (by rw [hstep]; simp [intsR, hlen])
  · have hsn' : sentN k l r out = true := by simpa using hsn
    have hf : ∃ f', f = f' + 1 := ⟨f - 1, by omega⟩
    obtain ⟨f', rfl⟩ := hf
    obtain ⟨h1, h3⟩ := next_less (n := k) (l := l) hr1 hv
    have h4 := flg_of_sent hsn'
    have hw : IntKind.i64.wrap (r + 1) = r + 1 := wrap_small (by omega) (by omega)
    repeat (first | refine Reg.o rfl rfl ?_ | refine Reg.on rfl rfl ?_ | refine Reg.s rfl ?_ | refine Reg.sn rfl ?_ | refine Reg.nil ?_ | refine DK.o rfl rfl ?_ | refine DK.on rfl rfl ?_ | refine DK.s rfl ?_ | refine DK.sn rfl ?_ | refine AWP.seq ?_ | refine AWP.region ?_ | refine AWP.dk mixed ?_ | refine AWP.condT rfl ?_ | refine AWP.condF rfl ?_ | refine AWP.skip ?_ | refine AWP.ret ?_ | refine AWP.exit ?_ | refine AWP.block ?_ )
    refine ⟨(f', r + 1, stepN k l r out), ⟨?_, ?_, ?_, ?_, ?_, h3⟩, Nat.lt_succ_self _, ?_⟩
    · show (outI _ _ _ _ _).length = _
      rw [outI_len, hlen]
    · simp only; omega
    · simp only; omega
    · rw [hgo]
      conv => lhs; unfold newsGo
      rw [if_pos hsn']
    · simp only; omega
    · refine Sub.re [[(0, 0)], [(1, 0)], [(4, 0)], [(3, 0)]] rfl rfl rfl ⟨⟨⟨_, rfl, RenB.one (sz := 1) (xs := [.hsl 1 0 0 k]) ⟨.hsl _ _ _ _ _ _ rfl, trivial⟩⟩, trivial⟩, ⟨⟨_, rfl, RenB.rows (rows := intsR (stepN k l r out)) rfl (pure_intsR _)⟩, trivial⟩,
        ⟨⟨_, rfl, RenB.one (sz := 1) (xs := [.sc (.int .i64 (IntKind.i64.wrap (r + 1)))]) (ys := [.sc (.int .i64 (r + 1))]) ⟨.int hw, trivial⟩⟩, trivial⟩, ⟨⟨_, rfl, X51.pure_schB k l⟩, trivial⟩, trivial⟩ ⟨.ptr _ _ _ _ _ _ rfl, .ptr _ _ _ _ _ _ rfl, .ptr _ _ _ _ _ _ rfl, trivial⟩

end Go.Proofs.Ytbpmbofinoinmaa
