import Derived.Test.YtbpmbofinoinmaaGFaW0
import Derived.Test.YtbpmbofinoinmaaGAvU
namespace Go.Proofs.Ytbpmbofinoinmaa
open Go.Av Go.Proofs
set_option maxRecDepth 20000
theorem endId {k : Nat} {rs : List IRes} {fr : Fr} {H : Heap} {e : Exit} {R : AV → Heap → Prop} {res : AV} (hR : R res H) (he : e = .normal ∨ e = .ret := by first | exact .inr rfl | exact .inl rfl) (hres : resOf fr H rs = some res := by rfl) :
  (e = .normal ∨ e = .ret) ∧ ∃ res res' H2, resOf fr H rs = some res ∧ SubV k H res H2 res' ∧ R res' H2 := ⟨he, _, _, H, hres, SubV.refl _ _ _, hR⟩
theorem dstep_lookAt {g i : Nat} {fr : Fr} {H : Heap} {z : AV} {x ix : Operand} {g' i' : Nat} {n : Int} {es : List (Value × AV)} {ok : Bool} {r : Option AV} (hx : ev fr x = .mref g' i') (hi : ev fr ix = .sc (.int .i64 n)) (hh : hget H g' i' = some (.map es)) (hm : mfind .i64 n es = some r) :
  dstep g i (.lookup z .i64 x ix ok) fr H = lres z ok H (some r) := by
 simp only [dstep, hi, hx, mlook, hh, hm, decide_true]
theorem is_at {H : Heap} {B : List AV} (hB : hget H 0 0 = some (.cells 67 [B])) (h6 : B[66]? = some (.mref 2 0)) : CallOK Try.prog 59 [.ptr 0 0 0 0] H fun res H' => res = .sc (.bool true) ∧ H' = H := by
 refine CallOK.of cF59 ?_ (Nat.le_of_ble_eq_true rfl)
 refine walkX ?_
 refine Reg.o rfl (dstep_ld1 rfl hB rfl h6) ?_
 refine walkX ?_
 exact endId ⟨rfl, rfl⟩
theorem find_at {H : Heap} {B : List AV} {es : List (Value × AV)} {c : Int} {l : List AV} (hB : hget H 0 0 = some (.cells 67 [B])) (h6 : B[66]? = some (.mref 2 0)) (hm : hget H 2 0 = some (.map es)) (hf : mfind .i64 c es = some (some (.cptr l))) :
  CallOK Try.prog 57 [.ptr 0 0 0 0, .sc (.int .i64 c)] H fun res H' => res = .tup [.cptr l, .sc (.int .i64 0)] ∧ H' = H := by
 refine CallOK.of cF57 ?_ (Nat.le_of_ble_eq_true rfl)
 have hi := is_at hB h6
 refine walkX ?_
 refine Reg.c (Nat.le_refl _) rfl (hi.mono ?_)
 rintro res H' ⟨rfl, rfl⟩
 refine walkX ?_
 refine Reg.o rfl (dstep_ld1 rfl hB rfl h6) ?_
 refine walkX ?_
 refine Reg.o rfl (dstep_lookAt rfl rfl hm hf) ?_
 refine walkX ?_
 exact endId ⟨rfl, rfl⟩
def procE (n : Nat) (p : Int) : Int := if p < 0 ∨ (n : Int) ≤ p then 11 else 0
theorem process_at {H : Heap} {B : List AV} {n : Nat} (p : Int) (hB : hget H 0 0 = some (.cells 67 [B])) (h0 : B[0]? = some (.sc (.int .i64 (n : Int)))) (h6 : B[66]? = some (.mref 2 0)) : CallOK Try.prog 56 [.ptr 0 0 0 0, .sc (.int .i64 p)] H fun res H' => res = .sc (.int .i64 (procE n p)) ∧ H' = H := by
 refine CallOK.of cF56 ?_ (Nat.le_of_ble_eq_true rfl)
 have hi := is_at hB h6
 unfold procE
 by_cases h1 : p < 0
 ·rw [if_pos (.inl h1)]
  refine walkX ?_
  refine Reg.c (Nat.le_refl _) rfl (hi.mono ?_)
  rintro res H' ⟨rfl, rfl⟩
  refine walkX ?_
  rw [decide_eq_true h1]
  refine walkX ?_
  exact endId ⟨rfl, rfl⟩
 ·by_cases h2 : (n : Int) ≤ p
  ·rw [if_pos (.inr h2)]
   refine walkX ?_
   refine Reg.c (Nat.le_refl _) rfl (hi.mono ?_)
   rintro res H' ⟨rfl, rfl⟩
   refine walkX ?_
   rw [decide_eq_false h1]
   refine walkX ?_
   refine Reg.o rfl (dstep_ld1 rfl hB rfl h0) ?_
   refine walkX ?_
   rw [decide_eq_true (show p ≥ (n : Int) from h2)]
   refine walkX ?_
   exact endId ⟨rfl, rfl⟩
  ·rw [if_neg (by omega)]
   refine walkX ?_
   refine Reg.c (Nat.le_refl _) rfl (hi.mono ?_)
   rintro res H' ⟨rfl, rfl⟩
   refine walkX ?_
   rw [decide_eq_false h1]
   refine walkX ?_
   refine Reg.o rfl (dstep_ld1 rfl hB rfl h0) ?_
   refine walkX ?_
   rw [decide_eq_false (show ¬ p ≥ (n : Int) from h2)]
   refine walkX ?_
   exact endId ⟨rfl, rfl⟩
def ixP {α : Type} (p : α → Bool) : Nat → List α → Int
 | _, [] => -1
 | k, x :: r => if p x = true then (k : Int) else ixP p (k + 1) r
theorem ixP_at {α : Type} {p : α → Bool} : ∀ {l : List α} {s k : Nat} (h : k < l.length), (l.take k).any p = false → p l[k] = true → ixP p s l = ((s + k : Nat) : Int)
 | x :: r, s, 0, _, _, h2 => by
  have h2 : p x = true := h2
  unfold ixP
  rw [if_pos h2]
  rfl
 | x :: r, s, k + 1, h, h1, h2 => by
  rw [List.take_succ_cons, List.any_cons, Bool.or_eq_false_iff] at h1
  unfold ixP
  rw [if_neg (by rw [h1.1]; decide), ixP_at (k := k) (by simpa using h) h1.2 (by simpa using h2)]
  exact congrArg Nat.cast (by omega)
theorem ixP_no {α : Type} {p : α → Bool} : ∀ {l : List α} {s : Nat}, l.any p = false → ixP p s l = -1
 | [], _, _ => rfl
 | x :: r, s, h => by
  rw [List.any_cons, Bool.or_eq_false_iff] at h
  unfold ixP
  rw [if_neg (by rw [h.1]; decide), ixP_no h.2]
theorem ixP_any {α : Type} {p : α → Bool} : ∀ {l : List α} {s : Nat}, decide (ixP p s l ≥ 0) = l.any p
 | [], _ => rfl
 | x :: r, s => by
  unfold ixP
  rw [List.any_cons]
  cases h : p x with
  | true => simp
  | false => simp [ixP_any (l := r) (s := s + 1), -ge_iff_le]
theorem take_any {α : Type} {p : α → Bool} {l : List α} {k : Nat} (h : k < l.length) (h0 : (l.take k).any p = false) (hp : p l[k] = false) : (l.take (k + 1)).any p = false := by
 rw [List.take_succ_eq_append_getElem h, List.any_append, h0]
 simp [hp]
set_option maxHeartbeats 4000000 in
theorem index84_ok (g : FuncId) (cs : List AV) (hcs : ∀ c ∈ cs, Pure c) (p : Int → Bool) (l : List Int) (hl : l.length ≤ 1000000) (hc : ∀ x ∈ l, PureRun Try.prog g (([] ++ [.sc (.int .i64 x)]) ++ cs) (.sc (.bool (p x)))) : PureRun Try.prog 84 [.list 1 (intsR l), .clo (.func g) [] cs] (.sc (.int .i64 (ixP p 0 l))) := by
 refine PureRun.mk cF84 (Nat.le_of_ble_eq_true rfl) (allPure_cons (pv _) (allPure_cons (.clo _ _ _ allPure_nil hcs) allPure_nil)) (.sc _) ?_
 have e0 := intsLen l
 have hpr : PR cs := ⟨hcs⟩
 refine walkX ?_
 rw [e0]
 refine AWP.loop (fun k : Nat => [(0, .list 1 (intsR l)), (1, .clo (.func g) [] cs), (7, .sc (.int .i64 (l.length : Int))), (8, .sc (.int .i64 (k : Int)))]) (fun k => []) (fun k => k ≤ l.length ∧ (l.take k).any p = false) (fun k => l.length - k) 0 ⟨Nat.zero_le _, rfl⟩ ?_ ?_
 ·exact Sub.w [] []
 rintro k ⟨hk, hb⟩
 refine walkX ?_
 refine AWP.condD rfl (fun h => ?_) (fun h => ?_)
 ·have hr := rowIx_map (fun n : Int => [AV.sc (.int .i64 n)]) l k h
  have hr : rowIx (intsR l) (k : Int) = some [.sc (.int .i64 l[k])] := hr
  have hx := hc _ (List.getElem_mem h)
  by_cases he : p l[k] = true
  ·have hres : AV.sc (Value.int .i64 (k : Int)) = .sc (.int .i64 (ixP p 0 l)) := by rw [ixP_at h hb he, Nat.zero_add]
   rw [he] at hx
   generalize l[k] = y at *
   refine walkX ?_
   rw [← hres]
   exact EndP.w
  ·have hb2 := take_any h hb (by simpa using he)
   rw [show p l[k] = false by simpa using he] at hx
   generalize l[k] = y at *
   refine walkX ?_
   refine ⟨k + 1, ⟨by omega, hb2⟩, by omega, ?_⟩
   exact Sub.w [] []
 have hk : k = l.length := by omega
 subst hk
 rw [List.take_of_length_le (Nat.le_refl _)] at hb
 have hres : AV.sc (Value.int .i64 (-1)) = .sc (.int .i64 (ixP p 0 l)) := by rw [ixP_no hb]
 rw [← hres]
 refine walkX ?_
 exact EndP.w
theorem contains74_ok (g : FuncId) (cs : List AV) (hcs : ∀ c ∈ cs, Pure c) (p : Int → Bool) (l : List Int) (hl : l.length ≤ 1000000) (hc : ∀ x ∈ l, PureRun Try.prog g (([] ++ [.sc (.int .i64 x)]) ++ cs) (.sc (.bool (p x)))) : PureRun Try.prog 74 [.list 1 (intsR l), .clo (.func g) [] cs] (.sc (.bool (l.any p))) := by
 refine PureRun.mk cF74 (Nat.le_of_ble_eq_true rfl) (allPure_cons (pv _) (allPure_cons (.clo _ _ _ allPure_nil hcs) allPure_nil)) (.sc _) ?_
 have hx := index84_ok g cs hcs p l hl hc
 have hpr : PR cs := ⟨hcs⟩
 rw [← ixP_any (p := p) (l := l) (s := 0)]
 generalize ixP p 0 l = q at *
 refine walkX ?_
 exact EndP.w
set_option maxHeartbeats 4000000 in
theorem index90_ok (g : FuncId) (cs : List AV) (hcs : ∀ c ∈ cs, Pure c) (p : C → Bool) (l : List C) (hl : l.length ≤ 1000000) (hc : ∀ x ∈ l, PureRun Try.prog g (([] ++ [.agg (crow x)]) ++ cs) (.sc (.bool (p x)))) : PureRun Try.prog 90 [crV l, .clo (.func g) [] cs] (.sc (.int .i64 (ixP p 0 l))) := by
 refine PureRun.mk cF90 (Nat.le_of_ble_eq_true rfl) (allPure_cons (pv _) (allPure_cons (.clo _ _ _ allPure_nil hcs) allPure_nil)) (.sc _) ?_
 have e0 : (l.map crow).length = l.length := List.length_map ..
 have hpr : PR cs := ⟨hcs⟩
 unfold crV
 have hpl : PRs (l.map crow) := ⟨pure_crs l⟩
 refine walkX ?_
 rw [e0]
 refine AWP.loop (fun k : Nat => [(0, .list 3 (l.map crow)), (1, .clo (.func g) [] cs), (7, .sc (.int .i64 (l.length : Int))), (8, .sc (.int .i64 (k : Int)))]) (fun k => []) (fun k => k ≤ l.length ∧ (l.take k).any p = false) (fun k => l.length - k) 0 ⟨Nat.zero_le _, rfl⟩ ?_ ?_
 ·exact Sub.w [] []
 rintro k ⟨hk, hb⟩
 refine walkX ?_
 refine AWP.condD rfl (fun h => ?_) (fun h => ?_)
 ·have hr := rowIx_map crow l k h
  have hx := hc _ (List.getElem_mem h)
  by_cases he : p l[k] = true
  ·have hres : AV.sc (Value.int .i64 (k : Int)) = .sc (.int .i64 (ixP p 0 l)) := by rw [ixP_at h hb he, Nat.zero_add]
   rw [he] at hx
   generalize l[k] = y at *
   refine walkX ?_
   rw [← hres]
   exact EndP.w
  ·have hb2 := take_any h hb (by simpa using he)
   rw [show p l[k] = false by simpa using he] at hx
   generalize l[k] = y at *
   refine walkX ?_
   refine ⟨k + 1, ⟨by omega, hb2⟩, by omega, ?_⟩
   exact Sub.w [] []
 have hk : k = l.length := by omega
 subst hk
 rw [List.take_of_length_le (Nat.le_refl _)] at hb
 have hres : AV.sc (Value.int .i64 (-1)) = .sc (.int .i64 (ixP p 0 l)) := by rw [ixP_no hb]
 rw [← hres]
 refine walkX ?_
 exact EndP.w
theorem contains79_ok (g : FuncId) (cs : List AV) (hcs : ∀ c ∈ cs, Pure c) (p : C → Bool) (l : List C) (hl : l.length ≤ 1000000) (hc : ∀ x ∈ l, PureRun Try.prog g (([] ++ [.agg (crow x)]) ++ cs) (.sc (.bool (p x)))) : PureRun Try.prog 79 [crV l, .clo (.func g) [] cs] (.sc (.bool (l.any p))) := by
 refine PureRun.mk cF79 (Nat.le_of_ble_eq_true rfl) (allPure_cons (pv _) (allPure_cons (.clo _ _ _ allPure_nil hcs) allPure_nil)) (.sc _) ?_
 have hx := index90_ok g cs hcs p l hl hc
 have hpr : PR cs := ⟨hcs⟩
 rw [← ixP_any (p := p) (l := l) (s := 0)]
 generalize ixP p 0 l = q at *
 refine walkX ?_
 exact EndP.w
def tG (g : List Nat) : AV := .cptr [.list 1 (E.natsR g), .undef]
def wA (al : Nat → Bool) : AV := .cptr (.undef :: (bset 64 al ++ [.undef, .undef]))
def outB (g : List Nat) (r : Int) : Bool := decide (r < 0) || decide (r ≥ (g.length : Int))
theorem has1_ok (g : List Nat) (r : Int) (_hg : g.length ≤ 64) : PureRun Try.prog 75 (([] ++ [.sc (.int .i64 r)]) ++ [.cptr [tG g]]) (.sc (.bool (outB g r))) := by
 refine PureRun.mk cF75 (Nat.le_of_ble_eq_true rfl) (allPure_cons (.sc _) (allPure_cons (pv (.cptr [.cptr [.list 1 (E.natsR g), .undef]])) allPure_nil)) (.sc _) ?_
 have e0 := natsR_len g
 have e1 : (([] ++ [AV.sc (Value.int .i64 r)]) ++ [.cptr [tG g]]) = [.sc (.int .i64 r), .cptr [tG g]] := rfl
 rw [e1]
 unfold tG outB
 by_cases h : r < 0
 ·refine walkX ?_
  rw [decide_eq_true h]
  refine walkX ?_
  exact EndP.w
 ·refine walkX ?_
  rw [decide_eq_false h]
  refine walkX ?_
  rw [e0]
  refine walkX ?_
  exact EndP.w
theorem has_ok (g : List Nat) (l : List Int) (hg : g.length ≤ 64) (hl : l.length ≤ 1000000) : PureRun Try.prog 58 [tG g, .list 1 (intsR l)] (.sc (.bool (!l.any (outB g)))) := by
 refine PureRun.mk cF58 (Nat.le_of_ble_eq_true rfl) (allPure_cons (pv (.cptr [.list 1 (E.natsR g), .undef])) (allPure_cons (pv _) allPure_nil)) (.sc _) ?_
 have hc := contains74_ok 75 [.cptr [tG g]] (allPure_cons (pv (.cptr [.cptr [.list 1 (E.natsR g), .undef]])) allPure_nil) (outB g) l hl fun x _ => has1_ok g x hg
 unfold tG at *
 generalize l.any (outB g) = b at *
 refine walkX ?_
 refine Reg.pv (Nat.zero_le _) rfl hc (.sc _) (ToL.cons (.pure (pv (.list 1 (intsR l)))) (ToL.cons (To.cloL ToL.nil (ToL.cons (To.fzp rfl rfl rfl (To.cptrL (ToL.cons (.pure (pv (.cptr [.list 1 (E.natsR g), .undef]))) ToL.nil))) ToL.nil)) ToL.nil)) ?_
 refine walkX ?_
 exact EndP.w
def setAl (al : Nat → Bool) (p : Nat) (x : Nat) : Bool := if x = p then false else al x
def killW (w : Wd) (p : Int) : Int × Wd := if procE w.n p ≠ 0 then (procE w.n p, w) else if w.al p.toNat = true then (0, { w with al := setAl w.al p.toNat }) else (6, w)
theorem procE0 {n : Nat} {p : Int} (h : ¬ procE n p ≠ 0) : ∃ q : Nat, p = (q : Int) ∧ q < n := by
 unfold procE at h
 split at h
 ·exact absurd (by decide) h
 ·exact ⟨p.toNat, by omega, by omega⟩
theorem B0 (n : Nat) (al : Nat → Bool) : (boxR n al)[0]? = some (.sc (.int .i64 (n : Int))) := rfl
set_option maxHeartbeats 2000000 in
theorem kill_ok (w : Wd) (p : Int) (hn : w.n ≤ 64) : CallOK Try.prog 25 [.ptr 0 0 0 0, .sc (.int .i64 p)] (worldH w) fun res H' => res = .sc (.int .i64 (killW w p).1) ∧ H' = worldH (killW w p).2 := by
 refine CallOK.of cF25 ?_ (Nat.le_of_ble_eq_true rfl)
 have hp := process_at (H := worldH w) p rfl (B0 w.n w.al) (boxR_tm w.n w.al)
 unfold killW
 have hset := fun p (h : p < 64) b => boxR_set (n := w.n) (al := w.al) h b
 have hal := fun p (h : p < 64) => boxR_al (n := w.n) (al := w.al) h
 have hlen := boxR_len w.n w.al
 by_cases h : procE w.n p ≠ 0
 ·rw [if_pos h]
  unfold worldH at *
  generalize hB : boxR w.n w.al = B at *
  refine walkX ?_
  refine Reg.c (Nat.le_refl _) rfl (hp.mono ?_)
  rintro res H' ⟨rfl, rfl⟩
  refine walkX ?_
  rw [show (procE w.n p != 0) = true by simpa using h]
  refine walkX ?_
  exact endId ⟨rfl, rfl⟩
 ·rw [if_neg h]
  rw [show procE w.n p = 0 by simpa using h] at hp
  obtain ⟨q, rfl, hq⟩ := procE0 h
  have hq64 : q < 64 := by omega
  have h1 := hal q hq64
  have h2 := hset q hq64 false
  have hwB : worldH w = [[.cells 67 [boxR w.n w.al]], [.cells 64 (knR w.n w.kn)], [.map (tmE w.ts)], rvF w.ts] := rfl
  by_cases ha : w.al q = true
  ·rw [show ((q : Int)).toNat = q from rfl, if_pos ha]
   rw [hwB] at hp ⊢
   generalize hB : boxR w.n w.al = B at *
   rw [ha] at h1
   refine walkX ?_
   refine Reg.c (Nat.le_refl _) rfl (hp.mono ?_)
   rintro res H' ⟨rfl, rfl⟩
   refine walkX ?_
   refine Reg.o rfl (dstep_idxArr (q := q) rfl rfl rfl hq64) ?_
   refine Reg.o rfl (dstep_ld1 rfl rfl rfl (by rw [Nat.mul_one]; exact h1)) ?_
   refine walkX ?_
   refine Reg.o rfl (dstep_idxArr (q := q) rfl rfl rfl hq64) ?_
   refine Reg.on rfl (dstep_st1 rfl rfl rfl rfl (by rw [hlen]; omega) rfl) ?_
   refine walkX ?_
   refine endWd (.sc (.int .i64 0)) { w with al := setAl w.al q } ⟨rfl, rfl⟩ ?_
   show [Blk.cells 67 [B.set (1 + q * 1) _]] = _
   rw [Nat.mul_one, h2]
   rfl
  ·rw [show ((q : Int)).toNat = q from rfl, if_neg ha]
   rw [hwB] at hp ⊢
   generalize hB : boxR w.n w.al = B at *
   rw [show w.al q = false by simpa using ha] at h1
   refine walkX ?_
   refine Reg.c (Nat.le_refl _) rfl (hp.mono ?_)
   rintro res H' ⟨rfl, rfl⟩
   refine walkX ?_
   refine Reg.o rfl (dstep_idxArr (q := q) rfl rfl rfl hq64) ?_
   refine Reg.o rfl (dstep_ld1 rfl rfl rfl (by rw [Nat.mul_one]; exact h1)) ?_
   refine walkX ?_
   exact endId ⟨rfl, rfl⟩
structure WOK (w : Wd) : Prop where
 n1 : w.n ≤ 64
 gs : ∀ c, c < w.ts.length → GOK w.n (tmAt w.ts c).g
def sendT (w : Wd) (t : Tm) (a b : Int) : Int × Wd :=
 if (outB t.g a || outB t.g b) = true then (11, w) else if w.al (gAt t.g a) = true then (if t.rv a.toNat = true then (17, w) else if w.al (gAt t.g b) = true then (0, w) else (16, { w with kn := setK w.kn (gAt t.g a) (gAt t.g b) })) else (6, w)
theorem knR_set {n p q : Nat} {kn : Nat → Nat → Bool} : (knR n kn).set p ((bset 64 (kn p)).set q (.sc (.bool true))) = knR n (setK kn p q) := by
 unfold knR
 apply List.ext_getElem?
 intro i
 rw [List.getElem?_set, bset_set]
 by_cases hi : i < n
 ·rw [List.getElem?_map, List.getElem?_map, List.getElem?_range hi]
  simp only [Option.map_some, List.length_map, List.length_range]
  by_cases h : p = i
  ·subst h
   rw [if_pos rfl, if_pos hi]
   unfold setK
   simp
  ·rw [if_neg h, show setK kn p q i = kn i from funext fun j => if_neg fun e => h e.1.symm]
 ·rw [List.getElem?_map, List.getElem?_map, List.getElem?_eq_none (show (List.range n).length ≤ i by rw [List.length_range]; omega)]
  simp
  omega
theorem outB_no {g : List Nat} {r : Int} (h : outB g r = false) : ∃ q : Nat, r = (q : Int) ∧ q < g.length := by
 unfold outB at h
 simp at h
 exact ⟨r.toNat, by omega, by omega⟩
theorem rvR_get {t : Tm} {q : Nat} (h : q < t.g.length) : (rvR t)[q]? = some [.sc (.bool (t.rv q))] := row1_get h
theorem natsR_at {n : Nat} {g : List Nat} (_h : GOK n g) {q : Nat} (hq : q < g.length) : rowIx (E.natsR g) (q : Int) = some [.sc (.int .i64 ((gAt g (q : Int) : Nat) : Int))] := by
 rw [natsR_ix g q hq, gAt_get hq]
set_option maxHeartbeats 4000000 in
theorem wsend_ok (w : Wd) (c : Nat) (a b : Int) (hw : WOK w) (hc : c < w.ts.length) : CallOK Try.prog 26 [.ptr 0 0 0 0, .sc (.int .i64 (c : Int)), .sc (.int .i64 a), .sc (.int .i64 b)] (worldH w) fun res H' => res = .sc (.int .i64 (sendT w (tmAt w.ts c) a b).1) ∧ H' = worldH (sendT w (tmAt w.ts c) a b).2 := by
 refine CallOK.of cF26 ?_ (Nat.le_of_ble_eq_true rfl)
 have hg := hw.gs c hc
 have hn := hw.n1
 have hgl := hg.len
 have hf := find_at (H := worldH w) (c := (c : Int)) rfl (boxR_tm w.n w.al) rfl (tmE_at hc)
 have hrv : hget (worldH w) 3 c = some (.cells 1 (rvR (tmAt w.ts c))) := rvF_get hc
 have hh := has_ok (tmAt w.ts c).g [a, b] (by omega) (by simp)
 rw [show [a, b].any (outB (tmAt w.ts c).g) = (outB (tmAt w.ts c).g a || outB (tmAt w.ts c).g b) by simp] at hh
 have hal := fun p (h : p < 64) => boxR_al (n := w.n) (al := w.al) h
 have h65 := boxR_kn w.n w.al
 have hlen := boxR_len w.n w.al
 have hwB : worldH w = [[.cells 67 [boxR w.n w.al]], [.cells 64 (knR w.n w.kn)], [.map (tmE w.ts)], rvF w.ts] := rfl
 have hrl := rvR_len (tmAt w.ts c)
 unfold sendT
 by_cases h1 : (outB (tmAt w.ts c).g a || outB (tmAt w.ts c).g b) = true
 ·rw [if_pos h1]
  rw [h1] at hh
  rw [hwB] at hf ⊢
  generalize hB : boxR w.n w.al = B at *
  refine walkX ?_
  refine Reg.c (Nat.le_refl _) rfl (hf.mono ?_)
  rintro res H' ⟨rfl, rfl⟩
  refine walkX ?_
  refine Reg.pv (Nat.le_succ _) rfl hh (.sc _) (ToL.cons (To.cptrL (ToL.cons (.pure (pv (.list 1 (E.natsR _)))) (ToL.cons (.undef _) ToL.nil))) (ToL.cons (To.fz rfl rfl rfl rfl (prs _)) ToL.nil)) ?_
  refine walkX ?_
  refine endWd (.sc (.int .i64 11)) w ⟨rfl, hwB⟩ ?_
  rw [hB]
 rw [if_neg h1]
 rw [show (outB (tmAt w.ts c).g a || outB (tmAt w.ts c).g b) = false by simpa using h1] at hh
 rw [Bool.or_eq_true, not_or] at h1
 obtain ⟨i, rfl, hi⟩ := outB_no (by simpa using h1.1)
 obtain ⟨j, rfl, hj⟩ := outB_no (by simpa using h1.2)
 have hri := natsR_at hg hi
 have hrj := natsR_at hg hj
 have hpi := hg.at hi
 have hpj := hg.at hj
 have hvi := rvR_get hi
 rw [show ((i : Int)).toNat = i from rfl]
 rw [hwB] at hf hrv ⊢
 generalize hB : boxR w.n w.al = B at *
 generalize gAt (tmAt w.ts c).g (i : Int) = p at *
 generalize gAt (tmAt w.ts c).g (j : Int) = q at *
 have hp64 : p < 64 := by omega
 have hq64 : q < 64 := by omega
 have hbp := hal p hp64
 have hbq := hal q hq64
 refine walkX ?_
 refine Reg.c (Nat.le_refl _) rfl (hf.mono ?_)
 rintro res H' ⟨rfl, rfl⟩
 refine walkX ?_
 refine Reg.pv (Nat.le_succ _) rfl hh (.sc _) (ToL.cons (To.cptrL (ToL.cons (.pure (pv (.list 1 (E.natsR _)))) (ToL.cons (.undef _) ToL.nil))) (ToL.cons (To.fz rfl rfl rfl rfl (prs _)) ToL.nil)) ?_
 refine walkX ?_
 refine DK.o rfl (dstep_idxArr (q := p) rfl rfl rfl hp64) ?_
 refine DK.o rfl (dstep_ld1 rfl rfl rfl (by rw [Nat.mul_one]; exact hbp)) ?_
 refine walkX ?_
 refine DK.nil ⟨by kernel_rfl, ?_⟩
 by_cases ha : w.al p = true
 ·rw [if_pos ha]
  rw [ha]
  refine walkX ?_
  refine Reg.o rfl (dstep_idxH (q := i) rfl rfl hrv hi (by rw [hrl]; omega)) ?_
  refine Reg.o rfl (dstep_ld1 rfl hrv (by rw [Nat.zero_add]; exact hvi) rfl) ?_
  refine walkX ?_
  by_cases hr : (tmAt w.ts c).rv i = true
  ·rw [if_pos hr]
   rw [hr]
   refine walkX ?_
   refine endWd (.sc (.int .i64 17)) w ⟨rfl, rfl⟩ ?_
   rw [hB]
  ·rw [if_neg hr]
   rw [show (tmAt w.ts c).rv i = false by simpa using hr]
   refine walkX ?_
   refine DK.o rfl (dstep_idxArr (q := q) rfl rfl rfl hq64) ?_
   refine DK.o rfl (dstep_ld1 rfl rfl rfl (by rw [Nat.mul_one]; exact hbq)) ?_
   refine walkX ?_
   refine DK.nil ⟨by kernel_rfl, ?_⟩
   by_cases hb : w.al q = true
   ·rw [if_pos hb]
    rw [hb]
    refine walkX ?_
    refine endWd (.sc (.int .i64 0)) w ⟨rfl, rfl⟩ ?_
    rw [hB]
   ·rw [if_neg hb]
    rw [show w.al q = false by simpa using hb]
    have hkl := knR_len w.n w.kn
    have hkp := knR_get (kn := w.kn) hpi
    have hks := knR_set (n := w.n) (p := p) (q := q) (kn := w.kn)
    refine walkX ?_
    refine DK.nil ⟨by kernel_rfl, ?_⟩
    refine walkX ?_
    refine endWd (.sc (.int .i64 16)) { w with kn := setK w.kn p q } ⟨rfl, rfl⟩ ?_ ?_
    ·rw [← hB]
    ·rw [← hks]
     rfl
 ·rw [if_neg ha]
  rw [show w.al p = false by simpa using ha]
  refine walkX ?_
  refine endWd (.sc (.int .i64 6)) w ⟨rfl, rfl⟩ ?_
  rw [hB]
theorem list_run (s : Nat → Bool) : PureRun Try.prog 55 [.agg (bset 64 s)] (intsV (elems 64 s)) := PureRun.ofI (list_ok s)
theorem alive_at (w : Wd) : CallOK Try.prog 28 [.ptr 0 0 0 0] (worldH w) fun res H' => res = intsV (elems 64 w.al) ∧ H' = worldH w := by
 refine CallOK.of cF28 ?_ (Nat.le_of_ble_eq_true rfl)
 have hi := is_at (H := worldH w) rfl (boxR_tm w.n w.al)
 have hl := list_run w.al
 have ha := boxR_all w.n w.al
 have hlen := boxR_len w.n w.al
 have hwB : worldH w = [[.cells 67 [boxR w.n w.al]], [.cells 64 (knR w.n w.kn)], [.map (tmE w.ts)], rvF w.ts] := rfl
 rw [hwB] at hi ⊢
 generalize hB : boxR w.n w.al = B at *
 refine walkX ?_
 refine Reg.c (Nat.le_refl _) rfl (hi.mono ?_)
 rintro res H' ⟨rfl, rfl⟩
 refine walkX ?_
 refine Reg.o rfl (dstep_ldN rfl rfl rfl (by rw [hlen]; exact Nat.le_of_ble_eq_true rfl) ha) ?_
 refine walkX ?_
 exact endId ⟨rfl, rfl⟩
theorem clone65_ok (R : List (List AV)) (hp : PRs R) (h0 : 0 < R.length) (hl : R.length ≤ 1000000) : CallOK Try.prog 65 [.list 1 R] [] fun res H' => res = .hsl 0 0 0 R.length ∧ H' = [[.cells 1 R]] := by
 refine CallOK.of cF65 ?_ (Nat.le_of_ble_eq_true rfl)
 obtain ⟨r, R, rfl⟩ : ∃ r R2, R = r :: R2 := by
  cases R with
  | nil => simp at h0
  | cons r R => exact ⟨r, R, rfl⟩
 refine walkX ?_
 rw [show (0 : Nat) + (r :: R).length = (r :: R).length from Nat.zero_add _]
 exact endW [[(1,0)]] (⟨rfl, rfl⟩)
theorem clone78_ok (R : List (List AV)) (hp : PRs R) (h0 : 0 < R.length) (hl : R.length ≤ 1000000) : CallOK Try.prog 78 [.list 3 R] [] fun res H' => res = .hsl 0 0 0 R.length ∧ H' = [[.cells 3 R]] := by
 refine CallOK.of cF78 ?_ (Nat.le_of_ble_eq_true rfl)
 obtain ⟨r, R, rfl⟩ : ∃ r R2, R = r :: R2 := by
  cases R with
  | nil => simp at h0
  | cons r R => exact ⟨r, R, rfl⟩
 refine walkX ?_
 rw [show (0 : Nat) + (r :: R).length = (r :: R).length from Nat.zero_add _]
 exact endW [[(1,0)]] (⟨rfl, rfl⟩)
theorem rvR_sc (t : Tm) : ∀ r ∈ rvR t, ∀ c ∈ r, ∃ v, c = AV.sc v := fun r hr c hc => by
 obtain ⟨j, _, rfl⟩ := List.mem_map.1 hr
 exact ⟨_, List.mem_singleton.1 hc⟩
theorem revoked_at (w : Wd) (c : Nat) (hc : c < w.ts.length) (h0 : 0 < (tmAt w.ts c).g.length) (h1 : (tmAt w.ts c).g.length ≤ 64) : CallOK Try.prog 33 [.ptr 0 0 0 0, .sc (.int .i64 (c : Int))] (worldH w) fun res H' => res = .tup [.list 1 (rvR (tmAt w.ts c)), .sc (.int .i64 0)] ∧ H' = worldH w := by
 refine CallOK.of cF33 ?_ (Nat.le_of_ble_eq_true rfl)
 have hf := find_at (H := worldH w) (c := (c : Int)) rfl (boxR_tm w.n w.al) rfl (tmE_at hc)
 have hl := rvR_len (tmAt w.ts c)
 have hcl := CallOK.viewL (H := worldH w) (args := [.hsl 3 c 0 (tmAt w.ts c).g.length]) (rvR_sc (tmAt w.ts c)) (clone65_ok (rvR (tmAt w.ts c)) inferInstance (by omega) (by omega)) (ToL.cons (To.fz (rvF_get hc) rfl hl rfl (prs _)) ToL.nil)
 rw [hl] at hcl
 have hwB : worldH w = [[.cells 67 [boxR w.n w.al]], [.cells 64 (knR w.n w.kn)], [.map (tmE w.ts)], rvF w.ts] := rfl
 rw [hwB] at hf hcl ⊢
 generalize hB : boxR w.n w.al = B at *
 refine walkX ?_
 refine Reg.c (Nat.le_refl _) rfl (hf.mono ?_)
 rintro res H' ⟨rfl, rfl⟩
 refine walkX ?_
 refine Reg.c (Nat.le_refl _) rfl (hcl.mono ?_)
 rintro res H' ⟨rfl, rfl⟩
 refine walkX ?_
 refine endWd (.tup [.list 1 (rvR (tmAt w.ts c)), .sc (.int .i64 0)]) w ⟨rfl, hwB⟩ ?_
 rw [hB]
instance (c : C) : PR (crow c) := ⟨pure_crow c⟩
instance (g : List Nat) : PV (tG g) := ⟨pv (.cptr [.list 1 (E.natsR g), .undef])⟩
instance (al : Nat → Bool) : PV (wA al) := ⟨pv (.cptr (AV.undef :: (bset 64 al ++ [AV.undef, AV.undef])))⟩
theorem buryW_snoc (g : List Nat) (c : C) : ∀ (l : List C) (al : Nat → Bool), buryW al g (l ++ [c]) = setAl (buryW al g l) (gAt g c.rank)
 | [], _ => rfl
 | d :: l, al => by
  show buryW _ g (l ++ [c]) = setAl (buryW _ g l) _
  exact buryW_snoc g c l _
set_option maxHeartbeats 4000000 in
theorem bury_at (w : Wd) (g : List Nat) (l : List C) (hn : w.n ≤ 64) (hg : GOK w.n g) (hl : l.length ≤ 64) (hr : ∀ c ∈ l, 0 ≤ c.rank ∧ c.rank < g.length) :
  CallOK Try.prog 64 [.ptr 0 0 0 0, tG g, crV l] (worldH w) fun res H' => res = .tup [] ∧ H' = worldH { w with al := buryW w.al g l } := by
 refine CallOK.of cF64 ?_ (Nat.le_of_ble_eq_true rfl)
 have e0 : (l.map crow).length = l.length := List.length_map ..
 have hw0 : worldH w = [[.cells 67 [boxR w.n w.al]], [.cells 64 (knR w.n w.kn)], [.map (tmE w.ts)], rvF w.ts] := rfl
 rw [hw0]
 unfold crV
 have hpl : PRs (l.map crow) := ⟨pure_crs l⟩
 refine walkX ?_
 rw [e0]
 refine AWP.loop (fun k : Nat => [(0, .ptr 0 0 0 0), (1, tG g), (8, .list 3 (l.map crow)), (9, .sc (.int .i64 (l.length : Int))), (10, .sc (.int .i64 (k : Int)))]) (fun k => [[.cells 67 [boxR w.n (buryW w.al g (l.take k))]], [.cells 64 (knR w.n w.kn)], [.map (tmE w.ts)], rvF w.ts]) (fun k => k ≤ l.length) (fun k => l.length - k) 0 (Nat.zero_le _) ?_ ?_
 ·refine Sub.wd (w := w) [] ?_
  (all_goals (repeat' (first | exact ToAll.nil | exact famsTo.nil | exact famTo.nil | exact ToL.nil | exact ToR.nil | refine ToAll.cons ?_ ?_ | refine famsTo.cons ?_ ?_ | refine wt10 ?_ ?_ | exact To.undef _ | exact To.sc _ | exact To.hslL rfl rfl | exact To.ptrO rfl rfl rfl | exact To.mrefO rfl | exact To.nil rfl rfl rfl | exact wt1 | exact To.nilL | refine To.int ?_ | refine To.bool ?_ | refine To.hslL rfl ?_ | refine wt2 rfl ?_ ?_ ?_ | refine To.tupL ?_ | refine To.aggL ?_ | refine To.cptrL ?_ | refine wt3 ?_ | refine wt4 ?_ | refine To.cloL ?_ ?_ | exact wt5 | refine wt6 ?_ | refine ToB.one ?_ | exact wt7 | ((with_reducible apply ToL.consE); case e9 => rfl) | refine wt8 ?_ | refine ToL.cons ?_ ?_ | exact wt11 | refine wt9 ?_ ?_ | refine wt12 ?_ | (with_reducible rfl) | assumption)); all_goals (first | rfl | assumption | (simp; done) | (simp; omega) | (rw [wrap_small (by omega) (by omega)]; done) | (rw [wrap_small (by omega) (by omega)]; omega) | (refine congrArg Nat.cast ?_; assumption) | skip))
 rintro k hk
 have hset := fun p (h : p < 64) b => boxR_set (n := w.n) (al := buryW w.al g (l.take k)) h b
 have hlen := boxR_len w.n (buryW w.al g (l.take k))
 generalize hB : boxR w.n (buryW w.al g (l.take k)) = B at *
 refine walkX ?_
 refine AWP.condD rfl (fun h => ?_) (fun h => ?_)
 ·have hx := rowIx_map crow l k h
  have hc := hr _ (List.getElem_mem h)
  have hs := buryW_snoc g l[k] (l.take k) w.al
  rw [← List.take_succ_eq_append_getElem h] at hs
  generalize l[k] = y at *
  obtain ⟨q, hq⟩ : ∃ q : Nat, y.rank = (q : Int) := ⟨y.rank.toNat, by omega⟩
  unfold crow at hx
  rw [hq] at hx hs
  have hri := natsR_at hg (q := q) (by omega)
  have hp := hg.at (r := q) (by omega)
  generalize gAt g (q : Int) = p at *
  have hp64 : p < 64 := by omega
  unfold tG
  refine walkX ?_
  refine DK.o rfl (dstep_idxArr (q := p) rfl rfl rfl hp64) ?_
  refine DK.on rfl (dstep_st1 rfl rfl rfl rfl (by rw [hlen]; omega) rfl) ?_
  refine DK.nil ⟨by kernel_rfl, ?_⟩
  refine walkX ?_
  refine ⟨k + 1, by omega, by omega, ?_⟩
  refine Sub.wd (w := { w with al := buryW w.al g (l.take (k + 1)) }) [] ?_ ?_
  ·(all_goals (repeat' (first | exact ToAll.nil | exact famsTo.nil | exact famTo.nil | exact ToL.nil | exact ToR.nil | refine ToAll.cons ?_ ?_ | refine famsTo.cons ?_ ?_ | refine wt10 ?_ ?_ | exact To.undef _ | exact To.sc _ | exact To.hslL rfl rfl | exact To.ptrO rfl rfl rfl | exact To.mrefO rfl | exact To.nil rfl rfl rfl | exact wt1 | exact To.nilL | refine To.int ?_ | refine To.bool ?_ | refine To.hslL rfl ?_ | refine wt2 rfl ?_ ?_ ?_ | refine To.tupL ?_ | refine To.aggL ?_ | refine To.cptrL ?_ | refine wt3 ?_ | refine wt4 ?_ | refine To.cloL ?_ ?_ | exact wt5 | refine wt6 ?_ | refine ToB.one ?_ | exact wt7 | ((with_reducible apply ToL.consE); case e9 => rfl) | refine wt8 ?_ | refine ToL.cons ?_ ?_ | exact wt11 | refine wt9 ?_ ?_ | refine wt12 ?_ | (with_reducible rfl) | assumption)); all_goals (first | rfl | assumption | (simp; done) | (simp; omega) | (rw [wrap_small (by omega) (by omega)]; done) | (rw [wrap_small (by omega) (by omega)]; omega) | (refine congrArg Nat.cast ?_; assumption) | skip))
  ·rw [hs]
   show [Blk.cells 67 [B.set (1 + p * 1) _]] = _
   rw [Nat.mul_one, hset p hp64]
   rfl
 ·have hk2 : k = l.length := by omega
  subst hk2
  rw [List.take_of_length_le (Nat.le_refl _)] at hB
  refine walkX ?_
  refine endWd (.tup []) { w with al := buryW w.al g l } ⟨rfl, rfl⟩ ?_
  rw [hB]
theorem clone78_any (R : List (List AV)) (hp : PRs R) (hl : R.length ≤ 1000000) : CallOK Try.prog 78 [.list 3 R] [] fun res H' => res = .hsl 0 0 0 R.length ∧ H' = [[.cells 3 R]] := by
 by_cases h0 : 0 < R.length
 ·exact clone78_ok R hp h0 hl
 have h0 : R = [] := List.length_eq_zero_iff.1 (by omega)
 subst h0
 refine CallOK.of cF78 ?_ (Nat.le_of_ble_eq_true rfl)
 refine walkX ?_
 refine Reg.nilOr rfl rfl fun b => ?_
 cases b with
 | true =>
  refine walkX ?_
  refine ⟨.inr rfl, _, .hsl 0 0 0 0, [[.cells 3 []]], rfl, SubV.to [3] [[(0,0)]] ?_ ?_ rfl rfl rfl, rfl, rfl⟩
  ·(all_goals (repeat' (first | exact ToAll.nil | exact famsTo.nil | exact famTo.nil | exact ToL.nil | exact ToR.nil | refine ToAll.cons ?_ ?_ | refine famsTo.cons ?_ ?_ | refine wt10 ?_ ?_ | exact To.undef _ | exact To.sc _ | exact To.hslL rfl rfl | exact To.ptrO rfl rfl rfl | exact To.mrefO rfl | exact To.nil rfl rfl rfl | exact wt1 | exact To.nilL | refine To.int ?_ | refine To.bool ?_ | refine To.hslL rfl ?_ | refine wt2 rfl ?_ ?_ ?_ | refine To.tupL ?_ | refine To.aggL ?_ | refine To.cptrL ?_ | refine wt3 ?_ | refine wt4 ?_ | refine To.cloL ?_ ?_ | exact wt5 | refine wt6 ?_ | refine ToB.one ?_ | exact wt7 | ((with_reducible apply ToL.consE); case e9 => rfl) | refine wt8 ?_ | refine ToL.cons ?_ ?_ | exact wt11 | refine wt9 ?_ ?_ | refine wt12 ?_ | (with_reducible rfl) | assumption)); all_goals (first | rfl | assumption | (simp; done) | (simp; omega) | (rw [wrap_small (by omega) (by omega)]; done) | (rw [wrap_small (by omega) (by omega)]; omega) | (refine congrArg Nat.cast ?_; assumption) | skip))
  ·(all_goals (repeat' (first | exact ToAll.nil | exact famsTo.nil | exact famTo.nil | exact ToL.nil | exact ToR.nil | refine ToAll.cons ?_ ?_ | refine famsTo.cons ?_ ?_ | refine wt10 ?_ ?_ | exact To.undef _ | exact To.sc _ | exact To.hslL rfl rfl | exact To.ptrO rfl rfl rfl | exact To.mrefO rfl | exact To.nil rfl rfl rfl | exact wt1 | exact To.nilL | refine To.int ?_ | refine To.bool ?_ | refine To.hslL rfl ?_ | refine wt2 rfl ?_ ?_ ?_ | refine To.tupL ?_ | refine To.aggL ?_ | refine To.cptrL ?_ | refine wt3 ?_ | refine wt4 ?_ | refine To.cloL ?_ ?_ | exact wt5 | refine wt6 ?_ | refine ToB.one ?_ | exact wt7 | ((with_reducible apply ToL.consE); case e9 => rfl) | refine wt8 ?_ | refine ToL.cons ?_ ?_ | exact wt11 | refine wt9 ?_ ?_ | refine wt12 ?_ | (with_reducible rfl) | assumption)); all_goals (first | rfl | assumption | (simp; done) | (simp; omega) | (rw [wrap_small (by omega) (by omega)]; done) | (rw [wrap_small (by omega) (by omega)]; omega) | (refine congrArg Nat.cast ?_; assumption) | skip))
 | false =>
  refine walkX ?_
  exact endW [[(1,0)]] (⟨rfl, rfl⟩)
def deadC (al : Nat → Bool) (g : List Nat) (c : C) : Bool := !al (gAt g c.rank)
set_option maxHeartbeats 2000000 in
theorem crash1_ok {n : Nat} (al : Nat → Bool) (g : List Nat) (hn : n ≤ 64) (hg : GOK n g) (c : C) (hc : 0 ≤ c.rank ∧ c.rank < g.length) : PureRun Try.prog 80 (([] ++ [.agg (crow c)]) ++ [.cptr [wA al], .cptr [tG g]]) (.sc (.bool (deadC al g c))) := by
 show PureRun Try.prog 80 [AV.agg (crow c), AV.cptr [wA al], AV.cptr [tG g]] _
 refine PureRun.mk cF80 (Nat.le_of_ble_eq_true rfl) (allPure_cons (.agg _ (pure_crow c)) (allPure_cons (pv (.cptr [wA al])) (allPure_cons (pv (.cptr [tG g])) allPure_nil))) (.sc _) ?_
 unfold deadC
 obtain ⟨q, hq⟩ : ∃ q : Nat, c.rank = (q : Int) := ⟨c.rank.toNat, by omega⟩
 have hri := natsR_at hg (q := q) (by omega)
 have hp := hg.at (r := q) (by omega)
 rw [hq]
 generalize gAt g (q : Int) = p at *
 have hp64 : p < 64 := by omega
 have hb : ∃ rest, (bset 64 al ++ [AV.undef, AV.undef]).drop p = .sc (.bool (al p)) :: rest := by
  have h1 : (bset 64 al ++ [AV.undef, AV.undef])[p]? = some (.sc (.bool (al p))) := by rw [List.getElem?_append_left (by rw [bset_len]; exact hp64), bset_get hp64]
  obtain ⟨h2, h3⟩ := List.getElem?_eq_some_iff.1 h1
  exact ⟨_, by rw [List.drop_eq_getElem_cons h2, h3]⟩
 obtain ⟨rest, hb⟩ := hb
 unfold crow wA tG
 rw [hq]
 generalize bset 64 al ++ [AV.undef, AV.undef] = S at *
 refine walkX ?_
 refine DK.o rfl (dstep_idxArrC (q := p) rfl rfl rfl hp64) ?_
 refine DK.o rfl (dstep_ld1C rfl (by rw [Nat.mul_one]; exact hb)) ?_
 refine walkX ?_
 refine DK.nil ⟨by kernel_rfl, ?_⟩
 refine walkX ?_
 exact EndP.w
theorem ToL.pad {T : AV → AV → Prop} {ρ : Nat → Nat → Option (Nat × Nat)} : ∀ {l m m' : List AV}, (∀ c ∈ l, Pure c) → ToL T ρ m m' → ToL T ρ (l ++ m) (l ++ m')
 | [], _, _, _, h => h
 | a :: l, _, _, hp, h => ToL.cons (.pure (hp a (by simp))) (ToL.pad (fun c hc => hp c (by simp [hc])) h)
theorem To.wA {T : AV → AV → Prop} {ρ : Nat → Nat → Option (Nat × Nat)} (n : Nat) (al : Nat → Bool) : ToL T ρ (boxR n al) (AV.undef :: (bset 64 al ++ [AV.undef, AV.undef])) := ToL.cons (.undef _) (ToL.pad (pr _) (ToL.cons (.undef _) (ToL.cons (.undef _) ToL.nil)))
set_option maxHeartbeats 8000000 in
theorem crashes_at (w : Wd) (g : List Nat) (l : List C) (hn : w.n ≤ 64) (hg : GOK w.n g) (hl : l.length ≤ 9223372036854775807) :
  CallOK Try.prog 63 [.ptr 0 0 0 0, tG g, crV l] (worldH w) fun res H' => res = .tup [crV (crashW w.al g l).1, .sc (.int .i64 (crashW w.al g l).2)] ∧ H' = worldH w := by
 refine CallOK.of cF63 ?_ (Nat.le_of_ble_eq_true rfl)
 have hck : PureRun Try.prog 12 [.sc (.int .i64 (g.length : Int)), crV l] (.sc (.int .i64 (checkS g.length l))) := PureRun.ofI (check_big _ l hl)
 have hgl := hg.len
 have e0 := natsR_len g
 have hwB : worldH w = [[.cells 67 [boxR w.n w.al]], [.cells 64 (knR w.n w.kn)], [.map (tmE w.ts)], rvF w.ts] := rfl
 rcases crashW_cases w.al g l with ⟨h1, h2⟩ | ⟨h1, h2, h3⟩ | ⟨h1, h2, h3⟩
 ·rw [h2]
  unfold tG crV at *
  rw [hwB]
  generalize hB : boxR w.n w.al = B at *
  have hpl : PRs (l.map crow) := ⟨pure_crs l⟩
  refine walkX ?_
  rw [e0]
  refine walkX ?_
  rw [show (checkS g.length l != 0) = true by simpa using h1]
  refine walkX ?_
  refine endWd (.tup [.list 3 [], .sc (.int .i64 (checkS g.length l))]) w ⟨rfl, hwB⟩ ?_
  rw [hB]
 all_goals
  have hl64 : l.length ≤ 64 := good_len h1
  have hrk : ∀ c ∈ l, 0 ≤ c.rank ∧ c.rank < g.length := fun c hc => by
   have := (check_zero h1).2.1 c hc
   exact ⟨this.r0, this.r1⟩
  have hcl := fun H => CallOK.viewL (H := H) (fun r hr c hc => by
   obtain ⟨x, _, rfl⟩ := List.mem_map.1 hr
   simp only [crow, List.mem_cons, List.not_mem_nil, or_false] at hc
   rcases hc with rfl | rfl | rfl <;> exact ⟨_, rfl⟩) (clone78_any (l.map crow) ⟨pure_crs l⟩ (by rw [List.length_map]; omega)) (ToL.cons (To.pure (pv (crV l))) ToL.nil)
  have hct := contains79_ok 80 [.cptr [wA w.al], .cptr [tG g]] (allPure_cons (pv (.cptr [wA w.al])) (allPure_cons (pv (.cptr [tG g])) allPure_nil)) (deadC w.al g) l (by omega) fun c hc => crash1_ok w.al g hn hg c (hrk c hc)
  have hany : l.any (deadC w.al g) = anyDead w.al g l := rfl
  have e1 : (l.map crow).length = l.length := List.length_map ..
  rw [e1] at hcl
  rw [hany, h2] at hct
  rw [h1] at hck
  rw [h3]
  have hbx := To.wA (T := ToT [] 0 (notIn [])) (ρ := rho []) w.n w.al
  unfold crV at *
  rw [hwB]
  have hpl : PRs (l.map crow) := ⟨pure_crs l⟩
 ·generalize hB : boxR w.n w.al = B at *
  unfold tG at *
  refine walkX ?_
  rw [e0]
  refine walkX ?_
  refine Reg.c (Nat.le_of_ble_eq_true rfl) rfl ((hcl _).mono ?_)
  rintro res H' ⟨rfl, rfl⟩
  refine walkX ?_
  refine Reg.pv (Nat.le_of_ble_eq_true rfl) rfl hct (.sc _) (ToL.cons (.pure (pv (.list 3 (l.map crow)))) (ToL.cons (To.cloL ToL.nil (ToL.cons (To.fzp rfl rfl rfl (To.cptrL (ToL.cons (To.fzp rfl rfl rfl (To.cptrL (by rw [← hB]; exact To.wA w.n w.al))) ToL.nil))) (ToL.cons (To.fzp rfl rfl rfl (To.cptrL (ToL.cons (.pure (pv (tG g))) ToL.nil))) ToL.nil))) ToL.nil)) ?_
  refine walkX ?_
  refine endWd (.tup [.list 3 [], .sc (.int .i64 6)]) w ⟨rfl, hwB⟩ ?_
  rw [hB]
 ·generalize hB : boxR w.n w.al = B at *
  have hal := fun p (h : p < 64) => boxR_al (n := w.n) (al := w.al) h
  rw [hB] at hal
  unfold tG at *
  refine walkX ?_
  rw [e0]
  refine walkX ?_
  refine Reg.c (Nat.le_of_ble_eq_true rfl) rfl ((hcl _).mono ?_)
  rintro res H' ⟨rfl, rfl⟩
  refine walkX ?_
  refine Reg.pv (Nat.le_of_ble_eq_true rfl) rfl hct (.sc _) (ToL.cons (.pure (pv (.list 3 (l.map crow)))) (ToL.cons (To.cloL ToL.nil (ToL.cons (To.fzp rfl rfl rfl (To.cptrL (ToL.cons (To.fzp rfl rfl rfl (To.cptrL (by rw [← hB]; exact To.wA w.n w.al))) ToL.nil))) (ToL.cons (To.fzp rfl rfl rfl (To.cptrL (ToL.cons (.pure (pv (tG g))) ToL.nil))) ToL.nil))) ToL.nil)) ?_
  refine walkX ?_
  rw [e0]
  refine AWP.loop (fun k : Nat => [(3, .cptr [.ptr 0 0 0 0]), (4, .cptr [tG g]), (9, .hsl 4 0 0 (l ++ deadK w.al g k).length), (30, .list 1 (E.natsR g)), (31, .sc (.int .i64 (g.length : Int))), (32, .sc (.int .i64 (k : Int)))])
   (fun k => [[.cells 67 [boxR w.n w.al]], [.cells 64 (knR w.n w.kn)], [.map (tmE w.ts)], rvF w.ts, [.cells 3 ((l ++ deadK w.al g k).map crow)]]) (fun k => k ≤ g.length) (fun k => g.length - k) 0 (Nat.zero_le _) ?_ ?_
  ·refine Sub.wdx (k := 4) w [] [[(6,0)]] [[.cells 3 ((l ++ deadK w.al g 0).map crow)]] ?_ ?_ (by rw [hB])
   ·refine ToAll.cons (To.fzp rfl rfl rfl (To.cptrL (ToL.cons (To.ptrO rfl rfl rfl) ToL.nil))) (ToAll.cons (To.fzp rfl rfl rfl (To.cptrL (ToL.cons (.pure (pv (tG g))) ToL.nil))) ?_)
    (all_goals (repeat' (first | exact ToAll.nil | exact famsTo.nil | exact famTo.nil | exact ToL.nil | exact ToR.nil | refine ToAll.cons ?_ ?_ | refine famsTo.cons ?_ ?_ | refine wt10 ?_ ?_ | exact To.undef _ | exact To.sc _ | exact To.hslL rfl rfl | exact To.ptrO rfl rfl rfl | exact To.mrefO rfl | exact To.nil rfl rfl rfl | exact wt1 | exact To.nilL | refine To.int ?_ | refine To.bool ?_ | refine To.hslL rfl ?_ | refine wt2 rfl ?_ ?_ ?_ | refine To.tupL ?_ | refine To.aggL ?_ | refine To.cptrL ?_ | refine wt3 ?_ | refine wt4 ?_ | refine To.cloL ?_ ?_ | exact wt5 | refine wt6 ?_ | refine ToB.one ?_ | exact wt7 | ((with_reducible apply ToL.consE); case e9 => rfl) | refine wt8 ?_ | refine ToL.cons ?_ ?_ | exact wt11 | refine wt9 ?_ ?_ | refine wt12 ?_ | (with_reducible rfl) | assumption)); all_goals (first | rfl | assumption | (simp; done) | (simp; omega) | (rw [wrap_small (by omega) (by omega)]; done) | (rw [wrap_small (by omega) (by omega)]; omega) | (refine congrArg Nat.cast ?_; assumption) | skip))
    simp [deadK]
   ·refine famsTo.cons (wt10 (wt6 ?_) famTo.nil) famsTo.nil
    simp [deadK]
  intro k hk
  rw [hB]
  have hdl := deadK_len w.al g k
  have hdc : l ++ deadK w.al g (k + 1) = (l ++ deadK w.al g k) ++ if w.al (gAt g k) = true then [] else [⟨(k : Int), 0, 0⟩] := (List.append_assoc ..).symm
  have e2 : ((l ++ deadK w.al g k).map crow).length = (l ++ deadK w.al g k).length := List.length_map ..
  have e3 : (l ++ deadK w.al g k).length ≤ 1000064 := by rw [List.length_append]; omega
  refine walkX ?_
  refine AWP.condD rfl (fun h => ?_) (fun h => ?_)
  ·have hri := natsR_at hg (q := k) h
   have hp := hg.at (r := k) h
   generalize gAt g (k : Int) = p at *
   have hp64 : p < 64 := by omega
   have hbp := hal p hp64
   generalize l ++ deadK w.al g k = o at *
   have e4 : (o ++ [(⟨(k : Int), 0, 0⟩ : C)]).map crow = o.map crow ++ [crow ⟨(k : Int), 0, 0⟩] := by rw [List.map_append]; rfl
   unfold tG
   refine walkX ?_
   refine Reg.o rfl (dstep_idxArr (q := p) rfl rfl rfl hp64) ?_
   refine Reg.o rfl (dstep_ld1 rfl rfl rfl (by rw [Nat.mul_one]; exact hbp)) ?_
   refine walkX ?_
   by_cases ha : w.al p = true
   ·rw [if_pos ha, List.append_nil] at hdc
    rw [ha]
    refine walkX ?_
    refine ⟨k + 1, by omega, by omega, ?_⟩
    rw [← hB]
    refine Sub.wdx (k := 4) w [] [[(4,0)]] [[.cells 3 ((l ++ deadK w.al g (k + 1)).map crow)]] ?_ ?_
    ·rw [hdc]
     refine ToAll.cons (To.cptrL (ToL.cons (To.ptrO rfl rfl rfl) ToL.nil)) ?_
     (all_goals (repeat' (first | exact ToAll.nil | exact famsTo.nil | exact famTo.nil | exact ToL.nil | exact ToR.nil | refine ToAll.cons ?_ ?_ | refine famsTo.cons ?_ ?_ | refine wt10 ?_ ?_ | exact To.undef _ | exact To.sc _ | exact To.hslL rfl rfl | exact To.ptrO rfl rfl rfl | exact To.mrefO rfl | exact To.nil rfl rfl rfl | exact wt1 | exact To.nilL | refine To.int ?_ | refine To.bool ?_ | refine To.hslL rfl ?_ | refine wt2 rfl ?_ ?_ ?_ | refine To.tupL ?_ | refine To.aggL ?_ | refine To.cptrL ?_ | refine wt3 ?_ | refine wt4 ?_ | refine To.cloL ?_ ?_ | exact wt5 | refine wt6 ?_ | refine ToB.one ?_ | exact wt7 | ((with_reducible apply ToL.consE); case e9 => rfl) | refine wt8 ?_ | refine ToL.cons ?_ ?_ | exact wt11 | refine wt9 ?_ ?_ | refine wt12 ?_ | (with_reducible rfl) | assumption)); all_goals (first | rfl | assumption | (simp; done) | (simp; omega) | (rw [wrap_small (by omega) (by omega)]; done) | (rw [wrap_small (by omega) (by omega)]; omega) | (refine congrArg Nat.cast ?_; assumption) | skip))
    ·rw [hdc]
     exact famsTo.cons (wt10 (wt6 rfl) famTo.nil) famsTo.nil
   ·rw [if_neg ha] at hdc
    rw [show w.al p = false by simpa using ha]
    refine walkX ?_
    refine ⟨k + 1, by omega, by omega, ?_⟩
    rw [← hB]
    refine Sub.wdx (k := 4) w [] [[(6,0)]] [[.cells 3 ((l ++ deadK w.al g (k + 1)).map crow)]] ?_ ?_
    ·rw [hdc]
     refine ToAll.cons (To.cptrL (ToL.cons (To.ptrO rfl rfl rfl) ToL.nil)) ?_
     (all_goals (repeat' (first | exact ToAll.nil | exact famsTo.nil | exact famTo.nil | exact ToL.nil | exact ToR.nil | refine ToAll.cons ?_ ?_ | refine famsTo.cons ?_ ?_ | refine wt10 ?_ ?_ | exact To.undef _ | exact To.sc _ | exact To.hslL rfl rfl | exact To.ptrO rfl rfl rfl | exact To.mrefO rfl | exact To.nil rfl rfl rfl | exact wt1 | exact To.nilL | refine To.int ?_ | refine To.bool ?_ | refine To.hslL rfl ?_ | refine wt2 rfl ?_ ?_ ?_ | refine To.tupL ?_ | refine To.aggL ?_ | refine To.cptrL ?_ | refine wt3 ?_ | refine wt4 ?_ | refine To.cloL ?_ ?_ | exact wt5 | refine wt6 ?_ | refine ToB.one ?_ | exact wt7 | ((with_reducible apply ToL.consE); case e9 => rfl) | refine wt8 ?_ | refine ToL.cons ?_ ?_ | exact wt11 | refine wt9 ?_ ?_ | refine wt12 ?_ | (with_reducible rfl) | assumption)); all_goals (first | rfl | assumption | (simp; done) | (simp; omega) | (rw [wrap_small (by omega) (by omega)]; done) | (rw [wrap_small (by omega) (by omega)]; omega) | (refine congrArg Nat.cast ?_; assumption) | skip))
    ·rw [hdc, e4]
     exact famsTo.cons (wt10 (wt6 rfl) famTo.nil) famsTo.nil
  ·have hk2 : k = g.length := by omega
   subst hk2
   refine walkX ?_
   refine endWd (.tup [.list 3 ((l ++ deadK w.al g g.length).map crow), .sc (.int .i64 0)]) w ⟨rfl, hwB⟩ ?_
   rw [hB]
theorem Ren.self {ρ : Nat → Nat → Option (Nat × Nat)} {xs : List AV} (h : ∀ x ∈ xs, Ren ρ x x) : ∀ (j : Nat) x y, xs[j]? = some x → xs[j]? = some y → Ren ρ x y := fun j x y a b => by
 rw [a] at b
 injection b with b
 subst b
 exact h x (List.mem_of_getElem? a)
theorem RenB.self {ρ : Nat → Nat → Option (Nat × Nat)} {sz : Nat} {rows : List (List AV)} (h : ∀ r ∈ rows, ∀ c ∈ r, Ren ρ c c) : RenB ρ (.cells sz rows) (.cells sz rows) :=
 .cells _ _ _ rfl (fun i r r' a b => by rw [a] at b; injection b with b; subst b; rfl) fun i r r' j x y a b c d => by
  rw [a] at b
  injection b with b
  subst b
  exact Ren.self (h r (List.mem_of_getElem? a)) j x y c d
theorem boxR_ren {ρ : Nat → Nat → Option (Nat × Nat)} (h1 : ρ 1 0 = some (1, 0)) (h2 : ρ 2 0 = some (2, 0)) (n : Nat) (al : Nat → Bool) : ∀ c ∈ boxR n al, Ren ρ c c := by
 intro c hc
 unfold boxR at hc
 rcases List.mem_cons.1 hc with rfl | hc
 ·exact .sc _
 ·rcases List.mem_append.1 hc with hc | hc
  ·exact .pure (pure_bset 64 al c hc)
  ·rcases List.mem_cons.1 hc with rfl | hc
   ·exact .hsl _ _ _ _ _ _ h1
   ·rw [List.mem_singleton.1 hc]
    exact .mref _ _ _ _ h2
theorem world_closed (w w' : Wd) (ht : w'.ts = w.ts) : Closed (worldH w) (worldH w') := by
 have hd : ∀ g i, (hget (worldH w') g i).isSome = (hget (worldH w) g i).isSome := fun g i => by
  match g, i with
  | 0, 0 => rfl
  | 0, i + 1 => rfl
  | 1, 0 => rfl
  | 1, i + 1 => rfl
  | 2, 0 => rfl
  | 2, i + 1 => rfl
  | 3, i => show ((rvF w'.ts)[i]?).isSome = ((rvF w.ts)[i]?).isSome; rw [ht]
  | g + 4, i => rfl
 refine ⟨rfl, hd, fun g i x hx => ?_⟩
 have r1 : idH (worldH w) 1 0 = some (1, 0) := rfl
 have r2 : idH (worldH w) 2 0 = some (2, 0) := rfl
 have r3 : ∀ i, i < w.ts.length → idH (worldH w) 3 i = some (3, i) := fun i hi => idH_of (by show ((rvF w.ts)[i]?).isSome = true; rw [rvF_get hi]; rfl)
 match g, i, hx with
 | 0, 0, hx =>
  injection hx with hx
  subst hx
  exact ⟨rfl, RenB.self fun r hr c hc => boxR_ren r1 r2 _ _ c (by rw [List.mem_singleton.1 hr] at hc; exact hc)⟩
 | 1, 0, hx =>
  injection hx with hx
  subst hx
  exact ⟨rfl, RenB.rows rfl (prs _)⟩
 | 2, 0, hx =>
  injection hx with hx
  subst hx
  refine ⟨rfl, .map _ _ rfl (fun j x y a b => by rw [a] at b; injection b with b; rw [b]) fun j x y a b => ?_⟩
  rw [a] at b
  injection b with b
  subst b
  have hj := (List.getElem?_eq_some_iff.1 a).1
  rw [tmE_len] at hj
  unfold tmE at a
  rw [List.getElem?_map, List.getElem?_range hj] at a
  injection a with a
  subst a
  refine .cptr _ _ rfl (Ren.self fun x hx => ?_)
  rcases List.mem_cons.1 hx with rfl | hx
  ·exact .pure (pv (.list 1 (E.natsR _)))
  ·rw [List.mem_singleton.1 hx]
   exact .hsl _ _ _ _ _ _ (r3 j (by rw [← ht]; exact hj))
 | 3, i, hx =>
  have hx : (rvF w'.ts)[i]? = some x := hx
  obtain ⟨_, rfl⟩ := fam_some hx
  exact ⟨rfl, RenB.rows rfl (prs _)⟩
 | 0, i + 1, hx => cases hx
 | 1, i + 1, hx => cases hx
 | 2, i + 1, hx => cases hx
 | g + 4, i, hx => cases hx
theorem CallOK.wd {f : FuncId} {args : List AV} {w w' : Wd} {v : AV} (G : Heap) (ht : w'.ts = w.ts) (hv : Pure v) (h : CallOK Try.prog f (.ptr 0 0 0 0 :: args) (worldH w) fun res H' => res = v ∧ H' = worldH w') (ha : ∀ a ∈ args, Pure a) :
  CallOK Try.prog f (.ptr 0 0 0 0 :: args) (worldH w ++ G) fun res H' => res = v ∧ H' = worldH w' ++ G := by
 refine (CallOK.more G (world_closed w w rfl) (R := fun res H' => res = v ∧ H' = worldH w') (h.mono fun res H' h => ?_) fun a hm => ?_).mono fun res H' h => ?_
 ·obtain ⟨rfl, rfl⟩ := h
  exact ⟨hv, world_closed w w' ht, rfl, rfl⟩
 ·rcases List.mem_cons.1 hm with rfl | hm
  ·exact .ptr _ _ _ _ _ _ rfl
  ·exact .pure (ha a hm)
 ·obtain ⟨H1, rfl, rfl, rfl⟩ := h
  exact ⟨rfl, rfl⟩
theorem crashes_more (w : Wd) (g : List Nat) (l : List C) (G : Heap) (hn : w.n ≤ 64) (hg : GOK w.n g) (hl : l.length ≤ 9223372036854775807) :
  CallOK Try.prog 63 [.ptr 0 0 0 0, tG g, crV l] (worldH w ++ G) fun res H' => res = .tup [crV (crashW w.al g l).1, .sc (.int .i64 (crashW w.al g l).2)] ∧ H' = worldH w ++ G :=
 CallOK.wd G rfl (pv _) (crashes_at w g l hn hg hl) (allPure_cons (pv _) (allPure_cons (pv _) allPure_nil))
theorem bury_more (w : Wd) (g : List Nat) (l : List C) (G : Heap) (hn : w.n ≤ 64) (hg : GOK w.n g) (hl : l.length ≤ 64) (hr : ∀ c ∈ l, 0 ≤ c.rank ∧ c.rank < g.length) :
  CallOK Try.prog 64 [.ptr 0 0 0 0, tG g, crV l] (worldH w ++ G) fun res H' => res = .tup [] ∧ H' = worldH { w with al := buryW w.al g l } ++ G :=
 CallOK.wd (w' := { w with al := buryW w.al g l }) G rfl (pv _) (bury_at w g l hn hg hl hr) (allPure_cons (pv _) (allPure_cons (pv _) allPure_nil))
end Go.Proofs.Ytbpmbofinoinmaa
