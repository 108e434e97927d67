import Derived.Test.YtbpmbofinoinmaaGAvU
import Derived.Test.YtbpmbofinoinmaaGFaX42
import Derived.Test.YtbpmbofinoinmaaGAvR
namespace Go.Proofs.Ytbpmbofinoinmaa
namespace X51
open Go.Av Go.Proofs
def place (j k : Nat) : Nat := if k ≤ j then k else k - 1
section
variable (n : Nat) (l : List C) (r : Int) (S : Nat → Option (List AV))
def hears (j k : Nat) : Bool := (S j).isSome && (livesS l j (r - 1) && (decide (k ≠ j) && decide ((place j k : Int) < reachS n l j r)))
def from' (i k : Nat) : List Nat := (List.range i).filter fun j => hears n l r S j k
def msg (j : Nat) : List AV := (S j).getD []
def ints (F : List Nat) : List (List AV) := F.map fun j : Nat => [.sc (.int .i64 (j : Int))]
def msgs (F : List Nat) : List (List AV) := F.map (msg S)
def sent (i : Nat) : Bool := (List.range i).any fun j => (S j).isSome && livesS l j (r - 1)
def schB : Blk := .cells 2 [[.sc (.int .i64 n), .tmap (esOf l)]]
def hpX (F : Nat → List Nat) : Heap :=
 [[schB n l], [.cells 1 (row1 n fun k => .hsl 6 k 0 (F k).length)], [.cells 1 (row1 n fun k => .hsl 7 k 0 (F k).length)], fam n fun k => .cells 1 (ints (F k)), fam n fun k => .cells 1 (msgs S (F k))]
theorem from_succ (i k : Nat) : from' n l r S (i + 1) k = from' n l r S i k ++ if hears n l r S i k = true then [i] else [] := by
 unfold from'
 rw [List.range_succ, List.filter_append]
 congr 1
 simp only [List.filter_cons, List.filter_nil]
theorem from_len (i k : Nat) : (from' n l r S i k).length ≤ i := by
 unfold from'
 exact Nat.le_trans (List.length_filter_le _ _) (by simp)
theorem sent_succ (i : Nat) : sent l r S (i + 1) = (sent l r S i || ((S i).isSome && livesS l i (r - 1))) := by
 unfold sent
 rw [List.range_succ, List.any_append]
 simp
theorem pure_rows (F : List Nat) : ∀ r ∈ ints F, ∀ c ∈ r, Pure c := by
 intro r hr
 obtain ⟨j, _, rfl⟩ := List.mem_map.1 hr
 exact allPure_cons (.sc _) allPure_nil
def MsgOK : Prop := ∀ j m, S j = some m → m.length = 1 ∧ (∀ c ∈ m, Pure c) ∧ m.all AV.cell1 = true ∧ m = [.sc (.bool false)]
theorem pure_msgs {S : Nat → Option (List AV)} (h : MsgOK S) (F : List Nat) : ∀ r ∈ msgs S F, ∀ c ∈ r, Pure c := by
 intro r hr c hc
 obtain ⟨j, _, rfl⟩ := List.mem_map.1 hr
 unfold msg at hc
 cases e : S j with
 | none => rw [e] at hc; cases hc
 | some m => rw [e] at hc; exact (h j m e).2.1 c hc
def upTo (i k : Nat) (q : Nat) : List Nat := from' n l r S i q ++ if q < k ∧ hears n l r S i q = true then [i] else []
theorem upTo_zero (i : Nat) : upTo n l r S i 0 = from' n l r S i := by
 funext q
 simp [upTo]
theorem upTo_len (i k q : Nat) : (upTo n l r S i k q).length ≤ i + 1 := by
 unfold upTo
 have := from_len n l r S i q
 rw [List.length_append]
 split <;> simp <;> omega
end
section
variable {n : Nat} {l : List C} {r : Int} {S : Nat → Option (List AV)} {fs ft : FuncId} {cs ct : List AV} {A B D : Blk}
def mP : Option (List AV) → AV
 | some m => .cptr m
 | none => .sc (.pointer none)
theorem upTo_last {i k q : Nat} (hq : hears n l r S i q = true → q < k) : upTo n l r S i k q = from' n l r S (i + 1) q := by
 unfold upTo
 rw [from_succ]
 congr 1
 by_cases h : hears n l r S i q = true
 ·rw [if_pos ⟨hq h, h⟩, if_pos h]
 ·rw [if_neg (fun e => h e.2), if_neg h]
theorem upTo_succ {i k : Nat} (h : hears n l r S i k = true) : ∀ q, upTo n l r S i (k + 1) q = if q = k then upTo n l r S i k k ++ [i] else upTo n l r S i k q := by
 intro q
 by_cases e : q = k
 ·subst e
  rw [if_pos rfl]
  simp [upTo, h]
 ·rw [if_neg e]
  unfold upTo
  congr 1
  by_cases hq : q < k
  ·have h1 : (q < k + 1 ∧ hears n l r S i q = true) ↔ (q < k ∧ hears n l r S i q = true) := ⟨fun x => ⟨hq, x.2⟩, fun x => ⟨by omega, x.2⟩⟩
   simp only [h1]
  ·rw [if_neg (by omega), if_neg (by omega)]
theorem upTo_same {i k : Nat} (h : hears n l r S i k = false) : upTo n l r S i (k + 1) = upTo n l r S i k := by
 funext q
 unfold upTo
 congr 1
 by_cases e : q = k
 ·subst e
  rw [if_neg (by simp [h]), if_neg (by simp [h])]
 ·have h1 : (q < k + 1 ∧ hears n l r S i q = true) ↔ (q < k ∧ hears n l r S i q = true) := ⟨fun x => ⟨by omega, x.2⟩, fun x => ⟨by omega, x.2⟩⟩
  simp only [h1]
def fr0 (n : Nat) (r : Int) (fs ft : FuncId) (cs ct : List AV) (snt : Bool) (i : Nat) : Fr :=
 [(1, .sc (.int .i64 r)), (2, .clo (.func fs) [] cs), (3, .clo (.func ft) [] ct), (4, .ptr 3 0 0 0), (9, .sc (.bool snt)), (10, .hsl 4 0 0 n), (11, .hsl 5 0 0 n), (24, .sc (.int .i64 n)), (25, .sc (.int .i64 i))]
def nilR (n : Nat) : Blk := .cells 1 (row1 n fun _ => .sc (.slice none 0 0))
theorem ghost0 : Ghost [[A], [B], [D], [schB n l], [nilR n], [nilR n]] ([A] :: [B] :: [D] :: hpX n l S fun _ => []) := by
 have key : ∀ (m : Nat) (f : Nat → AV) (T : AV → AV → Prop) (i : Nat) x', (∀ k, k < n → Cong T (.sc (.slice none 0 0)) (f k)) → [Blk.cells 1 (row1 n f)][i]? = some x' → ∃ x, [nilR n][i]? = some x ∧ CongB T x x' := by
  intro m f T i x' hf hx
  cases i with
  | zero => simp at hx; subst hx; exact ⟨_, rfl, .row1 hf⟩
  | succ i => simp at hx
 refine ⟨fun g i x' hx hl => ?_, fun g i h => ?_⟩
 ·match g, hx with
  | 0, hx => exact .inl ⟨x', hx, .refl _⟩
  | 1, hx => exact .inl ⟨x', hx, .refl _⟩
  | 2, hx => exact .inl ⟨x', hx, .refl _⟩
  | 3, hx => exact .inl ⟨x', hx, .refl _⟩
  | 4, hx => exact .inl (key 0 _ _ i x' (fun k hk => .base (.mk 6 k 1 rfl (fam_get hk))) hx)
  | 5, hx => exact .inl (key 0 _ _ i x' (fun k hk => .base (.mk 7 k 1 rfl (fam_get hk))) hx)
  | 6, hx => obtain ⟨_, rfl⟩ := fam_some hx; exact .inr ⟨rfl, 1, rfl⟩
  | 7, hx => obtain ⟨_, rfl⟩ := fam_some hx; exact .inr ⟨rfl, 1, rfl⟩
  | g + 8, hx => cases hx
 ·match g, h with
  | 0, h => exact h
  | 1, h => exact h
  | 2, h => exact h
  | 3, h => exact h
  | 4, h => cases i with
   | zero => rfl
   | succ i => simp [hget] at h
  | 5, h => cases i with
   | zero => rfl
   | succ i => simp [hget] at h
  | g + 6, h => simp [hget] at h
theorem clo_w {f : FuncId} {c : List AV} {ρ : Nat → Nat → Option (Nat × Nat)} (h : Ren (lowS 3) (.clo (.func f) [] c) (.clo (.func f) [] c)) (h0 : ρ 0 0 = some (0, 0)) (h1 : ρ 1 0 = some (1, 0)) (h2 : ρ 2 0 = some (2, 0)) : Ren ρ (.clo (.func f) [] c) (.clo (.func f) [] c) :=
 h.weaken fun g i p e => by
  obtain ⟨hg, rfl, rfl⟩ := lowS_spec e
  match g, hg with
  | 0, _ => exact h0
  | 1, _ => exact h1
  | 2, _ => exact h2
theorem blk_w {x : Blk} {ρ : Nat → Nat → Option (Nat × Nat)} (h : LoB 3 x) (h0 : ρ 0 0 = some (0, 0)) (h1 : ρ 1 0 = some (1, 0)) (h2 : ρ 2 0 = some (2, 0)) : RenB ρ x x :=
 h.2.weaken fun g i p e => by
  obtain ⟨hg, rfl, rfl⟩ := lowS_spec e
  match g, hg with
  | 0, _ => exact h0
  | 1, _ => exact h1
  | 2, _ => exact h2
theorem pure_schB (n : Nat) (l : List C) {ρ : Nat → Nat → Option (Nat × Nat)} : RenB ρ (schB n l) (schB n l) :=
 RenB.pure 2 _ fun r hr => by rw [List.mem_singleton.1 hr]; exact allPure_cons (.sc _) (allPure_cons (pure_es l) allPure_nil)
theorem hp_congr {F F' : Nat → List Nat} (h : ∀ k, k < n → F k = F' k) : hpX n l S F = hpX n l S F' := by
 have e1 : ∀ g : Nat, (row1 n fun k => AV.hsl g k 0 (F k).length) = row1 n fun k => AV.hsl g k 0 (F' k).length := fun g => List.map_congr_left fun k hk => by simp only [h k (List.mem_range.1 hk)]
 have e2 : (fam n fun k => Blk.cells 1 (ints (F k))) = fam n fun k => Blk.cells 1 (ints (F' k)) := List.map_congr_left fun k hk => by simp only [h k (List.mem_range.1 hk)]
 have e3 : (fam n fun k => Blk.cells 1 (msgs S (F k))) = fam n fun k => Blk.cells 1 (msgs S (F' k)) := List.map_congr_left fun k hk => by simp only [h k (List.mem_range.1 hk)]
 unfold hpX
 rw [e1, e1, e2, e3]
theorem fzt_all {H : Heap} {T : Nat → Nat → Bool} {g i len sz : Nat} {rows : List (List AV)} (hT : T g i = true) (h : hget H g i = some (.cells sz rows)) (hl : rows.length = len) : Cong (FzT H T) (.hsl g i 0 len) (.list sz rows) := by
 have := FzT.hsl (H := H) (S := T) g i 0 len sz rows hT h (by omega)
 rw [List.drop_zero, List.take_of_length_le (by omega)] at this
 exact .base this
def s67 (g _ : Nat) : Bool := Nat.beq g 6 || Nat.beq g 7
def s45 (g _ : Nat) : Bool := Nat.beq g 4 || Nat.beq g 5
def heardV (F : Nat → List Nat) (k : Nat) : AV := .list 1 (ints (F k))
def gotV (S : Nat → Option (List AV)) (F : Nat → List Nat) (k : Nat) : AV := .list 1 (msgs S (F k))
def mid1 (n : Nat) (l : List C) (S : Nat → Option (List AV)) (F : Nat → List Nat) : Heap := [[schB n l], [.cells 1 (row1 n (heardV F))], [.cells 1 (row1 n (gotV S F))], fam n fun _ => .dead, fam n fun _ => .dead]
theorem frz1 {F : Nat → List Nat} : Frozen ([A] :: [B] :: [D] :: hpX n l S F) s67 ([A] :: [B] :: [D] :: mid1 n l S F) := by
 have key : ∀ (f f' : Nat → AV) (T : AV → AV → Prop) (i : Nat) x', (∀ k, k < n → Cong T (f k) (f' k)) → [Blk.cells 1 (row1 n f')][i]? = some x' → ∃ x, [Blk.cells 1 (row1 n f)][i]? = some x ∧ CongB T x x' := by
  intro f f' T i x' hf hx
  cases i with
  | zero => simp at hx; subst hx; exact ⟨_, rfl, .row1 hf⟩
  | succ i => simp at hx
 have hfam : ∀ (f : Nat → Blk) (i : Nat), ((fam n f)[i]?).isSome → ((fam n fun _ => Blk.dead)[i]?).isSome := by
  intro f i h
  obtain ⟨y, hy⟩ := Option.isSome_iff_exists.1 h
  rw [fam_get (fam_some hy).1]
  rfl
 refine ⟨fun g i x' hx hl => ?_, fun g i h => ?_⟩
 ·match g, hx with
  | 0, hx => exact ⟨rfl, x', hx, .refl _⟩
  | 1, hx => exact ⟨rfl, x', hx, .refl _⟩
  | 2, hx => exact ⟨rfl, x', hx, .refl _⟩
  | 3, hx => exact ⟨rfl, x', hx, .refl _⟩
  | 4, hx => exact ⟨rfl, key _ _ _ i x' (fun k hk => fzt_all rfl (fam_get hk) (by simp [ints])) hx⟩
  | 5, hx => exact ⟨rfl, key _ _ _ i x' (fun k hk => fzt_all rfl (fam_get hk) (by simp [msgs])) hx⟩
  | 6, hx => obtain ⟨_, rfl⟩ := fam_some hx; cases hl
  | 7, hx => obtain ⟨_, rfl⟩ := fam_some hx; cases hl
  | g + 8, hx => cases hx
 ·match g, h with
  | 0, h => exact h
  | 1, h => exact h
  | 2, h => exact h
  | 3, h => exact h
  | 4, h => cases i with
   | zero => rfl
   | succ i => simp [hget, hpX] at h
  | 5, h => cases i with
   | zero => rfl
   | succ i => simp [hget, hpX] at h
  | 6, h => exact hfam _ i h
  | 7, h => exact hfam _ i h
  | g + 8, h => cases h
def mid2 (n : Nat) (l : List C) : Heap := [[schB n l], [.dead], [.dead], fam n fun _ => .dead, fam n fun _ => .dead]
theorem frz2 {F : Nat → List Nat} : Frozen ([A] :: [B] :: [D] :: mid1 n l S F) s45 ([A] :: [B] :: [D] :: mid2 n l) := by
 refine ⟨fun g i x' hx hl => ?_, fun g i h => ?_⟩
 ·match g, hx with
  | 0, hx => exact ⟨rfl, x', hx, .refl _⟩
  | 1, hx => exact ⟨rfl, x', hx, .refl _⟩
  | 2, hx => exact ⟨rfl, x', hx, .refl _⟩
  | 3, hx => exact ⟨rfl, x', hx, .refl _⟩
  | 4, hx => cases i with
   | zero => simp [hget, mid2] at hx; subst hx; cases hl
   | succ i => simp [hget, mid2] at hx
  | 5, hx => cases i with
   | zero => simp [hget, mid2] at hx; subst hx; cases hl
   | succ i => simp [hget, mid2] at hx
  | 6, hx => obtain ⟨_, rfl⟩ := fam_some hx; cases hl
  | 7, hx => obtain ⟨_, rfl⟩ := fam_some hx; cases hl
  | g + 8, hx => cases hx
 ·match g, h with
  | 0, h => exact h
  | 1, h => exact h
  | 2, h => exact h
  | 3, h => exact h
  | 4, h => cases i with
   | zero => rfl
   | succ i => simp [hget, mid1] at h
  | 5, h => cases i with
   | zero => rfl
   | succ i => simp [hget, mid1] at h
  | 6, h => exact h
  | 7, h => exact h
  | g + 8, h => cases h
def fr2 (n : Nat) (r : Int) (S : Nat → Option (List AV)) (F : Nat → List Nat) (ft : FuncId) (ct : List AV) (snt : Bool) (i : Nat) : Fr :=
 [(1, .sc (.int .i64 r)), (3, .clo (.func ft) [] ct), (4, .ptr 3 0 0 0), (9, .sc (.bool snt)), (10, .list 1 (row1 n (heardV F))), (11, .list 1 (row1 n (gotV S F))), (84, .sc (.int .i64 n)), (85, .sc (.int .i64 i))]
def fr2a (n : Nat) (r : Int) (ft : FuncId) (ct : List AV) (snt : Bool) (i : Nat) : Fr :=
 [(1, .sc (.int .i64 r)), (3, .clo (.func ft) [] ct), (4, .ptr 3 0 0 0), (9, .sc (.bool snt)), (10, .hsl 4 0 0 n), (11, .hsl 5 0 0 n), (84, .sc (.int .i64 n)), (85, .sc (.int .i64 i))]
theorem pure_heard (n : Nat) (F : Nat → List Nat) : Pure (.list 1 (row1 n (heardV F))) := .list _ _ fun r hr => by
 obtain ⟨k, _, rfl⟩ := List.mem_map.1 hr
 exact allPure_cons (.list _ _ (pure_rows _)) allPure_nil
theorem pure_got (n : Nat) {S : Nat → Option (List AV)} (hm : MsgOK S) (F : Nat → List Nat) : Pure (.list 1 (row1 n (gotV S F))) := .list _ _ fun r hr => by
 obtain ⟨k, _, rfl⟩ := List.mem_map.1 hr
 exact allPure_cons (.list _ _ (pure_msgs hm _)) allPure_nil
theorem toSecond {N : Nat} {F : Nat → List Nat} {fr : Fr} {snt : Bool} (hA : LoB 3 A) (hB : LoB 3 B) (hD : LoB 3 D) (hm : MsgOK S) (hct : Ren (lowS 3) (.clo (.func ft) [] ct) (.clo (.func ft) [] ct)) (h : LeAll fr (fr2a n r ft ct snt 0)) :
  Sub 3 N fr ([A] :: [B] :: [D] :: hpX n l S F) (fr2 n r S F ft ct snt 0) [[A], [B], [D], [schB n l]] := by
 refine Sub.trans (Sub.keep h) ?_
 refine Sub.trans (Sub.frz s67 frz1 (fr' := fr2a n r ft ct snt 0) (CongAll.mem ⟨.refl _, .refl _, .refl _, .refl _, .refl _, .refl _, .refl _, .refl _, trivial⟩)) ?_
 refine Sub.trans (Sub.frz s45 frz2 (fr' := fr2 n r S F ft ct snt 0) (CongAll.mem ⟨.refl _, .refl _, .refl _, .refl _, fzt_all rfl rfl (row1_len _ _), fzt_all rfl rfl (row1_len _ _), .refl _, .refl _, trivial⟩)) ?_
 exact Sub.re [[(0, 0)], [(1, 0)], [(2, 0)], [(3, 0)]] rfl rfl rfl ⟨⟨⟨_, rfl, blk_w hA rfl rfl rfl⟩, trivial⟩, ⟨⟨_, rfl, blk_w hB rfl rfl rfl⟩, trivial⟩, ⟨⟨_, rfl, blk_w hD rfl rfl rfl⟩, trivial⟩, ⟨⟨_, rfl, pure_schB n l⟩, trivial⟩, trivial⟩
  ⟨.int rfl, clo_w hct rfl rfl rfl, .ptr _ _ _ _ _ _ rfl, .sc _, .pure (pure_heard n F), .pure (pure_got n hm F), .int rfl, .int rfl, trivial⟩
def fr1 (n : Nat) (r : Int) (fs ft : FuncId) (cs ct : List AV) (i : Nat) (m : List AV) (left : Int) (k : Nat) : Fr :=
 (12, .sc (.int .i64 i)) :: (13, .cptr m) :: (14, .sc (.int .i64 left)) :: (15, .sc (.int .i64 k)) :: fr0 n r fs ft cs ct true i
def rhoX (k g i : Nat) : Option (Nat × Nat) := if g = 6 ∧ i = k then some (8, 10) else if g = 7 ∧ i = k then some (8, 19) else if g < 8 then some (g, i) else none
theorem back {N : Nat} {F F' : Nat → List Nat} {i k : Nat} {m : List AV} {Y : List Blk} {fr fr' : Fr} (hA : LoB 3 A) (hB : LoB 3 B) (hD : LoB 3 D) (hk : k < n) (hF' : ∀ q, F' q = if q = k then F k ++ [i] else F q) (hS : S i = some m) (hm : MsgOK S)
  (h10 : Y[10]? = some (.cells 1 (ints (F k) ++ [[.sc (.int .i64 i)]]))) (h19 : Y[19]? = some (.cells 1 (msgs S (F k) ++ [m]))) (h5 : RenAll (rhoX k) fr fr') :
  Sub 3 N fr ([A] :: [B] :: [D] :: [schB n l] :: [.cells 1 ((row1 n fun q => .hsl 6 q 0 (F q).length).set (0 + k) [.hsl 8 10 0 ((F k).length + 1)])] :: [.cells 1 ((row1 n fun q => .hsl 7 q 0 (F q).length).set (0 + k) [.hsl 8 19 0 ((F k).length + 1)])] ::
   (fam n fun q => .cells 1 (ints (F q))).set k .dead :: (fam n fun q => .cells 1 (msgs S (F q))).set k .dead :: [Y]) fr' ([A] :: [B] :: [D] :: hpX n l S F') := by
 have hset : ∀ (f : Nat → Blk) i, i ≠ k → ((fam n f).set k .dead)[i]? = (fam n f)[i]? := fun f i hi => List.getElem?_set_ne (fun e => hi e.symm)
 have hk' : F' k = F k ++ [i] := by rw [hF', if_pos rfl]
 have r0 : rhoX k 0 0 = some (0, 0) := by simp [rhoX]
 have r1 : rhoX k 1 0 = some (1, 0) := by simp [rhoX]
 have r2 : rhoX k 2 0 = some (2, 0) := by simp [rhoX]
 have rlt : ∀ g i, g < 6 → rhoX k g i = some (g, i) := fun g i h => by unfold rhoX; rw [if_neg (by omega), if_neg (by omega), if_pos (by omega)]
 have r6 : ∀ i, i ≠ k → rhoX k 6 i = some (6, i) := fun i h => by simp [rhoX, h]
 have r7 : ∀ i, i ≠ k → rhoX k 7 i = some (7, i) := fun i h => by simp [rhoX, h]
 have r6k : rhoX k 6 k = some (8, 10) := by simp [rhoX]
 have r7k : rhoX k 7 k = some (8, 19) := by simp [rhoX]
 have hrow : ∀ (g : Nat) (v : Nat), rhoX k g k = some (8, v) → (∀ q, q ≠ k → rhoX k g q = some (g, q)) →
   RenB (rhoX k) (.cells 1 ((row1 n fun q => .hsl g q 0 (F q).length).set (0 + k) [.hsl 8 v 0 ((F k).length + 1)])) (.cells 1 (row1 n fun q => .hsl g q 0 (F' q).length)) := by
  intro g v h1 h2
  rw [Nat.zero_add, row1_set]
  refine .row1 fun q hq => ?_
  by_cases e : q = k
  ·subst e
   rw [if_pos rfl, hk', List.length_append]
   exact .hsl g q 8 v 0 _ h1
  ·rw [if_neg e, hF', if_neg e]
   exact .hsl g q g q 0 _ (h2 q e)
 refine Sub.ren (rhoX k) ⟨fun g j hg _ => rlt g j (by omega), fun g j g' j' p hp hp' => ?_, fun g j x hx hl => ?_, fun g j p hp hi => ?_⟩ h5.mem
 ·unfold rhoX at hp hp'
  split at hp
  ·split at hp'
   ·omega
   ·split at hp'
    ·rw [← hp] at hp'; simp at hp'
    ·split at hp'
     ·rw [← hp] at hp'; simp at hp'; omega
     ·cases hp'
  ·split at hp
   ·split at hp'
    ·rw [← hp] at hp'; simp at hp'
    ·split at hp'
     ·omega
     ·split at hp'
      ·rw [← hp] at hp'; simp at hp'; omega
      ·cases hp'
   ·split at hp
    ·split at hp'
     ·rw [← hp] at hp'; simp at hp'; omega
     ·split at hp'
      ·rw [← hp] at hp'; simp at hp'; omega
      ·split at hp'
       ·rw [← hp] at hp'; simp at hp'; exact ⟨hp'.1.symm, hp'.2.symm⟩
       ·cases hp'
    ·cases hp
 ·match g, hx with
  | 0, hx =>
   cases j with
   | zero =>
    have e : A = x := by simpa [hget] using hx
    subst e
    exact ⟨0, 0, A, r0, rfl, blk_w hA r0 r1 r2⟩
   | succ j => simp [hget] at hx
  | 1, hx =>
   cases j with
   | zero =>
    have e : B = x := by simpa [hget] using hx
    subst e
    exact ⟨1, 0, B, r1, rfl, blk_w hB r0 r1 r2⟩
   | succ j => simp [hget] at hx
  | 2, hx =>
   cases j with
   | zero =>
    have e : D = x := by simpa [hget] using hx
    subst e
    exact ⟨2, 0, D, r2, rfl, blk_w hD r0 r1 r2⟩
   | succ j => simp [hget] at hx
  | 3, hx =>
   cases j with
   | zero =>
    have e : schB n l = x := by simpa [hget, hpX] using hx
    subst e
    exact ⟨3, 0, _, rlt 3 0 (by omega), rfl, pure_schB n l⟩
   | succ j => simp [hget, hpX] at hx
  | 4, hx =>
   cases j with
   | zero =>
    refine ⟨4, 0, _, rlt 4 0 (by omega), rfl, ?_⟩
    have : (Blk.cells 1 (row1 n fun q => .hsl 6 q 0 (F' q).length)) = x := by simpa [hget, hpX] using hx
    subst this
    exact hrow 6 10 r6k r6
   | succ j => simp [hget, hpX] at hx
  | 5, hx =>
   cases j with
   | zero =>
    refine ⟨5, 0, _, rlt 5 0 (by omega), rfl, ?_⟩
    have : (Blk.cells 1 (row1 n fun q => .hsl 7 q 0 (F' q).length)) = x := by simpa [hget, hpX] using hx
    subst this
    exact hrow 7 19 r7k r7
   | succ j => simp [hget, hpX] at hx
  | 6, hx =>
   obtain ⟨hj, rfl⟩ := fam_some (show (fam n fun q => Blk.cells 1 (ints (F' q)))[j]? = some x from hx)
   by_cases e : j = k
   ·subst e
    refine ⟨8, 10, _, r6k, h10, RenB.rows ?_ (pure_rows _)⟩
    rw [hk']
    simp [ints]
   ·refine ⟨6, j, _, r6 j e, (hset _ j e).trans (fam_get hj), RenB.rows ?_ (pure_rows _)⟩
    rw [hF', if_neg e]
  | 7, hx =>
   obtain ⟨hj, rfl⟩ := fam_some (show (fam n fun q => Blk.cells 1 (msgs S (F' q)))[j]? = some x from hx)
   by_cases e : j = k
   ·subst e
    refine ⟨8, 19, _, r7k, h19, RenB.rows ?_ (pure_msgs hm _)⟩
    rw [hk']
    simp [msgs, msg, hS]
   ·refine ⟨7, j, _, r7 j e, (hset _ j e).trans (fam_get hj), RenB.rows ?_ (pure_msgs hm _)⟩
    rw [hF', if_neg e]
  | g + 8, hx => cases hx
 ·have h67 : ∀ (f f' : Nat → Blk), (((fam n f).set k .dead)[j]?).isSome → ((fam n f')[j]?).isSome := by
   intro f f' h
   have : j < n := by
    rw [Option.isSome_iff_exists] at h
    obtain ⟨y, hy⟩ := h
    have := (List.getElem?_eq_some_iff.1 hy).1
    simpa [fam_len] using this
   rw [fam_get this]
   rfl
  by_cases c6 : g = 6 ∧ j = k
  ·obtain ⟨rfl, rfl⟩ := c6
   show ((fam n fun q => Blk.cells 1 (ints (F' q)))[j]?).isSome
   rw [fam_get hk]; rfl
  ·by_cases c7 : g = 7 ∧ j = k
   ·obtain ⟨rfl, rfl⟩ := c7
    show ((fam n fun q => Blk.cells 1 (msgs S (F' q)))[j]?).isSome
    rw [fam_get hk]; rfl
   ·unfold rhoX at hp
    rw [if_neg c6, if_neg c7] at hp
    split at hp
    ·rename_i hg
     injection hp with hp
     subst hp
     match g, hi with
     | 0, hi => exact hi
     | 1, hi => exact hi
     | 2, hi => exact hi
     | 3, hi => exact hi
     | 4, hi => cases j with
      | zero => rfl
      | succ j => simp [hget] at hi
     | 5, hi => cases j with
      | zero => rfl
      | succ j => simp [hget] at hi
     | 6, hi => exact h67 _ _ hi
     | 7, hi => exact h67 _ _ hi
     | g + 8, _ => omega
    ·cases hp
set_option maxHeartbeats 1000000 in
theorem exchange_ok (hn1 : 1 ≤ n) (hn : n ≤ 64) (hr : 1 ≤ r ∧ r ≤ 1000) (hm : MsgOK S) (hre : ∀ i, i < n → -1000 ≤ reachS n l i r ∧ reachS n l i r ≤ 1000)
  {Inv : Nat → Blk → Blk → Blk → Prop} (h0 : Inv 0 A B D) (hskip : ∀ (i : Nat) a b d, i < n → livesS l i r = false → Inv i a b d → Inv (i + 1) a b d)
  (htake : ∀ (i : Nat) a b d, i < n → livesS l i r = true → LoB 3 a → LoB 3 b → LoB 3 d → Inv i a b d → CallOK Try.prog ft (.sc (.int .i64 i) :: .list 1 (ints (from' n l r S n i)) :: .list 1 (msgs S (from' n l r S n i)) :: ct) [[a], [b], [d]]
   fun res H' => ∃ a' b' d', H' = [[a'], [b'], [d']] ∧ Pure res ∧ LoB 3 a' ∧ LoB 3 b' ∧ LoB 3 d' ∧ Inv (i + 1) a' b' d')
  (hsend : ∀ i : Nat, i < n → CallOK Try.prog fs (.sc (.int .i64 i) :: cs) [[A], [B], [D]] fun res H' => H' = [[A], [B], [D]] ∧ res = mP (S i)) (hA : LoB 3 A) (hB : LoB 3 B) (hD : LoB 3 D) (hcs : Ren (lowS 3) (.clo (.func fs) [] cs) (.clo (.func fs) [] cs)) (hct : Ren (lowS 3) (.clo (.func ft) [] ct) (.clo (.func ft) [] ct)) :
  CallOK Try.prog 51 [schV n l, .sc (.int .i64 r), .clo (.func fs) [] cs, .clo (.func ft) [] ct] [[A], [B], [D]] (fun res H' => res = .sc (.bool (sent l r S n)) ∧ ∃ a b d, H' = [[a], [b], [d]] ∧ LoB 3 a ∧ LoB 3 b ∧ LoB 3 d ∧ Inv n a b d) := by
 refine CallOK.of cF51 ?_ (by simp [F51])
 refine walkO ?_
 refine DK.o rfl (dstep_mk (n := n) rfl (by omega) (by omega)) ?_
 refine walkO ?_
 refine DK.o rfl (dstep_mk (n := n) rfl (by omega) (by omega)) ?_
 refine walkO ?_
 refine DK.nil ⟨by kernel_rfl, ?_⟩
 refine walkO ?_
 refine AWP.loop (fun i : Nat => fr0 n r fs ft cs ct (sent l r S i) i) (fun i => [A] :: [B] :: [D] :: hpX n l S (from' n l r S i)) (fun i => i ≤ n) (fun i => n - i) 0 (Nat.zero_le _)
  (Sub.trans (H' := [[A], [B], [D], [schB n l], [nilR n], [nilR n]]) (fr' := fr0 n r fs ft cs ct false 0)
   (Sub.re [[(0, 0)], [(1, 0)], [(2, 0)], [(3, 0)], [(4, 2)], [(4, 5)]] rfl rfl rfl
    ⟨⟨⟨_, rfl, blk_w hA rfl rfl rfl⟩, trivial⟩, ⟨⟨_, rfl, blk_w hB rfl rfl rfl⟩, trivial⟩, ⟨⟨_, rfl, blk_w hD rfl rfl rfl⟩, trivial⟩, ⟨⟨_, rfl, pure_schB n l⟩, trivial⟩,
     ⟨⟨_, rfl, RenB.rows (row1_rep n _) (fun r hr => by obtain ⟨_, _, rfl⟩ := List.mem_map.1 hr; exact allPure_cons (.sc _) allPure_nil)⟩, trivial⟩,
     ⟨⟨_, rfl, RenB.rows (row1_rep n _) (fun r hr => by obtain ⟨_, _, rfl⟩ := List.mem_map.1 hr; exact allPure_cons (.sc _) allPure_nil)⟩, trivial⟩, trivial⟩
    ⟨.int rfl, clo_w hcs rfl rfl rfl, clo_w hct rfl rfl rfl, .ptr _ _ _ _ _ _ rfl, .sc _, .hsl _ _ _ _ _ _ rfl, .hsl _ _ _ _ _ _ rfl, .int rfl, .int rfl, trivial⟩)
   (Sub.ghost ghost0 (CongAll.mem ⟨.refl _, .refl _, .refl _, .refl _, .refl _, .refl _, .refl _, .refl _, .refl _, trivial⟩))) ?_
 intro i hi
 have hw : IntKind.i64.wrap (r - 1) = r - 1 := wrap_small (by omega) (by omega)
 refine walkO ?_
 refine AWP.cond rfl (fun h => ?_) (fun h => ?_)
 ·have hlt : i < n := by simpa using h
  have hX : CallOK Try.prog fs (.sc (.int .i64 i) :: cs) ([A] :: [B] :: [D] :: hpX n l S (from' n l r S i)) fun res H' => H' = [A] :: [B] :: [D] :: hpX n l S (from' n l r S i) ∧ res = mP (S i) := by
   refine (CallOK.heads (xs := [A, B, D]) (k := 3) rfl (R := fun res ys => ys = [A, B, D] ∧ res = mP (S i)) ((hsend i hlt).mono ?_) ?_ ⟨.sc _, hcs.cloArgs⟩).mono ?_
   ·rintro res H' ⟨rfl, rfl⟩
    refine ⟨[A, B, D], rfl, rfl, ?_, ?_, rfl, rfl⟩
    ·cases e : S i with
     | none => exact .sc _
     | some m => exact .pure (.cptr _ (hm i m e).2.1)
    ·intro y hy
     simp at hy
     rcases hy with rfl | rfl | rfl
     ·exact hA
     ·exact hB
     ·exact hD
   ·intro y hy
    simp at hy
    rcases hy with rfl | rfl | rfl
    ·exact hA
    ·exact hB
    ·exact hD
   ·rintro res H' ⟨ys, _, rfl, _, rfl, rfl⟩
    exact ⟨rfl, rfl⟩
  have next : ∀ {N : Nat} {fr : Fr}, hpX n l S (from' n l r S i) = hpX n l S (from' n l r S (i + 1)) → sent l r S (i + 1) = sent l r S i →
    LeAll fr (fr0 n r fs ft cs ct (sent l r S i) (i + 1)) → Sub 3 N fr ([A] :: [B] :: [D] :: hpX n l S (from' n l r S i)) (fr0 n r fs ft cs ct (sent l r S (i + 1)) (i + 1)) ([A] :: [B] :: [D] :: hpX n l S (from' n l r S (i + 1))) := by
   intro N fr e1 e2 hle
   rw [← e1, e2]
   exact Sub.keep hle
  have hi1 : IntKind.i64.wrap ((i : Int) + 1) = ((i + 1 : Nat) : Int) := by rw [wrap_small (by omega) (by omega)]; omega
  refine walkO ?_
  refine Reg.cv (by simp [hpX]) rfl rfl (hX.mono ?_)
  rintro res H' ⟨rfl, rfl⟩
  cases hS : S i with
  | none =>
   have e1 : hpX n l S (from' n l r S i) = hpX n l S (from' n l r S (i + 1)) := hp_congr fun k _ => by rw [from_succ, if_neg (by simp [hears, hS]), List.append_nil]
   have e2 : sent l r S (i + 1) = sent l r S i := by rw [sent_succ, hS]; simp
   refine walkO ?_
   refine ⟨i + 1, by omega, by omega, next e1 e2 ⟨.refl _, .refl _, .refl _, .refl _, .refl _, .refl _, .refl _, .refl _, Le.int hi1, trivial⟩⟩
  | some m =>
   refine walkO ?_
   refine Reg.c (by simp [hpX]) rfl (CallOK.ofPure (PureRun.of (allPure_cons (pure_sch n l) (allPure_cons (.sc _) (allPure_cons (.sc _) allPure_nil))) (.sc _) (lives_ok n l i (IntKind.i64.wrap (r - 1)))) _ ?_)
   refine walkO ?_
   refine AWP.cond rfl (fun hlv => ?_) (fun hlv => ?_)
   ·have hlv' : livesS l i (r - 1) = false := by rw [hw] at hlv; simpa using hlv
    have e1 : hpX n l S (from' n l r S i) = hpX n l S (from' n l r S (i + 1)) := hp_congr fun k _ => by rw [from_succ, if_neg (by simp [hears, hlv']), List.append_nil]
    have e2 : sent l r S (i + 1) = sent l r S i := by rw [sent_succ, hlv']; simp
    refine walkO ?_
    refine ⟨i + 1, by omega, by omega, next e1 e2 ⟨.refl _, .refl _, .refl _, .refl _, .refl _, .refl _, .refl _, .refl _, Le.int hi1, trivial⟩⟩
   have hlv' : livesS l i (r - 1) = true := by rw [hw] at hlv; simpa using hlv
   have hsent : sent l r S (i + 1) = true := by rw [sent_succ, hlv', hS]; simp
   refine walkO ?_
   refine Reg.c (by simp [hpX]) rfl (CallOK.ofPure (PureRun.of (allPure_cons (pure_sch n l) (allPure_cons (.sc _) (allPure_cons (.sc _) allPure_nil))) (.sc _) (reaches_ok n l i r (by omega))) _ ?_)
   refine walkO ?_
   refine AWP.loop (fun k : Nat => fr1 n r fs ft cs ct i m (reachS n l i r - place i k) k) (fun k => [A] :: [B] :: [D] :: hpX n l S (upTo n l r S i k)) (fun k => k ≤ n) (fun k => n - k) 0 (Nat.zero_le _) ?_ ?_
   ·rw [upTo_zero]
    exact Sub.keep ⟨.refl _, .refl _, Le.int (by simp [place]), .refl _, .refl _, .refl _, .refl _, .refl _, .refl _, .refl _, .refl _, .refl _, .refl _, trivial⟩
   intro k hk
   have hk1 : IntKind.i64.wrap ((k : Int) + 1) = ((k + 1 : Nat) : Int) := by rw [wrap_small (by omega) (by omega)]; omega
   have hre' := hre i hlt
   have hpl : place i k ≤ k := by unfold place; split <;> omega
   have done : ∀ {N : Nat} {fr : Fr}, (∀ q, q < n → hears n l r S i q = true → q < k) → LeAll fr (fr0 n r fs ft cs ct true (i + 1)) →
     Sub 3 N fr ([A] :: [B] :: [D] :: hpX n l S (upTo n l r S i k)) (fr0 n r fs ft cs ct (sent l r S (i + 1)) (i + 1)) ([A] :: [B] :: [D] :: hpX n l S (from' n l r S (i + 1))) := by
    intro N fr hq hle
    rw [hsent, hp_congr (F := upTo n l r S i k) (F' := from' n l r S (i + 1)) fun q hqn => upTo_last (hq q hqn)]
    exact Sub.keep hle
   refine walkO ?_
   refine Reg.gs rfl (fun hkn => ?_) (fun hkn => ?_)
   ·refine walkO ?_
    refine AWP.cond rfl (fun hleft => ?_) (fun hleft => ?_)
    ·have hkn' : k < n := by simpa using hkn
     have hleft' : (place i k : Int) < reachS n l i r := by simp at hleft; omega
     refine walkO ?_
     refine AWP.cond rfl (fun hne => ?_) (fun hne => ?_)
     ·have hki : k ≠ i := by
       rintro rfl
       simp at hne
      have hh : hears n l r S i k = true := by simp [hears, hS, hlv', hki, hleft']
      have hsub : IntKind.i64.wrap (reachS n l i r - place i k - 1) = reachS n l i r - place i (k + 1) := by
       rw [wrap_small (by omega) (by omega)]
       have : place i (k + 1) = place i k + 1 := by unfold place; split <;> split <;> omega
       omega
      obtain ⟨m1, m2, m3⟩ := hm i m hS
      have hlen := upTo_len n l r S i k k
      refine walkO ?_
      refine DK.o rfl (dstep_idxH (q := k) rfl rfl rfl hkn' (by rw [row1_len]; omega)) ?_
      refine DK.o rfl (dstep_ld1 rfl rfl (by rw [Nat.zero_add]; exact row1_get hkn') rfl) ?_
      refine walkO ?_
      refine DK.o rfl (dstep_app (rows1 := ints (upTo n l r S i k k)) rfl rfl (fam_get hkn') (by simp [ints]) (by simp; omega) rfl) ?_
      refine walkO ?_
      refine DK.o rfl (dstep_idxH (q := k) rfl rfl rfl hkn' (by rw [row1_len]; omega)) ?_
      refine DK.o rfl (dstep_ld1 rfl rfl (by rw [Nat.zero_add]; exact row1_get hkn') rfl) ?_
      refine walkO ?_
      obtain ⟨m3, m4⟩ := m3
      subst m4
      refine walkO ?_
      refine DK.o rfl (dstep_app (rows1 := msgs S (upTo n l r S i k k)) rfl rfl (fam_get hkn') (by simp [msgs]) (by simp; omega) rfl) ?_
      refine DK.o rfl (dstep_idxH (q := k) rfl rfl rfl hkn' (by rw [row1_len]; omega)) ?_
      refine DK.on rfl (dstep_stN rfl rfl rfl (by rw [Nat.zero_add]; exact row1_get hkn') rfl (Nat.le_refl _) rfl) ?_
      refine DK.o rfl (dstep_idxH (q := k) rfl rfl rfl hkn' (by rw [row1_len]; omega)) ?_
      refine DK.on rfl (dstep_stN rfl rfl rfl (by rw [Nat.zero_add]; exact row1_get hkn') rfl (Nat.le_refl _) rfl) ?_
      refine DK.nil ⟨by kernel_rfl, ?_⟩
      refine walkO ?_
      refine ⟨k + 1, by omega, by omega, back (F := upTo n l r S i k) (i := i) (m := _) hA hB hD hkn' (upTo_succ hh) hS hm rfl rfl ⟨.int rfl, .pure (.cptr _ m2), .int hsub, .int hk1, .int rfl, ?_, ?_, .ptr _ _ _ _ _ _ ?_, .sc _, .hsl _ _ _ _ _ _ ?_, .hsl _ _ _ _ _ _ ?_, .int rfl, .int rfl, trivial⟩⟩
      ·exact clo_w hcs (by simp [rhoX]) (by simp [rhoX]) (by simp [rhoX])
      ·exact clo_w hct (by simp [rhoX]) (by simp [rhoX]) (by simp [rhoX])
      ·simp [rhoX]
      ·simp [rhoX]
      ·simp [rhoX]
     ·have hki : k = i := by
       have : (k : Int) = i := by simpa using hne
       omega
      have e1 : upTo n l r S i (k + 1) = upTo n l r S i k := upTo_same (by simp [hears, hki])
      have e2 : place i (k + 1) = place i k := by unfold place; split <;> split <;> omega
      refine walkO ?_
      refine ⟨k + 1, by omega, by omega, ?_⟩
      rw [e1, e2]
      exact Sub.keep ⟨.refl _, .refl _, .refl _, Le.int hk1, .refl _, .refl _, .refl _, .refl _, .refl _, .refl _, .refl _, .refl _, .refl _, trivial⟩
    ·refine walkO ?_
     refine ⟨i + 1, by omega, by omega, done (fun q hqn hh => ?_) ⟨.refl _, .refl _, .refl _, .refl _, .refl _, .refl _, .refl _, .refl _, Le.int hi1, trivial⟩⟩
     have h1 : q ≠ i ∧ (place i q : Int) < reachS n l i r := by
      simp [hears] at hh
      exact hh.2.2
     have h2 : reachS n l i r ≤ place i k := by simp at hleft; omega
     by_cases hlt' : q < k
     ·exact hlt'
     ·exfalso
      have : place i k ≤ place i q := by unfold place; split <;> split <;> omega
      omega
   ·refine walkO ?_
    refine ⟨i + 1, by omega, by omega, done (fun q hqn hh => ?_) ⟨.refl _, .refl _, .refl _, .refl _, .refl _, .refl _, .refl _, .refl _, Le.int hi1, trivial⟩⟩
    simp at hkn
    omega
 ·have hin : i = n := by
   have : ¬ i < n := by simpa using h
   omega
  subst hin
  refine walkO ?_
  refine AWP.loop (σ := Nat × Blk × Blk × Blk) (fun s => fr2 i r S (from' i l r S i) ft ct (sent l r S i) s.1) (fun s => [[s.2.1], [s.2.2.1], [s.2.2.2], [schB i l]]) (fun s => s.1 ≤ i ∧ LoB 3 s.2.1 ∧ LoB 3 s.2.2.1 ∧ LoB 3 s.2.2.2 ∧ Inv s.1 s.2.1 s.2.2.1 s.2.2.2) (fun s => i - s.1) (0, A, B, D)
   ⟨Nat.zero_le _, hA, hB, hD, h0⟩ (toSecond hA hB hD hm hct ⟨.refl _, .refl _, .refl _, .refl _, .refl _, .refl _, .refl _, .refl _, trivial⟩) ?_
  rintro ⟨j, a, b, d⟩ ⟨hj, ha, hb, hd, hinv⟩
  simp only at hj ha hb hd hinv
  have hj1 : IntKind.i64.wrap ((j : Int) + 1) = ((j + 1 : Nat) : Int) := by rw [wrap_small (by omega) (by omega)]; omega
  have keep : ∀ {N : Nat} {fr : Fr} {X : Heap} {a' b' d' : Blk}, LoB 3 a' → LoB 3 b' → LoB 3 d' → LeAll fr (fr2 i r S (from' i l r S i) ft ct (sent l r S i) (j + 1)) →
    Sub 3 N fr ([a'] :: [b'] :: [d'] :: [schB i l] :: X) (fr2 i r S (from' i l r S i) ft ct (sent l r S i) (j + 1)) [[a'], [b'], [d'], [schB i l]] := by
   intro N fr X a' b' d' ha' hb' hd' hle
   refine Sub.trans (Sub.keep hle) ?_
   exact Sub.re [[(0, 0)], [(1, 0)], [(2, 0)], [(3, 0)]] rfl rfl rfl ⟨⟨⟨_, rfl, blk_w ha' rfl rfl rfl⟩, trivial⟩, ⟨⟨_, rfl, blk_w hb' rfl rfl rfl⟩, trivial⟩, ⟨⟨_, rfl, blk_w hd' rfl rfl rfl⟩, trivial⟩, ⟨⟨_, rfl, pure_schB i l⟩, trivial⟩, trivial⟩
    ⟨.int rfl, clo_w hct rfl rfl rfl, .ptr _ _ _ _ _ _ rfl, .sc _, .pure (pure_heard i _), .pure (pure_got i hm _), .int rfl, .int rfl, trivial⟩
  refine walkO ?_
  refine AWP.cond rfl (fun h => ?_) (fun h => ?_)
  ·have hlt : j < i := by simpa using h
   refine walkO ?_
   refine Reg.c (by simp) rfl (CallOK.ofPure (PureRun.of (allPure_cons (pure_sch i l) (allPure_cons (.sc _) (allPure_cons (.sc _) allPure_nil))) (.sc _) (lives_ok i l j r)) _ ?_)
   refine walkO ?_
   refine AWP.cond rfl (fun hlv => ?_) (fun hlv => ?_)
   ·refine AWP.dkl rfl mixed ?_
    refine walkO ?_
    refine DK.o rfl (dstep_idxSl rfl rfl (by rw [rowIx_nat]; exact row1_get hlt)) ?_
    refine walkO ?_
    refine DK.o rfl (dstep_idxSl rfl rfl (by rw [rowIx_nat]; exact row1_get hlt)) ?_
    refine walkO ?_
    refine DK.nil ⟨by kernel_rfl, ?_⟩
    refine Reg.cv (by simp) rfl rfl ((CallOK.heads (xs := [a, b, d]) (k := 3) rfl (R := fun res ys => ∃ a' b' d', ys = [a', b', d'] ∧ Inv (j + 1) a' b' d') ((htake j a b d hlt hlv ha hb hd hinv).mono ?_) ?_ ⟨.sc _, .pure (.list _ _ (pure_rows _)), .pure (.list _ _ (pure_msgs hm _)), hct.cloArgs⟩).mono ?_)
    ·rintro res H' ⟨a', b', d', rfl, hres, h1, h2, h3, h4⟩
     refine ⟨[a', b', d'], rfl, rfl, .pure hres, ?_, a', b', d', rfl, h4⟩
     intro y hy
     simp at hy
     rcases hy with rfl | rfl | rfl
     ·exact h1
     ·exact h2
     ·exact h3
    ·intro y hy
     simp at hy
     rcases hy with rfl | rfl | rfl
     ·exact ha
     ·exact hb
     ·exact hd
    ·rintro res H' ⟨ys, _, rfl, hlo, a', b', d', rfl, hinv'⟩
     have h1 := hlo a' (by simp)
     have h2 := hlo b' (by simp)
     have h3 := hlo d' (by simp)
     refine walkO ?_
     exact ⟨(j + 1, a', b', d'), ⟨by simp only; omega, h1, h2, h3, hinv'⟩, by simp only; omega, keep h1 h2 h3 ⟨.refl _, .refl _, .refl _, .refl _, .refl _, .refl _, .refl _, Le.int hj1, trivial⟩⟩
   ·refine walkO ?_
    exact ⟨(j + 1, a, b, d), ⟨by simp only; omega, ha, hb, hd, hskip j a b d hlt hlv hinv⟩, by simp only; omega, keep ha hb hd ⟨.refl _, .refl _, .refl _, .refl _, .refl _, .refl _, .refl _, Le.int hj1, trivial⟩⟩
  ·have hji : j = i := by
    have : ¬ j < i := by simpa using h
    omega
   subst hji
   refine walkO ?_
   exact ⟨.inr rfl, _, .sc (.bool (sent l r S j)), [[a], [b], [d]], rfl, SubV.ren (rho [[(0, 0)], [(1, 0)], [(2, 0)]]) (Numb.list rfl rfl rfl ⟨⟨⟨_, rfl, blk_w ha rfl rfl rfl⟩, trivial⟩, ⟨⟨_, rfl, blk_w hb rfl rfl rfl⟩, trivial⟩, ⟨⟨_, rfl, blk_w hd rfl rfl rfl⟩, trivial⟩, trivial⟩) (.sc _),
    rfl, a, b, d, rfl, ha, hb, hd, hinv⟩
end
end X51
end Go.Proofs.Ytbpmbofinoinmaa
namespace Go.Proofs.Ytbpmbofinoinmaa
open Go.Av Go.Proofs
def Dist (l : List C) : Prop := ∀ (k : Nat) c, l[k]? = some c → findC (l.take k) c.rank = none
theorem esOf_append (l m : List C) : esOf (l ++ m) = esOf l ++ esOf m := by simp [esOf]
set_option maxHeartbeats 1000000 in
theorem scheduled_ok (n : Int) (l : List C) (hl : l.length ≤ 4000000) (hd : Dist l) : CallOK Try.prog 38 [.sc (.int .i64 n), crV l] [] (fun res _ => res = schV n l) := by
 refine CallOK.of cF38 ?_ (by simp [F38])
 refine walkO ?_
 refine AWP.loop (fun k : Nat => [(4, .ptr 0 0 0 0), (5, .ptr 1 0 0 0), (11, crV l), (12, .sc (.int .i64 l.length)), (13, .sc (.int .i64 k))]) (fun k => [[.cells 2 [[.sc (.int .i64 0), .sc (.map none)]]], [.cells 2 [[.sc (.int .i64 n), .mref 2 0]]], [.map (esOf (l.take k))]])
  (fun k => k ≤ l.length) (fun k => l.length - k) 0 (Nat.zero_le _) ?_ ?_
 ·refine Sub.re [[(0, 0)], [(2, 0)], [(1, 0)]] rfl rfl rfl ⟨⟨⟨_, rfl, RenB.pure 2 _ (fun r hr => by rw [List.mem_singleton.1 hr]; exact allPure_cons (.sc _) (allPure_cons (.sc _) allPure_nil))⟩, trivial⟩, ⟨⟨_, rfl, ?_⟩, trivial⟩, ⟨⟨_, rfl, RenB.pureMap _ (fun x hx => by cases hx)⟩, trivial⟩, trivial⟩
   ⟨.ptr _ _ _ _ _ _ rfl, .ptr _ _ _ _ _ _ rfl, .pure (pure_cr l), .int (by simp), .int rfl, trivial⟩
  exact RenB.one (sz := 2) (xs := [.sc (.int .i64 n), .mref 1 0]) ⟨.sc _, .mref _ _ _ _ rfl, trivial⟩
 intro k hk
 have hk1 : IntKind.i64.wrap ((k : Int) + 1) = ((k + 1 : Nat) : Int) := by rw [wrap_small (by omega) (by omega)]; omega
 refine walkO ?_
 refine AWP.cond rfl (fun h => ?_) (fun h => ?_)
 ·have hlt : k < l.length := by simpa using h
  generalize hc : l[k] = c
  have hrow : rowIx (l.map crow) (k : Int) = some (crow c) := (rowIx_map crow l k hlt).trans (by rw [hc])
  have hnew : mfind .i64 c.rank (esOf (l.take k)) = some none := by
   rw [mfind_es, hd k c (by rw [List.getElem?_eq_getElem hlt, hc])]
   rfl
  refine walkO ?_
  refine Reg.o rfl (dstep_idxSl rfl rfl hrow) ?_
  refine walkO ?_
  refine Reg.on rfl (dstep_mapNew rfl rfl rfl hnew) ?_
  refine walkO ?_
  refine ⟨k + 1, by omega, by omega, Sub.re [[(0, 0)], [(1, 0)], [(2, 0)]] rfl rfl rfl
   ⟨⟨⟨_, rfl, RenB.pure 2 _ (fun r hr => by rw [List.mem_singleton.1 hr]; exact allPure_cons (.sc _) (allPure_cons (.sc _) allPure_nil))⟩, trivial⟩, ⟨⟨_, rfl, RenB.one ⟨.sc _, .mref _ _ _ _ rfl, trivial⟩⟩, trivial⟩, ⟨⟨_, rfl, ?_⟩, trivial⟩, trivial⟩
   ⟨.ptr _ _ _ _ _ _ rfl, .ptr _ _ _ _ _ _ rfl, .pure (pure_cr l), .int rfl, .int hk1, trivial⟩⟩
  have e : esOf (l.take (k + 1)) = esOf (l.take k) ++ [(.int .i64 c.rank, .agg (crow c))] := by
   rw [List.take_succ_eq_append_getElem hlt, esOf_append, hc]
   rfl
  rw [e]
  refine RenB.pureMap (esOf (l.take k) ++ [(.int .i64 c.rank, .agg (crow c))]) ?_
  rw [← e]
  intro x hx
  obtain ⟨c', _, rfl⟩ := List.mem_map.1 hx
  exact .agg _ (pure_crow c')
 ·have hkl : k = l.length := by
   have : ¬ k < l.length := by simpa using h
   omega
  subst hkl
  refine walkO ?_
  have e' : AV.tmap (esOf l) = AV.tmap (esOf (l.take l.length)) := by rw [List.take_of_length_le (Nat.le_refl _)]
  refine fin_frz (.inr rfl) (res := .agg [.sc (.int .i64 n), .mref 2 0]) (res' := schV n l) rfl (Cong.aggL (l := [.sc (.int .i64 n), .mref 2 0]) (m := [.sc (.int .i64 n), .tmap (esOf l)]) ⟨.refl _, ?_, trivial⟩) (pure_sch n l) rfl
  rw [e']
  exact FzA.mref rfl
def oneMsg : List AV := [.sc (.bool false)]
def newsS (r : Int) (out : List Int) (j : Nat) : Option (List AV) := if out[j]? = some (r - 1) then some oneMsg else none
def newsB (out : List Int) : Blk := .cells 1 (intsR out)
theorem lo_news (out : List Int) : LoB 3 (newsB out) := lo_rows (pure_intsR out)
theorem intsR_get {out : List Int} {j : Nat} (h : j < out.length) : (intsR out)[j]? = some [.sc (.int .i64 out[j])] := by simp [intsR, h]
theorem intsR_set (out : List Int) (j : Nat) (v : Int) : (intsR out).set j [.sc (.int .i64 v)] = intsR (out.set j v) := by simp [intsR, List.map_set]
theorem send_ok (r : Int) (hr : 1 ≤ r ∧ r ≤ 1000) (out : List Int) (j : Nat) (hj : j < out.length) :
  CallOK Try.prog 52 [.sc (.int .i64 j), .ptr 0 0 0 0, .ptr 2 0 0 0] [[boxB out.length], [newsB out], [oneB (.int .i64 r)]] (fun res H' => H' = [[boxB out.length], [newsB out], [oneB (.int .i64 r)]] ∧ res = X51.mP (newsS r out j)) := by
 have hw : IntKind.i64.wrap (r - 1) = r - 1 := wrap_small (by omega) (by omega)
 refine CallOK.of cF52 ?_ (by simp [F52])
 refine walkO ?_
 refine DK.o rfl (dstep_idxH (q := j) rfl rfl rfl hj (by simp [intsR])) ?_
 refine DK.o rfl (dstep_ld1 rfl rfl (by rw [Nat.zero_add]; exact intsR_get hj) rfl) ?_
 refine walkO ?_
 refine DK.nil ⟨by kernel_rfl, ?_⟩
 refine AWP.cond rfl (fun h => ?_) (fun h => ?_)
 ·have hne : newsS r out j = none := by
   rw [hw] at h
   unfold newsS
   rw [List.getElem?_eq_getElem hj, if_neg (by simpa using h)]
  refine walkO ?_
  exact fin3 (.inr rfl) rfl (.sc _) (lo_box _) (lo_news _) (lo_one _) ⟨rfl, by rw [hne]; rfl⟩
 ·have he : newsS r out j = some oneMsg := by
   rw [hw] at h
   unfold newsS
   rw [List.getElem?_eq_getElem hj, if_pos (by simpa using h)]
  refine walkO ?_
  exact fin3z (.inr rfl) rfl (.base (.ptr 4 0 0 0 1 [oneMsg] oneMsg rfl rfl rfl)) (.cptr _ (allPure_cons (.sc _) allPure_nil)) (lo_box _) (lo_news _) (lo_one _) ⟨rfl, by rw [he]; rfl⟩
def newsT (r : Int) (out : List Int) (j : Nat) (F : List Nat) : List Int := if out[j]? = none ∨ 0 ≤ (out[j]?).getD 0 ∨ F = [] then out else out.set j r
theorem take_news_ok (r : Int) (out : List Int) (j : Nat) (hj : j < out.length) (F : List Nat) (G : AV) :
  CallOK Try.prog 53 [.sc (.int .i64 j), .list 1 (X51.ints F), G, .ptr 0 0 0 0, .ptr 2 0 0 0] [[boxB out.length], [newsB out], [oneB (.int .i64 r)]]
   (fun res H' => Pure res ∧ H' = [[boxB out.length], [newsB (newsT r out j F)], [oneB (.int .i64 r)]]) := by
 refine CallOK.of cF53 ?_ (by simp [F53])
 refine walkO ?_
 refine Reg.o rfl (dstep_idxH (q := j) rfl rfl rfl hj (by simp [intsR])) ?_
 refine Reg.o rfl (dstep_ld1 rfl rfl (by rw [Nat.zero_add]; exact intsR_get hj) rfl) ?_
 refine walkO ?_
 refine Reg.gs rfl (fun hneg => ?_) (fun hneg => ?_)
 ·have hneg' : out[j] < 0 := by simpa using hneg
  refine walkO ?_
  refine AWP.cond rfl (fun hF => ?_) (fun hF => ?_)
  ·have hF' : F ≠ [] := by
    rintro rfl
    simp [X51.ints] at hF
   refine walkO ?_
   refine Reg.o rfl (dstep_idxH (q := j) rfl rfl rfl hj (by simp [intsR])) ?_
   refine Reg.on rfl (dstep_stN rfl rfl rfl (by rw [Nat.zero_add]; exact intsR_get hj) rfl (Nat.le_refl _) rfl) ?_
   refine walkO ?_
   have e : newsT r out j F = out.set j r := by
    unfold newsT
    rw [List.getElem?_eq_getElem hj, if_neg]
    simp
    exact ⟨by omega, hF'⟩
   have e2 : (Blk.cells 1 ((intsR out).set (0 + j) [.sc (.int .i64 r)])) = newsB (newsT r out j F) := by rw [Nat.zero_add, intsR_set, e]; rfl
   refine fin3 (d := oneB (.int .i64 r)) (.inl rfl) (X := []) (b := .cells 1 ((intsR out).set (0 + j) [.sc (.int .i64 r)])) rfl (.tup _ allPure_nil) (lo_box _) (by rw [e2]; exact lo_news _) (lo_one _) ⟨.tup _ allPure_nil, by rw [e2]⟩
  ·have hF' : F = [] := by
    cases F with
    | nil => rfl
    | cons a F => simp [X51.ints] at hF
   refine walkO ?_
   have e : newsT r out j F = out := by
    unfold newsT
    rw [if_pos (.inr (.inr hF'))]
   exact fin3 (.inl rfl) rfl (.tup _ allPure_nil) (lo_box _) (lo_news _) (lo_one _) ⟨.tup _ allPure_nil, by rw [e]⟩
 ·refine walkO ?_
  have e : newsT r out j F = out := by
   unfold newsT
   rw [List.getElem?_eq_getElem hj, if_pos]
   right; left
   simpa using hneg
  exact fin3 (.inl rfl) rfl (.tup _ allPure_nil) (lo_box _) (lo_news _) (lo_one _) ⟨.tup _ allPure_nil, by rw [e]⟩
structure GoodC (n : Int) (c : C) : Prop where
 r0 : 0 ≤ c.rank
 r1 : c.rank < n
 t0 : 0 ≤ c.round
 t1 : c.round ≤ 100
 s0 : 0 ≤ c.sent
 s1 : c.sent < n
theorem checkGo_zero (n : Int) : ∀ (l : List C) (s : Nat → Bool), checkGo n s l = 0 → (∀ c ∈ l, GoodC n c ∧ s c.rank.toNat = false) ∧ Dist l
 | [], s, _ => ⟨fun c h => (by cases h), fun k c h => (by simp at h)⟩
 | c :: r, s, h => by
  unfold checkGo at h
  split at h
  ·cases h
  ·rename_i h1
   split at h
   ·cases h
   ·rename_i h2
    split at h
    ·cases h
    ·rename_i h3
     obtain ⟨ih1, ih2⟩ := checkGo_zero n r _ h
     have hg : GoodC n c := by
      simp [badRank] at h1
      simp [badTime] at h2
      exact ⟨by omega, by omega, by omega, by omega, by omega, by omega⟩
     refine ⟨fun c' hc' => ?_, fun k c' hk => ?_⟩
     ·rcases List.mem_cons.1 hc' with e | e
      ·subst e; exact ⟨hg, by simpa using h3⟩
      ·obtain ⟨k1, k2⟩ := ih1 c' e
       refine ⟨k1, ?_⟩
       split at k2
       ·cases k2
       ·exact k2
     ·cases k with
      | zero => rfl
      | succ k =>
       have hk' : r[k]? = some c' := by simpa using hk
       obtain ⟨k1, k2⟩ := ih1 c' (List.mem_of_getElem? hk')
       have hne : ¬ c'.rank.toNat = c.rank.toNat := by
        intro e
        rw [if_pos e] at k2
        cases k2
       have h4 := k1.r0
       have h5 := hg.r0
       show findC (c :: r.take k) c'.rank = none
       unfold findC
       rw [List.find?_cons]
       have : decide (c'.rank = c.rank) = false := by simp; omega
       rw [this]
       exact ih2 k c' hk'
theorem check_zero {n : Int} {l : List C} (h : checkS n l = 0) : (1 ≤ n ∧ n ≤ 64) ∧ (∀ c ∈ l, GoodC n c) ∧ Dist l := by
 unfold checkS at h
 split at h
 ·cases h
 ·rename_i h1
  obtain ⟨h2, h3⟩ := checkGo_zero n l _ h
  refine ⟨by simp at h1; omega, fun c hc => (h2 c hc).1, h3⟩
theorem findC_mem {l : List C} {i : Int} {c : C} (h : findC l i = some c) : c ∈ l ∧ c.rank = i := by
 unfold findC at h
 have h1 := List.find?_some h
 exact ⟨List.mem_of_find?_eq_some h, by simpa using (of_decide_eq_true h1).symm⟩
theorem reach_bounds {n : Nat} {l : List C} (hl : ∀ c ∈ l, GoodC n c) (h1 : 1 ≤ n) (i r : Int) : 0 ≤ reachS n l i r ∧ reachS n l i r ≤ n - 1 := by
 unfold reachS
 split
 ·omega
 ·rename_i c e
  have := hl c (findC_mem e).1
  have := this.s0
  have := (hl c (findC_mem e).1).s1
  split
  ·omega
  ·split <;> omega
def hearF (n : Nat) (l : List C) (r : Int) (out : List Int) (k : Nat) : List Nat := X51.from' n l r (newsS r out) n k
def outI (l : List C) (r : Int) (F : Nat → List Nat) (out : List Int) : Nat → List Int
 | 0 => out
 | i + 1 => if livesS l i r = true then newsT r (outI l r F out i) i (F i) else outI l r F out i
def stepN (n : Nat) (l : List C) (r : Int) (out : List Int) : List Int := outI l r (hearF n l r out) out n
def sentN (n : Nat) (l : List C) (r : Int) (out : List Int) : Bool := X51.sent l r (newsS r out) n
def newsGo (n : Nat) (l : List C) : Nat → Int → List Int → List Int × Int
 | 0, r, out => (out, r - 1)
 | f + 1, r, out => if sentN n l r out = true then newsGo n l f (r + 1) (stepN n l r out) else (out, r - 1)
def news0 (n : Nat) (src : Nat) : List Int := (List.replicate n (-1)).set src 0
theorem newsT_len (r : Int) (out : List Int) (j : Nat) (F : List Nat) : (newsT r out j F).length = out.length := by
 unfold newsT
 split <;> simp
theorem outI_len (l : List C) (r : Int) (F : Nat → List Nat) (out : List Int) : ∀ i, (outI l r F out i).length = out.length
 | 0 => rfl
 | i + 1 => by
  unfold outI
  split
  ·rw [newsT_len, outI_len l r F out i]
  ·exact outI_len l r F out i
def cnt (out : List Int) : Nat := (out.filter fun v => decide (v < 0)).length
theorem cnt_set : ∀ (out : List Int) (j : Nat) (r : Int), 0 ≤ r → (∃ v, out[j]? = some v ∧ v < 0) → cnt (out.set j r) + 1 = cnt out
 | [], j, r, _, ⟨v, h, _⟩ => by simp at h
 | a :: out, 0, r, hr, ⟨v, h, hv⟩ => by
  simp at h
  subst h
  unfold cnt
  rw [List.set_cons_zero, List.filter_cons, List.filter_cons, if_neg (by simp; omega), if_pos (by simp; omega)]
  rfl
 | a :: out, j + 1, r, hr, ⟨v, h, hv⟩ => by
  have ih := cnt_set out j r hr ⟨v, by simpa using h, hv⟩
  unfold cnt at ih ⊢
  rw [List.set_cons_succ, List.filter_cons, List.filter_cons]
  split
  ·simp only [List.length_cons]; omega
  ·exact ih
theorem newsT_cnt (r : Int) (hr : 0 ≤ r) (out : List Int) (j : Nat) (F : List Nat) : newsT r out j F = out ∨ cnt (newsT r out j F) + 1 = cnt out := by
 unfold newsT
 split
 ·exact .inl rfl
 ·rename_i h
  right
  simp only [not_or] at h
  cases e : out[j]? with
  | none => exact absurd e h.1
  | some v =>
   rw [e] at h
   exact cnt_set out j r hr ⟨v, e, by simp at h; omega⟩
theorem outI_cnt (l : List C) (r : Int) (hr : 0 ≤ r) (F : Nat → List Nat) (out : List Int) : ∀ i, outI l r F out i = out ∨ cnt (outI l r F out i) + 1 ≤ cnt out
 | 0 => .inl rfl
 | i + 1 => by
  unfold outI
  split
  ·rcases newsT_cnt r hr (outI l r F out i) i (F i) with h | h
   ·rw [h]; exact outI_cnt l r hr F out i
   ·rcases outI_cnt l r hr F out i with h2 | h2
    ·right; rw [h2] at h ⊢; omega
    ·right; omega
  ·exact outI_cnt l r hr F out i
theorem newsT_mem {r : Int} {out : List Int} {j : Nat} {F : List Nat} {v : Int} (h : v ∈ newsT r out j F) : v ∈ out ∨ v = r := by
 unfold newsT at h
 split at h
 ·exact .inl h
 ·exact (List.mem_or_eq_of_mem_set h)
theorem outI_mem {l : List C} {r : Int} {F : Nat → List Nat} {out : List Int} {v : Int} : ∀ i, v ∈ outI l r F out i → v ∈ out ∨ v = r
 | 0, h => .inl h
 | i + 1, h => by
  unfold outI at h
  split at h
  ·rcases newsT_mem h with h | h
   ·exact outI_mem i h
   ·exact .inr h
  ·exact outI_mem i h
def flg (r : Int) (out : List Int) : Nat := if (r - 1) ∈ out then 1 else 0
theorem flg_of_sent {n : Nat} {l : List C} {r : Int} {out : List Int} (h : sentN n l r out = true) : flg r out = 1 := by
 unfold sentN X51.sent at h
 rw [List.any_eq_true] at h
 obtain ⟨j, _, hj⟩ := h
 simp only [Bool.and_eq_true] at hj
 have h1 := hj.1
 unfold newsS at h1
 split at h1
 ·rename_i e
  unfold flg
  rw [if_pos (List.mem_of_getElem? e)]
 ·cases h1
theorem next_less {n : Nat} {l : List C} {r : Int} {out : List Int} (hr : 1 ≤ r) (hv : ∀ v ∈ out, v < r) : cnt (stepN n l r out) + flg (r + 1) (stepN n l r out) ≤ cnt out ∧ ∀ v ∈ stepN n l r out, v < r + 1 := by
 refine ⟨?_, fun v h => ?_⟩
 ·rcases outI_cnt l r (by omega) (hearF n l r out) out n with h | h
  ·show cnt (outI l r (hearF n l r out) out n) + flg (r + 1) (outI l r (hearF n l r out) out n) ≤ _
   rw [h]
   unfold flg
   rw [if_neg (fun h => by have := hv _ h; omega)]
   omega
  ·have : flg (r + 1) (stepN n l r out) ≤ 1 := by unfold flg; split <;> omega
   show cnt (outI l r (hearF n l r out) out n) + _ ≤ _
   omega
 ·rcases outI_mem n h with h | h
  ·have := hv v h; omega
  ·omega
abbrev NewsR := List Int × Int × Int
def newsR (n src : Int) (l : List C) : NewsR :=
 if checkS n l = 0 then (if src < 0 ∨ src ≥ n then ([], 0, 11) else ((newsGo n.toNat l (n.toNat + 2) 1 (news0 n.toNat src.toNat)).1, (newsGo n.toNat l (n.toNat + 2) 1 (news0 n.toNat src.toNat)).2, 0)) else ([], 0, checkS n l)
def newsV (p : NewsR) : AV := .tup [.list 1 (intsR p.1), .sc (.int .i64 p.2.1), .sc (.int .i64 p.2.2)]
theorem pure_newsV (p : NewsR) : Pure (newsV p) := .tup _ (allPure_cons (.list _ _ (pure_intsR _)) (allPure_cons (.sc _) (allPure_cons (.sc _) allPure_nil)))
theorem le_tup3 {a a' b c : AV} (h : Le a a') : Le (.tup [a, b, c]) (.tup [a', b, c]) := by
 intro M J v hv
 cases hv with
 | tup _ cvs hl hr =>
  refine .tup _ cvs hl fun j x v hx hv => ?_
  match j, hx with
  | 0, hx => simp at hx; subst hx; exact h M J v (hr 0 a v rfl hv)
  | 1, hx => exact hr 1 x v hx hv
  | 2, hx => exact hr 2 x v hx hv
  | j + 3, hx => simp at hx
theorem fin_nil3 {e : Exit} (he : e = .normal ∨ e = .ret) {rs : List IRes} {fr : Fr} {H : Heap} {b c : AV} {R : AV → Heap → Prop} (hres : resOf fr H rs = some (.tup [.sc (.slice none 0 0), b, c])) (sz : Nat) (hp : Pure (.tup [.list sz [], b, c])) (hR : R (.tup [.list sz [], b, c]) []) :
  (e = .normal ∨ e = .ret) ∧ ∃ res res' H2, resOf fr H rs = some res ∧ SubV 0 H res H2 res' ∧ R res' H2 :=
 ⟨he, _, _, [], hres, (SubV.le (le_tup3 (Le.nil sz))).trans (.pure hp), hR⟩
theorem intsR_rep (n : Nat) (v : Int) : List.replicate n [AV.sc (.int .i64 v)] = intsR (List.replicate n v) := by simp [intsR]
theorem news_bad (n src : Int) (l : List C) (hl : l.length ≤ 9223372036854775807) (hb : checkS n l ≠ 0 ∨ (src < 0 ∨ src ≥ n)) : CallOK Try.prog 19 [.sc (.int .i64 n), .sc (.int .i64 src), crV l] [] (fun res _ => res = newsV (newsR n src l)) := by
 refine CallOK.of cF19 ?_ (by simp [F19])
 refine walkO ?_
 refine Reg.c (Nat.le_refl _) rfl (CallOK.ofPure (PureRun.of (allPure_cons (.sc _) (allPure_cons (pure_cr l) allPure_nil)) (.sc _) (check_big n l hl)) _ ?_)
 refine walkO ?_
 refine AWP.cond rfl (fun hc => ?_) (fun hc => ?_)
 ·have hc' : checkS n l ≠ 0 := by simpa using hc
  refine walkO ?_
  refine fin_nil3 (.inr rfl) rfl 1 (.tup _ (allPure_cons (.list _ _ (fun r hr => by cases hr)) (allPure_cons (.sc _) (allPure_cons (.sc _) allPure_nil)))) ?_
  unfold newsR
  rw [if_neg hc']
  rfl
 ·have hc' : checkS n l = 0 := by simpa using hc
  have hb' : src < 0 ∨ src ≥ n := hb.resolve_left fun h => h hc'
  have e : newsR n src l = ([], 0, 11) := by unfold newsR; rw [if_pos hc', if_pos hb']
  refine walkO ?_
  refine Reg.gs rfl (fun h1 => ?_) (fun h1 => ?_)
  ·refine walkO ?_
   refine fin_nil3 (.inr rfl) rfl 1 (.tup _ (allPure_cons (.list _ _ (fun r hr => by cases hr)) (allPure_cons (.sc _) (allPure_cons (.sc _) allPure_nil)))) ?_
   rw [e]
   rfl
  ·refine walkO ?_
   refine AWP.cond rfl (fun h2 => ?_) (fun h2 => ?_)
   ·refine walkO ?_
    refine fin_nil3 (.inr rfl) rfl 1 (.tup _ (allPure_cons (.list _ _ (fun r hr => by cases hr)) (allPure_cons (.sc _) (allPure_cons (.sc _) allPure_nil)))) ?_
    rw [e]
    rfl
   ·exfalso
    simp at h1 h2
    omega
theorem clo_lo (f : FuncId) : Ren (lowS 3) (.clo (.func f) [] [.ptr 0 0 0 0, .ptr 2 0 0 0]) (.clo (.func f) [] [.ptr 0 0 0 0, .ptr 2 0 0 0]) := by
 refine .clo _ _ _ _ _ rfl rfl (fun j x y h => (by simp at h)) fun j x y hx hy => ?_
 cases eq_of_get hx hy
 match j, hx with
 | 0, hx => simp at hx; subst hx; exact .ptr 0 0 0 0 0 0 (lowS_lt (by omega))
 | 1, hx => simp at hx; subst hx; exact .ptr 2 0 2 0 0 0 (lowS_lt (by omega))
 | j + 2, hx => simp at hx
theorem newsMsg (r : Int) (out : List Int) : X51.MsgOK (newsS r out) := by
 intro j m h
 unfold newsS at h
 split at h
 ·injection h with h
  subst h
  exact ⟨rfl, allPure_cons (.sc _) allPure_nil, rfl, rfl⟩
 ·cases h
theorem outI_succ (l : List C) (r : Int) (F : Nat → List Nat) (out : List Int) (i : Nat) : outI l r F out (i + 1) = if livesS l i r = true then newsT r (outI l r F out i) i (F i) else outI l r F out i := rfl
theorem from_nil {n : Nat} {l : List C} {r : Int} {S : Nat → Option (List AV)} (h : X51.sent l r S n = false) (k : Nat) : X51.from' n l r S n k = [] := by
 unfold X51.from'
 rw [List.filter_eq_nil_iff]
 intro j hj hh
 unfold X51.sent at h
 rw [List.any_eq_false] at h
 have := h j hj
 simp [X51.hears] at hh
 simp [hh.1, hh.2.1] at this
theorem outI_same {n : Nat} {l : List C} {r : Int} {out : List Int} (h : sentN n l r out = false) : stepN n l r out = out := by
 have key : ∀ i, outI l r (hearF n l r out) out i = out := by
  intro i
  induction i with
  | zero => rfl
  | succ i ih =>
   unfold outI
   split
   ·rw [ih]
    unfold newsT
    rw [if_pos (.inr (.inr (from_nil h i)))]
   ·exact ih
 exact key n
theorem round_ok {n : Nat} {l : List C} {r : Int} {out : List Int} (hn1 : 1 ≤ n) (hn : n ≤ 64) (hr : 1 ≤ r ∧ r ≤ 1000) (hg : ∀ c ∈ l, GoodC n c) (hlen : out.length = n) {X : Heap} :
  CallOK Try.prog 51 [schV n l, .sc (.int .i64 r), .clo (.func 52) [] [.ptr 0 0 0 0, .ptr 2 0 0 0], .clo (.func 53) [] [.ptr 0 0 0 0, .ptr 2 0 0 0]] ([boxB n] :: [newsB out] :: [oneB (.int .i64 r)] :: X)
   (fun res H' => res = .sc (.bool (sentN n l r out)) ∧ H' = [boxB n] :: [newsB (stepN n l r out)] :: [oneB (.int .i64 r)] :: X) := by
 have h := X51.exchange_ok (n := n) (l := l) (r := r) (S := newsS r out) (fs := 52) (ft := 53) (cs := [.ptr 0 0 0 0, .ptr 2 0 0 0]) (ct := [.ptr 0 0 0 0, .ptr 2 0 0 0]) (A := boxB n) (B := newsB out) (D := oneB (.int .i64 r)) hn1 hn hr (newsMsg r out)
  (fun i hi => by have := reach_bounds hg hn1 i r; omega) (Inv := fun i a b d => a = boxB n ∧ b = newsB (outI l r (hearF n l r out) out i) ∧ d = oneB (.int .i64 r)) ⟨rfl, rfl, rfl⟩
  (fun i a b d hi hlv h => ⟨h.1, by rw [h.2.1, outI_succ, if_neg (by rw [hlv]; decide)], h.2.2⟩)
  (fun i a b d hi hlv _ _ _ h => by
   obtain ⟨rfl, rfl, rfl⟩ := h
   have ht := take_news_ok r (outI l r (hearF n l r out) out i) i (by rw [outI_len, hlen]; exact hi) (hearF n l r out i) (.list 1 (X51.msgs (newsS r out) (hearF n l r out i)))
   rw [outI_len, hlen] at ht
   refine ht.mono ?_
   rintro res H' ⟨hp, rfl⟩
   refine ⟨_, _, _, rfl, hp, lo_box _, lo_news _, lo_one _, rfl, ?_, rfl⟩
   rw [outI_succ, if_pos hlv])
  (fun i hi => by
   have hs := send_ok r hr out i (by omega)
   rw [hlen] at hs
   exact hs) (lo_box _) (lo_news _) (lo_one _) (clo_lo 52) (clo_lo 53)
 refine (CallOK.heads (xs := [boxB n, newsB out, oneB (.int .i64 r)]) (k := 3) (X := X) rfl (R := fun res ys => res = .sc (.bool (sentN n l r out)) ∧ ys = [boxB n, newsB (stepN n l r out), oneB (.int .i64 r)]) (h.mono ?_) ?_ ⟨.pure (pure_sch n l), .sc _, clo_lo 52, clo_lo 53, trivial⟩).mono ?_
 ·rintro res H' ⟨rfl, a, b, d, rfl, h1, h2, h3, rfl, rfl, rfl⟩
  refine ⟨_, rfl, rfl, .sc _, ?_, rfl, rfl⟩
  intro y hy
  simp at hy
  rcases hy with rfl | rfl | rfl
  ·exact h1
  ·exact h2
  ·exact h3
 ·intro y hy
  simp at hy
  rcases hy with rfl | rfl | rfl
  ·exact lo_box _
  ·exact lo_news _
  ·exact lo_one _
 ·rintro res H' ⟨ys, _, rfl, _, rfl, rfl⟩
  exact ⟨rfl, rfl⟩
def initL (n k : Nat) : List Int := List.replicate k (-1) ++ List.replicate (n - k) 0
theorem initL_len (n k : Nat) (h : k ≤ n) : (initL n k).length = n := by simp [initL]; omega
theorem initL_set (n k : Nat) (h : k < n) : (initL n k).set k (-1) = initL n (k + 1) := by
 unfold initL
 rw [List.set_append_right _ _ (by simp)]
 rw [List.length_replicate, Nat.sub_self, show n - k = (n - (k + 1)) + 1 by omega, List.replicate_succ, List.set_cons_zero, List.replicate_succ' (n := k)]
 simp
set_option maxHeartbeats 1000000 in
theorem news_good (n src : Nat) (l : List C) (hl : l.length ≤ 4000000) (hc : checkS n l = 0) (hs : src < n) : CallOK Try.prog 19 [.sc (.int .i64 n), .sc (.int .i64 src), crV l] [] (fun res _ => res = newsV (newsR n src l)) := by
 obtain ⟨⟨hn1, hn⟩, hg, hd⟩ := check_zero hc
 have hn1 : 1 ≤ n := by omega
 have hn : n ≤ 64 := by omega
 refine CallOK.of cF19 ?_ (by simp [F19])
 refine walkO ?_
 refine Reg.c (Nat.le_refl _) rfl (CallOK.ofPure (PureRun.of (allPure_cons (.sc _) (allPure_cons (pure_cr l) allPure_nil)) (.sc _) (check_ok n l hl)) _ ?_)
 rw [hc]
 refine walkO ?_
 refine AWP.cond rfl (fun h2 => ?_) (fun h2 => ?_)
 ·simp at h2
  omega
 refine walkO ?_
 refine Reg.c (Nat.le_refl _) rfl (CallOK.ofPure (PureRun.of (allPure_cons (.sc _) (allPure_cons (pure_cr l) allPure_nil)) (pure_sch n l) (scheduled_ok n l hl hd)) _ ?_)
 refine walkO ?_
 refine Reg.o rfl (dstep_mk (n := n) rfl (by omega) (by omega)) ?_
 refine walkO ?_
 refine AWP.loop (fun k : Nat => [(1, .sc (.int .i64 src)), (10, .ptr 2 0 0 0), (11, .ptr 0 0 0 0), (34, .sc (.int .i64 n)), (35, .sc (.int .i64 k))]) (fun k => [[boxB n], [newsB (initL n k)], [X51.schB n l]]) (fun k => k ≤ n) (fun k => n - k) 0 (Nat.zero_le _) ?_ ?_
 ·exact Sub.re [[(2, 0)], [(1, 0)], [(0, 0)]] rfl rfl rfl ⟨⟨⟨_, rfl, RenB.one (sz := 1) (xs := [.hsl 1 0 0 n]) ⟨.hsl _ _ _ _ _ _ rfl, trivial⟩⟩, trivial⟩, ⟨⟨_, rfl, RenB.rows (rows := List.replicate n [.sc (.int .i64 0)]) (by rw [intsR_rep]; rfl) (pure_intsR _)⟩, trivial⟩,
   ⟨⟨_, rfl, X51.pure_schB n l⟩, trivial⟩, trivial⟩ ⟨.int rfl, .ptr _ _ _ _ _ _ rfl, .ptr _ _ _ _ _ _ rfl, .int rfl, .int rfl, trivial⟩
 intro k hk
 have hk1 : IntKind.i64.wrap ((k : Int) + 1) = ((k + 1 : Nat) : Int) := by rw [wrap_small (by omega) (by omega)]; omega
 have hlenk := initL_len n k hk
 refine walkO ?_
 refine AWP.cond rfl (fun h => ?_) (fun h => ?_)
 ·have hlt : k < n := by simpa using h
  refine walkO ?_
  refine Reg.o rfl (dstep_idxH (q := k) rfl rfl rfl hlt (by simp [intsR, hlenk])) ?_
  refine Reg.on rfl (dstep_stN rfl rfl rfl (by rw [Nat.zero_add]; exact intsR_get (by omega)) rfl (Nat.le_refl _) rfl) ?_
  refine walkO ?_
  refine ⟨k + 1, by omega, by omega, Sub.re [[(0, 0)], [(1, 0)], [(2, 0)]] rfl rfl rfl ⟨⟨⟨_, rfl, RenB.one (sz := 1) (xs := [.hsl 1 0 0 n]) ⟨.hsl _ _ _ _ _ _ rfl, trivial⟩⟩, trivial⟩, ⟨⟨_, rfl, RenB.rows (rows := (intsR (initL n k)).set (0 + k) [.sc (.int .i64 (-1))]) ?_ (pure_intsR _)⟩, trivial⟩,
   ⟨⟨_, rfl, X51.pure_schB n l⟩, trivial⟩, trivial⟩ ⟨.int rfl, .ptr _ _ _ _ _ _ rfl, .ptr _ _ _ _ _ _ rfl, .int rfl, .int hk1, trivial⟩⟩
  rw [Nat.zero_add, intsR_set, initL_set n k hlt]
 have hkn : k = n := by
  have : ¬ k < n := by simpa using h
  omega
 subst hkn
 refine walkO ?_
 refine Reg.o rfl (dstep_idxH (q := src) rfl rfl rfl hs (by simp [intsR, hlenk])) ?_
 refine Reg.on rfl (dstep_stN rfl rfl rfl (by rw [Nat.zero_add]; exact intsR_get (by omega)) rfl (Nat.le_refl _) rfl) ?_
 refine walkO ?_
 refine AWP.loop (σ := Nat × Int × List Int) (fun s => [(10, .ptr 3 0 0 0), (11, .ptr 0 0 0 0), (13, .ptr 2 0 0 0)]) (fun s => [[boxB k], [newsB s.2.2], [oneB (.int .i64 s.2.1)], [X51.schB k l]])
  (fun s => s.2.2.length = k ∧ 1 ≤ s.2.1 ∧ s.2.1 + s.1 = k + 3 ∧ newsGo k l (k + 2) 1 (news0 k src) = newsGo k l s.1 s.2.1 s.2.2 ∧ cnt s.2.2 + flg s.2.1 s.2.2 + 1 ≤ s.1 ∧ ∀ v ∈ s.2.2, v < s.2.1) (fun s => s.1) (k + 2, 1, news0 k src) ?_ ?_ ?_
 ·refine ⟨by simp [news0], by simp, by simp only; omega, rfl, ?_, fun v hv => ?_⟩
  ·have h1 : cnt (news0 k src) ≤ k := by
    unfold cnt
    exact Nat.le_trans (List.length_filter_le _ _) (by simp [news0])
   have h2 : flg 1 (news0 k src) ≤ 1 := by unfold flg; split <;> omega
   simp only
   omega
  ·rcases List.mem_or_eq_of_mem_set hv with h | h
   ·have := (List.mem_replicate.1 h).2; simp only; omega
   ·simp only; omega
 ·refine Sub.re [[(0, 0)], [(1, 0)], [(3, 0)], [(2, 0)]] rfl rfl rfl ⟨⟨⟨_, rfl, RenB.one (sz := 1) (xs := [.hsl 1 0 0 k]) ⟨.hsl _ _ _ _ _ _ rfl, trivial⟩⟩, trivial⟩, ⟨⟨_, rfl, RenB.rows (rows := (intsR (initL k k)).set (0 + src) [.sc (.int .i64 0)]) ?_ (pure_intsR _)⟩, trivial⟩,
   ⟨⟨_, rfl, RenB.one (sz := 1) (xs := [.sc (.int .i64 1)]) ⟨.sc _, trivial⟩⟩, trivial⟩, ⟨⟨_, rfl, X51.pure_schB k l⟩, trivial⟩, trivial⟩ ⟨.ptr _ _ _ _ _ _ rfl, .ptr _ _ _ _ _ _ rfl, .ptr _ _ _ _ _ _ rfl, trivial⟩
  rw [Nat.zero_add, intsR_set]
  simp [initL, news0]
 rintro ⟨f, r, out⟩ ⟨hlen, hr1, hrf, hgo, hcnt, hv⟩
 simp only at hlen hr1 hrf hgo hcnt hv
 refine walkO ?_
 refine Reg.c (by simp) rfl ((round_ok (X := [[X51.schB k l]]) hn1 hn ⟨hr1, by omega⟩ hg hlen).mono ?_)
 rintro res H' ⟨rfl, rfl⟩
 refine walkO ?_
 refine AWP.cond rfl (fun hsn => ?_) (fun hsn => ?_)
 ·have hsn' : sentN k l r out = false := by simpa using hsn
  have hstep : stepN k l r out = out := by
   rcases outI_same hsn' with h
   exact h
  have hf : ∃ f', f = f' + 1 := ⟨f - 1, by omega⟩
  obtain ⟨f', rfl⟩ := hf
  have hw : IntKind.i64.wrap (r - 1) = r - 1 := wrap_small (by omega) (by omega)
  refine walkO ?_
  refine DK.nil ⟨by kernel_rfl, ?_⟩
  refine walkO ?_
  refine fin_frz (R := fun res' _ => res' = newsV (newsR k src l)) (.inr rfl) (res := .tup [.hsl 1 0 0 k, .sc (.int .i64 (IntKind.i64.wrap (r - 1))), .sc (.int .i64 0)]) (res' := newsV (newsR k src l)) rfl ?_ (pure_newsV _) rfl
  have e : newsR k src l = (out, r - 1, 0) := by
   unfold newsR
   rw [if_pos hc, if_neg (by omega)]
   show ((newsGo k l (k + 2) 1 (news0 k src)).1, (newsGo k l (k + 2) 1 (news0 k src)).2, (0 : Int)) = _
   rw [hgo]
   unfold newsGo
   rw [if_neg (by rw [hsn']; decide)]
  rw [e, hw]
  refine Cong.tupL (l := [.hsl 1 0 0 k, .sc (.int .i64 (r - 1)), .sc (.int .i64 0)]) (m := [.list 1 (intsR out), .sc (.int .i64 (r - 1)), .sc (.int .i64 0)]) ⟨?_, .refl _, .refl _, trivial⟩
  have e2 : AV.list 1 (intsR out) = AV.list 1 (intsR (stepN k l r out)) := by rw [hstep]
  rw [e2]
  exact FzA.all rfl (by rw [hstep]; simp [intsR, hlen])
 ·have hsn' : sentN k l r out = true := by simpa using hsn
  have hf : ∃ f', f = f' + 1 := ⟨f - 1, by omega⟩
  obtain ⟨f', rfl⟩ := hf
  obtain ⟨h1, h3⟩ := next_less (n := k) (l := l) hr1 hv
  have h4 := flg_of_sent hsn'
  have hw : IntKind.i64.wrap (r + 1) = r + 1 := wrap_small (by omega) (by omega)
  refine walkO ?_
  refine ⟨(f', r + 1, stepN k l r out), ⟨?_, ?_, ?_, ?_, ?_, h3⟩, Nat.lt_succ_self _, ?_⟩
  ·show (outI _ _ _ _ _).length = _
   rw [outI_len, hlen]
  ·simp only; omega
  ·simp only; omega
  ·rw [hgo]
   conv => lhs; unfold newsGo
   rw [if_pos hsn']
  ·simp only; omega
  ·refine Sub.re [[(0, 0)], [(1, 0)], [(4, 0)], [(3, 0)]] rfl rfl rfl ⟨⟨⟨_, rfl, RenB.one (sz := 1) (xs := [.hsl 1 0 0 k]) ⟨.hsl _ _ _ _ _ _ rfl, trivial⟩⟩, trivial⟩, ⟨⟨_, rfl, RenB.rows (rows := intsR (stepN k l r out)) rfl (pure_intsR _)⟩, trivial⟩,
    ⟨⟨_, rfl, RenB.one (sz := 1) (xs := [.sc (.int .i64 (IntKind.i64.wrap (r + 1)))]) (ys := [.sc (.int .i64 (r + 1))]) ⟨.int hw, trivial⟩⟩, trivial⟩, ⟨⟨_, rfl, X51.pure_schB k l⟩, trivial⟩, trivial⟩ ⟨.ptr _ _ _ _ _ _ rfl, .ptr _ _ _ _ _ _ rfl, .ptr _ _ _ _ _ _ rfl, trivial⟩
theorem findC_take {l : List C} {i : Int} {k : Nat} (h : findC (l.take k) i = none) (hk : k < l.length) : findC l i = (if i = l[k].rank then some l[k] else findC (l.drop (k + 1)) i) ∧ findC (l.take (k + 1)) i = if i = l[k].rank then some l[k] else none := by
 unfold findC at h ⊢
 constructor
 ·conv => lhs; rw [← List.take_append_drop k l, List.drop_eq_getElem_cons hk]
  rw [List.find?_append, h, Option.none_or, List.find?_cons]
  by_cases e : i = l[k].rank
  ·rw [if_pos e, decide_eq_true e]
  ·rw [if_neg e, decide_eq_false e]
 ·rw [List.take_succ_eq_append_getElem hk, List.find?_append, h, Option.none_or, List.find?_cons]
  by_cases e : i = l[k].rank
  ·rw [if_pos e, decide_eq_true e]
  ·rw [if_neg e, decide_eq_false e]
   rfl
def reachB (l : List C) (i j : Nat) (r : Int) : Bool := match findC l i with
 | none => true
 | some c => if c.round = r then decide ((X51.place i j : Int) < c.sent) else decide (c.round > r)
def rSend (l : List C) (r : Int) (out : List Int) (k : Nat) : Bool := decide ((out[k]?).getD 0 = r - 1) && livesS l k (r - 1)
def rHear (l : List C) (r : Int) (out : List Int) (k j : Nat) : Bool := rSend l r out k && (decide (j ≠ k) && (decide ((out[j]?).getD 0 < 0) && (livesS l j r && reachB l k j r)))
def rNext (l : List C) (r : Int) (out : List Int) (k j : Nat) : Bool := (List.range k).any fun q => rHear l r out q j
def rAny (l : List C) (r : Int) (out : List Int) (k : Nat) : Bool := (List.range k).any fun q => rSend l r out q
def nextL (r : Int) (out : List Int) (p : Nat → Bool) : List Int := (List.range out.length).map fun j => if p j = true then r else (out[j]?).getD 0
def refStep (l : List C) (r : Int) (out : List Int) : List Int := nextL r out (rNext l r out out.length)
theorem nextL_len (r : Int) (out : List Int) (p : Nat → Bool) : (nextL r out p).length = out.length := by simp [nextL]
theorem reach_eq {n : Nat} {l : List C} {r : Int} {i j : Nat} (hi : i < n) (hj : j < n) (hne : j ≠ i) : decide ((X51.place i j : Int) < reachS n l i r) = reachB l i j r := by
 have hp : (X51.place i j : Int) < (n : Int) - 1 := by
  unfold X51.place
  split <;> omega
 unfold reachS reachB
 cases findC l i with
 | none => simp; exact hp
 | some c =>
  by_cases h1 : c.round > r
  ·have h2 : ¬ c.round = r := by omega
   simp [hp, h1, h2]
  ·by_cases h2 : c.round = r
   ·simp [h2]
   ·simp [h1, h2]
theorem send_eq (l : List C) (r : Int) (out : List Int) (q : Nat) (hq : q < out.length) : ((newsS r out q).isSome && livesS l q (r - 1)) = rSend l r out q := by
 unfold newsS rSend
 rw [List.getElem?_eq_getElem hq]
 by_cases e : out[q] = r - 1
 ·simp [e]
 ·simp [e]
theorem any_eq (l : List C) (r : Int) (out : List Int) : sentN out.length l r out = rAny l r out out.length := by
 unfold sentN X51.sent rAny
 rw [Bool.eq_iff_iff, List.any_eq_true, List.any_eq_true]
 constructor
 ·rintro ⟨q, hq, h⟩
  exact ⟨q, hq, by rw [← send_eq l r out q (List.mem_range.1 hq)]; exact h⟩
 ·rintro ⟨q, hq, h⟩
  exact ⟨q, hq, by rw [send_eq l r out q (List.mem_range.1 hq)]; exact h⟩
theorem newsT_get (r : Int) (out : List Int) (j : Nat) (F : List Nat) (k : Nat) : (newsT r out j F)[k]? = if k = j ∧ F ≠ [] ∧ (out[j]?).getD 0 < 0 then (if k < out.length then some r else none) else out[k]? := by
 unfold newsT
 by_cases hF : F = []
 ·rw [if_pos (.inr (.inr hF)), if_neg (by simp [hF])]
 ·by_cases hv : 0 ≤ (out[j]?).getD 0
  ·rw [if_pos (.inr (.inl hv)), if_neg (by omega)]
  ·by_cases hn : out[j]? = none
   ·exact absurd hv (by rw [hn]; simp)
   ·have hj : j < out.length := by
     rcases Nat.lt_or_ge j out.length with h | h
     ·exact h
     ·exact absurd (List.getElem?_eq_none h) hn
    rw [if_neg (by simp only [not_or]; exact ⟨hn, hv, hF⟩), List.getElem?_set]
    by_cases e : k = j
    ·subst e
     rw [if_pos rfl, if_pos hj, if_pos ⟨rfl, hF, by omega⟩]
    ·rw [if_neg (fun h => e h.symm), if_neg (fun h => e h.1)]
theorem outI_get (l : List C) (r : Int) (F : Nat → List Nat) (out : List Int) (j : Nat) (hj : j < out.length) : ∀ i, (outI l r F out i)[j]? = if j < i ∧ livesS l j r = true ∧ F j ≠ [] ∧ (out[j]?).getD 0 < 0 then some r else out[j]?
 | 0 => by rw [if_neg (by omega)]; rfl
 | i + 1 => by
  have ih := outI_get l r F out j hj i
  rw [outI_succ]
  by_cases e : j = i
  ·subst e
   rw [if_neg (by omega)] at ih
   by_cases hl : livesS l j r = true
   ·rw [if_pos hl, newsT_get, outI_len, ih, if_pos hj]
    by_cases hc : F j ≠ [] ∧ (out[j]?).getD 0 < 0
    ·rw [if_pos ⟨rfl, hc⟩, if_pos ⟨by omega, hl, hc⟩]
    ·rw [if_neg (fun h => hc h.2), if_neg (fun h => hc h.2.2)]
   ·rw [if_neg hl, ih, if_neg (fun h => hl h.2.1)]
  ·have key : (if livesS l i r = true then newsT r (outI l r F out i) i (F i) else outI l r F out i)[j]? = (outI l r F out i)[j]? := by
    split
    ·rw [newsT_get, if_neg (fun h => e h.1)]
    ·rfl
   rw [key, ih]
   have h2 : (j < i) ↔ (j < i + 1) := by omega
   simp only [h2]
theorem hear_eq {l : List C} {r : Int} {out : List Int} {j : Nat} (hj : j < out.length) (hneg : (out[j]?).getD 0 < 0) (hl : livesS l j r = true) : hearF out.length l r out j ≠ [] ↔ rNext l r out out.length j = true := by
 unfold hearF X51.from' rNext
 rw [Ne, List.filter_eq_nil_iff, List.any_eq_true]
 have key : ∀ q, q < out.length → X51.hears out.length l r (newsS r out) q j = rHear l r out q j := by
  intro q hq
  have h1 := send_eq l r out q hq
  unfold X51.hears rHear
  rw [← h1, Bool.and_assoc]
  by_cases e : j = q
  ·simp [e]
  ·have h2 := reach_eq (l := l) (r := r) hq hj e
   rw [h2]
   simp [hneg, hl]
 constructor
 ·intro h
  by_cases hh : ∃ q, q ∈ List.range out.length ∧ rHear l r out q j = true
  ·exact hh
  ·exfalso
   refine h fun q hq hx => hh ⟨q, hq, ?_⟩
   rw [← key q (List.mem_range.1 hq)]
   exact hx
 ·rintro ⟨q, hq, hx⟩ h
  refine h q hq ?_
  rw [key q (List.mem_range.1 hq)]
  exact hx
theorem rNext_imp {l : List C} {r : Int} {out : List Int} {k j : Nat} (h : rNext l r out k j = true) : (out[j]?).getD 0 < 0 ∧ livesS l j r = true := by
 unfold rNext at h
 rw [List.any_eq_true] at h
 obtain ⟨q, _, hq⟩ := h
 unfold rHear at hq
 simp only [Bool.and_eq_true] at hq
 exact ⟨of_decide_eq_true hq.2.2.1, hq.2.2.2.1⟩
theorem step_eq (l : List C) (r : Int) (out : List Int) : stepN out.length l r out = refStep l r out := by
 apply List.ext_getElem? fun j => ?_
 by_cases hj : j < out.length
 ·unfold stepN
  rw [outI_get l r _ out j hj]
  have e : (refStep l r out)[j]? = some (if rNext l r out out.length j = true then r else (out[j]?).getD 0) := by
   unfold refStep nextL
   simp [hj]
  rw [e]
  by_cases h : rNext l r out out.length j = true
  ·obtain ⟨h1, h2⟩ := rNext_imp h
   rw [if_pos h, if_pos ⟨hj, h2, (hear_eq hj h1 h2).2 h, h1⟩]
  ·rw [if_neg h, if_neg (fun hh => h ((hear_eq hj hh.2.2.2 hh.2.1).1 hh.2.2.1)), List.getElem?_eq_getElem hj]
   rfl
 ·rw [List.getElem?_eq_none (by rw [stepN, outI_len]; omega), List.getElem?_eq_none (by rw [refStep, nextL_len]; omega)]
theorem refStep_len (l : List C) (r : Int) (out : List Int) : (refStep l r out).length = out.length := nextL_len _ _ _
theorem news_ok (n src : Int) (l : List C) (hl : l.length ≤ 4000000) : CallOK Try.prog 19 [.sc (.int .i64 n), .sc (.int .i64 src), crV l] [] (fun res _ => res = newsV (newsR n src l)) := by
 by_cases h : checkS n l ≠ 0 ∨ (src < 0 ∨ src ≥ n)
 ·exact news_bad n src l (by omega) h
 ·have hc : checkS n l = 0 := by
   by_cases e : checkS n l = 0
   ·exact e
   ·exact absurd (.inl e) h
  have hs : ¬ (src < 0 ∨ src ≥ n) := fun e => h (.inr e)
  obtain ⟨k, rfl⟩ : ∃ k : Nat, n = k := ⟨n.toNat, by omega⟩
  obtain ⟨s, rfl⟩ : ∃ k : Nat, src = k := ⟨src.toNat, by omega⟩
  exact news_good k s l hl hc (by omega)
theorem three_pure (n k : Int) (l : List C) : ∀ a ∈ [AV.sc (.int .i64 n), .sc (.int .i64 k), crV l], Pure a := allPure_cons (.sc _) (allPure_cons (.sc _) (allPure_cons (pure_cr l) allPure_nil))
end Go.Proofs.Ytbpmbofinoinmaa
