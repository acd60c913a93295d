/- The shelf, of numbers alone: its structure in memory; Ints, still, fill, others, marked, each by its contract. -/
import Derived.Test.YtdddbjaggfaofaaPl
import Derived.Test.YtdddbjaggfaofaaGood
import Derived.Deep.RegionHeld3
import Derived.Deep.AppendLies
import Derived.Test.YtdddbjaggfaofaaSp
import Derived.LoopN

namespace Go.Proofs.Ytdddbjaggfaofaa.Mem
open Go.RowKit Go.Proofs.Ytdddbjaggfaofaa.GM Go.Proofs.YtdddbjaggfaofaaW.PrintWords
set_option linter.unusedVariables false

theorem own_nums' {W : World} {base : Nat} {v : Value} {xs : List Nat} (h : OwnN W base v xs) : W.ownsRow base 3 1 v (xs.map Int.ofNat).length (nums .i64 (xs.map Int.ofNat)) := by
  unfold OwnN at h
  unfold nums
  rw [List.length_map, List.map_map]
  exact h
theorem own_of_nums' {W : World} {base : Nat} {v : Value} {xs ys : List Nat} (h : W.ownsRow base 3 1 v (xs.map Int.ofNat ++ ys.map Int.ofNat).length (nums .i64 (xs.map Int.ofNat ++ ys.map Int.ofNat))) : OwnN W base v (xs ++ ys) := by
  unfold nums at h
  rw [← List.map_append, List.length_map, List.map_map] at h
  exact h
theorem rn_reads' {W : World} {A : Option Addr} {n : Nat} {xs : List Nat} (h : RN W A n xs) : ReadsInt W .i64 A n (xs.map Int.ofNat) := by
  refine ⟨by rw [List.length_map]; exact h.1.symm, h.2.1, fun h0 => ?_⟩
  have hl := h.1
  obtain ⟨ad, e, _⟩ := h.2.2 0 (by omega)
  refine ⟨ad, e, fun j hj => ?_⟩
  obtain ⟨ad', e', hc⟩ := h.2.2 j (by omega)
  rw [e] at e'
  cases e'
  rw [hc, List.getD_eq_getElem?_getD, List.getElem?_map, List.getElem?_eq_getElem (by omega)]
  rfl

set_option maxHeartbeats 1000000 in
set_option maxRecDepth 100000 in
theorem mark_calls (n : Nat) (w : World) (hn : n ≤ 1000000000) :
    Calls Try.prog 80 #[.int .i64 (n : Int)] w fun e w' => e = .returned (.int .i64 (-7777 - (n : Int))) ∧ w' = w := by
  go_enter Try.func80, Try.ntmps80
  go_wp2_with fail
  go_ret
  exact ⟨rfl, rfl⟩

set_option maxHeartbeats 1000000 in
set_option maxRecDepth 100000 in
theorem copyInts_calls (xs : List Nat) (A : Option Addr) (n c : Nat) (w : World) (hx : RN w A n xs) (hn : n ≤ 1000000000) :
    Calls Try.prog 59 #[.slice A n c] w fun e w' => ∃ B d, e = .returned (.slice B xs.length d) ∧ OwnN w' w.heap.size (.slice B xs.length d) xs ∧ Below w.heap.size w w' := by
  have HX := Aside0.mk hx
  have hxl := hx.1
  clear hx
  go_enter Try.func59, Try.ntmps59
  have hlit : OwnN (w.alloc (.cells #[] 3)) w.heap.size (.slice (some ⟨w.heap.size, 0, none⟩) 0 0) [] := World.ownsRow_lit (base := w.heap.size) (e := 3) (size := 1) w #[] 0 (Nat.le_refl _) (by decide) rfl
  have HL := Aside0.mk hlit
  have HB := Aside0.mk ((Below.refl w.heap.size w).alloc (Nat.le_refl _) (.cells #[] 3))
  have HXA := Aside0.mk (HX.out.below ((Below.refl w.heap.size w).alloc (Nat.le_refl _) (.cells #[] 3)))
  clear hlit
  go_wp2_with (at_builtin; refine print_append_row (w0 := w) (W := w.alloc (.cells #[] 3)) w.heap.size rfl (.tmp 3) (.tmp 4) 33 3 .i64 8 rfl Try.underlying33 info3 (by decide) (.slice (some ⟨w.heap.size, 0, none⟩) 0 0) (([] : List Nat).map Int.ofNat) (xs.map Int.ofNat) A n c rfl rfl ?aO ?aR ?aB ?aS ?aL ?_; (case aO => exact own_nums' HL.out); (case aR => exact rn_reads' HXA.out); (case aB => exact HB.out); (case aS => exact HB.out.size); (case aL => simp only [List.map_nil, List.length_nil]; omega); intro v2 w4 ho hb hg hat; have ho2 := own_of_nums' ho; rw [List.nil_append] at ho2; obtain ⟨A6, c6, he⟩ := own_slice ho2; subst he; have HO := Aside0.mk ho2; have HB2 := Aside0.mk hb; clear hb hg hat ho ho2)
  go_ret
  exact ⟨A6, c6, rfl, HO.out, HB2.out⟩

/-- Rows of whole numbers, each in a block of its own. -/
structure ZR (w : World) (base : Nat) (v : Value) (vals : List Value) (R : List (List Int)) : Prop where
  outer : w.ownsRow base 33 1 v vals.length vals
  len : vals.length = R.length
  inner : ∀ (i : Nat) (x : Value) (zs : List Int), vals[i]? = some x → R[i]? = some zs → OwnZ w base x zs
  apart : ∀ (i j : Nat) (x y : Value) (b : Nat), i ≠ j → vals[i]? = some x → vals[j]? = some y → x.ownBlock = some b → y.ownBlock ≠ some b

theorem ZR.nil (w : World) (base : Nat) : ZR w base (.slice none 0 0) [] [] :=
  ⟨World.ownsRow_nil _ _ _ _, rfl, fun i x zs h => by simp at h, fun i j x y b _ h => by simp at h⟩
theorem ZR.below {w w1 : World} {base : Nat} {v : Value} {vals : List Value} {R : List (List Int)} (h : ZR w base v vals R) (hb : Below w.heap.size w w1) : ZR w1 base v vals R :=
  ⟨own_below h.outer hb, h.len, fun i x zs hx hz => own_below (h.inner i x zs hx hz) hb, h.apart⟩
theorem ZR.get {w : World} {base : Nat} {v : Value} {vals : List Value} {R : List (List Int)} (h : ZR w base v vals R) {i : Nat} {x : Value} (hx : vals[i]? = some x) : ∃ zs, R[i]? = some zs ∧ OwnZ w base x zs := by
  have hi : i < R.length := by have := (List.getElem?_eq_some_iff.1 hx).1; have := h.len; omega
  exact ⟨R[i], List.getElem?_eq_getElem hi, h.inner i x _ hx (List.getElem?_eq_getElem hi)⟩
/-- An inner row's block is not the outer one's. -/
theorem ZR.ne_outer {w : World} {base : Nat} {v x : Value} {vals : List Value} {R : List (List Int)} (h : ZR w base v vals R) {i : Nat} (hx : vals[i]? = some x) {b : Nat} (hb : x.ownBlock = some b) : v.ownBlock ≠ some b := by
  obtain ⟨zs, _, ho⟩ := h.get hx
  intro e
  obtain ⟨cs, hc⟩ := own_typed ho b hb
  obtain ⟨cs', hc'⟩ := own_typed h.outer b e
  exact tys_ne hc hc' (by decide) rfl
theorem ZR.push {w w1 : World} {base : Nat} {v v1 x : Value} {vals : List Value} {R : List (List Int)} {r : List Int} (h : ZR w base v vals R) (hg : w.grownBy w1 v.ownBlock) (ho : w1.ownsRow base 33 1 v1 (vals ++ [x]).length (vals ++ [x]))
    (hx : OwnZ w base x r) (hap : ∀ (i : Nat) (y : Value) (b : Nat), vals[i]? = some y → y.ownBlock = some b → x.ownBlock ≠ some b) : ZR w1 base v1 (vals ++ [x]) (R ++ [r]) := by
  have hl := h.len
  have hmove : ∀ (y : Value) (zs : List Int), OwnZ w base y zs → OwnZ w1 base y zs := fun y zs hy => own_grown hy hg (fun b hb e => by
    obtain ⟨cs, hc⟩ := own_typed hy b hb
    obtain ⟨cs', hc'⟩ := own_typed h.outer b e
    exact tys_ne hc hc' (by decide) rfl)
  have hlast : ∀ (i : Nat) (y : Value), (vals ++ [x])[i]? = some y → vals[i]? = some y ∨ (i = vals.length ∧ y = x) := fun i y hy => by
    rcases Nat.lt_or_ge i vals.length with c | c
    · rw [List.getElem?_append_left c] at hy; exact .inl hy
    · have : i = vals.length := by have := (List.getElem?_eq_some_iff.1 hy).1; simp at this; omega
      subst this
      rw [List.getElem?_append_right (Nat.le_refl _), Nat.sub_self] at hy
      exact .inr ⟨rfl, by simpa using hy.symm⟩
  refine ⟨ho, by simp [hl], fun i y zs hy hz => ?_, fun i j y z b hij hy hz hb => ?_⟩
  · rcases hlast i y hy with h1 | ⟨h1, h2⟩
    · have hi := (List.getElem?_eq_some_iff.1 h1).1
      rw [List.getElem?_append_left (by omega)] at hz
      exact hmove _ _ (h.inner i y zs h1 hz)
    · subst h1 h2
      rw [hl, List.getElem?_append_right (Nat.le_refl _), Nat.sub_self] at hz
      have : zs = r := by simpa using hz.symm
      rw [this]
      exact hmove _ _ hx
  · rcases hlast i y hy with h1 | ⟨h1, h2⟩
    · rcases hlast j z hz with k1 | ⟨k1, k2⟩
      · exact h.apart i j y z b hij h1 k1 hb
      · rw [k2]; exact hap i y b h1 hb
    · rcases hlast j z hz with k1 | ⟨k1, k2⟩
      · intro e
        rw [h2] at hb
        exact hap j z b k1 e hb
      · omega

/-- A row has been written where it lies. -/
theorem ZR.inplace {w w1 : World} {base i : Nat} {v x : Value} {vals : List Value} {R : List (List Int)} {zs : List Int} (h : ZR w base v vals R) (hx : vals[i]? = some x) (hg : w.grownBy w1 x.ownBlock) (ho : OwnZ w1 base x zs) : ZR w1 base v vals (R.set i zs) := by
  have hi : i < R.length := by have := (List.getElem?_eq_some_iff.1 hx).1; have := h.len; omega
  refine ⟨own_grown h.outer hg (fun b hb e => h.ne_outer hx e hb), by rw [List.length_set]; exact h.len, fun j y zs' hy hz => ?_, h.apart⟩
  rw [List.getElem?_set] at hz
  by_cases e : i = j
  · subst e
    rw [if_pos rfl, if_pos hi] at hz
    cases hz
    rw [hx] at hy
    cases hy
    exact ho
  · rw [if_neg e] at hz
    exact own_grown (h.inner j y zs' hy hz) hg (fun b hb e2 => h.apart i j x y b e hx hy e2 hb)
/-- What lies elsewhere stands. -/
theorem ZR.grown {w w1 : World} {base : Nat} {v : Value} {vals : List Value} {R : List (List Int)} (h : ZR w base v vals R) {row : Option Nat} (hg : w.grownBy w1 row) (h0 : ∀ b, v.ownBlock = some b → row ≠ some b) (h1 : ∀ (i : Nat) (y : Value) (b : Nat), vals[i]? = some y → y.ownBlock = some b → row ≠ some b) : ZR w1 base v vals R :=
  ⟨own_grown h.outer hg h0, h.len, fun i x zs hx hz => own_grown (h.inner i x zs hx hz) hg (fun b hb => h1 i x b hx hb), h.apart⟩

theorem ZR.lt {w : World} {base : Nat} {v x : Value} {vals : List Value} {R : List (List Int)} (h : ZR w base v vals R) : (∀ b, v.ownBlock = some b → b < w.heap.size ∧ base ≤ b ∧ ∃ cs, w.heap[b]? = some (.cells cs 33 (0, 0))) ∧
    ∀ (i : Nat) (x : Value) (b : Nat), vals[i]? = some x → x.ownBlock = some b → b < w.heap.size ∧ base ≤ b ∧ ∃ cs, w.heap[b]? = some (.cells cs 3 (0, 0)) := by
  refine ⟨fun b hb => ?_, fun i x b hx hb => ?_⟩
  · obtain ⟨cs, h1, h2, h3⟩ := own_blk_lt h.outer hb
    exact ⟨h2, h3, cs, h1⟩
  · obtain ⟨zs, _, ho⟩ := h.get hx
    obtain ⟨cs, h1, h2, h3⟩ := own_blk_lt ho hb
    exact ⟨h2, h3, cs, h1⟩
theorem ZR.move {w w1 : World} {base : Nat} {v : Value} {vals : List Value} {R : List (List Int)} (h : ZR w base v vals R) (h0 : ∀ b, v.ownBlock = some b → w1.heap[b]? = w.heap[b]?)
    (h1 : ∀ (i : Nat) (y : Value) (b : Nat), vals[i]? = some y → y.ownBlock = some b → w1.heap[b]? = w.heap[b]?) : ZR w1 base v vals R :=
  ⟨own_move h.outer h0, h.len, fun i x zs hx hz => own_move (h.inner i x zs hx hz) (fun b hb => h1 i x b hx hb), h.apart⟩
theorem ZR.set_far {w : World} {base s j : Nat} {v u : Value} {vals : List Value} {R : List (List Int)} (h : ZR w base v vals R) {cs : Array Value} {t : TypeId} (hs : w.heap[s]? = some (.cells cs t (0, 0))) (ht : t ≠ 33) (ht3 : t ≠ 3) : ZR (w.setCell ⟨s, j, none⟩ u) base v vals R := by
  have hl := h.lt (x := v)
  refine h.move (fun b hb => Below.heap_setCell _ _ _ _ (fun e => ?_)) (fun i y b hy hb => Below.heap_setCell _ _ _ _ (fun e => ?_))
  · obtain ⟨_, _, cs', hc⟩ := hl.1 b hb
    exact tys_ne hs hc ht e.symm
  · obtain ⟨_, _, cs', hc⟩ := hl.2 i y b hy hb
    exact tys_ne hs hc ht3 e.symm

/-- A slice that has been appended to lies where it lay, or in a new block. -/
def NewAt (v v1 : Value) (n : Nat) : Prop := v1.ownBlock = v.ownBlock ∨ ∃ b, v1.ownBlock = some b ∧ n ≤ b

/-- Two rows of rows that share nothing. -/
structure SZ (W : World) (base : Nat) (v6 v7 : Value) (l6 l7 : List Value) (H C : List (List Int)) : Prop where
  z6 : ZR W base v6 l6 H
  z7 : ZR W base v7 l7 C
  dis : ∀ (i j : Nat) (x y : Value) (b : Nat), l6[i]? = some x → l7[j]? = some y → x.ownBlock = some b → y.ownBlock ≠ some b
  out : ∀ b, v6.ownBlock = some b → v7.ownBlock ≠ some b

theorem SZ.swap {W : World} {base : Nat} {v6 v7 : Value} {l6 l7 : List Value} {H C : List (List Int)} (h : SZ W base v6 v7 l6 l7 H C) : SZ W base v7 v6 l7 l6 C H :=
  ⟨h.z7, h.z6, fun i j x y b hx hy hb e => h.dis j i y x b hy hx e hb, fun b hb e => h.out b e hb⟩
theorem SZ.below {W W1 : World} {base : Nat} {v6 v7 : Value} {l6 l7 : List Value} {H C : List (List Int)} (h : SZ W base v6 v7 l6 l7 H C) (hb : Below W.heap.size W W1) : SZ W1 base v6 v7 l6 l7 H C :=
  ⟨h.z6.below hb, h.z7.below hb, h.dis, h.out⟩
theorem SZ.set_far {w : World} {base s j : Nat} {v6 v7 u : Value} {l6 l7 : List Value} {H C : List (List Int)} (h : SZ w base v6 v7 l6 l7 H C) {cs : Array Value} {t : TypeId} (hs : w.heap[s]? = some (.cells cs t (0, 0))) (ht : t ≠ 33) (ht3 : t ≠ 3) : SZ (w.setCell ⟨s, j, none⟩ u) base v6 v7 l6 l7 H C :=
  ⟨h.z6.set_far hs ht ht3, h.z7.set_far hs ht ht3, h.dis, h.out⟩
/-- A row more on the first. -/
theorem SZ.push {w w1 : World} {base : Nat} {v6 v7 v1 x : Value} {l6 l7 : List Value} {H C : List (List Int)} {r : List Int} (h : SZ w base v6 v7 l6 l7 H C) (hg : w.grownBy w1 v6.ownBlock) (ho : w1.ownsRow base 33 1 v1 (l6 ++ [x]).length (l6 ++ [x]))
    (hat : NewAt v6 v1 w.heap.size) (hx : OwnZ w base x r) (hap : ∀ (i : Nat) (y : Value) (b : Nat), l6[i]? = some y → y.ownBlock = some b → x.ownBlock ≠ some b) (hap7 : ∀ (i : Nat) (y : Value) (b : Nat), l7[i]? = some y → y.ownBlock = some b → x.ownBlock ≠ some b) :
    SZ w1 base v1 v7 (l6 ++ [x]) l7 (H ++ [r]) C := by
  have hl7 := h.z7.lt (x := x)
  refine ⟨h.z6.push hg ho hx hap, h.z7.grown hg (fun b hb e => h.out b e hb) (fun i y b hy hb e => ?_), fun i j y z b hy hz hb => ?_, fun b hb e => ?_⟩
  · obtain ⟨_, _, cs', hc⟩ := hl7.2 i y b hy hb
    obtain ⟨_, _, cs, hc0⟩ := (h.z6.lt (x := x)).1 b e
    exact tys_ne hc0 hc (by decide) rfl
  · rcases Nat.lt_or_ge i l6.length with c | c
    · rw [List.getElem?_append_left c] at hy
      exact h.dis i j y z b hy hz hb
    · have : i = l6.length := by have := (List.getElem?_eq_some_iff.1 hy).1; simp at this; omega
      subst this
      rw [List.getElem?_append_right (Nat.le_refl _), Nat.sub_self] at hy
      have : y = x := by simpa using hy.symm
      subst this
      intro e
      exact hap7 j z b hz e hb
  · rcases hat with h1 | ⟨b', h1, h2⟩
    · rw [h1] at hb
      exact h.out b hb e
    · rw [h1] at hb
      injection hb with hb
      have := (hl7.1 b e).1
      omega

/-- The shelf's own cells: of its twelve lists only those of numbers hold anything. -/
def shelfCells (v6 v7 : Value) : Array Value := #[.slice none 0 0, .slice none 0 0, .slice none 0 0, .slice none 0 0, .slice none 0 0, .slice none 0 0, v6, v7, .slice none 0 0, .slice none 0 0, .slice none 0 0, .slice none 0 0]

/-- A shelf at block s: what it holds (H), and the copies (C). -/
structure SH (W : World) (base s : Nat) (v6 v7 : Value) (l6 l7 : List Value) (H C : List (List Int)) : Prop where
  cell : W.heap[s]? = some (.cells (shelfCells v6 v7) 68 (0, 0))
  sz : SZ W base v6 v7 l6 l7 H C
  lo : base ≤ s

theorem SH.at_ {W : World} {base s : Nat} {v6 v7 : Value} {l6 l7 : List Value} {H C : List (List Int)} (h : SH W base s v6 v7 l6 l7 H C) : W.cell? ⟨s, 6, none⟩ = some v6 ∧ W.cell? ⟨s, 7, none⟩ = some v7 ∧ W.frozen? ⟨s, 6, none⟩ = false ∧ W.frozen? ⟨s, 7, none⟩ = false := by
  refine ⟨?_, ?_, ?_, ?_⟩ <;> simp [World.cell?, World.frozen?, h.cell, shelfCells]
theorem SH.nils {W : World} {base s : Nat} {v6 v7 : Value} {l6 l7 : List Value} {H C : List (List Int)} (h : SH W base s v6 v7 l6 l7 H C) :
    W.cell? ⟨s, 0, none⟩ = some (.slice none 0 0) ∧ W.cell? ⟨s, 1, none⟩ = some (.slice none 0 0) ∧ W.cell? ⟨s, 2, none⟩ = some (.slice none 0 0) ∧ W.cell? ⟨s, 3, none⟩ = some (.slice none 0 0) ∧ W.cell? ⟨s, 4, none⟩ = some (.slice none 0 0) ∧ W.cell? ⟨s, 5, none⟩ = some (.slice none 0 0) ∧
    W.cell? ⟨s, 8, none⟩ = some (.slice none 0 0) ∧ W.cell? ⟨s, 9, none⟩ = some (.slice none 0 0) ∧ W.cell? ⟨s, 10, none⟩ = some (.slice none 0 0) ∧ W.cell? ⟨s, 11, none⟩ = some (.slice none 0 0) := by
  refine ⟨?_, ?_, ?_, ?_, ?_, ?_, ?_, ?_, ?_, ?_⟩ <;> simp [World.cell?, h.cell, shelfCells]
theorem SH.below {W W1 : World} {base s : Nat} {v6 v7 : Value} {l6 l7 : List Value} {H C : List (List Int)} (h : SH W base s v6 v7 l6 l7 H C) (hb : Below W.heap.size W W1) : SH W1 base s v6 v7 l6 l7 H C :=
  ⟨(hb.block s (Array.getElem?_eq_some_iff.1 h.cell).1).trans h.cell, h.sz.below hb, h.lo⟩
theorem SH.drawn {W : World} {base s : Nat} {v6 v7 : Value} {l6 l7 : List Value} {H C : List (List Int)} (h : SH W base s v6 v7 l6 l7 H C) (q : Nat) : SH (W.drewN q) base s v6 v7 l6 l7 H C := h.below (pw_below_drewN (Below.refl _ _) _)

theorem heap_set (w : World) (s j : Nat) (u : Value) {cs : Array Value} {t : TypeId} (h : w.heap[s]? = some (.cells cs t (0, 0))) : (w.setCell ⟨s, j, none⟩ u).heap[s]? = some (.cells (cs.setIfInBounds j u) t (0, 0)) := by
  simp [World.setCell, Array.getElem?_modify, h]

/-- A row has been put on the shelf: held. -/
theorem SH.push6 {w w1 : World} {base s : Nat} {v6 v7 v1 x : Value} {l6 l7 : List Value} {H C : List (List Int)} {r : List Int} (h : SH w base s v6 v7 l6 l7 H C) (hg : w.grownBy w1 v6.ownBlock) (ho : w1.ownsRow base 33 1 v1 (l6 ++ [x]).length (l6 ++ [x]))
    (hat : NewAt v6 v1 w.heap.size) (hx : OwnZ w base x r) (hap : ∀ (i : Nat) (y : Value) (b : Nat), l6[i]? = some y → y.ownBlock = some b → x.ownBlock ≠ some b) (hap7 : ∀ (i : Nat) (y : Value) (b : Nat), l7[i]? = some y → y.ownBlock = some b → x.ownBlock ≠ some b) :
    SH (w1.setCell ⟨s, 6, none⟩ v1) base s v1 v7 (l6 ++ [x]) l7 (H ++ [r]) C := by
  have hs : w1.heap[s]? = some (.cells (shelfCells v6 v7) 68 (0, 0)) := (hg.block s (Array.getElem?_eq_some_iff.1 h.cell).1 (fun e => by
    obtain ⟨_, _, cs, hc⟩ := (h.sz.z6.lt (x := x)).1 s e.symm
    exact tys_ne h.cell hc (by decide) rfl)).trans h.cell
  exact ⟨by rw [heap_set _ _ _ _ hs]; rfl, (h.sz.push hg ho hat hx hap hap7).set_far hs (by decide) (by decide), h.lo⟩
/-- A copy has been put on the shelf. -/
theorem SH.push7 {w w1 : World} {base s : Nat} {v6 v7 v1 x : Value} {l6 l7 : List Value} {H C : List (List Int)} {r : List Int} (h : SH w base s v6 v7 l6 l7 H C) (hg : w.grownBy w1 v7.ownBlock) (ho : w1.ownsRow base 33 1 v1 (l7 ++ [x]).length (l7 ++ [x]))
    (hat : NewAt v7 v1 w.heap.size) (hx : OwnZ w base x r) (hap : ∀ (i : Nat) (y : Value) (b : Nat), l7[i]? = some y → y.ownBlock = some b → x.ownBlock ≠ some b) (hap6 : ∀ (i : Nat) (y : Value) (b : Nat), l6[i]? = some y → y.ownBlock = some b → x.ownBlock ≠ some b) :
    SH (w1.setCell ⟨s, 7, none⟩ v1) base s v6 v1 l6 (l7 ++ [x]) H (C ++ [r]) := by
  have hs : w1.heap[s]? = some (.cells (shelfCells v6 v7) 68 (0, 0)) := (hg.block s (Array.getElem?_eq_some_iff.1 h.cell).1 (fun e => by
    obtain ⟨_, _, cs, hc⟩ := (h.sz.z7.lt (x := x)).1 s e.symm
    exact tys_ne h.cell hc (by decide) rfl)).trans h.cell
  exact ⟨by rw [heap_set _ _ _ _ hs]; rfl, ((h.sz.swap.push hg ho hat hx hap hap6).set_far hs (by decide) (by decide)).swap, h.lo⟩

/-- Where the shelf's rows lie. -/
structure Uses (U : Nat → Prop) (v6 v7 : Value) (l6 l7 : List Value) : Prop where
  u6 : ∀ b, v6.ownBlock = some b → U b
  u7 : ∀ b, v7.ownBlock = some b → U b
  i6 : ∀ (i : Nat) (x : Value) (b : Nat), l6[i]? = some x → x.ownBlock = some b → U b
  i7 : ∀ (i : Nat) (x : Value) (b : Nat), l7[i]? = some x → x.ownBlock = some b → U b

theorem Uses.more {U V : Nat → Prop} {v6 v7 : Value} {l6 l7 : List Value} (h : Uses U v6 v7 l6 l7) (hv : ∀ b, U b → V b) : Uses V v6 v7 l6 l7 :=
  ⟨fun b hb => hv b (h.u6 b hb), fun b hb => hv b (h.u7 b hb), fun i x b hx hb => hv b (h.i6 i x b hx hb), fun i x b hx hb => hv b (h.i7 i x b hx hb)⟩
theorem SH.uses {W : World} {base s : Nat} {v6 v7 : Value} {l6 l7 : List Value} {H C : List (List Int)} (h : SH W base s v6 v7 l6 l7 H C) : Uses (fun b => b < W.heap.size) v6 v7 l6 l7 :=
  ⟨fun b hb => ((h.sz.z6.lt (x := v6)).1 b hb).1, fun b hb => ((h.sz.z7.lt (x := v6)).1 b hb).1, fun i x b hx hb => ((h.sz.z6.lt (x := v6)).2 i x b hx hb).1, fun i x b hx hb => ((h.sz.z7.lt (x := v6)).2 i x b hx hb).1⟩

end Go.Proofs.Ytdddbjaggfaofaa.Mem

namespace Go.Proofs.Ytdddbjaggfaofaa.Mem
open Go.RowKit Go.Proofs.Ytdddbjaggfaofaa.GM Go.Proofs.YtdddbjaggfaofaaW.PrintWords
set_option linter.unusedVariables false

def IntsPost (base s : Nat) (v6 v7 x : Value) (l6 l7 : List Value) (H C : List (List Int)) (r : List Int) (w : World) (e : Ending) (w' : World) : Prop :=
  e = .returned (.tuple #[]) ∧ ∃ v6' v7' y, SH w' base s v6' v7' (l6 ++ [x]) (l7 ++ [y]) (H ++ [r]) (C ++ [r]) ∧ Fr w w' (fun k => k = s ∨ v6.ownBlock = some k ∨ v7.ownBlock = some k) ∧
    NewAt v6 v6' w.heap.size ∧ NewAt v7 v7' w.heap.size ∧ ∀ b, y.ownBlock = some b → w.heap.size ≤ b

theorem Fr.less {w w1 : World} {p q : Nat → Prop} (h : Fr w w1 p) (hp : ∀ k, p k → q k) : Fr w w1 q := ⟨h.os, h.tape, h.output, h.size, fun k hk hn => h.block k hk (fun e => hn (hp k e))⟩
theorem fr_below {w w1 : World} {p : Nat → Prop} (h : Below w.heap.size w w1) : Fr w w1 p := ⟨h.os, h.tape, h.output, h.size, fun k hk _ => h.block k hk⟩
theorem fr_set (w : World) (s j : Nat) (u : Value) : Fr w (w.setCell ⟨s, j, none⟩ u) (fun k => k = s) := ⟨rfl, rfl, rfl, by simp [World.setCell], fun k _ hn => Below.heap_setCell _ _ _ _ hn⟩

theorem ownZ_some {w : World} {base n c : Nat} {A : Option Addr} {xs : List Nat} (h : OwnN w base (.slice A n c) xs) : n = xs.length := by
  obtain ⟨A', c', e⟩ := own_slice h
  injection e

/-- Behind Ints: all together. -/
theorem ints_done {base s n c gg cap d k6 c6 : Nat} {v6 v7 : Value} {l6 l7 : List Value} {H C : List (List Int)} {A A6 B : Option Addr} {xs : List Nat} {w w5 w6 w7 : World} {cs : Array Value}
    (hs : SH w5 base s (.slice A6 k6 c6) v7 (l6 ++ [.slice A n c]) l7 (H ++ [xs.map Int.ofNat]) C) (hf : Fr w w5 (fun k => k = s ∨ v6.ownBlock = some k)) (hat6 : NewAt v6 (.slice A6 k6 c6) w.heap.size)
    (hb : Below w5.heap.size w5 w6) (ho : OwnN w6 w5.heap.size (.slice B xs.length d) xs)
    (h1 : w7.ownsRow base 33 1 (.slice (some ⟨gg, 0, none⟩) (l7.length + 1) cap) (l7.length + 1) (l7 ++ [.slice B xs.length d])) (h2 : (w6.alloc (.cells cs 33)).grownBy w7 v7.ownBlock) (h3 : v7.ownBlock = some gg ∨ gg = w6.heap.size + 1) :
    IntsPost base s v6 v7 (.slice A n c) l6 l7 H C (xs.map Int.ofNat) w (.returned (.tuple #[])) (w7.setCell ⟨s, 7, none⟩ (.slice (some ⟨gg, 0, none⟩) (l7.length + 1) cap)) := by
  have h6 := hs.below hb
  have hsl : base ≤ w5.heap.size := by have := hs.lo; have := (Array.getElem?_eq_some_iff.1 hs.cell).1; omega
  have hg : w6.grownBy w7 v7.ownBlock := World.grownBy.trans (World.grownBy_alloc w6 _ _) h2
  have hat : NewAt v7 (.slice (some ⟨gg, 0, none⟩) (l7.length + 1) cap) w6.heap.size := by
    rcases h3 with h3 | h3
    · exact .inl h3.symm
    · exact .inr ⟨gg, rfl, by omega⟩
  have hnew : ∀ b, (Value.slice B xs.length d).ownBlock = some b → w5.heap.size ≤ b := fun b hb => own_base ho b hb
  have hu := hs.uses
  have hp := h6.push7 hg (by simpa using h1) hat (OwnZ.of (own_less ho hsl)) (fun i y b hy hb e => by have := hu.i7 i y b hy hb; have := hnew b e; omega) (fun i y b hy hb e => by have := hu.i6 i y b hy hb; have := hnew b e; omega)
  refine ⟨rfl, _, _, _, hp, ?_, hat6, ?_, fun b hb => Nat.le_trans hf.size (hnew b hb)⟩
  · refine (hf.less ?_).trans ((fr_below hb).trans ((Fr.of_grown hg ?_).trans ((fr_set w7 s 7 _).less ?_) (fun _ _ h => h)) (fun _ _ h => h)) (fun _ _ h => h)
    · rintro k (h | h)
      · exact .inl h
      · exact .inr (.inl h)
    · exact fun k hk => .inr (.inr hk)
    · exact fun k hk => .inl hk
  · rcases hat with h | ⟨b, h, hle⟩
    · exact .inl h
    · exact .inr ⟨b, h, Nat.le_trans (Nat.le_trans hf.size hb.size) hle⟩

set_option maxHeartbeats 4000000 in
set_option maxRecDepth 100000 in
theorem ints_calls (base s n c bl : Nat) (v6 v7 : Value) (l6 l7 : List Value) (H C : List (List Int)) (A : Option Addr) (xs : List Nat) (w : World) (h : SH w base s v6 v7 l6 l7 H C) (hx : OwnN w bl (.slice A n c) xs) (hb : base ≤ bl)
    (hn : n ≤ 1000000000) (hl : l6.length ≤ 1000000000) (hl7 : l7.length ≤ 1000000000) (U : Nat → Prop) (hU : Uses U v6 v7 l6 l7) (hu : ∀ b, (Value.slice A n c).ownBlock = some b → ¬ U b) :
    Calls Try.prog 38 #[.pointer (some ⟨s, 0, none⟩), .slice A n c] w fun e w' => IntsPost base s v6 v7 (.slice A n c) l6 l7 H C (xs.map Int.ofNat) w e w' := by
  have HS := Aside0.mk h
  have HX := Aside0.mk (OwnZ.of (own_less hx hb))
  have HXN := Aside0.mk hx
  have HUU := Aside0.mk (And.intro hU hu)
  have hslt : s < w.heap.size := (Array.getElem?_eq_some_iff.1 h.cell).1
  have hbl : base ≤ w.heap.size := by have := h.lo; omega
  obtain ⟨f6, f7, z6, z7⟩ := h.at_
  have HBS := Aside0.mk (show ∀ b, v6.ownBlock = some b → b < w.heap.size ∧ b ≠ s from fun b hb => by
    obtain ⟨h1, _, cs, hc⟩ := (h.sz.z6.lt (x := v6)).1 b hb
    exact ⟨h1, fun e => tys_ne h.cell hc (by decide) e.symm⟩)
  clear h hx hU hu
  go_enter Try.func38, Try.ntmps38
  go_wp2_with (at_builtin; refine print_append (w0 := w) (W := w) base rfl (.tmp 8) (.tmp 10) 45 33 (.slice none 0 0) 24 rfl Try.underlying45 info33 rfl (by decide) v6 l6 (.slice A n c) rfl rfl rfl ?aO ?aB ?aS ?aL ?_; (case aO => exact HS.out.sz.z6.outer); (case aB => exact Below.refl _ _); (case aS => exact hbl); (case aL => omega); intro v2 w4 ho hb hg hat; obtain ⟨A6, c6, he⟩ := own_slice ho; have hv2 : ∃ k6, k6 = (l6 ++ [Value.slice A n c]).length := ⟨_, rfl⟩; obtain ⟨k6, hk6⟩ := hv2; rw [← hk6] at he; subst he; have HK6 := Aside0.mk hk6; clear hk6; have HO := Aside0.mk (And.intro ho (And.intro hg hat)); have f6' : w4.cell? ⟨s, 6, none⟩ = some v6 := (World.cell?_of_block (hg.block s hslt (fun e => (HBS.out s e.symm).2 rfl))).trans f6; have z6' : w4.frozen? ⟨s, 6, none⟩ = false := (World.frozen?_of_block (hg.block s hslt (fun e => (HBS.out s e.symm).2 rfl))).trans z6; clear hb hg hat ho)
  obtain ⟨w5, hw5, HI⟩ := ex_world (p := fun W => SH W base s (.slice A6 k6 c6) v7 (l6 ++ [.slice A n c]) l7 (H ++ [xs.map Int.ofNat]) C ∧ Fr w W (fun k => k = s ∨ v6.ownBlock = some k) ∧ RN W A n xs) (W := w4.setCell ⟨s, 6, none⟩ (.slice A6 k6 c6)) (by
    obtain ⟨ho, hg, hat⟩ := HO.out
    have hf : Fr w (w4.setCell ⟨s, 6, none⟩ (.slice A6 k6 c6)) (fun k => k = s ∨ v6.ownBlock = some k) := (Fr.of_grown hg (fun k hk => .inr hk)).trans (fr_set w4 s 6 _) (fun j _ hj => .inl hj)
    refine ⟨HS.out.push6 hg ho hat HX.out (fun i y b hy hb e => HUU.out.2 b e (HUU.out.1.i6 i y b hy hb)) (fun i y b hy hb e => HUU.out.2 b e (HUU.out.1.i7 i y b hy hb)), hf, ?_⟩
    have : OwnN (w4.setCell ⟨s, 6, none⟩ (.slice A6 k6 c6)) bl (.slice A n c) xs := own_move HXN.out (fun k hk => hf.block k (own_blk_lt HXN.out hk).choose_spec.2.1 (fun e => by
      obtain ⟨cs, hc, _, _⟩ := own_blk_lt HXN.out hk
      rcases e with e | e
      · subst e; exact tys_ne HS.out.cell hc (by decide) rfl
      · obtain ⟨_, _, cs', hc'⟩ := (HS.out.sz.z6.lt (x := v6)).1 k e
        exact tys_ne hc' hc (by decide) rfl))
    exact RN.of_own this)
  rw [hw5]
  clear hw5 f6' z6'
  obtain ⟨g6, g7, y6, y7⟩ := HI.out.1.at_
  have hbl5 : base ≤ w5.heap.size := by have := HI.out.2.1.size; omega
  obtain ⟨i0, hi0, hz0, hz1, hz2⟩ := info_parts info33
  have hs5 : s < w5.heap.size := (Array.getElem?_eq_some_iff.1 HI.out.1.cell).1
  have hs7 : some s ≠ v7.ownBlock := fun e => by
    obtain ⟨_, _, cs, hc⟩ := (HI.out.1.sz.z7.lt (x := v6)).1 s e.symm
    exact tys_ne HI.out.1.cell hc (by decide) rfl
  have HS7 := Aside0.mk hs7
  clear f6 f7 z6 z7 g6 y6 hs7
  have HCC := Aside0.mk (copyInts_calls xs A n c w5.drew (HI.out.2.2.below (Below.refl _ _).drew) hn)
  go_region_law
    (first
      | (go_simp; go_at_call 59; refine HCC.out.mono ?_; rintro e w6 ⟨B, d, rfl, ho6, hb6⟩; have HB6 := Aside0.mk (show Below w5.heap.size w5 w6 from ((Below.refl _ _).drew).trans hb6); have HO6 := Aside0.mk (show OwnN w6 w5.heap.size (.slice B xs.length d) xs from ho6); have g7' : w6.cell? ⟨s, 7, none⟩ = some v7 := (HB6.out.cell (p := ⟨s, 7, none⟩) (Array.getElem?_eq_some_iff.1 HI.out.1.cell).1).trans g7; have y7' : w6.frozen? ⟨s, 7, none⟩ = false := (HB6.out.frozen (p := ⟨s, 7, none⟩) (Array.getElem?_eq_some_iff.1 HI.out.1.cell).1).trans y7; have hs6 : s < w6.heap.size := Nat.lt_of_lt_of_le hs5 HB6.out.size; have hb6s : base ≤ w6.heap.size := Nat.le_trans hbl5 HB6.out.size; clear ho6 hb6)
      | (refine step_append_lies _ (by rfl) _ _ _ (by rfl) base 33 i0 _ 1 24 Try.underlying45 hi0 hz0 hz1 hz2 rfl (by omega) v7 l7.length l7 (by rfl) (by first | exact (own_below HI.out.1.sz.z7.outer HB6.out).alloc _ | exact ((own_below HI.out.1.sz.z7.outer HB6.out).alloc _).drew) ⟨w6.heap.size, 0, none⟩ 1 1 [.slice B xs.length d] (by rfl) (by rfl) (World.news_of_block (cs := #[.slice B xs.length d]) (t := 33) (fr := (0, 0)) (heap_alloc_new w6 _)) (by simp [Value.oneCell']) (by omega) (by unfold maxLen; omega) (by omega) (by simp; omega) (w6.heap.size + 1) (by simp) ?_; intro gg cap w7 hown1 hgrow hat hlt; have g77 : w7.cell? ⟨s, 7, none⟩ = some v7 := (hgrow.cell_far _ (by simp; omega) HS7.out).trans (by go_keep); have y77 : w7.frozen? ⟨s, 7, none⟩ = false := (hgrow.frozen_far _ (by simp; omega) HS7.out).trans (by first | exact (World.frozen?_of_block (Below.heap_alloc _ _ _ hs6)).trans y7'); have H7 := Aside0.mk (And.intro hown1 (And.intro hgrow hat)); clear hown1 hgrow hat hlt))
  all_goals
    refine bodyPost_end (results_none rfl _ _ _) rfl ?_
    exact ints_done HI.out.1 HI.out.2.1 HO.out.2.2 HB6.out HO6.out H7.out.1 H7.out.2.1 H7.out.2.2

end Go.Proofs.Ytdddbjaggfaofaa.Mem

namespace Go.Proofs.Ytdddbjaggfaofaa.Mem
open Go.RowKit Go.Proofs.Ytdddbjaggfaofaa.GM Go.Proofs.YtdddbjaggfaofaaW.PrintWords
set_option linter.unusedVariables false

theorem OwnZ.nat {w : World} {base : Nat} {v : Value} {xs : List Nat} (h : OwnZ w base v (xs.map Int.ofNat)) : OwnN w base v xs := by
  unfold OwnZ at h
  rw [List.length_map, List.map_map] at h
  exact h
theorem ZR.form {w : World} {base : Nat} {v : Value} {vals : List Value} {R : List (List Int)} (h : ZR w base v vals R) {i : Nat} (hi : i < R.length) :
    ∃ g cap A n c zs, v = .slice (some ⟨g, 0, none⟩) R.length cap ∧ vals[i]? = some (.slice A n c) ∧ w.cell? ⟨g, i, none⟩ = some (.slice A n c) ∧ w.frozen? ⟨g, i, none⟩ = false ∧ R[i]? = some zs ∧ zs.length = n ∧ OwnZ w base (.slice A n c) zs ∧ base ≤ g ∧ g < w.heap.size := by
  have hl := h.len
  obtain ⟨g, cap, hv, hb, hlt⟩ := h.outer.form (by omega)
  have hx : vals[i]? = some vals[i] := List.getElem?_eq_getElem (by omega)
  rw [hl] at hv
  subst hv
  have hc := h.outer.cells (g := g) rfl i _ hx
  rw [add_plain] at hc
  obtain ⟨cs, hcs⟩ := own_typed h.outer g rfl
  obtain ⟨zs, hz, ho⟩ := h.get hx
  obtain ⟨A, c, e⟩ := own_slice ho
  rw [e] at hx hc ho
  exact ⟨g, cap, A, _, c, zs, rfl, hx, by simpa using hc, by simp [World.frozen?, hcs], hz, rfl, ho, hb, hlt⟩
theorem ZR.slice {w : World} {base : Nat} {v : Value} {vals : List Value} {R : List (List Int)} (h : ZR w base v vals R) : ∃ A c, v = .slice A R.length c := by
  obtain ⟨A, c, e⟩ := own_slice h.outer
  rw [h.len] at e
  exact ⟨A, c, e⟩

/-- Rows of numbers as rows of whole ones. -/
def zrows (R : List (List Nat)) : List (List Int) := R.map (fun xs => xs.map Int.ofNat)
theorem zrows_len (R : List (List Nat)) : (zrows R).length = R.length := List.length_map _
theorem zrows_get {R : List (List Nat)} {i : Nat} {zs : List Int} (h : (zrows R)[i]? = some zs) : zs = (nb R i).map Int.ofNat := by
  unfold zrows at h
  rw [List.getElem?_map] at h
  unfold nb
  rw [List.getD_eq_getElem?_getD]
  cases hr : R[i]? with
  | none => rw [hr] at h; cases h
  | some r => rw [hr] at h; simpa using h.symm

set_option maxHeartbeats 4000000 in
set_option maxRecDepth 100000 in
theorem still_calls (base s : Nat) (v6 v7 : Value) (l6 l7 : List Value) (R : List (List Nat)) (w : World) (h : SH w base s v6 v7 l6 l7 (zrows R) (zrows R)) (hR : R.length ≤ 1000000000) :
    Calls Try.prog 60 #[.pointer (some ⟨s, 0, none⟩)] w fun e w' => e = .returned (.bool true) ∧ ∃ q, w' = w.drewN q := by
  have HS := Aside0.mk h
  obtain ⟨A6, c6, rfl⟩ := h.sz.z6.slice
  obtain ⟨A7, c7, rfl⟩ := h.sz.z7.slice
  obtain ⟨f6, f7, -, -⟩ := h.at_
  obtain ⟨n0, n1, n2, n3, n4, n5, n8, n9, n10, n11⟩ := h.nils
  rw [zrows_len] at f6 f7
  clear h
  go_enter Try.func60, Try.ntmps60
  go_wp2_with fail
  refine wp_loop_rounds 1 ?_
  rw [rounds_succ]
  go_wp2_with fail
  refine wp_loop_rounds 1 ?_
  rw [rounds_succ]
  go_wp2_with fail
  refine wp_loop_rounds 1 ?_
  rw [rounds_succ]
  go_wp2_with fail
  go_loopg [6, 91] R.length (fun g v6' i wr => ∃ k : Nat, k ≤ R.length ∧ g = R.length - k ∧ i = .int .i64 k ∧ (∃ q, wr = w.drewN q))
  case atStart => exact ⟨0, Nat.zero_le _, rfl, rfl, ⟨0, rfl⟩⟩
  case round =>
    obtain ⟨k, hk, rfl, rfl, ⟨q, rfl⟩⟩ := hrel
    by_cases hlt : k < R.length
    · obtain ⟨g6, d6, B6, m6, e6, zs6, hv6, hx6, a6, -, hz6, hm6, o6, -, -⟩ := HS.out.sz.z6.form (i := k) (by rw [zrows_len]; exact hlt)
      obtain ⟨g7, d7, B7, m7, e7, zs7, hv7, hx7, a7, -, hz7, hm7, o7, -, -⟩ := HS.out.sz.z7.form (i := k) (by rw [zrows_len]; exact hlt)
      cases hv6
      cases hv7
      rw [zrows_get hz6] at o6 hm6
      rw [zrows_get hz7] at o7 hm7
      rw [List.length_map] at hm6 hm7
      have r6 := RN.of_own o6.nat
      have r7 := RN.of_own o7.nat
      obtain ⟨W, hW⟩ : ∃ W, W = w.drewN q := ⟨_, rfl⟩
      have b6 : W.cell? ⟨g6, k, none⟩ = some (.slice B6 m6 e6) := by rw [hW]; exact a6
      have b7 : W.cell? ⟨g7, k, none⟩ = some (.slice B7 m7 e7) := by rw [hW]; exact a7
      have p6 : W.cell? ⟨s, 6, none⟩ = some (.slice (some ⟨g6, 0, none⟩) R.length c6) := by rw [hW]; exact f6
      have p7 : W.cell? ⟨s, 7, none⟩ = some (.slice (some ⟨g7, 0, none⟩) R.length c7) := by rw [hW]; exact f7
      have HC := Aside0.mk (fun n => sameInts_calls (nb R k) (nb R k) B6 B7 _ _ e6 e7 (W.drewN n) (by rw [hW]; exact r6) (by rw [hW]; exact r7))
      rw [← hW]
      have HW := Aside0.mk hW
      have i1 : (k : Int) < (R.length : Int) := by omega
      have i0 : (0 : Int) ≤ (k : Int) := by omega
      have hs : sameB (nb R k) (nb R k) = true := by simp [sameB]
      rw [hs] at HC
      clear hx6 hx7 o6 o7 r6 r7 hs hm6 hm7 hz6 hz7 hW a6 a7 f6 f7 n0 n1 n2 n3 n4 n5 n8 n9 n10 n11
      go_wp2_with fail
      go_quiet ((go_at_call 24; exact Calls.quiet_of (HC.out _)))
      go_wp2_with fail
      go_roundg (R.length - (k + 1))
      case rel => exact ⟨k + 1, by omega, rfl, by go_num, ⟨q + nq, by rw [HW.out, World.drewN_drewN]⟩⟩
      case measure => omega
    · obtain rfl : k = R.length := by omega
      go_wp2_with fail
      refine wp_loop_rounds 1 ?_
      rw [rounds_succ]
      go_wp2_with fail
      refine wp_loop_rounds 1 ?_
      rw [rounds_succ]
      go_wp2_with fail
      go_ret
      exact ⟨rfl, _, rfl⟩

end Go.Proofs.Ytdddbjaggfaofaa.Mem

namespace Go.Proofs.Ytdddbjaggfaofaa.Mem
open Go.RowKit Go.Proofs.Ytdddbjaggfaofaa.GM Go.Proofs.YtdddbjaggfaofaaW.PrintWords
set_option linter.unusedVariables false

theorem SZ.inplace {w w1 : World} {base i : Nat} {v6 v7 x : Value} {l6 l7 : List Value} {H C : List (List Int)} {zs : List Int} (h : SZ w base v6 v7 l6 l7 H C) (hx : l6[i]? = some x) (hg : w.grownBy w1 x.ownBlock) (ho : OwnZ w1 base x zs) : SZ w1 base v6 v7 l6 l7 (H.set i zs) C := by
  refine ⟨h.z6.inplace hx hg ho, h.z7.grown hg (fun b hb e => ?_) (fun j y b hy hb e => h.dis i j x y b hx hy e hb), h.dis, h.out⟩
  obtain ⟨_, _, cs, hc⟩ := (h.z7.lt (x := x)).1 b hb
  obtain ⟨_, _, cs', hc'⟩ := (h.z6.lt (x := x)).2 i x b hx e
  exact tys_ne hc hc' (by decide) rfl
theorem SH.inplace {w w1 : World} {base s i : Nat} {v6 v7 x : Value} {l6 l7 : List Value} {H C : List (List Int)} {zs : List Int} (h : SH w base s v6 v7 l6 l7 H C) (hx : l6[i]? = some x) (hg : w.grownBy w1 x.ownBlock) (ho : OwnZ w1 base x zs) : SH w1 base s v6 v7 l6 l7 (H.set i zs) C := by
  refine ⟨(hg.block s (Array.getElem?_eq_some_iff.1 h.cell).1 (fun e => ?_)).trans h.cell, h.sz.inplace hx hg ho, h.lo⟩
  obtain ⟨_, _, cs', hc'⟩ := (h.sz.z6.lt (x := x)).2 i x s hx e.symm
  exact tys_ne h.cell hc' (by decide) rfl
/-- One number of a row has been written. -/
theorem SH.set {w : World} {base s i g n c j : Nat} {z : Int} {v6 v7 : Value} {l6 l7 : List Value} {H C : List (List Int)} {zs : List Int} (h : SH w base s v6 v7 l6 l7 H C) (hx : l6[i]? = some (.slice (some ⟨g, 0, none⟩) n c)) (hz : H[i]? = some zs) (hn : zs.length = n) :
    SH (w.setCell ⟨g, j, none⟩ (.int .i64 z)) base s v6 v7 l6 l7 (H.set i (zs.set j z)) C :=
  h.inplace hx (w1 := w.setCell ⟨g, j, none⟩ (.int .i64 z)) ⟨rfl, rfl, rfl, by simp [World.setCell], fun k _ hk => Below.heap_setCell _ _ _ _ (fun e => hk (by rw [e]; rfl))⟩ ((h.sz.z6.inner i _ _ hx hz).set_ hn.symm j z)

theorem ZR.put {w w1 : World} {base g n cap i : Nat} {vals : List Value} {R : List (List Int)} {x x1 : Value} {r : List Int} (h : ZR w base (.slice (some ⟨g, 0, none⟩) n cap) vals R) (hx : vals[i]? = some x)
    (hg : w.grownBy w1 x.ownBlock) (ho : OwnZ w1 base x1 r) (hat : NewAt x x1 w.heap.size) :
    ZR (w1.setCell ⟨g, i, none⟩ x1) base (.slice (some ⟨g, 0, none⟩) n cap) (vals.set i x1) (R.set i r) := by
  have hil : i < vals.length := (List.getElem?_eq_some_iff.1 hx).1
  have hl := h.len
  obtain ⟨zs0, hz0, hin⟩ := h.get hx
  have hout : w1.ownsRow base 33 1 (.slice (some ⟨g, 0, none⟩) n cap) vals.length vals := own_grown h.outer hg (fun b hb e => h.ne_outer hx e hb)
  have hgx1 : x1.ownBlock ≠ some g := own_types_ne hout ho (by decide) rfl
  refine ⟨?_, by rw [List.length_set, List.length_set]; exact hl, ?_, ?_⟩
  · obtain ⟨A, c, e⟩ := own_slice hout
    injection e with _ e2 _
    subst e2
    rw [List.length_set]
    exact (hout.stored i x1).1
  · intro j y zs hy hz
    by_cases e : i = j
    · subst e
      rw [List.getElem?_set_self hil] at hy
      rw [List.getElem?_set_self (by omega)] at hz
      cases hy
      cases hz
      exact own_set_far ho hgx1 _
    · rw [List.getElem?_set_ne e] at hy hz
      have hy1 : OwnZ w1 base y zs := own_grown (h.inner j y zs hy hz) hg (fun b hb e2 => h.apart i j x y b e hx hy e2 hb)
      exact own_set_far hy1 (own_types_ne hout hy1 (by decide) rfl) _
  · have key : ∀ (j : Nat) (y : Value) (b : Nat), j ≠ i → vals[j]? = some y → y.ownBlock = some b → x1.ownBlock ≠ some b := by
      intro j y b hj hy hb
      have hlt := ((h.lt (x := x)).2 j y b hy hb).1
      rcases hat with hat | ⟨c, hc, hle⟩
      · rw [hat]; exact h.apart j i y x b hj hy hx hb
      · rw [hc]; intro e; injection e with e; omega
    intro j k y z b hjk hy hz hb
    by_cases ej : i = j
    · subst ej
      rw [List.getElem?_set_self hil] at hy
      cases hy
      rw [List.getElem?_set_ne (by omega)] at hz
      intro hb'
      exact key k z b (by omega) hz hb' hb
    · rw [List.getElem?_set_ne ej] at hy
      by_cases ek : i = k
      · subst ek
        rw [List.getElem?_set_self hil] at hz
        cases hz
        exact key j y b (by omega) hy hb
      · rw [List.getElem?_set_ne ek] at hz
        exact h.apart j k y z b hjk hy hz hb
theorem SH.put {w w1 : World} {base s g n cap i : Nat} {v7 x x1 : Value} {l6 l7 : List Value} {H C : List (List Int)} {r : List Int} (h : SH w base s (.slice (some ⟨g, 0, none⟩) n cap) v7 l6 l7 H C) (hx : l6[i]? = some x)
    (hg : w.grownBy w1 x.ownBlock) (ho : OwnZ w1 base x1 r) (hat : NewAt x x1 w.heap.size) : SH (w1.setCell ⟨g, i, none⟩ x1) base s (.slice (some ⟨g, 0, none⟩) n cap) v7 (l6.set i x1) l7 (H.set i r) C := by
  have hil : i < l6.length := (List.getElem?_eq_some_iff.1 hx).1
  have hsg : s ≠ g := fun e => by
    obtain ⟨_, _, cs', hc'⟩ := (h.sz.z6.lt (x := x)).1 g rfl
    exact tys_ne h.cell hc' (by decide) e
  have h1 : w1.heap[s]? = w.heap[s]? := hg.block s (Array.getElem?_eq_some_iff.1 h.cell).1 (fun e => by
    obtain ⟨_, _, cs', hc'⟩ := (h.sz.z6.lt (x := x)).2 i x s hx e.symm
    exact tys_ne h.cell hc' (by decide) rfl)
  refine ⟨(Below.heap_setCell _ _ _ _ hsg).trans (h1.trans h.cell), ⟨h.sz.z6.put hx hg ho hat, ?_, ?_, h.sz.out⟩, h.lo⟩
  · have hz7 : ZR w1 base v7 l7 C := h.sz.z7.grown hg (fun b hb e => by
      obtain ⟨_, _, cs, hc⟩ := (h.sz.z7.lt (x := x)).1 b hb
      obtain ⟨_, _, cs', hc'⟩ := (h.sz.z6.lt (x := x)).2 i x b hx e
      exact tys_ne hc hc' (by decide) rfl) (fun j y b hy hb e => h.sz.dis i j x y b hx hy e hb)
    refine hz7.move (fun b hb => Below.heap_setCell _ _ _ _ (fun e => ?_)) (fun j y b hy hb => Below.heap_setCell _ _ _ _ (fun e => ?_))
    · subst e
      exact h.sz.out _ rfl hb
    · subst e
      obtain ⟨_, _, cs, hc⟩ := (h.sz.z7.lt (x := x)).2 j y _ hy hb
      obtain ⟨_, _, cs', hc'⟩ := (h.sz.z6.lt (x := x)).1 _ rfl
      exact tys_ne hc hc' (by decide) rfl
  · intro j k y z b hy hz hb
    have hzlt := ((h.sz.z7.lt (x := x)).2 k z)
    by_cases ej : i = j
    · subst ej
      rw [List.getElem?_set_self hil] at hy
      cases hy
      rcases hat with hat | ⟨c, hc, hle⟩
      · rw [hat] at hb; exact h.sz.dis i k x z b hx hz hb
      · rw [hc] at hb
        injection hb with hb
        intro e
        have := (hzlt b hz e).1
        omega
    · rw [List.getElem?_set_ne ej] at hy
      exact h.sz.dis j k y z b hy hz hb

/-- The mark of list i. -/
def mk (i : Nat) : Int := -7777 - (i : Int)
/-- Each list has as many things as its copy and m more; the first k have their marks alone. -/
def MkH (C H : List (List Int)) (m : Nat → Nat) (k : Nat) : Prop := H.length = C.length ∧ ∀ (i : Nat) (zs : List Int), H[i]? = some zs → zs.length = (C.getD i []).length + m i ∧ (i < k → ∀ (j : Nat) (z : Int), zs[j]? = some z → z = mk i)

theorem MkH.set {C H : List (List Int)} {m m' : Nat → Nat} {k k' i : Nat} {zs : List Int} (h : MkH C H m k) (hi : i < H.length) (hz : zs.length = (C.getD i []).length + m' i ∧ (i < k' → ∀ (j : Nat) (z : Int), zs[j]? = some z → z = mk i)) (hm : ∀ j, j ≠ i → m' j = m j) (hk : ∀ j, j ≠ i → j < k' → j < k) :
    MkH C (H.set i zs) m' k' := by
  refine ⟨by rw [List.length_set]; exact h.1, fun j ys hy => ?_⟩
  by_cases e : i = j
  · subst e
    rw [List.getElem?_set_self hi] at hy
    cases hy
    exact hz
  · rw [List.getElem?_set_ne e] at hy
    obtain ⟨h1, h2⟩ := h.2 j ys hy
    exact ⟨by rw [hm j (by omega)]; exact h1, fun hj => h2 (hk j (by omega) hj)⟩
theorem MkH.more {C H : List (List Int)} {m : Nat → Nat} {k k' : Nat} (h : MkH C H m k) (hk : ∀ j, j < k' → j < H.length → j < k) : MkH C H m k' :=
  ⟨h.1, fun i zs hz => ⟨(h.2 i zs hz).1, fun hi => (h.2 i zs hz).2 (hk i hi (List.getElem?_eq_some_iff.1 hz).1)⟩⟩

def FillPost (base s : Nat) (v6 v7 : Value) (l6 l7 : List Value) (C : List (List Int)) (w : World) (e : Ending) (w' : World) : Prop :=
  e = .returned (.tuple #[]) ∧ ∃ H', SH w' base s v6 v7 l6 l7 H' C ∧ MkH C H' (fun _ => 0) H'.length ∧ Below base w w'

/-- One more number of row k has become its mark. -/
theorem fill_step {base s k g n c j : Nat} {v6 v7 : Value} {l6 l7 : List Value} {H C : List (List Int)} {zs : List Int} {w wr : World} {m : Nat}
    (hx : l6[k]? = some (.slice (some ⟨g, 0, none⟩) n c)) (hj : j < n) (h : SH wr base s v6 v7 l6 l7 H C ∧ MkH C H (fun _ => 0) k ∧ H.length = m ∧ Below base w wr ∧ H[k]? = some zs ∧ zs.length = n ∧ ∀ (p : Nat) (z : Int), p < j → zs[p]? = some z → z = mk k) :
    SH (wr.setCell ⟨g, j, none⟩ (.int .i64 (-7777 - (k : Int)))) base s v6 v7 l6 l7 (H.set k (zs.set j (mk k))) C ∧ MkH C (H.set k (zs.set j (mk k))) (fun _ => 0) k ∧ (H.set k (zs.set j (mk k))).length = m ∧ Below base w (wr.setCell ⟨g, j, none⟩ (.int .i64 (-7777 - (k : Int)))) ∧
      (H.set k (zs.set j (mk k)))[k]? = some (zs.set j (mk k)) ∧ (zs.set j (mk k)).length = n ∧ ∀ (p : Nat) (z : Int), p < j + 1 → (zs.set j (mk k))[p]? = some z → z = mk k := by
  obtain ⟨h1, h2, h3, h4, h5, h6, h7⟩ := h
  have hk : k < H.length := (List.getElem?_eq_some_iff.1 h5).1
  refine ⟨h1.set hx h5 h6, h2.set hk ⟨by rw [List.length_set]; exact (h2.2 k zs h5).1, fun h => absurd h (by omega)⟩ (fun _ _ => rfl) (fun _ _ h => h), by rw [List.length_set]; exact h3, h4.setCell ((h1.sz.z6.lt (x := v7)).2 k _ g hx rfl).2.1 _, by rw [List.getElem?_set_self hk], by rw [List.length_set]; exact h6, fun p z hp hz => ?_⟩
  by_cases e : j = p
  · subst e
    rw [List.getElem?_set_self (by omega)] at hz
    exact (Option.some.inj hz).symm
  · rw [List.getElem?_set_ne e] at hz
    exact h7 p z (by omega) hz
theorem fill_row {k n m : Nat} {H C : List (List Int)} {zs : List Int} (h2 : MkH C H (fun _ => 0) k) (h5 : H[k]? = some zs) (h6 : zs.length = n) (h7 : ∀ (p : Nat) (z : Int), p < n → zs[p]? = some z → z = mk k) : MkH C H (fun _ => 0) (k + 1) := by
  refine ⟨h2.1, fun i ys hy => ⟨(h2.2 i ys hy).1, fun hi j z hz => ?_⟩⟩
  by_cases e : i = k
  · subst e
    rw [h5] at hy
    cases hy
    exact h7 j z (by have := (List.getElem?_eq_some_iff.1 hz).1; omega) hz
  · exact (h2.2 i ys hy).2 (by omega) j z hz

set_option maxHeartbeats 4000000 in
set_option maxRecDepth 100000 in
theorem fill_calls (base s : Nat) (v6 v7 : Value) (l6 l7 : List Value) (H C : List (List Int)) (w : World) (h : SH w base s v6 v7 l6 l7 H C) (hM : MkH C H (fun _ => 0) 0) (hl : H.length ≤ 1000000) (hn : ∀ (i : Nat) (zs : List Int), C[i]? = some zs → zs.length ≤ 1000000000) :
    Calls Try.prog 61 #[.pointer (some ⟨s, 0, none⟩)] w fun e w' => FillPost base s v6 v7 l6 l7 C w e w' := by
  have HS := Aside0.mk h
  have HM := Aside0.mk (And.intro hM hn)
  obtain ⟨A6, c6, rfl⟩ := h.sz.z6.slice
  obtain ⟨f6, f7, -, -⟩ := h.at_
  obtain ⟨n0, n1, n2, n3, n4, n5, n8, n9, n10, n11⟩ := h.nils
  obtain ⟨m, hm⟩ : ∃ m, m = H.length := ⟨_, rfl⟩
  rw [← hm] at f6 hl HS ⊢
  have HMM := Aside0.mk hm
  clear h hM hn hm
  go_enter Try.func61, Try.ntmps61
  go_wp2_with fail
  refine wp_loop_rounds 1 ?_
  rw [rounds_succ]
  go_wp2_with fail
  refine wp_loop_rounds 1 ?_
  rw [rounds_succ]
  go_wp2_with fail
  refine wp_loop_rounds 1 ?_
  rw [rounds_succ]
  go_wp2_with fail
  go_loopg [11, 12, 13, 94] m (fun g a11 a12 a13 i wr => ∃ (k : Nat) (H' : List (List Int)), k ≤ m ∧ g = m - k ∧ i = .int .i64 k ∧ Aside0 (SH wr base s (.slice A6 m c6) v7 l6 l7 H' C ∧ MkH C H' (fun _ => 0) k ∧ H'.length = m ∧ Below base w wr))
  case atStart => exact ⟨0, H, Nat.zero_le _, rfl, rfl, ⟨HS.out, HM.out.1, HMM.out.symm, Below.refl _ _⟩⟩
  case round =>
    obtain ⟨k, H', hk, rfl, rfl, HI⟩ := hrel
    have hsz := HI.out.1
    by_cases hlt : k < m
    · obtain ⟨g6, d6, B6, m6, e6, zs6, hv6, hx6, a6, z6, hz6, hm6, o6, -, -⟩ := HI.out.1.sz.z6.form (i := k) (by rw [HI.out.2.2.1]; exact hlt)
      rw [HI.out.2.2.1] at hv6
      cases hv6
      have hm6le : m6 ≤ 1000000000 := by
        obtain ⟨h1, h2⟩ := HI.out.2.1
        obtain ⟨h3, -⟩ := h2 k zs6 hz6
        have hkC : k < C.length := by have := HI.out.2.2.1; omega
        have h4 := HM.out.2 k C[k] (List.getElem?_eq_getElem hkC)
        rw [List.getD_eq_getElem?_getD, List.getElem?_eq_getElem hkC] at h3
        simp only [Option.getD_some] at h3
        omega
      have HXX := Aside0.mk (And.intro hx6 (And.intro hz6 hm6))
      obtain ⟨wo, hwo⟩ : ∃ wo : World, wo = wr := ⟨_, rfl⟩
      have i0 : (0 : Int) ≤ (k : Int) := by omega
      have i1 : (k : Int) < (m : Int) := by omega
      have HI0 := Aside0.mk (show SH wr base s (.slice (some ⟨g6, 0, none⟩) m c6) v7 l6 l7 H' C ∧ MkH C H' (fun _ => 0) k ∧ H'.length = m ∧ Below base w wr from HI.out)
      clear hsz hx6 hz6 hm6 o6 z6 HI hwo
      go_wp2_with fail
      go_loopg [13, 101] m6 (fun g a13 i wr => ∃ (j : Nat) (H' : List (List Int)) (zs : List Int), j ≤ m6 ∧ g = m6 - j ∧ i = .int .i64 j ∧ Aside0 (SH wr base s (.slice (some ⟨g6, 0, none⟩) m c6) v7 l6 l7 H' C ∧ MkH C H' (fun _ => 0) k ∧ H'.length = m ∧ Below base w wr ∧ H'[k]? = some zs ∧ zs.length = m6 ∧ ∀ (p : Nat) (z : Int), p < j → zs[p]? = some z → z = mk k))
      case atStart => exact ⟨0, H', zs6, Nat.zero_le _, rfl, rfl, ⟨HI0.out.1, HI0.out.2.1, HI0.out.2.2.1, HI0.out.2.2.2, HXX.out.2.1, HXX.out.2.2, fun p z hp => absurd hp (by omega)⟩⟩
      case round =>
        obtain ⟨j, H2, zs, hj, rfl, rfl, HJ⟩ := hrel
        by_cases hjl : j < m6
        · obtain ⟨gk, rfl⟩ : ∃ gk, B6 = some ⟨gk, 0, none⟩ := by
            obtain ⟨g, cap, hv, -⟩ := (HJ.out.1.sz.z6.inner k _ _ HXX.out.1 HJ.out.2.2.2.2.1).form (by rw [HJ.out.2.2.2.2.2.1]; omega)
            cases hv
            exact ⟨g, rfl⟩
          obtain ⟨z0, hzj⟩ : ∃ z0, zs[j]? = some z0 := ⟨_, List.getElem?_eq_getElem (by rw [HJ.out.2.2.2.2.2.1]; omega)⟩
          obtain ⟨c1, c2⟩ := (HJ.out.1.sz.z6.inner k _ _ HXX.out.1 HJ.out.2.2.2.2.1).at_ hzj
          have j0 : (0 : Int) ≤ (j : Int) := by omega
          have j1 : (j : Int) < (m6 : Int) := by omega
          clear hzj
          go_wp2_with (go_at_call 80; refine (mark_calls k _ (by omega)).mono ?_; rintro e w' ⟨rfl, rfl⟩)
          go_roundg (m6 - (j + 1))
          case rel => exact ⟨j + 1, _, _, by omega, rfl, by go_num, ⟨fill_step HXX.out.1 hjl HJ.out⟩⟩
          case measure => omega
        · obtain rfl : j = m6 := by omega
          go_wp2_with fail
          go_roundg (m - (k + 1))
          case rel => exact ⟨k + 1, H2, by omega, rfl, by go_num, ⟨HJ.out.1, fill_row (m := m) HJ.out.2.1 HJ.out.2.2.2.2.1 HJ.out.2.2.2.2.2.1 HJ.out.2.2.2.2.2.2, HJ.out.2.2.1, HJ.out.2.2.2.1⟩⟩
          case measure => omega
    · obtain rfl : k = m := by omega
      obtain ⟨-, -, -, -, -, -, N8, N9, N10, N11⟩ := HI.out.1.nils
      clear hsz
      go_wp2_with fail
      refine wp_loop_rounds 1 ?_
      rw [rounds_succ]
      go_wp2_with fail
      refine wp_loop_rounds 1 ?_
      rw [rounds_succ]
      go_wp2_with fail
      refine bodyPost_end (results_none rfl _ _ _) rfl ?_
      exact ⟨rfl, H', HI.out.1, by rw [HI.out.2.2.1]; exact HI.out.2.1, HI.out.2.2.2⟩

end Go.Proofs.Ytdddbjaggfaofaa.Mem

namespace Go.Proofs.Ytdddbjaggfaofaa.Mem
open Go.RowKit Go.Proofs.Ytdddbjaggfaofaa.GM Go.Proofs.YtdddbjaggfaofaaW.PrintWords
set_option linter.unusedVariables false

set_option maxHeartbeats 4000000 in
set_option maxRecDepth 100000 in
theorem others_calls (base s more : Nat) (v6 v7 : Value) (l6 l7 : List Value) (H C : List (List Int)) (w : World) (h : SH w base s v6 v7 l6 l7 H C) (hM : MkH C H (fun _ => more) H.length) (hl : H.length ≤ 1000000) (hn : ∀ (i : Nat) (zs : List Int), C[i]? = some zs → zs.length ≤ 1000000000) (hmore : more ≤ 1000) :
    Calls Try.prog 81 #[.pointer (some ⟨s, 0, none⟩), .int .i64 (more : Int)] w fun e w' => e = .returned (.bool true) ∧ w = w' := by
  have HS := Aside0.mk h
  have HM := Aside0.mk (And.intro hM hn)
  have hcl : C.length = H.length := hM.1.symm
  obtain ⟨A6, c6, rfl⟩ := h.sz.z6.slice
  obtain ⟨A7, c7, rfl⟩ := h.sz.z7.slice
  obtain ⟨f6, f7, -, -⟩ := h.at_
  obtain ⟨n0, n1, n2, n3, n4, n5, n8, n9, n10, n11⟩ := h.nils
  rw [hcl] at f7 HS
  obtain ⟨m, hm⟩ : ∃ m, m = H.length := ⟨_, rfl⟩
  rw [← hm] at f6 f7 hl HS
  have HMM := Aside0.mk hm
  clear h hM hn hm hcl n0 n1 n2 n3 n4 n5
  go_enter Try.func81, Try.ntmps81
  go_wp2_with fail
  go_loopg [5, 6, 8, 22] m (fun g a5 a6 a8 i wr => ∃ k : Nat, k ≤ m ∧ g = m - k ∧ i = .int .i64 k ∧ w = wr)
  case atStart => exact ⟨0, Nat.zero_le _, rfl, rfl, rfl⟩
  case round =>
    obtain ⟨k, hk, rfl, rfl, rfl⟩ := hrel
    by_cases hlt : k < m
    · obtain ⟨g6, d6, B6, m6, e6, zs6, hv6, hx6, a6, -, hz6, hm6, o6, -, -⟩ := HS.out.sz.z6.form (i := k) (by rw [← HMM.out]; exact hlt)
      obtain ⟨g7, d7, B7, m7, e7, zs7, hv7, hx7, a7, -, hz7, hm7, o7, -, -⟩ := HS.out.sz.z7.form (i := k) (by have := HM.out.1.1; have := HMM.out; omega)
      injection hv6 with e61 e62 e63
      injection hv7 with e71 e72 e73
      subst e61 e63 e71 e73
      clear e62 e72
      obtain ⟨hL, hA⟩ := HM.out.1.2 k zs6 hz6
      rw [List.getD_eq_getElem?_getD, hz7] at hL
      simp only [Option.getD_some] at hL
      have h7 := HM.out.2 k zs7 hz7
      have hm76 : m6 = m7 + more := by omega
      have hne : ((m6 : Int) != (m7 : Int) + (more : Int)) = false := by rw [hm76]; simp
      have hb7 : (m7 : Int) ≤ 1000000000 := by omega
      have hmb : (more : Int) ≤ 1000 := by omega
      have hmk := hA (by rw [← HMM.out]; exact hlt)
      have HMK := Aside0.mk (And.intro hmk (And.intro o6 hm6))
      have i0 : (0 : Int) ≤ (k : Int) := by omega
      have i1 : (k : Int) < (m : Int) := by omega
      have hm6b : m6 ≤ 2000000000 := by omega
      have hkk : ((-7777 - (k : Int)) != (-7777 - (k : Int))) = false := by simp
      clear hx6 hx7 o6 o7 hm6 hm7 hz6 hz7 hL hA h7 hm76 hmk
      go_wp2_with fail
      go_loopg [8, 42] m6 (fun g a8 i wr => ∃ j : Nat, j ≤ m6 ∧ g = m6 - j ∧ i = .int .i64 j ∧ w = wr)
      case atStart => exact ⟨0, Nat.zero_le _, rfl, rfl, rfl⟩
      case round =>
        obtain ⟨j, hj, rfl, rfl, rfl⟩ := hrel
        by_cases hjl : j < m6
        · obtain ⟨gk, rfl⟩ : ∃ gk, B6 = some ⟨gk, 0, none⟩ := by
            obtain ⟨g, cap, hv, -⟩ := HMK.out.2.1.form (by rw [HMK.out.2.2]; omega)
            cases hv
            exact ⟨g, rfl⟩
          obtain ⟨z0, hzj⟩ : ∃ z0, zs6[j]? = some z0 := ⟨_, List.getElem?_eq_getElem (by rw [HMK.out.2.2]; omega)⟩
          obtain ⟨c1, -⟩ := HMK.out.2.1.at_ hzj
          rw [HMK.out.1 j _ hzj, mk] at c1
          have j0 : (0 : Int) ≤ (j : Int) := by omega
          have j1 : (j : Int) < (m6 : Int) := by omega
          clear hzj
          go_wp2_with (go_at_call 80; refine (mark_calls k _ (by omega)).mono ?_; rintro e w' ⟨rfl, rfl⟩)
          go_roundg (m6 - (j + 1))
          case rel => exact ⟨j + 1, by omega, rfl, by go_num, rfl⟩
          case measure => omega
        · obtain rfl : j = m6 := by omega
          go_wp2_with fail
          go_roundg (m - (k + 1))
          case rel => exact ⟨k + 1, by omega, rfl, by go_num, rfl⟩
          case measure => omega
    · obtain rfl : k = m := by omega
      go_wp2_with fail
      refine wp_loop_rounds 1 ?_
      rw [rounds_succ]
      go_wp2_with fail
      refine wp_loop_rounds 1 ?_
      rw [rounds_succ]
      go_wp2_with fail
      go_ret
      exact ⟨rfl, rfl⟩

set_option maxHeartbeats 4000000 in
set_option maxRecDepth 100000 in
theorem marked_calls (base s more : Nat) (v6 v7 : Value) (l6 l7 : List Value) (H C : List (List Int)) (w : World) (h : SH w base s v6 v7 l6 l7 H C) (hM : MkH C H (fun _ => more) H.length) (hl : H.length ≤ 1000000) (hn : ∀ (i : Nat) (zs : List Int), C[i]? = some zs → zs.length ≤ 1000000000) (hmore : more ≤ 1000) :
    Calls Try.prog 62 #[.pointer (some ⟨s, 0, none⟩), .int .i64 (more : Int)] w fun e w' => e = .returned (.bool true) ∧ w = w' := by
  have HC := Aside0.mk (others_calls base s more v6 v7 l6 l7 H C w h hM hl hn hmore)
  obtain ⟨n0, n1, n2, n3, n4, n5, n8, n9, n10, n11⟩ := h.nils
  clear h hM hn
  go_enter Try.func62, Try.ntmps62
  go_wp2_with fail
  refine wp_loop_rounds 1 ?_
  rw [rounds_succ]
  go_wp2_with fail
  refine wp_loop_rounds 1 ?_
  rw [rounds_succ]
  go_wp2_with fail
  refine wp_loop_rounds 1 ?_
  rw [rounds_succ]
  go_wp2_with fail
  refine HC.out.mono ?_
  rintro e w' ⟨rfl, rfl⟩
  go_wp2_with fail
  go_ret
  exact ⟨rfl, rfl⟩

end Go.Proofs.Ytdddbjaggfaofaa.Mem
