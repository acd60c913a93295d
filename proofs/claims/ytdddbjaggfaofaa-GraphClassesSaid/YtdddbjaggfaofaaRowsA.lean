/- A slice of rows of numbers that the call itself made, each row in a block of its own; edges that came in. -/
import Derived.Test.YtdddbjaggfaofaaMem
namespace Go.Proofs.Ytdddbjaggfaofaa.Mem
open Go.RowKit Go.Proofs.Ytdddbjaggfaofaa.GM Go.Proofs.YtdddbjaggfaofaaW.PrintWords
set_option linter.unusedVariables false

theorem info3 : (Try.prog.info? 3).map (fun i => (i.zero, i.size, i.bytes)) = some (some (.int .i64 0), 1, 8) := by kernel_rfl
theorem info4 : (Try.prog.info? 4).map (fun i => (i.zero, i.size, i.bytes)) = some (some (.bool false), 1, 1) := by kernel_rfl
theorem info33 : (Try.prog.info? 33).map (fun i => (i.zero, i.size, i.bytes)) = some (some (.slice none 0 0), 1, 24) := by kernel_rfl

/-- Rows of numbers of the call's own, no two in one block. -/
structure OwnRows (w : World) (base : Nat) (v : Value) (vals : List Value) (R : List (List Nat)) : Prop where
  outer : w.ownsRow base 33 1 v R.length vals
  inner : ∀ (i : Nat) (x : Value), vals[i]? = some x → OwnN w base x (nb R i)
  apart : ∀ (i j : Nat) (x y : Value) (b : Nat), i ≠ j → vals[i]? = some x → vals[j]? = some y → x.ownBlock = some b → y.ownBlock ≠ some b

theorem OwnRows.len {w : World} {base : Nat} {v : Value} {vals : List Value} {R : List (List Nat)} (h : OwnRows w base v vals R) : vals.length = R.length := by
  have := h.outer.1; omega

theorem own_blk_lt {w : World} {base : Nat} {e : TypeId} {size n : Nat} {v : Value} {xs : List Value} (h : w.ownsRow base e size v n xs) {b : Nat} (hb : v.ownBlock = some b) : ∃ cs, w.heap[b]? = some (.cells cs e (0, 0)) ∧ b < w.heap.size ∧ base ≤ b := by
  obtain ⟨cs, hc⟩ := own_typed h b hb
  exact ⟨cs, hc, (Array.getElem?_eq_some_iff.1 hc).1, own_base h b hb⟩

theorem own_types_ne {w : World} {base base' : Nat} {e e' : TypeId} {size n size' n' : Nat} {v v' : Value} {xs xs' : List Value} (h : w.ownsRow base e size v n xs) (h' : w.ownsRow base' e' size' v' n' xs') (hne : e ≠ e') {b : Nat}
    (hb : v.ownBlock = some b) : v'.ownBlock ≠ some b := by
  intro hb'
  obtain ⟨cs, hc⟩ := own_typed h b hb
  obtain ⟨cs', hc'⟩ := own_typed h' b hb'
  rw [hc] at hc'
  injection hc' with hc'
  injection hc' with _ ht
  exact hne ht

/-- What another row's writing, new blocks and draws leave. -/
theorem own_grown {w w1 : World} {base : Nat} {e : TypeId} {size n : Nat} {v : Value} {xs : List Value} (h : w.ownsRow base e size v n xs) {row : Option Nat} (hg : w.grownBy w1 row) (hne : ∀ b, v.ownBlock = some b → row ≠ some b) : w1.ownsRow base e size v n xs :=
  own_move h (fun k hk => hg.block k (own_blk_lt h hk).choose_spec.2.1 (fun e => hne k hk e.symm))

theorem own_set_far {w : World} {base : Nat} {e : TypeId} {size n : Nat} {v : Value} {xs : List Value} (h : w.ownsRow base e size v n xs) {g j : Nat} (hne : v.ownBlock ≠ some g) (u : Value) : (w.setCell ⟨g, j, none⟩ u).ownsRow base e size v n xs :=
  own_move h (fun k hk => Below.heap_setCell _ _ _ _ (fun e => hne (by rw [hk]; exact congrArg some e)))

theorem OwnRows.form {w : World} {base : Nat} {v : Value} {vals : List Value} {R : List (List Nat)} (h : OwnRows w base v vals R) {i : Nat} (hi : i < R.length) :
    ∃ g cap x, v = .slice (some ⟨g, 0, none⟩) R.length cap ∧ vals[i]? = some x ∧ w.cell? ⟨g, i, none⟩ = some x ∧ w.frozen? ⟨g, i, none⟩ = false ∧ OwnN w base x (nb R i) ∧ base ≤ g ∧ g < w.heap.size := by
  obtain ⟨g, cap, hv, hb, hlt⟩ := h.outer.form (by omega)
  have hl := h.len
  have hx : vals[i]? = some vals[i] := List.getElem?_eq_getElem (by omega)
  subst hv
  have hc := h.outer.cells (g := g) rfl i _ hx
  rw [add_plain] at hc
  obtain ⟨cs, hcs⟩ := own_typed h.outer g rfl
  exact ⟨g, cap, _, rfl, hx, by simpa using hc, by simp [World.frozen?, hcs], h.inner i _ hx, hb, hlt⟩

/-- Row i has been written (and may lie elsewhere now), and its slice is stored back. -/
theorem OwnRows.put {w w1 : World} {base g n cap i : Nat} {vals : List Value} {R : List (List Nat)} {x x1 : Value} {r : List Nat} (h : OwnRows w base (.slice (some ⟨g, 0, none⟩) n cap) vals R) (hi : i < R.length) (hx : vals[i]? = some x)
    (hg : w.grownBy w1 x.ownBlock) (ho : OwnN w1 base x1 r) (hat : x1.ownBlock = x.ownBlock ∨ ∃ b, x1.ownBlock = some b ∧ w.heap.size ≤ b) :
    OwnRows (w1.setCell ⟨g, i, none⟩ x1) base (.slice (some ⟨g, 0, none⟩) n cap) (vals.set i x1) (R.set i r) := by
  obtain ⟨_, _, _, hv, -⟩ := h.form hi
  cases hv
  have hl := h.len
  have hin := h.inner i x hx
  have hgx : x.ownBlock ≠ some g := own_types_ne h.outer hin (by decide) rfl
  have hout : w1.ownsRow base 33 1 (.slice (some ⟨g, 0, none⟩) R.length cap) R.length vals := own_grown h.outer hg (fun b hb => own_types_ne h.outer hin (by decide) hb)
  have hgx1 : x1.ownBlock ≠ some g := own_types_ne hout ho (by decide) rfl
  refine ⟨?_, ?_, ?_⟩
  · have := (hout.stored i x1).1
    simpa using this
  · intro j y hy
    by_cases e : j = i
    · subst e
      rw [List.getElem?_set_self (by omega)] at hy
      cases hy
      have : nb (R.set j r) j = r := by unfold nb; rw [List.getD_eq_getElem?_getD, List.getElem?_set_self hi]; rfl
      rw [this]
      exact own_set_far ho hgx1 _
    · rw [List.getElem?_set_ne (by omega)] at hy
      have hj := h.inner j y hy
      have : nb (R.set i r) j = nb R j := by unfold nb; rw [List.getD_eq_getElem?_getD, List.getElem?_set_ne (by omega), ← List.getD_eq_getElem?_getD]
      rw [this]
      have hy1 : w1.ownsRow base 3 1 y (nb R j).length ((nb R j).map encN) := own_grown hj hg (fun b hb => h.apart j i y x b e hy hx hb)
      exact own_set_far hy1 (own_types_ne hout hy1 (by decide) rfl) _
  · have key : ∀ (j : Nat) (y : Value) (b : Nat), j ≠ i → vals[j]? = some y → y.ownBlock = some b → x1.ownBlock ≠ some b := by
      intro j y b hj hy hb
      have hlt := (own_blk_lt (h.inner j y hy) hb).choose_spec.2.1
      rcases hat with hat | ⟨c, hc, hle⟩
      · rw [hat]; exact h.apart j i y x b hj hy hx hb
      · rw [hc]; intro e; injection e with e; omega
    intro j k y z b hjk hy hz hb
    by_cases ej : j = i
    · subst ej
      rw [List.getElem?_set_self (by omega)] at hy
      cases hy
      rw [List.getElem?_set_ne (by omega)] at hz
      intro hb'
      exact key k z b (by omega) hz hb' hb
    · rw [List.getElem?_set_ne (by omega)] at hy
      by_cases ek : k = i
      · subst ek
        rw [List.getElem?_set_self (by omega)] at hz
        cases hz
        exact key j y b ej hy hb
      · rw [List.getElem?_set_ne (by omega)] at hz
        exact h.apart j k y z b hjk hy hz hb

theorem OwnRows.get {w : World} {base g n cap : Nat} {vals : List Value} {R : List (List Nat)} (h : OwnRows w base (.slice (some ⟨g, 0, none⟩) n cap) vals R) {i : Nat} (hi : i < R.length) :
    ∃ x, vals[i]? = some x ∧ w.cell? ⟨g, i, none⟩ = some x ∧ w.frozen? ⟨g, i, none⟩ = false ∧ OwnN w base x (nb R i) ∧ base ≤ g ∧ g < w.heap.size := by
  obtain ⟨g', cap', x, hv, h1, h2, h3, h4, h5, h6⟩ := h.form hi
  cases hv
  exact ⟨x, h1, h2, h3, h4, h5, h6⟩

theorem own_below {w w1 : World} {base : Nat} {e : TypeId} {size n : Nat} {v : Value} {xs : List Value} (h : w.ownsRow base e size v n xs) (hb : Below w.heap.size w w1) : w1.ownsRow base e size v n xs :=
  own_move h (fun k hk => hb.block k (own_blk_lt h hk).choose_spec.2.1)

theorem OwnRows.below {w w1 : World} {base : Nat} {v : Value} {vals : List Value} {R : List (List Nat)} (h : OwnRows w base v vals R) (hb : Below w.heap.size w w1) : OwnRows w1 base v vals R :=
  ⟨own_below h.outer hb, fun i x hx => own_below (h.inner i x hx) hb, h.apart⟩

/-- Behind an append to row i, ahead of the store: the outer row's cell i still holds the old slice, and may be written. -/
theorem OwnRows.cell_grown {w w1 : World} {base g n cap i : Nat} {vals : List Value} {R : List (List Nat)} {x : Value} (h : OwnRows w base (.slice (some ⟨g, 0, none⟩) n cap) vals R) (hx : vals[i]? = some x) (hg : w.grownBy w1 x.ownBlock) :
    w1.cell? ⟨g, i, none⟩ = some x ∧ w1.frozen? ⟨g, i, none⟩ = false := by
  have hin := h.inner i x hx
  have hc := h.outer.cells (g := g) rfl i _ hx
  rw [add_plain] at hc
  obtain ⟨cs, hcs⟩ := own_typed h.outer g rfl
  have hout := own_grown h.outer hg (fun b hb => own_types_ne h.outer hin (by decide) hb)
  have hc1 := hout.cells (g := g) rfl i _ hx
  rw [add_plain] at hc1
  obtain ⟨cs1, hcs1⟩ := own_typed hout g rfl
  exact ⟨by simpa using hc1, by simp [World.frozen?, hcs1]⟩

/-- make([][]int, n). -/
theorem OwnRows.made (W : World) (base n : Nat) (hb : base ≤ W.heap.size) (hn : n ≤ 131072) :
    OwnRows (W.alloc (.cells (madeCells #[.slice none 0 0] n) 33)) base (.slice (some ⟨W.heap.size, 0, none⟩) n n) (List.replicate n (.slice none 0 0)) (List.replicate n []) := by
  have h := World.ownsRow_lit (base := base) (e := 33) (size := 1) W (madeCells #[.slice none 0 0] n) n hb (by unfold maxLen; omega) (by simp [size_madeCells])
  have hl : (madeCells #[Value.slice none 0 0] n).toList = List.replicate n (.slice none 0 0) := by
    apply List.ext_getElem
    · simp [madeCells]
    · intro i h1 h2
      simp [madeCells, Nat.mod_one]
  rw [hl] at h
  refine ⟨by simpa using h, ?_, ?_⟩
  · intro i x hx
    rw [List.getElem?_replicate] at hx
    split at hx
    · cases hx
      have : nb (List.replicate n ([] : List Nat)) i = [] := by unfold nb; rw [List.getD_eq_getElem?_getD, List.getElem?_replicate]; split <;> rfl
      rw [this]
      exact World.ownsRow_nil _ _ _ _
    · cases hx
  · intro i j x y b _ hx _ hb'
    rw [List.getElem?_replicate] at hx
    split at hx
    · cases hx; simp [Value.ownBlock] at hb'
    · cases hx

/-- The kind of an edge. -/
def kE : Kd (Int × Int) := Kd.pair (Kd.int .i64) (Kd.int .i64)

theorem kE_open {w : World} {x : Int × Int} {cs : List Value} (h : kE.K w x cs) : cs = [.int .i64 x.1, .int .i64 x.2] := by
  obtain ⟨_, _, rfl, rfl, rfl⟩ := h
  exact rfl

theorem edge_at {w : World} {A : Option Addr} {n : Nat} {E : List (Int × Int)} (h : kE.C w A n E) (i : Nat) (h1 : i < n) :
    ∃ ad x, A = some ad ∧ E[i]? = some x ∧ w.cell? (ad.add (i * 2)) = some (.int .i64 x.1) ∧ w.cell? ⟨(ad.add (i * 2)).block, (ad.add (i * 2)).off + 1, none⟩ = some (.int .i64 x.2) := by
  obtain ⟨ad, e, hc⟩ := h.2.2 (by omega)
  have hl : i < E.length := by have := h.1; omega
  obtain ⟨c, hs, hr, hcell⟩ := hc i _ (List.getElem?_eq_getElem hl)
  obtain rfl := kE_open hr
  exact ⟨ad, E[i], e, List.getElem?_eq_getElem hl, hcell 0 _ rfl, by rw [← add_field _ _ 1 (by omega)]; exact hcell 1 _ rfl⟩

end Go.Proofs.Ytdddbjaggfaofaa.Mem
