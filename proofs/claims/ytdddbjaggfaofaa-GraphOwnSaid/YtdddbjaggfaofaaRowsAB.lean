/- graphs.rows, by its contract; rows of numbers in memory. -/
import Derived.Test.YtdddbjaggfaofaaMem
import Derived.Outline
import Derived.BigQuiet
import Derived.Deep.QuietTactic
import Derived.WalkLawsBesides
import Derived.Test.YtdddbjaggfaofaaWMore

namespace Go.Proofs.Ytdddbjaggfaofaa.Mem
open Go.RowKit Go.Proofs.Ytdddbjaggfaofaa.GM Go.Proofs.YtdddbjaggfaofaaW.PrintWords
set_option linter.unusedVariables false

theorem info3 : (Try.prog.info? 3).map (fun i => (i.zero, i.size, i.bytes)) = some (some (.int .i64 0), 1, 8) := by kernel_rfl
theorem info4 : (Try.prog.info? 4).map (fun i => (i.zero, i.size, i.bytes)) = some (some (.bool false), 1, 1) := by kernel_rfl
theorem info33 : (Try.prog.info? 33).map (fun i => (i.zero, i.size, i.bytes)) = some (some (.slice none 0 0), 1, 24) := by kernel_rfl

/-- Rows of numbers of the call's own, no two in one block. -/
structure OwnRows (w : World) (base : Nat) (v : Value) (vals : List Value) (R : List (List Nat)) : Prop where
  outer : w.ownsRow base 33 1 v R.length vals
  inner : ∀ (i : Nat) (x : Value), vals[i]? = some x → OwnN w base x (nb R i)
  apart : ∀ (i j : Nat) (x y : Value) (b : Nat), i ≠ j → vals[i]? = some x → vals[j]? = some y → x.ownBlock = some b → y.ownBlock ≠ some b

theorem OwnRows.len {w : World} {base : Nat} {v : Value} {vals : List Value} {R : List (List Nat)} (h : OwnRows w base v vals R) : vals.length = R.length := by
  have := h.outer.1; omega

theorem own_blk_lt {w : World} {base : Nat} {e : TypeId} {size n : Nat} {v : Value} {xs : List Value} (h : w.ownsRow base e size v n xs) {b : Nat} (hb : v.ownBlock = some b) : ∃ cs, w.heap[b]? = some (.cells cs e (0, 0)) ∧ b < w.heap.size ∧ base ≤ b := by
  obtain ⟨cs, hc⟩ := own_typed h b hb
  exact ⟨cs, hc, (Array.getElem?_eq_some_iff.1 hc).1, own_base h b hb⟩

theorem own_types_ne {w : World} {base base' : Nat} {e e' : TypeId} {size n size' n' : Nat} {v v' : Value} {xs xs' : List Value} (h : w.ownsRow base e size v n xs) (h' : w.ownsRow base' e' size' v' n' xs') (hne : e ≠ e') {b : Nat}
    (hb : v.ownBlock = some b) : v'.ownBlock ≠ some b := by
  intro hb'
  obtain ⟨cs, hc⟩ := own_typed h b hb
  obtain ⟨cs', hc'⟩ := own_typed h' b hb'
  rw [hc] at hc'
  injection hc' with hc'
  injection hc' with _ ht
  exact hne ht

/-- What another row's writing, new blocks and draws leave. -/
theorem own_grown {w w1 : World} {base : Nat} {e : TypeId} {size n : Nat} {v : Value} {xs : List Value} (h : w.ownsRow base e size v n xs) {row : Option Nat} (hg : w.grownBy w1 row) (hne : ∀ b, v.ownBlock = some b → row ≠ some b) : w1.ownsRow base e size v n xs :=
  own_move h (fun k hk => hg.block k (own_blk_lt h hk).choose_spec.2.1 (fun e => hne k hk e.symm))

theorem own_set_far {w : World} {base : Nat} {e : TypeId} {size n : Nat} {v : Value} {xs : List Value} (h : w.ownsRow base e size v n xs) {g j : Nat} (hne : v.ownBlock ≠ some g) (u : Value) : (w.setCell ⟨g, j, none⟩ u).ownsRow base e size v n xs :=
  own_move h (fun k hk => Below.heap_setCell _ _ _ _ (fun e => hne (by rw [hk]; exact congrArg some e)))

theorem OwnRows.form {w : World} {base : Nat} {v : Value} {vals : List Value} {R : List (List Nat)} (h : OwnRows w base v vals R) {i : Nat} (hi : i < R.length) :
    ∃ g cap x, v = .slice (some ⟨g, 0, none⟩) R.length cap ∧ vals[i]? = some x ∧ w.cell? ⟨g, i, none⟩ = some x ∧ w.frozen? ⟨g, i, none⟩ = false ∧ OwnN w base x (nb R i) ∧ base ≤ g ∧ g < w.heap.size := by
  obtain ⟨g, cap, hv, hb, hlt⟩ := h.outer.form (by omega)
  have hl := h.len
  have hx : vals[i]? = some vals[i] := List.getElem?_eq_getElem (by omega)
  subst hv
  have hc := h.outer.cells (g := g) rfl i _ hx
  rw [add_plain] at hc
  obtain ⟨cs, hcs⟩ := own_typed h.outer g rfl
  exact ⟨g, cap, _, rfl, hx, by simpa using hc, by simp [World.frozen?, hcs], h.inner i _ hx, hb, hlt⟩

/-- Row i has been written (and may lie elsewhere now), and its slice is stored back. -/
theorem OwnRows.put {w w1 : World} {base g n cap i : Nat} {vals : List Value} {R : List (List Nat)} {x x1 : Value} {r : List Nat} (h : OwnRows w base (.slice (some ⟨g, 0, none⟩) n cap) vals R) (hi : i < R.length) (hx : vals[i]? = some x)
    (hg : w.grownBy w1 x.ownBlock) (ho : OwnN w1 base x1 r) (hat : x1.ownBlock = x.ownBlock ∨ ∃ b, x1.ownBlock = some b ∧ w.heap.size ≤ b) :
    OwnRows (w1.setCell ⟨g, i, none⟩ x1) base (.slice (some ⟨g, 0, none⟩) n cap) (vals.set i x1) (R.set i r) := by
  obtain ⟨_, _, _, hv, -⟩ := h.form hi
  cases hv
  have hl := h.len
  have hin := h.inner i x hx
  have hgx : x.ownBlock ≠ some g := own_types_ne h.outer hin (by decide) rfl
  have hout : w1.ownsRow base 33 1 (.slice (some ⟨g, 0, none⟩) R.length cap) R.length vals := own_grown h.outer hg (fun b hb => own_types_ne h.outer hin (by decide) hb)
  have hgx1 : x1.ownBlock ≠ some g := own_types_ne hout ho (by decide) rfl
  refine ⟨?_, ?_, ?_⟩
  · have := (hout.stored i x1).1
    simpa using this
  · intro j y hy
    by_cases e : j = i
    · subst e
      rw [List.getElem?_set_self (by omega)] at hy
      cases hy
      have : nb (R.set j r) j = r := by unfold nb; rw [List.getD_eq_getElem?_getD, List.getElem?_set_self hi]; rfl
      rw [this]
      exact own_set_far ho hgx1 _
    · rw [List.getElem?_set_ne (by omega)] at hy
      have hj := h.inner j y hy
      have : nb (R.set i r) j = nb R j := by unfold nb; rw [List.getD_eq_getElem?_getD, List.getElem?_set_ne (by omega), ← List.getD_eq_getElem?_getD]
      rw [this]
      have hy1 : w1.ownsRow base 3 1 y (nb R j).length ((nb R j).map encN) := own_grown hj hg (fun b hb => h.apart j i y x b e hy hx hb)
      exact own_set_far hy1 (own_types_ne hout hy1 (by decide) rfl) _
  · have key : ∀ (j : Nat) (y : Value) (b : Nat), j ≠ i → vals[j]? = some y → y.ownBlock = some b → x1.ownBlock ≠ some b := by
      intro j y b hj hy hb
      have hlt := (own_blk_lt (h.inner j y hy) hb).choose_spec.2.1
      rcases hat with hat | ⟨c, hc, hle⟩
      · rw [hat]; exact h.apart j i y x b hj hy hx hb
      · rw [hc]; intro e; injection e with e; omega
    intro j k y z b hjk hy hz hb
    by_cases ej : j = i
    · subst ej
      rw [List.getElem?_set_self (by omega)] at hy
      cases hy
      rw [List.getElem?_set_ne (by omega)] at hz
      intro hb'
      exact key k z b (by omega) hz hb' hb
    · rw [List.getElem?_set_ne (by omega)] at hy
      by_cases ek : k = i
      · subst ek
        rw [List.getElem?_set_self (by omega)] at hz
        cases hz
        exact key j y b ej hy hb
      · rw [List.getElem?_set_ne (by omega)] at hz
        exact h.apart j k y z b hjk hy hz hb

theorem OwnRows.get {w : World} {base g n cap : Nat} {vals : List Value} {R : List (List Nat)} (h : OwnRows w base (.slice (some ⟨g, 0, none⟩) n cap) vals R) {i : Nat} (hi : i < R.length) :
    ∃ x, vals[i]? = some x ∧ w.cell? ⟨g, i, none⟩ = some x ∧ w.frozen? ⟨g, i, none⟩ = false ∧ OwnN w base x (nb R i) ∧ base ≤ g ∧ g < w.heap.size := by
  obtain ⟨g', cap', x, hv, h1, h2, h3, h4, h5, h6⟩ := h.form hi
  cases hv
  exact ⟨x, h1, h2, h3, h4, h5, h6⟩

theorem own_below {w w1 : World} {base : Nat} {e : TypeId} {size n : Nat} {v : Value} {xs : List Value} (h : w.ownsRow base e size v n xs) (hb : Below w.heap.size w w1) : w1.ownsRow base e size v n xs :=
  own_move h (fun k hk => hb.block k (own_blk_lt h hk).choose_spec.2.1)

theorem OwnRows.below {w w1 : World} {base : Nat} {v : Value} {vals : List Value} {R : List (List Nat)} (h : OwnRows w base v vals R) (hb : Below w.heap.size w w1) : OwnRows w1 base v vals R :=
  ⟨own_below h.outer hb, fun i x hx => own_below (h.inner i x hx) hb, h.apart⟩

/-- Behind an append to row i, ahead of the store: the outer row's cell i still holds the old slice, and may be written. -/
theorem OwnRows.cell_grown {w w1 : World} {base g n cap i : Nat} {vals : List Value} {R : List (List Nat)} {x : Value} (h : OwnRows w base (.slice (some ⟨g, 0, none⟩) n cap) vals R) (hx : vals[i]? = some x) (hg : w.grownBy w1 x.ownBlock) :
    w1.cell? ⟨g, i, none⟩ = some x ∧ w1.frozen? ⟨g, i, none⟩ = false := by
  have hin := h.inner i x hx
  have hc := h.outer.cells (g := g) rfl i _ hx
  rw [add_plain] at hc
  obtain ⟨cs, hcs⟩ := own_typed h.outer g rfl
  have hout := own_grown h.outer hg (fun b hb => own_types_ne h.outer hin (by decide) hb)
  have hc1 := hout.cells (g := g) rfl i _ hx
  rw [add_plain] at hc1
  obtain ⟨cs1, hcs1⟩ := own_typed hout g rfl
  exact ⟨by simpa using hc1, by simp [World.frozen?, hcs1]⟩

/-- make([][]int, n). -/
theorem OwnRows.made (W : World) (base n : Nat) (hb : base ≤ W.heap.size) (hn : n ≤ 131072) :
    OwnRows (W.alloc (.cells (madeCells #[.slice none 0 0] n) 33)) base (.slice (some ⟨W.heap.size, 0, none⟩) n n) (List.replicate n (.slice none 0 0)) (List.replicate n []) := by
  have h := World.ownsRow_lit (base := base) (e := 33) (size := 1) W (madeCells #[.slice none 0 0] n) n hb (by unfold maxLen; omega) (by simp [size_madeCells])
  have hl : (madeCells #[Value.slice none 0 0] n).toList = List.replicate n (.slice none 0 0) := by
    apply List.ext_getElem
    · simp [madeCells]
    · intro i h1 h2
      simp [madeCells, Nat.mod_one]
  rw [hl] at h
  refine ⟨by simpa using h, ?_, ?_⟩
  · intro i x hx
    rw [List.getElem?_replicate] at hx
    split at hx
    · cases hx
      have : nb (List.replicate n ([] : List Nat)) i = [] := by unfold nb; rw [List.getD_eq_getElem?_getD, List.getElem?_replicate]; split <;> rfl
      rw [this]
      exact World.ownsRow_nil _ _ _ _
    · cases hx
  · intro i j x y b _ hx _ hb'
    rw [List.getElem?_replicate] at hx
    split at hx
    · cases hx; simp [Value.ownBlock] at hb'
    · cases hx

/-- The kind of an edge. -/
def kE : Kd (Int × Int) := Kd.pair (Kd.int .i64) (Kd.int .i64)

theorem kE_open {w : World} {x : Int × Int} {cs : List Value} (h : kE.K w x cs) : cs = [.int .i64 x.1, .int .i64 x.2] := by
  obtain ⟨_, _, rfl, rfl, rfl⟩ := h
  exact rfl

theorem edge_at {w : World} {A : Option Addr} {n : Nat} {E : List (Int × Int)} (h : kE.C w A n E) (i : Nat) (h1 : i < n) :
    ∃ ad x, A = some ad ∧ E[i]? = some x ∧ w.cell? (ad.add (i * 2)) = some (.int .i64 x.1) ∧ w.cell? ⟨(ad.add (i * 2)).block, (ad.add (i * 2)).off + 1, none⟩ = some (.int .i64 x.2) := by
  obtain ⟨ad, e, hc⟩ := h.2.2 (by omega)
  have hl : i < E.length := by have := h.1; omega
  obtain ⟨c, hs, hr, hcell⟩ := hc i _ (List.getElem?_eq_getElem hl)
  obtain rfl := kE_open hr
  exact ⟨ad, E[i], e, List.getElem?_eq_getElem hl, hcell 0 _ rfl, by rw [← add_field _ _ 1 (by omega)]; exact hcell 1 _ rfl⟩

end Go.Proofs.Ytdddbjaggfaofaa.Mem

namespace Go.Proofs.Ytdddbjaggfaofaa.Mem
open Go.RowKit Go.Proofs.Ytdddbjaggfaofaa.GM Go.Proofs.YtdddbjaggfaofaaW.PrintWords Go.Proofs.YtdddbjaggfaofaaW.PrintMore
attribute [local go_sem] max2_int min2_int max_two min_two
set_option linter.unusedVariables false

/-- An edge whose ends are things. -/
def EOk (n : Int) (e : Int × Int) : Prop := 0 ≤ e.1 ∧ e.1 < n ∧ 0 ≤ e.2 ∧ e.2 < n
/-- Is (a, b) an edge (turned, if back)? -/
def Has (E : List (Int × Int)) (back : Bool) (a b : Nat) : Prop := if back then ((b : Int), (a : Int)) ∈ E else ((a : Int), (b : Int)) ∈ E

/-- What the first loop has made of the edges E. -/
def RowsIn (n : Nat) (E : List (Int × Int)) (back : Bool) (R : List (List Nat)) : Prop :=
  R.length = n ∧ ∀ a b, b ∈ nb R a ↔ Has E back a b
def RowsSum (R : List (List Nat)) (k : Nat) : Prop := ∀ a, (nb R a).length ≤ k

/-- What rows hands back. -/
def RowsPost (w : World) (n : Int) (E : List (Int × Int)) (back : Bool) (e : Ending) (w' : World) : Prop :=
  Below w.heap.size w w' ∧
  ((¬(0 ≤ n ∧ n ≤ 131072 ∧ ∀ x ∈ E, EOk n x) ∧ e = .returned (.tuple #[.slice none 0 0, .bool false])) ∨
   ((∀ x ∈ E, EOk n x) ∧ ∃ (m : Nat) (vals : List Value) (R : List (List Nat)), n = (m : Int) ∧ m ≤ 131072 ∧ e = .returned (.tuple #[.slice (some ⟨w.heap.size, 0, none⟩) m m, .bool true]) ∧
    OwnRows w' w.heap.size (.slice (some ⟨w.heap.size, 0, none⟩) m m) vals R ∧ RowsIn m E back R ∧ ∀ a, Rising (nb R a)))

theorem nb_set {R : List (List Nat)} {p : Nat} {r : List Nat} (hp : p < R.length) (a : Nat) : nb (R.set p r) a = if a = p then r else nb R a := by
  unfold nb
  by_cases e : a = p
  · subst e; rw [if_pos rfl, List.getD_eq_getElem?_getD, List.getElem?_set_self hp]; rfl
  · rw [if_neg e, List.getD_eq_getElem?_getD, List.getElem?_set_ne (by omega), ← List.getD_eq_getElem?_getD]

theorem rows_start (n : Nat) (E : List (Int × Int)) (back : Bool) : RowsIn n (E.take 0) back (List.replicate n []) ∧ (∀ x ∈ E.take 0, EOk n x) ∧ RowsSum (List.replicate n []) 0 := by
  have h : ∀ a, nb (List.replicate n ([] : List Nat)) a = [] := fun a => by unfold nb; rw [List.getD_eq_getElem?_getD, List.getElem?_replicate]; split <;> rfl
  refine ⟨⟨by simp, fun a b => ?_⟩, by simp, fun a => by rw [h]; simp⟩
  rw [h]
  unfold Has
  cases back <;> simp

theorem rows_step {n k a b p q : Nat} {E : List (Int × Int)} {back : Bool} {R : List (List Nat)} (h : RowsIn n (E.take k) back R ∧ (∀ x ∈ E.take k, EOk n x) ∧ RowsSum R k) (hx : E[k]? = some ((a : Int), (b : Int)))
    (ha : a < n) (hb : b < n) (hp : p = if back then b else a) (hq : q = if back then a else b) :
    RowsIn n (E.take (k + 1)) back (R.set p (nb R p ++ [q])) ∧ (∀ x ∈ E.take (k + 1), EOk n x) ∧ RowsSum (R.set p (nb R p ++ [q])) (k + 1) := by
  obtain ⟨⟨h1, h2⟩, h3, h4⟩ := h
  have hpn : p < R.length := by rw [h1, hp]; split <;> omega
  have ht : E.take (k + 1) = E.take k ++ [((a : Int), (b : Int))] := by rw [List.take_add_one, hx]; rfl
  refine ⟨⟨by rw [List.length_set]; exact h1, fun x y => ?_⟩, fun x hx => ?_, fun x => ?_⟩
  · rw [nb_set hpn, ht]
    have hm : Has (E.take k ++ [((a : Int), (b : Int))]) back x y ↔ Has (E.take k) back x y ∨ (x = p ∧ y = q) := by
      unfold Has
      cases back
      · simp only [Bool.false_eq_true, if_false] at hp hq ⊢
        subst hp hq
        simp only [List.mem_append, List.mem_singleton, Prod.mk.injEq, Int.natCast_inj]
      · simp only [if_true] at hp hq ⊢
        subst hp hq
        simp only [List.mem_append, List.mem_singleton, Prod.mk.injEq, Int.natCast_inj]
        rw [and_comm (a := y = q)]
    rw [hm]
    by_cases e : x = p
    · subst e
      rw [if_pos rfl, List.mem_append, List.mem_singleton, h2]
      simp
    · rw [if_neg e, h2]
      simp [e]
  · rw [ht, List.mem_append, List.mem_singleton] at hx
    rcases hx with hx | rfl
    · exact h3 x hx
    · exact ⟨by simp, by simpa using ha, by simp, by simpa using hb⟩
  · rw [nb_set hpn]
    have := h4 x
    split
    · rename_i e
      subst e
      simp only [List.length_append, List.length_cons, List.length_nil]
      omega
    · omega

theorem sort_step {n j m : Nat} {E : List (Int × Int)} {back : Bool} {R : List (List Nat)} {ys : List Nat} (hj : j < R.length) (h : RowsIn n E back R ∧ RowsSum R m ∧ ∀ a, a < j → Rising (nb R a))
    (hy : Rising ys ∧ (∀ x, x ∈ ys ↔ x ∈ nb R j) ∧ ys.length ≤ (nb R j).length) : RowsIn n E back (R.set j ys) ∧ RowsSum (R.set j ys) m ∧ ∀ a, a < j + 1 → Rising (nb (R.set j ys) a) := by
  obtain ⟨⟨h1, h2⟩, h3, h4⟩ := h
  refine ⟨⟨by rw [List.length_set]; exact h1, fun a b => ?_⟩, fun a => ?_, fun a ha => ?_⟩
  · rw [nb_set hj, ← h2]
    split
    · rename_i e; subst e; exact hy.2.1 b
    · rfl
  · rw [nb_set hj]
    split
    · rename_i e; subst e; have := h3 a; omega
    · exact h3 a
  · rw [nb_set hj]
    split
    · exact hy.1
    · exact h4 a (by omega)

set_option maxHeartbeats 1000000 in
set_option maxRecDepth 100000 in
theorem rows_calls (n : Int) (E : List (Int × Int)) (back : Bool) (A : Option Addr) (c : Nat) (w : World) (hr : kE.C w A E.length E) (hE : E.length ≤ 8796093022208) :
    Calls Try.prog 42 #[.int .i64 n, .slice A E.length c, .bool back] w fun e w' => RowsPost w n E back e w' := by
  by_cases h0 : n < 0
  · go_enter Try.func42, Try.ntmps42
    go_wp2_with fail
    go_ret2
    exact ⟨Below.refl _ _, .inl ⟨by omega, rfl⟩⟩
  by_cases h1 : n > 131072
  · go_enter Try.func42, Try.ntmps42
    go_wp2_with fail
    go_ret2
    exact ⟨Below.refl _ _, .inl ⟨by omega, rfl⟩⟩
  obtain ⟨n, rfl⟩ := Int.eq_ofNat_of_zero_le (show 0 ≤ n by omega)
  have hmk := run_make_row' (P := Try.prog) 45 33 (.slice none 0 0) 24 Try.underlying45 info33 rfl .i64 .i64 n (by omega) (by omega)
  have hmade := OwnRows.made w w.heap.size n (Nat.le_refl _) (by omega)
  have HM := Aside0.mk hmade
  have HR := Aside0.mk hr
  clear hr hmade
  go_enter Try.func42, Try.ntmps42
  go_wp2_with fail
  have hE0 := hE
  go_loopg [24] E.length (fun g i wr => ∃ k : Nat, k ≤ E.length ∧ g = E.length - k ∧ i = .int .i64 k ∧ Aside0 (Below w.heap.size w wr) ∧ ∃ (vals : List Value) (R : List (List Nat)),
    Aside0 (OwnRows wr w.heap.size (.slice (some ⟨w.heap.size, 0, none⟩) n n) vals R ∧ RowsIn n (E.take k) back R ∧ (∀ x ∈ E.take k, EOk n x) ∧ RowsSum R k))
  case atStart =>
    exact ⟨0, Nat.zero_le _, rfl, rfl, ⟨(Below.refl _ _).alloc (Nat.le_refl _) _⟩, _, _, ⟨HM.out, rows_start n E back⟩⟩
  case round =>
    obtain ⟨k, hk, rfl, rfl, HB, vals, R, HO⟩ := hrel
    by_cases hlt : k < E.length
    · obtain ⟨ad, x, rfl, hx, c0, c1⟩ := edge_at HR.out k hlt
      have d0 := (HB.out.cell (World.block_lt_of_cell? w _ c0)).trans c0
      have d1 := (HB.out.cell (World.block_lt_of_cell? w _ c1)).trans c1
      obtain ⟨x1, x2⟩ := x
      have HX := Aside0.mk hx
      clear hx c0 c1
      go_wp2_with fail
      clear d0 d1
      go_quiet (fail)
      by_cases hok : EOk n (x1, x2)
      · obtain ⟨o1, o2, o3, o4⟩ := hok
        simp only at o1 o2 o3 o4
        obtain ⟨a, rfl⟩ := Int.eq_ofNat_of_zero_le o1
        obtain ⟨b, rfl⟩ := Int.eq_ofNat_of_zero_le o3
        have hRn : R.length = n := HO.out.2.1.1
        obtain ⟨p, q, hp, hq⟩ : ∃ p q : Nat, p < n ∧ (p = if back then b else a) ∧ (q = if back then a else b) := by
          cases back
          · exact ⟨a, b, by omega, rfl, rfl⟩
          · exact ⟨b, a, by omega, rfl, rfl⟩
        obtain ⟨xv, hxv, hcell, hfroz, hown, hgb, hglt⟩ := HO.out.1.get (i := p) (by omega)
        obtain ⟨W, hW⟩ : ∃ W, W = ((wr.alloc (Obj.cells #[Value.int IntKind.i64 a, Value.int IntKind.i64 b] 52)).drewN nq) := ⟨_, rfl⟩
        have hbW : Below wr.heap.size wr W := by rw [hW]; exact pw_below_drewN ((Below.refl _ _).alloc (Nat.le_refl _) _) _
        rw [← hW]
        have HBW := Aside0.mk (HB.out.trans (hbW.mono HB.out.size))
        have HOW := Aside0.mk (HO.out.1.below hbW)
        have HOWN := Aside0.mk (own_below hown hbW)
        replace hcell := (hbW.cell (p := ⟨w.heap.size, p, none⟩) hglt).trans hcell
        obtain ⟨hq1, hq2⟩ := hq
        have HQ := Aside0.mk (And.intro hq1 hq2)
        have HXV := Aside0.mk hxv
        have HRN := Aside0.mk hRn
        have HSZ := Aside0.mk (HBW.out.size)
        have HLEN := Aside0.mk (HO.out.2.2.2 p)
        clear hq1 hq2 hown hxv hRn hfroz hW hbW
        have HAB := Aside0.mk (show a < n ∧ b < n by omega)
        have HPL := Aside0.mk (show p < R.length by have := HRN.out; omega)
        cases back <;> by_cases hab : (b : Int) < (a : Int)
        · have hpa : p = a := HQ.out.1
          have hqb : q = b := HQ.out.2
          subst hpa hqb
          go_wp2_with (at_builtin; refine print_append (w0 := w) (W := W) w.heap.size rfl (.tmp 51) (.tmp 53) 33 3 (.int .i64 0) 8 rfl Try.underlying33 info3 rfl (by decide) xv ((nb R p).map encN) (encN q) rfl rfl rfl ?aO ?aB ?aS ?aL ?_; (case aO => rw [List.length_map]; exact HOWN.out); (case aB => exact HBW.out); (case aS => exact HSZ.out); (case aL => rw [List.length_map]; have := HLEN.out; omega); intro v1 w1 ho hb hg hat; obtain ⟨A1, C1, he⟩ := own_slice ho; subst he; have hcg := HOW.out.cell_grown HXV.out hg; have hcg1 := hcg.1; have hcg2 := hcg.2; clear hcg; have HREL := Aside0.mk (HOW.out.put (r := nb R p ++ [q]) HPL.out HXV.out hg (by unfold OwnN; simpa using ho) hat); have HBE := Aside0.mk hb; clear hb hg hat ho)
          all_goals
            go_roundg (E.length - (k + 1))
            case rel => exact ⟨k + 1, by omega, rfl, by go_num, ⟨HBE.out.setCell (Nat.le_refl _) _⟩, _, _, ⟨by simpa using HREL.out, rows_step HO.out.2 HX.out HAB.out.1 HAB.out.2 HQ.out.1 HQ.out.2⟩⟩
            case measure => omega
        · have hpa : p = a := HQ.out.1
          have hqb : q = b := HQ.out.2
          subst hpa hqb
          go_wp2_with (at_builtin; refine print_append (w0 := w) (W := W) w.heap.size rfl (.tmp 51) (.tmp 53) 33 3 (.int .i64 0) 8 rfl Try.underlying33 info3 rfl (by decide) xv ((nb R p).map encN) (encN q) rfl rfl rfl ?aO ?aB ?aS ?aL ?_; (case aO => rw [List.length_map]; exact HOWN.out); (case aB => exact HBW.out); (case aS => exact HSZ.out); (case aL => rw [List.length_map]; have := HLEN.out; omega); intro v1 w1 ho hb hg hat; obtain ⟨A1, C1, he⟩ := own_slice ho; subst he; have hcg := HOW.out.cell_grown HXV.out hg; have hcg1 := hcg.1; have hcg2 := hcg.2; clear hcg; have HREL := Aside0.mk (HOW.out.put (r := nb R p ++ [q]) HPL.out HXV.out hg (by unfold OwnN; simpa using ho) hat); have HBE := Aside0.mk hb; clear hb hg hat ho)
          all_goals
            go_roundg (E.length - (k + 1))
            case rel => exact ⟨k + 1, by omega, rfl, by go_num, ⟨HBE.out.setCell (Nat.le_refl _) _⟩, _, _, ⟨by simpa using HREL.out, rows_step HO.out.2 HX.out HAB.out.1 HAB.out.2 HQ.out.1 HQ.out.2⟩⟩
            case measure => omega
        · have hpa : p = b := HQ.out.1
          have hqb : q = a := HQ.out.2
          subst hpa hqb
          go_wp2_with (at_builtin; refine print_append (w0 := w) (W := W) w.heap.size rfl (.tmp 51) (.tmp 53) 33 3 (.int .i64 0) 8 rfl Try.underlying33 info3 rfl (by decide) xv ((nb R p).map encN) (encN q) rfl rfl rfl ?aO ?aB ?aS ?aL ?_; (case aO => rw [List.length_map]; exact HOWN.out); (case aB => exact HBW.out); (case aS => exact HSZ.out); (case aL => rw [List.length_map]; have := HLEN.out; omega); intro v1 w1 ho hb hg hat; obtain ⟨A1, C1, he⟩ := own_slice ho; subst he; have hcg := HOW.out.cell_grown HXV.out hg; have hcg1 := hcg.1; have hcg2 := hcg.2; clear hcg; have HREL := Aside0.mk (HOW.out.put (r := nb R p ++ [q]) HPL.out HXV.out hg (by unfold OwnN; simpa using ho) hat); have HBE := Aside0.mk hb; clear hb hg hat ho)
          all_goals
            go_roundg (E.length - (k + 1))
            case rel => exact ⟨k + 1, by omega, rfl, by go_num, ⟨HBE.out.setCell (Nat.le_refl _) _⟩, _, _, ⟨by simpa using HREL.out, rows_step HO.out.2 HX.out HAB.out.1 HAB.out.2 HQ.out.1 HQ.out.2⟩⟩
            case measure => omega
        · have hpa : p = b := HQ.out.1
          have hqb : q = a := HQ.out.2
          subst hpa hqb
          go_wp2_with (at_builtin; refine print_append (w0 := w) (W := W) w.heap.size rfl (.tmp 51) (.tmp 53) 33 3 (.int .i64 0) 8 rfl Try.underlying33 info3 rfl (by decide) xv ((nb R p).map encN) (encN q) rfl rfl rfl ?aO ?aB ?aS ?aL ?_; (case aO => rw [List.length_map]; exact HOWN.out); (case aB => exact HBW.out); (case aS => exact HSZ.out); (case aL => rw [List.length_map]; have := HLEN.out; omega); intro v1 w1 ho hb hg hat; obtain ⟨A1, C1, he⟩ := own_slice ho; subst he; have hcg := HOW.out.cell_grown HXV.out hg; have hcg1 := hcg.1; have hcg2 := hcg.2; clear hcg; have HREL := Aside0.mk (HOW.out.put (r := nb R p ++ [q]) HPL.out HXV.out hg (by unfold OwnN; simpa using ho) hat); have HBE := Aside0.mk hb; clear hb hg hat ho)
          all_goals
            go_roundg (E.length - (k + 1))
            case rel => exact ⟨k + 1, by omega, rfl, by go_num, ⟨HBE.out.setCell (Nat.le_refl _) _⟩, _, _, ⟨by simpa using HREL.out, rows_step HO.out.2 HX.out HAB.out.1 HAB.out.2 HQ.out.1 HQ.out.2⟩⟩
            case measure => omega
      · have hbad : (x2 < x1 ∧ x2 < 0) ∨ (x2 < x1 ∧ ¬ x2 < 0 ∧ (n : Int) ≤ x1) ∨ (¬ x2 < x1 ∧ x1 < 0) ∨ (¬ x2 < x1 ∧ ¬ x1 < 0 ∧ (n : Int) ≤ x2) := by
          unfold EOk at hok
          simp only at hok
          omega
        have fin : ∀ w', Below w.heap.size w w' → RowsPost w n E back (.returned (.tuple #[.slice none 0 0, .bool false])) w' :=
          fun w' h => ⟨h, .inl ⟨fun h' => hok (h'.2.2 _ (List.mem_of_getElem? HX.out)), rfl⟩⟩
        have FIN := Aside0.mk fin
        clear fin hok
        rcases hbad with ⟨b1, b2⟩ | ⟨b1, b2, b3⟩ | ⟨b1, b2⟩ | ⟨b1, b2, b3⟩
        all_goals
          go_wp2_with fail
          all_goals
            go_ret2
            exact FIN.out _ (pw_below_drewN (HB.out.alloc HB.out.size _) _)
    · obtain rfl : k = E.length := by omega
      have HO2 := Aside0.mk (show OwnRows wr w.heap.size (.slice (some ⟨w.heap.size, 0, none⟩) n n) vals R ∧ RowsIn n E back R ∧ (∀ x ∈ E, EOk n x) ∧ RowsSum R E.length by
        have := HO.out
        rwa [List.take_length] at this)
      have HEO := Aside0.mk HO2.out.2.2.1
      clear HO HM hmk
      go_wp2_with fail
      go_loopg [13, 59] n (fun g i13 i wq => ∃ j : Nat, j ≤ n ∧ g = n - j ∧ i = .int .i64 j ∧ Aside0 (Below w.heap.size w wq) ∧ ∃ (vals : List Value) (R : List (List Nat)),
        Aside0 (OwnRows wq w.heap.size (.slice (some ⟨w.heap.size, 0, none⟩) n n) vals R ∧ RowsIn n E back R ∧ RowsSum R E.length ∧ ∀ a, a < j → Rising (nb R a)))
      case atStart => exact ⟨0, Nat.zero_le _, rfl, rfl, HB, _, _, ⟨HO2.out.1, HO2.out.2.1, HO2.out.2.2.2, fun a ha => by omega⟩⟩
      case round =>
        clear HO2 HB
        obtain ⟨j, hj, rfl, rfl, HB, vals, R, HO⟩ := hrel
        by_cases hlt2 : j < n
        · have hRn : R.length = n := HO.out.2.1.1
          obtain ⟨xv, hxv, hcell, hfroz, hown, hgb, hglt⟩ := HO.out.1.get (i := j) (by omega)
          have HOWN := Aside0.mk hown
          have HXV := Aside0.mk hxv
          have HPL := Aside0.mk (show j < R.length by omega)
          clear hown hxv hRn
          go_wp2_with fail
          refine (sorted_calls w.heap.size xv (nb R j) _ HOWN.out (by have := HO.out.2.2.1 j; omega)).mono ?_
          rintro e w1 ⟨v', ys, rfl, ho, hri, hmem, hle, hblk, hg⟩
          obtain ⟨A1, C1, he⟩ := own_slice ho
          subst he
          have hcg := HO.out.1.cell_grown HXV.out hg
          have hcg1 := hcg.1
          have hcg2 := hcg.2
          have HREL := Aside0.mk (HO.out.1.put (r := ys) HPL.out HXV.out hg ho (.inl hblk))
          have HBE := Aside0.mk (HB.out.grown hg HB.out.size (fun b hb => (own_blk_lt HOWN.out hb).choose_spec.2.2))
          have HF := Aside0.mk (And.intro hri (And.intro hmem hle))
          clear hcg ho hg hri hmem hle hblk
          go_wp2_with fail
          go_roundg (n - (j + 1))
          case rel => exact ⟨j + 1, by omega, rfl, by go_num, ⟨HBE.out.setCell (Nat.le_refl _) _⟩, _, _, ⟨HREL.out, sort_step HPL.out HO.out.2 HF.out⟩⟩
          case measure => omega
        · obtain rfl : j = n := by omega
          go_wp2_with fail
          go_ret2
          have hRn : R.length = j := HO.out.2.1.1
          refine ⟨HB.out, .inr ⟨HEO.out, _, vals, R, rfl, by omega, rfl, HO.out.1, HO.out.2.1, fun a => ?_⟩⟩
          by_cases hlt3 : a < j
          · exact HO.out.2.2.2 a hlt3
          · have : nb R a = [] := by unfold nb; rw [List.getD_eq_getElem?_getD, List.getElem?_eq_none (by omega)]; rfl
            rw [this]
            simp [Rising]

end Go.Proofs.Ytdddbjaggfaofaa.Mem
