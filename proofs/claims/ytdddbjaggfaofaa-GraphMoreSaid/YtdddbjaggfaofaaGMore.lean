/- Plain lemmas on a thing more, that nothing needs and that needs nothing. No Go and no memory. -/
import Derived.Test.YtdddbjaggfaofaaTied
import Derived.Test.YtdddbjaggfaofaaOrders
namespace Go.Proofs.Ytdddbjaggfaofaa.Mem
open Go.Proofs.Ytdddbjaggfaofaa.GM
set_option linter.unusedVariables false

/-- Without the thing n. -/
def wo (n : Nat) (D : List Nat) : List Nat := D.filter (fun x => decide (x ≠ n))
theorem wo_mem {n x : Nat} {D : List Nat} : x ∈ wo n D ↔ x ∈ D ∧ x ≠ n := by unfold wo; rw [List.mem_filter, decide_eq_true_iff]
theorem wo_append {n : Nat} {D F : List Nat} : wo n (D ++ F) = wo n D ++ wo n F := List.filter_append ..
theorem wo_one {n : Nat} : wo n [n] = [] := by simp [wo]
theorem wo_other {n x : Nat} (h : x ≠ n) : wo n [x] = [x] := by simp [wo, h]
theorem wo_at {n i x : Nat} {D : List Nat} (h : D[i]? = some x) (hx : x ≠ n) : (wo n D)[(wo n (D.take i)).length]? = some x := by
  obtain ⟨hi, e⟩ := List.getElem?_eq_some_iff.1 h
  have h1 : D = D.take i ++ (x :: D.drop (i + 1)) := by
    rw [← e, ← List.drop_eq_getElem_cons hi, List.take_append_drop]
  have h2 : wo n D = wo n (D.take i) ++ (x :: wo n (D.drop (i + 1))) := by
    conv => lhs; rw [h1, wo_append]
    rw [show x :: D.drop (i + 1) = [x] ++ D.drop (i + 1) from rfl, wo_append, wo_other hx]
    rfl
  rw [h2, List.getElem?_append_right (Nat.le_refl _), Nat.sub_self]
  rfl
theorem wo_take {n i x : Nat} {D : List Nat} (h : D[i]? = some x) : (wo n (D.take (i + 1))).length = (wo n (D.take i)).length + (if x = n then 0 else 1) := by
  rw [List.take_add_one, h, wo_append, List.length_append]
  by_cases e : x = n
  · subst e
    rw [if_pos rfl, show (some x).toList = [x] from rfl, wo_one]; rfl
  · rw [if_neg e, show (some x).toList = [x] from rfl, wo_other e]; rfl

theorem rdy_wo {T T' : Nat → Prop} {N : Nat → Nat → Prop} {n : Nat} (hT : ∀ x, T' x ↔ T x ∨ x = n) (hn : ¬ T n) (hN : ∀ x y, N x y → x ≠ n ∧ y ≠ n) {D : List Nat} {x : Nat} (hx : x ≠ n) : Rdy T' N D x ↔ Rdy T N (wo n D) x := by
  unfold Rdy
  rw [hT, wo_mem]
  constructor
  · rintro ⟨h1, h2, h3⟩
    exact ⟨h1.resolve_right hx, fun h => h2 h.1, fun y hy => wo_mem.2 ⟨h3 y hy, (hN x y hy).2⟩⟩
  · rintro ⟨h1, h2, h3⟩
    exact ⟨.inl h1, fun h => h2 ⟨h, hx⟩, fun y hy => (wo_mem.1 (h3 y hy)).1⟩
theorem Ln.wo {T T' : Nat → Prop} {N : Nat → Nat → Prop} {n : Nat} (hT : ∀ x, T' x ↔ T x ∨ x = n) (hn : ¬ T n) (hN : ∀ x y, N x y → x ≠ n ∧ y ≠ n) {D : List Nat} (h : Ln T' N D) : Ln T N (wo n D) := by
  induction h with
  | nil => exact .nil
  | @snoc D x h hx ih =>
    rw [wo_append]
    by_cases e : x = n
    · rw [e, wo_one, List.append_nil]; exact ih
    · rw [wo_other e]
      exact .snoc ih ⟨(rdy_wo hT hn hN e).1 hx.1, fun y hy => by
        have hyn : y ≠ n := fun e => hn (e ▸ hy.1)
        exact hx.2 y ((rdy_wo hT hn hN hyn).2 hy)⟩
theorem Full.wo {T T' : Nat → Prop} {N : Nat → Nat → Prop} {n : Nat} (hT : ∀ x, T' x ↔ T x ∨ x = n) (hn : ¬ T n) (hN : ∀ x y, N x y → x ≠ n ∧ y ≠ n) {D : List Nat} (h : Full T' N D) : Full T N (wo n D) :=
  ⟨Ln.wo hT hn hN h.1, fun x hx => by
    have hxn : x ≠ n := fun e => hn (e ▸ hx.1)
    exact h.2 x ((rdy_wo hT hn hN hxn).2 hx)⟩
theorem Full.has {T T' : Nat → Prop} {N : Nat → Nat → Prop} {n : Nat} (hT : ∀ x, T' x ↔ T x ∨ x = n) (hN : ∀ x y, N x y → x ≠ n ∧ y ≠ n) {D : List Nat} (h : Full T' N D) : n ∈ D :=
  Classical.byContradiction fun hno => h.2 n ⟨(hT n).2 (.inr rfl), hno, fun y hy => absurd rfl (hN n y hy).1⟩
theorem wo_length {n : Nat} {D : List Nat} (hd : D.Nodup) (hn : n ∈ D) : D.length = (wo n D).length + 1 := by
  have hp : D.Perm (n :: wo n D) := (List.perm_ext_iff_of_nodup hd (List.nodup_cons.2 ⟨fun h => (wo_mem.1 h).2 rfl, hd.filter _⟩)).2 (fun x => by
    rw [List.mem_cons, wo_mem]
    by_cases e : x = n
    · subst e; simp [hn]
    · simp [e])
  rw [hp.length_eq, List.length_cons]

/-! ### the order -/
theorem ok_more {n : Nat} {E : List (Int × Int)} (h : AllOk (n : Int) E) (hn : n ≠ 131072) : AllOk ((n + 1 : Nat) : Int) E :=
  ⟨by omega, by have := h.2.1; omega, fun x hx => by have := h.2.2 x hx; unfold EOk at this ⊢; omega⟩
theorem ne_more {n : Nat} {E : List (Int × Int)} (h : AllOk (n : Int) E) : ∀ x y, NE E x y → x ≠ n ∧ y ≠ n := fun x y hy => by
  have := h.2.2 _ hy
  unfold EOk at this
  simp only at this
  omega
theorem order_more_full {n : Nat} {E : List (Int × Int)} {D D2 : List Nat} (h : AllOk (n : Int) E) (hf : Full (fun x => x < n) (NE E) D) (hf2 : Full (fun x => x < n + 1) (NE E) D2) : wo n D2 = D ∧ D2.length = D.length + 1 := by
  have hT : ∀ x, x < n + 1 ↔ x < n ∨ x = n := fun x => by omega
  have e := (Full.wo (T := fun x => x < n) hT (by omega) (ne_more h) hf2).unique hf
  refine ⟨e, ?_⟩
  rw [← e]
  exact wo_length hf2.1.nodup (Full.has (T := fun x => x < n) hT (ne_more h) hf2)
theorem onc_lt {n : Nat} {E : List (Int × Int)} (h : AllOk (n : Int) E) {x : Nat} (hx : OnC E x) : x < n := by
  obtain ⟨y, hy, _⟩ := hx
  have := h.2.2 _ hy
  unfold EOk at this
  simp only at this
  omega
theorem cyc_more {n : Nat} {E : List (Int × Int)} (h : AllOk (n : Int) E) {C : List Nat} (hc : CycS E n C) : CycS E (n + 1) C := by
  obtain ⟨x, b, a, f, h1, h2, h3, h4⟩ := hc
  exact ⟨x, b, a, f, ⟨by have := h1.1; omega, h1.2.1, fun z _ hz => h1.2.2 z (onc_lt h hz) hz⟩, h2, h3, h4⟩

/-! ### the parts -/
theorem rch_more {n : Nat} {E : List (Int × Int)} (h : AllOk (n : Int) E) {x y : Nat} (hr : Rch E x y) : (x = n ∨ y = n) → x = y := by
  induction hr with
  | refl => exact fun _ => rfl
  | @step u v _ hz ih =>
    have h1 := ne_more h _ _ hz
    rintro (e | e)
    · have := ih (.inl e)
      omega
    · exact absurd e h1.2
theorem pof_more {n x : Nat} {E : List (Int × Int)} (h : AllOk (n : Int) E) (hx : x < n) : pof E (n + 1) x = pof E n x :=
  rising_ext (part_rising _ _ _) (part_rising _ _ _) (fun y => by
    rw [part_mem, part_mem]
    constructor
    · rintro ⟨h1, h2⟩
      refine ⟨?_, h2⟩
      rcases Nat.lt_or_ge y n with c | c
      · exact c
      · have := rch_more h h2.1 (.inr (by omega))
        omega
    · rintro ⟨h1, h2⟩
      exact ⟨by omega, h2⟩)
theorem pof_new {n : Nat} {E : List (Int × Int)} (h : AllOk (n : Int) E) : pof E (n + 1) n = [n] :=
  rising_ext (part_rising _ _ _) (List.pairwise_singleton _ _) (fun y => by
    rw [part_mem, List.mem_singleton]
    constructor
    · rintro ⟨h1, h2⟩
      exact (rch_more h h2.1 (.inl rfl)).symm
    · rintro rfl
      exact ⟨by omega, .refl _⟩)
theorem lo_more {n x : Nat} {E : List (Int × Int)} (h : AllOk (n : Int) E) (hx : x < n) : lo E (n + 1) x = lo E n x := by unfold lo; rw [pof_more h hx]
theorem hd_more {n : Nat} {E : List (Int × Int)} (h : AllOk (n : Int) E) (x : Nat) : Hd E (n + 1) x ↔ Hd E n x ∨ x = n := by
  unfold Hd
  by_cases e : x = n
  · subst e
    have : lo E (x + 1) x = x := by unfold lo; rw [pof_new h]; rfl
    simp [this]
  · constructor
    · rintro ⟨h1, h2⟩
      rw [lo_more h (by omega)] at h2
      exact .inl ⟨by omega, h2⟩
    · rintro (⟨h1, h2⟩ | h1)
      · exact ⟨by omega, by rw [lo_more h h1]; exact h2⟩
      · exact absurd h1 e
theorem nb_more {n : Nat} {E : List (Int × Int)} (h : AllOk (n : Int) E) (x y : Nat) : Nb E (n + 1) x y ↔ Nb E n x y := by
  unfold Nb
  rw [btw_congr (f := lo E (n + 1)) (g := lo E n) (fun e he => by
    obtain ⟨o1, o2, o3, o4⟩ := h.2.2 e he
    exact ⟨lo_more h (by omega), lo_more h (by omega)⟩)]
theorem parts_more {n : Nat} {E : List (Int × Int)} {D D2 : List Nat} (h : AllOk (n : Int) E) (hf : Full (Hd E n) (Nb E n) D) (hf2 : Full (Hd E (n + 1)) (Nb E (n + 1)) D2) : wo n D2 = D ∧ D2.length = D.length + 1 := by
  have hf3 : Full (Hd E (n + 1)) (Nb E n) D2 := hf2.congr (fun x => Iff.rfl) (nb_more h)
  have hN : ∀ x y, Nb E n x y → x ≠ n ∧ y ≠ n := fun x y hy => by
    obtain ⟨h1, h2, -, -⟩ := nb_rch h.2.2 hy
    have := h1.1
    have := h2.1
    omega
  have e := (Full.wo (hd_more h) (fun hn => Nat.lt_irrefl _ hn.1) hN hf3).unique hf
  refine ⟨e, ?_⟩
  rw [← e]
  exact wo_length hf2.1.nodup (Full.has (hd_more h) hN hf3)

/-! ### the classes -/
theorem conn_more_new {n : Nat} {E : List (Int × Int)} (h : AllOk (n : Int) E) {x y : Nat} (hc : Conn (TE E) x y) : x = n → y = n := by
  induction hc with
  | refl => exact fun e => e
  | @step u v _ hz ih =>
    intro e
    have := ih e
    rcases hz with hz | hz
    · exact absurd this (ne_more h _ _ hz).1
    · exact absurd this (ne_more h _ _ hz).2
theorem classes_more {n : Nat} {E : List (Int × Int)} {P P2 : List Nat} (h : AllOk (n : Int) E) (hl : P.length = n) (hl2 : P2.length = n + 1) (hp : ∀ x, x < n → Least (TE E) x (pa P x)) (hp2 : ∀ x, x < n + 1 → Least (TE E) x (pa P2 x)) : pa P2 n = n ∧ P2.take n = P := by
  constructor
  · exact conn_more_new h (hp2 n (by omega)).1 rfl
  · apply List.ext_getElem
    · rw [List.length_take]; omega
    · intro i h1 h2
      rw [List.getElem_take]
      have := (hp2 i (by omega)).unique (hp i (by omega))
      rw [pa_get (by omega), pa_get (by omega)] at this
      exact this

end Go.Proofs.Ytdddbjaggfaofaa.Mem
