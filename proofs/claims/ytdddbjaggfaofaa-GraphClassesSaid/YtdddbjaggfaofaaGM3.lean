/- Plain lemmas on labels of tied things (the document's Classes). No Go and no memory. -/
import Derived.Test.YtdddbjaggfaofaaGM2
namespace Go.Proofs.Ytdddbjaggfaofaa.GM
set_option linter.unusedVariables false

def lb (L : List (Option Nat)) (x : Nat) : Option Nat := L.getD x none
theorem lb_set {L : List (Option Nat)} {x : Nat} {v : Option Nat} (hx : x < L.length) (y : Nat) : lb (L.set x v) y = if y = x then v else lb L y := by
  unfold lb
  rw [List.getD_eq_getElem?_getD, List.getD_eq_getElem?_getD]
  by_cases e : y = x
  · subst e; simp [hx]
  · rw [List.getElem?_set_ne (by omega), if_neg e]
theorem lb_repl (n y : Nat) : lb (List.replicate n none) y = none := by
  unfold lb
  rw [List.getD_eq_getElem?_getD, List.getElem?_replicate]
  split <;> rfl
theorem lb_lt {L : List (Option Nat)} {y l : Nat} (h : lb L y = some l) : y < L.length := by
  unfold lb at h
  rcases Nat.lt_or_ge y L.length with h1 | h1
  · exact h1
  · rw [List.getD_eq_getElem?_getD, List.getElem?_eq_none h1] at h; simp at h
theorem count_none_set {L : List (Option Nat)} {x l : Nat} (hx : x < L.length) (h : lb L x = none) : (L.set x (some l)).count none + 1 = L.count none := by
  induction L generalizing x with
  | nil => simp at hx
  | cons b L ih =>
    cases x with
    | zero =>
      have : b = none := by simpa [lb] using h
      subst this
      simp
    | succ x =>
      have := ih (x := x) (by simpa using hx) (by simpa [lb] using h)
      simp only [List.set_cons_succ, List.count_cons]
      omega

/-- Things below i are labelled; labels are right; what is labelled is closed. -/
structure Lab (n : Nat) (T : Nat → Nat → Prop) (i : Nat) (L : List (Option Nat)) : Prop where
  len : L.length = n
  below : ∀ x, x < i → lb L x ≠ none
  right : ∀ x l, lb L x = some l → Least T x l
  shut : ∀ x, lb L x ≠ none → ∀ y, (T x y ∨ T y x) → lb L y ≠ none

theorem Lab.start (n : Nat) (T : Nat → Nat → Prop) : Lab n T 0 (List.replicate n none) where
  len := by simp
  below := fun x hx => by omega
  right := fun x l h => by rw [lb_repl] at h; cases h
  shut := fun x h => absurd (lb_repl n x) h

theorem Lab.skip {n i : Nat} {T : Nat → Nat → Prop} {L : List (Option Nat)} (h : Lab n T i L) (hi : lb L i ≠ none) : Lab n T (i + 1) L :=
  { h with
    below := by
      intro x hx
      by_cases e : x = i
      · subst e; exact hi
      · exact h.below x (by omega) }

theorem Lab.least {n i : Nat} {T : Nat → Nat → Prop} {L : List (Option Nat)} (h : Lab n T i L) (hi : lb L i = none) : Least T i i := by
  refine ⟨.refl _, fun y hy => ?_⟩
  rcases Nat.lt_or_ge y i with hlt | hge
  · exact absurd hi (Conn.closed (p := fun x => lb L x ≠ none) h.shut hy.symm (h.below y hlt))
  · exact hge

/-- Within the spread of label i: labels L, a stack W. -/
structure Spread (n : Nat) (T : Nat → Nat → Prop) (i : Nat) (L0 L : List (Option Nat)) (W : List Nat) : Prop where
  len : L.length = n
  self : lb L i = some i
  old : ∀ x, lb L0 x ≠ none → lb L x = lb L0 x
  new : ∀ x l, lb L0 x = none → lb L x = some l → l = i ∧ Conn T i x
  work : ∀ x ∈ W, lb L x = some i
  shut : ∀ x, lb L x ≠ none → x ∈ W ∨ ∀ y, (T x y ∨ T y x) → lb L y ≠ none
  count : W.length + L.count none ≤ n

/-- x is looked at, its neighbours in done are labelled. -/
structure Spreading (n : Nat) (T : Nat → Nat → Prop) (i : Nat) (L0 : List (Option Nat)) (x : Nat) (ys : List Nat) (k : Nat) (L : List (Option Nat)) (W : List Nat) : Prop where
  len : L.length = n
  self : lb L i = some i
  old : ∀ x, lb L0 x ≠ none → lb L x = lb L0 x
  new : ∀ x l, lb L0 x = none → lb L x = some l → l = i ∧ Conn T i x
  work : ∀ x ∈ W, lb L x = some i
  here : Conn T i x
  shut : ∀ z, lb L z ≠ none → z ∈ W ∨ z = x ∨ ∀ y, (T z y ∨ T y z) → lb L y ≠ none
  done : ∀ j, j < k → ∀ z, ys[j]? = some z → lb L z ≠ none
  count : W.length + L.count none + 1 ≤ n

theorem Spread.start {n i : Nat} {T : Nat → Nat → Prop} {L : List (Option Nat)} (h : Lab n T i L) (hi : lb L i = none) (hin : i < n) : Spread n T i L (L.set i (some i)) [i] where
  len := by rw [List.length_set]; exact h.len
  self := by rw [lb_set (by rw [h.len]; exact hin), if_pos rfl]
  old := fun x hx => by
    rw [lb_set (by rw [h.len]; exact hin), if_neg (by intro e; subst e; exact hx hi)]
  new := fun x l h0 h1 => by
    rw [lb_set (by rw [h.len]; exact hin)] at h1
    split at h1
    · rename_i e; subst e; cases h1; exact ⟨rfl, .refl _⟩
    · rw [h0] at h1; cases h1
  work := fun x hx => by
    rw [List.mem_singleton.1 hx, lb_set (by rw [h.len]; exact hin), if_pos rfl]
  shut := fun x hx => by
    by_cases e : x = i
    · subst e; exact .inl (by simp)
    · rw [lb_set (by rw [h.len]; exact hin), if_neg e] at hx
      refine .inr fun y hy => ?_
      rw [lb_set (by rw [h.len]; exact hin)]
      split
      · simp
      · exact h.shut x hx y hy
  count := by
    have := count_none_set (L := L) (x := i) (l := i) (by rw [h.len]; exact hin) hi
    have h2 := List.count_le_length (a := none) (l := L)
    rw [h.len] at h2
    simp only [List.length_cons, List.length_nil]
    omega

theorem Spread.pop {n i x : Nat} {T : Nat → Nat → Prop} {L0 L : List (Option Nat)} {W : List Nat} (h : Spread n T i L0 L (W ++ [x])) (h0 : lb L0 i = none) (ys : List Nat) (hl : Lab n T i L0) : Spreading n T i L0 x ys 0 L W where
  len := h.len
  self := h.self
  old := h.old
  new := h.new
  work := fun y hy => h.work y (by simp [hy])
  here := by
    have hx := h.work x (by simp)
    cases e : lb L0 x with
    | none => exact (h.new x i e hx).2
    | some l =>
      have h1 := h.old x (by rw [e]; simp)
      rw [hx, e] at h1
      cases h1
      exact (hl.right x i e).1.symm
  shut := fun y hy => by
    rcases h.shut y hy with h1 | h1
    · rcases List.mem_append.1 h1 with h1 | h1
      · exact .inl h1
      · exact .inr (.inl (List.mem_singleton.1 h1))
    · exact .inr (.inr h1)
  done := fun j hj => by omega
  count := by have := h.count; simp only [List.length_append, List.length_cons, List.length_nil] at this; omega

theorem Spreading.skip {n i x k z : Nat} {T : Nat → Nat → Prop} {L0 L : List (Option Nat)} {W ys : List Nat} (h : Spreading n T i L0 x ys k L W) (hz : ys[k]? = some z) (hs : lb L z ≠ none) : Spreading n T i L0 x ys (k + 1) L W :=
  { h with
    done := by
      intro j hj z' hz'
      by_cases e : j = k
      · subst e; rw [hz] at hz'; cases hz'; exact hs
      · exact h.done j (by omega) z' hz' }

theorem Spreading.add {n i x k z : Nat} {T : Nat → Nat → Prop} {L0 L : List (Option Nat)} {W ys : List Nat} (h : Spreading n T i L0 x ys k L W) (hz : ys[k]? = some z) (hs : lb L z = none) (hzn : z < n) (hT : T x z ∨ T z x) :
    Spreading n T i L0 x ys (k + 1) (L.set z (some i)) (W ++ [z]) where
  len := by rw [List.length_set]; exact h.len
  self := by rw [lb_set (by rw [h.len]; exact hzn)]; split <;> first | rfl | exact h.self
  old := fun y hy => by
    rw [lb_set (by rw [h.len]; exact hzn), if_neg ?_]
    · exact h.old y hy
    · intro e; subst e; rw [h.old y hy] at hs; exact hy hs
  new := fun y l h0 h1 => by
    rw [lb_set (by rw [h.len]; exact hzn)] at h1
    split at h1
    · rename_i e; subst e; cases h1; exact ⟨rfl, .step h.here hT⟩
    · exact h.new y l h0 h1
  work := fun y hy => by
    rw [lb_set (by rw [h.len]; exact hzn)]
    split
    · rfl
    · rcases List.mem_append.1 hy with h1 | h1
      · exact h.work y h1
      · exact absurd (List.mem_singleton.1 h1) (by assumption)
  here := h.here
  shut := fun y hy => by
    by_cases e : y = z
    · subst e; exact .inl (by simp)
    · rw [lb_set (by rw [h.len]; exact hzn), if_neg e] at hy
      rcases h.shut y hy with h1 | h1 | h1
      · exact .inl (by simp [h1])
      · exact .inr (.inl h1)
      · refine .inr (.inr fun u hu => ?_)
        rw [lb_set (by rw [h.len]; exact hzn)]
        split
        · simp
        · exact h1 u hu
  done := fun j hj z' hz' => by
    rw [lb_set (by rw [h.len]; exact hzn)]
    split
    · simp
    · rename_i hne
      by_cases e : j = k
      · subst e; rw [hz] at hz'; cases hz'; exact absurd rfl hne
      · exact h.done j (by omega) z' hz'
  count := by
    have := count_none_set (L := L) (x := z) (l := i) (by rw [h.len]; exact hzn) hs
    have := h.count
    simp only [List.length_append, List.length_cons, List.length_nil]
    omega

theorem Spreading.fin {n i x : Nat} {T : Nat → Nat → Prop} {L0 L : List (Option Nat)} {W ys : List Nat} (h : Spreading n T i L0 x ys ys.length L W) (hys : ∀ y, (T x y ∨ T y x) → y ∈ ys) : Spread n T i L0 L W where
  len := h.len
  self := h.self
  old := h.old
  new := h.new
  work := h.work
  shut := fun y hy => by
    rcases h.shut y hy with h1 | h1 | h1
    · exact .inl h1
    · subst h1
      refine .inr fun z hz => ?_
      obtain ⟨j, hj, e⟩ := List.mem_iff_getElem.1 (hys z hz)
      exact h.done j hj z (by rw [List.getElem?_eq_getElem hj, e])
    · exact .inr h1
  count := by have := h.count; omega

theorem Spread.fin {n i : Nat} {T : Nat → Nat → Prop} {L0 L : List (Option Nat)} (h : Spread n T i L0 L []) (hl : Lab n T i L0) (h0 : lb L0 i = none) : Lab n T (i + 1) L where
  len := h.len
  below := fun x hx => by
    by_cases e : x = i
    · subst e; rw [h.self]; simp
    · have := hl.below x (by omega)
      rw [h.old x this]; exact this
  right := fun x l hx => by
    cases e : lb L0 x with
    | none =>
      obtain ⟨rfl, hc⟩ := h.new x l e hx
      exact (hl.least h0).of_conn hc
    | some l' =>
      have := h.old x (by rw [e]; simp)
      rw [hx, e] at this
      cases this
      exact hl.right x l e
  shut := fun x hx => by
    rcases h.shut x hx with h1 | h1
    · simp at h1
    · exact h1

/-- All labelled: the labels are plain numbers. -/
theorem all_some : ∀ (L : List (Option Nat)), (∀ x, x < L.length → lb L x ≠ none) → ∃ P : List Nat, L = P.map some
  | [], _ => ⟨[], rfl⟩
  | a :: L, h => by
    obtain ⟨P, rfl⟩ := all_some L (fun x hx => h (x + 1) (by simpa using hx))
    have h0 := h 0 (by simp)
    cases a with
    | none => exact absurd rfl h0
    | some v => exact ⟨v :: P, rfl⟩

theorem lb_map (P : List Nat) {x : Nat} (hx : x < P.length) : lb (P.map some) x = some (pa P x) := by
  unfold lb pa
  rw [List.getD_eq_getElem?_getD, List.getD_eq_getElem?_getD, List.getElem?_map, List.getElem?_eq_getElem hx]
  rfl

theorem same_lists {P Q : List Nat} {n : Nat} {T : Nat → Nat → Prop} (hP : P.length = n) (hQ : Q.length = n) (h1 : ∀ x, x < n → Least T x (pa P x)) (h2 : ∀ x, x < n → Least T x (pa Q x)) : P = Q := by
  apply List.ext_getElem
  · rw [hP, hQ]
  · intro i hi hi'
    have := (h1 i (by omega)).unique (h2 i (by omega))
    unfold pa at this
    rwa [List.getD_eq_getElem?_getD, List.getD_eq_getElem?_getD, List.getElem?_eq_getElem hi, List.getElem?_eq_getElem hi'] at this

end Go.Proofs.Ytdddbjaggfaofaa.GM
