/- Plain lemmas on lists of numbers as graphs: rising lists, what is reached, marks. No Go and no memory. -/
namespace Go.Proofs.Ytdddbjaggfaofaa.GM
set_option linter.unusedVariables false

/-- Strictly rising. -/
def Rising (l : List Nat) : Prop := l.Pairwise (· < ·)

theorem rising_ext : ∀ {l m : List Nat}, Rising l → Rising m → (∀ x, x ∈ l ↔ x ∈ m) → l = m
  | [], m, _, _, h => by
    cases m with
    | nil => rfl
    | cons b m => exact absurd ((h b).2 List.mem_cons_self) (by simp)
  | a :: l, [], _, _, h => absurd ((h a).1 List.mem_cons_self) (by simp)
  | a :: l, b :: m, hl, hm, h => by
    have hl' := List.pairwise_cons.1 hl
    have hm' := List.pairwise_cons.1 hm
    have hab : a = b := by
      have h1 := (h a).1 List.mem_cons_self
      have h2 := (h b).2 List.mem_cons_self
      rcases List.mem_cons.1 h1 with e | h1
      · exact e
      · rcases List.mem_cons.1 h2 with e | h2
        · exact e.symm
        · have := hm'.1 a h1
          have := hl'.1 b h2
          omega
    subst hab
    congr 1
    refine rising_ext hl'.2 hm'.2 (fun x => ⟨fun hx => ?_, fun hx => ?_⟩)
    · rcases List.mem_cons.1 ((h x).1 (List.mem_cons_of_mem _ hx)) with e | h1
      · have := hl'.1 x hx
        omega
      · exact h1
    · rcases List.mem_cons.1 ((h x).2 (List.mem_cons_of_mem _ hx)) with e | h1
      · have := hm'.1 x hx
        omega
      · exact h1

theorem rising_filter (n : Nat) (p : Nat → Bool) : Rising ((List.range n).filter p) := by
  unfold Rising
  exact List.Pairwise.filter _ List.pairwise_lt_range

/-- Is thing y marked? -/
def sn (S : List Bool) (y : Nat) : Bool := S.getD y false
/-- The row of thing x. -/
def nb (R : List (List Nat)) (x : Nat) : List Nat := R.getD x []

theorem sn_lt {S : List Bool} {y : Nat} (h : sn S y = true) : y < S.length := by
  unfold sn at h
  rcases Nat.lt_or_ge y S.length with h1 | h1
  · exact h1
  · rw [List.getD_eq_getElem?_getD, List.getElem?_eq_none h1] at h; simp at h

theorem nb_lt {R : List (List Nat)} {x y : Nat} (h : y ∈ nb R x) : x < R.length := by
  unfold nb at h
  rcases Nat.lt_or_ge x R.length with h1 | h1
  · exact h1
  · rw [List.getD_eq_getElem?_getD, List.getElem?_eq_none h1] at h; simp at h

theorem sn_set (S : List Bool) (x y : Nat) (b : Bool) (hx : x < S.length) : sn (S.set x b) y = if y = x then b else sn S y := by
  unfold sn
  rw [List.getD_eq_getElem?_getD, List.getD_eq_getElem?_getD]
  by_cases e : y = x
  · subst e; simp [hx]
  · rw [List.getElem?_set_ne (by omega), if_neg e]

theorem sn_repl (n y : Nat) : sn (List.replicate n false) y = false := by
  unfold sn
  rw [List.getD_eq_getElem?_getD, List.getElem?_replicate]
  split <;> rfl

theorem count_set {S : List Bool} {x : Nat} (hx : x < S.length) (h : sn S x = false) : (S.set x true).count false + 1 = S.count false := by
  induction S generalizing x with
  | nil => simp at hx
  | cons b S ih =>
    cases x with
    | zero =>
      have : b = false := by simpa [sn] using h
      subst this
      simp
    | succ x =>
      have := ih (x := x) (by simpa using hx) (by simpa [sn] using h)
      simp only [List.set_cons_succ, List.count_cons]
      omega

/-- A rising list of things has no more than there are. -/
theorem rising_length_from : ∀ {l : List Nat} {a n : Nat}, Rising l → (∀ x ∈ l, a ≤ x ∧ x < n) → l.length ≤ n - a
  | [], _, _, _, _ => by simp
  | x :: l, a, n, h, hb => by
    have h' := List.pairwise_cons.1 h
    have := rising_length_from (l := l) (a := x + 1) (n := n) h'.2 (fun y hy => ⟨h'.1 y hy, (hb y (List.mem_cons_of_mem _ hy)).2⟩)
    have h2 := hb x List.mem_cons_self
    simp only [List.length_cons]
    omega
theorem rising_length {l : List Nat} {n : Nat} (h : Rising l) (hb : ∀ x ∈ l, x < n) : l.length ≤ n := by
  have := rising_length_from (a := 0) h (fun x hx => ⟨Nat.zero_le _, hb x hx⟩)
  omega

/-- Reached along rows. -/
inductive RR (R : List (List Nat)) : Nat → Nat → Prop
  | refl (x : Nat) : RR R x x
  | step {x y z : Nat} : RR R x y → z ∈ nb R y → RR R x z

theorem RR.trans {R : List (List Nat)} {x y z : Nat} (h : RR R x y) (k : RR R y z) : RR R x z := by
  induction k with
  | refl => exact h
  | step _ hz ih => exact .step ih hz

theorem RR.mono {R R' : List (List Nat)} (h : ∀ x y, y ∈ nb R x → y ∈ nb R' x) {x y : Nat} (k : RR R x y) : RR R' x y := by
  induction k with
  | refl => exact .refl _
  | step _ hz ih => exact .step ih (h _ _ hz)

/-- What is closed under rows and holds x holds all that is reached from x. -/
theorem RR.closed {R : List (List Nat)} {p : Nat → Prop} (hc : ∀ y, p y → ∀ z ∈ nb R y, p z) {x y : Nat} (k : RR R x y) (hx : p x) : p y := by
  induction k with
  | refl => exact hx
  | step _ hz ih => exact hc _ ih _ hz

/-! ### The walk in depth (Reach) -/

/-- What a walk from x does to the marks S and the list O. -/
structure Walked (R : List (List Nat)) (x : Nat) (S : List Bool) (O : List Nat) (S' : List Bool) (O' : List Nat) : Prop where
  len : S'.length = S.length
  mono : ∀ y, sn S y = true → sn S' y = true
  out : ∀ y, y ∈ O' ↔ y ∈ O ∨ (sn S' y = true ∧ sn S y = false)
  from_ : ∀ y, sn S' y = true → sn S y = false → RR R x y
  self : sn S' x = true
  shut : ∀ y, sn S' y = true → sn S y = false → ∀ z ∈ nb R y, sn S' z = true
  count : O'.length + S'.count false = O.length + S.count false
  more : O.length + 1 ≤ O'.length

/-- Within the walk, the first k things of x's row done. -/
structure Walking (R : List (List Nat)) (x : Nat) (S : List Bool) (O : List Nat) (k : Nat) (S' : List Bool) (O' : List Nat) : Prop where
  len : S'.length = S.length
  mono : ∀ y, sn S y = true → sn S' y = true
  out : ∀ y, y ∈ O' ↔ y ∈ O ∨ (sn S' y = true ∧ sn S y = false)
  from_ : ∀ y, sn S' y = true → sn S y = false → RR R x y
  self : sn S' x = true
  shut : ∀ y, y ≠ x → sn S' y = true → sn S y = false → ∀ z ∈ nb R y, sn S' z = true
  done : ∀ j, j < k → ∀ z, (nb R x)[j]? = some z → sn S' z = true
  count : O'.length + S'.count false = O.length + S.count false
  more : O.length + 1 ≤ O'.length

theorem Walking.start {R : List (List Nat)} {x : Nat} {S : List Bool} {O : List Nat} (hx : x < S.length) (h : sn S x = false) : Walking R x S O 0 (S.set x true) (O ++ [x]) where
  len := by simp
  mono := fun y hy => by rw [sn_set _ _ _ _ hx]; split <;> simp_all
  out := fun y => by
    rw [sn_set _ _ _ _ hx]
    by_cases e : y = x
    · subst e; simp [h]
    · simp [e]
  from_ := fun y hy hn => by
    rw [sn_set _ _ _ _ hx] at hy
    by_cases e : y = x
    · subst e; exact .refl _
    · rw [if_neg e] at hy; rw [hy] at hn; cases hn
  self := by rw [sn_set _ _ _ _ hx]; simp
  shut := fun y hne hy hn => by
    rw [sn_set _ _ _ _ hx, if_neg hne] at hy
    rw [hy] at hn; cases hn
  done := fun j hj => by omega
  count := by
    have := count_set hx h
    simp only [List.length_append, List.length_cons, List.length_nil]
    omega
  more := by simp

theorem Walking.skip {R : List (List Nat)} {x k z : Nat} {S S' : List Bool} {O O' : List Nat} (h : Walking R x S O k S' O') (hz : (nb R x)[k]? = some z) (hs : sn S' z = true) : Walking R x S O (k + 1) S' O' :=
  { h with
    done := by
      intro j hj z' hz'
      by_cases e : j = k
      · subst e; rw [hz] at hz'; cases hz'; exact hs
      · exact h.done j (by omega) z' hz' }

theorem Walking.go {R : List (List Nat)} {x k z : Nat} {S S' S2 : List Bool} {O O' O2 : List Nat} (h : Walking R x S O k S' O') (hz : (nb R x)[k]? = some z) (hx : sn S x = false) (w : Walked R z S' O' S2 O2) :
    Walking R x S O (k + 1) S2 O2 where
  len := w.len.trans h.len
  mono := fun y hy => w.mono y (h.mono y hy)
  out := fun y => by
    rw [w.out, h.out]
    constructor
    · rintro ((h1 | ⟨h1, h2⟩) | ⟨h1, h2⟩)
      · exact .inl h1
      · exact .inr ⟨w.mono _ h1, h2⟩
      · refine .inr ⟨h1, ?_⟩
        cases h3 : sn S y with
        | false => rfl
        | true => rw [h.mono y h3] at h2; cases h2
    · rintro (h1 | ⟨h1, h2⟩)
      · exact .inl (.inl h1)
      · cases h3 : sn S' y with
        | true => exact .inl (.inr ⟨h3 ▸ rfl, h2⟩)
        | false => exact .inr ⟨h1, rfl⟩
  from_ := fun y hy hn => by
    cases h3 : sn S' y with
    | true => exact h.from_ y h3 hn
    | false => exact RR.trans (.step (.refl x) (List.mem_of_getElem? hz)) (w.from_ y hy h3)
  self := w.mono _ h.self
  shut := fun y hne hy hn => by
    cases h3 : sn S' y with
    | true => exact fun z' hz' => w.mono _ (h.shut y hne h3 hn z' hz')
    | false => exact w.shut y hy h3
  done := fun j hj z' hz' => by
    by_cases e : j = k
    · subst e; rw [hz] at hz'; cases hz'; exact w.self
    · exact w.mono _ (h.done j (by omega) z' hz')
  count := w.count.trans h.count
  more := by have := w.more; have := h.more; omega

theorem Walking.fin {R : List (List Nat)} {x : Nat} {S S' : List Bool} {O O' : List Nat} (h : Walking R x S O (nb R x).length S' O') : Walked R x S O S' O' where
  len := h.len
  mono := h.mono
  out := h.out
  from_ := h.from_
  self := h.self
  shut := fun y hy hn => by
    by_cases e : y = x
    · subst e
      intro z hz
      obtain ⟨j, hj, e⟩ := List.mem_iff_getElem.1 hz
      exact h.done j hj z (by rw [List.getElem?_eq_getElem hj, e])
    · exact h.shut y e hy hn
  count := h.count
  more := h.more

theorem Walked.all {R : List (List Nat)} {x n : Nat} {S' : List Bool} {O' : List Nat} (h : Walked R x (List.replicate n false) [] S' O') (y : Nat) : y ∈ O' ↔ RR R x y := by
  rw [h.out]
  simp only [sn_repl, List.not_mem_nil, false_or, and_true]
  exact ⟨fun hy => h.from_ y hy (sn_repl n y), fun hy => RR.closed (p := fun y => sn S' y = true) (fun y hy => h.shut y hy (sn_repl n y)) hy h.self⟩

/-! ### The search in breadth (the document's Reached) -/

/-- Before a round: marks S, the list W of what is still to be looked at. -/
structure Search (R : List (List Nat)) (a n : Nat) (S : List Bool) (W : List Nat) : Prop where
  len : S.length = n
  self : sn S a = true
  from_ : ∀ y, sn S y = true → RR R a y
  work : ∀ y ∈ W, sn S y = true
  shut : ∀ y, sn S y = true → y ∈ W ∨ ∀ z ∈ nb R y, sn S z = true
  count : W.length + S.count false ≤ n

/-- Within a round: x is looked at, k of its row are done. -/
structure Searching (R : List (List Nat)) (a n x k : Nat) (S : List Bool) (W : List Nat) : Prop where
  len : S.length = n
  self : sn S a = true
  from_ : ∀ y, sn S y = true → RR R a y
  work : ∀ y ∈ W, sn S y = true
  here : sn S x = true
  shut : ∀ y, sn S y = true → y ∈ W ∨ y = x ∨ ∀ z ∈ nb R y, sn S z = true
  done : ∀ j, j < k → ∀ z, (nb R x)[j]? = some z → sn S z = true
  count : W.length + S.count false + 1 ≤ n

theorem Search.start {R : List (List Nat)} {a n : Nat} (ha : a < n) : Search R a n ((List.replicate n false).set a true) [a] where
  len := by simp
  self := by rw [sn_set _ _ _ _ (by simpa using ha)]; simp
  from_ := fun y hy => by
    rw [sn_set _ _ _ _ (by simpa using ha)] at hy
    by_cases e : y = a
    · subst e; exact .refl _
    · rw [if_neg e, sn_repl] at hy; cases hy
  work := fun y hy => by
    rw [List.mem_singleton.1 hy, sn_set _ _ _ _ (by simpa using ha)]; simp
  shut := fun y hy => by
    rw [sn_set _ _ _ _ (by simpa using ha)] at hy
    by_cases e : y = a
    · subst e; simp
    · rw [if_neg e, sn_repl] at hy; cases hy
  count := by
    have := count_set (S := List.replicate n false) (x := a) (by simpa using ha) (sn_repl n a)
    simp only [List.count_replicate_self] at this
    simp only [List.length_cons, List.length_nil]
    omega

theorem Search.pop {R : List (List Nat)} {a n x : Nat} {S : List Bool} {W : List Nat} (h : Search R a n S (x :: W)) : Searching R a n x 0 S W where
  len := h.len
  self := h.self
  from_ := h.from_
  work := fun y hy => h.work y (List.mem_cons_of_mem _ hy)
  here := h.work x List.mem_cons_self
  shut := fun y hy => by
    rcases h.shut y hy with h1 | h1
    · rcases List.mem_cons.1 h1 with e | h1
      · exact .inr (.inl e)
      · exact .inl h1
    · exact .inr (.inr h1)
  done := fun j hj => by omega
  count := by have := h.count; simp only [List.length_cons] at this; omega

theorem Searching.skip {R : List (List Nat)} {a n x k z : Nat} {S : List Bool} {W : List Nat} (h : Searching R a n x k S W) (hz : (nb R x)[k]? = some z) (hs : sn S z = true) : Searching R a n x (k + 1) S W :=
  { h with
    done := by
      intro j hj z' hz'
      by_cases e : j = k
      · subst e; rw [hz] at hz'; cases hz'; exact hs
      · exact h.done j (by omega) z' hz' }

theorem Searching.add {R : List (List Nat)} {a n x k z : Nat} {S : List Bool} {W : List Nat} (h : Searching R a n x k S W) (hz : (nb R x)[k]? = some z) (hs : sn S z = false) (hl : z < n) : Searching R a n x (k + 1) (S.set z true) (W ++ [z]) where
  len := by rw [List.length_set]; exact h.len
  self := by rw [sn_set _ _ _ _ (by rw [h.len]; exact hl)]; split <;> simp [h.self]
  from_ := fun y hy => by
    rw [sn_set _ _ _ _ (by rw [h.len]; exact hl)] at hy
    by_cases e : y = z
    · subst e; exact .step (h.from_ x h.here) (List.mem_of_getElem? hz)
    · rw [if_neg e] at hy; exact h.from_ y hy
  work := fun y hy => by
    rw [sn_set _ _ _ _ (by rw [h.len]; exact hl)]
    split
    · rfl
    · rcases List.mem_append.1 hy with h1 | h1
      · exact h.work y h1
      · exact absurd (List.mem_singleton.1 h1) (by assumption)
  here := by rw [sn_set _ _ _ _ (by rw [h.len]; exact hl)]; split <;> simp [h.here]
  shut := fun y hy => by
    rw [sn_set _ _ _ _ (by rw [h.len]; exact hl)] at hy
    by_cases e : y = z
    · subst e; exact .inl (by simp)
    · rw [if_neg e] at hy
      rcases h.shut y hy with h1 | h1 | h1
      · exact .inl (List.mem_append_left _ h1)
      · exact .inr (.inl h1)
      · refine .inr (.inr fun z' hz' => ?_)
        rw [sn_set _ _ _ _ (by rw [h.len]; exact hl)]
        split
        · rfl
        · exact h1 z' hz'
  done := fun j hj z' hz' => by
    rw [sn_set _ _ _ _ (by rw [h.len]; exact hl)]
    split
    · rfl
    · rename_i hne
      by_cases e : j = k
      · subst e; rw [hz] at hz'; cases hz'; exact absurd rfl hne
      · exact h.done j (by omega) z' hz'
  count := by
    have := count_set (S := S) (x := z) (by rw [h.len]; exact hl) hs
    have := h.count
    simp only [List.length_append, List.length_cons, List.length_nil]
    omega

theorem Searching.fin {R : List (List Nat)} {a n x : Nat} {S : List Bool} {W : List Nat} (h : Searching R a n x (nb R x).length S W) : Search R a n S W where
  len := h.len
  self := h.self
  from_ := h.from_
  work := h.work
  shut := fun y hy => by
    rcases h.shut y hy with h1 | h1 | h1
    · exact .inl h1
    · subst h1
      refine .inr fun z hz => ?_
      obtain ⟨j, hj, e⟩ := List.mem_iff_getElem.1 hz
      exact h.done j hj z (by rw [List.getElem?_eq_getElem hj, e])
    · exact .inr h1
  count := by have := h.count; omega

theorem Search.all {R : List (List Nat)} {a n : Nat} {S : List Bool} (h : Search R a n S []) (y : Nat) : sn S y = true ↔ RR R a y :=
  ⟨h.from_ y, fun hy => RR.closed (p := fun y => sn S y = true) (fun y hy => by
    rcases h.shut y hy with h1 | h1
    · simp at h1
    · exact h1) hy h.self⟩

end Go.Proofs.Ytdddbjaggfaofaa.GM
