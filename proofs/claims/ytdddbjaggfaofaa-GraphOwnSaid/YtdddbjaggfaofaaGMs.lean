/- Plain lemmas on graphs: lists, what is reached, classes, parts, heaps, orders, distances, counts. No Go and no memory. -/

namespace Go.Proofs.Ytdddbjaggfaofaa.GM
set_option linter.unusedVariables false

/-- Strictly rising. -/
def Rising (l : List Nat) : Prop := l.Pairwise (· < ·)

theorem rising_ext : ∀ {l m : List Nat}, Rising l → Rising m → (∀ x, x ∈ l ↔ x ∈ m) → l = m
  | [], m, _, _, h => by
    cases m with
    | nil => rfl
    | cons b m => exact absurd ((h b).2 List.mem_cons_self) (by simp)
  | a :: l, [], _, _, h => absurd ((h a).1 List.mem_cons_self) (by simp)
  | a :: l, b :: m, hl, hm, h => by
    have hl' := List.pairwise_cons.1 hl
    have hm' := List.pairwise_cons.1 hm
    have hab : a = b := by
      have h1 := (h a).1 List.mem_cons_self
      have h2 := (h b).2 List.mem_cons_self
      rcases List.mem_cons.1 h1 with e | h1
      · exact e
      · rcases List.mem_cons.1 h2 with e | h2
        · exact e.symm
        · have := hm'.1 a h1
          have := hl'.1 b h2
          omega
    subst hab
    congr 1
    refine rising_ext hl'.2 hm'.2 (fun x => ⟨fun hx => ?_, fun hx => ?_⟩)
    · rcases List.mem_cons.1 ((h x).1 (List.mem_cons_of_mem _ hx)) with e | h1
      · have := hl'.1 x hx
        omega
      · exact h1
    · rcases List.mem_cons.1 ((h x).2 (List.mem_cons_of_mem _ hx)) with e | h1
      · have := hm'.1 x hx
        omega
      · exact h1

theorem rising_filter (n : Nat) (p : Nat → Bool) : Rising ((List.range n).filter p) := by
  unfold Rising
  exact List.Pairwise.filter _ List.pairwise_lt_range

/-- Is thing y marked? -/
def sn (S : List Bool) (y : Nat) : Bool := S.getD y false
/-- The row of thing x. -/
def nb (R : List (List Nat)) (x : Nat) : List Nat := R.getD x []

theorem sn_lt {S : List Bool} {y : Nat} (h : sn S y = true) : y < S.length := by
  unfold sn at h
  rcases Nat.lt_or_ge y S.length with h1 | h1
  · exact h1
  · rw [List.getD_eq_getElem?_getD, List.getElem?_eq_none h1] at h; simp at h

theorem nb_lt {R : List (List Nat)} {x y : Nat} (h : y ∈ nb R x) : x < R.length := by
  unfold nb at h
  rcases Nat.lt_or_ge x R.length with h1 | h1
  · exact h1
  · rw [List.getD_eq_getElem?_getD, List.getElem?_eq_none h1] at h; simp at h

theorem sn_set (S : List Bool) (x y : Nat) (b : Bool) (hx : x < S.length) : sn (S.set x b) y = if y = x then b else sn S y := by
  unfold sn
  rw [List.getD_eq_getElem?_getD, List.getD_eq_getElem?_getD]
  by_cases e : y = x
  · subst e; simp [hx]
  · rw [List.getElem?_set_ne (by omega), if_neg e]

theorem sn_repl (n y : Nat) : sn (List.replicate n false) y = false := by
  unfold sn
  rw [List.getD_eq_getElem?_getD, List.getElem?_replicate]
  split <;> rfl

theorem count_set {S : List Bool} {x : Nat} (hx : x < S.length) (h : sn S x = false) : (S.set x true).count false + 1 = S.count false := by
  induction S generalizing x with
  | nil => simp at hx
  | cons b S ih =>
    cases x with
    | zero =>
      have : b = false := by simpa [sn] using h
      subst this
      simp
    | succ x =>
      have := ih (x := x) (by simpa using hx) (by simpa [sn] using h)
      simp only [List.set_cons_succ, List.count_cons]
      omega

/-- A rising list of things has no more than there are. -/
theorem rising_length_from : ∀ {l : List Nat} {a n : Nat}, Rising l → (∀ x ∈ l, a ≤ x ∧ x < n) → l.length ≤ n - a
  | [], _, _, _, _ => by simp
  | x :: l, a, n, h, hb => by
    have h' := List.pairwise_cons.1 h
    have := rising_length_from (l := l) (a := x + 1) (n := n) h'.2 (fun y hy => ⟨h'.1 y hy, (hb y (List.mem_cons_of_mem _ hy)).2⟩)
    have h2 := hb x List.mem_cons_self
    simp only [List.length_cons]
    omega
theorem rising_length {l : List Nat} {n : Nat} (h : Rising l) (hb : ∀ x ∈ l, x < n) : l.length ≤ n := by
  have := rising_length_from (a := 0) h (fun x hx => ⟨Nat.zero_le _, hb x hx⟩)
  omega

/-- Reached along rows. -/
inductive RR (R : List (List Nat)) : Nat → Nat → Prop
  | refl (x : Nat) : RR R x x
  | step {x y z : Nat} : RR R x y → z ∈ nb R y → RR R x z

theorem RR.trans {R : List (List Nat)} {x y z : Nat} (h : RR R x y) (k : RR R y z) : RR R x z := by
  induction k with
  | refl => exact h
  | step _ hz ih => exact .step ih hz

theorem RR.mono {R R' : List (List Nat)} (h : ∀ x y, y ∈ nb R x → y ∈ nb R' x) {x y : Nat} (k : RR R x y) : RR R' x y := by
  induction k with
  | refl => exact .refl _
  | step _ hz ih => exact .step ih (h _ _ hz)

/-- What is closed under rows and holds x holds all that is reached from x. -/
theorem RR.closed {R : List (List Nat)} {p : Nat → Prop} (hc : ∀ y, p y → ∀ z ∈ nb R y, p z) {x y : Nat} (k : RR R x y) (hx : p x) : p y := by
  induction k with
  | refl => exact hx
  | step _ hz ih => exact hc _ ih _ hz

/-! ### The walk in depth (Reach) -/

/-- What a walk from x does to the marks S and the list O. -/
structure Walked (R : List (List Nat)) (x : Nat) (S : List Bool) (O : List Nat) (S' : List Bool) (O' : List Nat) : Prop where
  len : S'.length = S.length
  mono : ∀ y, sn S y = true → sn S' y = true
  out : ∀ y, y ∈ O' ↔ y ∈ O ∨ (sn S' y = true ∧ sn S y = false)
  from_ : ∀ y, sn S' y = true → sn S y = false → RR R x y
  self : sn S' x = true
  shut : ∀ y, sn S' y = true → sn S y = false → ∀ z ∈ nb R y, sn S' z = true
  count : O'.length + S'.count false = O.length + S.count false
  more : O.length + 1 ≤ O'.length

/-- Within the walk, the first k things of x's row done. -/
structure Walking (R : List (List Nat)) (x : Nat) (S : List Bool) (O : List Nat) (k : Nat) (S' : List Bool) (O' : List Nat) : Prop where
  len : S'.length = S.length
  mono : ∀ y, sn S y = true → sn S' y = true
  out : ∀ y, y ∈ O' ↔ y ∈ O ∨ (sn S' y = true ∧ sn S y = false)
  from_ : ∀ y, sn S' y = true → sn S y = false → RR R x y
  self : sn S' x = true
  shut : ∀ y, y ≠ x → sn S' y = true → sn S y = false → ∀ z ∈ nb R y, sn S' z = true
  done : ∀ j, j < k → ∀ z, (nb R x)[j]? = some z → sn S' z = true
  count : O'.length + S'.count false = O.length + S.count false
  more : O.length + 1 ≤ O'.length

theorem Walking.start {R : List (List Nat)} {x : Nat} {S : List Bool} {O : List Nat} (hx : x < S.length) (h : sn S x = false) : Walking R x S O 0 (S.set x true) (O ++ [x]) where
  len := by simp
  mono := fun y hy => by rw [sn_set _ _ _ _ hx]; split <;> simp_all
  out := fun y => by
    rw [sn_set _ _ _ _ hx]
    by_cases e : y = x
    · subst e; simp [h]
    · simp [e]
  from_ := fun y hy hn => by
    rw [sn_set _ _ _ _ hx] at hy
    by_cases e : y = x
    · subst e; exact .refl _
    · rw [if_neg e] at hy; rw [hy] at hn; cases hn
  self := by rw [sn_set _ _ _ _ hx]; simp
  shut := fun y hne hy hn => by
    rw [sn_set _ _ _ _ hx, if_neg hne] at hy
    rw [hy] at hn; cases hn
  done := fun j hj => by omega
  count := by
    have := count_set hx h
    simp only [List.length_append, List.length_cons, List.length_nil]
    omega
  more := by simp

theorem Walking.skip {R : List (List Nat)} {x k z : Nat} {S S' : List Bool} {O O' : List Nat} (h : Walking R x S O k S' O') (hz : (nb R x)[k]? = some z) (hs : sn S' z = true) : Walking R x S O (k + 1) S' O' :=
  { h with
    done := by
      intro j hj z' hz'
      by_cases e : j = k
      · subst e; rw [hz] at hz'; cases hz'; exact hs
      · exact h.done j (by omega) z' hz' }

theorem Walking.go {R : List (List Nat)} {x k z : Nat} {S S' S2 : List Bool} {O O' O2 : List Nat} (h : Walking R x S O k S' O') (hz : (nb R x)[k]? = some z) (hx : sn S x = false) (w : Walked R z S' O' S2 O2) :
    Walking R x S O (k + 1) S2 O2 where
  len := w.len.trans h.len
  mono := fun y hy => w.mono y (h.mono y hy)
  out := fun y => by
    rw [w.out, h.out]
    constructor
    · rintro ((h1 | ⟨h1, h2⟩) | ⟨h1, h2⟩)
      · exact .inl h1
      · exact .inr ⟨w.mono _ h1, h2⟩
      · refine .inr ⟨h1, ?_⟩
        cases h3 : sn S y with
        | false => rfl
        | true => rw [h.mono y h3] at h2; cases h2
    · rintro (h1 | ⟨h1, h2⟩)
      · exact .inl (.inl h1)
      · cases h3 : sn S' y with
        | true => exact .inl (.inr ⟨h3 ▸ rfl, h2⟩)
        | false => exact .inr ⟨h1, rfl⟩
  from_ := fun y hy hn => by
    cases h3 : sn S' y with
    | true => exact h.from_ y h3 hn
    | false => exact RR.trans (.step (.refl x) (List.mem_of_getElem? hz)) (w.from_ y hy h3)
  self := w.mono _ h.self
  shut := fun y hne hy hn => by
    cases h3 : sn S' y with
    | true => exact fun z' hz' => w.mono _ (h.shut y hne h3 hn z' hz')
    | false => exact w.shut y hy h3
  done := fun j hj z' hz' => by
    by_cases e : j = k
    · subst e; rw [hz] at hz'; cases hz'; exact w.self
    · exact w.mono _ (h.done j (by omega) z' hz')
  count := w.count.trans h.count
  more := by have := w.more; have := h.more; omega

theorem Walking.fin {R : List (List Nat)} {x : Nat} {S S' : List Bool} {O O' : List Nat} (h : Walking R x S O (nb R x).length S' O') : Walked R x S O S' O' where
  len := h.len
  mono := h.mono
  out := h.out
  from_ := h.from_
  self := h.self
  shut := fun y hy hn => by
    by_cases e : y = x
    · subst e
      intro z hz
      obtain ⟨j, hj, e⟩ := List.mem_iff_getElem.1 hz
      exact h.done j hj z (by rw [List.getElem?_eq_getElem hj, e])
    · exact h.shut y e hy hn
  count := h.count
  more := h.more

theorem Walked.all {R : List (List Nat)} {x n : Nat} {S' : List Bool} {O' : List Nat} (h : Walked R x (List.replicate n false) [] S' O') (y : Nat) : y ∈ O' ↔ RR R x y := by
  rw [h.out]
  simp only [sn_repl, List.not_mem_nil, false_or, and_true]
  exact ⟨fun hy => h.from_ y hy (sn_repl n y), fun hy => RR.closed (p := fun y => sn S' y = true) (fun y hy => h.shut y hy (sn_repl n y)) hy h.self⟩

/-! ### The search in breadth (the document's Reached) -/

/-- Before a round: marks S, the list W of what is still to be looked at. -/
structure Search (R : List (List Nat)) (a n : Nat) (S : List Bool) (W : List Nat) : Prop where
  len : S.length = n
  self : sn S a = true
  from_ : ∀ y, sn S y = true → RR R a y
  work : ∀ y ∈ W, sn S y = true
  shut : ∀ y, sn S y = true → y ∈ W ∨ ∀ z ∈ nb R y, sn S z = true
  count : W.length + S.count false ≤ n

/-- Within a round: x is looked at, k of its row are done. -/
structure Searching (R : List (List Nat)) (a n x k : Nat) (S : List Bool) (W : List Nat) : Prop where
  len : S.length = n
  self : sn S a = true
  from_ : ∀ y, sn S y = true → RR R a y
  work : ∀ y ∈ W, sn S y = true
  here : sn S x = true
  shut : ∀ y, sn S y = true → y ∈ W ∨ y = x ∨ ∀ z ∈ nb R y, sn S z = true
  done : ∀ j, j < k → ∀ z, (nb R x)[j]? = some z → sn S z = true
  count : W.length + S.count false + 1 ≤ n

theorem Search.start {R : List (List Nat)} {a n : Nat} (ha : a < n) : Search R a n ((List.replicate n false).set a true) [a] where
  len := by simp
  self := by rw [sn_set _ _ _ _ (by simpa using ha)]; simp
  from_ := fun y hy => by
    rw [sn_set _ _ _ _ (by simpa using ha)] at hy
    by_cases e : y = a
    · subst e; exact .refl _
    · rw [if_neg e, sn_repl] at hy; cases hy
  work := fun y hy => by
    rw [List.mem_singleton.1 hy, sn_set _ _ _ _ (by simpa using ha)]; simp
  shut := fun y hy => by
    rw [sn_set _ _ _ _ (by simpa using ha)] at hy
    by_cases e : y = a
    · subst e; simp
    · rw [if_neg e, sn_repl] at hy; cases hy
  count := by
    have := count_set (S := List.replicate n false) (x := a) (by simpa using ha) (sn_repl n a)
    simp only [List.count_replicate_self] at this
    simp only [List.length_cons, List.length_nil]
    omega

theorem Search.pop {R : List (List Nat)} {a n x : Nat} {S : List Bool} {W : List Nat} (h : Search R a n S (x :: W)) : Searching R a n x 0 S W where
  len := h.len
  self := h.self
  from_ := h.from_
  work := fun y hy => h.work y (List.mem_cons_of_mem _ hy)
  here := h.work x List.mem_cons_self
  shut := fun y hy => by
    rcases h.shut y hy with h1 | h1
    · rcases List.mem_cons.1 h1 with e | h1
      · exact .inr (.inl e)
      · exact .inl h1
    · exact .inr (.inr h1)
  done := fun j hj => by omega
  count := by have := h.count; simp only [List.length_cons] at this; omega

theorem Searching.skip {R : List (List Nat)} {a n x k z : Nat} {S : List Bool} {W : List Nat} (h : Searching R a n x k S W) (hz : (nb R x)[k]? = some z) (hs : sn S z = true) : Searching R a n x (k + 1) S W :=
  { h with
    done := by
      intro j hj z' hz'
      by_cases e : j = k
      · subst e; rw [hz] at hz'; cases hz'; exact hs
      · exact h.done j (by omega) z' hz' }

theorem Searching.add {R : List (List Nat)} {a n x k z : Nat} {S : List Bool} {W : List Nat} (h : Searching R a n x k S W) (hz : (nb R x)[k]? = some z) (hs : sn S z = false) (hl : z < n) : Searching R a n x (k + 1) (S.set z true) (W ++ [z]) where
  len := by rw [List.length_set]; exact h.len
  self := by rw [sn_set _ _ _ _ (by rw [h.len]; exact hl)]; split <;> simp [h.self]
  from_ := fun y hy => by
    rw [sn_set _ _ _ _ (by rw [h.len]; exact hl)] at hy
    by_cases e : y = z
    · subst e; exact .step (h.from_ x h.here) (List.mem_of_getElem? hz)
    · rw [if_neg e] at hy; exact h.from_ y hy
  work := fun y hy => by
    rw [sn_set _ _ _ _ (by rw [h.len]; exact hl)]
    split
    · rfl
    · rcases List.mem_append.1 hy with h1 | h1
      · exact h.work y h1
      · exact absurd (List.mem_singleton.1 h1) (by assumption)
  here := by rw [sn_set _ _ _ _ (by rw [h.len]; exact hl)]; split <;> simp [h.here]
  shut := fun y hy => by
    rw [sn_set _ _ _ _ (by rw [h.len]; exact hl)] at hy
    by_cases e : y = z
    · subst e; exact .inl (by simp)
    · rw [if_neg e] at hy
      rcases h.shut y hy with h1 | h1 | h1
      · exact .inl (List.mem_append_left _ h1)
      · exact .inr (.inl h1)
      · refine .inr (.inr fun z' hz' => ?_)
        rw [sn_set _ _ _ _ (by rw [h.len]; exact hl)]
        split
        · rfl
        · exact h1 z' hz'
  done := fun j hj z' hz' => by
    rw [sn_set _ _ _ _ (by rw [h.len]; exact hl)]
    split
    · rfl
    · rename_i hne
      by_cases e : j = k
      · subst e; rw [hz] at hz'; cases hz'; exact absurd rfl hne
      · exact h.done j (by omega) z' hz'
  count := by
    have := count_set (S := S) (x := z) (by rw [h.len]; exact hl) hs
    have := h.count
    simp only [List.length_append, List.length_cons, List.length_nil]
    omega

theorem Searching.fin {R : List (List Nat)} {a n x : Nat} {S : List Bool} {W : List Nat} (h : Searching R a n x (nb R x).length S W) : Search R a n S W where
  len := h.len
  self := h.self
  from_ := h.from_
  work := h.work
  shut := fun y hy => by
    rcases h.shut y hy with h1 | h1 | h1
    · exact .inl h1
    · subst h1
      refine .inr fun z hz => ?_
      obtain ⟨j, hj, e⟩ := List.mem_iff_getElem.1 hz
      exact h.done j hj z (by rw [List.getElem?_eq_getElem hj, e])
    · exact .inr h1
  count := by have := h.count; omega

theorem Search.all {R : List (List Nat)} {a n : Nat} {S : List Bool} (h : Search R a n S []) (y : Nat) : sn S y = true ↔ RR R a y :=
  ⟨h.from_ y, fun hy => RR.closed (p := fun y => sn S y = true) (fun y hy => by
    rcases h.shut y hy with h1 | h1
    · simp at h1
    · exact h1) hy h.self⟩

end Go.Proofs.Ytdddbjaggfaofaa.GM

namespace Go.Proofs.Ytdddbjaggfaofaa.GM
set_option linter.unusedVariables false

/-- Tied, through ties. -/
inductive Conn (T : Nat → Nat → Prop) : Nat → Nat → Prop
  | refl (x : Nat) : Conn T x x
  | step {x y z : Nat} : Conn T x y → (T y z ∨ T z y) → Conn T x z

theorem Conn.trans {T : Nat → Nat → Prop} {x y z : Nat} (h : Conn T x y) (k : Conn T y z) : Conn T x z := by
  induction k with
  | refl => exact h
  | step _ hz ih => exact .step ih hz
theorem Conn.symm {T : Nat → Nat → Prop} {x y : Nat} (h : Conn T x y) : Conn T y x := by
  induction h with
  | refl => exact .refl _
  | step _ hz ih => exact Conn.trans (.step (.refl _) hz.symm) ih
theorem Conn.mono {T T' : Nat → Nat → Prop} (h : ∀ a b, T a b → T' a b) {x y : Nat} (k : Conn T x y) : Conn T' x y := by
  induction k with
  | refl => exact .refl _
  | step _ hz ih => exact .step ih (hz.imp (h _ _) (h _ _))
theorem Conn.closed {T : Nat → Nat → Prop} {p : Nat → Prop} (hc : ∀ y, p y → ∀ z, (T y z ∨ T z y) → p z) {x y : Nat} (k : Conn T x y) (hx : p x) : p y := by
  induction k with
  | refl => exact hx
  | step _ hz ih => exact hc _ ih _ hz

/-- r is the lowest that is tied to x. -/
def Least (T : Nat → Nat → Prop) (x r : Nat) : Prop := Conn T x r ∧ ∀ y, Conn T x y → r ≤ y
theorem Least.unique {T : Nat → Nat → Prop} {x r s : Nat} (h : Least T x r) (k : Least T x s) : r = s :=
  Nat.le_antisymm (h.2 s k.1) (k.2 r h.1)
theorem Least.of_conn {T : Nat → Nat → Prop} {x y r : Nat} (h : Least T x r) (k : Conn T x y) : Least T y r :=
  ⟨k.symm.trans h.1, fun z hz => h.2 z (k.trans hz)⟩

/-! ### Parents -/
def pa (P : List Nat) (x : Nat) : Nat := P.getD x 0
theorem pa_set {P : List Nat} {x v : Nat} (hx : x < P.length) (y : Nat) : pa (P.set x v) y = if y = x then v else pa P y := by
  unfold pa
  rw [List.getD_eq_getElem?_getD, List.getD_eq_getElem?_getD]
  by_cases e : y = x
  · subst e; simp [hx]
  · rw [List.getElem?_set_ne (by omega), if_neg e]
theorem pa_range {n x : Nat} (hx : x < n) : pa (List.range n) x = x := by
  unfold pa
  rw [List.getD_eq_getElem?_getD, List.getElem?_range hx]; rfl

inductive Root (P : List Nat) : Nat → Nat → Prop
  | here {x : Nat} : pa P x = x → Root P x x
  | up {x r : Nat} : pa P x ≠ x → Root P (pa P x) r → Root P x r

theorem Root.unique {P : List Nat} {x r s : Nat} (h : Root P x r) (k : Root P x s) : r = s := by
  induction h with
  | here e =>
    cases k with
    | here => rfl
    | up ne => exact absurd e ne
  | up ne _ ih =>
    cases k with
    | here e => exact absurd e ne
    | up _ k => exact ih k
theorem Root.top {P : List Nat} {x r : Nat} (h : Root P x r) : pa P r = r := by
  induction h with
  | here e => exact e
  | up _ _ ih => exact ih

structure Uf (n : Nat) (P : List Nat) : Prop where
  len : P.length = n
  le : ∀ x, x < n → pa P x ≤ x

theorem Uf.root {n : Nat} {P : List Nat} (h : Uf n P) (x : Nat) : x < n → ∃ r, Root P x r ∧ r ≤ x := by
  induction x using Nat.strongRecOn with
  | ind x ih =>
    intro hx
    by_cases e : pa P x = x
    · exact ⟨x, .here e, Nat.le_refl _⟩
    · have := h.le x hx
      obtain ⟨r, hr, hle⟩ := ih (pa P x) (by omega) (by omega)
      exact ⟨r, .up e hr, by omega⟩
theorem Uf.root_le {n : Nat} {P : List Nat} (h : Uf n P) {x r : Nat} (hx : x < n) (hr : Root P x r) : r ≤ x := by
  obtain ⟨s, hs, hle⟩ := h.root x hx
  rw [hr.unique hs]; exact hle

theorem Uf.start (n : Nat) : Uf n (List.range n) := ⟨by simp, fun x hx => by rw [pa_range hx]; exact Nat.le_refl _⟩

theorem Uf.halve {n x : Nat} {P : List Nat} (h : Uf n P) (hx : x < n) : Uf n (P.set x (pa P (pa P x))) := by
  refine ⟨by rw [List.length_set]; exact h.len, fun y hy => ?_⟩
  rw [pa_set (by rw [h.len]; exact hx)]
  split
  · rename_i e
    subst e
    have h1 := h.le y hx
    have h2 := h.le (pa P y) (by omega)
    omega
  · exact h.le y hy

theorem Uf.halve_root {n x : Nat} {P : List Nat} (h : Uf n P) (hx : x < n) (hne : pa P x ≠ x) (y : Nat) : y < n → ∀ r, Root P y r → Root (P.set x (pa P (pa P x))) y r := by
  have hl : x < P.length := by rw [h.len]; exact hx
  induction y using Nat.strongRecOn with
  | ind y ih =>
    intro hy r hr
    cases hr with
    | here e =>
      refine .here ?_
      rw [pa_set hl, if_neg (by intro e2; subst e2; exact hne e)]
      exact e
    | up ne hr =>
      have hle := h.le y hy
      by_cases e : y = x
      · subst e
        have hp : pa P y < y := by omega
        by_cases e2 : pa P (pa P y) = pa P y
        · refine .up ?_ ?_
          · rw [pa_set hl, if_pos rfl, e2]; exact ne
          · rw [pa_set hl, if_pos rfl, e2]
            rw [e2] at ih
            exact ih (pa P y) hp (by omega) r hr
        · have hg := h.le (pa P y) (by omega)
          have hr2 : Root P (pa P (pa P y)) r := by
            cases hr with
            | here e3 => exact absurd e3 e2
            | up _ k => exact k
          refine .up ?_ ?_
          · rw [pa_set hl, if_pos rfl]; omega
          · rw [pa_set hl, if_pos rfl]
            exact ih _ (by omega) (by omega) r hr2
      · refine .up ?_ ?_
        · rw [pa_set hl, if_neg e]; exact ne
        · rw [pa_set hl, if_neg e]
          exact ih _ (by omega) (by omega) r hr

/-- What walks to the root leave: the same roots; a thing right below its root stays so. -/
structure Kin (n : Nat) (P P' : List Nat) : Prop where
  uf : Uf n P'
  root : ∀ y, y < n → ∀ r, Root P y r → Root P' y r
  flat : ∀ y, y < n → pa P (pa P y) = pa P y → pa P' y = pa P y

theorem Kin.refl {n : Nat} {P : List Nat} (h : Uf n P) : Kin n P P := ⟨h, fun _ _ _ h => h, fun _ _ _ => rfl⟩
theorem Kin.trans {n : Nat} {P P' P'' : List Nat} (h0 : Uf n P) (h : Kin n P P') (k : Kin n P' P'') : Kin n P P'' where
  uf := k.uf
  root := fun y hy r hr => k.root y hy r (h.root y hy r hr)
  flat := fun y hy e => by
    have hle := h0.le y hy
    have e1 := h.flat y hy e
    have e2 := h.flat (pa P y) (by omega) (by rw [e, e])
    rw [k.flat y hy (by rw [e1, e2, e]), e1]
theorem Kin.halve {n x : Nat} {P : List Nat} (h : Uf n P) (hx : x < n) (hne : pa P x ≠ x) : Kin n P (P.set x (pa P (pa P x))) where
  uf := h.halve hx
  root := fun y hy r hr => h.halve_root hx hne y hy r hr
  flat := fun y hy e => by
    rw [pa_set (by rw [h.len]; exact hx)]
    split
    · rename_i e2; subst e2; exact e
    · rfl

theorem Kin.flat2 {n y : Nat} {P P' : List Nat} (h0 : Uf n P) (h : Kin n P P') (hy : y < n) (e : pa P (pa P y) = pa P y) : pa P' (pa P' y) = pa P' y := by
  have hle := h0.le y hy
  have e1 := h.flat y hy e
  have e2 := h.flat (pa P y) (by omega) (by rw [e, e])
  rw [e1, e2, e]

/-- A thing set right below its root. -/
theorem Kin.point {n x r : Nat} {P : List Nat} (h : Uf n P) (hx : x < n) (hr : Root P x r) : Kin n P (P.set x r) := by
  have hl : x < P.length := by rw [h.len]; exact hx
  have hle := h.root_le hx hr
  refine ⟨⟨by rw [List.length_set]; exact h.len, fun y hy => ?_⟩, fun y => ?_, fun y hy e => ?_⟩
  · rw [pa_set hl]
    split
    · omega
    · exact h.le y hy
  · induction y using Nat.strongRecOn with
    | ind y ih =>
      intro hy s hs
      have hs0 := hs
      cases hs with
      | here e =>
        refine .here ?_
        rw [pa_set hl]
        split
        · rename_i e2
          subst e2
          exact hr.unique hs0
        · exact e
      | up ne hs =>
        have h1 := h.le y hy
        by_cases c : y = x
        · subst c
          have e2 := hr.unique hs0
          subst e2
          have hne : r ≠ y := by
            have := h.root_le (x := pa P y) (by omega) hs
            omega
          refine .up ?_ ?_
          · rw [pa_set hl, if_pos rfl]; exact hne
          · rw [pa_set hl, if_pos rfl]
            exact .here (by rw [pa_set hl, if_neg hne]; exact hr.top)
        · refine .up ?_ ?_
          · rw [pa_set hl, if_neg c]; exact ne
          · rw [pa_set hl, if_neg c]
            exact ih _ (by omega) (by omega) s hs
  · rw [pa_set hl]
    split
    · rename_i c
      subst c
      by_cases e2 : pa P y = y
      · rw [e2]; exact hr.unique (.here e2)
      · exact hr.unique (.up e2 (.here e))
    · rfl

/-- Two roots joined. -/
theorem Uf.join {n M m : Nat} {P : List Nat} (h : Uf n P) (hM : M < n) (hle : m ≤ M) : Uf n (P.set M m) := by
  refine ⟨by rw [List.length_set]; exact h.len, fun y hy => ?_⟩
  rw [pa_set (by rw [h.len]; exact hM)]
  split
  · omega
  · exact h.le y hy
theorem Uf.join_root {n M m : Nat} {P : List Nat} (h : Uf n P) (hM : M < n) (hMr : pa P M = M) (hmr : pa P m = m) {y r : Nat} (hr : Root P y r) : Root (P.set M m) y (if r = M then m else r) := by
  have hl : M < P.length := by rw [h.len]; exact hM
  induction hr with
  | @here y e =>
    by_cases c : y = M
    · subst c
      rw [if_pos rfl]
      by_cases c2 : m = y
      · subst c2
        exact .here (by rw [pa_set hl, if_pos rfl])
      · refine .up (by rw [pa_set hl, if_pos rfl]; exact c2) ?_
        rw [pa_set hl, if_pos rfl]
        exact .here (by rw [pa_set hl, if_neg c2]; exact hmr)
    · rw [if_neg c]
      exact .here (by rw [pa_set hl, if_neg c]; exact e)
  | @up y r ne _ ih =>
    have c : y ≠ M := by intro e; subst e; exact ne hMr
    refine .up (by rw [pa_set hl, if_neg c]; exact ne) ?_
    rw [pa_set hl, if_neg c]
    exact ih

/-- The parents tell the ties. -/
def Tells (n : Nat) (T : Nat → Nat → Prop) (P : List Nat) : Prop := ∀ x y, x < n → y < n → (Conn T x y ↔ ∃ r, Root P x r ∧ Root P y r)

theorem Tells.start (n : Nat) (T : Nat → Nat → Prop) (hT : ∀ a b, ¬ T a b) : Tells n T (List.range n) := by
  intro x y hx hy
  constructor
  · intro h
    have : y = x := by
      induction h with
      | refl => rfl
      | step _ hz _ => rcases hz with hz | hz <;> exact absurd hz (hT _ _)
    subst this
    exact ⟨y, .here (pa_range hx), .here (pa_range hx)⟩
  · rintro ⟨r, h1, h2⟩
    have e1 := h1.unique (.here (pa_range hx))
    have e2 := h2.unique (.here (pa_range hy))
    rw [← e1, e2]
    exact .refl _

theorem Tells.kin {n : Nat} {T : Nat → Nat → Prop} {P P' : List Nat} (hu : Uf n P) (h : Tells n T P) (k : Kin n P P') : Tells n T P' := by
  intro x y hx hy
  rw [h x y hx hy]
  constructor
  · rintro ⟨r, h1, h2⟩
    exact ⟨r, k.root x hx r h1, k.root y hy r h2⟩
  · rintro ⟨r, h1, h2⟩
    obtain ⟨s, hs, _⟩ := hu.root x hx
    obtain ⟨t, ht, _⟩ := hu.root y hy
    have e1 := (k.root x hx s hs).unique h1
    have e2 := (k.root y hy t ht).unique h2
    subst e1 e2
    exact ⟨_, hs, ht⟩

theorem Tells.join {n a b ra rb : Nat} {T T' : Nat → Nat → Prop} {P : List Nat} (hu : Uf n P) (h : Tells n T P) (hT : ∀ x y, T x y → x < n ∧ y < n) (hT' : ∀ x y, T' x y ↔ T x y ∨ (x = a ∧ y = b)) (ha : a < n) (hb : b < n)
    (hra : Root P a ra) (hrb : Root P b rb) : Tells n T' (P.set (max ra rb) (min ra rb)) := by
  have hale := hu.root_le ha hra
  have hble := hu.root_le hb hrb
  have hmono : ∀ x y, T x y → T' x y := fun x y hxy => (hT' x y).2 (.inl hxy)
  have hab : Conn T' a b := .step (.refl _) (.inl ((hT' a b).2 (.inr ⟨rfl, rfl⟩)))
  have htop : pa P (max ra rb) = max ra rb ∧ pa P (min ra rb) = min ra rb := by
    have h1 := hra.top
    have h2 := hrb.top
    rcases Nat.le_total ra rb with hle | hle
    · rw [Nat.max_eq_right hle, Nat.min_eq_left hle]; exact ⟨h2, h1⟩
    · rw [Nat.max_eq_left hle, Nat.min_eq_right hle]; exact ⟨h1, h2⟩
  have hM : max ra rb < n := by omega
  have hjoin : ∀ y r, Root P y r → Root (P.set (max ra rb) (min ra rb)) y (if r = max ra rb then min ra rb else r) := fun y r hr => hu.join_root hM htop.1 htop.2 hr
  intro x y hx hy
  obtain ⟨rx, hrx, _⟩ := hu.root x hx
  obtain ⟨ry, hry, _⟩ := hu.root y hy
  have key : (∃ r, Root (P.set (max ra rb) (min ra rb)) x r ∧ Root (P.set (max ra rb) (min ra rb)) y r) ↔ (if rx = max ra rb then min ra rb else rx) = (if ry = max ra rb then min ra rb else ry) := by
    constructor
    · rintro ⟨r, h1, h2⟩
      rw [(hjoin x rx hrx).unique h1, (hjoin y ry hry).unique h2]
    · intro e
      exact ⟨_, hjoin x rx hrx, by rw [e]; exact hjoin y ry hry⟩
  rw [key]
  constructor
  · intro hc
    clear key
    induction hc generalizing ry with
    | refl => rw [hrx.unique hry]
    | @step y z hxy hz ih =>
      have hyn : y < n := by
        rcases hz with hz | hz
        · rcases (hT' _ _).1 hz with hz | ⟨rfl, rfl⟩
          · exact (hT _ _ hz).1
          · exact ha
        · rcases (hT' _ _).1 hz with hz | ⟨rfl, rfl⟩
          · exact (hT _ _ hz).2
          · exact hb
      obtain ⟨ry', hry', _⟩ := hu.root y hyn
      have e := ih hyn ry' hry' (hu.root_le hyn hry')
      rw [e]
      have same : ∀ u v, T u v → u < n → v < n → ∀ ru rv, Root P u ru → Root P v rv → ru = rv := by
        intro u v huv hun hvn ru rv h1 h2
        obtain ⟨r, g1, g2⟩ := (h u v hun hvn).1 (.step (.refl _) (.inl huv))
        rw [h1.unique g1, h2.unique g2]
      have pair : (if ra = max ra rb then min ra rb else ra) = (if rb = max ra rb then min ra rb else rb) := by
        split <;> split <;> omega
      rcases hz with hz | hz
      · rcases (hT' _ _).1 hz with hz | ⟨rfl, rfl⟩
        · rw [same y z hz hyn hy ry' ry hry' hry]
        · rw [hry'.unique hra, hry.unique hrb]; exact pair
      · rcases (hT' _ _).1 hz with hz | ⟨rfl, rfl⟩
        · rw [same z y hz hy hyn ry ry' hry hry']
        · rw [hry'.unique hrb, hry.unique hra]; exact pair.symm
  · intro e
    have conn : ∀ u v, u < n → v < n → ∀ r, Root P u r → Root P v r → Conn T' u v := fun u v hu' hv r h1 h2 => ((h u v hu' hv).2 ⟨r, h1, h2⟩).mono hmono
    by_cases c : rx = ry
    · subst c; exact conn x y hx hy _ hrx hry
    · have hcase : (rx = max ra rb ∧ ry = min ra rb) ∨ (ry = max ra rb ∧ rx = min ra rb) := by
        split at e <;> split at e <;> omega
      have full : ∀ u v ru rv, u < n → v < n → Root P u ru → Root P v rv → ru = max ra rb → rv = min ra rb → Conn T' u v := by
        intro u v ru rv hun hvn h1 h2 e1 e2
        rcases Nat.le_total ra rb with hle | hle
        · rw [Nat.max_eq_right hle] at e1; rw [Nat.min_eq_left hle] at e2
          subst e1 e2
          exact ((conn u b hun hb _ h1 hrb).trans hab.symm).trans (conn a v ha hvn _ hra h2)
        · rw [Nat.max_eq_left hle] at e1; rw [Nat.min_eq_right hle] at e2
          subst e1 e2
          exact ((conn u a hun ha _ h1 hra).trans hab).trans (conn b v hb hvn _ hrb h2)
      rcases hcase with ⟨e1, e2⟩ | ⟨e1, e2⟩
      · exact full x y rx ry hx hy hrx hry e1 e2
      · exact (full y x ry rx hy hx hry hrx e1 e2).symm

/-- Each thing right below its root: the list tells the lowest of each class. -/
theorem Tells.least {n : Nat} {T : Nat → Nat → Prop} {P : List Nat} (hu : Uf n P) (h : Tells n T P) (hT : ∀ x y, T x y → x < n ∧ y < n) (hf : ∀ x, x < n → pa P (pa P x) = pa P x) {x : Nat} (hx : x < n) : Least T x (pa P x) := by
  have hr : Root P x (pa P x) := by
    by_cases e : pa P x = x
    · rw [e]; exact .here e
    · exact .up e (.here (hf x hx))
  have hle := hu.le x hx
  refine ⟨(h x _ hx (by omega)).2 ⟨pa P x, hr, .here (hf x hx)⟩, fun y hy => ?_⟩
  have hyn : y < n := Conn.closed (p := fun y => y < n) (fun y _ z hz => by
    rcases hz with hz | hz
    · exact (hT _ _ hz).2
    · exact (hT _ _ hz).1) hy hx
  obtain ⟨r, h1, h2⟩ := (h x y hx hyn).1 hy
  rw [hr.unique h1]
  exact hu.root_le hyn h2

end Go.Proofs.Ytdddbjaggfaofaa.GM

namespace Go.Proofs.Ytdddbjaggfaofaa.GM
set_option linter.unusedVariables false

def lb (L : List (Option Nat)) (x : Nat) : Option Nat := L.getD x none
theorem lb_set {L : List (Option Nat)} {x : Nat} {v : Option Nat} (hx : x < L.length) (y : Nat) : lb (L.set x v) y = if y = x then v else lb L y := by
  unfold lb
  rw [List.getD_eq_getElem?_getD, List.getD_eq_getElem?_getD]
  by_cases e : y = x
  · subst e; simp [hx]
  · rw [List.getElem?_set_ne (by omega), if_neg e]
theorem lb_repl (n y : Nat) : lb (List.replicate n none) y = none := by
  unfold lb
  rw [List.getD_eq_getElem?_getD, List.getElem?_replicate]
  split <;> rfl
theorem lb_lt {L : List (Option Nat)} {y l : Nat} (h : lb L y = some l) : y < L.length := by
  unfold lb at h
  rcases Nat.lt_or_ge y L.length with h1 | h1
  · exact h1
  · rw [List.getD_eq_getElem?_getD, List.getElem?_eq_none h1] at h; simp at h
theorem count_none_set {L : List (Option Nat)} {x l : Nat} (hx : x < L.length) (h : lb L x = none) : (L.set x (some l)).count none + 1 = L.count none := by
  induction L generalizing x with
  | nil => simp at hx
  | cons b L ih =>
    cases x with
    | zero =>
      have : b = none := by simpa [lb] using h
      subst this
      simp
    | succ x =>
      have := ih (x := x) (by simpa using hx) (by simpa [lb] using h)
      simp only [List.set_cons_succ, List.count_cons]
      omega

/-- Things below i are labelled; labels are right; what is labelled is closed. -/
structure Lab (n : Nat) (T : Nat → Nat → Prop) (i : Nat) (L : List (Option Nat)) : Prop where
  len : L.length = n
  below : ∀ x, x < i → lb L x ≠ none
  right : ∀ x l, lb L x = some l → Least T x l
  shut : ∀ x, lb L x ≠ none → ∀ y, (T x y ∨ T y x) → lb L y ≠ none

theorem Lab.start (n : Nat) (T : Nat → Nat → Prop) : Lab n T 0 (List.replicate n none) where
  len := by simp
  below := fun x hx => by omega
  right := fun x l h => by rw [lb_repl] at h; cases h
  shut := fun x h => absurd (lb_repl n x) h

theorem Lab.skip {n i : Nat} {T : Nat → Nat → Prop} {L : List (Option Nat)} (h : Lab n T i L) (hi : lb L i ≠ none) : Lab n T (i + 1) L :=
  { h with
    below := by
      intro x hx
      by_cases e : x = i
      · subst e; exact hi
      · exact h.below x (by omega) }

theorem Lab.least {n i : Nat} {T : Nat → Nat → Prop} {L : List (Option Nat)} (h : Lab n T i L) (hi : lb L i = none) : Least T i i := by
  refine ⟨.refl _, fun y hy => ?_⟩
  rcases Nat.lt_or_ge y i with hlt | hge
  · exact absurd hi (Conn.closed (p := fun x => lb L x ≠ none) h.shut hy.symm (h.below y hlt))
  · exact hge

/-- Within the spread of label i: labels L, a stack W. -/
structure Spread (n : Nat) (T : Nat → Nat → Prop) (i : Nat) (L0 L : List (Option Nat)) (W : List Nat) : Prop where
  len : L.length = n
  self : lb L i = some i
  old : ∀ x, lb L0 x ≠ none → lb L x = lb L0 x
  new : ∀ x l, lb L0 x = none → lb L x = some l → l = i ∧ Conn T i x
  work : ∀ x ∈ W, lb L x = some i
  shut : ∀ x, lb L x ≠ none → x ∈ W ∨ ∀ y, (T x y ∨ T y x) → lb L y ≠ none
  count : W.length + L.count none ≤ n

/-- x is looked at, its neighbours in done are labelled. -/
structure Spreading (n : Nat) (T : Nat → Nat → Prop) (i : Nat) (L0 : List (Option Nat)) (x : Nat) (ys : List Nat) (k : Nat) (L : List (Option Nat)) (W : List Nat) : Prop where
  len : L.length = n
  self : lb L i = some i
  old : ∀ x, lb L0 x ≠ none → lb L x = lb L0 x
  new : ∀ x l, lb L0 x = none → lb L x = some l → l = i ∧ Conn T i x
  work : ∀ x ∈ W, lb L x = some i
  here : Conn T i x
  shut : ∀ z, lb L z ≠ none → z ∈ W ∨ z = x ∨ ∀ y, (T z y ∨ T y z) → lb L y ≠ none
  done : ∀ j, j < k → ∀ z, ys[j]? = some z → lb L z ≠ none
  count : W.length + L.count none + 1 ≤ n

theorem Spread.start {n i : Nat} {T : Nat → Nat → Prop} {L : List (Option Nat)} (h : Lab n T i L) (hi : lb L i = none) (hin : i < n) : Spread n T i L (L.set i (some i)) [i] where
  len := by rw [List.length_set]; exact h.len
  self := by rw [lb_set (by rw [h.len]; exact hin), if_pos rfl]
  old := fun x hx => by
    rw [lb_set (by rw [h.len]; exact hin), if_neg (by intro e; subst e; exact hx hi)]
  new := fun x l h0 h1 => by
    rw [lb_set (by rw [h.len]; exact hin)] at h1
    split at h1
    · rename_i e; subst e; cases h1; exact ⟨rfl, .refl _⟩
    · rw [h0] at h1; cases h1
  work := fun x hx => by
    rw [List.mem_singleton.1 hx, lb_set (by rw [h.len]; exact hin), if_pos rfl]
  shut := fun x hx => by
    by_cases e : x = i
    · subst e; exact .inl (by simp)
    · rw [lb_set (by rw [h.len]; exact hin), if_neg e] at hx
      refine .inr fun y hy => ?_
      rw [lb_set (by rw [h.len]; exact hin)]
      split
      · simp
      · exact h.shut x hx y hy
  count := by
    have := count_none_set (L := L) (x := i) (l := i) (by rw [h.len]; exact hin) hi
    have h2 := List.count_le_length (a := none) (l := L)
    rw [h.len] at h2
    simp only [List.length_cons, List.length_nil]
    omega

theorem Spread.pop {n i x : Nat} {T : Nat → Nat → Prop} {L0 L : List (Option Nat)} {W : List Nat} (h : Spread n T i L0 L (W ++ [x])) (h0 : lb L0 i = none) (ys : List Nat) (hl : Lab n T i L0) : Spreading n T i L0 x ys 0 L W where
  len := h.len
  self := h.self
  old := h.old
  new := h.new
  work := fun y hy => h.work y (by simp [hy])
  here := by
    have hx := h.work x (by simp)
    cases e : lb L0 x with
    | none => exact (h.new x i e hx).2
    | some l =>
      have h1 := h.old x (by rw [e]; simp)
      rw [hx, e] at h1
      cases h1
      exact (hl.right x i e).1.symm
  shut := fun y hy => by
    rcases h.shut y hy with h1 | h1
    · rcases List.mem_append.1 h1 with h1 | h1
      · exact .inl h1
      · exact .inr (.inl (List.mem_singleton.1 h1))
    · exact .inr (.inr h1)
  done := fun j hj => by omega
  count := by have := h.count; simp only [List.length_append, List.length_cons, List.length_nil] at this; omega

theorem Spreading.skip {n i x k z : Nat} {T : Nat → Nat → Prop} {L0 L : List (Option Nat)} {W ys : List Nat} (h : Spreading n T i L0 x ys k L W) (hz : ys[k]? = some z) (hs : lb L z ≠ none) : Spreading n T i L0 x ys (k + 1) L W :=
  { h with
    done := by
      intro j hj z' hz'
      by_cases e : j = k
      · subst e; rw [hz] at hz'; cases hz'; exact hs
      · exact h.done j (by omega) z' hz' }

theorem Spreading.add {n i x k z : Nat} {T : Nat → Nat → Prop} {L0 L : List (Option Nat)} {W ys : List Nat} (h : Spreading n T i L0 x ys k L W) (hz : ys[k]? = some z) (hs : lb L z = none) (hzn : z < n) (hT : T x z ∨ T z x) :
    Spreading n T i L0 x ys (k + 1) (L.set z (some i)) (W ++ [z]) where
  len := by rw [List.length_set]; exact h.len
  self := by rw [lb_set (by rw [h.len]; exact hzn)]; split <;> first | rfl | exact h.self
  old := fun y hy => by
    rw [lb_set (by rw [h.len]; exact hzn), if_neg ?_]
    · exact h.old y hy
    · intro e; subst e; rw [h.old y hy] at hs; exact hy hs
  new := fun y l h0 h1 => by
    rw [lb_set (by rw [h.len]; exact hzn)] at h1
    split at h1
    · rename_i e; subst e; cases h1; exact ⟨rfl, .step h.here hT⟩
    · exact h.new y l h0 h1
  work := fun y hy => by
    rw [lb_set (by rw [h.len]; exact hzn)]
    split
    · rfl
    · rcases List.mem_append.1 hy with h1 | h1
      · exact h.work y h1
      · exact absurd (List.mem_singleton.1 h1) (by assumption)
  here := h.here
  shut := fun y hy => by
    by_cases e : y = z
    · subst e; exact .inl (by simp)
    · rw [lb_set (by rw [h.len]; exact hzn), if_neg e] at hy
      rcases h.shut y hy with h1 | h1 | h1
      · exact .inl (by simp [h1])
      · exact .inr (.inl h1)
      · refine .inr (.inr fun u hu => ?_)
        rw [lb_set (by rw [h.len]; exact hzn)]
        split
        · simp
        · exact h1 u hu
  done := fun j hj z' hz' => by
    rw [lb_set (by rw [h.len]; exact hzn)]
    split
    · simp
    · rename_i hne
      by_cases e : j = k
      · subst e; rw [hz] at hz'; cases hz'; exact absurd rfl hne
      · exact h.done j (by omega) z' hz'
  count := by
    have := count_none_set (L := L) (x := z) (l := i) (by rw [h.len]; exact hzn) hs
    have := h.count
    simp only [List.length_append, List.length_cons, List.length_nil]
    omega

theorem Spreading.fin {n i x : Nat} {T : Nat → Nat → Prop} {L0 L : List (Option Nat)} {W ys : List Nat} (h : Spreading n T i L0 x ys ys.length L W) (hys : ∀ y, (T x y ∨ T y x) → y ∈ ys) : Spread n T i L0 L W where
  len := h.len
  self := h.self
  old := h.old
  new := h.new
  work := h.work
  shut := fun y hy => by
    rcases h.shut y hy with h1 | h1 | h1
    · exact .inl h1
    · subst h1
      refine .inr fun z hz => ?_
      obtain ⟨j, hj, e⟩ := List.mem_iff_getElem.1 (hys z hz)
      exact h.done j hj z (by rw [List.getElem?_eq_getElem hj, e])
    · exact .inr h1
  count := by have := h.count; omega

theorem Spread.fin {n i : Nat} {T : Nat → Nat → Prop} {L0 L : List (Option Nat)} (h : Spread n T i L0 L []) (hl : Lab n T i L0) (h0 : lb L0 i = none) : Lab n T (i + 1) L where
  len := h.len
  below := fun x hx => by
    by_cases e : x = i
    · subst e; rw [h.self]; simp
    · have := hl.below x (by omega)
      rw [h.old x this]; exact this
  right := fun x l hx => by
    cases e : lb L0 x with
    | none =>
      obtain ⟨rfl, hc⟩ := h.new x l e hx
      exact (hl.least h0).of_conn hc
    | some l' =>
      have := h.old x (by rw [e]; simp)
      rw [hx, e] at this
      cases this
      exact hl.right x l e
  shut := fun x hx => by
    rcases h.shut x hx with h1 | h1
    · simp at h1
    · exact h1

/-- All labelled: the labels are plain numbers. -/
theorem all_some : ∀ (L : List (Option Nat)), (∀ x, x < L.length → lb L x ≠ none) → ∃ P : List Nat, L = P.map some
  | [], _ => ⟨[], rfl⟩
  | a :: L, h => by
    obtain ⟨P, rfl⟩ := all_some L (fun x hx => h (x + 1) (by simpa using hx))
    have h0 := h 0 (by simp)
    cases a with
    | none => exact absurd rfl h0
    | some v => exact ⟨v :: P, rfl⟩

theorem lb_map (P : List Nat) {x : Nat} (hx : x < P.length) : lb (P.map some) x = some (pa P x) := by
  unfold lb pa
  rw [List.getD_eq_getElem?_getD, List.getD_eq_getElem?_getD, List.getElem?_map, List.getElem?_eq_getElem hx]
  rfl

theorem same_lists {P Q : List Nat} {n : Nat} {T : Nat → Nat → Prop} (hP : P.length = n) (hQ : Q.length = n) (h1 : ∀ x, x < n → Least T x (pa P x)) (h2 : ∀ x, x < n → Least T x (pa Q x)) : P = Q := by
  apply List.ext_getElem
  · rw [hP, hQ]
  · intro i hi hi'
    have := (h1 i (by omega)).unique (h2 i (by omega))
    unfold pa at this
    rwa [List.getD_eq_getElem?_getD, List.getD_eq_getElem?_getD, List.getElem?_eq_getElem hi, List.getElem?_eq_getElem hi'] at this

end Go.Proofs.Ytdddbjaggfaofaa.GM

namespace Go.Proofs.Ytdddbjaggfaofaa.GM
set_option linter.unusedVariables false

/-- Numbers N (0: not met), the stack st, the parts out, the last number given; G: what is being walked. -/
structure WF (R : List (List Nat)) (n : Nat) (G : Nat → Prop) (N st : List Nat) (out : List (List Nat)) (next : Nat) : Prop where
  len : N.length = n
  num : ∀ y, pa N y ≤ next
  inj : ∀ y z, pa N y ≠ 0 → pa N y = pa N z → y = z
  srt : st.Pairwise (fun a b => pa N a < pa N b)
  stv : ∀ y ∈ st, pa N y ≠ 0
  gst : ∀ y, G y → y ∈ st
  part : ∀ y, pa N y ≠ 0 → y ∈ st ∨ ∃ C ∈ out, y ∈ C
  disj : ∀ y ∈ st, ∀ C ∈ out, y ∉ C
  outv : ∀ C ∈ out, ∀ y ∈ C, pa N y ≠ 0
  bw : ∀ y, pa N y ≠ 0 → ¬ G y → ∀ z ∈ nb R y, pa N z ≠ 0
  fwd : ∀ y ∈ st, ∀ z ∈ st, pa N y ≤ pa N z → RR R y z
  bck : ∀ y ∈ st, ∃ g, G g ∧ pa N g ≤ pa N y ∧ RR R y g
  scc : ∀ C ∈ out, C ≠ [] ∧ Rising C ∧ ∀ y ∈ C, ∀ z, z ∈ C ↔ (RR R y z ∧ RR R z y)
  shut : ∀ C ∈ out, ∀ y ∈ C, ∀ z ∈ nb R y, ∃ D ∈ out, z ∈ D
  uniq : out.Pairwise (fun C D => ∀ y ∈ C, y ∉ D)
  cnt : next + N.count 0 = n

/-- What a walk from x has done. -/
structure Tj (R : List (List Nat)) (x : Nat) (N L st : List Nat) (out : List (List Nat)) (next : Nat) (N' L' st' : List Nat) (out' : List (List Nat)) (next' : Nat) : Prop where
  llen : L'.length = L.length
  ext : ∀ y, pa N y ≠ 0 → pa N' y = pa N y
  lows : ∀ y, pa N y ≠ 0 → pa L' y = pa L y
  fresh : ∀ y, pa N y = 0 → pa N' y ≠ 0 → next < pa N' y
  self : pa N' x ≠ 0
  stk : ∃ s, st' = st ++ s ∧ (∀ y ∈ s, pa N y = 0) ∧ (∀ u ∈ s, ∀ v ∈ nb R u, v ∈ st → pa L' x ≤ pa N v) ∧
    ((s = [] ∧ pa L' x = pa N' x) ∨ (x ∈ s ∧ pa L' x < pa N' x ∧ ∃ z ∈ st', pa N' z = pa L' x ∧ RR R x z))
  out_ : ∃ o, out' = out ++ o
  grow : next < next'

/-- Within the walk from x: k of its row are done. -/
structure Tk (R : List (List Nat)) (n : Nat) (G : Nat → Prop) (x : Nat) (N0 L0 st0 : List Nat) (out0 : List (List Nat)) (next0 : Nat) (k : Nat) (N L st : List Nat) (out : List (List Nat)) (next : Nat) : Prop where
  wf : WF R n (fun y => G y ∨ y = x) N st out next
  llen : L.length = n
  ext : ∀ y, pa N0 y ≠ 0 → pa N y = pa N0 y
  lows : ∀ y, pa N0 y ≠ 0 → pa L y = pa L0 y
  numx : pa N x = next0 + 1
  fresh : ∀ y, pa N0 y = 0 → pa N y ≠ 0 → next0 < pa N y
  stk : ∃ s, st = st0 ++ x :: s ∧ (∀ y ∈ s, pa N0 y = 0) ∧ (∀ u ∈ s, ∀ v ∈ nb R u, v ∈ st0 → pa L x ≤ pa N0 v)
  done : ∀ j, j < k → ∀ v, (nb R x)[j]? = some v → pa N v ≠ 0 ∧ (v ∈ st0 → pa L x ≤ pa N0 v)
  low : pa L x ≤ pa N x ∧ ∃ z ∈ st, pa N z = pa L x ∧ RR R x z
  out_ : ∃ o, out = out0 ++ o
  grow : next0 < next

theorem pa_lt {P : List Nat} {y : Nat} (h : pa P y ≠ 0) : y < P.length := by
  unfold pa at h
  rcases Nat.lt_or_ge y P.length with h1 | h1
  · exact h1
  · rw [List.getD_eq_getElem?_getD, List.getElem?_eq_none h1] at h; simp at h

theorem count_zero_set {N : List Nat} {x v : Nat} (hx : x < N.length) (h : pa N x = 0) (hv : v ≠ 0) : (N.set x v).count 0 + 1 = N.count 0 := by
  induction N generalizing x with
  | nil => simp at hx
  | cons b N ih =>
    cases x with
    | zero =>
      have : b = 0 := by simpa [pa] using h
      subst this
      simp [hv]
    | succ x =>
      have := ih (x := x) (by simpa using hx) (by simpa [pa] using h)
      simp only [List.set_cons_succ, List.count_cons]
      omega

section
variable {R : List (List Nat)} {n : Nat} {G : Nat → Prop} {x : Nat} {N0 L0 st0 : List Nat} {out0 : List (List Nat)} {next0 : Nat}

theorem Tk.start (h : WF R n G N0 st0 out0 next0) (hx : x < n) (hw : pa N0 x = 0) (hg : ∀ g, G g → RR R g x) (hl : L0.length = n) :
    Tk R n G x N0 L0 st0 out0 next0 0 (N0.set x (next0 + 1)) (L0.set x (next0 + 1)) (st0 ++ [x]) out0 (next0 + 1) := by
  have hxl : x < N0.length := by rw [h.len]; exact hx
  have hps : ∀ y, pa (N0.set x (next0 + 1)) y = if y = x then next0 + 1 else pa N0 y := fun y => pa_set hxl y
  have hpl : ∀ y, pa (L0.set x (next0 + 1)) y = if y = x then next0 + 1 else pa L0 y := fun y => pa_set (by rw [hl]; exact hx) y
  have hxs : x ∉ st0 := fun hm => h.stv x hm hw
  have ext : ∀ y, pa N0 y ≠ 0 → pa (N0.set x (next0 + 1)) y = pa N0 y := fun y hy => by
    rw [hps, if_neg (by intro e; subst e; exact hy hw)]
  have hst : ∀ y ∈ st0, pa (N0.set x (next0 + 1)) y = pa N0 y := fun y hy => ext y (h.stv y hy)
  refine {
    wf := {
      len := by rw [List.length_set]; exact h.len
      num := fun y => by rw [hps]; split; exact Nat.le_refl _; have := h.num y; omega
      inj := fun y z hy e => by
        rw [hps] at hy
        rw [hps, hps] at e
        by_cases c1 : y = x <;> by_cases c2 : z = x
        · rw [c1, c2]
        · rw [if_pos c1, if_neg c2] at e; have := h.num z; omega
        · rw [if_neg c1, if_pos c2] at e; have := h.num y; omega
        · rw [if_neg c1, if_neg c2] at e; rw [if_neg c1] at hy; exact h.inj y z hy e
      srt := by
        refine List.pairwise_append.2 ⟨?_, List.pairwise_singleton _ _, ?_⟩
        · exact h.srt.imp_of_mem (fun {a b} ha hb hab => by rw [hst a ha, hst b hb]; exact hab)
        · intro a ha b hb
          rw [List.mem_singleton.1 hb, hst a ha, hps, if_pos rfl]
          have := h.num a; omega
      stv := fun y hy => by
        rcases List.mem_append.1 hy with hy | hy
        · rw [hst y hy]; exact h.stv y hy
        · rw [List.mem_singleton.1 hy, hps, if_pos rfl]; omega
      gst := fun y hy => by
        rcases hy with hy | rfl
        · exact List.mem_append_left _ (h.gst y hy)
        · simp
      part := fun y hy => by
        by_cases c : y = x
        · subst c; exact .inl (by simp)
        · rw [hps, if_neg c] at hy
          rcases h.part y hy with h1 | h1
          · exact .inl (List.mem_append_left _ h1)
          · exact .inr h1
      disj := fun y hy C hC hyC => by
        rcases List.mem_append.1 hy with hy | hy
        · exact h.disj y hy C hC hyC
        · rw [List.mem_singleton.1 hy] at hyC
          exact h.outv C hC x hyC hw
      outv := fun C hC y hy => by rw [ext y (h.outv C hC y hy)]; exact h.outv C hC y hy
      bw := fun y hy hG z hz => by
        have c : y ≠ x := fun e => hG (.inr e)
        rw [hps, if_neg c] at hy
        have := h.bw y hy (fun hg => hG (.inl hg)) z hz
        rw [ext z this]; exact this
      fwd := fun y hy z hz hle => by
        rcases List.mem_append.1 hy with hy | hy <;> rcases List.mem_append.1 hz with hz | hz
        · rw [hst y hy, hst z hz] at hle; exact h.fwd y hy z hz hle
        · rw [List.mem_singleton.1 hz]
          obtain ⟨g, hg1, _, hg2⟩ := h.bck y hy
          exact hg2.trans (hg g hg1)
        · rw [List.mem_singleton.1 hy, hps, if_pos rfl, hst z hz] at hle
          have := h.num z; omega
        · rw [List.mem_singleton.1 hy, List.mem_singleton.1 hz]; exact .refl _
      bck := fun y hy => by
        rcases List.mem_append.1 hy with hy | hy
        · obtain ⟨g, hg1, hg2, hg3⟩ := h.bck y hy
          exact ⟨g, .inl hg1, by rw [hst y hy, hst g (h.gst g hg1)]; exact hg2, hg3⟩
        · exact ⟨x, .inr rfl, by rw [List.mem_singleton.1 hy]; exact Nat.le_refl _, by rw [List.mem_singleton.1 hy]; exact .refl _⟩
      scc := h.scc
      shut := h.shut
      uniq := h.uniq
      cnt := by have := count_zero_set (v := next0 + 1) hxl hw (by omega); have := h.cnt; omega }
    llen := by rw [List.length_set]; exact hl
    ext := ext
    lows := fun y hy => by rw [hpl, if_neg (by intro e; subst e; exact hy hw)]
    numx := by rw [hps, if_pos rfl]
    fresh := fun y h0 h1 => by
      rw [hps] at h1 ⊢
      split
      · omega
      · rename_i c; rw [if_neg c] at h1; exact absurd h0 h1
    stk := ⟨[], rfl, by simp, by simp⟩
    done := fun j hj => by omega
    low := ⟨by rw [hpl, if_pos rfl, hps, if_pos rfl]; exact Nat.le_refl _, x, by simp, by rw [hpl, if_pos rfl, hps, if_pos rfl], .refl _⟩
    out_ := ⟨[], by simp⟩
    grow := by omega }

variable {k : Nat} {N L st : List Nat} {out : List (List Nat)} {next : Nat}

theorem Tk.mono_low (h : Tk R n G x N0 L0 st0 out0 next0 k N L st out next) (hx : x < n) {y m : Nat} (hy : (nb R x)[k]? = some y) (hv : pa N y ≠ 0) (hm : m ≤ pa L x) (hmy : y ∈ st0 → m ≤ pa N0 y)
    (hzz : ∃ z ∈ st, pa N z = m ∧ RR R x z) (hw0 : pa N0 x = 0) : Tk R n G x N0 L0 st0 out0 next0 (k + 1) N (L.set x m) st out next := by
  have hpl : ∀ y, pa (L.set x m) y = if y = x then m else pa L y := fun y => pa_set (by rw [h.llen]; exact hx) y
  have hx' : pa (L.set x m) x = m := by rw [hpl, if_pos rfl]
  refine { h with
    llen := by rw [List.length_set]; exact h.llen
    lows := ?_
    stk := ?_
    done := ?_
    low := ⟨by rw [hx']; have := h.low.1; omega, by rw [hx']; exact hzz⟩ }
  · intro z hz1
    rw [hpl, if_neg (by intro e; subst e; exact hz1 hw0)]; exact h.lows z hz1
  · obtain ⟨s, h1, h2, h3⟩ := h.stk
    exact ⟨s, h1, h2, fun u hu v hv hvs => by rw [hx']; have := h3 u hu v hv hvs; omega⟩
  · intro j hj v hjv
    rw [hx']
    by_cases e : j = k
    · subst e
      rw [hy] at hjv
      cases hjv
      exact ⟨hv, hmy⟩
    · obtain ⟨d1, d2⟩ := h.done j (by omega) v hjv
      exact ⟨d1, fun hvs => by have := d2 hvs; omega⟩

theorem Tk.on_ (h : Tk R n G x N0 L0 st0 out0 next0 k N L st out next) (h0 : WF R n G N0 st0 out0 next0) (hx : x < n) (hw0 : pa N0 x = 0) {y : Nat} (hy : (nb R x)[k]? = some y) (hv : pa N y ≠ 0) (hs : y ∈ st) :
    Tk R n G x N0 L0 st0 out0 next0 (k + 1) N (L.set x (min (pa L x) (pa N y))) st out next := by
  refine h.mono_low hx hy hv (Nat.min_le_left _ _) (fun hys => ?_) ?_ hw0
  · rw [h.ext y (h0.stv y hys)]; exact Nat.min_le_right _ _
  · rcases Nat.le_total (pa L x) (pa N y) with hle | hle
    · rw [Nat.min_eq_left hle]; exact h.low.2
    · rw [Nat.min_eq_right hle]; exact ⟨y, hs, rfl, .step (.refl _) (List.mem_of_getElem? hy)⟩

theorem set_self (L : List Nat) (x : Nat) : L.set x (pa L x) = L := by
  apply List.ext_getElem?
  intro i
  by_cases e : i = x
  · subst e
    by_cases hl : i < L.length
    · rw [List.getElem?_set_self hl, List.getElem?_eq_getElem hl]
      unfold pa
      rw [List.getD_eq_getElem?_getD, List.getElem?_eq_getElem hl]; rfl
    · rw [List.getElem?_eq_none (by rw [List.length_set]; omega), List.getElem?_eq_none (by omega)]
  · rw [List.getElem?_set_ne (by omega)]

theorem Tk.off (h : Tk R n G x N0 L0 st0 out0 next0 k N L st out next) (h0 : WF R n G N0 st0 out0 next0) (hx : x < n) (hw0 : pa N0 x = 0) {y : Nat} (hy : (nb R x)[k]? = some y) (hv : pa N y ≠ 0) (hs : y ∉ st) :
    Tk R n G x N0 L0 st0 out0 next0 (k + 1) N L st out next := by
  have := h.mono_low (m := pa L x) hx hy hv (Nat.le_refl _) (fun hys => by
    obtain ⟨s, h1, _⟩ := h.stk
    exact absurd (by rw [h1]; exact List.mem_append_left _ hys) hs) h.low.2 hw0
  rwa [set_self] at this

theorem Tk.call {N' L' st' : List Nat} {out' : List (List Nat)} {next' : Nat} (h : Tk R n G x N0 L0 st0 out0 next0 k N L st out next) (h0 : WF R n G N0 st0 out0 next0) (hx : x < n) (hw0 : pa N0 x = 0) {y : Nat} (hy : (nb R x)[k]? = some y) (hv : pa N y = 0)
    (hwf : WF R n (fun y => G y ∨ y = x) N' st' out' next') (ht : Tj R y N L st out next N' L' st' out' next') :
    Tk R n G x N0 L0 st0 out0 next0 (k + 1) N' (L'.set x (min (pa L' x) (pa L' y))) st' out' next' := by
  have hvx : pa N x ≠ 0 := by rw [h.numx]; omega
  have hlx : pa L' x = pa L x := ht.lows x hvx
  have hnx : pa N' x = pa N x := ht.ext x hvx
  obtain ⟨s, s1, s2, s3⟩ := h.stk
  obtain ⟨t, t1, t2, t3, t4⟩ := ht.stk
  have hst0 : ∀ v ∈ st0, v ∈ st := fun v hv => by rw [s1]; exact List.mem_append_left _ hv
  have hNv : ∀ v ∈ st0, pa N v = pa N0 v := fun v hv => h.ext v (h0.stv v hv)
  have hfy : pa N x < pa N' y := by have := ht.fresh y hv ht.self; have := h.wf.num x; omega
  have hxlow : pa L x ≤ pa N x := h.low.1
  have base : Tk R n G x N0 L0 st0 out0 next0 k N' (L'.set x (min (pa L' x) (pa L' y))) st' out' next' := by
    have hpl : ∀ z, pa (L'.set x (min (pa L' x) (pa L' y))) z = if z = x then min (pa L' x) (pa L' y) else pa L' z := fun z => pa_set (by rw [ht.llen, h.llen]; exact hx) z
    have hx' : pa (L'.set x (min (pa L' x) (pa L' y))) x = min (pa L' x) (pa L' y) := by rw [hpl, if_pos rfl]
    have e0 : ∀ z, pa N0 z ≠ 0 → pa N z ≠ 0 := fun z hz => by rw [h.ext z hz]; exact hz
    refine {
      wf := hwf
      llen := by rw [List.length_set, ht.llen]; exact h.llen
      ext := fun z hz => by rw [ht.ext z (e0 z hz)]; exact h.ext z hz
      lows := fun z hz => by
        rw [hpl, if_neg (by intro e; subst e; exact hz hw0), ht.lows z (e0 z hz)]; exact h.lows z hz
      numx := by rw [hnx]; exact h.numx
      fresh := fun z z0 z1 => by
        by_cases c : pa N z = 0
        · have := ht.fresh z c z1; have := h.grow; omega
        · rw [ht.ext z c]; exact h.fresh z z0 c
      stk := ⟨s ++ t, by rw [t1, s1]; simp, fun z hz => ?_, fun u hu v hvu hvs => ?_⟩
      done := fun j hj v hjv => ?_
      low := ⟨by rw [hx', hnx]; omega, ?_⟩
      out_ := ?_
      grow := by have := h.grow; have := ht.grow; omega }
    · rcases List.mem_append.1 hz with hz | hz
      · exact s2 z hz
      · have := t2 z hz
        rcases Nat.eq_zero_or_pos (pa N0 z) with e | e
        · exact e
        · rw [h.ext z (by omega)] at this; omega
    · rw [hx']
      rcases List.mem_append.1 hu with hu | hu
      · have := s3 u hu v hvu hvs; rw [hlx]; omega
      · have := t3 u hu v hvu (hst0 v hvs); rw [hNv v hvs] at this; omega
    · obtain ⟨d1, d2⟩ := h.done j hj v hjv
      refine ⟨by rw [ht.ext v d1]; exact d1, fun hvs => ?_⟩
      rw [hx']
      have := d2 hvs; rw [hlx]; omega
    · rw [hx']
      rcases Nat.le_total (pa L' x) (pa L' y) with hle | hle
      · rw [Nat.min_eq_left hle]
        obtain ⟨z, z1, z2, z3⟩ := h.low.2
        exact ⟨z, by rw [t1]; exact List.mem_append_left _ z1, by rw [ht.ext z (h.wf.stv z z1), hlx]; exact z2, z3⟩
      · rw [Nat.min_eq_right hle]
        rcases t4 with ⟨_, e⟩ | ⟨_, _, z, z1, z2, z3⟩
        · omega
        · exact ⟨z, z1, z2, (RR.step (.refl _) (List.mem_of_getElem? hy)).trans z3⟩
    · obtain ⟨o, ho⟩ := h.out_
      obtain ⟨p, hp⟩ := ht.out_
      exact ⟨o ++ p, by rw [hp, ho, List.append_assoc]⟩
  have := base.mono_low (y := y) (m := pa (L'.set x (min (pa L' x) (pa L' y))) x) hx hy ht.self (Nat.le_refl _) (fun hys => absurd hv (by rw [hNv y hys]; exact h0.stv y hys)) base.low.2 hw0
  rwa [set_self] at this

/-- x's row is done, x is not the first of its part. -/
theorem Tk.fin_low (h : Tk R n G x N0 L0 st0 out0 next0 (nb R x).length N L st out next) (h0 : WF R n G N0 st0 out0 next0) (hl0 : L0.length = n) (hne : pa L x ≠ pa N x) : WF R n G N st out next ∧ Tj R x N0 L0 st0 out0 next0 N L st out next := by
  obtain ⟨s, s1, s2, s3⟩ := h.stk
  have hlt : pa L x < pa N x := by have := h.low.1; omega
  have hxst : x ∈ st := by rw [s1]; simp
  refine ⟨{ h.wf with
      gst := fun y hy => h.wf.gst y (.inl hy)
      bw := fun y hy hG z hz => by
        by_cases c : y = x
        · subst c
          obtain ⟨j, hj, e⟩ := List.mem_iff_getElem.1 hz
          exact (h.done j hj z (by rw [List.getElem?_eq_getElem hj, e])).1
        · exact h.wf.bw y hy (fun hg => hg.elim hG c) z hz
      bck := fun y hy => by
        obtain ⟨g, hg, hle, hr⟩ := h.wf.bck y hy
        rcases hg with hg | rfl
        · exact ⟨g, hg, hle, hr⟩
        · obtain ⟨z, z1, z2, z3⟩ := h.low.2
          obtain ⟨g2, hg2, hle2, hr2⟩ := h.wf.bck z z1
          rcases hg2 with hg2 | rfl
          · exact ⟨g2, hg2, by omega, (hr.trans z3).trans hr2⟩
          · omega }, ?_⟩
  exact {
    llen := by rw [h.llen, hl0]
    ext := h.ext
    lows := h.lows
    fresh := h.fresh
    self := by rw [h.numx]; omega
    stk := ⟨x :: s, s1, fun y hy => by
        rcases List.mem_cons.1 hy with rfl | hy
        · rcases Nat.eq_zero_or_pos (pa N0 y) with e | e
          · exact e
          · have := h.ext y (by omega); rw [h.numx] at this; have := h0.num y; omega
        · exact s2 y hy, fun u hu v hv hvs => by
        rcases List.mem_cons.1 hu with rfl | hu
        · obtain ⟨j, hj, e⟩ := List.mem_iff_getElem.1 hv
          exact (h.done j hj v (by rw [List.getElem?_eq_getElem hj, e])).2 hvs
        · exact s3 u hu v hv hvs, .inr ⟨by simp, hlt, h.low.2⟩⟩
    out_ := h.out_
    grow := h.grow }

/-- x's row is done, x is the first of its part: all from x on is taken off the stack. -/
theorem Tk.fin_pop (h : Tk R n G x N0 L0 st0 out0 next0 (nb R x).length N L st out next) (h0 : WF R n G N0 st0 out0 next0) (hl0 : L0.length = n) (heq : pa L x = pa N x) {s C : List Nat} (hs : st = st0 ++ x :: s) (hC : Rising C) (hCm : ∀ y, y ∈ C ↔ y ∈ x :: s) :
    WF R n G N st0 (out ++ [C]) next ∧ Tj R x N0 L0 st0 out0 next0 N L st0 (out ++ [C]) next := by
  obtain ⟨s', s1, s2, s3⟩ := h.stk
  have hss : s' = s := by
    rw [hs] at s1
    have := List.append_cancel_left s1
    simpa using this.symm
  subst hss
  have hxst : x ∈ st := by rw [hs]; simp
  have hin : ∀ y ∈ x :: s', y ∈ st := fun y hy => by rw [hs]; exact List.mem_append_right _ hy
  have hin0 : ∀ y ∈ st0, y ∈ st := fun y hy => by rw [hs]; exact List.mem_append_left _ hy
  have hN0 : ∀ y ∈ st0, pa N y = pa N0 y := fun y hy => h.ext y (h0.stv y hy)
  have hlt0 : ∀ y ∈ st0, pa N y < pa N x := fun y hy => by rw [hN0 y hy, h.numx]; have := h0.num y; omega
  have hge : ∀ y ∈ x :: s', pa N x ≤ pa N y := fun y hy => by
    have hsrt := h.wf.srt
    rw [hs] at hsrt
    have := (List.pairwise_append.1 hsrt).2.1
    rcases List.mem_cons.1 hy with rfl | hy
    · exact Nat.le_refl _
    · exact Nat.le_of_lt ((List.pairwise_cons.1 this).1 y hy)
  have hx0 : pa N0 x = 0 := by
    rcases Nat.eq_zero_or_pos (pa N0 x) with e | e
    · exact e
    · have := h.ext x (by omega); rw [h.numx] at this; have := h0.num x; omega
  have htox : ∀ y ∈ x :: s', RR R y x := by
    intro y hy
    obtain ⟨g, hg, hle, hr⟩ := h.wf.bck y (hin y hy)
    rcases hg with hg | rfl
    · have hgs := h0.gst g hg
      exact hr.trans (h.wf.fwd g (hin0 g hgs) x hxst (Nat.le_of_lt (hlt0 g hgs)))
    · exact hr
  have hfrom : ∀ y ∈ x :: s', RR R x y := fun y hy => h.wf.fwd x hxst y (hin y hy) (hge y hy)
  have hclosed : ∀ y ∈ x :: s', ∀ z ∈ nb R y, z ∈ x :: s' ∨ ∃ D ∈ out, z ∈ D := by
    intro y hy z hz
    have hvz : pa N z ≠ 0 ∧ (z ∈ st0 → pa L x ≤ pa N0 z) := by
      rcases List.mem_cons.1 hy with rfl | hy'
      · obtain ⟨j, hj, e⟩ := List.mem_iff_getElem.1 hz
        exact h.done j hj z (by rw [List.getElem?_eq_getElem hj, e])
      · refine ⟨h.wf.bw y (h.wf.stv y (hin y hy)) ?_ z hz, s3 y hy' z hz⟩
        rintro (hg | rfl)
        · exact h0.stv y (h0.gst y hg) (s2 y hy')
        · have hsrt := h.wf.srt
          rw [hs] at hsrt
          have := (List.pairwise_cons.1 (List.pairwise_append.1 hsrt).2.1).1 y hy'
          omega
    rcases h.wf.part z hvz.1 with hzs | hzo
    · rw [hs] at hzs
      rcases List.mem_append.1 hzs with hz0 | hz1
      · have := hvz.2 hz0
        have := hlt0 z hz0
        rw [hN0 z hz0] at this
        omega
      · exact .inl hz1
    · exact .inr hzo
  have hreach : ∀ y ∈ x :: s', ∀ z, RR R y z → z ∈ x :: s' ∨ ∃ D ∈ out, z ∈ D := by
    intro y hy z hz
    refine RR.closed (p := fun z => z ∈ x :: s' ∨ ∃ D ∈ out, z ∈ D) ?_ hz (.inl hy)
    rintro u (hu | ⟨D, hD, hu⟩) v hv
    · exact hclosed u hu v hv
    · exact .inr (h.wf.shut D hD u hu v hv)
  have hscc : C ≠ [] ∧ Rising C ∧ ∀ y ∈ C, ∀ z, z ∈ C ↔ (RR R y z ∧ RR R z y) := by
    refine ⟨?_, hC, ?_⟩
    · intro e
      have := (hCm x).2 (by simp)
      rw [e] at this
      simp at this
    · intro y hy z
      rw [hCm] at hy
      rw [hCm]
      constructor
      · intro hz
        exact ⟨(htox y hy).trans (hfrom z hz), (htox z hz).trans (hfrom y hy)⟩
      · rintro ⟨r1, r2⟩
        rcases hreach y hy z r1 with h1 | ⟨D, hD, hzD⟩
        · exact h1
        · have hyD : ∃ D ∈ out, y ∈ D := RR.closed (p := fun z => ∃ D ∈ out, z ∈ D) (fun u ⟨D, hD, hu⟩ v hv => h.wf.shut D hD u hu v hv) r2 ⟨D, hD, hzD⟩
          obtain ⟨D', hD', hy'⟩ := hyD
          exact absurd hy' (h.wf.disj y (hin y hy) D' hD')
  have hnot0 : ∀ y ∈ x :: s', y ∉ st0 := fun y hy hy0 => by have := hlt0 y hy0; have := hge y hy; omega
  refine ⟨{
      len := h.wf.len
      num := h.wf.num
      inj := h.wf.inj
      srt := by have := h.wf.srt; rw [hs] at this; exact (List.pairwise_append.1 this).1
      stv := fun y hy => h.wf.stv y (hin0 y hy)
      gst := h0.gst
      part := fun y hy => by
        rcases h.wf.part y hy with h1 | ⟨D, hD, h1⟩
        · rw [hs] at h1
          rcases List.mem_append.1 h1 with h1 | h1
          · exact .inl h1
          · exact .inr ⟨C, by simp, (hCm y).2 h1⟩
        · exact .inr ⟨D, by simp [hD], h1⟩
      disj := fun y hy D hD hyD => by
        rcases List.mem_append.1 hD with hD | hD
        · exact h.wf.disj y (hin0 y hy) D hD hyD
        · rw [List.mem_singleton.1 hD, hCm] at hyD
          exact hnot0 y hyD hy
      outv := fun D hD y hy => by
        rcases List.mem_append.1 hD with hD | hD
        · exact h.wf.outv D hD y hy
        · rw [List.mem_singleton.1 hD, hCm] at hy
          exact h.wf.stv y (hin y hy)
      bw := fun y hy hG z hz => by
        by_cases c : y = x
        · subst c
          obtain ⟨j, hj, e⟩ := List.mem_iff_getElem.1 hz
          exact (h.done j hj z (by rw [List.getElem?_eq_getElem hj, e])).1
        · exact h.wf.bw y hy (fun hg => hg.elim hG c) z hz
      fwd := fun y hy z hz hle => h.wf.fwd y (hin0 y hy) z (hin0 z hz) hle
      bck := fun y hy => by
        obtain ⟨g, hg, hle, hr⟩ := h0.bck y hy
        exact ⟨g, hg, by rw [hN0 y hy, hN0 g (h0.gst g hg)]; exact hle, hr⟩
      scc := fun D hD => by
        rcases List.mem_append.1 hD with hD | hD
        · exact h.wf.scc D hD
        · rw [List.mem_singleton.1 hD]; exact hscc
      shut := fun D hD y hy z hz => by
        rcases List.mem_append.1 hD with hD | hD
        · obtain ⟨D', h1, h2⟩ := h.wf.shut D hD y hy z hz
          exact ⟨D', by simp [h1], h2⟩
        · rw [List.mem_singleton.1 hD, hCm] at hy
          rcases hclosed y hy z hz with h1 | ⟨D', h1, h2⟩
          · exact ⟨C, by simp, (hCm z).2 h1⟩
          · exact ⟨D', by simp [h1], h2⟩
      uniq := by
        refine List.pairwise_append.2 ⟨h.wf.uniq, List.pairwise_singleton _ _, ?_⟩
        intro D hD D' hD' y hy hy'
        rw [List.mem_singleton.1 hD', hCm] at hy'
        exact h.wf.disj y (hin y hy') D hD hy
      cnt := h.wf.cnt }, ?_⟩
  exact {
    llen := by rw [h.llen, hl0]
    ext := h.ext
    lows := h.lows
    fresh := h.fresh
    self := by rw [h.numx]; omega
    stk := ⟨[], by simp, by simp, by simp, .inl ⟨rfl, heq⟩⟩
    out_ := by
      obtain ⟨o, ho⟩ := h.out_
      exact ⟨o ++ [C], by rw [ho, List.append_assoc]⟩
    grow := h.grow }
end

theorem WF.start (R : List (List Nat)) (n : Nat) : WF R n (fun _ => False) (List.replicate n 0) [] [] 0 := by
  have hz : ∀ y, pa (List.replicate n 0) y = 0 := fun y => by
    unfold pa
    rw [List.getD_eq_getElem?_getD, List.getElem?_replicate]
    split <;> rfl
  exact {
    len := by simp
    num := fun y => by rw [hz]; exact Nat.le_refl _
    inj := fun y z hy => absurd (hz y) hy
    srt := List.Pairwise.nil
    stv := by simp
    gst := fun y hy => hy.elim
    part := fun y hy => absurd (hz y) hy
    disj := by simp
    outv := by simp
    bw := fun y hy => absurd (hz y) hy
    fwd := by simp
    bck := by simp
    scc := by simp
    shut := by simp
    uniq := List.Pairwise.nil
    cnt := by simp }

/-- The stack has no more things than numbers were given. -/
theorem WF.st_len {R : List (List Nat)} {n : Nat} {G : Nat → Prop} {N st : List Nat} {out : List (List Nat)} {next : Nat} (h : WF R n G N st out next) : st.length ≤ next := by
  have h1 : Rising (st.map (pa N)) := by
    unfold Rising
    exact List.pairwise_map.2 h.srt
  have := rising_length_from (a := 1) (n := next + 1) h1 (fun y hy => by
    obtain ⟨z, hz, e⟩ := List.mem_map.1 hy
    have := h.stv z hz
    have := h.num z
    omega)
  simpa using this

theorem WF.empty {R : List (List Nat)} {n : Nat} {N st : List Nat} {out : List (List Nat)} {next : Nat} (h : WF R n (fun _ => False) N st out next) : st = [] := by
  cases st with
  | nil => rfl
  | cons y st =>
    obtain ⟨g, hg, _⟩ := h.bck y List.mem_cons_self
    exact hg.elim

end Go.Proofs.Ytdddbjaggfaofaa.GM

namespace Go.Proofs.Ytdddbjaggfaofaa.GM
set_option linter.unusedVariables false

/-- Two things changed for one another. -/
def swp (l : List Nat) (i j : Nat) : List Nat := (l.set i (pa l j)).set j (pa l i)

theorem swp_len (l : List Nat) (i j : Nat) : (swp l i j).length = l.length := by simp [swp]
theorem swp_at {l : List Nat} {i j : Nat} (hi : i < l.length) (hj : j < l.length) (k : Nat) : pa (swp l i j) k = if k = j then pa l i else if k = i then pa l j else pa l k := by
  unfold swp
  rw [pa_set (by rw [List.length_set]; exact hj), pa_set hi]
theorem pa_get {l : List Nat} {i : Nat} (hi : i < l.length) : pa l i = l[i] := by
  unfold pa; rw [List.getD_eq_getElem?_getD, List.getElem?_eq_getElem hi]; rfl
theorem swp_perm {l : List Nat} {i j : Nat} (hi : i < l.length) (hj : j < l.length) : (swp l i j).Perm l := by
  unfold swp
  rw [pa_get hi, pa_get hj]
  exact List.set_set_perm hi hj

/-- In order from the parents a on, below n. -/
def Hp (l : List Nat) (n a : Nat) : Prop := ∀ j, 0 < j → j < n → a ≤ (j - 1) / 2 → pa l ((j - 1) / 2) ≤ pa l j

theorem Hp.root {l : List Nat} {n : Nat} (h : Hp l n 0) : ∀ k, k < n → pa l 0 ≤ pa l k := by
  intro k
  induction k using Nat.strongRecOn with
  | ind k ih =>
    intro hk
    rcases Nat.eq_zero_or_pos k with rfl | h0
    · exact Nat.le_refl _
    · have := h k h0 hk (Nat.zero_le _)
      have := ih ((k - 1) / 2) (by omega) (by omega)
      omega

/-- While a thing sinks: it stands at i. -/
structure Dn (l0 : List Nat) (n a i : Nat) (l : List Nat) : Prop where
  perm : l.Perm l0
  ord : ∀ j, 0 < j → j < n → a ≤ (j - 1) / 2 → (j - 1) / 2 ≠ i → pa l ((j - 1) / 2) ≤ pa l j
  up : ∀ j, 0 < j → j < n → (j - 1) / 2 = i → 0 < i → a ≤ (i - 1) / 2 → pa l ((i - 1) / 2) ≤ pa l j
  keep : ∀ k, n ≤ k → pa l k = pa l0 k
  ge : a ≤ i

theorem Dn.start {l : List Nat} {n a : Nat} (h : Hp l n (a + 1)) : Dn l n a a l where
  perm := List.Perm.refl _
  ord := fun j h0 hn ha hne => h j h0 hn (by omega)
  up := fun j h0 hn he hp ha => by omega
  keep := fun k _ => rfl
  ge := Nat.le_refl _

theorem Dn.leaf {l0 l : List Nat} {n a i : Nat} (h : Dn l0 n a i l) (hi : n ≤ 2 * i + 1) : Hp l n a := fun j h0 hn ha => by
  by_cases e : (j - 1) / 2 = i
  · omega
  · exact h.ord j h0 hn ha e

/-- m is the lower of the children. -/
structure Low (l : List Nat) (n i m : Nat) : Prop where
  is : m = 2 * i + 1 ∨ m = 2 * i + 2
  lt : m < n
  le1 : pa l m ≤ pa l (2 * i + 1)
  le2 : 2 * i + 2 < n → pa l m ≤ pa l (2 * i + 2)

theorem Low.le {l : List Nat} {n i m : Nat} (h : Low l n i m) {j : Nat} (h0 : 0 < j) (hn : j < n) (e : (j - 1) / 2 = i) : pa l m ≤ pa l j := by
  have : j = 2 * i + 1 ∨ j = 2 * i + 2 := by omega
  rcases this with rfl | rfl
  · exact h.le1
  · exact h.le2 hn

theorem Dn.stop {l0 l : List Nat} {n a i m : Nat} (h : Dn l0 n a i l) (hm : Low l n i m) (hle : pa l i ≤ pa l m) : Hp l n a := fun j h0 hn ha => by
  by_cases e : (j - 1) / 2 = i
  · rw [e]
    exact Nat.le_trans hle (hm.le h0 hn e)
  · exact h.ord j h0 hn ha e

theorem Dn.down {l0 l : List Nat} {n a i m : Nat} (h : Dn l0 n a i l) (hn : n ≤ l.length) (hm : Low l n i m) (hlt : pa l m < pa l i) : Dn l0 n a m (swp l i m) := by
  have hmn := hm.lt
  have his := hm.is
  have hat := fun k => swp_at (l := l) (i := i) (j := m) (by omega) (by omega) k
  exact {
    perm := (swp_perm (by omega) (by omega)).trans h.perm
    ord := fun j h0 hjn ha hne => by
      rw [hat, hat, if_neg hne]
      by_cases e : (j - 1) / 2 = i
      · rw [if_pos e]
        by_cases c : j = m
        · rw [if_pos c]; omega
        · rw [if_neg c, if_neg (by omega)]
          exact hm.le h0 hjn e
      · rw [if_neg e, if_neg (by omega)]
        by_cases c : j = i
        · rw [if_pos c]
          subst c
          have := h.up m (by omega) hmn (by omega) h0 ha
          exact this
        · rw [if_neg c]
          exact h.ord j h0 hjn ha e
    up := fun j h0 hjn he hp ha => by
      have e2 : (m - 1) / 2 = i := by omega
      rw [hat, hat, if_neg (by omega), if_pos e2, if_neg (by omega), if_neg (by omega)]
      have := h.ord j h0 hjn (by omega) (by omega)
      rw [he] at this
      exact this
    keep := fun k hk => by rw [hat, if_neg (by omega), if_neg (by omega)]; exact h.keep k hk
    ge := by have := h.ge; omega }

/-- While a thing rises: it stands at j. -/
structure Up (l0 : List Nat) (j : Nat) (l : List Nat) : Prop where
  perm : l.Perm l0
  lt : j < l.length
  ord : ∀ k, 0 < k → k < l.length → k ≠ j → pa l ((k - 1) / 2) ≤ pa l k
  up : ∀ k, 0 < k → k < l.length → (k - 1) / 2 = j → 0 < j → pa l ((j - 1) / 2) ≤ pa l k

theorem Up.start {l : List Nat} {x : Nat} (h : Hp l l.length 0) : Up (l ++ [x]) l.length (l ++ [x]) where
  perm := List.Perm.refl _
  lt := by simp
  ord := fun k h0 hk hne => by
    have hk2 : k < l.length := by simp at hk; omega
    have e : ∀ i, i < l.length → pa (l ++ [x]) i = pa l i := fun i hi => by
      unfold pa; rw [List.getD_eq_getElem?_getD, List.getElem?_append_left hi, ← List.getD_eq_getElem?_getD]
    rw [e _ (by omega), e _ hk2]
    exact h k h0 hk2 (Nat.zero_le _)
  up := fun k h0 hk he hp => by simp at hk; omega

theorem Up.top {l0 l : List Nat} (h : Up l0 0 l) : Hp l l.length 0 := fun k h0 hk _ => h.ord k h0 hk (by omega)
theorem Up.stop {l0 l : List Nat} {j : Nat} (h : Up l0 j l) (hle : pa l ((j - 1) / 2) ≤ pa l j) : Hp l l.length 0 := fun k h0 hk _ => by
  by_cases e : k = j
  · rw [e]; exact hle
  · exact h.ord k h0 hk e

theorem Up.rise {l0 l : List Nat} {j : Nat} (h : Up l0 j l) (hj : 0 < j) (hlt : pa l j < pa l ((j - 1) / 2)) : Up l0 ((j - 1) / 2) (swp l ((j - 1) / 2) j) := by
  have hjl := h.lt
  obtain ⟨i, hi⟩ : ∃ i, i = (j - 1) / 2 := ⟨_, rfl⟩
  rw [← hi] at hlt ⊢
  have hat := fun k => swp_at (l := l) (i := i) (j := j) (by omega) (by omega) k
  exact {
    perm := (swp_perm (by omega) (by omega)).trans h.perm
    lt := by rw [swp_len]; omega
    ord := fun k h0 hk hne => by
      rw [swp_len] at hk
      rw [hat, hat]
      by_cases c : k = j
      · subst c
        rw [if_pos rfl, if_neg (by omega), if_pos hi.symm]
        omega
      · rw [if_neg c, if_neg hne]
        by_cases e : (k - 1) / 2 = j
        · rw [if_pos e]
          rw [hi]
          exact h.up k h0 hk e hj
        · rw [if_neg e]
          by_cases e2 : (k - 1) / 2 = i
          · rw [if_pos e2]
            have := h.ord k h0 hk c
            rw [e2] at this
            omega
          · rw [if_neg e2]
            exact h.ord k h0 hk c
    up := fun k h0 hk he hp => by
      rw [swp_len] at hk
      rw [hat, hat, if_neg (by omega), if_neg (by omega)]
      have h1 := h.ord i hp (by omega) (by omega)
      by_cases c : k = j
      · rw [if_pos c]; exact h1
      · rw [if_neg c, if_neg (by omega)]
        have h2 := h.ord k h0 hk c
        rw [he] at h2
        omega }

/-- What is taken out of a heap: first and last are changed for one another, the first sinks. -/
theorem Hp.swapped {l : List Nat} {n : Nat} (h : Hp l (n + 1) 0) (hn : n < l.length) : Hp (swp l 0 n) n 1 := fun j h0 hj ha => by
  have hat := fun k => swp_at (l := l) (i := 0) (j := n) (by omega) hn k
  rw [hat, hat, if_neg (by omega), if_neg (by omega), if_neg (by omega), if_neg (by omega)]
  exact h j h0 (by omega) (Nat.zero_le _)

theorem split_last {l : List Nat} {n : Nat} (h : l.length = n + 1) : ∃ m, l = m ++ [pa l n] ∧ m.length = n := by
  refine ⟨l.take n, ?_, by rw [List.length_take]; omega⟩
  rw [pa_get (by omega)]
  have h1 := List.take_add_one (l := l) (i := n)
  rw [List.take_of_length_le (by omega), List.getElem?_eq_getElem (by omega)] at h1
  exact h1

end Go.Proofs.Ytdddbjaggfaofaa.GM

namespace Go.Proofs.Ytdddbjaggfaofaa.GM
set_option linter.unusedVariables false

/-- May x stand next behind D? -/
def Rdy (T : Nat → Prop) (N : Nat → Nat → Prop) (D : List Nat) (x : Nat) : Prop := T x ∧ x ∉ D ∧ ∀ y, N x y → y ∈ D
/-- x stands next behind D. -/
def Nxt (T : Nat → Prop) (N : Nat → Nat → Prop) (D : List Nat) (x : Nat) : Prop := Rdy T N D x ∧ ∀ y, Rdy T N D y → x ≤ y
/-- D is a front of the order. -/
inductive Ln (T : Nat → Prop) (N : Nat → Nat → Prop) : List Nat → Prop
  | nil : Ln T N []
  | snoc {D : List Nat} {x : Nat} : Ln T N D → Nxt T N D x → Ln T N (D ++ [x])
/-- .. and the whole. -/
def Full (T : Nat → Prop) (N : Nat → Nat → Prop) (D : List Nat) : Prop := Ln T N D ∧ ∀ x, ¬ Rdy T N D x

theorem Nxt.unique {T : Nat → Prop} {N : Nat → Nat → Prop} {D : List Nat} {x y : Nat} (h : Nxt T N D x) (k : Nxt T N D y) : x = y :=
  Nat.le_antisymm (h.2 y k.1) (k.2 x h.1)

theorem Ln.inv {T : Nat → Prop} {N : Nat → Nat → Prop} : ∀ {D : List Nat}, Ln T N D → ∀ {E : List Nat} {x : Nat}, D = E ++ [x] → Ln T N E ∧ Nxt T N E x := by
  intro D h
  cases h with
  | nil => intro E x e; exact absurd (congrArg List.length e) (by simp)
  | snoc h k =>
    intro E x e
    obtain ⟨e1, e2⟩ := List.append_inj' e rfl
    cases e2
    subst e1
    exact ⟨h, k⟩

theorem Ln.take {T : Nat → Prop} {N : Nat → Nat → Prop} {D : List Nat} (h : Ln T N D) (k : Nat) : Ln T N (D.take k) := by
  induction h with
  | nil => simpa using Ln.nil
  | @snoc D x h hx ih =>
    by_cases e : k ≤ D.length
    · rw [List.take_append_of_le_length e]; exact ih
    · rw [List.take_of_length_le (by simp; omega)]; exact .snoc h hx

/-- The front of length k + 1 is the front of length k and the next. -/
theorem Ln.next {T : Nat → Prop} {N : Nat → Nat → Prop} {D : List Nat} (h : Ln T N D) {k : Nat} (hk : k < D.length) : Nxt T N (D.take k) D[k] := by
  have h1 := h.take (k + 1)
  rw [List.take_add_one, List.getElem?_eq_getElem hk] at h1
  exact (h1.inv rfl).2

theorem Ln.front {T : Nat → Prop} {N : Nat → Nat → Prop} {D E : List Nat} (h : Ln T N D) (k : Ln T N E) : ∀ m, m ≤ D.length → m ≤ E.length → D.take m = E.take m := by
  intro m
  induction m with
  | zero => intro _ _; simp
  | succ m ih =>
    intro h1 h2
    have e := ih (by omega) (by omega)
    have n1 := h.next (k := m) (by omega)
    have n2 := k.next (k := m) (by omega)
    rw [← e] at n2
    have e3 := n1.unique n2
    rw [List.take_add_one, List.take_add_one, List.getElem?_eq_getElem (by omega), List.getElem?_eq_getElem (by omega), e, e3]

theorem Full.unique {T : Nat → Prop} {N : Nat → Nat → Prop} {D E : List Nat} (h : Full T N D) (k : Full T N E) : D = E := by
  have key : ∀ {D E : List Nat}, Full T N D → Full T N E → D.length ≤ E.length → D = E := by
    intro D E h k hle
    have e := h.1.front k.1 D.length (Nat.le_refl _) hle
    rw [List.take_length] at e
    by_cases c : D.length = E.length
    · rw [c, List.take_length] at e; exact e
    · have n := k.1.next (k := D.length) (by omega)
      rw [← e] at n
      exact absurd n.1 (h.2 _)
  rcases Nat.le_total D.length E.length with c | c
  · exact key h k c
  · exact (key k h c).symm

theorem Ln.mem {T : Nat → Prop} {N : Nat → Nat → Prop} {D : List Nat} (h : Ln T N D) : ∀ x ∈ D, T x := by
  induction h with
  | nil => simp
  | snoc h k ih =>
    intro x hx
    rcases List.mem_append.1 hx with hx | hx
    · exact ih x hx
    · rw [List.mem_singleton.1 hx]; exact k.1.1

theorem Ln.nodup {T : Nat → Prop} {N : Nat → Nat → Prop} {D : List Nat} (h : Ln T N D) : D.Nodup := by
  induction h with
  | nil => simp
  | @snoc D x h k ih =>
    rw [List.nodup_append]
    refine ⟨ih, by simp, ?_⟩
    intro a ha b hb e
    rw [List.mem_singleton.1 hb] at e
    subst e
    exact k.1.2.1 ha

/-- What is in a front has its needs in it. -/
theorem Ln.needs {T : Nat → Prop} {N : Nat → Nat → Prop} {D : List Nat} (h : Ln T N D) : ∀ x ∈ D, ∀ y, N x y → y ∈ D := by
  induction h with
  | nil => simp
  | snoc h k ih =>
    intro x hx y hy
    rcases List.mem_append.1 hx with hx | hx
    · exact List.mem_append_left _ (ih x hx y hy)
    · rw [List.mem_singleton.1 hx] at hy
      exact List.mem_append_left _ (k.1.2.2 y hy)

theorem nodup_lt_length : ∀ {n : Nat} {l : List Nat}, l.Nodup → (∀ x ∈ l, x < n) → l.length ≤ n := by
  intro n
  induction n with
  | zero =>
    intro l h hb
    cases l with
    | nil => simp
    | cons a l => exact absurd (hb a List.mem_cons_self) (by omega)
  | succ n ih =>
    intro l h hb
    have h1 := ih (l := l.erase n) (h.erase _) (fun x hx => by
      have h2 := (h.mem_erase_iff).1 hx
      have := hb x h2.2
      have := h2.1
      omega)
    have h2 := List.length_erase (a := n) (l := l)
    split at h2 <;> omega

theorem Ln.length_le {T : Nat → Prop} {N : Nat → Nat → Prop} {D : List Nat} {n : Nat} (h : Ln T N D) (hT : ∀ x, T x → x < n) : D.length ≤ n :=
  nodup_lt_length h.nodup (fun x hx => hT x (h.mem x hx))

/-- How many of the needs of y are not yet in D. -/
def lack (r : List Nat) (D : List Nat) : Nat := r.countP (fun z => decide (z ∉ D))

theorem lack_nil (r : List Nat) : lack r [] = r.length := by unfold lack; simp
theorem lack_zero {r D : List Nat} : lack r D = 0 ↔ ∀ z ∈ r, z ∈ D := by
  unfold lack
  rw [List.countP_eq_zero]
  simp
theorem lack_snoc_out {r D : List Nat} {x : Nat} (h : x ∉ r) : lack r (D ++ [x]) = lack r D := by
  unfold lack
  apply List.countP_congr
  intro z hz
  have : z ≠ x := fun e => h (e ▸ hz)
  simp [this]
theorem lack_snoc_in : ∀ {r D : List Nat} {x : Nat}, r.Nodup → x ∈ r → x ∉ D → lack r (D ++ [x]) + 1 = lack r D
  | [], _, _, _, h, _ => by simp at h
  | a :: r, D, x, hn, h, hx => by
    have hn' := List.nodup_cons.1 hn
    unfold lack
    rw [List.countP_cons, List.countP_cons]
    by_cases e : a = x
    · subst e
      have := lack_snoc_out (D := D) hn'.1
      unfold lack at this
      simp only [List.mem_append, List.mem_singleton, or_true, not_true_eq_false, decide_false, Bool.false_eq_true, if_false, hx, not_false_eq_true, decide_true, if_true]
      simp only [List.mem_append, List.mem_singleton] at this
      omega
    · have hm : x ∈ r := (List.mem_cons.1 h).resolve_left (fun e2 => e e2.symm)
      have := lack_snoc_in (D := D) hn'.2 hm hx
      unfold lack at this
      simp only [List.mem_append, List.mem_singleton, e, or_false] at this ⊢
      omega
theorem lack_pos {r D : List Nat} {x : Nat} (h : x ∈ r) (hx : x ∉ D) : 0 < lack r D := by
  rcases Nat.eq_zero_or_pos (lack r D) with e | e
  · exact absurd (lack_zero.1 e x h) hx
  · exact e

/-! ### The program's round: a heap of what is ready, how many needs are open -/

/-- Rows of needs and rows of users say the same. -/
structure NU (n : Nat) (Nd Us : List (List Nat)) (T : Nat → Prop) : Prop where
  tie : ∀ x y, y ∈ nb Nd x ↔ x ∈ nb Us y
  nr : ∀ x, Rising (nb Nd x)
  ur : ∀ x, Rising (nb Us x)
  nt : ∀ x y, y ∈ nb Nd x → T x ∧ T y
  lt : ∀ x, T x → x < n

def NN (Nd : List (List Nat)) (x y : Nat) : Prop := y ∈ nb Nd x

theorem Rising.nodup {l : List Nat} (h : Rising l) : l.Nodup := List.Pairwise.imp (fun h => Nat.ne_of_lt h) h

/-- Between rounds: D stands, h is what is ready, f tells what is open. -/
structure Kn (T : Nat → Prop) (Nd : List (List Nat)) (D h : List Nat) (f : Nat → Option Nat) : Prop where
  ln : Ln T (NN Nd) D
  nodup : h.Nodup
  ready : ∀ x, x ∈ h ↔ Rdy T (NN Nd) D x
  open_ : ∀ x, T x → f x = some (lack (nb Nd x) D)

/-- Within a round: x has been taken out, k of its users are told. -/
structure Ki (T : Nat → Prop) (Nd Us : List (List Nat)) (D h : List Nat) (f : Nat → Option Nat) (x k : Nat) : Prop where
  ln : Ln T (NN Nd) (D ++ [x])
  fresh : x ∉ D
  nodup : h.Nodup
  ready : ∀ y, y ∈ h ↔ (Rdy T (NN Nd) D y ∧ y ≠ x) ∨ (y ∈ (nb Us x).take k ∧ Rdy T (NN Nd) (D ++ [x]) y)
  open_ : ∀ y, T y → f y = some (if y ∈ (nb Us x).take k then lack (nb Nd y) (D ++ [x]) else lack (nb Nd y) D)

theorem rdy_lack {T : Nat → Prop} {Nd : List (List Nat)} {D : List Nat} {x : Nat} : Rdy T (NN Nd) D x ↔ T x ∧ x ∉ D ∧ lack (nb Nd x) D = 0 := by
  unfold Rdy NN
  rw [lack_zero]

theorem Kn.take {T : Nat → Prop} {Nd Us : List (List Nat)} {D h h' : List Nat} {f : Nat → Option Nat} {x : Nat} (K : Kn T Nd D h f) (hp : h.Perm (h' ++ [x])) (hmin : ∀ y ∈ h, x ≤ y) : Ki T Nd Us D h' f x 0 := by
  have hx : x ∈ h := hp.mem_iff.2 (by simp)
  have hr := (K.ready x).1 hx
  have hn : (h' ++ [x]).Nodup := hp.nodup_iff.1 K.nodup
  rw [List.nodup_append] at hn
  exact {
    ln := .snoc K.ln ⟨hr, fun y hy => hmin y ((K.ready y).2 hy)⟩
    fresh := hr.2.1
    nodup := hn.1
    ready := fun y => by
      have e := K.ready y
      rw [hp.mem_iff, List.mem_append, List.mem_singleton] at e
      rw [← e]
      simp only [List.take_zero, List.not_mem_nil, false_and, or_false]
      constructor
      · intro hy
        exact ⟨.inl hy, fun e => hn.2.2 y hy x (by simp) e⟩
      · rintro ⟨h1 | h1, h2⟩
        · exact h1
        · exact absurd h1 h2
    open_ := fun y hy => by simp [K.open_ y hy] }

theorem mem_take_succ {l : List Nat} {k y z : Nat} (h : l[k]? = some z) : y ∈ l.take (k + 1) ↔ y ∈ l.take k ∨ y = z := by
  rw [List.take_add_one, h]; simp

theorem nodup_not_take {l : List Nat} {k z : Nat} (hn : l.Nodup) (h : l[k]? = some z) : z ∉ l.take k := by
  intro hz
  obtain ⟨j, hj, e⟩ := List.mem_iff_getElem.1 hz
  rw [List.length_take] at hj
  rw [List.getElem_take] at e
  obtain ⟨hk, e2⟩ := List.getElem?_eq_some_iff.1 h
  exact List.pairwise_iff_getElem.1 hn j k (by omega) hk (by omega) (by rw [e, e2])

/-- What is open at the user that comes next. -/
theorem Ki.at_ {n : Nat} {T : Nat → Prop} {Nd Us : List (List Nat)} {D h : List Nat} {f : Nat → Option Nat} {x k y : Nat} (K : Ki T Nd Us D h f x k) (U : NU n Nd Us T) (hy : (nb Us x)[k]? = some y) : T y ∧ ∃ c, f y = some (c + 1) ∧ c = lack (nb Nd y) (D ++ [x]) := by
  have hm : x ∈ nb Nd y := (U.tie y x).2 (List.mem_of_getElem? hy)
  have ht := (U.nt y x hm).1
  refine ⟨ht, _, ?_, rfl⟩
  rw [K.open_ y ht, if_neg (nodup_not_take (U.ur x).nodup hy), lack_snoc_in (U.nr y).nodup hm K.fresh]

theorem Ki.told {n : Nat} {T : Nat → Prop} {Nd Us : List (List Nat)} {D h h' : List Nat} {f f' : Nat → Option Nat} {x k y c : Nat} (K : Ki T Nd Us D h f x k) (U : NU n Nd Us T) (hy : (nb Us x)[k]? = some y) (hc : f y = some (c + 1))
    (hf : ∀ z, f' z = if z = y then some c else f z) (hh : h'.Perm (if c = 0 then h ++ [y] else h)) : Ki T Nd Us D h' f' x (k + 1) := by
  obtain ⟨ht, c', h1, h2⟩ := K.at_ U hy
  rw [hc] at h1
  have hcc : c = lack (nb Nd y) (D ++ [x]) := by injection h1 with h1; omega
  have hm : x ∈ nb Nd y := (U.tie y x).2 (List.mem_of_getElem? hy)
  have hnt := nodup_not_take (U.ur x).nodup hy
  have hnr : ¬ Rdy T (NN Nd) D y := fun hr => K.fresh (hr.2.2 x hm)
  have hnh : y ∉ h := fun hh => by
    rcases (K.ready y).1 hh with h1 | h1
    · exact hnr h1.1
    · exact hnt h1.1
  have hyD : y ∉ D := fun hd => K.fresh ((K.ln.inv rfl).1.needs y hd x hm)
  have hyx : y ≠ x := fun e => by
    subst e
    exact K.fresh ((K.ln.inv rfl).2.1.2.2 _ hm)
  have hr : Rdy T (NN Nd) (D ++ [x]) y ↔ c = 0 := by
    rw [rdy_lack, ← hcc]
    constructor
    · exact fun h => h.2.2
    · exact fun h => ⟨ht, by simp [hyD, hyx], h⟩
  exact {
    ln := K.ln
    fresh := K.fresh
    nodup := hh.nodup_iff.2 (by
      split
      · rw [List.nodup_append]
        exact ⟨K.nodup, by simp, fun a ha b hb e => hnh (by rw [List.mem_singleton.1 hb] at e; rw [← e]; exact ha)⟩
      · exact K.nodup)
    ready := fun z => by
      rw [hh.mem_iff, mem_take_succ hy]
      have e := K.ready z
      by_cases hzy : z = y
      · subst hzy
        constructor
        · intro hz
          split at hz
          · rename_i h0; exact .inr ⟨.inr rfl, hr.2 h0⟩
          · exact absurd hz hnh
        · rintro (h1 | ⟨_, h1⟩)
          · exact absurd h1.1 hnr
          · rw [if_pos (hr.1 h1)]; simp
      · have : z ∈ (if c = 0 then h ++ [y] else h) ↔ z ∈ h := by split <;> simp [hzy]
        rw [this, e]
        simp [hzy]
    open_ := fun z hz => by
      rw [hf, K.open_ z hz]
      by_cases hzy : z = y
      · subst hzy
        rw [if_pos rfl, if_pos ((mem_take_succ hy).2 (.inr rfl)), hcc]
      · rw [if_neg hzy]
        have : z ∈ (nb Us x).take (k + 1) ↔ z ∈ (nb Us x).take k := by rw [mem_take_succ hy]; simp [hzy]
        simp only [this] }

theorem Ki.fin {n : Nat} {T : Nat → Prop} {Nd Us : List (List Nat)} {D h : List Nat} {f : Nat → Option Nat} {x : Nat} (K : Ki T Nd Us D h f x (nb Us x).length) (U : NU n Nd Us T) : Kn T Nd (D ++ [x]) h f where
  ln := K.ln
  nodup := K.nodup
  ready := fun y => by
    rw [K.ready y, List.take_length]
    constructor
    · rintro (⟨⟨h1, h2, h3⟩, h4⟩ | ⟨_, h⟩)
      · exact ⟨h1, by simp [h2, h4], fun z hz => List.mem_append_left _ (h3 z hz)⟩
      · exact h
    · intro hr
      by_cases hu : y ∈ nb Us x
      · exact .inr ⟨hu, hr⟩
      · refine .inl ⟨⟨hr.1, fun hd => hr.2.1 (List.mem_append_left _ hd), fun z hz => ?_⟩, fun e => hr.2.1 (by simp [e])⟩
        rcases List.mem_append.1 (hr.2.2 z hz) with h1 | h1
        · exact h1
        · rw [List.mem_singleton.1 h1] at hz
          exact absurd ((U.tie y x).1 hz) hu
  open_ := fun y hy => by
    rw [K.open_ y hy, List.take_length]
    split
    · rfl
    · rename_i h
      rw [lack_snoc_out (fun hm => h ((U.tie y x).1 hm))]

theorem Kn.full {T : Nat → Prop} {Nd : List (List Nat)} {D : List Nat} {f : Nat → Option Nat} (K : Kn T Nd D [] f) : Full T (NN Nd) D :=
  ⟨K.ln, fun x hx => by have := (K.ready x).2 hx; simp at this⟩

end Go.Proofs.Ytdddbjaggfaofaa.GM

namespace Go.Proofs.Ytdddbjaggfaofaa.GM
set_option linter.unusedVariables false

/-- What stands below a node. -/
def bel (S : Nat) (c : List Nat) (p : Nat → Nat) (j : Nat) : Nat := if S ≤ j then p (j - S) else pa c (2 * j) + pa c (2 * j + 1)

/-- A tree of counts over the leaves p; at k (and above it) d is still to be added. -/
structure Tp (S : Nat) (c : List Nat) (p : Nat → Nat) (k : Nat) (d : Int) : Prop where
  len : c.length = 2 * S
  at_ : ∀ j, 1 ≤ j → j < 2 * S → (pa c j : Int) + (if j = k then d else 0) = (bel S c p j : Nat)

def Tr (S : Nat) (c : List Nat) (p : Nat → Nat) : Prop := Tp S c p 0 0

theorem pa_repl (n v k : Nat) : pa (List.replicate n v) k = if k < n then v else 0 := by
  unfold pa
  rw [List.getD_eq_getElem?_getD, List.getElem?_replicate]
  split <;> rfl

theorem Tr.start (S : Nat) : Tr S (List.replicate (2 * S) 0) (fun _ => 0) where
  len := by simp
  at_ := fun j h1 h2 => by
    have e : ∀ k, pa (List.replicate (2 * S) 0) k = 0 := fun k => by rw [pa_repl]; split <;> rfl
    unfold bel
    rw [e, e, e]
    split <;> split <;> simp

theorem bel_set {S : Nat} {c : List Nat} {p : Nat → Nat} {k v j : Nat} (hk : k < c.length) (h1 : k ≠ 2 * j) (h2 : k ≠ 2 * j + 1) : bel S (c.set k v) p j = bel S c p j := by
  unfold bel
  split
  · rfl
  · rw [pa_set hk, pa_set hk, if_neg (by omega), if_neg (by omega)]
theorem bel_leaf {S : Nat} {c : List Nat} {p : Nat → Nat} {j : Nat} (h : S ≤ j) : bel S c p j = p (j - S) := by unfold bel; rw [if_pos h]
theorem bel_node {S : Nat} {c : List Nat} {p : Nat → Nat} {j : Nat} (h : ¬ S ≤ j) : bel S c p j = pa c (2 * j) + pa c (2 * j + 1) := by unfold bel; rw [if_neg h]

theorem Tr.put {S : Nat} {c : List Nat} {p : Nat → Nat} (h : Tr S c p) {x : Nat} (hx : x < S) {q : Nat} {d : Int} (hd : (q : Int) = p x + d) : Tp S c (fun y => if y = x then q else p y) (S + x) d where
  len := h.len
  at_ := fun j h1 h2 => by
    have := h.at_ j h1 h2
    rw [if_neg (by omega)] at this
    by_cases e : j = S + x
    · subst e
      rw [bel_leaf (by omega)] at this ⊢
      have e2 : S + x - S = x := by omega
      rw [e2] at this ⊢
      simp only [if_true]
      omega
    · rw [if_neg e]
      by_cases e2 : S ≤ j
      · rw [bel_leaf e2] at this ⊢
        have e3 : ¬ (j - S = x) := by omega
        simp only [e3, if_false]
        exact this
      · rw [bel_node e2] at this ⊢
        exact this

theorem Tp.step {S : Nat} {c : List Nat} {p : Nat → Nat} {k : Nat} {d : Int} (h : Tp S c p k d) (h1 : 1 ≤ k) (h2 : k < 2 * S) : (bel S c p k : Int) = pa c k + d ∧ Tp S (c.set k (bel S c p k)) p (k / 2) d := by
  have h0 := h.at_ k h1 h2
  rw [if_pos rfl] at h0
  obtain ⟨v, hv⟩ : ∃ v, v = bel S c p k := ⟨_, rfl⟩
  have hkl : k < c.length := by rw [h.len]; exact h2
  refine ⟨h0.symm, by rw [List.length_set]; exact h.len, fun j j1 j2 => ?_⟩
  rw [← hv] at h0 ⊢
  have hj := h.at_ j j1 j2
  rw [pa_set hkl]
  by_cases e : j = k
  · subst e
    rw [if_pos rfl, if_neg (by omega), bel_set hkl (by omega) (by omega), ← hv]
    omega
  · rw [if_neg e] at hj ⊢
    by_cases e2 : j = k / 2
    · rw [if_pos e2]
      have hS : ¬ S ≤ j := by omega
      rw [bel_node hS] at hj ⊢
      rw [pa_set hkl, pa_set hkl]
      have : k = 2 * j ∨ k = 2 * j + 1 := by omega
      rcases this with e3 | e3
      · rw [if_pos e3.symm, if_neg (by omega)]
        rw [e3] at h0
        omega
      · rw [if_neg (by omega), if_pos e3.symm]
        rw [e3] at h0
        omega
    · rw [if_neg e2, bel_set hkl (by omega) (by omega)]
      exact hj

theorem Tp.fin {S : Nat} {c : List Nat} {p : Nat → Nat} {d : Int} (h : Tp S c p 0 d) : Tr S c p where
  len := h.len
  at_ := fun j h1 h2 => by
    have := h.at_ j h1 h2
    rw [if_neg (by omega)] at this ⊢
    exact this

theorem Tp.bound {S : Nat} {c : List Nat} {p : Nat → Nat} {k : Nat} {d : Int} (h : Tp S c p k d) (hp : ∀ x, p x ≤ 1) : ∀ m j, 2 * S - j ≤ m → k < j → 1 ≤ j → j < 2 * S → pa c j * j ≤ 2 * S := by
  intro m
  induction m with
  | zero => intro j hm _ _ hj; omega
  | succ m ih =>
    intro j hm hk h1 hj
    have hat := h.at_ j h1 hj
    rw [if_neg (by omega)] at hat
    unfold bel at hat
    by_cases e : S ≤ j
    · rw [if_pos e] at hat
      have := hp (j - S)
      have : pa c j ≤ 1 := by omega
      have := Nat.mul_le_mul_right j this
      omega
    · rw [if_neg e] at hat
      have b1 := ih (2 * j) (by omega) (by omega) (by omega) (by omega)
      have b2 := ih (2 * j + 1) (by omega) (by omega) (by omega) (by omega)
      have e3 : pa c j = pa c (2 * j) + pa c (2 * j + 1) := by omega
      rw [e3, Nat.add_mul]
      have e4 : pa c (2 * j) * (2 * j) = 2 * (pa c (2 * j) * j) := by rw [Nat.mul_left_comm]
      have e5 : pa c (2 * j + 1) * (2 * j + 1) = 2 * (pa c (2 * j + 1) * j) + pa c (2 * j + 1) := by rw [Nat.mul_add, Nat.mul_left_comm, Nat.mul_one]
      omega

theorem Tp.bel_le {S : Nat} {c : List Nat} {p : Nat → Nat} {k : Nat} {d : Int} (h : Tp S c p k d) (hp : ∀ x, p x ≤ 1) (h1 : 1 ≤ k) (h2 : k < 2 * S) : bel S c p k ≤ 4 * S := by
  unfold bel
  split
  · have := hp (k - S); omega
  · have b1 := h.bound hp _ (2 * k) (Nat.le_refl _) (by omega) (by omega) (by omega)
    have b2 := h.bound hp _ (2 * k + 1) (Nat.le_refl _) (by omega) (by omega) (by omega)
    have c1 := Nat.le_mul_of_pos_right (pa c (2 * k)) (show 0 < 2 * k by omega)
    have c2 := Nat.le_mul_of_pos_right (pa c (2 * k + 1)) (show 0 < 2 * k + 1 by omega)
    omega

theorem Tr.node {S : Nat} {c : List Nat} {p : Nat → Nat} (h : Tr S c p) {j : Nat} (h1 : 1 ≤ j) (h2 : j < S) : pa c j = pa c (2 * j) + pa c (2 * j + 1) := by
  have := h.at_ j h1 (by omega)
  rw [if_neg (by omega)] at this
  unfold bel at this
  rw [if_neg (by omega)] at this
  omega
theorem Tr.leaf {S : Nat} {c : List Nat} {p : Nat → Nat} (h : Tr S c p) {x : Nat} (h2 : x < S) : pa c (S + x) = p x := by
  have := h.at_ (S + x) (by omega) (by omega)
  rw [if_neg (by omega)] at this
  unfold bel at this
  rw [if_pos (by omega)] at this
  have e : S + x - S = x := by omega
  rw [e] at this
  omega

theorem Tr.zero {S : Nat} {c : List Nat} {p : Nat → Nat} (h : Tr S c p) : ∀ (i k : Nat), 1 ≤ k → pa c k = 0 → S ≤ k * 2 ^ i → (k + 1) * 2 ^ i ≤ 2 * S → ∀ y, k * 2 ^ i ≤ y → y < (k + 1) * 2 ^ i → pa c y = 0 := by
  intro i
  induction i with
  | zero =>
    intro k _ h0 _ _ y y1 y2
    have : y = k := by simp at y1 y2; omega
    rw [this]; exact h0
  | succ i ih =>
    intro k k1 h0 a1 a2 y y1 y2
    obtain ⟨P, hP⟩ : ∃ P, P = 2 ^ i := ⟨_, rfl⟩
    have hpos : 0 < P := by rw [hP]; exact Nat.two_pow_pos i
    rw [Nat.pow_succ, ← hP] at a1 a2 y1 y2
    have e1 : k * (P * 2) = (2 * k) * P := by rw [Nat.mul_comm P 2, ← Nat.mul_assoc, Nat.mul_comm k 2]
    have e2 : (k + 1) * (P * 2) = (2 * k + 1 + 1) * P := by rw [Nat.mul_comm P 2, ← Nat.mul_assoc]; congr 1; omega
    have e3 : (2 * k + 1) * P = (2 * k) * P + P := by rw [Nat.add_mul, Nat.one_mul]
    have e4 : (2 * k + 1 + 1) * P = (2 * k) * P + P + P := by rw [Nat.add_mul, Nat.one_mul, e3]
    rw [e1] at a1 y1
    rw [e2] at a2 y2
    have hkS : k < S := by
      rcases Nat.lt_or_ge k S with h | h
      · exact h
      · have : 2 * k * 1 ≤ 2 * k * P := Nat.mul_le_mul_left _ hpos
        omega
    have hn := h.node k1 hkS
    have ih1 := ih (2 * k) (by omega) (by omega)
    have ih2 := ih (2 * k + 1) (by omega) (by omega)
    rw [← hP] at ih1 ih2
    rw [e3] at ih1
    rw [e4, e3] at ih2
    by_cases c : y < (2 * k) * P + P
    · exact ih1 (by omega) (by omega) y y1 c
    · exact ih2 (by omega) (by omega) y (by omega) (by omega)

/-- While the lowest is looked for: it lies below k; i levels are to go. -/
structure Lk (S : Nat) (c : List Nat) (p : Nat → Nat) (k i : Nat) : Prop where
  pos : 0 < pa c k
  one : 1 ≤ k
  lo : S ≤ k * 2 ^ i
  hi : (k + 1) * 2 ^ i ≤ 2 * S
  none : ∀ x, S + x < k * 2 ^ i → p x = 0

theorem Lk.start {s : Nat} {c : List Nat} {p : Nat → Nat} (h : Tr (2 ^ s) c p) (h1 : pa c 1 ≠ 0) : Lk (2 ^ s) c p 1 s :=
  ⟨by omega, Nat.le_refl _, by omega, by omega, fun x hx => by omega⟩

theorem Lk.level {S : Nat} {c : List Nat} {p : Nat → Nat} {k i : Nat} (h : Lk S c p k i) : k < 2 * S ∧ (k < S → 0 < i) ∧ (S ≤ k → i = 0) := by
  have hpos : 0 < 2 ^ i := Nat.two_pow_pos i
  have h1 := h.hi
  have h2 := h.lo
  have h3 : (k + 1) * 1 ≤ (k + 1) * 2 ^ i := Nat.mul_le_mul_left _ hpos
  refine ⟨by omega, fun hk => ?_, fun hk => ?_⟩
  · rcases Nat.eq_zero_or_pos i with e | e
    · subst e; simp at h2; omega
    · exact e
  · rcases Nat.eq_zero_or_pos i with e | e
    · exact e
    · obtain ⟨j, rfl⟩ : ∃ j, i = j + 1 := ⟨i - 1, by omega⟩
      have : (k + 1) * 2 ≤ (k + 1) * 2 ^ (j + 1) := Nat.mul_le_mul_left _ (by rw [Nat.pow_succ]; have := Nat.two_pow_pos j; omega)
      omega

theorem Lk.left {S : Nat} {c : List Nat} {p : Nat → Nat} {k i : Nat} (h : Lk S c p k (i + 1)) (hc : pa c (2 * k) ≠ 0) : Lk S c p (2 * k) i := by
  have e1 : k * 2 ^ (i + 1) = (2 * k) * 2 ^ i := by rw [Nat.pow_succ, Nat.mul_comm (2 ^ i) 2, ← Nat.mul_assoc, Nat.mul_comm k 2]
  have e2 : (k + 1) * 2 ^ (i + 1) = (2 * k + 1 + 1) * 2 ^ i := by rw [Nat.pow_succ, Nat.mul_comm (2 ^ i) 2, ← Nat.mul_assoc]; congr 1; omega
  have e3 : (2 * k + 1) * 2 ^ i ≤ (2 * k + 1 + 1) * 2 ^ i := Nat.mul_le_mul_right _ (by omega)
  have h1 := h.lo
  have h2 := h.hi
  have h3 := h.one
  rw [e1] at h1
  rw [e2] at h2
  exact ⟨by omega, by omega, h1, by omega, fun x hx => h.none x (by rw [e1]; exact hx)⟩

theorem Lk.right {S : Nat} {c : List Nat} {p : Nat → Nat} {k i : Nat} (h : Lk S c p k (i + 1)) (t : Tr S c p) (hk : k < S) (hc : pa c (2 * k) = 0) : Lk S c p (2 * k + 1) i := by
  have e1 : k * 2 ^ (i + 1) = (2 * k) * 2 ^ i := by rw [Nat.pow_succ, Nat.mul_comm (2 ^ i) 2, ← Nat.mul_assoc, Nat.mul_comm k 2]
  have e2 : (k + 1) * 2 ^ (i + 1) = (2 * k + 1 + 1) * 2 ^ i := by rw [Nat.pow_succ, Nat.mul_comm (2 ^ i) 2, ← Nat.mul_assoc]; congr 1; omega
  have e3 : (2 * k + 1) * 2 ^ i ≤ (2 * k + 1 + 1) * 2 ^ i := Nat.mul_le_mul_right _ (by omega)
  have e4 : (2 * k) * 2 ^ i ≤ (2 * k + 1) * 2 ^ i := Nat.mul_le_mul_right _ (by omega)
  have h1 := h.lo
  have h2 := h.hi
  have h3 := h.one
  have h4 := h.pos
  rw [e1] at h1
  rw [e2] at h2
  have hn := t.node h3 hk
  refine ⟨by omega, by omega, by omega, h2, fun x hx => ?_⟩
  by_cases c : S + x < (2 * k) * 2 ^ i
  · exact h.none x (by rw [e1]; exact c)
  · have := t.zero i (2 * k) (by omega) hc h1 (by omega) (S + x) (by omega) hx
    rw [← t.leaf (by omega)]
    exact this

/-- r is the lowest x with p x; -1: none. -/
def Lowest (S : Nat) (p : Nat → Nat) (r : Int) : Prop := (r = -1 ∧ ∀ x, x < S → p x = 0) ∨ ∃ x : Nat, r = x ∧ x < S ∧ 0 < p x ∧ ∀ y, y < x → p y = 0

theorem Lk.fin {S : Nat} {c : List Nat} {p : Nat → Nat} {k i : Nat} (h : Lk S c p k i) (t : Tr S c p) (hk : S ≤ k) : Lowest S p ((k : Int) - S) := by
  obtain ⟨l1, -, l3⟩ := h.level
  have e := l3 hk
  subst e
  have hlo := h.none
  simp only [Nat.pow_zero, Nat.mul_one] at hlo
  refine .inr ⟨k - S, by omega, by omega, ?_, fun y hy => hlo y (by omega)⟩
  rw [← t.leaf (by omega)]
  have : S + (k - S) = k := by omega
  rw [this]
  exact h.pos

theorem Lowest.none {s : Nat} {c : List Nat} {p : Nat → Nat} (t : Tr (2 ^ s) c p) (h : pa c 1 = 0) : Lowest (2 ^ s) p (-1) := by
  refine .inl ⟨rfl, fun x hx => ?_⟩
  rw [← t.leaf hx]
  exact t.zero s 1 (Nat.le_refl _) h (by omega) (by omega) _ (by omega) (by omega)

end Go.Proofs.Ytdddbjaggfaofaa.GM

namespace Go.Proofs.Ytdddbjaggfaofaa.GM
set_option linter.unusedVariables false

/-- Reached along edges. -/
inductive Rch (E : List (Int × Int)) : Nat → Nat → Prop
  | refl (x : Nat) : Rch E x x
  | step {x y z : Nat} : Rch E x y → ((y : Int), (z : Int)) ∈ E → Rch E x z

theorem Rch.trans {E : List (Int × Int)} {x y z : Nat} (h : Rch E x y) (k : Rch E y z) : Rch E x z := by
  induction k with
  | refl => exact h
  | step _ hz ih => exact .step ih hz
theorem Rch.of_rr {E : List (Int × Int)} {R : List (List Nat)} (h : ∀ x y, y ∈ nb R x → ((x : Int), (y : Int)) ∈ E) {x y : Nat} (k : RR R x y) : Rch E x y := by
  induction k with
  | refl => exact .refl _
  | step _ hz ih => exact .step ih (h _ _ hz)
theorem Rch.to_rr {E : List (Int × Int)} {R : List (List Nat)} (h : ∀ x y : Nat, ((x : Int), (y : Int)) ∈ E → y ∈ nb R x) {x y : Nat} (k : Rch E x y) : RR R x y := by
  induction k with
  | refl => exact .refl _
  | step _ hz ih => exact .step ih (h _ _ hz)

/-- Both ways. -/
def Both (E : List (Int × Int)) (x y : Nat) : Prop := Rch E x y ∧ Rch E y x
theorem Both.refl {E : List (Int × Int)} (x : Nat) : Both E x x := ⟨.refl _, .refl _⟩
theorem Both.symm {E : List (Int × Int)} {x y : Nat} (h : Both E x y) : Both E y x := ⟨h.2, h.1⟩
theorem Both.trans {E : List (Int × Int)} {x y z : Nat} (h : Both E x y) (k : Both E y z) : Both E x z := ⟨h.1.trans k.1, k.2.trans h.2⟩

open Classical in
/-- The part of x, rising. -/
noncomputable def pof (E : List (Int × Int)) (n x : Nat) : List Nat := (List.range n).filter (fun y => decide (Both E x y))
/-- Its lowest. -/
noncomputable def lo (E : List (Int × Int)) (n x : Nat) : Nat := pa (pof E n x) 0

theorem part_mem {E : List (Int × Int)} {n x y : Nat} : y ∈ pof E n x ↔ y < n ∧ Both E x y := by
  unfold pof
  rw [List.mem_filter, List.mem_range]
  simp
theorem part_rising (E : List (Int × Int)) (n x : Nat) : Rising (pof E n x) := rising_filter n _
theorem part_same {E : List (Int × Int)} {n x y : Nat} (h : Both E x y) : pof E n x = pof E n y :=
  rising_ext (part_rising _ _ _) (part_rising _ _ _) (fun z => by
    rw [part_mem, part_mem]
    exact ⟨fun h' => ⟨h'.1, h.symm.trans h'.2⟩, fun h' => ⟨h'.1, h.trans h'.2⟩⟩)
theorem lo_same {E : List (Int × Int)} {n x y : Nat} (h : Both E x y) : lo E n x = lo E n y := by unfold lo; rw [part_same h]

theorem rising_head {l : List Nat} (h : Rising l) {x : Nat} (hx : x ∈ l) : pa l 0 ∈ l ∧ pa l 0 ≤ x := by
  cases l with
  | nil => cases hx
  | cons a l =>
    refine ⟨List.mem_cons_self, ?_⟩
    show a ≤ x
    rcases List.mem_cons.1 hx with e | hx
    · omega
    · have := (List.pairwise_cons.1 h).1 x hx; omega

theorem lo_mem {E : List (Int × Int)} {n x : Nat} (hx : x < n) : lo E n x < n ∧ Both E x (lo E n x) :=
  part_mem.1 (rising_head (part_rising E n x) (part_mem.2 ⟨hx, .refl x⟩)).1
theorem lo_le {E : List (Int × Int)} {n x y : Nat} (hy : y < n) (h : Both E x y) : lo E n x ≤ y := (rising_head (part_rising E n x) (part_mem.2 ⟨hy, h⟩)).2
theorem lo_lo {E : List (Int × Int)} {n x : Nat} (hx : x < n) : lo E n (lo E n x) = lo E n x := (lo_same (lo_mem hx).2).symm
theorem lo_eq {E : List (Int × Int)} {n x y : Nat} (hx : x < n) (hy : y < n) : lo E n x = lo E n y ↔ Both E x y :=
  ⟨fun h => (lo_mem hx).2.trans (by rw [h]; exact (lo_mem hy).2.symm), lo_same⟩
theorem part_lo {E : List (Int × Int)} {n x : Nat} (hx : x < n) : pof E n (lo E n x) = pof E n x := (part_same (lo_mem hx).2).symm
/-- The lowest of a part: what no other of the part lies below. -/
theorem lo_unique {E : List (Int × Int)} {n x i : Nat} (hi : i < n) (hb : Both E x i) (h : ∀ y, y < n → Both E x y → i ≤ y) (hx : x < n) : lo E n x = i :=
  Nat.le_antisymm (lo_le hi hb) (h _ (lo_mem hx).1 (lo_mem hx).2)

/-- The heads of the parts. -/
def Hd (E : List (Int × Int)) (n x : Nat) : Prop := x < n ∧ lo E n x = x

/-- The edges between parts. -/
def btw (f : Nat → Nat) (E : List (Int × Int)) : List (Int × Int) := E.filterMap (fun e => if f e.1.toNat = f e.2.toNat then none else some ((f e.1.toNat : Int), (f e.2.toNat : Int)))

theorem btw_step {f : Nat → Nat} {E : List (Int × Int)} {k a b : Nat} (hx : E[k]? = some ((a : Int), (b : Int))) : btw f (E.take (k + 1)) = btw f (E.take k) ++ (if f a = f b then [] else [((f a : Int), (f b : Int))]) := by
  unfold btw
  rw [List.take_add_one, hx, List.filterMap_append]
  congr 1
  by_cases e : f a = f b <;> simp [e]

theorem btw_length (f : Nat → Nat) (E : List (Int × Int)) : (btw f E).length ≤ E.length := List.length_filterMap_le _ _

theorem btw_mem {f : Nat → Nat} {E : List (Int × Int)} {p : Int × Int} (h : p ∈ btw f E) : ∃ a b : Nat, p = ((f a : Int), (f b : Int)) ∧ f a ≠ f b ∧ ∃ e ∈ E, a = e.1.toNat ∧ b = e.2.toNat := by
  unfold btw at h
  obtain ⟨e, he, h⟩ := List.mem_filterMap.1 h
  by_cases c : f e.1.toNat = f e.2.toNat
  · rw [if_pos c] at h; cases h
  · rw [if_neg c] at h
    injection h with h
    exact ⟨_, _, h.symm, c, e, he, rfl, rfl⟩

theorem btw_congr {f g : Nat → Nat} {E : List (Int × Int)} (h : ∀ e ∈ E, f e.1.toNat = g e.1.toNat ∧ f e.2.toNat = g e.2.toNat) : btw f E = btw g E := by
  unfold btw
  induction E with
  | nil => rfl
  | cons e E ih =>
    rw [List.filterMap_cons, List.filterMap_cons, ih (fun e' he => h e' (List.mem_cons_of_mem _ he)), (h e List.mem_cons_self).1, (h e List.mem_cons_self).2]

/-- One part needs another. -/
def Nb (E : List (Int × Int)) (n : Nat) (x y : Nat) : Prop := ((x : Int), (y : Int)) ∈ btw (lo E n) E

theorem Full.congr {T T' : Nat → Prop} {N N' : Nat → Nat → Prop} {D : List Nat} (h : Full T N D) (hT : ∀ x, T x ↔ T' x) (hN : ∀ x y, N x y ↔ N' x y) : Full T' N' D := by
  have e1 : T = T' := funext fun x => propext (hT x)
  have e2 : N = N' := funext fun x => funext fun y => propext (hN x y)
  rw [← e1, ← e2]
  exact h

end Go.Proofs.Ytdddbjaggfaofaa.GM

namespace Go.Proofs.Ytdddbjaggfaofaa.GM
set_option linter.unusedVariables false

/-- A way of d steps along rows. -/
inductive Pth (R : List (List Nat)) (x : Nat) : Nat → Nat → Prop
  | nil : Pth R x x 0
  | step {y z d : Nat} : Pth R x y d → z ∈ nb R y → Pth R x z (d + 1)
/-- The shortest. -/
def Dst (R : List (List Nat)) (x y d : Nat) : Prop := Pth R x y d ∧ ∀ d', Pth R x y d' → d ≤ d'

theorem Dst.unique {R : List (List Nat)} {x y d d' : Nat} (h : Dst R x y d) (k : Dst R x y d') : d = d' := Nat.le_antisymm (h.2 _ k.1) (k.2 _ h.1)
theorem Pth.dst {R : List (List Nat)} {x y d : Nat} (h : Pth R x y d) : ∃ e, e ≤ d ∧ Dst R x y e := by
  induction d using Nat.strongRecOn with
  | ind d ih =>
    by_cases c : ∃ e, e < d ∧ Pth R x y e
    · obtain ⟨e, he, hp⟩ := c
      obtain ⟨m, hm, hd⟩ := ih e he hp
      exact ⟨m, by omega, hd⟩
    · exact ⟨d, Nat.le_refl _, h, fun d' hd' => by
        rcases Nat.lt_or_ge d' d with h1 | h1
        · exact absurd ⟨d', h1, hd'⟩ c
        · exact h1⟩
theorem Dst.refl (R : List (List Nat)) (x : Nat) : Dst R x x 0 := ⟨.nil, fun _ _ => Nat.zero_le _⟩
theorem Dst.zero {R : List (List Nat)} {x y : Nat} (h : Dst R x y 0) : y = x := by
  have := h.1
  cases this
  rfl
theorem Dst.prev {R : List (List Nat)} {x z d : Nat} (h : Dst R x z (d + 1)) : ∃ y, Dst R x y d ∧ z ∈ nb R y := by
  have h1 := h.1
  cases h1 with
  | step hp hz =>
    rename_i y
    refine ⟨y, ⟨hp, fun d' hd' => ?_⟩, hz⟩
    have := h.2 _ (.step hd' hz)
    omega
theorem Pth.rr {R : List (List Nat)} {x y d : Nat} (h : Pth R x y d) : RR R x y := by
  induction h with
  | nil => exact .refl _
  | step _ hz ih => exact .step ih hz
theorem RR.pth {R : List (List Nat)} {x y : Nat} (h : RR R x y) : ∃ d, Pth R x y d := by
  induction h with
  | refl => exact ⟨0, .nil⟩
  | step _ hz ih => obtain ⟨d, hd⟩ := ih; exact ⟨d + 1, .step hd hz⟩
theorem Pth.mono {R R' : List (List Nat)} (h : ∀ x y, y ∈ nb R x → y ∈ nb R' x) {x y d : Nat} (k : Pth R x y d) : Pth R' x y d := by
  induction k with
  | nil => exact .nil
  | step _ hz ih => exact .step ih (h _ _ hz)
theorem Dst.same {R R' : List (List Nat)} (h : ∀ x y, y ∈ nb R x ↔ y ∈ nb R' x) {x y d : Nat} : Dst R x y d ↔ Dst R' x y d :=
  ⟨fun k => ⟨k.1.mono (fun a b => (h a b).1), fun d' hd' => k.2 d' (hd'.mono (fun a b => (h a b).2))⟩, fun k => ⟨k.1.mono (fun a b => (h a b).2), fun d' hd' => k.2 d' (hd'.mono (fun a b => (h a b).1))⟩⟩

/-- f tells the distance of each thing that is reached. -/
def Tells2 (R : List (List Nat)) (x : Nat) (f : Nat → Option Nat) : Prop := ∀ y d, f y = some d ↔ Dst R x y d
theorem Tells2.dom {R : List (List Nat)} {x : Nat} {f : Nat → Option Nat} (h : Tells2 R x f) (y : Nat) : (∃ d, f y = some d) ↔ RR R x y := by
  constructor
  · rintro ⟨d, hd⟩
    exact ((h y d).1 hd).1.rr
  · intro hr
    obtain ⟨d, hd⟩ := hr.pth
    obtain ⟨e, _, he⟩ := hd.dst
    exact ⟨e, (h y e).2 he⟩
theorem Tells2.unique {R : List (List Nat)} {x : Nat} {f g : Nat → Option Nat} (h : Tells2 R x f) (k : Tells2 R x g) (y : Nat) : f y = g y := by
  cases e : f y with
  | some d => rw [(k y d).2 ((h y d).1 e)]
  | none =>
    cases e2 : g y with
    | none => rfl
    | some d => rw [(h y d).2 ((k y d).1 e2)] at e; cases e

/-- What has been found, in whatever order. -/
structure Log (n : Nat) (f : Nat → Option Nat) (Q : List Nat) : Prop where
  nodup : Q.Nodup
  mem : ∀ y, y ∈ Q ↔ (f y).isSome = true
  lt : ∀ y ∈ Q, y < n

theorem Log.len {n : Nat} {f : Nat → Option Nat} {Q : List Nat} (h : Log n f Q) : Q.length ≤ n := nodup_lt_length h.nodup h.lt
theorem Log.add {n z v : Nat} {f : Nat → Option Nat} {Q : List Nat} (h : Log n f Q) (hz : f z = none) (hn : z < n) : Log n (fun y => if y = z then some v else f y) (Q ++ [z]) where
  nodup := by
    rw [List.nodup_append]
    refine ⟨h.nodup, by simp, fun a ha b hb e => ?_⟩
    rw [List.mem_singleton.1 hb] at e
    subst e
    have := (h.mem a).1 ha
    rw [hz] at this
    cases this
  mem := fun y => by
    rw [List.mem_append, List.mem_singleton, h.mem]
    by_cases e : y = z
    · subst e; simp
    · simp [e]
  lt := fun y hy => by
    rcases List.mem_append.1 hy with h1 | h1
    · exact h.lt y h1
    · rw [List.mem_singleton.1 h1]; exact hn

/-- Between rows: row is what is L steps away. -/
structure Bf (R : List (List Nat)) (x n L : Nat) (f : Nat → Option Nat) (row Q : List Nat) : Prop where
  a : ∀ y d, f y = some d → Dst R x y d ∧ d ≤ L
  b : ∀ y d, Dst R x y d → d ≤ L → f y = some d
  c : ∀ y, y ∈ row ↔ f y = some L
  nd : row.Nodup
  log : Log n f Q
  cnt : row ≠ [] → L + 1 ≤ Q.length
  cn0 : L ≤ Q.length

/-- Within a row: i of its things are done, and k of the next one's row. -/
structure Bi (R : List (List Nat)) (x n L : Nat) (f : Nat → Option Nat) (row : List Nat) (i k : Nat) (next Q : List Nat) : Prop where
  a : ∀ y d, f y = some d → Dst R x y d ∧ d ≤ L + 1
  b : ∀ y d, Dst R x y d → d ≤ L → f y = some d
  c : ∀ y, y ∈ row ↔ f y = some L
  c2 : ∀ y, y ∈ next ↔ f y = some (L + 1)
  d1 : ∀ j, j < i → ∀ y, row[j]? = some y → ∀ z ∈ nb R y, f z ≠ none
  d2 : ∀ y, row[i]? = some y → ∀ z ∈ (nb R y).take k, f z ≠ none
  nd : row.Nodup
  nd2 : next.Nodup
  log : Log n f Q
  cnt : L + 1 + next.length ≤ Q.length

theorem Bf.start {R : List (List Nat)} {x n : Nat} (hx : x < n) : Bf R x n 0 (fun y => if y = x then some 0 else none) [x] [x] where
  a := fun y d h => by
    by_cases e : y = x
    · subst e
      rw [if_pos rfl] at h
      cases h
      exact ⟨Dst.refl R y, Nat.le_refl _⟩
    · rw [if_neg e] at h; cases h
  b := fun y d h hd => by
    obtain rfl : d = 0 := by omega
    rw [if_pos h.zero]
  c := fun y => by
    by_cases e : y = x <;> simp [e]
  nd := by simp
  log := ⟨by simp, fun y => by by_cases e : y = x <;> simp [e], fun y hy => by rw [List.mem_singleton.1 hy]; exact hx⟩
  cnt := fun _ => by simp
  cn0 := Nat.zero_le _

theorem Bf.row {R : List (List Nat)} {x n L : Nat} {f : Nat → Option Nat} {row Q : List Nat} (h : Bf R x n L f row Q) (hr : row ≠ []) : Bi R x n L f row 0 0 [] Q where
  a := fun y d hd => ⟨(h.a y d hd).1, by have := (h.a y d hd).2; omega⟩
  b := h.b
  c := h.c
  c2 := fun y => by
    constructor
    · intro hy; cases hy
    · intro hy; have := (h.a y _ hy).2; omega
  d1 := fun j hj => by omega
  d2 := fun y _ z hz => by simp at hz
  nd := h.nd
  nd2 := by simp
  log := h.log
  cnt := by have := h.cnt hr; simpa using this

theorem Bi.skip {R : List (List Nat)} {x n L i k y z : Nat} {f : Nat → Option Nat} {row next Q : List Nat} (h : Bi R x n L f row i k next Q) (hy : row[i]? = some y) (hz : (nb R y)[k]? = some z) (hf : f z ≠ none) : Bi R x n L f row i (k + 1) next Q :=
  { h with
    d2 := fun y' hy' z' hz' => by
      rw [hy] at hy'
      cases hy'
      rcases (mem_take_succ hz).1 hz' with h1 | h1
      · exact h.d2 y hy z' h1
      · rw [h1]; exact hf }

theorem Bi.add {R : List (List Nat)} {x n L i k y z : Nat} {f : Nat → Option Nat} {row next Q : List Nat} (h : Bi R x n L f row i k next Q) (hy : row[i]? = some y) (hz : (nb R y)[k]? = some z) (hf : f z = none) (hn : z < n) :
    Bi R x n L (fun u => if u = z then some (L + 1) else f u) row i (k + 1) (next ++ [z]) (Q ++ [z]) where
  a := fun u d hd => by
    by_cases e : u = z
    · subst e
      rw [if_pos rfl] at hd
      cases hd
      refine ⟨⟨.step ((h.a y L ((h.c y).1 (List.mem_of_getElem? hy))).1.1) (List.mem_of_getElem? hz), fun d' hd' => ?_⟩, Nat.le_refl _⟩
      rcases Nat.lt_or_ge L d' with h1 | h1
      · exact h1
      · obtain ⟨e, he, hde⟩ := hd'.dst
        have := h.b u e hde (by omega)
        rw [hf] at this
        cases this
    · rw [if_neg e] at hd; exact h.a u d hd
  b := fun u d hd hle => by
    by_cases e : u = z
    · subst e
      have := h.b u d hd hle
      rw [hf] at this
      cases this
    · rw [if_neg e]; exact h.b u d hd hle
  c := fun u => by
    by_cases e : u = z
    · subst e
      rw [if_pos rfl, h.c, hf]
      simp
    · rw [if_neg e]; exact h.c u
  c2 := fun u => by
    rw [List.mem_append, List.mem_singleton]
    by_cases e : u = z
    · subst e; simp
    · rw [if_neg e, ← h.c2]; simp [e]
  d1 := fun j hj y' hy' z' hz' => by
    split
    · simp
    · exact h.d1 j hj y' hy' z' hz'
  d2 := fun y' hy' z' hz' => by
    split
    · simp
    · rename_i hne
      rw [hy] at hy'
      cases hy'
      rcases (mem_take_succ hz).1 hz' with h1 | h1
      · exact h.d2 y hy z' h1
      · exact absurd h1 hne
  nd := h.nd
  nd2 := by
    rw [List.nodup_append]
    refine ⟨h.nd2, by simp, fun a ha b hb e => ?_⟩
    rw [List.mem_singleton.1 hb] at e
    subst e
    have := (h.c2 a).1 ha
    rw [hf] at this
    cases this
  log := h.log.add hf hn
  cnt := by
    have := h.cnt
    simp only [List.length_append, List.length_cons, List.length_nil]
    omega

theorem Bi.next {R : List (List Nat)} {x n L i y : Nat} {f : Nat → Option Nat} {row next Q : List Nat} (h : Bi R x n L f row i (nb R y).length next Q) (hy : row[i]? = some y) : Bi R x n L f row (i + 1) 0 next Q :=
  { h with
    d1 := fun j hj y' hy' z hz => by
      by_cases e : j = i
      · subst e
        rw [hy] at hy'
        cases hy'
        exact h.d2 y hy z (by rw [List.take_length]; exact hz)
      · exact h.d1 j (by omega) y' hy' z hz
    d2 := fun y' _ z hz => by simp at hz }

theorem Bi.fin {R : List (List Nat)} {x n L : Nat} {f : Nat → Option Nat} {row next Q : List Nat} (h : Bi R x n L f row row.length 0 next Q) : Bf R x n (L + 1) f next Q where
  a := h.a
  b := fun z d hd hle => by
    by_cases e : d ≤ L
    · exact h.b z d hd e
    · obtain rfl : d = L + 1 := by omega
      obtain ⟨y, hy, hz⟩ := hd.prev
      have hm := (h.c y).2 (h.b y L hy (Nat.le_refl _))
      obtain ⟨j, hj, e2⟩ := List.mem_iff_getElem.1 hm
      have hne := h.d1 j hj y (by rw [List.getElem?_eq_getElem hj, e2]) z hz
      cases hf : f z with
      | none => exact absurd hf hne
      | some d => rw [(h.a z d hf).1.unique hd]
  c := h.c2
  nd := h.nd2
  log := h.log
  cnt := fun hne => by
    have := h.cnt
    have : 0 < next.length := List.length_pos_iff.2 hne
    omega
  cn0 := by have := h.cnt; omega

theorem Bf.fin {R : List (List Nat)} {x n L : Nat} {f : Nat → Option Nat} {Q : List Nat} (h : Bf R x n L f [] Q) : Tells2 R x f := fun y d =>
  ⟨fun hd => (h.a y d hd).1, fun hd => by
    by_cases e : d ≤ L
    · exact h.b y d hd e
    · exfalso
      -- some thing on the way is L steps away
      have key : ∀ m y d, Dst R x y d → d = L + m → ∃ z, Dst R x z L := by
        intro m
        induction m with
        | zero => intro y d hd e; exact ⟨y, by rw [show L = d by omega]; exact hd⟩
        | succ m ih =>
          intro y d hd e
          obtain ⟨d', rfl⟩ : ∃ d', d = d' + 1 := ⟨d - 1, by omega⟩
          obtain ⟨z, hz, _⟩ := hd.prev
          exact ih z d' hz (by omega)
      obtain ⟨z, hz⟩ := key (d - L) y d hd (by omega)
      have := (h.c z).2 (h.b z L hz (Nat.le_refl _))
      cases this⟩

end Go.Proofs.Ytdddbjaggfaofaa.GM

namespace Go.Proofs.Ytdddbjaggfaofaa.GM
set_option linter.unusedVariables false

theorem rch_out {E : List (Int × Int)} {i x : Nat} (h : ∀ z : Nat, ((i : Int), (z : Int)) ∉ E) (k : Rch E i x) : x = i := by
  induction k with
  | refl => rfl
  | step _ hz ih => rw [ih] at hz; exact absurd hz (h _)
theorem rch_in {E : List (Int × Int)} {i x : Nat} (h : ∀ z : Nat, ((z : Int), (i : Int)) ∉ E) (k : Rch E x i) : x = i := by
  cases k with
  | refl => rfl
  | step _ hz => exact absurd hz (h _)

/-- The parts whose lowest lies below i bear it. -/
structure Lt (E : List (Int × Int)) (n i : Nat) (L : List (Option Nat)) : Prop where
  len : L.length = n
  at_ : ∀ x, x < n → lb L x = if lo E n x < i then some (lo E n x) else none

theorem Lt.start (E : List (Int × Int)) (n : Nat) : Lt E n 0 (List.replicate n none) := ⟨by simp, fun x hx => by rw [lb_repl, if_neg (by omega)]⟩
theorem lo_self {E : List (Int × Int)} {n i : Nat} {L : List (Option Nat)} (h : Lt E n i L) (hi : i < n) (hl : lb L i = none) : lo E n i = i := by
  have := h.at_ i hi
  rw [hl] at this
  have hle := lo_le (E := E) (n := n) hi (Both.refl i)
  split at this
  · cases this
  · omega
theorem Lt.skip {E : List (Int × Int)} {n i : Nat} {L : List (Option Nat)} (h : Lt E n i L) (hi : i < n) (hl : lb L i ≠ none) : Lt E n (i + 1) L := by
  have hlt : lo E n i < i := by
    rcases Nat.lt_or_ge (lo E n i) i with c | c
    · exact c
    · exact absurd (by rw [h.at_ i hi, if_neg (by omega)]) hl
  refine ⟨h.len, fun x hx => ?_⟩
  rw [h.at_ x hx]
  have hne : lo E n x ≠ i := fun e => by
    have := lo_lo (E := E) hx
    rw [e] at this
    omega
  by_cases c : lo E n x < i
  · rw [if_pos c, if_pos (by omega)]
  · rw [if_neg c, if_neg (by omega)]

/-- While the part of i is labelled: rem is still to be looked at. -/
structure Lr (E : List (Int × Int)) (n i : Nat) (L : List (Option Nat)) (rem : Nat → Bool) : Prop where
  len : L.length = n
  head : lo E n i = i
  yes : ∀ x, x < n → lo E n x < i → lb L x = some (lo E n x)
  mine : ∀ x, x < n → (x = i ∨ (Both E i x ∧ rem x = false)) → lb L x = some i
  no : ∀ x, x < n → ¬ lo E n x < i → ¬ (x = i ∨ (Both E i x ∧ rem x = false)) → lb L x = none

theorem both_lo {E : List (Int × Int)} {n i x : Nat} (hi : i < n) (hx : x < n) (hh : lo E n i = i) : lo E n x = i ↔ Both E i x := by
  constructor
  · intro e
    exact (lo_eq hi hx).1 (by rw [hh, e])
  · intro b
    rw [← lo_same b, hh]

theorem Lr.start {E : List (Int × Int)} {n i : Nat} {L : List (Option Nat)} {rem : Nat → Bool} (h : Lt E n i L) (hi : i < n) (hl : lb L i = none) (hr : ∀ x, Rch E i x → rem x = true) : Lr E n i (L.set i (some i)) rem where
  len := by rw [List.length_set]; exact h.len
  head := lo_self h hi hl
  yes := fun x hx hlt => by
    rw [lb_set (by rw [h.len]; exact hi), if_neg, h.at_ x hx, if_pos hlt]
    intro e
    rw [e, lo_self h hi hl] at hlt
    omega
  mine := fun x hx hm => by
    rw [lb_set (by rw [h.len]; exact hi)]
    rcases hm with e | ⟨hb, hf⟩
    · rw [if_pos e]
    · rw [hr x hb.1] at hf; cases hf
  no := fun x hx hlt hm => by
    rw [lb_set (by rw [h.len]; exact hi), if_neg (fun e => hm (.inl e)), h.at_ x hx, if_neg hlt]

theorem Lr.yes_ {E : List (Int × Int)} {n i y : Nat} {L : List (Option Nat)} {rem : Nat → Bool} (h : Lr E n i L rem) (hi : i < n) (hy : y < n) (hb : Both E i y) : Lr E n i (L.set y (some i)) (fun z => rem z && !decide (z = y)) where
  len := by rw [List.length_set]; exact h.len
  head := h.head
  yes := fun x hx hlt => by
    rw [lb_set (by rw [h.len]; exact hy), if_neg, h.yes x hx hlt]
    intro e
    have := (both_lo hi hy h.head).2 hb
    rw [e, this] at hlt
    omega
  mine := fun x hx hm => by
    rw [lb_set (by rw [h.len]; exact hy)]
    by_cases e : x = y
    · rw [if_pos e]
    · rw [if_neg e]
      refine h.mine x hx (hm.imp id fun ⟨h1, h2⟩ => ⟨h1, ?_⟩)
      simpa [e] using h2
  no := fun x hx hlt hm => by
    have hne : x ≠ y := fun e => hm (.inr ⟨e ▸ hb, by simp [e]⟩)
    rw [lb_set (by rw [h.len]; exact hy), if_neg hne]
    refine h.no x hx hlt (fun hm' => hm (hm'.imp id fun ⟨h1, h2⟩ => ⟨h1, by simp [h2]⟩))

theorem Lr.no_ {E : List (Int × Int)} {n i y : Nat} {L : List (Option Nat)} {rem : Nat → Bool} (h : Lr E n i L rem) (hb : ¬ Both E i y) : Lr E n i L (fun z => rem z && !decide (z = y)) where
  len := h.len
  head := h.head
  yes := h.yes
  mine := fun x hx hm => h.mine x hx (hm.imp id fun ⟨h1, h2⟩ => ⟨h1, by
    have : x ≠ y := fun e => hb (e ▸ h1)
    simpa [this] using h2⟩)
  no := fun x hx hlt hm => h.no x hx hlt (fun hm' => hm (hm'.imp id fun ⟨h1, h2⟩ => ⟨h1, by simp [h2]⟩))

theorem Lr.fin {E : List (Int × Int)} {n i : Nat} {L : List (Option Nat)} {rem : Nat → Bool} (h : Lr E n i L rem) (hi : i < n) (hr : ∀ x, Both E i x → x ≠ i → rem x = false) : Lt E n (i + 1) L where
  len := h.len
  at_ := fun x hx => by
    by_cases c : lo E n x < i
    · rw [if_pos (by omega), h.yes x hx c]
    · by_cases e : lo E n x = i
      · rw [if_pos (by omega), e]
        have hb := (both_lo hi hx h.head).1 e
        refine h.mine x hx ?_
        by_cases e2 : x = i
        · exact .inl e2
        · exact .inr ⟨hb, hr x hb e2⟩
      · rw [if_neg (by omega)]
        refine h.no x hx c ?_
        rintro (e2 | ⟨hb, _⟩)
        · rw [e2, h.head] at e; exact e rfl
        · exact e ((both_lo hi hx h.head).2 hb)

theorem Lt.all {E : List (Int × Int)} {n : Nat} {P : List Nat} (h : Lt E n n (P.map some)) : P.length = n ∧ ∀ x, x < n → pa P x = lo E n x := by
  have hl : P.length = n := by have := h.len; simpa using this
  refine ⟨hl, fun x hx => ?_⟩
  have h1 := h.at_ x hx
  rw [lb_map P (by omega), if_pos (by have := (lo_mem (E := E) hx).1; omega)] at h1
  exact Option.some.inj h1
theorem Lt.some_ {E : List (Int × Int)} {n : Nat} {L : List (Option Nat)} (h : Lt E n n L) : ∃ P : List Nat, L = P.map some :=
  all_some L (fun x hx => by
    rw [h.len] at hx
    rw [h.at_ x hx, if_pos (by have := (lo_mem (E := E) hx).1; omega)]
    simp)

end Go.Proofs.Ytdddbjaggfaofaa.GM

namespace Go.Proofs.Ytdddbjaggfaofaa.GM
set_option linter.unusedVariables false

/-- How many edges from y lead out of D. -/
def mlack (B : List (Int × Int)) (D : List Nat) (y : Nat) : Nat := B.countP (fun e => decide (e.1 = (y : Int)) && decide (e.2.toNat ∉ D))
def NE (B : List (Int × Int)) (x y : Nat) : Prop := ((x : Int), (y : Int)) ∈ B

theorem mlack_zero {B : List (Int × Int)} (hB : ∀ e ∈ B, 0 ≤ e.2) {D : List Nat} {y : Nat} : mlack B D y = 0 ↔ ∀ z, NE B y z → z ∈ D := by
  unfold mlack NE
  rw [List.countP_eq_zero]
  constructor
  · intro h z hz
    have := h _ hz
    simpa using this
  · intro h e he
    simp only [Bool.and_eq_true, decide_eq_true_eq, not_and, Classical.not_not]
    intro h1
    have h2 := hB e he
    refine h e.2.toNat ?_
    have : e = ((y : Int), ((e.2.toNat : Nat) : Int)) := by
      rw [← h1, Int.toNat_of_nonneg h2]
    rw [← this]; exact he

theorem mlack_snoc : ∀ {B : List (Int × Int)} (hB : ∀ e ∈ B, 0 ≤ e.2) {D : List Nat} {x : Nat} (hx : x ∉ D) (y : Nat), mlack B D y = mlack B (D ++ [x]) y + B.count ((y : Int), (x : Int))
  | [], _, D, x, _, y => by simp [mlack]
  | e :: B, hB, D, x, hx, y => by
    have ih := mlack_snoc (B := B) (fun e' h => hB e' (List.mem_cons_of_mem _ h)) hx y
    have h2 := hB e List.mem_cons_self
    unfold mlack at ih ⊢
    rw [List.countP_cons, List.countP_cons, List.count_cons]
    obtain ⟨e1, e2⟩ := e
    simp only at h2 ⊢
    by_cases c1 : e1 = (y : Int)
    · by_cases c2 : e2.toNat = x
      · have c3 : e2 = (x : Int) := by omega
        have c4 : ((e1, e2) == ((y : Int), (x : Int))) = true := by simp [c1, c3]
        have c5 : (decide (e1 = (y : Int)) && decide (e2.toNat ∉ D)) = true := by simp [c1, c2, hx]
        have c6 : (decide (e1 = (y : Int)) && decide (e2.toNat ∉ D ++ [x])) = false := by simp [c2]
        rw [c4, c5, c6, if_pos rfl, if_neg (by simp)]
        omega
      · have c4 : ((e1, e2) == ((y : Int), (x : Int))) = false := by
          rw [beq_eq_false_iff_ne]
          intro h
          injection h with _ h
          omega
        have c6 : decide (e2.toNat ∉ D ++ [x]) = decide (e2.toNat ∉ D) := by simp [c2]
        rw [c4, c6, if_neg (by simp : ¬ (false = true))]
        omega
    · have c4 : ((e1, e2) == ((y : Int), (x : Int))) = false := by
        rw [beq_eq_false_iff_ne]
        intro h
        injection h with h _
        exact c1 h
      have c5 : decide (e1 = (y : Int)) = false := by simp [c1]
      rw [c4, c5, Bool.false_and, Bool.false_and, if_neg (by simp : ¬ (false = true))]
      omega

theorem mlack_le (B : List (Int × Int)) (D : List Nat) (y : Nat) : mlack B D y ≤ B.length := List.countP_le_length

/-- A thing is ready: 1, else 0. -/
def rdyP (T : Nat → Prop) (D N : List Nat) (p : Nat → Nat) : Prop := ∀ y, (p y = 1 ∧ T y ∧ y ∉ D ∧ pa N y = 0) ∨ (p y = 0 ∧ ¬(T y ∧ y ∉ D ∧ pa N y = 0))

theorem rdyP.le {T : Nat → Prop} {D N : List Nat} {p : Nat → Nat} (h : rdyP T D N p) (y : Nat) : p y ≤ 1 := by
  rcases h y with h | h <;> omega

/-- What is given: edges between things that T holds of; the rows of users, with repeats. -/
structure UB (n : Nat) (T : Nat → Prop) (B : List (Int × Int)) (Us : List (List Nat)) : Prop where
  ok : ∀ e ∈ B, 0 ≤ e.1 ∧ 0 ≤ e.2
  t : ∀ x y, NE B x y → T x ∧ T y
  lt : ∀ x, T x → x < n
  cnt : ∀ x y, (nb Us x).count y = B.count ((y : Int), (x : Int))

theorem UB.mem {n : Nat} {T : Nat → Prop} {B : List (Int × Int)} {Us : List (List Nat)} (U : UB n T B Us) {x y : Nat} : y ∈ nb Us x ↔ NE B y x := by
  unfold NE
  rw [← List.count_pos_iff, U.cnt, List.count_pos_iff]

structure Km (n : Nat) (T : Nat → Prop) (B : List (Int × Int)) (D N : List Nat) (p : Nat → Nat) : Prop where
  len : N.length = n
  ln : Ln T (NE B) D
  nd : ∀ y, y < n → pa N y = mlack B D y
  rd : rdyP T D N p

structure Kj (n : Nat) (T : Nat → Prop) (B : List (Int × Int)) (Us : List (List Nat)) (D N : List Nat) (p : Nat → Nat) (x k : Nat) : Prop where
  len : N.length = n
  fresh : x ∉ D
  ln : Ln T (NE B) (D ++ [x])
  nd : ∀ y, y < n → pa N y = mlack B (D ++ [x]) y + ((nb Us x).drop k).count y
  rd : rdyP T (D ++ [x]) N p

theorem Km.rdy {n : Nat} {T : Nat → Prop} {B : List (Int × Int)} {Us : List (List Nat)} {D N : List Nat} {p : Nat → Nat} (K : Km n T B D N p) (U : UB n T B Us) (y : Nat) : Rdy T (NE B) D y ↔ 0 < p y := by
  have h1 := K.rd y
  constructor
  · rintro ⟨a, b, c⟩
    have h2 := K.nd y (U.lt y a)
    have h3 := (mlack_zero (fun e he => (U.ok e he).2)).2 c
    rcases h1 with h1 | h1
    · omega
    · exact absurd ⟨a, b, by omega⟩ h1.2
  · intro hp
    rcases h1 with ⟨_, a, b, c⟩ | h1
    · exact ⟨a, b, (mlack_zero (fun e he => (U.ok e he).2)).1 (by rw [← K.nd y (U.lt y a)]; exact c)⟩
    · omega

theorem Km.take {n : Nat} {T : Nat → Prop} {B : List (Int × Int)} {Us : List (List Nat)} {D N : List Nat} {p : Nat → Nat} {x : Nat} (K : Km n T B D N p) (U : UB n T B Us) (hx : 0 < p x) (hmin : ∀ y, y < x → p y = 0) :
    Kj n T B Us D N (fun y => if y = x then 0 else p y) x 0 := by
  have hr := (K.rdy U x).2 hx
  exact {
    len := K.len
    fresh := hr.2.1
    ln := .snoc K.ln ⟨hr, fun y hy => by
      rcases Nat.lt_or_ge y x with c | c
      · have := (K.rdy U y).1 hy
        have := hmin y c
        omega
      · exact c⟩
    nd := fun y hy => by
      rw [K.nd y hy, mlack_snoc (fun e he => (U.ok e he).2) hr.2.1 y, List.drop_zero, U.cnt]
    rd := fun y => by
      by_cases e : y = x
      · subst e
        exact .inr ⟨by simp, by simp⟩
      · rcases K.rd y with ⟨a, b, c, d⟩ | ⟨a, b⟩
        · exact .inl ⟨by simp [e, a], b, by simp [c, e], d⟩
        · exact .inr ⟨by simp [e, a], fun h => b ⟨h.1, fun h' => h.2.1 (List.mem_append_left _ h'), h.2.2⟩⟩ }

theorem Kj.at_ {n : Nat} {T : Nat → Prop} {B : List (Int × Int)} {Us : List (List Nat)} {D N : List Nat} {p : Nat → Nat} {x k y : Nat} (K : Kj n T B Us D N p x k) (U : UB n T B Us) (hy : (nb Us x)[k]? = some y) :
    T y ∧ y < n ∧ y ∉ D ++ [x] ∧ ∃ c, pa N y = c + 1 := by
  have hm : NE B y x := U.mem.1 (List.mem_of_getElem? hy)
  have ht := (U.t y x hm).1
  refine ⟨ht, U.lt y ht, ?_, ?_⟩
  · intro hd
    rcases List.mem_append.1 hd with hd | hd
    · exact K.fresh ((K.ln.inv rfl).1.needs y hd x hm)
    · rw [List.mem_singleton.1 hd] at hm
      exact K.fresh ((K.ln.inv rfl).2.1.2.2 _ hm)
  · obtain ⟨hk, e⟩ := List.getElem?_eq_some_iff.1 hy
    have h1 := K.nd y (U.lt y ht)
    rw [List.drop_eq_getElem_cons hk, e, List.count_cons_self] at h1
    exact ⟨_, h1⟩

theorem Kj.told {n : Nat} {T : Nat → Prop} {B : List (Int × Int)} {Us : List (List Nat)} {D N : List Nat} {p : Nat → Nat} {x k y c : Nat} (K : Kj n T B Us D N p x k) (U : UB n T B Us) (hy : (nb Us x)[k]? = some y) (hc : pa N y = c + 1) :
    (c ≠ 0 → Kj n T B Us D (N.set y c) p x (k + 1)) ∧ (c = 0 → p y = 0 ∧ Kj n T B Us D (N.set y c) (fun z => if z = y then 1 else p z) x (k + 1)) := by
  obtain ⟨ht, hyn, hyD, -⟩ := K.at_ U hy
  obtain ⟨hk, e⟩ := List.getElem?_eq_some_iff.1 hy
  have hset : ∀ z, pa (N.set y c) z = if z = y then c else pa N z := fun z => pa_set (by rw [K.len]; exact hyn) z
  have hlen : (N.set y c).length = n := by rw [List.length_set]; exact K.len
  have hnd : ∀ z, z < n → pa (N.set y c) z = mlack B (D ++ [x]) z + ((nb Us x).drop (k + 1)).count z := fun z hz => by
    have h1 := K.nd z hz
    rw [List.drop_eq_getElem_cons hk, e, List.count_cons] at h1
    rw [hset]
    by_cases e2 : z = y
    · subst e2
      rw [if_pos rfl]
      simp only [beq_self_eq_true, if_true] at h1
      omega
    · rw [if_neg e2]
      have e3 : (y == z) = false := by rw [beq_eq_false_iff_ne]; exact fun h => e2 h.symm
      rw [e3] at h1
      simpa using h1
  have hpy : p y = 0 := by
    rcases K.rd y with ⟨_, _, _, h⟩ | h
    · omega
    · exact h.1
  refine ⟨fun hc0 => ⟨hlen, K.fresh, K.ln, hnd, fun z => ?_⟩, fun hc0 => ⟨hpy, hlen, K.fresh, K.ln, hnd, fun z => ?_⟩⟩
  · by_cases e2 : z = y
    · subst e2
      refine .inr ⟨hpy, fun h => ?_⟩
      have := h.2.2
      rw [hset, if_pos rfl] at this
      exact hc0 this
    · rw [hset, if_neg e2]; exact K.rd z
  · by_cases e2 : z = y
    · subst e2
      exact .inl ⟨by simp, ht, hyD, by rw [hset, if_pos rfl]; exact hc0⟩
    · rw [hset, if_neg e2]
      simp only [e2, if_false]
      exact K.rd z

theorem Kj.fin {n : Nat} {T : Nat → Prop} {B : List (Int × Int)} {Us : List (List Nat)} {D N : List Nat} {p : Nat → Nat} {x : Nat} (K : Kj n T B Us D N p x (nb Us x).length) : Km n T B (D ++ [x]) N p where
  len := K.len
  ln := K.ln
  nd := fun y hy => by rw [K.nd y hy]; simp
  rd := K.rd

theorem Km.full {n S : Nat} {T : Nat → Prop} {B : List (Int × Int)} {Us : List (List Nat)} {D N : List Nat} {p : Nat → Nat} (K : Km n T B D N p) (U : UB n T B Us) (hn : n ≤ S) (h : ∀ x, x < S → p x = 0) : Full T (NE B) D :=
  ⟨K.ln, fun x hx => by
    have h1 := (K.rdy U x).1 hx
    have h2 := h x (Nat.lt_of_lt_of_le (U.lt x hx.1) hn)
    omega⟩

/-- How many edges lead from y. -/
def cntF (B : List (Int × Int)) (y : Nat) : Nat := B.countP (fun e => decide (e.1 = (y : Int)))
theorem cntF_mlack (B : List (Int × Int)) (y : Nat) : mlack B [] y = cntF B y := by
  unfold mlack cntF
  apply List.countP_congr
  intro e _
  simp
theorem cntF_step {B : List (Int × Int)} {k : Nat} {a b : Int} (h : B[k]? = some (a, b)) (y : Nat) : cntF (B.take (k + 1)) y = cntF (B.take k) y + if a = (y : Int) then 1 else 0 := by
  unfold cntF
  rw [List.take_add_one, h, List.countP_append]
  congr 1
  simp [List.countP_cons]
theorem cntF_le (B : List (Int × Int)) (y : Nat) : cntF B y ≤ B.length := List.countP_le_length

/-- Some of the things have been put in. -/
theorem Km.start {n : Nat} {T : Nat → Prop} {B : List (Int × Int)} {N : List Nat} {p : Nat → Nat} (hl : N.length = n) (hN : ∀ y, y < n → pa N y = cntF B y) (hp : ∀ y, (p y = 1 ∧ T y ∧ pa N y = 0) ∨ (p y = 0 ∧ ¬(T y ∧ pa N y = 0))) : Km n T B [] N p where
  len := hl
  ln := .nil
  nd := fun y hy => by rw [hN y hy, cntF_mlack]
  rd := fun y => by
    rcases hp y with ⟨a, b, c⟩ | ⟨a, b⟩
    · exact .inl ⟨a, b, by simp, c⟩
    · exact .inr ⟨a, fun h => b ⟨h.1, h.2.2⟩⟩

/-- The members of each part, as they are put in. -/
def Mem0 (f : Nat → Nat) (n i : Nat) (M : List (List Nat)) : Prop := M.length = n ∧ ∀ y, y < n → nb M y = (List.range i).filter (fun x => decide (f x = y))
theorem Mem0.start (f : Nat → Nat) (n : Nat) : Mem0 f n 0 (List.replicate n []) := ⟨by simp, fun y hy => by
  unfold nb; rw [List.getD_eq_getElem?_getD, List.getElem?_replicate, if_pos hy]; rfl⟩
theorem Mem0.step {f : Nat → Nat} {n i : Nat} {M : List (List Nat)} (h : Mem0 f n i M) (hi : f i < n) : Mem0 f n (i + 1) (M.set (f i) (nb M (f i) ++ [i])) := by
  refine ⟨by rw [List.length_set]; exact h.1, fun y hy => ?_⟩
  rw [List.range_succ, List.filter_append, ← h.2 y hy]
  unfold nb
  by_cases e : f i = y
  · subst e
    rw [List.getD_eq_getElem?_getD, List.getElem?_set_self (by rw [h.1]; exact hi)]
    simp
  · rw [List.getD_eq_getElem?_getD, List.getElem?_set_ne e, ← List.getD_eq_getElem?_getD]
    simp [e]
theorem Mem0.len_le {f : Nat → Nat} {n i : Nat} {M : List (List Nat)} (h : Mem0 f n i M) {y : Nat} (hy : y < n) : (nb M y).length ≤ i := by
  rw [h.2 y hy]
  exact Nat.le_trans (List.length_filter_le _ _) (by simp)
theorem Mem0.pof {E : List (Int × Int)} {n : Nat} {M : List (List Nat)} (h : Mem0 (lo E n) n n M) {x : Nat} (hx : Hd E n x) : nb M x = pof E n x := by
  rw [h.2 x hx.1]
  refine rising_ext (rising_filter n _) (part_rising E n x) (fun z => ?_)
  rw [part_mem, List.mem_filter, List.mem_range, decide_eq_true_eq]
  constructor
  · rintro ⟨hz, e⟩
    exact ⟨hz, (both_lo hx.1 hz hx.2).1 e⟩
  · rintro ⟨hz, b⟩
    exact ⟨hz, (both_lo hx.1 hz hx.2).2 b⟩

end Go.Proofs.Ytdddbjaggfaofaa.GM
