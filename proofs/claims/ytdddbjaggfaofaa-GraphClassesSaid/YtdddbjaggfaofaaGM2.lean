/- Plain lemmas on classes of tied things: parents and roots, labels. No Go and no memory. -/
import Derived.Test.YtdddbjaggfaofaaGM
namespace Go.Proofs.Ytdddbjaggfaofaa.GM
set_option linter.unusedVariables false

/-- Tied, through ties. -/
inductive Conn (T : Nat → Nat → Prop) : Nat → Nat → Prop
  | refl (x : Nat) : Conn T x x
  | step {x y z : Nat} : Conn T x y → (T y z ∨ T z y) → Conn T x z

theorem Conn.trans {T : Nat → Nat → Prop} {x y z : Nat} (h : Conn T x y) (k : Conn T y z) : Conn T x z := by
  induction k with
  | refl => exact h
  | step _ hz ih => exact .step ih hz
theorem Conn.symm {T : Nat → Nat → Prop} {x y : Nat} (h : Conn T x y) : Conn T y x := by
  induction h with
  | refl => exact .refl _
  | step _ hz ih => exact Conn.trans (.step (.refl _) hz.symm) ih
theorem Conn.mono {T T' : Nat → Nat → Prop} (h : ∀ a b, T a b → T' a b) {x y : Nat} (k : Conn T x y) : Conn T' x y := by
  induction k with
  | refl => exact .refl _
  | step _ hz ih => exact .step ih (hz.imp (h _ _) (h _ _))
theorem Conn.closed {T : Nat → Nat → Prop} {p : Nat → Prop} (hc : ∀ y, p y → ∀ z, (T y z ∨ T z y) → p z) {x y : Nat} (k : Conn T x y) (hx : p x) : p y := by
  induction k with
  | refl => exact hx
  | step _ hz ih => exact hc _ ih _ hz

/-- r is the lowest that is tied to x. -/
def Least (T : Nat → Nat → Prop) (x r : Nat) : Prop := Conn T x r ∧ ∀ y, Conn T x y → r ≤ y
theorem Least.unique {T : Nat → Nat → Prop} {x r s : Nat} (h : Least T x r) (k : Least T x s) : r = s :=
  Nat.le_antisymm (h.2 s k.1) (k.2 r h.1)
theorem Least.of_conn {T : Nat → Nat → Prop} {x y r : Nat} (h : Least T x r) (k : Conn T x y) : Least T y r :=
  ⟨k.symm.trans h.1, fun z hz => h.2 z (k.trans hz)⟩

/-! ### Parents -/
def pa (P : List Nat) (x : Nat) : Nat := P.getD x 0
theorem pa_set {P : List Nat} {x v : Nat} (hx : x < P.length) (y : Nat) : pa (P.set x v) y = if y = x then v else pa P y := by
  unfold pa
  rw [List.getD_eq_getElem?_getD, List.getD_eq_getElem?_getD]
  by_cases e : y = x
  · subst e; simp [hx]
  · rw [List.getElem?_set_ne (by omega), if_neg e]
theorem pa_range {n x : Nat} (hx : x < n) : pa (List.range n) x = x := by
  unfold pa
  rw [List.getD_eq_getElem?_getD, List.getElem?_range hx]; rfl

inductive Root (P : List Nat) : Nat → Nat → Prop
  | here {x : Nat} : pa P x = x → Root P x x
  | up {x r : Nat} : pa P x ≠ x → Root P (pa P x) r → Root P x r

theorem Root.unique {P : List Nat} {x r s : Nat} (h : Root P x r) (k : Root P x s) : r = s := by
  induction h with
  | here e =>
    cases k with
    | here => rfl
    | up ne => exact absurd e ne
  | up ne _ ih =>
    cases k with
    | here e => exact absurd e ne
    | up _ k => exact ih k
theorem Root.top {P : List Nat} {x r : Nat} (h : Root P x r) : pa P r = r := by
  induction h with
  | here e => exact e
  | up _ _ ih => exact ih

structure Uf (n : Nat) (P : List Nat) : Prop where
  len : P.length = n
  le : ∀ x, x < n → pa P x ≤ x

theorem Uf.root {n : Nat} {P : List Nat} (h : Uf n P) (x : Nat) : x < n → ∃ r, Root P x r ∧ r ≤ x := by
  induction x using Nat.strongRecOn with
  | ind x ih =>
    intro hx
    by_cases e : pa P x = x
    · exact ⟨x, .here e, Nat.le_refl _⟩
    · have := h.le x hx
      obtain ⟨r, hr, hle⟩ := ih (pa P x) (by omega) (by omega)
      exact ⟨r, .up e hr, by omega⟩
theorem Uf.root_le {n : Nat} {P : List Nat} (h : Uf n P) {x r : Nat} (hx : x < n) (hr : Root P x r) : r ≤ x := by
  obtain ⟨s, hs, hle⟩ := h.root x hx
  rw [hr.unique hs]; exact hle

theorem Uf.start (n : Nat) : Uf n (List.range n) := ⟨by simp, fun x hx => by rw [pa_range hx]; exact Nat.le_refl _⟩

theorem Uf.halve {n x : Nat} {P : List Nat} (h : Uf n P) (hx : x < n) : Uf n (P.set x (pa P (pa P x))) := by
  refine ⟨by rw [List.length_set]; exact h.len, fun y hy => ?_⟩
  rw [pa_set (by rw [h.len]; exact hx)]
  split
  · rename_i e
    subst e
    have h1 := h.le y hx
    have h2 := h.le (pa P y) (by omega)
    omega
  · exact h.le y hy

theorem Uf.halve_root {n x : Nat} {P : List Nat} (h : Uf n P) (hx : x < n) (hne : pa P x ≠ x) (y : Nat) : y < n → ∀ r, Root P y r → Root (P.set x (pa P (pa P x))) y r := by
  have hl : x < P.length := by rw [h.len]; exact hx
  induction y using Nat.strongRecOn with
  | ind y ih =>
    intro hy r hr
    cases hr with
    | here e =>
      refine .here ?_
      rw [pa_set hl, if_neg (by intro e2; subst e2; exact hne e)]
      exact e
    | up ne hr =>
      have hle := h.le y hy
      by_cases e : y = x
      · subst e
        have hp : pa P y < y := by omega
        by_cases e2 : pa P (pa P y) = pa P y
        · refine .up ?_ ?_
          · rw [pa_set hl, if_pos rfl, e2]; exact ne
          · rw [pa_set hl, if_pos rfl, e2]
            rw [e2] at ih
            exact ih (pa P y) hp (by omega) r hr
        · have hg := h.le (pa P y) (by omega)
          have hr2 : Root P (pa P (pa P y)) r := by
            cases hr with
            | here e3 => exact absurd e3 e2
            | up _ k => exact k
          refine .up ?_ ?_
          · rw [pa_set hl, if_pos rfl]; omega
          · rw [pa_set hl, if_pos rfl]
            exact ih _ (by omega) (by omega) r hr2
      · refine .up ?_ ?_
        · rw [pa_set hl, if_neg e]; exact ne
        · rw [pa_set hl, if_neg e]
          exact ih _ (by omega) (by omega) r hr

/-- What walks to the root leave: the same roots; a thing right below its root stays so. -/
structure Kin (n : Nat) (P P' : List Nat) : Prop where
  uf : Uf n P'
  root : ∀ y, y < n → ∀ r, Root P y r → Root P' y r
  flat : ∀ y, y < n → pa P (pa P y) = pa P y → pa P' y = pa P y

theorem Kin.refl {n : Nat} {P : List Nat} (h : Uf n P) : Kin n P P := ⟨h, fun _ _ _ h => h, fun _ _ _ => rfl⟩
theorem Kin.trans {n : Nat} {P P' P'' : List Nat} (h0 : Uf n P) (h : Kin n P P') (k : Kin n P' P'') : Kin n P P'' where
  uf := k.uf
  root := fun y hy r hr => k.root y hy r (h.root y hy r hr)
  flat := fun y hy e => by
    have hle := h0.le y hy
    have e1 := h.flat y hy e
    have e2 := h.flat (pa P y) (by omega) (by rw [e, e])
    rw [k.flat y hy (by rw [e1, e2, e]), e1]
theorem Kin.halve {n x : Nat} {P : List Nat} (h : Uf n P) (hx : x < n) (hne : pa P x ≠ x) : Kin n P (P.set x (pa P (pa P x))) where
  uf := h.halve hx
  root := fun y hy r hr => h.halve_root hx hne y hy r hr
  flat := fun y hy e => by
    rw [pa_set (by rw [h.len]; exact hx)]
    split
    · rename_i e2; subst e2; exact e
    · rfl

theorem Kin.flat2 {n y : Nat} {P P' : List Nat} (h0 : Uf n P) (h : Kin n P P') (hy : y < n) (e : pa P (pa P y) = pa P y) : pa P' (pa P' y) = pa P' y := by
  have hle := h0.le y hy
  have e1 := h.flat y hy e
  have e2 := h.flat (pa P y) (by omega) (by rw [e, e])
  rw [e1, e2, e]

/-- A thing set right below its root. -/
theorem Kin.point {n x r : Nat} {P : List Nat} (h : Uf n P) (hx : x < n) (hr : Root P x r) : Kin n P (P.set x r) := by
  have hl : x < P.length := by rw [h.len]; exact hx
  have hle := h.root_le hx hr
  refine ⟨⟨by rw [List.length_set]; exact h.len, fun y hy => ?_⟩, fun y => ?_, fun y hy e => ?_⟩
  · rw [pa_set hl]
    split
    · omega
    · exact h.le y hy
  · induction y using Nat.strongRecOn with
    | ind y ih =>
      intro hy s hs
      have hs0 := hs
      cases hs with
      | here e =>
        refine .here ?_
        rw [pa_set hl]
        split
        · rename_i e2
          subst e2
          exact hr.unique hs0
        · exact e
      | up ne hs =>
        have h1 := h.le y hy
        by_cases c : y = x
        · subst c
          have e2 := hr.unique hs0
          subst e2
          have hne : r ≠ y := by
            have := h.root_le (x := pa P y) (by omega) hs
            omega
          refine .up ?_ ?_
          · rw [pa_set hl, if_pos rfl]; exact hne
          · rw [pa_set hl, if_pos rfl]
            exact .here (by rw [pa_set hl, if_neg hne]; exact hr.top)
        · refine .up ?_ ?_
          · rw [pa_set hl, if_neg c]; exact ne
          · rw [pa_set hl, if_neg c]
            exact ih _ (by omega) (by omega) s hs
  · rw [pa_set hl]
    split
    · rename_i c
      subst c
      by_cases e2 : pa P y = y
      · rw [e2]; exact hr.unique (.here e2)
      · exact hr.unique (.up e2 (.here e))
    · rfl

/-- Two roots joined. -/
theorem Uf.join {n M m : Nat} {P : List Nat} (h : Uf n P) (hM : M < n) (hle : m ≤ M) : Uf n (P.set M m) := by
  refine ⟨by rw [List.length_set]; exact h.len, fun y hy => ?_⟩
  rw [pa_set (by rw [h.len]; exact hM)]
  split
  · omega
  · exact h.le y hy
theorem Uf.join_root {n M m : Nat} {P : List Nat} (h : Uf n P) (hM : M < n) (hMr : pa P M = M) (hmr : pa P m = m) {y r : Nat} (hr : Root P y r) : Root (P.set M m) y (if r = M then m else r) := by
  have hl : M < P.length := by rw [h.len]; exact hM
  induction hr with
  | @here y e =>
    by_cases c : y = M
    · subst c
      rw [if_pos rfl]
      by_cases c2 : m = y
      · subst c2
        exact .here (by rw [pa_set hl, if_pos rfl])
      · refine .up (by rw [pa_set hl, if_pos rfl]; exact c2) ?_
        rw [pa_set hl, if_pos rfl]
        exact .here (by rw [pa_set hl, if_neg c2]; exact hmr)
    · rw [if_neg c]
      exact .here (by rw [pa_set hl, if_neg c]; exact e)
  | @up y r ne _ ih =>
    have c : y ≠ M := by intro e; subst e; exact ne hMr
    refine .up (by rw [pa_set hl, if_neg c]; exact ne) ?_
    rw [pa_set hl, if_neg c]
    exact ih

/-- The parents tell the ties. -/
def Tells (n : Nat) (T : Nat → Nat → Prop) (P : List Nat) : Prop := ∀ x y, x < n → y < n → (Conn T x y ↔ ∃ r, Root P x r ∧ Root P y r)

theorem Tells.start (n : Nat) (T : Nat → Nat → Prop) (hT : ∀ a b, ¬ T a b) : Tells n T (List.range n) := by
  intro x y hx hy
  constructor
  · intro h
    have : y = x := by
      induction h with
      | refl => rfl
      | step _ hz _ => rcases hz with hz | hz <;> exact absurd hz (hT _ _)
    subst this
    exact ⟨y, .here (pa_range hx), .here (pa_range hx)⟩
  · rintro ⟨r, h1, h2⟩
    have e1 := h1.unique (.here (pa_range hx))
    have e2 := h2.unique (.here (pa_range hy))
    rw [← e1, e2]
    exact .refl _

theorem Tells.kin {n : Nat} {T : Nat → Nat → Prop} {P P' : List Nat} (hu : Uf n P) (h : Tells n T P) (k : Kin n P P') : Tells n T P' := by
  intro x y hx hy
  rw [h x y hx hy]
  constructor
  · rintro ⟨r, h1, h2⟩
    exact ⟨r, k.root x hx r h1, k.root y hy r h2⟩
  · rintro ⟨r, h1, h2⟩
    obtain ⟨s, hs, _⟩ := hu.root x hx
    obtain ⟨t, ht, _⟩ := hu.root y hy
    have e1 := (k.root x hx s hs).unique h1
    have e2 := (k.root y hy t ht).unique h2
    subst e1 e2
    exact ⟨_, hs, ht⟩

theorem Tells.join {n a b ra rb : Nat} {T T' : Nat → Nat → Prop} {P : List Nat} (hu : Uf n P) (h : Tells n T P) (hT : ∀ x y, T x y → x < n ∧ y < n) (hT' : ∀ x y, T' x y ↔ T x y ∨ (x = a ∧ y = b)) (ha : a < n) (hb : b < n)
    (hra : Root P a ra) (hrb : Root P b rb) : Tells n T' (P.set (max ra rb) (min ra rb)) := by
  have hale := hu.root_le ha hra
  have hble := hu.root_le hb hrb
  have hmono : ∀ x y, T x y → T' x y := fun x y hxy => (hT' x y).2 (.inl hxy)
  have hab : Conn T' a b := .step (.refl _) (.inl ((hT' a b).2 (.inr ⟨rfl, rfl⟩)))
  have htop : pa P (max ra rb) = max ra rb ∧ pa P (min ra rb) = min ra rb := by
    have h1 := hra.top
    have h2 := hrb.top
    rcases Nat.le_total ra rb with hle | hle
    · rw [Nat.max_eq_right hle, Nat.min_eq_left hle]; exact ⟨h2, h1⟩
    · rw [Nat.max_eq_left hle, Nat.min_eq_right hle]; exact ⟨h1, h2⟩
  have hM : max ra rb < n := by omega
  have hjoin : ∀ y r, Root P y r → Root (P.set (max ra rb) (min ra rb)) y (if r = max ra rb then min ra rb else r) := fun y r hr => hu.join_root hM htop.1 htop.2 hr
  intro x y hx hy
  obtain ⟨rx, hrx, _⟩ := hu.root x hx
  obtain ⟨ry, hry, _⟩ := hu.root y hy
  have key : (∃ r, Root (P.set (max ra rb) (min ra rb)) x r ∧ Root (P.set (max ra rb) (min ra rb)) y r) ↔ (if rx = max ra rb then min ra rb else rx) = (if ry = max ra rb then min ra rb else ry) := by
    constructor
    · rintro ⟨r, h1, h2⟩
      rw [(hjoin x rx hrx).unique h1, (hjoin y ry hry).unique h2]
    · intro e
      exact ⟨_, hjoin x rx hrx, by rw [e]; exact hjoin y ry hry⟩
  rw [key]
  constructor
  · intro hc
    clear key
    induction hc generalizing ry with
    | refl => rw [hrx.unique hry]
    | @step y z hxy hz ih =>
      have hyn : y < n := by
        rcases hz with hz | hz
        · rcases (hT' _ _).1 hz with hz | ⟨rfl, rfl⟩
          · exact (hT _ _ hz).1
          · exact ha
        · rcases (hT' _ _).1 hz with hz | ⟨rfl, rfl⟩
          · exact (hT _ _ hz).2
          · exact hb
      obtain ⟨ry', hry', _⟩ := hu.root y hyn
      have e := ih hyn ry' hry' (hu.root_le hyn hry')
      rw [e]
      have same : ∀ u v, T u v → u < n → v < n → ∀ ru rv, Root P u ru → Root P v rv → ru = rv := by
        intro u v huv hun hvn ru rv h1 h2
        obtain ⟨r, g1, g2⟩ := (h u v hun hvn).1 (.step (.refl _) (.inl huv))
        rw [h1.unique g1, h2.unique g2]
      have pair : (if ra = max ra rb then min ra rb else ra) = (if rb = max ra rb then min ra rb else rb) := by
        split <;> split <;> omega
      rcases hz with hz | hz
      · rcases (hT' _ _).1 hz with hz | ⟨rfl, rfl⟩
        · rw [same y z hz hyn hy ry' ry hry' hry]
        · rw [hry'.unique hra, hry.unique hrb]; exact pair
      · rcases (hT' _ _).1 hz with hz | ⟨rfl, rfl⟩
        · rw [same z y hz hy hyn ry ry' hry hry']
        · rw [hry'.unique hrb, hry.unique hra]; exact pair.symm
  · intro e
    have conn : ∀ u v, u < n → v < n → ∀ r, Root P u r → Root P v r → Conn T' u v := fun u v hu' hv r h1 h2 => ((h u v hu' hv).2 ⟨r, h1, h2⟩).mono hmono
    by_cases c : rx = ry
    · subst c; exact conn x y hx hy _ hrx hry
    · have hcase : (rx = max ra rb ∧ ry = min ra rb) ∨ (ry = max ra rb ∧ rx = min ra rb) := by
        split at e <;> split at e <;> omega
      have full : ∀ u v ru rv, u < n → v < n → Root P u ru → Root P v rv → ru = max ra rb → rv = min ra rb → Conn T' u v := by
        intro u v ru rv hun hvn h1 h2 e1 e2
        rcases Nat.le_total ra rb with hle | hle
        · rw [Nat.max_eq_right hle] at e1; rw [Nat.min_eq_left hle] at e2
          subst e1 e2
          exact ((conn u b hun hb _ h1 hrb).trans hab.symm).trans (conn a v ha hvn _ hra h2)
        · rw [Nat.max_eq_left hle] at e1; rw [Nat.min_eq_right hle] at e2
          subst e1 e2
          exact ((conn u a hun ha _ h1 hra).trans hab).trans (conn b v hb hvn _ hrb h2)
      rcases hcase with ⟨e1, e2⟩ | ⟨e1, e2⟩
      · exact full x y rx ry hx hy hrx hry e1 e2
      · exact (full y x ry rx hy hx hry hrx e1 e2).symm

/-- Each thing right below its root: the list tells the lowest of each class. -/
theorem Tells.least {n : Nat} {T : Nat → Nat → Prop} {P : List Nat} (hu : Uf n P) (h : Tells n T P) (hT : ∀ x y, T x y → x < n ∧ y < n) (hf : ∀ x, x < n → pa P (pa P x) = pa P x) {x : Nat} (hx : x < n) : Least T x (pa P x) := by
  have hr : Root P x (pa P x) := by
    by_cases e : pa P x = x
    · rw [e]; exact .here e
    · exact .up e (.here (hf x hx))
  have hle := hu.le x hx
  refine ⟨(h x _ hx (by omega)).2 ⟨pa P x, hr, .here (hf x hx)⟩, fun y hy => ?_⟩
  have hyn : y < n := Conn.closed (p := fun y => y < n) (fun y _ z hz => by
    rcases hz with hz | hz
    · exact (hT _ _ hz).2
    · exact (hT _ _ hz).1) hy hx
  obtain ⟨r, h1, h2⟩ := (h x y hx hyn).1 hy
  rw [hr.unique h1]
  exact hu.root_le hyn h2

end Go.Proofs.Ytdddbjaggfaofaa.GM
