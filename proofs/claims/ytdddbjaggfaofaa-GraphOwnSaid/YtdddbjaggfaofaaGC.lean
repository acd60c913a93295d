/- Plain lemmas on cycles: the lowest thing on one, the shortest way back. No Go and no memory. -/
import Derived.Test.YtdddbjaggfaofaaGMs
namespace Go.Proofs.Ytdddbjaggfaofaa.GM
set_option linter.unusedVariables false

/-- A way of d steps along edges, from y to x. -/
inductive PthE (E : List (Int × Int)) (x : Nat) : Nat → Nat → Prop
  | nil : PthE E x x 0
  | step {y z d : Nat} : PthE E x y d → ((z : Int), (y : Int)) ∈ E → PthE E x z (d + 1)
def DstE (E : List (Int × Int)) (x y d : Nat) : Prop := PthE E x y d ∧ ∀ d', PthE E x y d' → d ≤ d'

theorem pthE_iff {E : List (Int × Int)} {Us : List (List Nat)} (h : ∀ x y : Nat, y ∈ nb Us x ↔ ((y : Int), (x : Int)) ∈ E) {x y d : Nat} : Pth Us x y d ↔ PthE E x y d := by
  constructor
  · intro k
    induction k with
    | nil => exact .nil
    | step _ hz ih => exact .step ih ((h _ _).1 hz)
  · intro k
    induction k with
    | nil => exact .nil
    | step _ hz ih => exact .step ih ((h _ _).2 hz)
theorem dstE_iff {E : List (Int × Int)} {Us : List (List Nat)} (h : ∀ x y : Nat, y ∈ nb Us x ↔ ((y : Int), (x : Int)) ∈ E) {x y d : Nat} : Dst Us x y d ↔ DstE E x y d := by
  unfold Dst DstE
  rw [pthE_iff h]
  simp only [pthE_iff h]
theorem DstE.unique {E : List (Int × Int)} {x y d d' : Nat} (h : DstE E x y d) (k : DstE E x y d') : d = d' := Nat.le_antisymm (h.2 _ k.1) (k.2 _ h.1)

/-- f tells how far away from x each thing is. -/
def TellsE (E : List (Int × Int)) (x : Nat) (f : Nat → Option Nat) : Prop := ∀ y d, f y = some d ↔ DstE E x y d
theorem TellsE.of {E : List (Int × Int)} {Us : List (List Nat)} {x : Nat} {f : Nat → Option Nat} (h : ∀ x y : Nat, y ∈ nb Us x ↔ ((y : Int), (x : Int)) ∈ E) (k : Tells2 Us x f) : TellsE E x f := fun y d => (k y d).trans (dstE_iff h)

theorem PthE.rch {E : List (Int × Int)} {x y d : Nat} (h : PthE E x y d) : Rch E y x := by
  induction h with
  | nil => exact .refl _
  | step _ hz ih => exact Rch.trans (.step (.refl _) hz) ih
theorem Rch.pthE {E : List (Int × Int)} {x y : Nat} (h : Rch E y x) : ∃ d, PthE E x y d := by
  have key : ∀ {a b : Nat}, Rch E a b → ∀ {c d : Nat}, PthE E c b d → ∃ d', PthE E c a d' := by
    intro a b hab
    induction hab with
    | refl => exact fun hp => ⟨_, hp⟩
    | step _ hz ih => exact fun hp => ih (.step hp hz)
  exact key h (c := x) .nil
theorem PthE.dst {E : List (Int × Int)} {x y d : Nat} (h : PthE E x y d) : ∃ e, DstE E x y e := by
  induction d using Nat.strongRecOn with
  | ind d ih =>
    by_cases c : ∃ e, e < d ∧ PthE E x y e
    · obtain ⟨e, he, hp⟩ := c
      exact ih e he hp
    · exact ⟨d, h, fun d' hd' => by
        rcases Nat.lt_or_ge d' d with h1 | h1
        · exact absurd ⟨d', h1, hd'⟩ c
        · exact h1⟩
theorem TellsE.some_iff {E : List (Int × Int)} {x : Nat} {f : Nat → Option Nat} (h : TellsE E x f) (y : Nat) : (∃ d, f y = some d) ↔ Rch E y x := by
  constructor
  · rintro ⟨d, hd⟩
    exact ((h y d).1 hd).1.rch
  · intro hr
    obtain ⟨d, hd⟩ := hr.pthE
    obtain ⟨e, he⟩ := hd.dst
    exact ⟨e, (h y e).2 he⟩
theorem TellsE.unique {E : List (Int × Int)} {x : Nat} {f g : Nat → Option Nat} (h : TellsE E x f) (k : TellsE E x g) : f = g := by
  funext y
  cases e : f y with
  | some d => rw [(k y d).2 ((h y d).1 e)]
  | none =>
    cases e2 : g y with
    | none => rfl
    | some d => rw [(h y d).2 ((k y d).1 e2)] at e; cases e
/-- Who is d + 1 steps away needs one that is d steps away, and none nearer. -/
theorem TellsE.next {E : List (Int × Int)} {x : Nat} {f : Nat → Option Nat} (h : TellsE E x f) {y d : Nat} (hy : f y = some (d + 1)) : (∃ z : Nat, ((y : Int), (z : Int)) ∈ E ∧ f z = some d) ∧ ∀ (z e : Nat), ((y : Int), (z : Int)) ∈ E → f z = some e → d ≤ e := by
  have hd := (h y _).1 hy
  constructor
  · have h1 := hd.1
    cases h1 with
    | step hp hz =>
      rename_i z
      refine ⟨z, hz, (h z d).2 ⟨hp, fun d' hd' => ?_⟩⟩
      have := hd.2 _ (.step hd' hz)
      omega
  · intro z e hz he
    have := hd.2 _ (.step ((h z e).1 he).1 hz)
    omega
theorem TellsE.zero {E : List (Int × Int)} {x : Nat} {f : Nat → Option Nat} (h : TellsE E x f) : f x = some 0 := (h x 0).2 ⟨.nil, fun _ _ => Nat.zero_le _⟩

/-- On a cycle. -/
def OnC (E : List (Int × Int)) (x : Nat) : Prop := ∃ y : Nat, ((x : Int), (y : Int)) ∈ E ∧ Rch E y x
def FirstC (E : List (Int × Int)) (n x : Nat) : Prop := x < n ∧ OnC E x ∧ ∀ z, z < n → OnC E z → x ≤ z
theorem FirstC.unique {E : List (Int × Int)} {n x y : Nat} (h : FirstC E n x) (k : FirstC E n y) : x = y := Nat.le_antisymm (h.2.2 y k.1 k.2.1) (k.2.2 x h.1 h.2.1)

/-- y is the lowest of those that 'at' needs that are k away. -/
def Lw (E : List (Int × Int)) (f : Nat → Option Nat) (a k y : Nat) : Prop := (((a : Int), (y : Int)) ∈ E ∧ f y = some k) ∧ ∀ z : Nat, ((a : Int), (z : Int)) ∈ E → f z = some k → y ≤ z
theorem Lw.unique {E : List (Int × Int)} {f : Nat → Option Nat} {a k y z : Nat} (h : Lw E f a k y) (h' : Lw E f a k z) : y = z := Nat.le_antisymm (h.2 z h'.1.1 h'.1.2) (h'.2 y h.1.1 h.1.2)

/-- The way back, told from its end: out stands, a is its last, k steps are to go. -/
inductive Bk (E : List (Int × Int)) (f : Nat → Option Nat) (x : Nat) : Nat → Nat → List Nat → Prop
  | nil (k : Nat) : Bk E f x x k [x]
  | step {a k y : Nat} {l : List Nat} : Bk E f x a (k + 1) l → Lw E f a (k + 1) y → Bk E f x y k (l ++ [y])

/-- The least distance back to x from what x needs. -/
def Best (E : List (Int × Int)) (f : Nat → Option Nat) (x b : Nat) : Prop := (∃ y : Nat, ((x : Int), (y : Int)) ∈ E ∧ f y = some b) ∧ ∀ (y d : Nat), ((x : Int), (y : Int)) ∈ E → f y = some d → b ≤ d
theorem Best.unique {E : List (Int × Int)} {f : Nat → Option Nat} {x b c : Nat} (h : Best E f x b) (k : Best E f x c) : b = c := by
  obtain ⟨⟨y, h1, h2⟩, h3⟩ := h
  obtain ⟨⟨z, k1, k2⟩, k3⟩ := k
  exact Nat.le_antisymm (h3 z c k1 k2) (k3 y b h1 h2)

/-- From best on, the ways back are one. -/
structure WayB (E : List (Int × Int)) (f : Nat → Option Nat) (x b a k : Nat) (l : List Nat) : Prop where
  bk : ∃ m, l.length = m + 1 ∧ m + k = b
  ok : ∀ i, i + 1 < l.length → ∃ u v, l[i]? = some u ∧ l[i + 1]? = some v ∧ Lw E f u (b - i) v
  first : l[0]? = some x
  last : l[l.length - 1]? = some a

theorem WayB.start {E : List (Int × Int)} {f : Nat → Option Nat} {x b : Nat} : WayB E f x b x b [x] := ⟨⟨0, rfl, by omega⟩, fun i hi => by simp at hi, rfl, rfl⟩
theorem WayB.step {E : List (Int × Int)} {f : Nat → Option Nat} {x b a k y : Nat} {l : List Nat} (h : WayB E f x b a (k + 1) l) (hy : Lw E f a (k + 1) y) : WayB E f x b y k (l ++ [y]) := by
  obtain ⟨m, hm, hk⟩ := h.bk
  have h1 := h.last
  rw [hm, Nat.add_sub_cancel] at h1
  refine ⟨⟨m + 1, by simp; omega, by omega⟩, fun i hi => ?_, ?_, ?_⟩
  · simp only [List.length_append, List.length_cons, List.length_nil] at hi
    by_cases e : i + 1 < l.length
    · obtain ⟨u, v, hu, hv, hl⟩ := h.ok i e
      exact ⟨u, v, by rw [List.getElem?_append_left (by omega)]; exact hu, by rw [List.getElem?_append_left e]; exact hv, hl⟩
    · have e2 : i = m := by omega
      subst e2
      refine ⟨a, y, by rw [List.getElem?_append_left (by omega)]; exact h1, ?_, ?_⟩
      · rw [List.getElem?_append_right (by omega), hm, Nat.sub_self]; rfl
      · have : b - i = k + 1 := by omega
        rw [this]; exact hy
  · rw [List.getElem?_append_left (by omega)]; exact h.first
  · rw [List.length_append, List.length_cons, List.length_nil, Nat.add_sub_cancel, List.getElem?_append_right (Nat.le_refl _), Nat.sub_self]; rfl
theorem WayB.unique {E : List (Int × Int)} {f : Nat → Option Nat} {x b a a' : Nat} {l l' : List Nat} (h : WayB E f x b a 0 l) (h' : WayB E f x b a' 0 l') : l = l' := by
  obtain ⟨m, hm, hk⟩ := h.bk
  obtain ⟨m', hm', hk'⟩ := h'.bk
  have key : ∀ i, i < l.length → l[i]? = l'[i]? := by
    intro i
    induction i with
    | zero => intro _; rw [h.first, h'.first]
    | succ i ih =>
      intro hi
      obtain ⟨u, v, hu, hv, hl⟩ := h.ok i hi
      obtain ⟨u', v', hu', hv', hl'⟩ := h'.ok i (by omega)
      have := ih (by omega)
      rw [hu, hu'] at this
      cases this
      rw [hv, hv', hl.unique hl']
  apply List.ext_getElem?
  intro i
  rcases Nat.lt_or_ge i l.length with c | c
  · exact key i c
  · rw [List.getElem?_eq_none c, List.getElem?_eq_none (by omega)]

/-- The cycle that is told. -/
def CycS (E : List (Int × Int)) (n : Nat) (C : List Nat) : Prop := ∃ (x b a : Nat) (f : Nat → Option Nat), FirstC E n x ∧ TellsE E x f ∧ Best E f x b ∧ WayB E f x b a 0 C
theorem CycS.unique {E : List (Int × Int)} {n : Nat} {C C' : List Nat} (h : CycS E n C) (k : CycS E n C') : C = C' := by
  obtain ⟨x, b, a, f, h1, h2, h3, h4⟩ := h
  obtain ⟨x', b', a', f', k1, k2, k3, k4⟩ := k
  have e := h1.unique k1
  subst e
  have e := h2.unique k2
  subst e
  have e := h3.unique k3
  subst e
  exact h4.unique k4

/-! ### a thing on a cycle, if the order is not whole -/
theorem countP_lt2 {l : List Nat} {p q : Nat → Bool} (h : ∀ x ∈ l, p x = true → q x = true) {a : Nat} (ha : a ∈ l) (hq : q a = true) (hp : p a = false) : l.countP p < l.countP q := by
  induction l with
  | nil => cases ha
  | cons b l ih =>
    rw [List.countP_cons, List.countP_cons]
    have hle : l.countP p ≤ l.countP q := List.countP_mono_left (fun x hx => h x (List.mem_cons_of_mem _ hx))
    rcases List.mem_cons.1 ha with e | ha
    · subst e
      rw [hp, hq, if_neg (by simp), if_pos rfl]
      omega
    · have := ih (fun x hx => h x (List.mem_cons_of_mem _ hx)) ha
      have hb := h b List.mem_cons_self
      cases hpb : p b with
      | true =>
        rw [hb hpb, if_pos rfl]
        omega
      | false =>
        rw [if_neg (by simp)]
        omega

open Classical in
theorem acyclic_all {n : Nat} {E : List (Int × Int)} (hE : ∀ x y : Nat, NE E x y → y < n) {D : List Nat} (h : Full (fun x => x < n) (NE E) D) (hno : ∀ x, x < n → ¬ OnC E x) : ∀ x, x < n → x ∈ D := by
  have key : ∀ m x, (List.range n).countP (fun z => decide (Rch E x z)) ≤ m → x < n → x ∈ D := by
    intro m
    induction m with
    | zero =>
      intro x hm hx
      have : 0 < (List.range n).countP (fun z => decide (Rch E x z)) := by
        rw [List.countP_pos_iff]
        exact ⟨x, List.mem_range.2 hx, by simpa using Rch.refl x⟩
      omega
    | succ m ih =>
      intro x hm hx
      refine Classical.byContradiction fun hxD => h.2 x ⟨hx, hxD, fun y hy => ?_⟩
      have hyn := hE x y hy
      refine ih y ?_ hyn
      have hxy : Rch E x y := .step (.refl _) hy
      have hyx : ¬ Rch E y x := fun hr => hno x hx ⟨y, hy, hr⟩
      have : (List.range n).countP (fun z => decide (Rch E y z)) < (List.range n).countP (fun z => decide (Rch E x z)) :=
        countP_lt2 (a := x) (fun z _ hz => decide_eq_true (hxy.trans (of_decide_eq_true hz))) (List.mem_range.2 hx) (by simpa using Rch.refl x) (by simpa using hyx)
      omega
  exact fun x hx => key _ x (Nat.le_refl _) hx

theorem length_all {n : Nat} {D : List Nat} (hn : D.Nodup) (h : ∀ x, x ∈ D ↔ x < n) : D.length = n := by
  have hp : D.Perm (List.range n) := (List.perm_ext_iff_of_nodup hn List.nodup_range).2 (fun x => by rw [h, List.mem_range])
  rw [hp.length_eq, List.length_range]

theorem first_exists {n : Nat} {E : List (Int × Int)} (hE : ∀ x y : Nat, NE E x y → y < n) {D : List Nat} (h : Full (fun x => x < n) (NE E) D) (hl : D.length ≠ n) : ∃ x, FirstC E n x := by
  have hex : ∃ x, x < n ∧ OnC E x := Classical.byContradiction fun hno => hl (length_all h.1.nodup (fun x => ⟨fun hx => h.1.mem x hx, fun hx => acyclic_all hE h (fun x hx hc => hno ⟨x, hx, hc⟩) x hx⟩))
  obtain ⟨x, hx⟩ := hex
  have key : ∀ m x, x < m → (x < n ∧ OnC E x) → ∃ y, FirstC E n y := by
    intro m
    induction m with
    | zero => intro x hx; omega
    | succ m ih =>
      intro x hxm hx
      by_cases c : ∃ z, z < x ∧ z < n ∧ OnC E z
      · obtain ⟨z, hz, hzn⟩ := c
        exact ih z (by omega) hzn
      · exact ⟨x, hx.1, hx.2, fun z hz hc => by
          rcases Nat.lt_or_ge z x with k | k
          · exact absurd ⟨z, k, hz, hc⟩ c
          · exact k⟩
  exact key (x + 1) x (by omega) hx

/-- On a cycle: in a part of several, or it needs itself. -/
theorem onc_iff {n : Nat} {E : List (Int × Int)} (hE : ∀ x y : Nat, NE E x y → y < n) {x : Nat} (hx : x < n) : OnC E x ↔ 1 < (pof E n x).length ∨ ((x : Int), (x : Int)) ∈ E := by
  constructor
  · rintro ⟨y, hy, hr⟩
    by_cases e : y = x
    · subst e; exact .inr hy
    · left
      have h1 : x ∈ pof E n x := part_mem.2 ⟨hx, Both.refl x⟩
      have h2 : y ∈ pof E n x := part_mem.2 ⟨hE x y hy, .step (.refl _) hy, hr⟩
      rcases Nat.lt_or_ge 1 (pof E n x).length with c | c
      · exact c
      · exfalso
        match hp : pof E n x, h1, h2 with
        | [], h1, _ => cases h1
        | [u], h1, h2 => exact e ((List.mem_singleton.1 h2).trans (List.mem_singleton.1 h1).symm)
        | u :: v :: l, _, _ => rw [hp] at c; simp at c
  · rintro (h | h)
    · have hr := part_rising E n x
      have h0 : pa (pof E n x) 0 ∈ pof E n x := by rw [pa_get (by omega)]; exact List.getElem_mem _
      have h1 : pa (pof E n x) 1 ∈ pof E n x := by rw [pa_get h]; exact List.getElem_mem _
      have hlt : pa (pof E n x) 0 < pa (pof E n x) 1 := by
        rw [pa_get h, pa_get (by omega)]
        exact List.pairwise_iff_getElem.1 hr 0 1 (by omega) h (by omega)
      obtain ⟨y, hne, hm⟩ : ∃ y, y ≠ x ∧ y ∈ pof E n x := by
        by_cases c : pa (pof E n x) 0 = x
        · exact ⟨_, by omega, h1⟩
        · exact ⟨_, c, h0⟩
      have hb := (part_mem.1 hm).2
      have key : ∀ {a b : Nat}, Rch E a b → a ≠ b → ∃ z : Nat, ((a : Int), (z : Int)) ∈ E ∧ Rch E z b := by
        intro a b hab
        induction hab with
        | refl => exact fun hne => absurd rfl hne
        | @step u v _ hz ih =>
          intro hne
          by_cases e : a = u
          · subst e; exact ⟨v, hz, .refl _⟩
          · obtain ⟨z, h1, h2⟩ := ih e
            exact ⟨z, h1, .step h2 hz⟩
      obtain ⟨z, hz, hzy⟩ := key hb.1 (fun e => hne e.symm)
      exact ⟨z, hz, hzy.trans hb.2⟩
    · exact ⟨x, h, .refl _⟩

end Go.Proofs.Ytdddbjaggfaofaa.GM
