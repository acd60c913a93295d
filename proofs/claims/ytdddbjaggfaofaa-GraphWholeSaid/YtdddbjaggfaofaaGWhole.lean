/- Plain lemmas: orders, cycles and parts hang together. No Go and no memory. -/
import Derived.Test.YtdddbjaggfaofaaPl
import Derived.Test.YtdddbjaggfaofaaGood
namespace Go.Proofs.Ytdddbjaggfaofaa.Mem
open Go.Proofs.Ytdddbjaggfaofaa.GM
set_option linter.unusedVariables false

theorem mem_take_one {α : Type} {l : List α} {k : Nat} {x y : α} (hx : l[k]? = some x) : y ∈ l.take (k + 1) ↔ y ∈ l.take k ∨ y = x := by
  rw [List.take_add_one, hx, List.mem_append]
  simp

/-! ### the parts, one behind the other -/
/-- All things, part by part. -/
noncomputable def fl (E : List (Int × Int)) (n : Nat) (D : List Nat) : List Nat := (D.map (pof E n)).flatten
theorem fl_append {E : List (Int × Int)} {n : Nat} {D F : List Nat} : fl E n (D ++ F) = fl E n D ++ fl E n F := by unfold fl; rw [List.map_append, List.flatten_append]
theorem fl_one {E : List (Int × Int)} {n d : Nat} : fl E n [d] = pof E n d := by unfold fl; simp
theorem fl_step {E : List (Int × Int)} {n i d : Nat} {D : List Nat} (h : D[i]? = some d) : fl E n (D.take (i + 1)) = fl E n (D.take i) ++ pof E n d := by
  rw [List.take_add_one, h, fl_append]
  congr 1
  exact fl_one
theorem fl_mem {E : List (Int × Int)} {n x : Nat} {D : List Nat} : x ∈ fl E n D ↔ ∃ d ∈ D, x ∈ pof E n d := by
  unfold fl
  rw [List.mem_flatten]
  constructor
  · rintro ⟨l, hl, hx⟩
    obtain ⟨d, hd, rfl⟩ := List.mem_map.1 hl
    exact ⟨d, hd, hx⟩
  · rintro ⟨d, hd, hx⟩
    exact ⟨_, List.mem_map.2 ⟨d, hd, rfl⟩, hx⟩
theorem hd_part {E : List (Int × Int)} {n d x : Nat} (hd : Hd E n d) : x ∈ pof E n d ↔ x < n ∧ lo E n x = d := by
  rw [part_mem]
  constructor
  · rintro ⟨h1, h2⟩
    exact ⟨h1, by rw [← (lo_eq hd.1 h1).2 h2]; exact hd.2⟩
  · rintro ⟨h1, h2⟩
    exact ⟨h1, by rw [← h2]; exact (lo_mem h1).2.symm⟩
theorem hd_self {E : List (Int × Int)} {n d : Nat} (hd : Hd E n d) : d ∈ pof E n d := part_mem.2 ⟨hd.1, .refl d⟩
theorem hd_first {E : List (Int × Int)} {n d : Nat} (hd : Hd E n d) : pa (pof E n d) 0 = d := hd.2

theorem fl_nodup {E : List (Int × Int)} {n : Nat} {D : List Nat} (hD : ∀ d ∈ D, Hd E n d) (hn : D.Nodup) : (fl E n D).Nodup := by
  induction D with
  | nil => exact List.nodup_nil
  | cons d D ih =>
    rw [show d :: D = [d] ++ D from rfl, fl_append, fl_one, List.nodup_append]
    obtain ⟨h1, h2⟩ := List.nodup_cons.1 hn
    refine ⟨(part_rising E n d).imp (fun h => by omega), ih (fun x hx => hD x (List.mem_cons_of_mem _ hx)) h2, fun x hx y hy e => ?_⟩
    subst e
    obtain ⟨f, hf, hxf⟩ := fl_mem.1 hy
    have e1 := ((hd_part (hD d List.mem_cons_self)).1 hx).2
    have e2 := ((hd_part (hD f (List.mem_cons_of_mem _ hf))).1 hxf).2
    exact h1 (by rw [← e1, e2]; exact hf)
theorem fl_lt {E : List (Int × Int)} {n : Nat} {D : List Nat} : ∀ x ∈ fl E n D, x < n := fun x hx => by
  obtain ⟨d, _, h⟩ := fl_mem.1 hx
  exact (part_mem.1 h).1

section
variable {n : Nat} {E : List (Int × Int)} {D : List Nat}
theorem fl_all (hE : ∀ e ∈ E, EOk n e) (hf : Full (Hd E n) (Nb E n) D) {x : Nat} (hx : x < n) : x ∈ fl E n D :=
  fl_mem.2 ⟨lo E n x, full_all hE hf _ ⟨(lo_mem hx).1, lo_lo hx⟩, part_mem.2 ⟨hx, (lo_mem hx).2.symm⟩⟩
theorem fl_length (hE : ∀ e ∈ E, EOk n e) (hf : Full (Hd E n) (Nb E n) D) : (fl E n D).length = n :=
  length_all (fl_nodup hf.1.mem hf.1.nodup) (fun x => ⟨fl_lt x, fl_all hE hf⟩)

/-- I tells in which part each thing is. -/
def InP (E : List (Int × Int)) (n : Nat) (D I : List Nat) : Prop := ∀ i d, D[i]? = some d → ∀ x ∈ pof E n d, pa I x = i

theorem inp_at (hE : ∀ e ∈ E, EOk n e) (hf : Full (Hd E n) (Nb E n) D) {I : List Nat} (hI : InP E n D I) {x : Nat} (hx : x < n) : ∃ d, D[pa I x]? = some d ∧ lo E n x = d := by
  obtain ⟨i, hi, e⟩ := List.mem_iff_getElem.1 (full_all hE hf (lo E n x) ⟨(lo_mem hx).1, lo_lo hx⟩)
  have h1 : D[i]? = some (lo E n x) := by rw [List.getElem?_eq_getElem hi, e]
  have h2 := hI i _ h1 x (part_mem.2 ⟨hx, (lo_mem hx).2.symm⟩)
  exact ⟨_, by rw [h2]; exact h1, rfl⟩
theorem inp_lt (hE : ∀ e ∈ E, EOk n e) (hf : Full (Hd E n) (Nb E n) D) {I : List Nat} (hI : InP E n D I) {x : Nat} (hx : x < n) : pa I x < D.length := by
  obtain ⟨d, h, _⟩ := inp_at hE hf hI hx
  exact (List.getElem?_eq_some_iff.1 h).1

/-- What stands in an earlier part stands ahead. -/
theorem pos_lt (hE : ∀ e ∈ E, EOk n e) (hf : Full (Hd E n) (Nb E n) D) {I N : List Nat} (hI : InP E n D I) (hN : Pos (fl E n D) N) {x y : Nat} (hx : x < n) (hy : y < n) (hlt : pa I y < pa I x) : pa N y < pa N x := by
  obtain ⟨dx, hdx, ex⟩ := inp_at hE hf hI hx
  obtain ⟨dy, hdy, ey⟩ := inp_at hE hf hI hy
  have hsplit : fl E n D = fl E n (D.take (pa I x)) ++ fl E n (D.drop (pa I x)) := by rw [← fl_append, List.take_append_drop]
  have hxm : x ∈ fl E n (D.drop (pa I x)) := fl_mem.2 ⟨dx, by
    rw [List.mem_iff_getElem?]
    exact ⟨0, by rw [List.getElem?_drop]; exact hdx⟩, by rw [← ex]; exact part_mem.2 ⟨hx, (lo_mem hx).2.symm⟩⟩
  have hym : y ∈ fl E n (D.take (pa I x)) := fl_mem.2 ⟨dy, by
    rw [List.mem_iff_getElem?]
    exact ⟨pa I y, by rw [List.getElem?_take, if_pos hlt]; exact hdy⟩, by rw [← ey]; exact part_mem.2 ⟨hy, (lo_mem hy).2.symm⟩⟩
  obtain ⟨i, hi, e1⟩ := List.mem_iff_getElem.1 hxm
  obtain ⟨j, hj, e2⟩ := List.mem_iff_getElem.1 hym
  have p1 := hN ((fl E n (D.take (pa I x))).length + i) x (by rw [hsplit, List.getElem?_append_right (by omega), Nat.add_sub_cancel_left, List.getElem?_eq_getElem hi, e1])
  have p2 := hN j y (by rw [hsplit, List.getElem?_append_left hj, List.getElem?_eq_getElem hj, e2])
  omega

/-- An edge leads within a part or to an earlier one. -/
theorem inp_edge (hE : ∀ e ∈ E, EOk n e) (hf : Full (Hd E n) (Nb E n) D) {I : List Nat} (hI : InP E n D I) {x y : Nat} (he : ((x : Int), (y : Int)) ∈ E) : pa I y ≤ pa I x := by
  have ho := hE _ he
  unfold EOk at ho
  simp only at ho
  have hx : x < n := by omega
  have hy : y < n := by omega
  obtain ⟨dx, hdx, ex⟩ := inp_at hE hf hI hx
  obtain ⟨dy, hdy, ey⟩ := inp_at hE hf hI hy
  by_cases e : lo E n x = lo E n y
  · have h1 := (hI _ _ hdx y (by rw [← ex, e]; exact part_mem.2 ⟨hy, (lo_mem hy).2.symm⟩))
    omega
  · have hnb : Nb E n (lo E n x) (lo E n y) := by
      unfold Nb btw
      rw [List.mem_filterMap]
      refine ⟨_, he, ?_⟩
      simp only [Int.toNat_natCast]
      rw [if_neg e]
    obtain ⟨hi, ei⟩ := List.getElem?_eq_some_iff.1 hdx
    have h1 := hf.1.next hi
    have h2 := h1.1.2.2 (lo E n y) (by rw [ei, ← ex]; exact hnb)
    obtain ⟨j, hj, e2⟩ := List.mem_iff_getElem.1 h2
    rw [List.length_take] at hj
    rw [List.getElem_take] at e2
    have h3 := hI j (lo E n y) (by rw [List.getElem?_eq_getElem (by omega), e2]) y (part_mem.2 ⟨hy, (lo_mem hy).2.symm⟩)
    omega

/-! ### nothing on a cycle -/
def Sing (E : List (Int × Int)) (n : Nat) (D : List Nat) : Prop := ∀ d ∈ D, (pof E n d).length = 1
theorem fl_sing (h : Sing E n D) (hD : ∀ d ∈ D, Hd E n d) : fl E n D = D := by
  induction D with
  | nil => rfl
  | cons d D ih =>
    rw [show d :: D = [d] ++ D from rfl, fl_append, fl_one, ih (fun x hx => h x (List.mem_cons_of_mem _ hx)) (fun x hx => hD x (List.mem_cons_of_mem _ hx))]
    congr 1
    obtain ⟨z, hz⟩ := List.length_eq_one_iff.1 (h d List.mem_cons_self)
    have := hd_self (hD d List.mem_cons_self)
    rw [hz] at this ⊢
    rw [List.mem_singleton.1 this]
def Loopless (E : List (Int × Int)) : Prop := ∀ e ∈ E, e.1 ≠ e.2

theorem sing_lo (hE : ∀ e ∈ E, EOk n e) (hf : Full (Hd E n) (Nb E n) D) (h : Sing E n D) {x : Nat} (hx : x < n) : lo E n x = x := by
  have hm := full_all hE hf (lo E n x) ⟨(lo_mem hx).1, lo_lo hx⟩
  obtain ⟨z, hz⟩ := List.length_eq_one_iff.1 (h _ hm)
  have h1 : x ∈ pof E n (lo E n x) := part_mem.2 ⟨hx, (lo_mem hx).2.symm⟩
  have h2 := hd_self (E := E) (n := n) (d := lo E n x) ⟨(lo_mem hx).1, lo_lo hx⟩
  rw [hz] at h1 h2
  rw [List.mem_singleton.1 h2, List.mem_singleton.1 h1]
theorem sing_full (hE : ∀ e ∈ E, EOk n e) (hf : Full (Hd E n) (Nb E n) D) (h : Sing E n D) (hl : Loopless E) : Full (fun x => x < n) (NE E) D :=
  hf.congr (fun x => ⟨fun hx => hx.1, fun hx => ⟨hx, sing_lo hE hf h hx⟩⟩) (fun x y => by
    constructor
    · intro hn
      obtain ⟨a, b, e1, hne, e, he, rfl, rfl⟩ := btw_mem hn
      obtain ⟨o1, o2, o3, o4⟩ := hE e he
      simp only [Prod.mk.injEq, Int.natCast_inj] at e1
      obtain ⟨rfl, rfl⟩ := e1
      rw [sing_lo hE hf h (by omega), sing_lo hE hf h (by omega)]
      unfold NE
      rw [Int.toNat_of_nonneg o1, Int.toNat_of_nonneg o3]
      exact he
    · intro hn
      have ho := hE _ hn
      unfold EOk at ho
      simp only at ho
      unfold Nb btw
      rw [List.mem_filterMap]
      refine ⟨_, hn, ?_⟩
      simp only [Int.toNat_natCast]
      rw [sing_lo hE hf h (by omega), sing_lo hE hf h (by omega)]
      have := hl _ hn
      simp only at this
      rw [if_neg (by omega)])

/-! ### something on a cycle -/
theorem ne_lt (hE : ∀ e ∈ E, EOk n e) : ∀ x y : Nat, NE E x y → y < n := fun x y hy => by
  have ho := hE _ hy
  unfold EOk at ho
  simp only at ho
  omega
theorem loop_onc (hE : ∀ e ∈ E, EOk n e) (hl : ¬ Loopless E) : ∃ x, x < n ∧ OnC E x := by
  unfold Loopless at hl
  simp only [Classical.not_forall] at hl
  obtain ⟨e, he, h1⟩ := hl
  obtain ⟨o1, o2, o3, o4⟩ := hE e he
  have h2 : e.1 = e.2 := Classical.not_not.1 h1
  have h3 : (((e.1.toNat : Nat) : Int), ((e.1.toNat : Nat) : Int)) ∈ E := by
    rw [Int.toNat_of_nonneg o1, show (e.1, e.1) = e from Prod.ext rfl h2]
    exact he
  exact ⟨e.1.toNat, by omega, e.1.toNat, h3, .refl _⟩
theorem sing_onc (hE : ∀ e ∈ E, EOk n e) (hD : ∀ d ∈ D, Hd E n d) (h : ¬ Sing E n D) : ∃ x, x < n ∧ OnC E x := by
  unfold Sing at h
  simp only [Classical.not_forall] at h
  obtain ⟨d, hd, h1⟩ := h
  have hl : 0 < (pof E n d).length := List.length_pos_of_mem (hd_self (hD d hd))
  exact ⟨d, (hD d hd).1, (onc_iff (ne_lt hE) (hD d hd).1).2 (.inl (by omega))⟩
theorem onc_short {D0 : List Nat} (hf : Full (fun x => x < n) (NE E) D0) (hx : ∃ x, x < n ∧ OnC E x) : D0.length ≠ n := fun hl => by
  obtain ⟨x, h1, h2⟩ := hx
  exact ln_onc hf.1 x (perm_mem hf.1.nodup hf.1.mem hl x h1) h2

theorem pth_zero {x y : Nat} (h : PthE E x y 0) : y = x := by cases h; rfl
theorem pth_to {x y d : Nat} (h : PthE E x y d) : Rch E y x := h.rch
/-- What is told of a cycle. -/
theorem cyc_facts {C : List Nat} (h : CycS E n C) : ∃ x, FirstC E n x ∧ C[0]? = some x ∧ (∀ i u : Nat, C[i]? = some u → ∃ v : Nat, C[(i + 1) % C.length]? = some v ∧ ((u : Int), (v : Int)) ∈ E) ∧ ∀ i u : Nat, C[i]? = some u → Both E u x := by
  obtain ⟨x, b, a, f, h1, h2, h3, h4⟩ := h
  obtain ⟨m, hm, hk⟩ := h4.bk
  have hstep : ∀ i u : Nat, C[i]? = some u → ∃ v : Nat, C[(i + 1) % C.length]? = some v ∧ ((u : Int), (v : Int)) ∈ E := by
    intro i u hu
    have hi : i < C.length := (List.getElem?_eq_some_iff.1 hu).1
    by_cases hlast : i + 1 < C.length
    · obtain ⟨u', v, hu', hv, hl⟩ := h4.ok i hlast
      rw [hu] at hu'
      cases hu'
      exact ⟨v, by rw [Nat.mod_eq_of_lt hlast]; exact hv, hl.1.1⟩
    · have e1 : i + 1 = C.length := by omega
      refine ⟨x, by rw [e1, Nat.mod_self]; exact h4.first, ?_⟩
      by_cases hm0 : m = 0
      · subst hm0
        have hi0 : i = 0 := by omega
        subst hi0
        rw [h4.first] at hu
        cases hu
        obtain ⟨y, hy, hfy⟩ := h3.1
        have hb : b = 0 := by omega
        rw [hb] at hfy
        have := pth_zero ((h2 y 0).1 hfy).1
        rw [this] at hy
        exact hy
      · obtain ⟨u', v, hu', hv, hl⟩ := h4.ok (i - 1) (by omega)
        rw [show i - 1 + 1 = i from by omega, hu] at hv
        cases hv
        have hb1 : b - (i - 1) = 0 + 1 := by omega
        rw [hb1] at hl
        obtain ⟨z, hz, hfz⟩ := (h2.next hl.1.2).1
        rw [pth_zero ((h2 z 0).1 hfz).1] at hz
        exact hz
  have hto : ∀ i u : Nat, C[i]? = some u → Rch E u x := by
    intro i u hu
    by_cases hi0 : i = 0
    · subst hi0
      rw [h4.first] at hu
      cases hu
      exact .refl _
    · obtain ⟨hi, _⟩ := List.getElem?_eq_some_iff.1 hu
      obtain ⟨u', v, hu', hv, hl⟩ := h4.ok (i - 1) (by omega)
      rw [show i - 1 + 1 = i from by omega, hu] at hv
      cases hv
      exact ((h2 u _).1 hl.1.2).1.rch
  have hfrom : ∀ i u : Nat, C[i]? = some u → Rch E x u := by
    intro i
    induction i with
    | zero =>
      intro u hu
      rw [h4.first] at hu
      cases hu
      exact .refl _
    | succ i ih =>
      intro u hu
      obtain ⟨hi, _⟩ := List.getElem?_eq_some_iff.1 hu
      obtain ⟨u', v, hu', hv, hl⟩ := h4.ok i hi
      rw [hu] at hv
      cases hv
      exact .step (ih u' hu') hl.1.1
  exact ⟨x, h1, h4.first, hstep, fun i u hu => ⟨hto i u hu, hfrom i u hu⟩⟩
end

end Go.Proofs.Ytdddbjaggfaofaa.Mem
