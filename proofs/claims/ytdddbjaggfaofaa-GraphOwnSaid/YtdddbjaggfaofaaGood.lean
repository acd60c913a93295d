/- What graphs' functions give of graphs that are none, and of others: contracts for the statements; every part stands in the order. -/
import Derived.Test.YtdddbjaggfaofaaHas
import Derived.Test.YtdddbjaggfaofaaGp
import Derived.Test.YtdddbjaggfaofaaClsC
namespace Go.Proofs.Ytdddbjaggfaofaa.Mem
open Go.RowKit Go.Proofs.Ytdddbjaggfaofaa.GM Go.Proofs.YtdddbjaggfaofaaW.PrintWords
set_option linter.unusedVariables false

/-- Nothing, and an error. -/
def Refused (w : World) (e : Ending) (w' : World) : Prop := e = .returned (.tuple #[.slice none 0 0, .int .i64 1]) ∧ Below w.heap.size w w'

def ReachGood (w : World) (n a : Nat) (E : List (Int × Int)) (e : Ending) (w' : World) : Prop :=
  ∃ A c xs, e = .returned (.tuple #[.slice A xs.length c, .int .i64 0]) ∧ OwnN w' w.heap.size (.slice A xs.length c) xs ∧ Rising xs ∧ (∀ x, x ∈ xs ↔ Rch E a x) ∧ (∀ x ∈ xs, x < n) ∧ Below w.heap.size w w'

theorem rch_lt {n a x : Nat} {E : List (Int × Int)} (hE : ∀ e ∈ E, EOk n e) (ha : a < n) (h : Rch E a x) : x < n := by
  cases h with
  | refl => exact ha
  | step _ hz => have := (hE _ hz).2.2.2; simp only at this; omega

theorem reach_bad (n a : Int) (E : List (Int × Int)) (A : Option Addr) (c : Nat) (w : World) (hr : kE.C w A E.length E) (hE : E.length ≤ 8796093022208) (h : ¬ (AllOk n E ∧ 0 ≤ a ∧ a < n)) :
    Calls Try.prog 22 #[.int .i64 n, .slice A E.length c, .int .i64 a] w fun e w' => Refused w e w' :=
  (reach_calls n a E A c w hr hE).mono fun e w' hp => by
    rcases hp.2 with ⟨_, rfl⟩ | ⟨g1, g2, g3, _⟩
    · exact ⟨rfl, hp.1⟩
    · exact absurd ⟨g1, g2, g3⟩ h

theorem reach_good (n a : Nat) (E : List (Int × Int)) (A : Option Addr) (c : Nat) (w : World) (hr : kE.C w A E.length E) (hE : E.length ≤ 8796093022208) (h : AllOk n E) (ha : a < n) :
    Calls Try.prog 22 #[.int .i64 n, .slice A E.length c, .int .i64 a] w fun e w' => ReachGood w n a E e w' :=
  (reach_calls n a E A c w hr hE).mono fun e w' hp => by
    rcases hp.2 with ⟨b1, rfl⟩ | ⟨g1, g2, g3, v, ys, R, rfl, ho, hin, hri, hmem⟩
    · exact absurd ⟨h, by omega, by omega⟩ b1
    · obtain ⟨A', c', rfl⟩ := own_slice ho
      have hm : ∀ x, x ∈ ys ↔ Rch E a x := fun x => by rw [hmem]; exact ⟨Rch.of_rr (fun p q hq => (hin.2 p q).1 hq), Rch.to_rr (fun p q hq => (hin.2 p q).2 hq)⟩
      exact ⟨A', c', ys, rfl, ho, hri, hm, fun x hx => rch_lt h.2.2 ha ((hm x).1 hx), hp.1⟩

theorem gparts_bad (n : Int) (E : List (Int × Int)) (A : Option Addr) (c : Nat) (w : World) (hr : kE.C w A E.length E) (hE : E.length ≤ 8796093022200) (h : ¬ AllOk n E) :
    Calls Try.prog 28 #[.int .i64 n, .slice A E.length c] w fun e w' => Refused w e w' :=
  (gparts_calls n E A c w hr hE).mono fun e w' hp => by
    rcases hp.2 with ⟨_, rfl⟩ | ⟨g1, m, v, vals, D, rfl, g2, _⟩
    · exact ⟨rfl, hp.1⟩
    · exact absurd ⟨by omega, by omega, g1⟩ h

def PartsGood (w : World) (n : Nat) (E : List (Int × Int)) (e : Ending) (w' : World) : Prop :=
  ∃ A c vals D, e = .returned (.tuple #[.slice A D.length c, .int .i64 0]) ∧ OwnRows w' w.heap.size (.slice A D.length c) vals (D.map (pof E n)) ∧ Full (Hd E n) (Nb E n) D ∧ D.length ≤ n ∧ Below w.heap.size w w'

theorem gparts_good (n : Nat) (E : List (Int × Int)) (A : Option Addr) (c : Nat) (w : World) (hr : kE.C w A E.length E) (hE : E.length ≤ 8796093022200) (h : AllOk n E) :
    Calls Try.prog 28 #[.int .i64 n, .slice A E.length c] w fun e w' => PartsGood w n E e w' :=
  (gparts_calls n E A c w hr hE).mono fun e w' hp => by
    rcases hp.2 with ⟨b1, rfl⟩ | ⟨g1, m, v, vals, D, hm, g2, rfl, ho, hf⟩
    · exact absurd h b1
    · obtain rfl : n = m := by omega
      obtain ⟨A', c', rfl⟩ := own_slice ho.outer
      rw [List.length_map] at ho ⊢
      exact ⟨A', c', vals, D, rfl, ho, hf, hf.1.length_le (fun x hx => hx.1), hp.1⟩

theorem right_bad (n : Int) (E : List (Int × Int)) (A : Option Addr) (c : Nat) (w : World) (hr : kE.C w A E.length E) (hE : E.length ≤ 8796093022208) (h : ¬ AllOk n E) :
    Calls Try.prog 31 #[.int .i64 n, .slice A E.length c] w fun e w' => e = .returned (.bool false) ∧ Below w.heap.size w w' :=
  (right_calls n E A c w hr hE).mono fun e w' hp => by
    rcases hp.2 with ⟨g, _⟩ | ⟨_, rfl⟩
    · exact absurd g h
    · exact ⟨rfl, hp.1⟩
theorem right_good (n : Int) (E : List (Int × Int)) (A : Option Addr) (c : Nat) (w : World) (hr : kE.C w A E.length E) (hE : E.length ≤ 8796093022208) (h : AllOk n E) :
    Calls Try.prog 31 #[.int .i64 n, .slice A E.length c] w fun e w' => e = .returned (.bool true) ∧ Below w.heap.size w w' :=
  (right_calls n E A c w hr hE).mono fun e w' hp => by
    rcases hp.2 with ⟨_, rfl⟩ | ⟨g, _⟩
    · exact ⟨rfl, hp.1⟩
    · exact absurd h g

theorem OwnRows.row {w : World} {base m c : Nat} {A : Option Addr} {vals : List Value} {R : List (List Nat)} (h : OwnRows w base (.slice A m c) vals R) {i : Nat} (hi : i < R.length) :
    ∃ g x, A = some ⟨g, 0, none⟩ ∧ vals[i]? = some x ∧ w.cell? ⟨g, i, none⟩ = some x ∧ OwnN w base x (nb R i) ∧ g < w.heap.size := by
  obtain ⟨g, cap, x, hv, h1, h2, -, h3, -, h4⟩ := h.form hi
  injection hv with hv
  exact ⟨g, x, hv, h1, h2, h3, h4⟩
theorem nb_map {f : Nat → List Nat} {D : List Nat} {i d : Nat} (h : D[i]? = some d) : nb (D.map f) i = f d := by
  unfold nb
  rw [List.getD_eq_getElem?_getD, List.getElem?_map, h]; rfl

/-! ### every part stands in the order -/
theorem countP_lt' {l : List Nat} {p q : Nat → Bool} (h : ∀ x ∈ l, p x = true → q x = true) {a : Nat} (ha : a ∈ l) (hq : q a = true) (hp : p a = false) : l.countP p < l.countP q := by
  induction l with
  | nil => cases ha
  | cons b l ih =>
    rw [List.countP_cons, List.countP_cons]
    have hle : l.countP p ≤ l.countP q := List.countP_mono_left (fun x hx => h x (List.mem_cons_of_mem _ hx))
    rcases List.mem_cons.1 ha with e | ha
    · subst e
      rw [hp, hq, if_neg (by simp), if_pos rfl]
      omega
    · have := ih (fun x hx => h x (List.mem_cons_of_mem _ hx)) ha
      have hb := h b List.mem_cons_self
      cases hpb : p b with
      | true =>
        rw [hb hpb, if_pos rfl]
        omega
      | false =>
        rw [if_neg (by simp)]
        omega

open Classical in
noncomputable def rcount (E : List (Int × Int)) (n x : Nat) : Nat := (List.range n).countP (fun z => decide (Rch E x z))

theorem nb_rch {n : Nat} {E : List (Int × Int)} (hE : ∀ e ∈ E, EOk n e) {x y : Nat} (h : Nb E n x y) : Hd E n x ∧ Hd E n y ∧ Rch E x y ∧ ¬ Rch E y x := by
  obtain ⟨a, b, e1, hne, e, he, rfl, rfl⟩ := btw_mem h
  obtain ⟨o1, o2, o3, o4⟩ := hE e he
  simp only [Prod.mk.injEq, Int.natCast_inj] at e1
  obtain ⟨rfl, rfl⟩ := e1
  have l1 : e.1.toNat < n := by omega
  have l2 : e.2.toNat < n := by omega
  have he' : (((e.1.toNat : Nat) : Int), ((e.2.toNat : Nat) : Int)) ∈ E := by rw [Int.toNat_of_nonneg o1, Int.toNat_of_nonneg o3]; exact he
  have b1 := (lo_mem (E := E) l1).2
  have b2 := (lo_mem (E := E) l2).2
  have hst : Rch E e.1.toNat e.2.toNat := .step (.refl _) he'
  refine ⟨⟨(lo_mem l1).1, lo_lo l1⟩, ⟨(lo_mem l2).1, lo_lo l2⟩, b1.2.trans (hst.trans b2.1), fun hb => hne ?_⟩
  exact (lo_eq l1 l2).2 ⟨hst, b2.1.trans (hb.trans b1.2)⟩

open Classical in
theorem full_all {n : Nat} {E : List (Int × Int)} (hE : ∀ e ∈ E, EOk n e) {D : List Nat} (h : Full (Hd E n) (Nb E n) D) : ∀ x, Hd E n x → x ∈ D := by
  have key : ∀ m x, rcount E n x ≤ m → Hd E n x → x ∈ D := by
    intro m
    induction m with
    | zero =>
      intro x hm hx
      have : 0 < rcount E n x := by
        unfold rcount
        rw [List.countP_pos_iff]
        exact ⟨x, List.mem_range.2 hx.1, by simpa using Rch.refl x⟩
      omega
    | succ m ih =>
      intro x hm hx
      refine Classical.byContradiction fun hxD => h.2 x ⟨hx, hxD, fun y hy => ?_⟩
      obtain ⟨-, h2, h3, h4⟩ := nb_rch hE hy
      refine ih y ?_ h2
      have : rcount E n y < rcount E n x := by
        unfold rcount
        exact countP_lt' (a := x) (fun z _ hz => by
          have hz' := of_decide_eq_true hz
          exact decide_eq_true (h3.trans hz')) (List.mem_range.2 hx.1) (by simpa using Rch.refl x) (by simpa using h4)
      omega
  exact fun x hx => key _ x (Nat.le_refl _) hx

end Go.Proofs.Ytdddbjaggfaofaa.Mem
