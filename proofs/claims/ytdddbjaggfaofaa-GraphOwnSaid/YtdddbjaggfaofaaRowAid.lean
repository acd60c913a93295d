/- Lemmas for the rows of this seat: an argument that is a slice is read as a list; every argument reads behind the call as it read before. -/
import Derived.Test.YtdddbjaggfaofaaRows
import Derived.Test.YtdddbjaggfaofaaWWords
import Derived.WalkKit
import Derived.ProofKit
import Derived.OpenShut
import Derived.ChangeOld
import Derived.Below
import Derived.SizedLaws
import Derived.Deep.Slices
namespace Go.Proofs.Ytdddbjaggfaofaa.Aid
open Go.ChangeShapes Go.WideShapes Go.ChangeAt Go.RowKit Go.Proofs.YtdddbjaggfaofaaW.PrintWords
set_option linter.unusedVariables false

theorem own : ownKnob Try.prog.godebug = none := by kernel_rfl
theorem laidOut : laidOutB Try.prog = true := by kernel_rfl

theorem list1 {α : Type} {l : List α} (h : l.length = 1) : ∃ a, l = [a] := by
  match l, h with
  | [a], _ => exact ⟨a, rfl⟩
theorem list2 {α : Type} {l : List α} (h : l.length = 2) : ∃ a b, l = [a, b] := by
  match l, h with
  | [a, b], _ => exact ⟨a, b, rfl⟩
theorem list4 {α : Type} {l : List α} (h : l.length = 4) : ∃ a b c d, l = [a, b, c, d] := by
  match l, h with
  | [a, b, c, d], _ => exact ⟨a, b, c, d, rfl⟩
theorem array1 {α : Type} {l : Array α} (h : l.size = 1) : ∃ a, l = #[a] := by
  match l, h with
  | ⟨[a]⟩, _ => exact ⟨a, rfl⟩

section
variable {H : Type} {enc : TypeId × Value → H} {P : Program} {w : World} {base : Nat} {spare : Nat → Bool} {held : Bool}

/-- A slice that came in, read as a list by what its elements' cells say. -/
theorem open_reads {α : Type} [Inhabited α] {t e : TypeId} {s fuel : Nat} {cs : List Value} {x : DataW H × List MemPlace} (ht : P.underlying t = some (.slice e)) (hs : P.cellsOf e = s)
    (R : α → List Value → Prop) (hR : ∀ n cs y, cs.length = s → DataW.trod enc P w base spare held n e cs = some y → ∃ a, R a cs)
    (h : DataW.trod enc P w base spare held fuel t cs = some x) :
    ∃ (A : Option Addr) (cap : Nat) (l : List α), cs = [.slice A l.length cap] ∧ l.length ≤ cap ∧ cap ≤ maxLen ∧ ReadsRow R s w A l.length l ∧
      ((x.1 = .nil ∧ l = [] ∧ A = none ∧ cap = 0) ∨ ∃ els sp, x.1 = .slice els sp ∧ A ≠ none ∧ els.length = l.length ∧ (∀ a, A = some a → base ≤ a.block) ∧ (∀ a, A = some a → spare a.block = true → els.length + sp.length = cap)) := by
  rcases Go.Deep.open_slice ht h with ⟨rfl, rfl⟩ | ⟨a, len, cap, m, n, D, Pl, rfl, hb, hl, hm, hmm, rfl, hel⟩
  · exact ⟨none, 0, [], rfl, Nat.le_refl _, Nat.zero_le _, ⟨rfl, by simp, fun h => absurd h (by simp)⟩, .inl ⟨rfl, rfl, rfl, rfl⟩⟩
  · have hlen : len ≤ m := by rw [hmm]; split <;> omega
    have hex : ∀ i, i < len → ∃ p : α, ∃ c, c.length = s ∧ R p c ∧ ∀ j u, c[j]? = some u → w.cell? (a.add (i * s + j)) = some u := by
      intro i hi
      obtain ⟨cs', h1, h2⟩ := hel i (by omega)
      rw [hs] at h1
      obtain ⟨_, hlen', hall⟩ := World.cells?_some h1
      obtain ⟨p, hp⟩ := hR n cs' _ hlen' h2
      refine ⟨p, cs', hlen', hp, fun j u hj => ?_⟩
      have hj' : j < s := by
        rw [← hlen']
        rcases Nat.lt_or_ge j cs'.length with h | h
        · exact h
        · rw [List.getElem?_eq_none h] at hj; cases hj
      have := hall j hj'
      rw [hj] at this
      rw [← this]
      unfold Addr.add
      by_cases c1 : i * s = 0 <;> by_cases c2 : j = 0 <;> simp [c1, c2, Nat.add_assoc]
    obtain ⟨f, hf⟩ := Go.Deep.choose_lt hex
    refine ⟨some a, cap, (List.range len).map f, by simp, by simpa using hl, hm, ?_, .inr ⟨_, _, rfl, by simp, by simp, fun b hb' => by cases hb'; exact hb, fun b hb' hsp => ?_⟩⟩
    · refine ⟨rfl, by simp only [List.length_map, List.length_range]; unfold maxLen at hm; omega, fun _ => ⟨a, rfl, fun j p hj => ?_⟩⟩
      have hj' : j < len := by
        rcases Nat.lt_or_ge j len with h | h
        · exact h
        · rw [List.getElem?_eq_none (by simpa using h)] at hj; cases hj
      simp only [List.getElem?_map, List.getElem?_range hj', Option.map_some, Option.some.injEq] at hj
      subst hj
      exact hf j hj'
    · cases hb'
      rw [hsp, if_pos rfl] at hmm
      simp only [List.length_map, List.length_range]
      omega
end

/-- ARGS of every law: behind the call each argument reads as it did. -/
theorem args_stay {H : Type} {enc : TypeId × Value → H} {W W' : World} (bel : Below W.heap.size W W') :
    ∀ {ts : List TypeId} {vs : List Value} {ds : List (DataW H)} {p : List MemPlace}, (∀ t ∈ ts, Try.prog.readableRec t = true ∧ t < Try.prog.types.size) →
      DataW.TrodAll enc Try.prog W 0 (fun _ => true) true ts vs ds p → (∀ x ∈ p, x.block < W.heap.size) →
      DataW.TrodAll enc Try.prog W' 0 (fun b => decide (b < W.heap.size)) true ts vs ds p := by
  intro ts
  induction ts with
  | nil =>
    intro vs ds p _ h _
    obtain ⟨rfl, rfl, rfl⟩ := trodAll_nil h
    exact trodAll_mk0
  | cons t ts ih =>
    intro vs ds p ht h hlt
    obtain ⟨v, vs', d, ds', p1, p2, rfl, rfl, rfl, h1, h2⟩ := trodAll_cons h
    refine trodAll_cons_mk (Below.trod laidOut (ht t (by simp)).1 (ht t (by simp)).2 h1 bel (fun x hx => hlt x (by simp [hx]))) (ih (fun t' h' => ht t' (by simp [h'])) h2 (fun x hx => hlt x (by simp [hx])))

end Go.Proofs.Ytdddbjaggfaofaa.Aid
