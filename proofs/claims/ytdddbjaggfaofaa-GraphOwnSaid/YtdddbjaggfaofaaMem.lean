/- Words for memory that this seat's walks share: slices of numbers and of marks that the call itself made; what slices.Sort and slices.Compact do to them. -/
import Derived.Test.YtdddbjaggfaofaaShelf
import Derived.Test.YtdddbjaggfaofaaGMs
import Derived.Test.YtdddbjaggfaofaaWWords
import Derived.WalkKit
import Derived.Below
import Derived.Deep.LoopGhost
import Derived.Maps.AppendAt
namespace Go.Proofs.Ytdddbjaggfaofaa.Mem
open Go.RowKit Go.Proofs.Ytdddbjaggfaofaa.GM Go.Proofs.YtdddbjaggfaofaaW.PrintWords
set_option linter.unusedVariables false

/-- A number as a value. -/
def encN (x : Nat) : Value := .int .i64 (x : Int)

/-- A slice of numbers of the call's own. -/
def OwnN (w : World) (base : Nat) (v : Value) (xs : List Nat) : Prop := w.ownsRow base 3 1 v xs.length (xs.map encN)
/-- A slice of marks of the call's own. -/
def OwnB (w : World) (base : Nat) (v : Value) (xs : List Bool) : Prop := w.ownsRow base 4 1 v xs.length (xs.map Value.bool)

theorem own_row_put {w : World} {base g n cap q : Nat} {zs : List Int} {os : Array Obj} {xs : List Value} (h : w.ownsRow base 3 1 (.slice (some ⟨g, 0, none⟩) n cap) n xs) (hl : zs.length = n) :
    (Go.Sort.grow (Go.Sort.putRow (Value.int .i64) (Go.Sort.ahead w q) g 0 zs.toArray) os).ownsRow base 3 1 (.slice (some ⟨g, 0, none⟩) n cap) n (zs.map (Value.int .i64)) ∧
    w.grownBy (Go.Sort.grow (Go.Sort.putRow (Value.int .i64) (Go.Sort.ahead w q) g 0 zs.toArray) os) (some g) := by
  obtain ⟨h1, h2⟩ := h
  rcases h2 with ⟨h2, _⟩ | ⟨g', cap', cur, hv, hb, hg, hn, hm, hs, ht⟩
  · cases h2
  · cases hv
    have hlt : g < w.heap.size := (Array.getElem?_eq_some_iff.1 hg).1
    have hsz : (Go.Sort.putRow (Value.int .i64) (Go.Sort.ahead w q) g 0 zs.toArray).heap.size = w.heap.size := by rw [Go.Sort.size_putRow]; rfl
    have hget : ∀ k, k < w.heap.size → (Go.Sort.grow (Go.Sort.putRow (Value.int .i64) (Go.Sort.ahead w q) g 0 zs.toArray) os).heap[k]? = (Go.Sort.putRow (Value.int .i64) (Go.Sort.ahead w q) g 0 zs.toArray).heap[k]? := by
      intro k hk
      show ((Go.Sort.putRow (Value.int .i64) (Go.Sort.ahead w q) g 0 zs.toArray).heap ++ os)[k]? = _
      rw [Array.getElem?_append_left (by omega)]
    have hmod : ∀ k : Nat, (Go.Sort.putRow (Value.int .i64) (Go.Sort.ahead w q) g 0 zs.toArray).heap[k]? = (w.heap.modify g (Go.Sort.onCells (Go.Sort.putCells (Value.int .i64) 0 zs.toArray)))[k]? := fun k => rfl
    refine ⟨⟨by rw [List.length_map, hl, Nat.mul_one], .inr ⟨g, cap, Go.Sort.putCells (Value.int .i64) 0 zs.toArray cur, rfl, hb, ?_, hn, hm, ?_, ?_⟩⟩, rfl, rfl, rfl, ?_, ?_⟩
    · rw [hget g hlt, hmod, Array.getElem?_modify, if_pos rfl, hg]
      rfl
    · simp [Go.Sort.putCells, hs]
    · apply List.ext_getElem?
      intro i
      rw [List.getElem?_take]
      by_cases hi : i < n * 1
      · rw [if_pos hi]
        have hi' : i < cur.size := by rw [hs]; omega
        have hi2 : i < zs.length := by omega
        simp only [Go.Sort.putCells, Array.getElem?_toList, Array.getElem?_mapIdx, List.getElem?_map, List.getElem?_eq_getElem hi2, Array.getElem?_eq_getElem hi', Option.map_some, Nat.zero_le, true_and, Nat.zero_add, List.size_toArray, Nat.sub_zero, hi2, if_true]
        congr 2
        rw [getElem!_pos _ _ (by simpa using hi2)]
        simp
      · rw [if_neg hi, List.getElem?_eq_none (by rw [List.length_map]; omega)]
    · show w.heap.size ≤ ((Go.Sort.putRow (Value.int .i64) (Go.Sort.ahead w q) g 0 zs.toArray).heap ++ os).size
      rw [Array.size_append, hsz]; omega
    · intro k hk hne
      rw [hget k hk, hmod, Array.getElem?_modify, if_neg (by intro e; subst e; exact hne rfl)]

/-- Compact of a rising-or-equal row: each number once, strictly rising. -/
theorem compact_sorted (d : Array Int) (hs : ∀ i j, i < j → j < d.size → d[i]! ≤ d[j]!) : ∀ m, m ≤ d.size →
    (Go.Lib.compactUpTo d m).Pairwise (· < ·) ∧ (∀ x, x ∈ Go.Lib.compactUpTo d m ↔ ∃ j, j < m ∧ d[j]! = x) ∧ (Go.Lib.compactUpTo d m).length ≤ m := by
  intro m
  induction m with
  | zero => intro _; simp [Go.Lib.compactUpTo]
  | succ m ih =>
    intro hm
    obtain ⟨h1, h2, h3⟩ := ih (by omega)
    rw [Go.Lib.compactUpTo_succ]
    have hmem : ∀ x, (∃ j, j < m + 1 ∧ d[j]! = x) ↔ (∃ j, j < m ∧ d[j]! = x) ∨ d[m]! = x := by
      intro x
      constructor
      · rintro ⟨j, hj, e⟩
        by_cases c : j = m
        · subst c; exact .inr e
        · exact .inl ⟨j, by omega, e⟩
      · rintro (⟨j, hj, e⟩ | e)
        · exact ⟨j, by omega, e⟩
        · exact ⟨m, by omega, e⟩
    by_cases hk : Go.Lib.keeps d m = true
    · rw [if_pos hk]
      refine ⟨List.pairwise_append.2 ⟨h1, List.pairwise_singleton _ _, ?_⟩, ?_, by simp; omega⟩
      · intro a ha b hb
        rw [List.mem_singleton.1 hb]
        obtain ⟨j, hj, e⟩ := (h2 a).1 ha
        subst e
        have hle := hs j m hj (by omega)
        have hm0 : 0 < m := by omega
        have hne : d[m]! ≠ d[m - 1]! := by
          intro e
          rw [Go.Lib.keeps_neg hm0 e] at hk
          cases hk
        have h4 : d[j]! ≤ d[m - 1]! := by
          by_cases c : j = m - 1
          · rw [c]; exact Int.le_refl _
          · exact hs j (m - 1) (by omega) (by omega)
        have h5 := hs (m - 1) m (by omega) (by omega)
        omega
      · intro x
        rw [List.mem_append, h2, List.mem_singleton, hmem]
        constructor
        · rintro (h | rfl)
          · exact .inl h
          · exact .inr rfl
        · rintro (h | h)
          · exact .inl h
          · exact .inr h.symm
    · rw [if_neg hk, List.append_nil]
      refine ⟨h1, ?_, by omega⟩
      intro x
      rw [h2, hmem]
      constructor
      · exact .inl
      · rintro (h | rfl)
        · exact h
        · have hm0 : 0 < m := by
            rcases Nat.eq_zero_or_pos m with h | h
            · subst h; exact absurd (Go.Lib.keeps_lt_one d 0 (by omega)) hk
            · exact h
          refine ⟨m - 1, by omega, ?_⟩
          rcases Int.lt_trichotomy d[m - 1]! d[m]! with h | h | h
          · exact absurd (Go.Lib.keeps_pos (by omega)) hk
          · exact h
          · exact absurd (Go.Lib.keeps_pos (by omega)) hk

/-- A row of whole numbers that are none below 0, as plain numbers. -/
theorem nats_of : ∀ (l : List Int), (∀ x ∈ l, 0 ≤ x) → ∃ m : List Nat, l = m.map (fun n : Nat => (n : Int))
  | [], _ => ⟨[], rfl⟩
  | a :: l, h => by
    obtain ⟨m, rfl⟩ := nats_of l (fun x hx => h x (List.mem_cons_of_mem _ hx))
    obtain ⟨n, rfl⟩ := Int.eq_ofNat_of_zero_le (h a List.mem_cons_self)
    exact ⟨n :: m, rfl⟩

theorem encN_map (xs : List Nat) : xs.map encN = (xs.map (fun n : Nat => (n : Int))).map (Value.int .i64) := by
  rw [List.map_map]; rfl

theorem holds_own {w : World} {base g n cap : Nat} {zs : List Int} (h : w.ownsRow base 3 1 (.slice (some ⟨g, 0, none⟩) n cap) n (zs.map (Value.int .i64))) :
    Go.Sort.Holds (Value.int .i64) w g 0 zs.toArray ∧ g < w.heap.size ∧ zs.length = n ∧ n ≤ cap ∧ cap ≤ maxLen := by
  have hl : zs.length = n := by have := h.1; rw [List.length_map] at this; omega
  rcases h.2 with ⟨h2, _⟩ | ⟨g', cap', cur, hv, hb, hg, hn, hm, hs, ht⟩
  · cases h2
  · cases hv
    refine ⟨fun j hj => ?_, (Array.getElem?_eq_some_iff.1 hg).1, hl, hn, hm⟩
    have hj' : j < zs.length := by simpa using hj
    constructor
    · rw [Nat.zero_add, cell_of_row w g j cur 3 (0, 0) hg]
      have : (cur.toList.take (n * 1))[j]? = (zs.map (Value.int .i64))[j]? := by rw [ht]
      rw [List.getElem?_take, if_pos (by omega), List.getElem?_map, List.getElem?_eq_getElem hj'] at this
      rw [getElem!_pos _ _ (by simpa using hj')]
      simpa using this
    · simp [World.frozen?, hg]

/-- 'sorted': its row comes back rising, each number once; the row lies where it lay. -/
theorem sorted_calls (base : Nat) (v : Value) (xs : List Nat) (w : World) (h : OwnN w base v xs) (hb : xs.length ≤ 8796093022208) :
    Calls Try.prog 44 #[v] w fun e w' => ∃ v' ys, e = .returned v' ∧ OwnN w' base v' ys ∧ Rising ys ∧ (∀ x, x ∈ ys ↔ x ∈ xs) ∧ ys.length ≤ xs.length ∧ v'.ownBlock = v.ownBlock ∧ w.grownBy w' v.ownBlock := by
  unfold OwnN at h
  rcases id h.2 with ⟨rfl, hn⟩ | ⟨g, cap, cur, rfl, -⟩
  · have hx : xs = [] := List.eq_nil_of_length_eq_zero hn
    subst hx
    go_enter Try.func44, Try.ntmps44
    go_wp2_with fail
    refine (Try.slices_Sort_int_none _ _ _).mono ?_
    rintro e w' ⟨rfl, rfl⟩
    go_wp2_with fail
    refine (Try.slices_Compact_int_empty _ _ _).mono ?_
    rintro e w' ⟨rfl, rfl⟩
    go_wp2_with fail
    go_ret
    exact ⟨_, [], rfl, World.ownsRow_nil _ _ _ _, by simp [Rising], fun x => Iff.rfl, Nat.le_refl _, rfl, World.grownBy.refl _ _⟩
  · rw [encN_map] at h
    obtain ⟨zs, hz⟩ : ∃ zs : List Int, zs = xs.map (fun n : Nat => (n : Int)) := ⟨_, rfl⟩
    rw [← hz] at h
    obtain ⟨hH, hlt, hl, hnc, hcm⟩ := holds_own h
    have s1 := Try.slices_Sort_int g 0 cap zs w hH hlt (by omega)
    rw [hl] at s1
    obtain ⟨ms, hms⟩ : ∃ ms : List Int, ms = zs.mergeSort (fun x y => decide (x ≤ y)) := ⟨_, rfl⟩
    have hml : ms.length = xs.length := by rw [hms, List.length_mergeSort, hl]
    have hmem : ∀ x, x ∈ ms ↔ x ∈ zs := fun x => by rw [hms]; exact (List.mergeSort_perm zs _).mem_iff
    have hsrt : ms.Pairwise (fun a b => a ≤ b) := by
      have := List.pairwise_mergeSort (le := fun x y : Int => decide (x ≤ y)) (fun a b c h1 h2 => by simp at *; omega) (fun a b => by simp; omega) zs
      rw [hms]
      exact this.imp (fun h => by simpa using h)
    rw [← hms] at s1
    have c1 := fun w1 hH1 => Try.slices_Compact_int g 0 cap ms w1 hH1 (by unfold maxLen at hcm; omega) (by omega)
    rw [hml] at c1
    have hget : ∀ i : Nat, i < ms.length → ms.toArray[i]! = ms[i]! := fun i hi => by rw [getElem!_pos ms.toArray i (by simpa using hi), getElem!_pos ms i hi]; simp
    have hsorted : ∀ i j, i < j → j < ms.toArray.size → ms.toArray[i]! ≤ ms.toArray[j]! := by
      intro i j hij hj
      have hj' : j < ms.length := by simpa using hj
      rw [hget i (by omega), hget j hj', getElem!_pos ms i (by omega), getElem!_pos ms j hj']
      exact List.pairwise_iff_getElem.1 hsrt i j (by omega) hj' hij
    obtain ⟨p1, p2, p3⟩ := compact_sorted ms.toArray hsorted ms.length (by simp)
    obtain ⟨cs, hcs⟩ : ∃ cs, cs = Go.Lib.compact ms := ⟨_, rfl⟩
    have p1' : cs.Pairwise (· < ·) := by rw [hcs]; exact p1
    have p2' : ∀ x, x ∈ cs ↔ x ∈ zs := by
      intro x
      rw [hcs]
      show x ∈ Go.Lib.compactUpTo ms.toArray ms.length ↔ _
      rw [p2, ← hmem]
      constructor
      · rintro ⟨j, hj, e⟩
        rw [hget j hj, getElem!_pos ms j hj] at e
        rw [← e]
        exact List.getElem_mem hj
      · intro hx
        obtain ⟨j, hj, e⟩ := List.mem_iff_getElem.1 hx
        exact ⟨j, hj, by rw [hget j hj, getElem!_pos ms j hj]; exact e⟩
    have p3' : cs.length ≤ xs.length := by rw [hcs, ← hml]; exact p3
    have hnn : ∀ x ∈ cs, 0 ≤ x := by
      intro x hx
      have := (p2' x).1 hx
      rw [hz] at this
      obtain ⟨n, _, e⟩ := List.mem_map.1 this
      omega
    obtain ⟨ys, hys⟩ := nats_of cs hnn
    have hyl : ys.length = cs.length := by rw [hys, List.length_map]
    rw [← hcs] at c1
    have HS := Aside0.mk s1
    clear s1
    have fin1 : Rising ys := by
      rw [hys] at p1'
      exact (List.pairwise_map.1 p1').imp (fun h => by omega)
    have fin2 : ∀ x, x ∈ ys ↔ x ∈ xs := by
      intro x
      have := p2' (x : Int)
      rw [hys, hz] at this
      simpa [Int.natCast_inj] using this
    have HC := Aside0.mk c1
    have HO := Aside0.mk h
    have F1 := Aside0.mk fin1
    have F2 := Aside0.mk fin2
    have F3 := Aside0.mk p3'
    have F4 := Aside0.mk hml
    have F5 := Aside0.mk hys
    clear c1 h fin1 fin2 p3' hml hys hz hl hms hcs hmem hsrt hget hsorted p1 p2 p3 p1' p2' hnn hH hyl
    go_enter Try.func44, Try.ntmps44
    go_wp2_with fail
    refine HS.out.mono ?_
    rintro e w1 ⟨rfl, q, os, hw⟩
    have hA := own_row_put (q := q) (os := os) HO.out F4.out
    rw [← hw] at hA
    clear hw
    have hH1 := (holds_own hA.1).1
    have HA := Aside0.mk hA
    clear hA
    go_wp2_with fail
    refine (HC.out _ hH1).mono ?_
    rintro e w2 ⟨rfl, q2, hw⟩
    have hB := own_row_put (q := q2) (os := #[]) (zs := cs ++ List.replicate (xs.length - cs.length) 0) HA.out.1 (by have := F3.out; simp; omega)
    rw [Go.Sort.grow_empty, ← hw] at hB
    clear hw
    have HB := Aside0.mk hB
    clear hB hH1
    go_wp2_with fail
    go_ret
    have hlen : ys.length = cs.length := by rw [F5.out, List.length_map]
    refine ⟨_, ys, rfl, ?_, F1.out, F2.out, by rw [hlen]; exact F3.out, rfl, HA.out.2.trans HB.out.2⟩
    have ht := own_take HB.out.1 F3.out
    rw [List.map_append, Nat.mul_one, List.take_left' (by rw [List.length_map])] at ht
    unfold OwnN
    rw [hlen, encN_map, ← F5.out]
    exact ht

end Go.Proofs.Ytdddbjaggfaofaa.Mem
