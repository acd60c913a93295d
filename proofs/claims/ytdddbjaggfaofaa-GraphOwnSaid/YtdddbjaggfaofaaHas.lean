/- Functions of the statements on graphs: right, has, by their contracts. -/
import Derived.Test.YtdddbjaggfaofaaReaches
namespace Go.Proofs.Ytdddbjaggfaofaa.Mem
open Go.RowKit Go.Proofs.Ytdddbjaggfaofaa.GM Go.Proofs.YtdddbjaggfaofaaW.PrintWords
set_option linter.unusedVariables false

/-- Is k in the list? -/
def hasB (k : Nat) (xs : List Nat) : Bool := decide (k ∈ xs)

theorem rising_at {xs : List Nat} (h : Rising xs) {i j : Nat} (hij : i < j) (hj : j < xs.length) : pa xs i < pa xs j := by
  rw [pa_get hj, pa_get (by omega)]
  exact List.pairwise_iff_getElem.1 h i j (by omega) hj hij

set_option maxHeartbeats 1000000 in
set_option maxRecDepth 100000 in
theorem has_calls (xs : List Nat) (A : Option Addr) (c k : Nat) (w : World) (hx : RN w A xs.length xs) (hr : Rising xs) (hl : xs.length ≤ 131072) :
    Calls Try.prog 32 #[.slice A xs.length c, .int .i64 k] w fun e w' => e = .returned (.bool (hasB k xs)) ∧ w' = w := by
  obtain ⟨-, -, hc⟩ := hx
  have HC := Aside0.mk hc
  have HR := Aside0.mk hr
  clear hc hr
  go_enter Try.func32, Try.ntmps32
  go_wp2_with fail
  go_loopg [5, 6] xs.length (fun g v5 v6 wr => ∃ (l h : Nat), v5 = .int .i64 l ∧ v6 = .int .i64 h ∧ l ≤ h ∧ h ≤ xs.length ∧ h - l ≤ g ∧ Aside0 (wr = w) ∧ Aside0 ((∀ i, i < l → pa xs i < k) ∧ ∀ i, h ≤ i → i < xs.length → k ≤ pa xs i))
  case atStart => exact ⟨0, xs.length, rfl, rfl, by omega, Nat.le_refl _, by omega, ⟨rfl⟩, ⟨fun i hi => by omega, fun i h1 h2 => by omega⟩⟩
  case round =>
    obtain ⟨l, h, rfl, rfl, hlh, hhn, hg, HW, HI⟩ := hrel
    obtain rfl := HW.out
    by_cases hlt : l < h
    · obtain ⟨m, hm⟩ : ∃ m, m = (l + h) / 2 := ⟨_, rfl⟩
      have E1 := Aside0.mk (show ((l : Int) + (h : Int)) / 2 = (m : Int) by omega)
      have hm1 : l ≤ m := by omega
      have hm2 : m < h := by omega
      obtain ⟨ad, rfl, c1⟩ := HC.out m (by omega)
      rw [← pa_get (by omega : m < xs.length)] at c1
      obtain ⟨u, hu⟩ : ∃ u, u = pa xs m := ⟨_, rfl⟩
      rw [← hu] at c1
      have HU := Aside0.mk hu
      clear hm hu
      go_upto_region 4 with (fail)
      rw [E1.out]
      by_cases huk : u < k
      · have HI2 := Aside0.mk (show (∀ i, i < m + 1 → pa xs i < k) ∧ ∀ i, h ≤ i → i < xs.length → k ≤ pa xs i from ⟨fun i hi => by
          rcases Nat.lt_or_ge i m with c | c
          · have := rising_at HR.out c (by omega); have := HU.out; omega
          · obtain rfl : i = m := by omega
            rw [← HU.out]; exact huk, HI.out.2⟩)
        go_wp2_with fail
        go_roundg (h - (m + 1))
        case rel => exact ⟨m + 1, h, by go_num, rfl, by omega, hhn, Nat.le_refl _, ⟨rfl⟩, HI2⟩
        case measure => omega
      · have HI2 := Aside0.mk (show (∀ i, i < l → pa xs i < k) ∧ ∀ i, m ≤ i → i < xs.length → k ≤ pa xs i from ⟨HI.out.1, fun i h1 h2 => by
          rcases Nat.lt_or_ge m i with c | c
          · have := rising_at HR.out c h2; have := HU.out; omega
          · obtain rfl : i = m := by omega
            rw [← HU.out]; omega⟩)
        go_wp2_with fail
        go_roundg (m - l)
        case rel => exact ⟨l, m, rfl, rfl, by omega, by omega, Nat.le_refl _, ⟨rfl⟩, HI2⟩
        case measure => omega
    · obtain rfl : l = h := by omega
      have hmem : ∀ i, i < xs.length → pa xs i ∈ xs := fun i hi => by rw [pa_get hi]; exact List.getElem_mem hi
      by_cases hn : l < xs.length
      · obtain ⟨ad, rfl, c1⟩ := HC.out l hn
        rw [← pa_get hn] at c1
        obtain ⟨u, hu⟩ : ∃ u, u = pa xs l := ⟨_, rfl⟩
        rw [← hu] at c1
        have HU := Aside0.mk hu
        clear hu
        by_cases huk : u = k
        · have hb : ((u : Int) == (k : Int)) = true := beq_iff_eq.2 (by omega)
          have HF := Aside0.mk (show hasB k xs = true by unfold hasB; rw [decide_eq_true_eq, ← huk, HU.out]; exact hmem l hn)
          clear huk hmem
          go_wp2_with fail
          go_ret
          exact ⟨by rw [HF.out]; rfl, rfl⟩
        · have hb : ((u : Int) == (k : Int)) = false := beq_eq_false_iff_ne.2 (by omega)
          have HF := Aside0.mk (show hasB k xs = false by
            unfold hasB
            rw [decide_eq_false_iff_not]
            intro hk
            obtain ⟨i, hi, e⟩ := List.mem_iff_getElem.1 hk
            rw [← pa_get hi] at e
            have := HU.out
            rcases Nat.lt_trichotomy i l with c | c | c
            · have := HI.out.1 i c; omega
            · subst c; omega
            · have h1 := rising_at HR.out c hi
              have h2 := HI.out.2 l (Nat.le_refl _) hn
              omega)
          clear huk hmem
          go_wp2_with fail
          go_ret
          exact ⟨by rw [HF.out]; rfl, rfl⟩
      · have HF := Aside0.mk (show hasB k xs = false by
          unfold hasB
          rw [decide_eq_false_iff_not]
          intro hk
          obtain ⟨i, hi, e⟩ := List.mem_iff_getElem.1 hk
          rw [← pa_get hi] at e
          have := HI.out.1 i (by omega)
          omega)
        clear hmem
        go_wp2_with fail
        go_ret
        exact ⟨by rw [HF.out]; rfl, rfl⟩

def RightPost (w : World) (n : Int) (E : List (Int × Int)) (e : Ending) (w' : World) : Prop := Below w.heap.size w w' ∧ ((AllOk n E ∧ e = .returned (.bool true)) ∨ (¬ AllOk n E ∧ e = .returned (.bool false)))

set_option maxHeartbeats 1000000 in
set_option maxRecDepth 100000 in
theorem right_calls (n : Int) (E : List (Int × Int)) (A : Option Addr) (c : Nat) (w : World) (hr : kE.C w A E.length E) (hE : E.length ≤ 8796093022208) :
    Calls Try.prog 31 #[.int .i64 n, .slice A E.length c] w fun e w' => RightPost w n E e w' := by
  by_cases h0 : n < 0
  · have HF := Aside0.mk (show ¬ AllOk n E by unfold AllOk; omega)
    go_enter Try.func31, Try.ntmps31
    go_wp2_with fail
    go_ret
    exact ⟨Below.refl _ _, .inr ⟨HF.out, rfl⟩⟩
  by_cases h1 : n > 131072
  · have HF := Aside0.mk (show ¬ AllOk n E by unfold AllOk; omega)
    go_enter Try.func31, Try.ntmps31
    go_wp2_with fail
    go_ret
    exact ⟨Below.refl _ _, .inr ⟨HF.out, rfl⟩⟩
  have HR := Aside0.mk hr
  clear hr
  go_enter Try.func31, Try.ntmps31
  go_wp2_with fail
  go_loopg [15] E.length (fun g i wr => ∃ k : Nat, k ≤ E.length ∧ g = E.length - k ∧ i = .int .i64 k ∧ Aside0 (Below w.heap.size w wr) ∧ Aside0 (∀ x ∈ E.take k, EOk n x))
  case atStart => exact ⟨0, Nat.zero_le _, rfl, rfl, ⟨Below.refl _ _⟩, ⟨by simp⟩⟩
  case round =>
    obtain ⟨k, hk, rfl, rfl, HB, HOK⟩ := hrel
    by_cases hlt : k < E.length
    · obtain ⟨ad, x, rfl, hx, c0, c1⟩ := edge_at HR.out k hlt
      have d0 := (HB.out.cell (World.block_lt_of_cell? w _ c0)).trans c0
      have d1 := (HB.out.cell (World.block_lt_of_cell? w _ c1)).trans c1
      obtain ⟨x1, x2⟩ := x
      have HX := Aside0.mk hx
      simp only at d0 d1
      clear hx c0 c1
      by_cases hok : EOk n (x1, x2)
      · have HOK2 := Aside0.mk (show ∀ x ∈ E.take (k + 1), EOk n x from fun x hx => by
          rw [List.take_add_one, HX.out] at hx
          rcases List.mem_append.1 hx with h | h
          · exact HOK.out x h
          · simp at h; subst h; exact hok)
        obtain ⟨o1, o2, o3, o4⟩ := hok
        simp only at o1 o2 o3 o4
        go_wp2_with fail
        go_roundg (E.length - (k + 1))
        case rel => exact ⟨k + 1, by omega, rfl, by go_num, ⟨HB.out.alloc HB.out.size _⟩, HOK2⟩
        case measure => omega
      · have HF := Aside0.mk (show ¬ AllOk n E from fun h => hok (h.2.2 _ (List.mem_of_getElem? HX.out)))
        have hbad : x1 < 0 ∨ (¬ x1 < 0 ∧ n ≤ x1) ∨ (¬ x1 < 0 ∧ ¬ n ≤ x1 ∧ x2 < 0) ∨ (¬ x1 < 0 ∧ ¬ n ≤ x1 ∧ ¬ x2 < 0 ∧ n ≤ x2) := by
          unfold EOk at hok
          simp only at hok
          omega
        clear hok
        rcases hbad with b1 | ⟨b1, b2⟩ | ⟨b1, b2, b3⟩ | ⟨b1, b2, b3, b4⟩
        all_goals
          go_wp2_with fail
          go_ret
          exact ⟨HB.out.alloc HB.out.size _, .inr ⟨HF.out, rfl⟩⟩
    · obtain rfl : k = E.length := by omega
      have HF := Aside0.mk (show AllOk n E from ⟨by omega, by omega, by have := HOK.out; rwa [List.take_length] at this⟩)
      go_wp2_with fail
      go_ret
      exact ⟨HB.out, .inl ⟨HF.out, rfl⟩⟩

end Go.Proofs.Ytdddbjaggfaofaa.Mem
