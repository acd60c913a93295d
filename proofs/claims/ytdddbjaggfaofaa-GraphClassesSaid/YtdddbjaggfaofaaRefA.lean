/- The document's graphs: Bad and Rows, by their contracts. -/
import Derived.Test.YtdddbjaggfaofaaReachC
import Derived.StillTailTactics
namespace Go.Proofs.Ytdddbjaggfaofaa.Mem
open Go.RowKit Go.Proofs.Ytdddbjaggfaofaa.GM Go.Proofs.YtdddbjaggfaofaaW.PrintWords
set_option linter.unusedVariables false

def BadPost (w : World) (n : Int) (E : List (Int × Int)) (e : Ending) (w' : World) : Prop := w = w' ∧ ((AllOk n E ∧ e = .returned (.bool false)) ∨ (¬ AllOk n E ∧ e = .returned (.bool true)))

set_option maxHeartbeats 1000000 in
set_option maxRecDepth 100000 in
theorem bad_calls (n : Int) (E : List (Int × Int)) (A : Option Addr) (c : Nat) (w : World) (hr : kE.C w A E.length E) (hE : E.length ≤ 8796093022208) :
    Calls Try.prog 45 #[.int .i64 n, .slice A E.length c] w fun e w' => BadPost w n E e w' := by
  by_cases h0 : n < 0
  · have HF := Aside0.mk (show ¬ AllOk n E by unfold AllOk; omega)
    go_enter Try.func45, Try.ntmps45
    go_wp2_with fail
    go_ret
    exact ⟨rfl, .inr ⟨HF.out, rfl⟩⟩
  by_cases h1 : n > 131072
  · have HF := Aside0.mk (show ¬ AllOk n E by unfold AllOk; omega)
    go_enter Try.func45, Try.ntmps45
    go_wp2_with fail
    go_ret
    exact ⟨rfl, .inr ⟨HF.out, rfl⟩⟩
  obtain ⟨n, rfl⟩ := Int.eq_ofNat_of_zero_le (show 0 ≤ n by omega)
  have HR := Aside0.mk hr
  clear hr
  go_enter Try.func45, Try.ntmps45
  go_wp2_with fail
  go_loopg [5] E.length (fun g i wr => ∃ k : Nat, k ≤ E.length ∧ g = E.length - k ∧ i = .int .i64 k ∧ wr = w ∧ Aside0 (∀ x ∈ E.take k, EOk n x))
  case atStart => exact ⟨0, Nat.zero_le _, rfl, rfl, rfl, ⟨by simp⟩⟩
  case round =>
    obtain ⟨k, hk, rfl, rfl, rfl, HO⟩ := hrel
    by_cases hlt : k < E.length
    · obtain ⟨ad, x, rfl, hx, c0, c1⟩ := edge_at HR.out k hlt
      obtain ⟨x1, x2⟩ := x
      have HX := Aside0.mk hx
      clear hx
      by_cases hok : EOk n (x1, x2)
      · have HOK := Aside0.mk hok
        obtain ⟨o1, o2, o3, o4⟩ := hok
        simp only at o1 o2 o3 o4
        go_wp2_with fail
        go_roundg (E.length - (k + 1))
        case rel =>
          refine ⟨k + 1, by omega, rfl, by go_num, rfl, ⟨?_⟩⟩
          rw [List.take_add_one, HX.out]
          intro x hx
          rcases List.mem_append.1 hx with hx | hx
          · exact HO.out x hx
          · simp at hx
            subst hx
            exact HOK.out
        case measure => omega
      · have hbad : x1 < 0 ∨ (0 ≤ x1 ∧ (n : Int) ≤ x1) ∨ (0 ≤ x1 ∧ x1 < n ∧ x2 < 0) ∨ (0 ≤ x1 ∧ x1 < n ∧ 0 ≤ x2 ∧ (n : Int) ≤ x2) := by
          unfold EOk at hok
          simp only at hok
          omega
        have HF := Aside0.mk (show ¬ AllOk n E from fun h' => hok (h'.2.2 _ (List.mem_of_getElem? HX.out)))
        clear hok
        rcases hbad with b1 | ⟨b1, b2⟩ | ⟨b1, b2, b3⟩ | ⟨b1, b2, b3, b4⟩
        all_goals
          go_wp2_with fail
          go_ret
          exact ⟨rfl, .inr ⟨HF.out, rfl⟩⟩
    · obtain rfl : k = E.length := by omega
      have HF := Aside0.mk (show AllOk n E by
        have := HO.out
        rw [List.take_length] at this
        exact ⟨by omega, by omega, this⟩)
      go_wp2_with fail
      go_ret
      exact ⟨rfl, .inl ⟨HF.out, rfl⟩⟩

end Go.Proofs.Ytdddbjaggfaofaa.Mem
