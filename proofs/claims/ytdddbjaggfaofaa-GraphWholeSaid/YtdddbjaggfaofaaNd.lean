/- needs: is an edge there? -/
import Derived.Test.YtdddbjaggfaofaaGWhole
import Derived.BigQuiet
namespace Go.Proofs.Ytdddbjaggfaofaa.Mem
open Go.RowKit Go.Proofs.Ytdddbjaggfaofaa.GM Go.Proofs.YtdddbjaggfaofaaW.PrintWords
set_option linter.unusedVariables false

set_option maxHeartbeats 2000000 in
set_option maxRecDepth 100000 in
theorem needs_calls (a b : Int) (E : List (Int × Int)) (A : Option Addr) (c : Nat) (w : World) (hr : kE.C w A E.length E) (hE : E.length ≤ 8796093022208) :
    Calls Try.prog 36 #[.slice A E.length c, .int .i64 a, .int .i64 b] w fun e w' => e = .returned (.bool (decide ((a, b) ∈ E))) ∧ Below w.heap.size w w' := by
  have HR := Aside0.mk hr
  clear hr
  go_enter Try.func36, Try.ntmps36
  go_wp2_with fail
  go_loopg [11] E.length (fun g i wr => ∃ k : Nat, k ≤ E.length ∧ g = E.length - k ∧ i = .int .i64 k ∧ Aside0 (Below w.heap.size w wr) ∧ Aside0 ((a, b) ∉ E.take k))
  case atStart => exact ⟨0, Nat.zero_le _, rfl, rfl, ⟨Below.refl _ _⟩, ⟨by simp⟩⟩
  case round =>
    obtain ⟨k, hk, rfl, rfl, HW, HN⟩ := hrel
    by_cases hlt : k < E.length
    · obtain ⟨ad, x, rfl, hx, c0, c1⟩ := edge_at HR.out k hlt
      replace c0 := (HW.out.cell (World.block_lt_of_cell? w _ c0)).trans c0
      replace c1 := (HW.out.cell (World.block_lt_of_cell? w _ c1)).trans c1
      obtain ⟨x1, x2⟩ := x
      simp only at c0 c1
      have HX := Aside0.mk hx
      have HB := Aside0.mk (HW.out.alloc HW.out.size (.cells #[.int .i64 x1, .int .i64 x2] 52))
      clear hx
      by_cases h1 : x1 = a
      · by_cases h2 : x2 = b
        · have HT := Aside0.mk (show decide ((a, b) ∈ E) = true from decide_eq_true (by rw [← h1, ← h2]; exact List.mem_of_getElem? HX.out))
          have e1 : (x1 == a) = true := beq_iff_eq.2 h1
          have e2 : (x2 == b) = true := beq_iff_eq.2 h2
          clear h1 h2
          go_wp2_with fail
          go_ret
          exact ⟨by rw [HT.out]; rfl, HB.out⟩
        · have HN2 := Aside0.mk (show (a, b) ∉ E.take (k + 1) from fun hm => by
            rcases (mem_take_one HX.out).1 hm with h | h
            · exact HN.out h
            · exact h2 (congrArg Prod.snd h).symm)
          have e1 : (x1 == a) = true := beq_iff_eq.2 h1
          have e2 : (x2 == b) = false := beq_eq_false_iff_ne.2 h2
          clear h1 h2
          go_wp2_with fail
          go_roundg (E.length - (k + 1))
          case rel => exact ⟨k + 1, by omega, rfl, by go_num, HB, HN2⟩
          case measure => omega
      · have HN2 := Aside0.mk (show (a, b) ∉ E.take (k + 1) from fun hm => by
          rcases (mem_take_one HX.out).1 hm with h | h
          · exact HN.out h
          · exact h1 (congrArg Prod.fst h).symm)
        have e1 : (x1 == a) = false := beq_eq_false_iff_ne.2 h1
        clear h1
        go_wp2_with fail
        go_roundg (E.length - (k + 1))
        case rel => exact ⟨k + 1, by omega, rfl, by go_num, HB, HN2⟩
        case measure => omega
    · obtain rfl : k = E.length := by omega
      have HT := Aside0.mk (show decide ((a, b) ∈ E) = false from decide_eq_false (by have := HN.out; rw [List.take_length] at this; exact this))
      go_wp2_with fail
      go_ret
      exact ⟨by rw [HT.out]; rfl, HW.out⟩

end Go.Proofs.Ytdddbjaggfaofaa.Mem
