/- sameParts: two lists of parts that are the same are told as the same. -/
import Derived.Test.YtdddbjaggfaofaaSame
import Derived.Outline
namespace Go.Proofs.Ytdddbjaggfaofaa.Mem
open Go.RowKit Go.Proofs.Ytdddbjaggfaofaa.GM Go.Proofs.YtdddbjaggfaofaaW.PrintWords
set_option linter.unusedVariables false

set_option maxHeartbeats 2000000 in
set_option maxRecDepth 100000 in
theorem sameParts_calls (R : List (List Nat)) (A B : Option Addr) (c d b1 b2 : Nat) (vs us : List Value) (w : World) (hA : OwnRows w b1 (.slice A R.length c) vs R) (hB : OwnRows w b2 (.slice B R.length d) us R) (hR : R.length ≤ 131072) :
    Calls Try.prog 30 #[.slice A R.length c, .slice B R.length d] w fun e w' => e = .returned (.bool true) ∧ ∃ q, w' = w.drewN q := by
  have hd : ((R.length : Int) != (R.length : Int)) = false := by simp
  have HA := Aside0.mk hA
  have HB := Aside0.mk hB
  clear hA hB
  go_enter Try.func30, Try.ntmps30
  go_wp2_with fail
  go_loopg [5, 13] R.length (fun g v5 i wr => ∃ k : Nat, k ≤ R.length ∧ g = R.length - k ∧ i = .int .i64 k ∧ (∃ q, wr = w.drewN q))
  case atStart => exact ⟨0, Nat.zero_le _, rfl, rfl, ⟨0, rfl⟩⟩
  case round =>
    obtain ⟨k, hk, rfl, rfl, ⟨q, rfl⟩⟩ := hrel
    by_cases hlt : k < R.length
    · obtain ⟨gA, cA, xA, hvA, hxA, c1, -, o1, -, -⟩ := HA.out.form hlt
      obtain ⟨gB, cB, xB, hvB, hxB, c2, -, o2, -, -⟩ := HB.out.form hlt
      cases hvA
      cases hvB
      obtain ⟨A1, k1, e1⟩ := own_slice o1
      obtain ⟨A2, k2, e2⟩ := own_slice o2
      subst e1 e2
      obtain ⟨W, hW⟩ : ∃ W, W = w.drewN q := ⟨_, rfl⟩
      have c1 : W.cell? ⟨gA, k, none⟩ = some (.slice A1 (nb R k).length k1) := by rw [hW]; exact c1
      have c2 : W.cell? ⟨gB, k, none⟩ = some (.slice A2 (nb R k).length k2) := by rw [hW]; exact c2
      have HC := Aside0.mk (fun n => sameInts_calls (nb R k) (nb R k) A1 A2 _ _ k1 k2 (W.drewN n) (by rw [hW]; exact RN.of_own (base := b1) o1) (by rw [hW]; exact RN.of_own (base := b2) o2))
      rw [← hW]
      have HW := Aside0.mk hW
      have i1 : (k : Int) < (R.length : Int) := by omega
      have i0 : (0 : Int) ≤ (k : Int) := by omega
      have hs : sameB (nb R k) (nb R k) = true := by simp [sameB]
      rw [hs] at HC
      obtain ⟨m, hm⟩ : ∃ m, m = (nb R k).length := ⟨_, rfl⟩
      rw [← hm] at c1 c2 HC
      clear hxA hxB o1 o2 hs hm hW
      go_wp2_with fail
      go_quiet ((go_at_call 24; exact Calls.quiet_of (HC.out _)))
      go_wp2_with fail
      go_roundg (R.length - (k + 1))
      case rel => exact ⟨k + 1, by omega, rfl, by go_num, ⟨q + nq, by rw [HW.out, World.drewN_drewN]⟩⟩
      case measure => omega
    · obtain rfl : k = R.length := by omega
      go_wp2_with fail
      go_ret
      exact ⟨rfl, _, rfl⟩

end Go.Proofs.Ytdddbjaggfaofaa.Mem
