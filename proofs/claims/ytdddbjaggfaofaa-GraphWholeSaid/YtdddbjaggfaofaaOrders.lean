/- GraphOrders: the program's Order and the document's give the same things in the same order, the same cycle and the same error, and the edges that were lent stay. -/
import Derived.Test.YtdddbjaggfaofaaReaches
import Derived.Test.YtdddbjaggfaofaaOrd
namespace Go.Proofs.Ytdddbjaggfaofaa.Mem
open Go.RowKit Go.Proofs.Ytdddbjaggfaofaa.GM Go.Proofs.YtdddbjaggfaofaaW.PrintWords
set_option linter.unusedVariables false

theorem order_same {w1 w2 w3 w4 : World} {n : Int} {E : List (Int × Int)} {e f : Ending} (h1 : OrderPost w1 n E e w2) (h2 : OrderPost w3 n E f w4) :
    (∃ A1 A2 c1 c2 B1 B2 d1 d2 k xs ys, e = .returned (.tuple #[.slice A1 xs.length c1, .slice B1 ys.length d1, .int .i64 k]) ∧ f = .returned (.tuple #[.slice A2 xs.length c2, .slice B2 ys.length d2, .int .i64 k]) ∧ RN w2 A1 xs.length xs ∧ RN w4 A2 xs.length xs ∧ RN w2 B1 ys.length ys ∧ RN w4 B2 ys.length ys) := by
  have nilr : ∀ w, RN w none 0 [] := fun w => ⟨rfl, by omega, fun k hk => by simp at hk⟩
  rcases h1.2 with ⟨b1, rfl⟩ | ⟨g1, m, D, rfl, hf1, hc1⟩
  · rcases h2.2 with ⟨b2, rfl⟩ | ⟨k1, _⟩
    · exact ⟨none, none, 0, 0, none, none, 0, 0, 1, [], [], rfl, rfl, nilr _, nilr _, nilr _, nilr _⟩
    · exact absurd k1 b1
  · rcases h2.2 with ⟨b2, rfl⟩ | ⟨k1, m', D', hm, hf2, hc2⟩
    · exact absurd g1 b2
    · obtain rfl : m = m' := by omega
      obtain rfl := hf1.unique hf2
      rcases hc1 with ⟨hl1, A1, c1, rfl, ho1⟩ | ⟨hl1, A1, c1, C1, rfl, ho1, hy1⟩
      · rcases hc2 with ⟨hl2, A2, c2, rfl, ho2⟩ | ⟨hl2, _⟩
        · subst hl1
          exact ⟨A1, A2, c1, c2, none, none, 0, 0, 0, D, [], rfl, rfl, RN.of_own ho1, RN.of_own ho2, nilr _, nilr _⟩
        · exact absurd hl1 hl2
      · rcases hc2 with ⟨hl2, _⟩ | ⟨hl2, A2, c2, C2, rfl, ho2, hy2⟩
        · exact absurd hl2 hl1
        · obtain rfl := hy1.unique hy2
          exact ⟨none, none, 0, 0, A1, A2, c1, c2, 73, [], C1, rfl, rfl, nilr _, nilr _, RN.of_own ho1, RN.of_own ho2⟩

theorem order_shape {w w' : World} {n : Int} {E : List (Int × Int)} {e : Ending} (h : OrderPost w n E e w') : ∃ v u k, e = .returned (.tuple #[v, u, .int .i64 k]) := by
  rcases h.2 with ⟨_, rfl⟩ | ⟨_, m, D, _, _, ⟨_, A, c, rfl, _⟩ | ⟨_, A, c, C, rfl, _⟩⟩
  · exact ⟨_, _, _, rfl⟩
  · exact ⟨_, _, _, rfl⟩
  · exact ⟨_, _, _, rfl⟩

set_option maxHeartbeats 2000000 in
set_option maxRecDepth 100000 in
theorem graphOrders_walk (n : Int) (E : List (Int × Int)) (A : Option Addr) (c : Nat) (w : World) (hr : kE.C w A E.length E) (hnil : A = none → c = 0) (hE : E.length ≤ 8796093022200) :
    Calls Try.prog 10 #[.int .i64 n, .slice A E.length c] w fun e w' => e = .returned (.bool true) ∧ Below w.heap.size w w' := by
  have HR := Aside0.mk hr
  have HLC := Aside0.mk (lent_calls E A c w hr hnil hE)
  clear hr
  go_enter Try.func10, Try.ntmps10
  go_wp2_with fail
  refine HLC.out.mono ?_
  rintro e w1 ⟨rfl, hb1, hl1⟩
  have HL := Aside0.mk (show Lent w1 w.heap.size E from ⟨_, hl1⟩)
  have HB1 := Aside0.mk hb1
  clear hb1 hl1
  go_wp2_with fail
  refine (order_calls n E _ _ _ (lent_reads HL.out (by omega)) (by omega)).mono ?_
  intro e w2 hp1
  have HP1 := Aside0.mk hp1
  have HB2 := Aside0.mk (HB1.out.trans (hp1.1.mono HB1.out.size))
  have HR2 := Aside0.mk (Kd.C_below HR.out (HB2.out.mono (Nat.le_refl _)))
  have HRC := Aside0.mk (refOrder_calls n E A c w2 HR2.out hE)
  clear hp1
  obtain ⟨v, u, k, rfl⟩ := order_shape HP1.out
  go_wp2_with fail
  refine HRC.out.mono ?_
  intro f w3 hp2
  obtain ⟨A1, A2, c1, c2, B1, B2, d1, d2, k', xs, ys, he, rfl, r1, r2, r3, r4⟩ := order_same HP1.out hp2
  simp only [Ending.returned.injEq, Value.tuple.injEq] at he
  have hv : v = .slice A1 xs.length c1 ∧ u = .slice B1 ys.length d1 ∧ k = k' := by simpa using he
  obtain ⟨rfl, rfl, rfl⟩ := hv
  have HX := Aside0.mk (r1.below hp2.1)
  have HY := Aside0.mk r2
  have HX2 := Aside0.mk (r3.below hp2.1)
  have HY2 := Aside0.mk r4
  have HB3 := Aside0.mk (HB2.out.trans (hp2.1.mono HB2.out.size))
  have HL3 := Aside0.mk ((HL.out.below HP1.out.1).below hp2.1)
  clear hp2 r1 r2 r3 r4 he
  go_wp2_with fail
  refine (sameInts_calls xs xs A1 A2 _ _ c1 c2 _ HX.out HY.out).mono ?_
  rintro e w4 ⟨rfl, q, rfl⟩
  have hs : sameB xs xs = true := by simp [sameB]
  have hs2 : sameB ys ys = true := by simp [sameB]
  have HS2 := Aside0.mk (sameInts_calls ys ys B1 B2 _ _ d1 d2 (w3.drewN q) (HX2.out.below (pw_below_drewN (Below.refl _ _) _)) (HY2.out.below (pw_below_drewN (Below.refl _ _) _)))
  rw [hs2] at HS2
  have HKA := fun (q : Nat) => Aside0.mk (kept_calls E A c w.heap.size (w3.drewN q) (Kd.C_below HR.out (pw_below_drewN HB3.out _)) hE HL3.out)
  have hkk : (k == k) = true := by simp
  rw [hs]
  clear hs hs2
  go_wp2_with fail
  refine HS2.out.mono ?_
  rintro e w4 ⟨rfl, q2, rfl⟩
  have HK := HKA (q + q2)
  go_wp2_with fail
  refine HK.out.mono ?_
  rintro e w5 ⟨rfl, q3, rfl⟩
  go_wp2_with fail
  go_ret
  exact ⟨rfl, pw_below_drewN HB3.out _⟩

end Go.Proofs.Ytdddbjaggfaofaa.Mem
