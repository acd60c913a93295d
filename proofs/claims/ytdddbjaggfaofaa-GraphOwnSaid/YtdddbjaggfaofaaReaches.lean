/- GraphReaches: the program's Reach and the document's give the same things and the same error, and the edges that were lent stay. -/
import Derived.Test.YtdddbjaggfaofaaSame
namespace Go.Proofs.Ytdddbjaggfaofaa.Mem
open Go.RowKit Go.Proofs.Ytdddbjaggfaofaa.GM Go.Proofs.YtdddbjaggfaofaaW.PrintWords
set_option linter.unusedVariables false

theorem rr_same {n : Nat} {E : List (Int × Int)} {R1 R2 : List (List Nat)} (h1 : RowsIn n E false R1) (h2 : RowsIn n E false R2) (a x : Nat) : RR R1 a x ↔ RR R2 a x :=
  ⟨RR.mono (fun p q hq => (h2.2 p q).2 ((h1.2 p q).1 hq)), RR.mono (fun p q hq => (h1.2 p q).2 ((h2.2 p q).1 hq))⟩

theorem reach_same {w1 w2 w3 w4 : World} {n a : Int} {E : List (Int × Int)} {e f : Ending} (h1 : ReachPost w1 n E a e w2) (h2 : ReachPost w3 n E a f w4) :
    (∃ A1 A2 c1 c2 k ys, e = .returned (.tuple #[.slice A1 ys.length c1, .int .i64 k]) ∧ f = .returned (.tuple #[.slice A2 ys.length c2, .int .i64 k]) ∧ RN w2 A1 ys.length ys ∧ RN w4 A2 ys.length ys) := by
  have nilr : ∀ w, RN w none 0 [] := fun w => ⟨rfl, by omega, fun k hk => by simp at hk⟩
  rcases h1.2 with ⟨b1, rfl⟩ | ⟨g1, g2, g3, v, ys, R, rfl, ho, hin, hri, hmem⟩
  · rcases h2.2 with ⟨b2, rfl⟩ | ⟨k1, k2, k3, _⟩
    · exact ⟨none, none, 0, 0, 1, [], rfl, rfl, nilr _, nilr _⟩
    · exact absurd ⟨k1, k2, k3⟩ b1
  · rcases h2.2 with ⟨b2, rfl⟩ | ⟨-, -, -, v', ys', R', rfl, ho', hin', hri', hmem'⟩
    · exact absurd ⟨g1, g2, g3⟩ b2
    · have : ys = ys' := rising_ext hri hri' (fun x => by rw [hmem, hmem', rr_same hin hin'])
      subst this
      obtain ⟨A1, c1, rfl⟩ := own_slice ho
      obtain ⟨A2, c2, rfl⟩ := own_slice ho'
      exact ⟨A1, A2, c1, c2, 0, ys, rfl, rfl, RN.of_own ho, RN.of_own ho'⟩

theorem Lent.below {w w1 : World} {g : Nat} {E : List (Int × Int)} (h : Lent w g E) (hb : Below w.heap.size w w1) : Lent w1 g E := by
  obtain ⟨base, h⟩ := h
  exact ⟨base, own_below h hb⟩

set_option maxHeartbeats 2000000 in
set_option maxRecDepth 100000 in
theorem graphReaches_walk (n a : Int) (E : List (Int × Int)) (A : Option Addr) (c : Nat) (w : World) (hr : kE.C w A E.length E) (hnil : A = none → c = 0) (hE : E.length ≤ 8796093022200) :
    Calls Try.prog 5 #[.int .i64 n, .slice A E.length c, .int .i64 a] w fun e w' => e = .returned (.bool true) ∧ Below w.heap.size w w' := by
  have HR := Aside0.mk hr
  have HLC := Aside0.mk (lent_calls E A c w hr hnil hE)
  clear hr
  go_enter Try.func5, Try.ntmps5
  go_wp2_with fail
  refine HLC.out.mono ?_
  rintro e w1 ⟨rfl, hb1, hl1⟩
  have HL := Aside0.mk (show Lent w1 w.heap.size E from ⟨_, hl1⟩)
  have HB1 := Aside0.mk hb1
  clear hb1 hl1
  go_wp2_with fail
  refine (reach_calls n a E _ _ _ (lent_reads HL.out (by omega)) (by omega)).mono ?_
  intro e w2 hp1
  have HP1 := Aside0.mk hp1
  have HB2 := Aside0.mk (HB1.out.trans (hp1.1.mono HB1.out.size))
  have HR2 := Aside0.mk (Kd.C_below HR.out (HB2.out.mono (Nat.le_refl _)))
  have HRC := Aside0.mk (refReach_calls n a E A c w2 HR2.out (by omega))
  clear hp1
  have hsh : ∃ v k, e = .returned (.tuple #[v, .int .i64 k]) := by
    rcases HP1.out.2 with ⟨_, rfl⟩ | ⟨_, _, _, v, _, _, rfl, _⟩
    · exact ⟨_, _, rfl⟩
    · exact ⟨_, _, rfl⟩
  obtain ⟨v, k, rfl⟩ := hsh
  go_wp2_with fail
  refine HRC.out.mono ?_
  intro f w3 hp2
  obtain ⟨A1, A2, c1, c2, k', ys, he, rfl, r1, r2⟩ := reach_same HP1.out hp2
  simp only [Ending.returned.injEq, Value.tuple.injEq] at he
  have hv : v = .slice A1 ys.length c1 ∧ k = k' := by simpa using he
  obtain ⟨rfl, rfl⟩ := hv
  have HX := Aside0.mk (r1.below hp2.1)
  have HY := Aside0.mk r2
  have HB3 := Aside0.mk (HB2.out.trans (hp2.1.mono HB2.out.size))
  have HL3 := Aside0.mk ((HL.out.below HP1.out.1).below hp2.1)
  clear hp2 r1 r2 he
  go_wp2_with fail
  refine (sameInts_calls ys ys A1 A2 _ _ c1 c2 _ HX.out HY.out).mono ?_
  rintro e w4 ⟨rfl, q, rfl⟩
  have hs : sameB ys ys = true := by simp [sameB]
  have HK := Aside0.mk (kept_calls E A c w.heap.size (w3.drewN q) (Kd.C_below HR.out (pw_below_drewN HB3.out _)) hE HL3.out)
  have hkk : (k == k) = true := by simp
  rw [hs]
  clear hs
  go_wp2_with fail
  refine HK.out.mono ?_
  rintro e w5 ⟨rfl, q2, rfl⟩
  go_wp2_with fail
  go_ret
  exact ⟨rfl, pw_below_drewN HB3.out _⟩

end Go.Proofs.Ytdddbjaggfaofaa.Mem
