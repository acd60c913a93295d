/- The walks of GraphParts and GraphClasses. -/
import Derived.Test.YtdddbjaggfaofaaRp
import Derived.Test.YtdddbjaggfaofaaSp
import Derived.Test.YtdddbjaggfaofaaReaches
import Derived.Test.YtdddbjaggfaofaaClsC

namespace Go.Proofs.Ytdddbjaggfaofaa.Mem
open Go.RowKit Go.Proofs.Ytdddbjaggfaofaa.GM Go.Proofs.YtdddbjaggfaofaaW.PrintWords
set_option linter.unusedVariables false

theorem rows_none (w : World) (b : Nat) : OwnRows w b (.slice none 0 0) [] [] := ⟨World.ownsRow_nil _ _ _ _, fun i x hx => by simp at hx, fun i j x y b _ hx => by simp at hx⟩

theorem gparts_same {w1 w2 w3 w4 : World} {n : Int} {E : List (Int × Int)} {e f : Ending} (h1 : GPartsPost 1 w1 n E e w2) (h2 : GPartsPost 1 w3 n E f w4) :
    ∃ A1 A2 c1 c2 k R vs us b1 b2, e = .returned (.tuple #[.slice A1 R.length c1, .int .i64 k]) ∧ f = .returned (.tuple #[.slice A2 R.length c2, .int .i64 k]) ∧ OwnRows w2 b1 (.slice A1 R.length c1) vs R ∧ OwnRows w4 b2 (.slice A2 R.length c2) us R ∧ R.length ≤ 131072 := by
  rcases h1.2 with ⟨b1, rfl⟩ | ⟨g1, m, v, vals, D, rfl, g2, rfl, ho, hf⟩
  · rcases h2.2 with ⟨b2, rfl⟩ | ⟨k1, m, v, vals, D, rfl, k2, rfl, ho, hf⟩
    · exact ⟨none, none, 0, 0, 1, [], [], [], 0, 0, rfl, rfl, rows_none _ _, rows_none _ _, by simp⟩
    · exact absurd ⟨by omega, by omega, k1⟩ b1
  · rcases h2.2 with ⟨b2, rfl⟩ | ⟨k1, m', v', vals', D', hm, k2, rfl, ho', hf'⟩
    · exact absurd ⟨by omega, by omega, g1⟩ b2
    · obtain rfl : m = m' := by omega
      have e := hf.unique hf'
      subst e
      obtain ⟨A1, c1, rfl⟩ := own_slice ho.outer
      obtain ⟨A2, c2, rfl⟩ := own_slice ho'.outer
      exact ⟨A1, A2, c1, c2, 0, _, vals, vals', _, _, rfl, rfl, ho, ho', by rw [List.length_map]; exact Nat.le_trans (hf.1.length_le (fun x hx => hx.1)) g2⟩

set_option maxHeartbeats 2000000 in
set_option maxRecDepth 100000 in
theorem graphParts_walk (n : Int) (E : List (Int × Int)) (A : Option Addr) (c : Nat) (w : World) (hr : kE.C w A E.length E) (hnil : A = none → c = 0) (hE : E.length ≤ 8796093022200) :
    Calls Try.prog 7 #[.int .i64 n, .slice A E.length c] w fun e w' => e = .returned (.bool true) ∧ Below w.heap.size w w' := by
  have HR := Aside0.mk hr
  have HLC := Aside0.mk (lent_calls E A c w hr hnil hE)
  clear hr
  go_enter Try.func7, Try.ntmps7
  go_wp2_with fail
  refine HLC.out.mono ?_
  rintro e w1 ⟨rfl, hb1, hl1⟩
  have HL := Aside0.mk (show Lent w1 w.heap.size E from ⟨_, hl1⟩)
  have HB1 := Aside0.mk hb1
  clear hb1 hl1
  go_wp2_with fail
  refine (gparts_calls n E _ _ _ (lent_reads HL.out (by omega)) (by omega)).mono ?_
  intro e w2 hp1
  have HP1 := Aside0.mk hp1
  have HB2 := Aside0.mk (HB1.out.trans (hp1.1.mono HB1.out.size))
  have HR2 := Aside0.mk (Kd.C_below HR.out (HB2.out.mono (Nat.le_refl _)))
  have HRC := Aside0.mk (refParts_calls n E A c w2 HR2.out (by omega))
  clear hp1
  have hsh : ∃ v k, e = .returned (.tuple #[v, .int .i64 k]) := by
    rcases HP1.out.2 with ⟨_, rfl⟩ | ⟨_, _, v, _, _, _, _, rfl, _⟩
    · exact ⟨_, _, rfl⟩
    · exact ⟨_, _, rfl⟩
  obtain ⟨v, k, rfl⟩ := hsh
  go_wp2_with fail
  refine HRC.out.mono ?_
  intro f w3 hp2
  obtain ⟨A1, A2, c1, c2, k', R, vs, us, b1, b2, he, rfl, r1, r2, hR⟩ := gparts_same HP1.out hp2
  simp only [Ending.returned.injEq, Value.tuple.injEq] at he
  have hv : v = .slice A1 R.length c1 ∧ k = k' := by simpa using he
  obtain ⟨rfl, rfl⟩ := hv
  have HSP := Aside0.mk (sameParts_calls R A1 A2 c1 c2 b1 b2 vs us w3 (r1.below hp2.1) r2 hR)
  have HB3 := Aside0.mk (HB2.out.trans (hp2.1.mono HB2.out.size))
  have HL3 := Aside0.mk ((HL.out.below HP1.out.1).below hp2.1)
  clear hp2 r1 r2 he
  go_wp2_with fail
  refine HSP.out.mono ?_
  rintro e w4 ⟨rfl, q, rfl⟩
  have HK := Aside0.mk (kept_calls E A c w.heap.size (w3.drewN q) (Kd.C_below HR.out (pw_below_drewN HB3.out _)) hE HL3.out)
  have hkk : (k == k) = true := by simp
  go_wp2_with fail
  refine HK.out.mono ?_
  rintro e w5 ⟨rfl, q2, rfl⟩
  go_wp2_with fail
  go_ret
  exact ⟨rfl, pw_below_drewN HB3.out _⟩

end Go.Proofs.Ytdddbjaggfaofaa.Mem

namespace Go.Proofs.Ytdddbjaggfaofaa.Mem
open Go.RowKit Go.Proofs.Ytdddbjaggfaofaa.GM Go.Proofs.YtdddbjaggfaofaaW.PrintWords
set_option linter.unusedVariables false

theorem classes_same {w1 w2 w3 w4 : World} {n : Int} {E : List (Int × Int)} {e f : Ending} (h1 : ClassesPost w1 n E e w2) (h2 : ClassesPost w3 n E f w4) :
    (∃ A1 A2 c1 c2 k ys, e = .returned (.tuple #[.slice A1 ys.length c1, .int .i64 k]) ∧ f = .returned (.tuple #[.slice A2 ys.length c2, .int .i64 k]) ∧ RN w2 A1 ys.length ys ∧ RN w4 A2 ys.length ys) := by
  have nilr : ∀ w, RN w none 0 [] := fun w => ⟨rfl, by omega, fun k hk => by simp at hk⟩
  rcases h1.2 with ⟨b1, rfl⟩ | ⟨g1, m, v, P, hm, rfl, ho, hl, hleast⟩
  · rcases h2.2 with ⟨b2, rfl⟩ | ⟨k1, _⟩
    · exact ⟨none, none, 0, 0, 1, [], rfl, rfl, nilr _, nilr _⟩
    · exact absurd k1 b1
  · rcases h2.2 with ⟨b2, rfl⟩ | ⟨-, m', v', P', hm', rfl, ho', hl', hleast'⟩
    · exact absurd g1 b2
    · have hmm : m = m' := by omega
      subst hmm
      have : P = P' := same_lists hl hl' hleast hleast'
      subst this
      obtain ⟨A1, c1, rfl⟩ := own_slice ho
      obtain ⟨A2, c2, rfl⟩ := own_slice ho'
      exact ⟨A1, A2, c1, c2, 0, P, rfl, rfl, RN.of_own ho, RN.of_own ho'⟩

set_option maxHeartbeats 2000000 in
set_option maxRecDepth 100000 in
theorem graphClasses_walk (n : Int) (E : List (Int × Int)) (A : Option Addr) (c : Nat) (w : World) (hr : kE.C w A E.length E) (hnil : A = none → c = 0) (hE : E.length ≤ 8796093022200) :
    Calls Try.prog 6 #[.int .i64 n, .slice A E.length c] w fun e w' => e = .returned (.bool true) ∧ Below w.heap.size w w' := by
  have HR := Aside0.mk hr
  have HLC := Aside0.mk (lent_calls E A c w hr hnil hE)
  clear hr
  go_enter Try.func6, Try.ntmps6
  go_wp2_with fail
  refine HLC.out.mono ?_
  rintro e w1 ⟨rfl, hb1, hl1⟩
  have HL := Aside0.mk (show Lent w1 w.heap.size E from ⟨_, hl1⟩)
  have HB1 := Aside0.mk hb1
  clear hb1 hl1
  go_wp2_with fail
  refine (classes_calls n E _ _ _ (lent_reads HL.out (by omega)) (by omega)).mono ?_
  intro e w2 hp1
  have HP1 := Aside0.mk hp1
  have HB2 := Aside0.mk (HB1.out.trans (hp1.1.mono HB1.out.size))
  have HR2 := Aside0.mk (Kd.C_below HR.out (HB2.out.mono (Nat.le_refl _)))
  have HRC := Aside0.mk (refClasses_calls n E A c w2 HR2.out (by omega))
  clear hp1
  have hsh : ∃ v k, e = .returned (.tuple #[v, .int .i64 k]) := by
    rcases HP1.out.2 with ⟨_, rfl⟩ | ⟨_, _, v, _, _, rfl, _⟩
    · exact ⟨_, _, rfl⟩
    · exact ⟨_, _, rfl⟩
  obtain ⟨v, k, rfl⟩ := hsh
  go_wp2_with fail
  refine HRC.out.mono ?_
  intro f w3 hp2
  obtain ⟨A1, A2, c1, c2, k', ys, he, rfl, r1, r2⟩ := classes_same HP1.out hp2
  simp only [Ending.returned.injEq, Value.tuple.injEq] at he
  have hv : v = .slice A1 ys.length c1 ∧ k = k' := by simpa using he
  obtain ⟨rfl, rfl⟩ := hv
  have HX := Aside0.mk (r1.below hp2.1)
  have HY := Aside0.mk r2
  have HB3 := Aside0.mk (HB2.out.trans (hp2.1.mono HB2.out.size))
  have HL3 := Aside0.mk ((HL.out.below HP1.out.1).below hp2.1)
  clear hp2 r1 r2 he
  go_wp2_with fail
  refine (sameInts_calls ys ys A1 A2 _ _ c1 c2 _ HX.out HY.out).mono ?_
  rintro e w4 ⟨rfl, q, rfl⟩
  have hs : sameB ys ys = true := by simp [sameB]
  have HK := Aside0.mk (kept_calls E A c w.heap.size (w3.drewN q) (Kd.C_below HR.out (pw_below_drewN HB3.out _)) hE HL3.out)
  have hkk : (k == k) = true := by simp
  rw [hs]
  clear hs
  go_wp2_with fail
  refine HK.out.mono ?_
  rintro e w5 ⟨rfl, q2, rfl⟩
  go_wp2_with fail
  go_ret
  exact ⟨rfl, pw_below_drewN HB3.out _⟩

end Go.Proofs.Ytdddbjaggfaofaa.Mem
