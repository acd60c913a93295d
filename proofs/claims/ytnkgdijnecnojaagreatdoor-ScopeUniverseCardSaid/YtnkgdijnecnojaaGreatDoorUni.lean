/- ScopeUniverse's walks: a name's place in the universe, asked of the program and of the document; what nil tells. -/
import Derived.Test.YtnkgdijnecnojaaGreatDoorProg
import Derived.WalkKit
import Derived.Below
import Derived.Outline
import Derived.BigQuiet
import Derived.Deep.QuietTactic
import Derived.Deep.LoopGhost
import Derived.WalkLawsBesides
import Derived.WalkSpells
import Derived.LoopN
namespace Go.Proofs.YtnkgdijnecnojaaGreatDoor.Uni
open Go.RowKit
set_option linter.unusedVariables false

/-- The universe's names, as bytes. -/
def names : List (List UInt8) := [[98, 111, 111, 108], [105, 110, 116], [115, 116, 114, 105, 110, 103], [116, 114, 117, 101], [102, 97, 108, 115, 101], [105, 111, 116, 97], [110, 105, 108], [97, 112, 112, 101, 110, 100], [99, 111, 112, 121], [100, 101, 108, 101, 116, 101], [108, 101, 110], [109, 97, 107, 101], [110, 101, 119], [112, 97, 110, 105, 99], [112, 114, 105, 110, 116]]
def nm (k : Nat) : ByteArray := ⟨(names.getD k []).toArray⟩
theorem names_len : names.length = 15 := rfl

/-- A name's place from place k on; -1: it has none. -/
def idx (s : ByteArray) : Nat → Nat → Int
  | 0, _ => -1
  | n + 1, k => if s.toList = (nm k).toList then (k : Int) else idx s n (k + 1)
theorem idx_lt (s : ByteArray) : ∀ n k, -1 ≤ idx s n k ∧ idx s n k < (k + n : Nat)
  | 0, k => by unfold idx; omega
  | n + 1, k => by
    unfold idx
    split
    · omega
    · have := idx_lt s n (k + 1); omega

/-- The variable at block g holds the names. -/
def Holds (w : World) (g : Nat) : Prop := ∀ k, k < 15 → w.cell? ⟨g, k, none⟩ = some (.string (nm k))

/-- A fact kept from the walk. -/
structure Aside (p : Prop) : Prop where
  out : p

theorem idx_hit {s : ByteArray} {n k : Nat} (h : s.toList = (nm k).toList) : idx s (n + 1) k = (k : Int) := by unfold idx; rw [if_pos h]
theorem idx_miss {s : ByteArray} {n k : Nat} (h : ¬ s.toList = (nm k).toList) : idx s (n + 1) k = idx s n (k + 1) := by rw [idx, if_neg h]

set_option maxHeartbeats 1000000 in
set_option maxRecDepth 100000 in
theorem index_calls (g : Nat) (s : ByteArray) (w : World) (hU : Holds w g) :
    Calls Tryz.prog 11 #[.slice (some ⟨g, 0, none⟩) 15 15, .string s] w fun e w' => e = .returned (.int .i64 (idx s 15 0)) ∧ w = w' := by
  have HU := Aside.mk hU
  clear hU
  go_enter Tryz.func11, Tryz.ntmps11
  go_wp2_with fail
  go_loopg [5, 8] 15 (fun gg a5 i wr => ∃ k : Nat, k ≤ 15 ∧ gg = 15 - k ∧ i = .int .i64 k ∧ w = wr ∧ Aside (idx s (15 - k) k = idx s 15 0))
  case atStart => exact ⟨0, by omega, rfl, rfl, rfl, ⟨rfl⟩⟩
  case round =>
    obtain ⟨k, hk, rfl, rfl, rfl, HI⟩ := hrel
    by_cases hlt : k < 15
    · have hc := HU.out k hlt
      have i0 : (0 : Int) ≤ (k : Int) := by omega
      have i1 : (k : Int) < 15 := by omega
      obtain ⟨x, hx⟩ : ∃ x, x = nm k := ⟨_, rfl⟩
      rw [← hx] at hc
      have h15 : 15 - k = (15 - (k + 1)) + 1 := by omega
      by_cases hs : s.toList = x.toList
      · have HR := Aside.mk (show idx s 15 0 = (k : Int) from by rw [← HI.out, h15, idx_hit (by rw [hs, hx])])
        have hb : (s.toList == x.toList) = true := beq_iff_eq.2 hs
        clear hs hx h15
        go_wp2_with fail
        go_ret
        exact ⟨by rw [HR.out]; rfl, rfl⟩
      · have HR := Aside.mk (show idx s (15 - (k + 1)) (k + 1) = idx s 15 0 from by rw [← HI.out, h15, idx_miss (fun e => hs (by rw [e, hx]))])
        have hb : (s.toList == x.toList) = false := beq_eq_false_iff_ne.2 hs
        clear hs hx h15
        go_wp2_with fail
        go_roundg (15 - (k + 1))
        case rel => exact ⟨k + 1, by omega, rfl, by go_num, rfl, HR⟩
        case measure => omega
    · obtain rfl : k = 15 := by omega
      have HR := Aside.mk (show idx s 15 0 = -1 from HI.out.symm)
      clear HI
      go_wp2_with fail
      go_ret
      exact ⟨by rw [HR.out]; rfl, rfl⟩

set_option maxHeartbeats 1000000 in
set_option maxRecDepth 100000 in
theorem universe_calls (s : ByteArray) (w : World) (hU : Holds w 0) :
    Calls Tryz.prog 4 #[.string s] w fun e w' => e = .returned (.int .i64 (idx s 15 0)) ∧ w = w' := by
  have HC := Aside.mk (index_calls 0 s w hU)
  clear hU
  go_enter Tryz.func4, Tryz.ntmps4
  go_wp2_with fail
  refine HC.out.mono ?_
  rintro e w' ⟨rfl, rfl⟩
  go_wp2_with fail
  go_ret
  exact ⟨rfl, rfl⟩

set_option maxHeartbeats 1000000 in
set_option maxRecDepth 100000 in
theorem refUniverse_calls (s : ByteArray) (w : World) (hU : Holds w 1) :
    Calls Tryz.prog 5 #[.string s] w fun e w' => e = .returned (.int .i64 (idx s 15 0)) ∧ w = w' := by
  have HU := Aside.mk hU
  clear hU
  go_enter Tryz.func5, Tryz.ntmps5
  go_wp2_with fail
  go_loopg [3] 15 (fun gg i wr => ∃ k : Nat, k ≤ 15 ∧ gg = 15 - k ∧ i = .int .i64 k ∧ w = wr ∧ Aside (idx s (15 - k) k = idx s 15 0))
  case atStart => exact ⟨0, by omega, rfl, rfl, rfl, ⟨rfl⟩⟩
  case round =>
    obtain ⟨k, hk, rfl, rfl, rfl, HI⟩ := hrel
    by_cases hlt : k < 15
    · have hc := HU.out k hlt
      have i0 : (0 : Int) ≤ (k : Int) := by omega
      have i1 : (k : Int) < 15 := by omega
      obtain ⟨x, hx⟩ : ∃ x, x = nm k := ⟨_, rfl⟩
      rw [← hx] at hc
      have h15 : 15 - k = (15 - (k + 1)) + 1 := by omega
      by_cases hs : s.toList = x.toList
      · have HR := Aside.mk (show idx s 15 0 = (k : Int) from by rw [← HI.out, h15, idx_hit (by rw [hs, hx])])
        have hb : (x.toList == s.toList) = true := beq_iff_eq.2 hs.symm
        clear hs hx h15
        go_wp2_with fail
        go_ret
        exact ⟨by rw [HR.out]; rfl, rfl⟩
      · have HR := Aside.mk (show idx s (15 - (k + 1)) (k + 1) = idx s 15 0 from by rw [← HI.out, h15, idx_miss (fun e => hs (by rw [e, hx]))])
        have hb : (x.toList == s.toList) = false := beq_eq_false_iff_ne.2 (fun e => hs e.symm)
        clear hs hx h15
        go_wp2_with fail
        go_roundg (15 - (k + 1))
        case rel => exact ⟨k + 1, by omega, rfl, by go_num, rfl, HR⟩
        case measure => omega
    · obtain rfl : k = 15 := by omega
      have HR := Aside.mk (show idx s 15 0 = -1 from HI.out.symm)
      clear HI
      go_wp2_with fail
      go_ret
      exact ⟨by rw [HR.out]; rfl, rfl⟩

set_option maxHeartbeats 1000000 in
set_option maxRecDepth 100000 in
theorem resolve_nil (w : World) :
    Calls Tryz.prog 6 #[.pointer none] w fun e w' => e = .returned (.tuple #[.pointer none, .agg #[.int .i64 1, .int .i64 0, .int .i64 0]]) ∧ Below w.heap.size w w' := by
  go_enter Tryz.func6, Tryz.ntmps6
  go_wp2_with fail
  refine bodyPost_ret (v := .tuple #[.pointer none, .agg #[.int .i64 1, .int .i64 0, .int .i64 0]]) ?_ rfl ⟨rfl, (Below.refl _ w).alloc (Nat.le_refl _) _⟩
  simp [results, Tryz.results6, go_sem]

theorem decls_nil (w : World) :
    Calls Tryz.prog 7 #[.pointer none] w fun e w' => e = .returned (.slice none 0 0) ∧ w = w' := by
  go_enter Tryz.func7, Tryz.ntmps7
  go_wp2_with fail
  go_ret
  exact ⟨rfl, rfl⟩
theorem bound_nil (a b : Int) (w : World) :
    Calls Tryz.prog 8 #[.pointer none, .agg #[.int .i64 a, .int .i64 b]] w fun e w' => e = .returned (.int .i64 (-1)) ∧ Below w.heap.size w w' := by
  go_enter Tryz.func8, Tryz.ntmps8
  go_wp2_with fail
  go_ret
  exact ⟨rfl, (Below.refl _ w).alloc (Nat.le_refl _) _⟩
theorem makes_nil (a b : Int) (w : World) :
    Calls Tryz.prog 9 #[.pointer none, .agg #[.int .i64 a, .int .i64 b]] w fun e w' => e = .returned (.int .i64 (-1)) ∧ Below w.heap.size w w' := by
  go_enter Tryz.func9, Tryz.ntmps9
  go_wp2_with fail
  go_ret
  exact ⟨rfl, (Below.refl _ w).alloc (Nat.le_refl _) _⟩
theorem below_drewN {B : Nat} {a w : World} (h : Below B a w) (n : Nat) : Below B a (w.drewN n) := ⟨h.os, h.tape, h.output, h.size, h.block⟩
set_option maxHeartbeats 1000000 in
set_option maxRecDepth 100000 in
theorem known_nil (a b : Int) (w : World) :
    Calls Tryz.prog 10 #[.pointer none, .agg #[.int .i64 a, .int .i64 b]] w fun e w' => e = .returned (.slice none 0 0) ∧ Below w.heap.size w w' := by
  go_enter Tryz.func10, Tryz.ntmps10
  go_wp2_with fail
  go_quiet (fail)
  go_wp2_with fail
  go_ret
  exact ⟨rfl, below_drewN (((Below.refl _ w).alloc (Nat.le_refl _) _).alloc (by simp) _) _⟩

theorem Holds.below {w w' : World} {g : Nat} (h : Holds w g) (hg : g < w.heap.size) (hb : Below w.heap.size w w') : Holds w' g :=
  fun k hk => (hb.cell (p := ⟨g, k, none⟩) hg).trans (h k hk)

/-- The place in its box, at block z. -/
structure Boxed (z : Nat) (a b : Int) (w : World) : Prop where
  size : z < w.heap.size
  c0 : w.cell? ⟨z, 0, none⟩ = some (.int .i64 a)
  c1 : w.cell? ⟨z, 1, none⟩ = some (.int .i64 b)
theorem Boxed.below {z : Nat} {a b : Int} {w w' : World} (h : Boxed z a b w) (hb : Below w.heap.size w w') : Boxed z a b w' :=
  ⟨Nat.lt_of_lt_of_le h.size hb.size, (hb.cell (p := ⟨z, 0, none⟩) h.size).trans h.c0, (hb.cell (p := ⟨z, 1, none⟩) h.size).trans h.c1⟩
set_option maxHeartbeats 2000000 in
set_option maxRecDepth 100000 in
theorem law_calls (s : ByteArray) (a b : Int) (w : World) (hz : 2 ≤ w.heap.size) (h0 : Holds w 0) (h1 : Holds w 1) :
    Calls Tryz.prog 3 #[.string s, .agg #[.int .i64 a, .int .i64 b]] w fun e w' => e = .returned (.bool true) ∧ Below w.heap.size w w' := by
  have HB := Aside.mk ((Below.refl w.heap.size w).alloc (Nat.le_refl _) (Obj.cells #[Value.int IntKind.i64 a, Value.int IntKind.i64 b] 23))
  have HX := Aside.mk (show Boxed w.heap.size a b (w.alloc (Obj.cells #[Value.int IntKind.i64 a, Value.int IntKind.i64 b] 23)) from ⟨by simp, by simp, by simp⟩)
  have H0 := Aside.mk (h0.below (by omega) HB.out)
  have H1 := Aside.mk (h1.below (by omega) HB.out)
  clear h0 h1
  go_enter Tryz.func3, Tryz.ntmps3
  go_wp2_with (first | (refine (universe_calls s _ H0.out).mono ?_; rintro e w' ⟨rfl, rfl⟩) | (refine (refUniverse_calls s _ H1.out).mono ?_; rintro e w' ⟨rfl, rfl⟩))
  refine (resolve_nil _).mono ?_
  rintro e w1 ⟨rfl, hb1⟩
  have HX1 := Aside.mk (HX.out.below hb1)
  have HB1 := Aside.mk (HB.out.trans (hb1.mono (Nat.le_of_lt HX.out.size)))
  clear hb1 HB HX H0 H1
  go_wp2_with fail
  refine (decls_nil _).mono ?_
  rintro e w2 ⟨rfl, hb2⟩
  have hd2 := (Below.refl w1.heap.size w1).alloc (Nat.le_refl _) (Obj.cells #[Value.int IntKind.i64 1, Value.int IntKind.i64 0, Value.int IntKind.i64 0] 28)
  rw [hb2] at hd2
  have HX2 := Aside.mk (HX1.out.below hd2)
  have HB2 := Aside.mk (HB1.out.trans (hd2.mono (Nat.le_of_lt HX1.out.size)))
  clear hd2 hb2
  have g0 := HX2.out.c0
  have g1 := HX2.out.c1
  go_wp2_with fail
  refine (bound_nil a b _).mono ?_
  rintro e w3 ⟨rfl, hb3⟩
  have HX3 := Aside.mk (HX2.out.below hb3)
  have HB3 := Aside.mk (HB2.out.trans (hb3.mono (Nat.le_of_lt HX2.out.size)))
  clear hb3 g0 g1
  have g0 := HX3.out.c0
  have g1 := HX3.out.c1
  go_wp2_with fail
  refine (makes_nil a b _).mono ?_
  rintro e w4 ⟨rfl, hb4⟩
  have HX4 := Aside.mk (HX3.out.below hb4)
  have HB4 := Aside.mk (HB3.out.trans (hb4.mono (Nat.le_of_lt HX3.out.size)))
  clear hb4 g0 g1
  have g0 := HX4.out.c0
  have g1 := HX4.out.c1
  go_wp2_with fail
  refine (known_nil a b _).mono ?_
  rintro e w5 ⟨rfl, hb5⟩
  have HB5 := Aside.mk (HB4.out.trans (hb5.mono (Nat.le_of_lt HX4.out.size)))
  clear hb5 g0 g1
  go_wp2_with fail
  go_ret
  exact ⟨rfl, HB5.out⟩

end Go.Proofs.YtnkgdijnecnojaaGreatDoor.Uni
