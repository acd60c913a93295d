/- GraphTogether: the whole law: where the edges are none, or a thing is none, all are told so. -/
import Derived.Test.YtdddbjaggfaofaaTogether
namespace Go.Proofs.Ytdddbjaggfaofaa.Mem
open Go.RowKit Go.Proofs.Ytdddbjaggfaofaa.GM Go.Proofs.YtdddbjaggfaofaaW.PrintWords
set_option linter.unusedVariables false

set_option maxHeartbeats 1000000 in
set_option maxRecDepth 100000 in
theorem tog_none (n a b : Int) (E : List (Int × Int)) (A : Option Addr) (c : Nat) (w : World) (hr : kE.C w A E.length E) (hE : E.length ≤ 8796093022200) (hall : ¬ AllOk n E) :
    Calls Try.prog 8 #[.int .i64 n, .slice A E.length c, .int .i64 a, .int .i64 b] w fun e w' => e = .returned (.bool true) ∧ Below w.heap.size w w' := by
  have HR := Aside0.mk hr
  clear hr
  have HALL := Aside0.mk hall
  clear hall
  go_enter Try.func8, Try.ntmps8
  go_wp2_with fail
  refine (reach_bad n a E A c w HR.out (by omega) (fun h => by exact HALL.out h.1)).mono ?_
  rintro e w1 ⟨rfl, hb1⟩
  have HB1 := Aside0.mk (hb1)
  clear hb1
  go_wp2_with fail
  refine (reach_bad n b E A c w1 (Kd.C_below HR.out HB1.out) (by omega) (fun h => by exact HALL.out h.1)).mono ?_
  rintro e w2 ⟨rfl, hb2⟩
  have HB2 := Aside0.mk (HB1.out.trans (hb2.mono HB1.out.size))
  clear hb2
  go_wp2_with fail
  refine (gparts_bad n E A c w2 (Kd.C_below HR.out HB2.out) hE HALL.out).mono ?_
  rintro e w3 ⟨rfl, hb3⟩
  have HB3 := Aside0.mk (HB2.out.trans (hb3.mono HB2.out.size))
  clear hb3
  go_wp2_with fail
  refine (right_bad n E A c w3 (Kd.C_below HR.out HB3.out) (by omega) HALL.out).mono ?_
  rintro e w4 ⟨rfl, hb4⟩
  have HB4 := Aside0.mk (HB3.out.trans (hb4.mono HB3.out.size))
  clear hb4
  go_wp2_with fail
  go_ret
  exact ⟨rfl, HB4.out⟩

set_option maxHeartbeats 1000000 in
set_option maxRecDepth 100000 in
theorem tog_lo_lo (n : Nat) (a : Int) (b : Int) (E : List (Int × Int)) (A : Option Addr) (c : Nat) (w : World) (hr : kE.C w A E.length E) (hE : E.length ≤ 8796093022200) (hall : AllOk n E) (ha : a < 0) (hb : b < 0) :
    Calls Try.prog 8 #[.int .i64 n, .slice A E.length c, .int .i64 a, .int .i64 b] w fun e w' => e = .returned (.bool true) ∧ Below w.heap.size w w' := by
  have HR := Aside0.mk hr
  clear hr
  have HALL := Aside0.mk hall
  clear hall
  go_enter Try.func8, Try.ntmps8
  go_wp2_with fail
  refine (reach_bad n a E A c w HR.out (by omega) (fun h => by omega)).mono ?_
  rintro e w1 ⟨rfl, hb1⟩
  have HB1 := Aside0.mk (hb1)
  clear hb1
  go_wp2_with fail
  refine (reach_bad n b E A c w1 (Kd.C_below HR.out HB1.out) (by omega) (fun h => by omega)).mono ?_
  rintro e w2 ⟨rfl, hb2⟩
  have HB2 := Aside0.mk (HB1.out.trans (hb2.mono HB1.out.size))
  clear hb2
  go_wp2_with fail
  refine (gparts_good n E A c w2 (Kd.C_below HR.out HB2.out) hE HALL.out).mono ?_
  rintro e w3 ⟨A3, c3, vals, D, rfl, -, -, -, hb3⟩
  have HB3 := Aside0.mk (HB2.out.trans (hb3.mono HB2.out.size))
  clear hb3
  go_wp2_with fail
  refine (right_good n E A c w3 (Kd.C_below HR.out HB3.out) (by omega) HALL.out).mono ?_
  rintro e w4 ⟨rfl, hb4⟩
  have HB4 := Aside0.mk (HB3.out.trans (hb4.mono HB3.out.size))
  clear hb4
  go_wp2_with fail
  go_ret
  exact ⟨rfl, HB4.out⟩

set_option maxHeartbeats 1000000 in
set_option maxRecDepth 100000 in
theorem tog_lo_hi (n : Nat) (a : Int) (b : Int) (E : List (Int × Int)) (A : Option Addr) (c : Nat) (w : World) (hr : kE.C w A E.length E) (hE : E.length ≤ 8796093022200) (hall : AllOk n E) (ha : a < 0) (hb0 : 0 ≤ b) (hb : (n : Int) ≤ b) :
    Calls Try.prog 8 #[.int .i64 n, .slice A E.length c, .int .i64 a, .int .i64 b] w fun e w' => e = .returned (.bool true) ∧ Below w.heap.size w w' := by
  have HR := Aside0.mk hr
  clear hr
  have HALL := Aside0.mk hall
  clear hall
  go_enter Try.func8, Try.ntmps8
  go_wp2_with fail
  refine (reach_bad n a E A c w HR.out (by omega) (fun h => by omega)).mono ?_
  rintro e w1 ⟨rfl, hb1⟩
  have HB1 := Aside0.mk (hb1)
  clear hb1
  go_wp2_with fail
  refine (reach_bad n b E A c w1 (Kd.C_below HR.out HB1.out) (by omega) (fun h => by omega)).mono ?_
  rintro e w2 ⟨rfl, hb2⟩
  have HB2 := Aside0.mk (HB1.out.trans (hb2.mono HB1.out.size))
  clear hb2
  go_wp2_with fail
  refine (gparts_good n E A c w2 (Kd.C_below HR.out HB2.out) hE HALL.out).mono ?_
  rintro e w3 ⟨A3, c3, vals, D, rfl, -, -, -, hb3⟩
  have HB3 := Aside0.mk (HB2.out.trans (hb3.mono HB2.out.size))
  clear hb3
  go_wp2_with fail
  refine (right_good n E A c w3 (Kd.C_below HR.out HB3.out) (by omega) HALL.out).mono ?_
  rintro e w4 ⟨rfl, hb4⟩
  have HB4 := Aside0.mk (HB3.out.trans (hb4.mono HB3.out.size))
  clear hb4
  go_wp2_with fail
  go_ret
  exact ⟨rfl, HB4.out⟩

set_option maxHeartbeats 1000000 in
set_option maxRecDepth 100000 in
theorem tog_lo_ok (n : Nat) (a : Int) (b : Nat) (E : List (Int × Int)) (A : Option Addr) (c : Nat) (w : World) (hr : kE.C w A E.length E) (hE : E.length ≤ 8796093022200) (hall : AllOk n E) (ha : a < 0) (hb : b < n) :
    Calls Try.prog 8 #[.int .i64 n, .slice A E.length c, .int .i64 a, .int .i64 b] w fun e w' => e = .returned (.bool true) ∧ Below w.heap.size w w' := by
  have HR := Aside0.mk hr
  clear hr
  have HALL := Aside0.mk hall
  clear hall
  go_enter Try.func8, Try.ntmps8
  go_wp2_with fail
  refine (reach_bad n a E A c w HR.out (by omega) (fun h => by omega)).mono ?_
  rintro e w1 ⟨rfl, hb1⟩
  have HB1 := Aside0.mk (hb1)
  clear hb1
  go_wp2_with fail
  refine (reach_good n b E A c w1 (Kd.C_below HR.out HB1.out) (by omega) HALL.out (by omega)).mono ?_
  rintro e w2 ⟨A2, c2, xs2, rfl, -, -, -, -, hb2⟩
  have HB2 := Aside0.mk (HB1.out.trans (hb2.mono HB1.out.size))
  clear hb2
  go_wp2_with fail
  refine (gparts_good n E A c w2 (Kd.C_below HR.out HB2.out) hE HALL.out).mono ?_
  rintro e w3 ⟨A3, c3, vals, D, rfl, -, -, -, hb3⟩
  have HB3 := Aside0.mk (HB2.out.trans (hb3.mono HB2.out.size))
  clear hb3
  go_wp2_with fail
  refine (right_good n E A c w3 (Kd.C_below HR.out HB3.out) (by omega) HALL.out).mono ?_
  rintro e w4 ⟨rfl, hb4⟩
  have HB4 := Aside0.mk (HB3.out.trans (hb4.mono HB3.out.size))
  clear hb4
  go_wp2_with fail
  go_ret
  exact ⟨rfl, HB4.out⟩

set_option maxHeartbeats 1000000 in
set_option maxRecDepth 100000 in
theorem tog_hi_lo (n : Nat) (a : Int) (b : Int) (E : List (Int × Int)) (A : Option Addr) (c : Nat) (w : World) (hr : kE.C w A E.length E) (hE : E.length ≤ 8796093022200) (hall : AllOk n E) (ha0 : 0 ≤ a) (ha : (n : Int) ≤ a) (hb : b < 0) :
    Calls Try.prog 8 #[.int .i64 n, .slice A E.length c, .int .i64 a, .int .i64 b] w fun e w' => e = .returned (.bool true) ∧ Below w.heap.size w w' := by
  have HR := Aside0.mk hr
  clear hr
  have HALL := Aside0.mk hall
  clear hall
  go_enter Try.func8, Try.ntmps8
  go_wp2_with fail
  refine (reach_bad n a E A c w HR.out (by omega) (fun h => by omega)).mono ?_
  rintro e w1 ⟨rfl, hb1⟩
  have HB1 := Aside0.mk (hb1)
  clear hb1
  go_wp2_with fail
  refine (reach_bad n b E A c w1 (Kd.C_below HR.out HB1.out) (by omega) (fun h => by omega)).mono ?_
  rintro e w2 ⟨rfl, hb2⟩
  have HB2 := Aside0.mk (HB1.out.trans (hb2.mono HB1.out.size))
  clear hb2
  go_wp2_with fail
  refine (gparts_good n E A c w2 (Kd.C_below HR.out HB2.out) hE HALL.out).mono ?_
  rintro e w3 ⟨A3, c3, vals, D, rfl, -, -, -, hb3⟩
  have HB3 := Aside0.mk (HB2.out.trans (hb3.mono HB2.out.size))
  clear hb3
  go_wp2_with fail
  refine (right_good n E A c w3 (Kd.C_below HR.out HB3.out) (by omega) HALL.out).mono ?_
  rintro e w4 ⟨rfl, hb4⟩
  have HB4 := Aside0.mk (HB3.out.trans (hb4.mono HB3.out.size))
  clear hb4
  go_wp2_with fail
  go_ret
  exact ⟨rfl, HB4.out⟩

set_option maxHeartbeats 1000000 in
set_option maxRecDepth 100000 in
theorem tog_hi_hi (n : Nat) (a : Int) (b : Int) (E : List (Int × Int)) (A : Option Addr) (c : Nat) (w : World) (hr : kE.C w A E.length E) (hE : E.length ≤ 8796093022200) (hall : AllOk n E) (ha0 : 0 ≤ a) (ha : (n : Int) ≤ a) (hb0 : 0 ≤ b) (hb : (n : Int) ≤ b) :
    Calls Try.prog 8 #[.int .i64 n, .slice A E.length c, .int .i64 a, .int .i64 b] w fun e w' => e = .returned (.bool true) ∧ Below w.heap.size w w' := by
  have HR := Aside0.mk hr
  clear hr
  have HALL := Aside0.mk hall
  clear hall
  go_enter Try.func8, Try.ntmps8
  go_wp2_with fail
  refine (reach_bad n a E A c w HR.out (by omega) (fun h => by omega)).mono ?_
  rintro e w1 ⟨rfl, hb1⟩
  have HB1 := Aside0.mk (hb1)
  clear hb1
  go_wp2_with fail
  refine (reach_bad n b E A c w1 (Kd.C_below HR.out HB1.out) (by omega) (fun h => by omega)).mono ?_
  rintro e w2 ⟨rfl, hb2⟩
  have HB2 := Aside0.mk (HB1.out.trans (hb2.mono HB1.out.size))
  clear hb2
  go_wp2_with fail
  refine (gparts_good n E A c w2 (Kd.C_below HR.out HB2.out) hE HALL.out).mono ?_
  rintro e w3 ⟨A3, c3, vals, D, rfl, -, -, -, hb3⟩
  have HB3 := Aside0.mk (HB2.out.trans (hb3.mono HB2.out.size))
  clear hb3
  go_wp2_with fail
  refine (right_good n E A c w3 (Kd.C_below HR.out HB3.out) (by omega) HALL.out).mono ?_
  rintro e w4 ⟨rfl, hb4⟩
  have HB4 := Aside0.mk (HB3.out.trans (hb4.mono HB3.out.size))
  clear hb4
  go_wp2_with fail
  go_ret
  exact ⟨rfl, HB4.out⟩

set_option maxHeartbeats 1000000 in
set_option maxRecDepth 100000 in
theorem tog_hi_ok (n : Nat) (a : Int) (b : Nat) (E : List (Int × Int)) (A : Option Addr) (c : Nat) (w : World) (hr : kE.C w A E.length E) (hE : E.length ≤ 8796093022200) (hall : AllOk n E) (ha0 : 0 ≤ a) (ha : (n : Int) ≤ a) (hb : b < n) :
    Calls Try.prog 8 #[.int .i64 n, .slice A E.length c, .int .i64 a, .int .i64 b] w fun e w' => e = .returned (.bool true) ∧ Below w.heap.size w w' := by
  have HR := Aside0.mk hr
  clear hr
  have HALL := Aside0.mk hall
  clear hall
  go_enter Try.func8, Try.ntmps8
  go_wp2_with fail
  refine (reach_bad n a E A c w HR.out (by omega) (fun h => by omega)).mono ?_
  rintro e w1 ⟨rfl, hb1⟩
  have HB1 := Aside0.mk (hb1)
  clear hb1
  go_wp2_with fail
  refine (reach_good n b E A c w1 (Kd.C_below HR.out HB1.out) (by omega) HALL.out (by omega)).mono ?_
  rintro e w2 ⟨A2, c2, xs2, rfl, -, -, -, -, hb2⟩
  have HB2 := Aside0.mk (HB1.out.trans (hb2.mono HB1.out.size))
  clear hb2
  go_wp2_with fail
  refine (gparts_good n E A c w2 (Kd.C_below HR.out HB2.out) hE HALL.out).mono ?_
  rintro e w3 ⟨A3, c3, vals, D, rfl, -, -, -, hb3⟩
  have HB3 := Aside0.mk (HB2.out.trans (hb3.mono HB2.out.size))
  clear hb3
  go_wp2_with fail
  refine (right_good n E A c w3 (Kd.C_below HR.out HB3.out) (by omega) HALL.out).mono ?_
  rintro e w4 ⟨rfl, hb4⟩
  have HB4 := Aside0.mk (HB3.out.trans (hb4.mono HB3.out.size))
  clear hb4
  go_wp2_with fail
  go_ret
  exact ⟨rfl, HB4.out⟩

set_option maxHeartbeats 1000000 in
set_option maxRecDepth 100000 in
theorem tog_ok_lo (n : Nat) (a : Nat) (b : Int) (E : List (Int × Int)) (A : Option Addr) (c : Nat) (w : World) (hr : kE.C w A E.length E) (hE : E.length ≤ 8796093022200) (hall : AllOk n E) (ha : a < n) (hb : b < 0) :
    Calls Try.prog 8 #[.int .i64 n, .slice A E.length c, .int .i64 a, .int .i64 b] w fun e w' => e = .returned (.bool true) ∧ Below w.heap.size w w' := by
  have HR := Aside0.mk hr
  clear hr
  have HALL := Aside0.mk hall
  clear hall
  go_enter Try.func8, Try.ntmps8
  go_wp2_with fail
  refine (reach_good n a E A c w HR.out (by omega) HALL.out (by omega)).mono ?_
  rintro e w1 ⟨A1, c1, xs1, rfl, -, -, -, -, hb1⟩
  have HB1 := Aside0.mk (hb1)
  clear hb1
  go_wp2_with fail
  refine (reach_bad n b E A c w1 (Kd.C_below HR.out HB1.out) (by omega) (fun h => by omega)).mono ?_
  rintro e w2 ⟨rfl, hb2⟩
  have HB2 := Aside0.mk (HB1.out.trans (hb2.mono HB1.out.size))
  clear hb2
  go_wp2_with fail
  refine (gparts_good n E A c w2 (Kd.C_below HR.out HB2.out) hE HALL.out).mono ?_
  rintro e w3 ⟨A3, c3, vals, D, rfl, -, -, -, hb3⟩
  have HB3 := Aside0.mk (HB2.out.trans (hb3.mono HB2.out.size))
  clear hb3
  go_wp2_with fail
  refine (right_good n E A c w3 (Kd.C_below HR.out HB3.out) (by omega) HALL.out).mono ?_
  rintro e w4 ⟨rfl, hb4⟩
  have HB4 := Aside0.mk (HB3.out.trans (hb4.mono HB3.out.size))
  clear hb4
  go_wp2_with fail
  go_ret
  exact ⟨rfl, HB4.out⟩

set_option maxHeartbeats 1000000 in
set_option maxRecDepth 100000 in
theorem tog_ok_hi (n : Nat) (a : Nat) (b : Int) (E : List (Int × Int)) (A : Option Addr) (c : Nat) (w : World) (hr : kE.C w A E.length E) (hE : E.length ≤ 8796093022200) (hall : AllOk n E) (ha : a < n) (hb0 : 0 ≤ b) (hb : (n : Int) ≤ b) :
    Calls Try.prog 8 #[.int .i64 n, .slice A E.length c, .int .i64 a, .int .i64 b] w fun e w' => e = .returned (.bool true) ∧ Below w.heap.size w w' := by
  have HR := Aside0.mk hr
  clear hr
  have HALL := Aside0.mk hall
  clear hall
  go_enter Try.func8, Try.ntmps8
  go_wp2_with fail
  refine (reach_good n a E A c w HR.out (by omega) HALL.out (by omega)).mono ?_
  rintro e w1 ⟨A1, c1, xs1, rfl, -, -, -, -, hb1⟩
  have HB1 := Aside0.mk (hb1)
  clear hb1
  go_wp2_with fail
  refine (reach_bad n b E A c w1 (Kd.C_below HR.out HB1.out) (by omega) (fun h => by omega)).mono ?_
  rintro e w2 ⟨rfl, hb2⟩
  have HB2 := Aside0.mk (HB1.out.trans (hb2.mono HB1.out.size))
  clear hb2
  go_wp2_with fail
  refine (gparts_good n E A c w2 (Kd.C_below HR.out HB2.out) hE HALL.out).mono ?_
  rintro e w3 ⟨A3, c3, vals, D, rfl, -, -, -, hb3⟩
  have HB3 := Aside0.mk (HB2.out.trans (hb3.mono HB2.out.size))
  clear hb3
  go_wp2_with fail
  refine (right_good n E A c w3 (Kd.C_below HR.out HB3.out) (by omega) HALL.out).mono ?_
  rintro e w4 ⟨rfl, hb4⟩
  have HB4 := Aside0.mk (HB3.out.trans (hb4.mono HB3.out.size))
  clear hb4
  go_wp2_with fail
  go_ret
  exact ⟨rfl, HB4.out⟩

theorem graphTogether_walk (n a b : Int) (E : List (Int × Int)) (A : Option Addr) (c : Nat) (w : World) (hr : kE.C w A E.length E) (hnil : A = none → c = 0) (hE : E.length ≤ 8796093022200) :
    Calls Try.prog 8 #[.int .i64 n, .slice A E.length c, .int .i64 a, .int .i64 b] w fun e w' => e = .returned (.bool true) ∧ Below w.heap.size w w' := by
  by_cases hall : AllOk n E
  · obtain ⟨n, rfl⟩ := Int.eq_ofNat_of_zero_le hall.1
    have ha : a < 0 ∨ (0 ≤ a ∧ (n : Int) ≤ a) ∨ (0 ≤ a ∧ a < n) := by omega
    have hb : b < 0 ∨ (0 ≤ b ∧ (n : Int) ≤ b) ∨ (0 ≤ b ∧ b < n) := by omega
    rcases ha with ha | ⟨ha0, ha⟩ | ⟨ha0, ha⟩
    · rcases hb with hb | ⟨hb0, hb⟩ | ⟨hb0, hb⟩
      · exact tog_lo_lo n a b E A c w hr hE hall ha hb
      · exact tog_lo_hi n a b E A c w hr hE hall ha hb0 hb
      · obtain ⟨b, rfl⟩ := Int.eq_ofNat_of_zero_le hb0
        exact tog_lo_ok n a b E A c w hr hE hall ha (by omega)
    · rcases hb with hb | ⟨hb0, hb⟩ | ⟨hb0, hb⟩
      · exact tog_hi_lo n a b E A c w hr hE hall ha0 ha hb
      · exact tog_hi_hi n a b E A c w hr hE hall ha0 ha hb0 hb
      · obtain ⟨b, rfl⟩ := Int.eq_ofNat_of_zero_le hb0
        exact tog_hi_ok n a b E A c w hr hE hall ha0 ha (by omega)
    · obtain ⟨a, rfl⟩ := Int.eq_ofNat_of_zero_le ha0
      rcases hb with hb | ⟨hb0, hb⟩ | ⟨hb0, hb⟩
      · exact tog_ok_lo n a b E A c w hr hE hall (by omega) hb
      · exact tog_ok_hi n a b E A c w hr hE hall (by omega) hb0 hb
      · obtain ⟨b, rfl⟩ := Int.eq_ofNat_of_zero_le hb0
        exact together_main n a b E A c w hr hE hall (by omega) (by omega)
  · exact tog_none n a b E A c w hr hE hall

end Go.Proofs.Ytdddbjaggfaofaa.Mem
