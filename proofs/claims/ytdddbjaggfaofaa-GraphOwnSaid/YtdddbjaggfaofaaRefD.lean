/- The document's graphs: Reach, by its contract. -/
import Derived.Test.YtdddbjaggfaofaaRefC
namespace Go.Proofs.Ytdddbjaggfaofaa.Mem
open Go.RowKit Go.Proofs.Ytdddbjaggfaofaa.GM Go.Proofs.YtdddbjaggfaofaaW.PrintWords
set_option linter.unusedVariables false

/-- The marked things below k, rising. -/
def upto (S : List Bool) (k : Nat) : List Nat := (List.range k).filter (sn S)
theorem upto_succ (S : List Bool) (k : Nat) : upto S (k + 1) = upto S k ++ (if sn S k then [k] else []) := by
  unfold upto
  rw [List.range_succ, List.filter_append]
  congr 1
  by_cases h : sn S k = true <;> simp [h]
theorem upto_length (S : List Bool) (k : Nat) : (upto S k).length ≤ k := by
  unfold upto
  have := List.length_filter_le (sn S) (List.range k)
  simpa using this

set_option maxHeartbeats 2000000 in
set_option maxRecDepth 100000 in
theorem refReach_calls (n a : Int) (E : List (Int × Int)) (A : Option Addr) (c : Nat) (w : World) (hr : kE.C w A E.length E) (hE : E.length ≤ 8796093022208) :
    Calls Try.prog 23 #[.int .i64 n, .slice A E.length c, .int .i64 a] w fun e w' => ReachPost w n E a e w' := by
  have HBC := Aside0.mk (bad_calls n E A c w hr hE)
  have HR := Aside0.mk hr
  clear hr
  by_cases hok : AllOk n E
  · by_cases ha : 0 ≤ a ∧ a < n
    · have HOK := Aside0.mk hok
      obtain ⟨a0, a1⟩ := ha
      obtain ⟨g0, g1, g2⟩ := hok
      obtain ⟨n, rfl⟩ := Int.eq_ofNat_of_zero_le g0
      obtain ⟨a, rfl⟩ := Int.eq_ofNat_of_zero_le a0
      have HG2 := Aside0.mk g2
      clear g2
      go_enter Try.func23, Try.ntmps23
      go_wp2_with fail
      refine HBC.out.mono ?_
      rintro e w1 ⟨rfl, ⟨-, rfl⟩ | ⟨hb, -⟩⟩
      · go_wp2_with fail
        refine (refRows_calls n E A c w HR.out hE (by omega) HG2.out).mono ?_
        rintro e w1 ⟨vals, R, rfl, hrows, hin, hsum, hb1⟩
        have HIN := Aside0.mk hin
        have HROWS := Aside0.mk hrows
        have HB1 := Aside0.mk hb1
        have HSUM := Aside0.mk hsum
        clear hin hrows hb1 hsum
        go_wp2_with fail
        have hRn : ∀ x y, y ∈ nb R x → y < n := fun x y hy => by
          have h1 := (HIN.out.2 x y).1 hy
          have h2 := HG2.out _ h1
          have := h2.2.2.2
          simp only at this
          omega
        refine (reached_calls n a w.heap.size n w.heap.size vals R w1 HROWS.out HIN.out.1 hRn (fun x => by have := HSUM.out x; omega) (by omega) (by omega)).mono ?_
        rintro e w2 ⟨S, rfl, hS, hSl, hall, hb2⟩
        have HS := Aside0.mk hS
        have HSL := Aside0.mk hSl
        have HALL := Aside0.mk hall
        have HB2 := Aside0.mk (HB1.out.trans (hb2.mono HB1.out.size))
        clear hS hSl hall hb2 hRn
        go_wp2_with fail
        go_loopg [9, 10] n (fun g v9 i wr => ∃ k : Nat, k ≤ n ∧ g = n - k ∧ i = .int .i64 k ∧ Aside0 (OwnN wr w.heap.size v9 (upto S k) ∧ OwnB wr w.heap.size (.slice (some ⟨w1.heap.size, 0, none⟩) n n) S ∧ Below w.heap.size w wr))
        case atStart => exact ⟨0, Nat.zero_le _, rfl, rfl, ⟨World.ownsRow_nil _ _ _ _, own_less HS.out HB1.out.size, HB2.out⟩⟩
        case round =>
          obtain ⟨k, hk, rfl, rfl, HM⟩ := hrel
          by_cases hlt : k < n
          · obtain ⟨f1, -, -, -⟩ := HM.out.2.1.at_ (y := k) (by have := HSL.out; omega)
            have hul := upto_length S k
            have hus := upto_succ S k
            cases hsk : sn S k with
            | true =>
              rw [hsk] at f1 hus
              have HUS := Aside0.mk hus
              obtain ⟨A9, c9, he⟩ := own_slice HM.out.1
              subst he
              clear hus hsk
              go_wp2_with (at_builtin; refine print_append (w0 := w) (W := wr) w.heap.size rfl (.tmp 38) (.tmp 40) 33 3 (.int .i64 0) 8 rfl Try.underlying33 info3 rfl (by decide) (.slice A9 (upto S k).length c9) ((upto S k).map encN) (encN k) rfl rfl rfl ?aO ?aB ?aS ?aL ?_; (case aO => rw [List.length_map]; exact HM.out.1); (case aB => exact HM.out.2.2); (case aS => exact HM.out.2.2.size); (case aL => rw [List.length_map]; omega); intro v1 w3 ho hb hg hat; obtain ⟨A1, C1, he⟩ := own_slice ho; subst he; have HREL := Aside0.mk (And.intro ho (And.intro (own_grown HM.out.2.1 hg (fun b hb' e => own_types_ne HM.out.1 HM.out.2.1 (by decide) e hb')) hb)); clear hb hg hat ho)
              go_roundg (n - (k + 1))
              case rel => exact ⟨k + 1, by omega, rfl, by go_num, ⟨by rw [HUS.out]; unfold OwnN; simpa using HREL.out.1, HREL.out.2.1, HREL.out.2.2⟩⟩
              case measure => omega
            | false =>
              rw [hsk] at f1 hus
              have HUS := Aside0.mk hus
              clear hus hsk
              go_wp2_with fail
              go_roundg (n - (k + 1))
              case rel => exact ⟨k + 1, by omega, rfl, by go_num, ⟨by rw [HUS.out]; simpa using HM.out.1, HM.out.2.1, HM.out.2.2⟩⟩
              case measure => omega
          · obtain rfl : k = n := by omega
            go_wp2_with fail
            go_ret2
            refine ⟨HM.out.2.2, .inr ⟨HOK.out, a0, a1, _, upto S k, R, rfl, HM.out.1, HIN.out, rising_filter _ _, fun x => ?_⟩⟩
            show x ∈ (List.range k).filter (sn S) ↔ RR R a x
            rw [List.mem_filter, List.mem_range, HALL.out]
            exact ⟨fun h => h.2, fun h => ⟨by rw [← HSL.out]; exact sn_lt ((HALL.out x).2 h), h⟩⟩
      · exact absurd HOK.out hb
    · have HA := Aside0.mk ha
      have ha' : a < 0 ∨ (0 ≤ a ∧ n ≤ a) := by omega
      have HOK := Aside0.mk hok
      clear ha hok
      rcases ha' with ha1 | ⟨ha1, ha2⟩
      all_goals
        go_enter Try.func23, Try.ntmps23
        go_wp2_with fail
        refine HBC.out.mono ?_
        rintro e w1 ⟨rfl, ⟨-, rfl⟩ | ⟨hb, -⟩⟩
        · go_wp2_with fail
          go_ret2
          exact ⟨Below.refl _ _, .inl ⟨fun h => HA.out h.2, rfl⟩⟩
        · exact absurd HOK.out hb
  · have HOK := Aside0.mk hok
    clear hok
    go_enter Try.func23, Try.ntmps23
    go_wp2_with fail
    refine HBC.out.mono ?_
    rintro e w1 ⟨rfl, ⟨hb, -⟩ | ⟨-, rfl⟩⟩
    · exact absurd hb HOK.out
    · go_wp2_with fail
      go_ret2
      exact ⟨Below.refl _ _, .inl ⟨fun h => HOK.out h.1, rfl⟩⟩

end Go.Proofs.Ytdddbjaggfaofaa.Mem
