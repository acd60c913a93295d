/- GraphMore: without the document: a thing more, that nothing needs, changes nothing for the others. -/
import Derived.Test.YtdddbjaggfaofaaGMore
import Derived.BigQuiet
namespace Go.Proofs.Ytdddbjaggfaofaa.Mem
open Go.RowKit Go.Proofs.Ytdddbjaggfaofaa.GM Go.Proofs.YtdddbjaggfaofaaW.PrintWords
set_option linter.unusedVariables false

set_option maxHeartbeats 2000000 in
set_option maxRecDepth 100000 in
theorem without_calls (n : Nat) (xs : List Nat) (A : Option Addr) (c : Nat) (w : World) (hx : RN w A xs.length xs) (hl : xs.length ≤ 131073) :
    Calls Try.prog 37 #[.slice A xs.length c, .int .i64 n] w fun e w' => ∃ B d, e = .returned (.slice B (wo n xs).length d) ∧ OwnN w' w.heap.size (.slice B (wo n xs).length d) (wo n xs) ∧ Below w.heap.size w w' := by
  have HX := Aside0.mk hx
  clear hx
  go_enter Try.func37, Try.ntmps37
  go_wp2_with fail
  go_loopg [5, 10] xs.length (fun g v5 v10 wr => ∃ (k : Nat) (B : Option Addr) (d : Nat), k ≤ xs.length ∧ g = xs.length - k ∧ v10 = .int .i64 k ∧ v5 = .slice B (wo n (xs.take k)).length d ∧ Aside0 (OwnN wr w.heap.size (.slice B (wo n (xs.take k)).length d) (wo n (xs.take k)) ∧ Below w.heap.size w wr))
  case atStart => exact ⟨0, none, 0, Nat.zero_le _, rfl, rfl, by simp [wo], ⟨by have := World.ownsRow_nil w w.heap.size 3 1; simpa [OwnN, wo] using this, Below.refl _ _⟩⟩
  case round =>
    obtain ⟨k, B, d, hk, rfl, rfl, rfl, HW⟩ := hrel
    by_cases hlt : k < xs.length
    · obtain ⟨ad, rfl, c1⟩ := (HX.out.below HW.out.2).2.2 k hlt
      obtain ⟨x, hx⟩ : ∃ x, x = xs[k] := ⟨_, rfl⟩
      rw [← hx] at c1
      have hxk : xs[k]? = some x := by rw [hx, List.getElem?_eq_getElem hlt]
      have htk : xs.take (k + 1) = xs.take k ++ [x] := by rw [List.take_add_one, hxk]; rfl
      by_cases hxn : x = n
      · have hd2 : ((x : Int) != (n : Int)) = false := by rw [hxn]; simp
        have HT := Aside0.mk (show wo n (xs.take (k + 1)) = wo n (xs.take k) by rw [htk, wo_append, hxn, wo_one, List.append_nil])
        clear hx hxk htk hxn
        go_wp2_with fail
        go_roundg (xs.length - (k + 1))
        case rel => exact ⟨k + 1, B, d, by omega, rfl, by go_num, by rw [HT.out], by rw [HT.out]; exact HW⟩
        case measure => omega
      · have hd2 : ((x : Int) != (n : Int)) = true := by simpa [bne_iff_ne, Int.natCast_inj] using hxn
        have HT := Aside0.mk (show wo n (xs.take (k + 1)) = wo n (xs.take k) ++ [x] by rw [htk, wo_append, wo_other hxn])
        obtain ⟨ys, hys⟩ : ∃ ys, ys = wo n (xs.take k) := ⟨_, rfl⟩
        have hyl : ys.length ≤ 131073 := by rw [hys]; exact Nat.le_trans (List.length_filter_le _ _) (Nat.le_trans (List.length_take_le' _ _) hl)
        rw [← hys] at HT HW
        rw [← hys]
        clear hx hxk htk hxn hys
        go_wp2_with (at_builtin; refine print_append (w0 := w) (W := wr) w.heap.size rfl (.tmp 17) (.tmp 19) 33 3 (.int .i64 0) 8 rfl Try.underlying33 info3 rfl (by decide) (.slice B ys.length d) (ys.map encN) (encN x) rfl rfl rfl ?aO ?aB ?aS ?aL ?_; (case aO => rw [List.length_map]; exact HW.out.1); (case aB => exact HW.out.2); (case aS => exact HW.out.2.size); (case aL => rw [List.length_map]; omega); intro v2 w4 ho hb hg hat; obtain ⟨A6, c6, he⟩ := own_slice ho; subst he; have HBM4 := Aside0.mk (show OwnN w4 w.heap.size (.slice A6 (ys.map encN ++ [encN x]).length c6) (ys ++ [x]) ∧ Below w.heap.size w w4 from ⟨by unfold OwnN; simpa using ho, hb⟩); clear hb hg hat ho)
        go_roundg (xs.length - (k + 1))
        case rel => exact ⟨k + 1, A6, c6, by omega, rfl, by go_num, by rw [HT.out]; simp, by rw [HT.out]; simpa using HBM4⟩
        case measure => omega
    · obtain rfl : k = xs.length := by omega
      have HT := Aside0.mk (show wo n (xs.take xs.length) = wo n xs by rw [List.take_length])
      rw [HT.out] at HW
      rw [HT.out]
      go_wp2_with fail
      go_ret
      exact ⟨B, d, rfl, HW.out.1, HW.out.2⟩

theorem order_more {w1 w2 w3 w4 : World} {n : Nat} {E : List (Int × Int)} {e f : Ending} (hall : AllOk (n : Int) E) (hn : n ≠ 131072) (h1 : OrderPost w1 (n : Int) E e w2) (h2 : OrderPost w3 ((n + 1 : Nat) : Int) E f w4) :
    (∃ A1 A2 c1 c2 B1 B2 d1 d2 k xs xs2 ys, e = .returned (.tuple #[.slice A1 xs.length c1, .slice B1 ys.length d1, .int .i64 k]) ∧ f = .returned (.tuple #[.slice A2 xs2.length c2, .slice B2 ys.length d2, .int .i64 k]) ∧ RN w2 A1 xs.length xs ∧ RN w4 A2 xs2.length xs2 ∧ RN w2 B1 ys.length ys ∧ RN w4 B2 ys.length ys ∧ wo n xs2 = xs ∧ xs2.length ≤ 131073) := by
  have nilr : ∀ w, RN w none 0 [] := fun w => ⟨rfl, by omega, fun k hk => by simp at hk⟩
  rcases h1.2 with ⟨b1, rfl⟩ | ⟨g1, m, D, hm, hf1, hc1⟩
  · exact absurd hall b1
  · obtain rfl : n = m := by omega
    rcases h2.2 with ⟨b2, rfl⟩ | ⟨k1, m', D', hm', hf2, hc2⟩
    · exact absurd (ok_more hall hn) b2
    · obtain rfl : m' = n + 1 := by omega
      obtain ⟨hw, hll⟩ := order_more_full hall hf1 hf2
      have hnle := hall.2.1
      rcases hc1 with ⟨hl1, A1, c1, rfl, ho1⟩ | ⟨hl1, A1, c1, C1, rfl, ho1, hy1⟩
      · rcases hc2 with ⟨hl2, A2, c2, rfl, ho2⟩ | ⟨hl2, _⟩
        · exact ⟨A1, A2, c1, c2, none, none, 0, 0, 0, D, D', [], by rw [hl1]; rfl, by rw [hl2]; rfl, RN.of_own (hl1 ▸ ho1), RN.of_own (hl2.symm ▸ ho2), nilr _, nilr _, hw, by omega⟩
        · omega
      · rcases hc2 with ⟨hl2, _⟩ | ⟨hl2, A2, c2, C2, rfl, ho2, hy2⟩
        · omega
        · obtain rfl := (cyc_more hall hy1).unique hy2
          exact ⟨none, none, 0, 0, A1, A2, c1, c2, 73, [], [], C1, rfl, rfl, nilr _, nilr _, RN.of_own ho1, RN.of_own ho2, rfl, by simp⟩

theorem run_upto (A : Option Addr) (m c n : Nat) (hn : n ≤ m) (hc : m ≤ c) : ∀ W : World, (Instr.slice 33 (.slice A m c) none (some (.int .i64 (n : Int))) none).run Try.prog W = .ok (.slice A n c) W := by
  obtain ⟨i0, hi, hzz⟩ := Option.map_eq_some_iff.1 info3
  exact cut_to (P := Try.prog) 33 3 .i64 Try.underlying33 hi A m c n (by omega) (by omega) hc

theorem RN.take {w : World} {A : Option Addr} {xs : List Nat} {m n : Nat} (h : RN w A m xs) (hn : n ≤ m) : RN w A n (xs.take n) := by
  have hl := h.1
  refine ⟨by rw [List.length_take]; omega, by have := h.2.1; omega, fun k hk => ?_⟩
  rw [List.length_take] at hk
  obtain ⟨ad, e, hc⟩ := h.2.2 k (by omega)
  exact ⟨ad, e, by rw [List.getElem_take]; exact hc⟩

set_option maxHeartbeats 4000000 in
set_option maxRecDepth 100000 in
theorem graphMore_walk (n : Int) (E : List (Int × Int)) (A : Option Addr) (c : Nat) (w : World) (hr : kE.C w A E.length E) (hnil : A = none → c = 0) (hE : E.length ≤ 8796093022200) :
    Calls Try.prog 13 #[.int .i64 n, .slice A E.length c] w fun e w' => e = .returned (.bool true) ∧ Below w.heap.size w w' := by
  have HR := Aside0.mk hr
  clear hr
  by_cases hall : AllOk n E
  · obtain ⟨m, rfl⟩ := Int.eq_ofNat_of_zero_le hall.1
    have hm := hall.2.1
    have HRC := Aside0.mk (right_good m E A c w HR.out (by omega) hall)
    have HALL := Aside0.mk hall
    clear hall
    go_enter Try.func13, Try.ntmps13
    go_wp2_with fail
    refine HRC.out.mono ?_
    rintro e w1 ⟨rfl, hb1⟩
    have HB1 := Aside0.mk hb1
    clear HRC hb1
    by_cases he : m = 131072
    · have e1 : ((m : Int) == 131072) = true := beq_iff_eq.2 (by omega)
      clear he
      go_wp2_with fail
      go_ret
      exact ⟨rfl, HB1.out⟩
    · have e1 : ((m : Int) == 131072) = false := beq_eq_false_iff_ne.2 (by omega)
      have HNE := Aside0.mk he
      have hm2 : m + 1 ≤ 131072 := by omega
      have HOC := Aside0.mk (order_calls m E A c w1 (Kd.C_below HR.out HB1.out) (by omega))
      clear he
      go_wp2_with fail
      refine HOC.out.mono ?_
      intro e w2 hp
      have HP1 := Aside0.mk hp
      have HB2 := Aside0.mk (HB1.out.trans (hp.1.mono HB1.out.size))
      obtain ⟨v, u, k, rfl⟩ := order_shape hp
      have HOC2 := Aside0.mk (show Calls Try.prog 33 #[.int .i64 ((m : Int) + 1), .slice A E.length c] w2 fun e w' => OrderPost w2 ((m + 1 : Nat) : Int) E e w' from order_calls ((m + 1 : Nat) : Int) E A c w2 (Kd.C_below HR.out HB2.out) (by omega))
      clear hp HOC
      go_wp2_with fail
      refine HOC2.out.mono ?_
      intro f w3 hp2
      obtain ⟨A1, A2, c1, c2, B1, B2, d1, d2, k', xs, xs2, ys, he, rfl, r1, r2, r3, r4, hwo, hxl⟩ := order_more HALL.out HNE.out HP1.out hp2
      simp only [Ending.returned.injEq, Value.tuple.injEq] at he
      have hv : v = .slice A1 xs.length c1 ∧ u = .slice B1 ys.length d1 ∧ k = k' := by simpa using he
      obtain ⟨rfl, rfl, rfl⟩ := hv
      have HX := Aside0.mk (r1.below hp2.1)
      have HX2 := Aside0.mk r2
      have HY := Aside0.mk (r3.below hp2.1)
      have HY2 := Aside0.mk r4
      have HWO := Aside0.mk hwo
      have HXL := Aside0.mk hxl
      have HB3 := Aside0.mk (HB2.out.trans (hp2.1.mono HB2.out.size))
      have hkk : (k != k) = false := by simp
      have HSY := Aside0.mk (sameInts_calls ys ys B1 B2 _ _ d1 d2 w3 HY.out HY2.out)
      rw [show sameB ys ys = true by simp [sameB]] at HSY
      clear hp2 r1 r2 r3 r4 he hwo HOC2 HP1 hxl
      go_wp2_with fail
      refine HSY.out.mono ?_
      rintro e w4 ⟨rfl, q, rfl⟩
      obtain ⟨W4, hW4, HB4⟩ := ex_world (p := fun W => Below w3.heap.size w3 W) (W := w3.drewN q) (pw_below_drewN (Below.refl _ _) _)
      rw [hW4]
      have HWC := Aside0.mk (without_calls m xs2 A2 c2 W4 (HX2.out.below HB4.out) HXL.out)
      clear hW4 HSY
      go_wp2_with fail
      refine HWC.out.mono ?_
      rintro e w5 ⟨B, d, rfl, ho, hb5⟩
      have HB5 := Aside0.mk (HB4.out.trans (hb5.mono HB4.out.size))
      rw [HWO.out] at ho
      rw [HWO.out]
      have HSX := Aside0.mk (sameInts_calls xs xs A1 B _ _ c1 d w5 (HX.out.below HB5.out) (RN.of_own ho))
      rw [show sameB xs xs = true by simp [sameB]] at HSX
      clear ho hb5 HWC
      go_wp2_with fail
      refine HSX.out.mono ?_
      rintro e w6 ⟨rfl, q2, rfl⟩
      obtain ⟨W6, hW6, HB6⟩ := ex_world (p := fun W => Below w.heap.size w W) (W := w5.drewN q2) (pw_below_drewN (HB3.out.trans (HB5.out.mono HB3.out.size)) _)
      rw [hW6]
      have HPC := Aside0.mk (gparts_good m E A c W6 (Kd.C_below HR.out HB6.out) (by omega) HALL.out)
      clear hW6 HSX HX HX2 HY HY2 HB5 HB4 HB3 HB2 HB1
      go_wp2_with fail
      refine HPC.out.mono ?_
      rintro e w7 ⟨A7, c7, vals7, D, rfl, ho7, hf7, hl7, hb7⟩
      have HB7 := Aside0.mk (HB6.out.trans (hb7.mono HB6.out.size))
      have HPC2 := Aside0.mk (show Calls Try.prog 28 #[.int .i64 ((m : Int) + 1), .slice A E.length c] w7 fun e w' => PartsGood w7 (m + 1) E e w' from gparts_good (m + 1) E A c w7 (Kd.C_below HR.out HB7.out) (by omega) (ok_more HALL.out HNE.out))
      have HO7 := Aside0.mk ho7
      have HF7 := Aside0.mk hf7
      clear ho7 hf7 hb7 HPC
      go_wp2_with fail
      refine HPC2.out.mono ?_
      rintro e w8 ⟨A8, c8, vals8, D2, rfl, ho8, hf8, hl8, hb8⟩
      have HB8 := Aside0.mk (HB7.out.trans (hb8.mono HB7.out.size))
      obtain ⟨hw, hll⟩ := parts_more HALL.out HF7.out hf8
      have HO8 := Aside0.mk ho8
      have HO78 := Aside0.mk (HO7.out.below hb8)
      have HW8 := Aside0.mk hw
      have HMEM := Aside0.mk (show ∀ x ∈ D2, x < m + 1 from fun x hx => (hf8.1.mem x hx).1)
      have e2 : ((D2.length : Int) != (D.length : Int) + 1) = false := by
        rw [bne_eq_false_iff_eq]
        omega
      clear ho8 hf8 hb8 hw HPC2 HO7
      go_wp2_with fail
      go_loopg [13, 87] D2.length (fun g v13 v87 wr => ∃ i : Nat, i ≤ D2.length ∧ g = D2.length - i ∧ v87 = .int .i64 i ∧ v13 = .int .i64 ((wo m (D2.take i)).length : Nat) ∧ Aside0 (Below w8.heap.size w8 wr))
      case atStart => exact ⟨0, Nat.zero_le _, rfl, rfl, rfl, ⟨Below.refl _ _⟩⟩
      case round =>
        obtain ⟨i, hi, rfl, rfl, rfl, HW⟩ := hrel
        by_cases hlt : i < D2.length
        · obtain ⟨g8, x8, rfl, -, k8, hin8, -⟩ := OwnRows.row (HO8.out.below HW.out) (i := i) (by rw [List.length_map]; exact hlt)
          obtain ⟨p, hp⟩ : ∃ p, p = D2[i] := ⟨_, rfl⟩
          have hpi : D2[i]? = some p := by rw [hp, List.getElem?_eq_getElem hlt]
          rw [nb_map hpi] at hin8
          obtain ⟨Ax, cx, rfl⟩ := own_slice hin8
          have HTK := Aside0.mk (wo_take (n := m) hpi)
          by_cases hpm : p = m
          · subst hpm
            rw [pof_new HALL.out] at hin8 k8
            rw [if_pos rfl] at HTK
            obtain ⟨gx, rfl, kx, -⟩ := row_cell hin8 (k := 0) (by simp)
            simp only [List.length_cons, List.length_nil, Nat.zero_add, List.getElem_cons_zero] at k8 kx
            clear hin8 hp hpi
            go_wp2_with fail
            go_roundg (D2.length - (i + 1))
            case rel => exact ⟨i + 1, by omega, rfl, by go_num, by rw [HTK.out]; rfl, HW⟩
            case measure => omega
          · have hpl : p < m := by have := HMEM.out p (List.mem_of_getElem? hpi); omega
            rw [pof_more HALL.out hpl] at hin8 k8
            rw [if_neg hpm] at HTK
            have hat := wo_at hpi hpm
            rw [HW8.out] at hat
            obtain ⟨t, ht⟩ : ∃ t, t = (wo m (D2.take i)).length := ⟨_, rfl⟩
            rw [← ht] at hat HTK
            rw [← ht]
            have htl : t < D.length := (List.getElem?_eq_some_iff.1 hat).1
            obtain ⟨g7, x7, rfl, -, k7, hin7, -⟩ := OwnRows.row ((HO78.out).below HW.out) (i := t) (by rw [List.length_map]; exact htl)
            rw [nb_map hat] at hin7
            obtain ⟨Ay, cy, rfl⟩ := own_slice hin7
            have hmem : p ∈ pof E m p := part_mem.2 ⟨hpl, .refl p⟩
            obtain ⟨ps, hps⟩ : ∃ ps, ps = pof E m p := ⟨_, rfl⟩
            rw [← hps] at hin7 hin8 k7 k8 hmem
            have hpm2 : ((p : Int) == (m : Int)) = false := beq_eq_false_iff_ne.2 (by omega)
            have htd : ((t : Int) == (D.length : Int)) = false := beq_eq_false_iff_ne.2 (by omega)
            have HSS := Aside0.mk (sameInts_calls ps ps Ax Ay ps.length ps.length cx cy wr (RN.of_own hin8) (RN.of_own hin7))
            rw [show sameB ps ps = true by simp [sameB]] at HSS
            have HT := Aside0.mk ht
            clear hp hpi hps ht hat hpm
            by_cases hl1 : ps.length = 1
            · obtain ⟨z, rfl⟩ := List.length_eq_one_iff.1 hl1
              obtain rfl := List.mem_singleton.1 hmem
              clear hl1
              obtain ⟨gx, rfl, kx, -⟩ := row_cell hin8 (k := 0) (by simp)
              simp only [List.length_cons, List.length_nil, Nat.zero_add, List.getElem_cons_zero] at k8 k7 kx HSS
              clear hin8 hin7 hmem
              go_wp2_with fail
              refine HSS.out.mono ?_
              rintro e w9 ⟨rfl, q, rfl⟩
              go_wp2_with fail
              go_roundg (D2.length - (i + 1))
              case rel => exact ⟨i + 1, by omega, rfl, by go_num, by rw [HTK.out]; go_num, ⟨pw_below_drewN HW.out _⟩⟩
              case measure => omega
            · have hl2 : ((ps.length : Int) == 1) = false := beq_eq_false_iff_ne.2 (by omega)
              clear hin8 hin7 hmem hl1
              go_wp2_with fail
              refine HSS.out.mono ?_
              rintro e w9 ⟨rfl, q, rfl⟩
              go_wp2_with fail
              go_roundg (D2.length - (i + 1))
              case rel => exact ⟨i + 1, by omega, rfl, by go_num, by rw [HTK.out]; go_num, ⟨pw_below_drewN HW.out _⟩⟩
              case measure => omega
        · obtain rfl : i = D2.length := by omega
          have HB9 := Aside0.mk (HB8.out.trans (HW.out.mono HB8.out.size))
          have HCC := Aside0.mk (classes_good m E A c wr (Kd.C_below HR.out HB9.out) (by omega) HALL.out)
          clear HO8 HO78 HW HB8
          go_wp2_with fail
          refine HCC.out.mono ?_
          rintro e w10 ⟨A10, c10, P, rfl, ho10, hl10, hP, hb10⟩
          have HB10 := Aside0.mk (HB9.out.trans (hb10.mono HB9.out.size))
          have HCC2 := Aside0.mk (show Calls Try.prog 26 #[.int .i64 ((m : Int) + 1), .slice A E.length c] w10 fun e w' => ClassesGood w10 (m + 1) E e w' from classes_good (m + 1) E A c w10 (Kd.C_below HR.out HB10.out) (by omega) (ok_more HALL.out HNE.out))
          have HO10 := Aside0.mk (RN.of_own ho10)
          have HP10 := Aside0.mk (And.intro hl10 hP)
          clear ho10 hl10 hP hb10 HCC
          go_wp2_with fail
          refine HCC2.out.mono ?_
          rintro e w11 ⟨A11, c11, P2, rfl, ho11, hl11, hP2, hb11⟩
          have HB11 := Aside0.mk (HB10.out.trans (hb11.mono HB10.out.size))
          obtain ⟨hPn, hPt⟩ := classes_more HALL.out HP10.out.1 hl11 HP10.out.2 hP2
          have hcap : m + 1 ≤ c11 := by
            obtain ⟨A', c', he, hcap⟩ := q_slice (q_of_own ho11)
            injection he with e1 e2 e3
            omega
          have hcut := run_upto A11 (m + 1) c11 m (by omega) hcap
          obtain ⟨g11, rfl, k11, -⟩ := row_cell ho11 (k := m) (by omega)
          rw [← pa_get (by omega), hPn] at k11
          have HRT := Aside0.mk (RN.take (RN.of_own ho11) (n := m) (by omega))
          rw [hPt] at HRT
          have HSS := Aside0.mk (sameInts_calls P P A10 (some ⟨g11, 0, none⟩) m m c10 c11 w11 (HO10.out.below hb11) HRT.out)
          rw [show sameB P P = true by simp [sameB]] at HSS
          have hmm : ((m : Int) == (m : Int)) = true := by simp
          have hmm1 : (((m + 1 : Nat) : Int) == (m : Int) + 1) = true := beq_iff_eq.2 (by omega)
          clear ho11 hl11 hP2 hb11 hPn hPt hcap HCC2
          go_wp2_with fail
          refine HSS.out.mono ?_
          rintro e w12 ⟨rfl, q, rfl⟩
          go_wp2_with fail
          go_ret
          exact ⟨rfl, pw_below_drewN HB11.out _⟩
  · have HRC := Aside0.mk (right_bad n E A c w HR.out (by omega) hall)
    clear hall
    go_enter Try.func13, Try.ntmps13
    go_wp2_with fail
    refine HRC.out.mono ?_
    rintro e w1 ⟨rfl, hb1⟩
    have HB1 := Aside0.mk hb1
    clear HRC hb1
    go_wp2_with fail
    go_ret
    exact ⟨rfl, HB1.out⟩

end Go.Proofs.Ytdddbjaggfaofaa.Mem
