/- graphs.Order: the order, or a cycle, by its contract. -/
import Derived.Test.YtdddbjaggfaofaaArd
import Derived.Test.YtdddbjaggfaofaaRo
import Derived.Test.YtdddbjaggfaofaaLineA
import Derived.Test.YtdddbjaggfaofaaClsA
namespace Go.Proofs.Ytdddbjaggfaofaa.Mem
open Go.RowKit Go.Proofs.Ytdddbjaggfaofaa.GM Go.Proofs.YtdddbjaggfaofaaW.PrintWords
set_option linter.unusedVariables false

theorem nu_all {n : Nat} {E : List (Int × Int)} {R1 R2 : List (List Nat)} (hok : ∀ e ∈ E, EOk n e) (hin1 : RowsIn n E false R1) (hin2 : RowsIn n E true R2) (hris1 : ∀ a, Rising (nb R1 a)) (hris2 : ∀ a, Rising (nb R2 a)) : NU n R1 R2 (fun x => x ∈ List.range n) where
  tie := fun x y => by rw [hin1.2, hin2.2]; exact Iff.rfl
  nr := hris1
  ur := hris2
  nt := fun x y hy => by
    have h := hok _ ((hin1.2 x y).1 hy)
    obtain ⟨o1, o2, o3, o4⟩ := h
    simp only at o2 o4
    exact ⟨List.mem_range.2 (by omega), List.mem_range.2 (by omega)⟩
  lt := fun x hx => List.mem_range.1 hx

set_option maxHeartbeats 4000000 in
set_option maxRecDepth 100000 in
theorem order_calls (n : Int) (E : List (Int × Int)) (A : Option Addr) (c : Nat) (w : World) (hr : kE.C w A E.length E) (hE : E.length ≤ 8796093022208) :
    Calls Try.prog 33 #[.int .i64 n, .slice A E.length c] w fun e w' => OrderPost w n E e w' := by
  have HRC := Aside0.mk (rows_calls n E false A c w hr hE)
  have HR := Aside0.mk hr
  clear hr
  go_enter Try.func33, Try.ntmps33
  go_wp2_with fail
  refine HRC.out.mono ?_
  rintro e w1 ⟨hb1, ⟨hbad, rfl⟩ | ⟨g2, n, vals, R, rfl, g1, rfl, hrows, hin, hris⟩⟩
  · have HB1 := Aside0.mk hb1
    have HBAD := Aside0.mk hbad
    clear hb1 hbad
    go_wp2_with fail
    go_ret3
    exact ⟨HB1.out, .inl ⟨HBAD.out, rfl⟩⟩
  · have HB1 := Aside0.mk hb1
    have HOK := Aside0.mk g2
    have HROWS := Aside0.mk hrows
    have HIN := Aside0.mk (And.intro hin hris)
    have HR1 := Aside0.mk (Kd.C_below HR.out hb1)
    have HRC2 := Aside0.mk (rows_calls n E true A c w1 HR1.out hE)
    clear hb1 g2 hrows hin hris HRC
    go_wp2_with fail
    refine HRC2.out.mono ?_
    rintro e w2 ⟨hb2, ⟨hbad, rfl⟩ | ⟨g3, n2, vals2, R2, hnn, -, rfl, hrows2, hin2, hris2⟩⟩
    · exact absurd ⟨by omega, by omega, HOK.out⟩ hbad
    · obtain rfl : n = n2 := by omega
      have HB2 := Aside0.mk (HB1.out.trans (hb2.mono HB1.out.size))
      have HROWS1 := Aside0.mk (HROWS.out.below hb2)
      have HROWS2 := Aside0.mk hrows2
      have HIN2 := Aside0.mk (And.intro hin2 hris2)
      have HNU := Aside0.mk (nu_all HOK.out HIN.out.1 hin2 HIN.out.2 hris2)
      have HCC := Aside0.mk (count_calls n w2 g1)
      clear hb2 g3 hrows2 hin2 hris2 hnn HRC2
      go_wp2_with fail
      refine HCC.out.mono ?_
      rintro e w3 ⟨rfl, hcnt, hb3⟩
      have HB3 := Aside0.mk hb3
      have HLC := Aside0.mk (line_calls n w.heap.size n w1.heap.size n w.heap.size w2.heap.size (.slice (some ⟨w2.heap.size, 0, none⟩) n n) (List.range n) vals vals2 R R2 w3 hcnt (HROWS1.out.below hb3) ((OwnRows.less HROWS2.out HB1.out.size).below hb3) HIN.out.1.1 HIN2.out.1.1 g1 HNU.out List.nodup_range)
      clear hcnt hb3 HCC
      have HR3 := Aside0.mk (HB2.out.trans (HB3.out.mono HB2.out.size))
      have hRNC := fun (W : World) (hb : Below w3.heap.size w3 W) => first_calls n w.heap.size n w.heap.size E vals R W ((HROWS1.out.below HB3.out).below hb) HIN.out.1 HIN.out.2 g1 HOK.out
      have hAC := fun (W : World) (x : Nat) (hb : Below w3.heap.size w3 W) (hx : FirstC E n x) => around_calls n x w.heap.size n w1.heap.size n w.heap.size E vals vals2 R R2 W ((HROWS1.out.below HB3.out).below hb) (((OwnRows.less HROWS2.out HB1.out.size).below HB3.out).below hb) HIN.out.1 HIN2.out.1 HIN.out.2 HIN2.out.2 g1 HOK.out hx
      have HRNC := Aside0.mk hRNC
      have HAC := Aside0.mk hAC
      clear hRNC hAC
      go_wp2_with fail
      refine HLC.out.mono ?_
      rintro e w4 ⟨hb4, v, D, rfl, hD, hfull⟩
      obtain ⟨A4, c4, rfl⟩ := own_slice hD
      have HF := Aside0.mk (show Full (fun x => x < n) (NE E) D from hfull.congr (fun x => List.mem_range) (fun x y => HIN.out.1.2 x y))
      have HB4 := Aside0.mk (HR3.out.trans (hb4.mono HR3.out.size))
      have HB34 := Aside0.mk hb4
      have HD := Aside0.mk (own_less hD HR3.out.size)
      have hdl : D.length ≤ n := HF.out.1.length_le (fun x hx => hx)
      clear hb4 hD hfull HLC
      by_cases hl : D.length = n
      · have e1 : (((D.length : Nat) : Int) == ((n : Nat) : Int)) = true := beq_iff_eq.2 (by omega)
        have HL := Aside0.mk hl
        have HDN := Aside0.mk (show OwnN w4 w.heap.size (.slice A4 n c4) D from hl ▸ HD.out)
        clear hl
        go_wp2_with fail
        go_ret3
        exact ⟨HB4.out, .inr ⟨⟨by omega, by omega, HOK.out⟩, n, D, rfl, HF.out, .inl ⟨HL.out, A4, c4, by rw [HL.out]; rfl, HDN.out⟩⟩⟩
      · have e1 : (((D.length : Nat) : Int) == ((n : Nat) : Int)) = false := beq_eq_false_iff_ne.2 (by omega)
        have hex := first_exists (fun x y hy => by have := (HOK.out _ hy).2.2.2; simp only at this; omega) HF.out hl
        have HFC := Aside0.mk (HRNC.out w4 HB34.out hex)
        have HL := Aside0.mk hl
        clear hl hex
        go_wp2_with fail
        refine HFC.out.mono ?_
        rintro e w5 ⟨x, rfl, hx, hb5⟩
        have HB35 := Aside0.mk (HB34.out.trans (hb5.mono HB34.out.size))
        have HAR := Aside0.mk (HAC.out w5 x HB35.out hx)
        have HB5 := Aside0.mk (HB4.out.trans (hb5.mono HB4.out.size))
        clear hx hb5
        go_wp2_with fail
        refine HAR.out.mono ?_
        rintro e w6 ⟨A6, c6, C, rfl, ho, hcy, hb6⟩
        have HO := Aside0.mk (own_less ho HB5.out.size)
        have HCY := Aside0.mk hcy
        have HB6 := Aside0.mk (HB5.out.trans (hb6.mono HB5.out.size))
        clear ho hcy hb6
        go_wp2_with fail
        go_ret3
        exact ⟨HB6.out, .inr ⟨⟨by omega, by omega, HOK.out⟩, n, D, rfl, HF.out, .inr ⟨HL.out, A6, c6, C, rfl, HO.out, HCY.out⟩⟩⟩

end Go.Proofs.Ytdddbjaggfaofaa.Mem
