/- The document's Together: for each thing the lowest of its part, by its contract. -/
import Derived.Test.YtdddbjaggfaofaaGMs
import Derived.Test.YtdddbjaggfaofaaFar
import Derived.Test.YtdddbjaggfaofaaMapR
import Derived.Test.YtdddbjaggfaofaaClsC
import Derived.Outline
namespace Go.Proofs.Ytdddbjaggfaofaa.Mem
open Go.RowKit Go.Proofs.Ytdddbjaggfaofaa.GM Go.Proofs.YtdddbjaggfaofaaW.PrintWords
set_option linter.unusedVariables false

theorem rr_rch1 {n : Nat} {E : List (Int × Int)} {R : List (List Nat)} (h : RowsIn n E false R) (x y : Nat) : RR R x y ↔ Rch E x y :=
  ⟨Rch.of_rr (fun a b hb => (h.2 a b).1 hb), Rch.to_rr (fun a b hb => (h.2 a b).2 hb)⟩
theorem rr_rch2 {n : Nat} {E : List (Int × Int)} {R : List (List Nat)} (h : RowsIn n E true R) (x y : Nat) : RR R x y ↔ Rch E y x := by
  have step : ∀ {a b c : Nat}, Rch E b a → ((c : Int), (b : Int)) ∈ E → Rch E c a := fun h k => Rch.trans (.step (.refl _) k) h
  constructor
  · intro k
    induction k with
    | refl => exact .refl _
    | step _ hz ih => exact step ih ((h.2 _ _).1 hz)
  · intro k
    induction k with
    | refl => exact .refl _
    | step _ hz ih => exact RR.trans (.step (.refl _) ((h.2 _ _).2 hz)) ih

theorem LM.grown {w2 W W1 : World} {g n r : Nat} {L : List (Option Nat)} (h : LM w2 g n L W) (hg : W.grownBy W1 (some r)) (h1 : w2.heap.size ≤ r) (h2 : r ≠ g) : LM w2 g n L W1 :=
  ⟨own_grown h.own hg (fun b hb e => h2 ((Option.some.inj e).trans (Option.some.inj hb).symm)), h.bel.grown hg h.bel.size (fun k hk => by injection hk with hk; omega), h.lo⟩

def TogPost (w : World) (n : Nat) (E : List (Int × Int)) (e : Ending) (w' : World) : Prop :=
  ∃ g P, e = .returned (.slice (some ⟨g, 0, none⟩) n n) ∧ OwnN w' w.heap.size (.slice (some ⟨g, 0, none⟩) n n) P ∧ P.length = n ∧ (∀ x, x < n → pa P x = lo E n x) ∧ Below w.heap.size w w'

set_option maxHeartbeats 4000000 in
set_option maxRecDepth 100000 in
theorem together_calls (n : Nat) (E : List (Int × Int)) (A : Option Addr) (c : Nat) (w : World) (hr : kE.C w A E.length E) (hE : E.length ≤ 8796093022200) (hn : n ≤ 131072) (hok : ∀ x ∈ E, EOk n x) :
    Calls Try.prog 52 #[.int .i64 n, .slice A E.length c] w fun e w' => TogPost w n E e w' := by
  have HRC1 := Aside0.mk (refRows_calls n E A c w hr (by omega) hn hok)
  have HR := Aside0.mk hr
  have HOK := Aside0.mk hok
  clear hr hok
  go_enter Try.func52, Try.ntmps52
  go_wp2_with fail
  refine HRC1.out.mono ?_
  rintro e w1 ⟨vals1, R1, rfl, hrows1, hin1, hsum1, hb1⟩
  have HROWS1 := Aside0.mk hrows1
  have HIN1 := Aside0.mk (And.intro hin1 hsum1)
  have HB1 := Aside0.mk hb1
  have HR1 := Aside0.mk (Kd.C_below HR.out hb1)
  have HRC2 := Aside0.mk (refRowsBack_calls n E A c w1 HR1.out (by omega) hn HOK.out)
  clear hrows1 hin1 hsum1 hb1
  go_wp2_with fail
  refine HRC2.out.mono ?_
  rintro e w2 ⟨vals2, R2, rfl, hrows2, hin2, hsum2, hb2⟩
  have HROWS2 := Aside0.mk hrows2
  have HROWS12 := Aside0.mk (HROWS1.out.below hb2)
  have HIN2 := Aside0.mk (And.intro hin2 hsum2)
  have HB2 := Aside0.mk (HB1.out.trans (hb2.mono HB1.out.size))
  clear hrows2 hin2 hsum2 hb2 HROWS1
  have hmk := run_make_row' (P := Try.prog) 33 3 (.int .i64 0) 8 Try.underlying33 info3 rfl .i64 .i64 n (by omega) (by omega)
  go_wp2_with fail
  clear hmk
  obtain ⟨w3, hw3, HLM⟩ := ex_world (p := LM w2 w2.heap.size n (List.replicate n (some 0))) (W := w2.alloc (Obj.cells (madeCells #[Value.int IntKind.i64 0] n) 3))
    ⟨by { have := OwnN.made w2 w2.heap.size n (Nat.le_refl _) (by omega); unfold OwnN at this; unfold OwnO; simpa [encN, encO] using this }, (Below.refl _ _).alloc (Nat.le_refl _) _, Nat.le_refl _⟩
  rw [hw3]
  clear hw3
  go_loopg [8] n (fun g' i wr => ∃ (k : Nat) (L : List (Option Nat)), k ≤ n ∧ g' = n - k ∧ i = .int .i64 k ∧ Aside0 (LM w2 w2.heap.size n L wr) ∧ Aside0 (∀ j, j < k → lb L j = none))
  case atStart => exact ⟨0, _, Nat.zero_le _, rfl, rfl, HLM, ⟨fun j hj => by omega⟩⟩
  case round =>
    clear HLM
    obtain ⟨k, L, hk, rfl, rfl, HLM, HNO⟩ := hrel
    by_cases hlt : k < n
    · obtain ⟨f1, f2⟩ := HLM.out.at_ hlt
      have HREL := Aside0.mk (HLM.out.set_ (v := none) (u := .int .i64 (-1)) rfl hlt)
      have HNO2 := Aside0.mk (show ∀ j, j < k + 1 → lb (L.set k none) j = none by
        intro j hj
        rw [lb_set (by rw [← HLM.out.own.len]; exact hlt)]
        split
        · rfl
        · exact HNO.out j (by omega))
      go_wp2_with fail
      go_roundg (n - (k + 1))
      case rel => exact ⟨k + 1, _, by omega, rfl, by go_num, HREL, HNO2⟩
      case measure => omega
    · obtain rfl : n = k := by omega
      have HL0 := Aside0.mk (show Lt E n 0 L by
        have : L = List.replicate n none := by
          apply List.ext_getElem
          · rw [← HLM.out.own.len]; simp
          · intro j h1 h2
            have := HNO.out j (by rw [HLM.out.own.len]; exact h1)
            unfold lb at this
            rw [List.getD_eq_getElem?_getD, List.getElem?_eq_getElem h1] at this
            simpa using this
        rw [this]
        exact Lt.start E n)
      go_wp2_with fail
      go_loopg [9] n (fun g' i wr => ∃ (k : Nat) (L : List (Option Nat)), k ≤ n ∧ g' = n - k ∧ i = .int .i64 k ∧ Aside0 (LM w2 w2.heap.size n L wr) ∧ Aside0 (Lt E n k L))
      case atStart => exact ⟨0, _, Nat.zero_le _, rfl, rfl, HLM, HL0⟩
      case round =>
        clear HLM HL0 HNO hk hlt
        obtain ⟨i, L, hi, rfl, rfl, HLM, HLA⟩ := hrel
        by_cases hlt : i < n
        · obtain ⟨f1, f2⟩ := HLM.out.at_ hlt
          cases hli : lb L i with
          | some l =>
            rw [hli] at f1
            have HLI := Aside0.mk (HLA.out.skip hlt (by rw [hli]; simp))
            clear hli
            unfold encO at f1
            simp only at f1
            go_wp2_with fail
            go_roundg (n - (i + 1))
            case rel => exact ⟨i + 1, L, by omega, rfl, by go_num, HLM, HLI⟩
            case measure => omega
          | none =>
            rw [hli] at f1
            have HNONE := Aside0.mk hli
            unfold encO at f1
            simp only at f1
            clear hli
            go_upto_region 13 with (fail)
            obtain ⟨w4, hw4, HLM4⟩ := ex_world (HLM.out.set_ (v := some i) (u := .int .i64 (i : Int)) rfl hlt)
            rw [hw4]
            clear hw4 f1 f2
            obtain ⟨xv1, hxv1, r1, -, hin1, -, -⟩ := (HROWS12.out.below HLM4.out.bel).get (i := i) (by have := HIN1.out.1.1; omega)
            obtain ⟨Ax1, cx1, he⟩ := own_slice hin1
            subst he
            obtain ⟨xv2, hxv2, r2, -, hin2, -, -⟩ := (HROWS2.out.below HLM4.out.bel).get (i := i) (by have := HIN2.out.1.1; omega)
            obtain ⟨Ax2, cx2, he⟩ := own_slice hin2
            subst he
            obtain ⟨a, ha⟩ : ∃ a, a = (nb R1 i).length := ⟨_, rfl⟩
            obtain ⟨b, hb⟩ : ∃ b, b = (nb R2 i).length := ⟨_, rfl⟩
            rw [← ha] at r1
            rw [← hb] at r2
            have HA := Aside0.mk (And.intro ha hb)
            clear ha hb hxv1 hxv2 hin1 hin2
            by_cases ha0 : a = 0
            · have hab : ((a : Int) == 0) = true := beq_iff_eq.2 (by omega)
              have HLI := Aside0.mk (show Lt E n (i + 1) (L.set i (some i)) by
                have hno : ∀ z : Nat, ((i : Int), (z : Int)) ∉ E := fun z hz => by
                  have h1 := (HIN1.out.1.2 i z).2 hz
                  have h2 := List.eq_nil_of_length_eq_zero (HA.out.1.symm.trans ha0)
                  rw [h2] at h1; cases h1
                exact (Lr.start (rem := fun _ => true) HLA.out hlt HNONE.out (fun _ _ => rfl)).fin hlt (fun x hx hne => absurd (rch_out hno hx.1) hne))
              clear ha0
              go_wp2_with fail
              go_roundg (n - (i + 1))
              case rel => exact ⟨i + 1, _, by omega, rfl, by go_num, HLM4, HLI⟩
              case measure => omega
            · have hab : ((a : Int) == 0) = false := beq_eq_false_iff_ne.2 (by omega)
              clear ha0
              by_cases hb0 : b = 0
              · have hbb : ((b : Int) == 0) = true := beq_iff_eq.2 (by omega)
                have HLI := Aside0.mk (show Lt E n (i + 1) (L.set i (some i)) by
                  have hno : ∀ z : Nat, ((z : Int), (i : Int)) ∉ E := fun z hz => by
                    have h1 := (HIN2.out.1.2 i z).2 hz
                    have h2 := List.eq_nil_of_length_eq_zero (HA.out.2.symm.trans hb0)
                    rw [h2] at h1; cases h1
                  exact (Lr.start (rem := fun _ => true) HLA.out hlt HNONE.out (fun _ _ => rfl)).fin hlt (fun x hx hne => absurd (rch_in hno hx.2) hne))
                clear hb0
                go_wp2_with fail
                go_roundg (n - (i + 1))
                case rel => exact ⟨i + 1, _, by omega, rfl, by go_num, HLM4, HLI⟩
                case measure => omega
              · have hbb : ((b : Int) == 0) = false := beq_eq_false_iff_ne.2 (by omega)
                clear hb0
                have FC1 := far_calls n i w.heap.size n w.heap.size vals1 R1 w4 (HROWS12.out.below HLM4.out.bel) HIN1.out.1.1
                  (fun x y hy => by have := (HOK.out _ ((HIN1.out.1.2 x y).1 hy)).2.2.2; simp only at this; omega) (fun x => Nat.le_trans (HIN1.out.2 x) (by omega)) hn hlt
                have HFC1 := Aside0.mk FC1
                clear FC1
                go_wp2_with fail
                clear r1 r2
                refine HFC1.out.mono ?_
                rintro e w5 ⟨f1, rfl, hm1, ht1, hd1, hb5⟩
                have HLM5 := Aside0.mk (HLM4.out.step hb5)
                have FC2 := far_calls n i w1.heap.size n w1.heap.size vals2 R2 w5 (HROWS2.out.below HLM5.out.bel) HIN2.out.1.1
                  (fun x y hy => by have := (HOK.out _ ((HIN2.out.1.2 x y).1 hy)).2.1; simp only at this; omega) (fun x => Nat.le_trans (HIN2.out.2 x) (by omega)) hn hlt
                have HFC2 := Aside0.mk FC2
                have HM1 := Aside0.mk hm1
                have HT1 := Aside0.mk (show ∀ x, (f1 x).isSome = true ↔ Rch E i x from fun x => by
                  rw [← rr_rch1 HIN1.out.1, ← ht1.dom]
                  cases f1 x <;> simp)
                clear FC2 hm1 ht1 hd1 hb5
                go_wp2_with fail
                refine HFC2.out.mono ?_
                rintro e w6 ⟨f2, rfl, hm2, ht2, hd2, hb6⟩
                have HLM6 := Aside0.mk (HLM5.out.step hb6)
                have HM16 := Aside0.mk (HM1.out.below hb6)
                have HM2 := Aside0.mk hm2
                have HT2 := Aside0.mk (show ∀ x, (f2 x).isSome = true ↔ Rch E x i from fun x => by
                  rw [← rr_rch2 HIN2.out.1, ← ht2.dom]
                  cases f2 x <;> simp)
                obtain ⟨m1, hm1⟩ : ∃ m1, m1 = w4.heap.size := ⟨_, rfl⟩
                obtain ⟨m2, hm2⟩ : ∃ m2, m2 = w5.heap.size := ⟨_, rfl⟩
                rw [← hm1] at HM16
                rw [← hm2] at HM2
                rw [← hm1, ← hm2]
                clear ht2 hd2 hb6 HM1 hm1 hm2
                go_wp2_with (at_range; refine wpList_range_F rfl _ _ rfl 3 Try.underlying101 m1 n _ rfl HM16.out ?_; intro w7 cnt hrg hb7; have HRG := Aside0.mk hrg; have HB7 := Aside0.mk hb7; clear hrg hb7)
                try go_frame
                have HLM7 := Aside0.mk (HLM6.out.step HB7.out)
                have HM27 := Aside0.mk (HM2.out.below HB7.out)
                obtain ⟨r, hr⟩ : ∃ r, r = w6.heap.size := ⟨_, rfl⟩
                rw [← hr] at HRG ⊢
                have hrm : r ≠ m2 := by have := HM2.out.lt; omega
                have hrg0 : r ≠ w2.heap.size := by have := HLM6.out.lt; omega
                have hr2 : w2.heap.size ≤ r := by rw [hr]; exact HLM6.out.bel.size
                have hmg : m2 ≠ w2.heap.size := fun e => by
                  have h1 := HM2.out.row_ne HLM6.out.own
                  exact h1 (by rw [e]; rfl)
                have hmg1 : m1 ≠ w2.heap.size := fun e => by
                  have h1 := HM16.out.row_ne HLM6.out.own
                  exact h1 (by rw [e]; rfl)
                have HNE := Aside0.mk (And.intro hrm (And.intro hrg0 (And.intro hr2 (And.intro hmg hmg1))))
                clear hrm hrg0 hr2 hmg hmg1 hr
                have HLR := Aside0.mk (Lr.start (rem := fun x => ((f1 x).map encN).isSome) HLA.out hlt HNONE.out (fun x hx => by
                  have := (HT1.out x).2 hx
                  cases hf : f1 x with
                  | none => rw [hf] at this; cases this
                  | some d => rfl))
                go_loopg [] cnt (fun g wq => ∃ (L : List (Option Nat)) (rem : Nat → Bool), Aside0 (RangeF wq m1 r n (fun y => (f1 y).map encN) rem g) ∧ Aside0 (MapF wq m2 n (fun y => (f2 y).map encN)) ∧ Aside0 (LM w2 w2.heap.size n L wq) ∧ Aside0 (Lr E n i L rem))
                case atStart => exact ⟨_, _, HRG, HM27, HLM7, HLR⟩
                case round =>
                  clear HRG HM27 HLM7 HLR HLM6 HM2 HM16 HLM5 HLM4 HLM
                  obtain ⟨L, rem, HRG, HM2, HLM, HLR⟩ := hrel
                  go_wp2_with (at_next; refine wpList_next_F rfl _ rfl m1 r n gk _ rem rfl HRG.out ?_ ?_)
                  · intro hdone
                    have HLI := Aside0.mk (HLR.out.fin hlt (fun x _ _ => hdone x))
                    clear hdone
                    go_wp2_with fail
                    go_roundg (n - (i + 1))
                    case rel => exact ⟨i + 1, L, by omega, rfl, by go_num, HLM, HLI⟩
                    case measure => omega
                  · intro x v w8 cnt2 hrem hxn d1 hfx hfv hrg8 hclt hg8 hen
                    have HRG8 := Aside0.mk hrg8
                    have HLM8 := Aside0.mk (HLM.out.grown hg8 HNE.out.2.2.1 HNE.out.2.1)
                    have HM28 := Aside0.mk (HM2.out.grown hg8 (fun e => HNE.out.1 (Option.some.inj e)))
                    have hr1 : Rch E i x := (HT1.out x).1 (by rw [hfx]; rfl)
                    clear hrg8 hg8 hfx hfv
                    cases hf2 : f2 x with
                    | none =>
                      have l1 := HM28.out.look_no (t := 101) Try.underlying101 (zero3' w8) (x := x) (by omega) (by rw [hf2]; rfl)
                      have HLR2 := Aside0.mk (HLR.out.no_ (y := x) (fun hb => by have := (HT2.out x).2 hb.2; rw [hf2] at this; cases this))
                      clear hf2 hrem hr1
                      go_wp2_with fail
                      go_roundg cnt2
                      case rel => exact ⟨L, _, HRG8, HM28, HLM8, HLR2⟩
                      case measure => exact hclt
                    | some d =>
                      have l1 := HM28.out.look_ok (t := 101) Try.underlying101 (zero3' w8) (x := x) (by omega) (v := encN d) (by rw [hf2]; rfl)
                      have HLR2 := Aside0.mk (HLR.out.yes_ hlt hxn ⟨hr1, (HT2.out x).1 (by rw [hf2]; rfl)⟩)
                      obtain ⟨f3, f4⟩ := HLM8.out.at_ hxn
                      have hst := (HLM8.out.own.set_ (v := some i) (u := .int .i64 (i : Int)) rfl (by rw [← HLM8.out.own.len]; exact hxn)).2
                      have HLM9 := Aside0.mk (HLM8.out.set_ (v := some i) (u := .int .i64 (i : Int)) rfl hxn)
                      have HRG9 := Aside0.mk (HRG8.out.grown hst (fun e => HNE.out.2.2.2.2 (Option.some.inj e).symm) (fun e => HNE.out.2.1 (Option.some.inj e).symm))
                      have HM29 := Aside0.mk (HM28.out.grown hst (fun e => HNE.out.2.2.2.1 (Option.some.inj e).symm))
                      unfold encN at l1
                      clear hf2 hrem hr1 hst
                      go_wp2_with fail
                      go_roundg cnt2
                      case rel => exact ⟨_, _, HRG9, HM29, HLM9, HLR2⟩
                      case measure => exact hclt
        · obtain rfl : n = i := by omega
          obtain ⟨P, hP⟩ := HLA.out.some_
          have HP := Aside0.mk hP
          clear hP
          go_wp2_with fail
          go_ret
          have hP := HP.out
          subst hP
          obtain ⟨hl, hall⟩ := HLA.out.all
          refine ⟨w2.heap.size, P, rfl, ?_, hl, hall, HB2.out.trans (HLM.out.bel.mono HB2.out.size)⟩
          have := own_less HLM.out.own HB2.out.size
          unfold OwnN
          rw [show P.map encN = (P.map some).map encO by rw [List.map_map]; rfl]
          simpa using this

end Go.Proofs.Ytdddbjaggfaofaa.Mem
