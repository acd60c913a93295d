/- Order by its contract; GraphOrders' walk; places: where each thing stands in an order of them all. -/
import Derived.Test.YtdddbjaggfaofaaArd
import Derived.Test.YtdddbjaggfaofaaRo
import Derived.Test.YtdddbjaggfaofaaLineA
import Derived.Test.YtdddbjaggfaofaaClsA
import Derived.Test.YtdddbjaggfaofaaReaches

namespace Go.Proofs.Ytdddbjaggfaofaa.Mem
open Go.RowKit Go.Proofs.Ytdddbjaggfaofaa.GM Go.Proofs.YtdddbjaggfaofaaW.PrintWords
set_option linter.unusedVariables false

theorem nu_all {n : Nat} {E : List (Int × Int)} {R1 R2 : List (List Nat)} (hok : ∀ e ∈ E, EOk n e) (hin1 : RowsIn n E false R1) (hin2 : RowsIn n E true R2) (hris1 : ∀ a, Rising (nb R1 a)) (hris2 : ∀ a, Rising (nb R2 a)) : NU n R1 R2 (fun x => x ∈ List.range n) where
  tie := fun x y => by rw [hin1.2, hin2.2]; exact Iff.rfl
  nr := hris1
  ur := hris2
  nt := fun x y hy => by
    have h := hok _ ((hin1.2 x y).1 hy)
    obtain ⟨o1, o2, o3, o4⟩ := h
    simp only at o2 o4
    exact ⟨List.mem_range.2 (by omega), List.mem_range.2 (by omega)⟩
  lt := fun x hx => List.mem_range.1 hx

set_option maxHeartbeats 4000000 in
set_option maxRecDepth 100000 in
theorem order_calls (n : Int) (E : List (Int × Int)) (A : Option Addr) (c : Nat) (w : World) (hr : kE.C w A E.length E) (hE : E.length ≤ 8796093022208) :
    Calls Try.prog 33 #[.int .i64 n, .slice A E.length c] w fun e w' => OrderPost w n E e w' := by
  have HRC := Aside0.mk (rows_calls n E false A c w hr hE)
  have HR := Aside0.mk hr
  clear hr
  go_enter Try.func33, Try.ntmps33
  go_wp2_with fail
  refine HRC.out.mono ?_
  rintro e w1 ⟨hb1, ⟨hbad, rfl⟩ | ⟨g2, n, vals, R, rfl, g1, rfl, hrows, hin, hris⟩⟩
  · have HB1 := Aside0.mk hb1
    have HBAD := Aside0.mk hbad
    clear hb1 hbad
    go_wp2_with fail
    go_ret3
    exact ⟨HB1.out, .inl ⟨HBAD.out, rfl⟩⟩
  · have HB1 := Aside0.mk hb1
    have HOK := Aside0.mk g2
    have HROWS := Aside0.mk hrows
    have HIN := Aside0.mk (And.intro hin hris)
    have HR1 := Aside0.mk (Kd.C_below HR.out hb1)
    have HRC2 := Aside0.mk (rows_calls n E true A c w1 HR1.out hE)
    clear hb1 g2 hrows hin hris HRC
    go_wp2_with fail
    refine HRC2.out.mono ?_
    rintro e w2 ⟨hb2, ⟨hbad, rfl⟩ | ⟨g3, n2, vals2, R2, hnn, -, rfl, hrows2, hin2, hris2⟩⟩
    · exact absurd ⟨by omega, by omega, HOK.out⟩ hbad
    · obtain rfl : n = n2 := by omega
      have HB2 := Aside0.mk (HB1.out.trans (hb2.mono HB1.out.size))
      have HROWS1 := Aside0.mk (HROWS.out.below hb2)
      have HROWS2 := Aside0.mk hrows2
      have HIN2 := Aside0.mk (And.intro hin2 hris2)
      have HNU := Aside0.mk (nu_all HOK.out HIN.out.1 hin2 HIN.out.2 hris2)
      have HCC := Aside0.mk (count_calls n w2 g1)
      clear hb2 g3 hrows2 hin2 hris2 hnn HRC2
      go_wp2_with fail
      refine HCC.out.mono ?_
      rintro e w3 ⟨rfl, hcnt, hb3⟩
      have HB3 := Aside0.mk hb3
      have HLC := Aside0.mk (line_calls n w.heap.size n w1.heap.size n w.heap.size w2.heap.size (.slice (some ⟨w2.heap.size, 0, none⟩) n n) (List.range n) vals vals2 R R2 w3 hcnt (HROWS1.out.below hb3) ((OwnRows.less HROWS2.out HB1.out.size).below hb3) HIN.out.1.1 HIN2.out.1.1 g1 HNU.out List.nodup_range)
      clear hcnt hb3 HCC
      have HR3 := Aside0.mk (HB2.out.trans (HB3.out.mono HB2.out.size))
      have hRNC := fun (W : World) (hb : Below w3.heap.size w3 W) => first_calls n w.heap.size n w.heap.size E vals R W ((HROWS1.out.below HB3.out).below hb) HIN.out.1 HIN.out.2 g1 HOK.out
      have hAC := fun (W : World) (x : Nat) (hb : Below w3.heap.size w3 W) (hx : FirstC E n x) => around_calls n x w.heap.size n w1.heap.size n w.heap.size E vals vals2 R R2 W ((HROWS1.out.below HB3.out).below hb) (((OwnRows.less HROWS2.out HB1.out.size).below HB3.out).below hb) HIN.out.1 HIN2.out.1 HIN.out.2 HIN2.out.2 g1 HOK.out hx
      have HRNC := Aside0.mk hRNC
      have HAC := Aside0.mk hAC
      clear hRNC hAC
      go_wp2_with fail
      refine HLC.out.mono ?_
      rintro e w4 ⟨hb4, v, D, rfl, hD, hfull⟩
      obtain ⟨A4, c4, rfl⟩ := own_slice hD
      have HF := Aside0.mk (show Full (fun x => x < n) (NE E) D from hfull.congr (fun x => List.mem_range) (fun x y => HIN.out.1.2 x y))
      have HB4 := Aside0.mk (HR3.out.trans (hb4.mono HR3.out.size))
      have HB34 := Aside0.mk hb4
      have HD := Aside0.mk (own_less hD HR3.out.size)
      have hdl : D.length ≤ n := HF.out.1.length_le (fun x hx => hx)
      clear hb4 hD hfull HLC
      by_cases hl : D.length = n
      · have e1 : (((D.length : Nat) : Int) == ((n : Nat) : Int)) = true := beq_iff_eq.2 (by omega)
        have HL := Aside0.mk hl
        have HDN := Aside0.mk (show OwnN w4 w.heap.size (.slice A4 n c4) D from hl ▸ HD.out)
        clear hl
        go_wp2_with fail
        go_ret3
        exact ⟨HB4.out, .inr ⟨⟨by omega, by omega, HOK.out⟩, n, D, rfl, HF.out, .inl ⟨HL.out, A4, c4, by rw [HL.out]; rfl, HDN.out⟩⟩⟩
      · have e1 : (((D.length : Nat) : Int) == ((n : Nat) : Int)) = false := beq_eq_false_iff_ne.2 (by omega)
        have hex := first_exists (fun x y hy => by have := (HOK.out _ hy).2.2.2; simp only at this; omega) HF.out hl
        have HFC := Aside0.mk (HRNC.out w4 HB34.out hex)
        have HL := Aside0.mk hl
        clear hl hex
        go_wp2_with fail
        refine HFC.out.mono ?_
        rintro e w5 ⟨x, rfl, hx, hb5⟩
        have HB35 := Aside0.mk (HB34.out.trans (hb5.mono HB34.out.size))
        have HAR := Aside0.mk (HAC.out w5 x HB35.out hx)
        have HB5 := Aside0.mk (HB4.out.trans (hb5.mono HB4.out.size))
        clear hx hb5
        go_wp2_with fail
        refine HAR.out.mono ?_
        rintro e w6 ⟨A6, c6, C, rfl, ho, hcy, hb6⟩
        have HO := Aside0.mk (own_less ho HB5.out.size)
        have HCY := Aside0.mk hcy
        have HB6 := Aside0.mk (HB5.out.trans (hb6.mono HB5.out.size))
        clear ho hcy hb6
        go_wp2_with fail
        go_ret3
        exact ⟨HB6.out, .inr ⟨⟨by omega, by omega, HOK.out⟩, n, D, rfl, HF.out, .inr ⟨HL.out, A6, c6, C, rfl, HO.out, HCY.out⟩⟩⟩

end Go.Proofs.Ytdddbjaggfaofaa.Mem

namespace Go.Proofs.Ytdddbjaggfaofaa.Mem
open Go.RowKit Go.Proofs.Ytdddbjaggfaofaa.GM Go.Proofs.YtdddbjaggfaofaaW.PrintWords
set_option linter.unusedVariables false

theorem order_same {w1 w2 w3 w4 : World} {n : Int} {E : List (Int × Int)} {e f : Ending} (h1 : OrderPost w1 n E e w2) (h2 : OrderPost w3 n E f w4) :
    (∃ A1 A2 c1 c2 B1 B2 d1 d2 k xs ys, e = .returned (.tuple #[.slice A1 xs.length c1, .slice B1 ys.length d1, .int .i64 k]) ∧ f = .returned (.tuple #[.slice A2 xs.length c2, .slice B2 ys.length d2, .int .i64 k]) ∧ RN w2 A1 xs.length xs ∧ RN w4 A2 xs.length xs ∧ RN w2 B1 ys.length ys ∧ RN w4 B2 ys.length ys) := by
  have nilr : ∀ w, RN w none 0 [] := fun w => ⟨rfl, by omega, fun k hk => by simp at hk⟩
  rcases h1.2 with ⟨b1, rfl⟩ | ⟨g1, m, D, rfl, hf1, hc1⟩
  · rcases h2.2 with ⟨b2, rfl⟩ | ⟨k1, _⟩
    · exact ⟨none, none, 0, 0, none, none, 0, 0, 1, [], [], rfl, rfl, nilr _, nilr _, nilr _, nilr _⟩
    · exact absurd k1 b1
  · rcases h2.2 with ⟨b2, rfl⟩ | ⟨k1, m', D', hm, hf2, hc2⟩
    · exact absurd g1 b2
    · obtain rfl : m = m' := by omega
      obtain rfl := hf1.unique hf2
      rcases hc1 with ⟨hl1, A1, c1, rfl, ho1⟩ | ⟨hl1, A1, c1, C1, rfl, ho1, hy1⟩
      · rcases hc2 with ⟨hl2, A2, c2, rfl, ho2⟩ | ⟨hl2, _⟩
        · subst hl1
          exact ⟨A1, A2, c1, c2, none, none, 0, 0, 0, D, [], rfl, rfl, RN.of_own ho1, RN.of_own ho2, nilr _, nilr _⟩
        · exact absurd hl1 hl2
      · rcases hc2 with ⟨hl2, _⟩ | ⟨hl2, A2, c2, C2, rfl, ho2, hy2⟩
        · exact absurd hl2 hl1
        · obtain rfl := hy1.unique hy2
          exact ⟨none, none, 0, 0, A1, A2, c1, c2, 73, [], C1, rfl, rfl, nilr _, nilr _, RN.of_own ho1, RN.of_own ho2⟩

theorem order_shape {w w' : World} {n : Int} {E : List (Int × Int)} {e : Ending} (h : OrderPost w n E e w') : ∃ v u k, e = .returned (.tuple #[v, u, .int .i64 k]) := by
  rcases h.2 with ⟨_, rfl⟩ | ⟨_, m, D, _, _, ⟨_, A, c, rfl, _⟩ | ⟨_, A, c, C, rfl, _⟩⟩
  · exact ⟨_, _, _, rfl⟩
  · exact ⟨_, _, _, rfl⟩
  · exact ⟨_, _, _, rfl⟩

set_option maxHeartbeats 2000000 in
set_option maxRecDepth 100000 in
theorem graphOrders_walk (n : Int) (E : List (Int × Int)) (A : Option Addr) (c : Nat) (w : World) (hr : kE.C w A E.length E) (hnil : A = none → c = 0) (hE : E.length ≤ 8796093022200) :
    Calls Try.prog 10 #[.int .i64 n, .slice A E.length c] w fun e w' => e = .returned (.bool true) ∧ Below w.heap.size w w' := by
  have HR := Aside0.mk hr
  have HLC := Aside0.mk (lent_calls E A c w hr hnil hE)
  clear hr
  go_enter Try.func10, Try.ntmps10
  go_wp2_with fail
  refine HLC.out.mono ?_
  rintro e w1 ⟨rfl, hb1, hl1⟩
  have HL := Aside0.mk (show Lent w1 w.heap.size E from ⟨_, hl1⟩)
  have HB1 := Aside0.mk hb1
  clear hb1 hl1
  go_wp2_with fail
  refine (order_calls n E _ _ _ (lent_reads HL.out (by omega)) (by omega)).mono ?_
  intro e w2 hp1
  have HP1 := Aside0.mk hp1
  have HB2 := Aside0.mk (HB1.out.trans (hp1.1.mono HB1.out.size))
  have HR2 := Aside0.mk (Kd.C_below HR.out (HB2.out.mono (Nat.le_refl _)))
  have HRC := Aside0.mk (refOrder_calls n E A c w2 HR2.out hE)
  clear hp1
  obtain ⟨v, u, k, rfl⟩ := order_shape HP1.out
  go_wp2_with fail
  refine HRC.out.mono ?_
  intro f w3 hp2
  obtain ⟨A1, A2, c1, c2, B1, B2, d1, d2, k', xs, ys, he, rfl, r1, r2, r3, r4⟩ := order_same HP1.out hp2
  simp only [Ending.returned.injEq, Value.tuple.injEq] at he
  have hv : v = .slice A1 xs.length c1 ∧ u = .slice B1 ys.length d1 ∧ k = k' := by simpa using he
  obtain ⟨rfl, rfl, rfl⟩ := hv
  have HX := Aside0.mk (r1.below hp2.1)
  have HY := Aside0.mk r2
  have HX2 := Aside0.mk (r3.below hp2.1)
  have HY2 := Aside0.mk r4
  have HB3 := Aside0.mk (HB2.out.trans (hp2.1.mono HB2.out.size))
  have HL3 := Aside0.mk ((HL.out.below HP1.out.1).below hp2.1)
  clear hp2 r1 r2 r3 r4 he
  go_wp2_with fail
  refine (sameInts_calls xs xs A1 A2 _ _ c1 c2 _ HX.out HY.out).mono ?_
  rintro e w4 ⟨rfl, q, rfl⟩
  have hs : sameB xs xs = true := by simp [sameB]
  have hs2 : sameB ys ys = true := by simp [sameB]
  have HS2 := Aside0.mk (sameInts_calls ys ys B1 B2 _ _ d1 d2 (w3.drewN q) (HX2.out.below (pw_below_drewN (Below.refl _ _) _)) (HY2.out.below (pw_below_drewN (Below.refl _ _) _)))
  rw [hs2] at HS2
  have HKA := fun (q : Nat) => Aside0.mk (kept_calls E A c w.heap.size (w3.drewN q) (Kd.C_below HR.out (pw_below_drewN HB3.out _)) hE HL3.out)
  have hkk : (k == k) = true := by simp
  rw [hs]
  clear hs hs2
  go_wp2_with fail
  refine HS2.out.mono ?_
  rintro e w4 ⟨rfl, q2, rfl⟩
  have HK := HKA (q + q2)
  go_wp2_with fail
  refine HK.out.mono ?_
  rintro e w5 ⟨rfl, q3, rfl⟩
  go_wp2_with fail
  go_ret
  exact ⟨rfl, pw_below_drewN HB3.out _⟩

end Go.Proofs.Ytdddbjaggfaofaa.Mem

namespace Go.Proofs.Ytdddbjaggfaofaa.Mem
open Go.RowKit Go.Proofs.Ytdddbjaggfaofaa.GM Go.Proofs.YtdddbjaggfaofaaW.PrintWords
set_option linter.unusedVariables false

/-- A slice of whole numbers of the call's own. -/
def OwnZ (w : World) (base : Nat) (v : Value) (zs : List Int) : Prop := w.ownsRow base 3 1 v zs.length (zs.map (Value.int .i64))

theorem OwnZ.of {w : World} {base : Nat} {v : Value} {xs : List Nat} (h : OwnN w base v xs) : OwnZ w base v (xs.map Int.ofNat) := by
  unfold OwnZ
  rw [List.length_map, List.map_map]
  exact h
theorem OwnZ.at_ {w : World} {base g n c : Nat} {P : List Int} (h : OwnZ w base (.slice (some ⟨g, 0, none⟩) n c) P) {x : Nat} {z : Int} (hx : P[x]? = some z) :
    w.cell? ⟨g, x, none⟩ = some (.int .i64 z) ∧ w.frozen? ⟨g, x, none⟩ = false := by
  have hc := h.cells (g := g) rfl x (.int .i64 z) (by rw [List.getElem?_map, hx]; rfl)
  rw [add_plain] at hc
  obtain ⟨cs, hcs⟩ := own_typed h g rfl
  exact ⟨by simpa using hc, by simp [World.frozen?, hcs]⟩
theorem OwnZ.set_ {w : World} {base g n c : Nat} {P : List Int} (h : OwnZ w base (.slice (some ⟨g, 0, none⟩) n c) P) (hn : n = P.length) (x : Nat) (z : Int) :
    OwnZ (w.setCell ⟨g, x, none⟩ (.int .i64 z)) base (.slice (some ⟨g, 0, none⟩) n c) (P.set x z) := by
  subst hn
  unfold OwnZ at h ⊢
  have := h.stored x (.int .i64 z)
  rw [List.length_set, List.map_set]
  exact this.1

/-- N tells where each stands in D. -/
def Pos (D N : List Nat) : Prop := ∀ i x : Nat, D[i]? = some x → pa N x = i

theorem perm_mem {n : Nat} {D : List Nat} (hd : D.Nodup) (hlt : ∀ x ∈ D, x < n) (hl : D.length = n) : ∀ x, x < n → x ∈ D := by
  intro x hx
  refine Classical.byContradiction fun hno => ?_
  have h1 : (x :: D).Nodup := List.nodup_cons.2 ⟨hno, hd⟩
  have h2 := GM.nodup_lt_length (n := n) h1 (fun y hy => by
    rcases List.mem_cons.1 hy with e | e
    · omega
    · exact hlt y e)
  rw [List.length_cons] at h2
  omega

def PlacesPost (w : World) (n : Nat) (D : List Nat) (e : Ending) (w' : World) : Prop :=
  ∃ N, e = .returned (.tuple #[.slice (some ⟨w.heap.size, 0, none⟩) n n, .bool true]) ∧ OwnN w' w.heap.size (.slice (some ⟨w.heap.size, 0, none⟩) n n) N ∧ N.length = n ∧ Pos D N ∧ Below w.heap.size w w'

theorem place_fin {n : Nat} {D : List Nat} {zs : List Int} (hz : zs.length = n) (h : ∀ i x : Nat, D[i]? = some x → zs[x]? = some (i : Int)) (hall : ∀ x, x < n → x ∈ D) (hlt : ∀ x ∈ D, x < n) : ∃ N : List Nat, N.length = n ∧ zs = N.map Int.ofNat ∧ Pos D N := by
  refine ⟨zs.map Int.toNat, by simpa using hz, ?_, fun i x hx => ?_⟩
  · apply List.ext_getElem
    · simp
    · intro x h1 h2
      simp only [List.getElem_map]
      obtain ⟨i, hi, e⟩ := List.mem_iff_getElem.1 (hall x (by omega))
      have h3 := h i x (by rw [List.getElem?_eq_getElem hi, e])
      rw [List.getElem?_eq_getElem h1] at h3
      rw [Option.some.inj h3]
      rfl
  · have h3 := h i x hx
    have hxn := hlt x (List.mem_of_getElem? hx)
    obtain ⟨h1, h4⟩ := List.getElem?_eq_some_iff.1 h3
    rw [pa_get (by simpa using h1), List.getElem_map, h4]
    rfl

set_option maxHeartbeats 2000000 in
set_option maxRecDepth 100000 in
theorem places_calls (n : Nat) (D : List Nat) (A : Option Addr) (c : Nat) (w : World) (hD : RN w A n D) (hn : n ≤ 131072) (hd : D.Nodup) (hlt : ∀ x ∈ D, x < n) :
    Calls Try.prog 35 #[.int .i64 n, .slice A n c] w fun e w' => PlacesPost w n D e w' := by
  have hmk := run_make_row' (P := Try.prog) 33 3 (.int .i64 0) 8 Try.underlying33 info3 rfl .i64 .i64 n (by omega) (by omega)
  have HM := Aside0.mk (OwnZ.of (OwnN.made w w.heap.size n (Nat.le_refl _) hn))
  have hdl := hD.1
  have HD := Aside0.mk hD
  have HND := Aside0.mk (And.intro hd (And.intro hlt (perm_mem hd hlt hdl.symm)))
  have HDL := Aside0.mk hdl
  clear hD hd hlt hdl
  go_enter Try.func35, Try.ntmps35
  go_wp2_with fail
  clear hmk
  obtain ⟨g, hg⟩ : ∃ g, g = w.heap.size := ⟨_, rfl⟩
  obtain ⟨W, hW, HW⟩ := ex_world (p := fun W => OwnZ W w.heap.size (.slice (some ⟨g, 0, none⟩) n n) ((List.replicate n 0).map Int.ofNat) ∧ Below w.heap.size w W) (W := w.alloc (Obj.cells (madeCells #[Value.int IntKind.i64 0] n) 3)) ⟨by rw [hg]; exact HM.out, (Below.refl _ _).alloc (Nat.le_refl _) _⟩
  rw [hW, ← hg]
  have HG := Aside0.mk hg
  clear hW HM hg
  go_loopg [14] n (fun gk v14 wr => ∃ (k : Nat) (zs : List Int), k ≤ n ∧ gk = n - k ∧ v14 = .int .i64 k ∧ Aside0 (OwnZ wr w.heap.size (.slice (some ⟨g, 0, none⟩) n n) zs ∧ Below w.heap.size w wr) ∧ Aside0 (zs.length = n ∧ ∀ x, x < k → zs[x]? = some (-1)))
  case atStart => exact ⟨0, _, Nat.zero_le _, rfl, rfl, HW, ⟨by simp, fun x hx => by omega⟩⟩
  case round =>
    clear HW
    obtain ⟨k, zs, hk, rfl, rfl, HW, HZ⟩ := hrel
    by_cases hlt : k < n
    · obtain ⟨f1, f2⟩ := HW.out.1.at_ (x := k) (z := zs[k]'(by rw [HZ.out.1]; exact hlt)) (by rw [List.getElem?_eq_getElem])
      have HS := Aside0.mk (HW.out.1.set_ HZ.out.1.symm k (-1))
      have HB := Aside0.mk (HW.out.2.setCell (p := ⟨g, k, none⟩) (by rw [HG.out]; exact Nat.le_refl _) (.int .i64 (-1)))
      have HZ2 := Aside0.mk (show (zs.set k (-1)).length = n ∧ ∀ x, x < k + 1 → (zs.set k (-1))[x]? = some (-1) from ⟨by rw [List.length_set]; exact HZ.out.1, fun x hx => by
        rw [List.getElem?_set]
        by_cases e : k = x
        · rw [if_pos e, if_pos (by rw [HZ.out.1]; exact hlt)]
        · rw [if_neg e]; exact HZ.out.2 x (by omega)⟩)
      go_wp2_with fail
      go_roundg (n - (k + 1))
      case rel => exact ⟨k + 1, _, by omega, rfl, by go_num, ⟨HS.out, HB.out⟩, HZ2⟩
      case measure => omega
    · obtain rfl : k = n := by omega
      go_wp2_with fail
      go_loopg [23] k (fun gk v23 wr => ∃ (j : Nat) (zs : List Int), j ≤ k ∧ gk = k - j ∧ v23 = .int .i64 j ∧ Aside0 (OwnZ wr w.heap.size (.slice (some ⟨g, 0, none⟩) k k) zs ∧ Below w.heap.size w wr) ∧
        Aside0 (zs.length = k ∧ (∀ i x : Nat, i < j → D[i]? = some x → zs[x]? = some (i : Int)) ∧ ∀ x, x < k → x ∉ D.take j → zs[x]? = some (-1)))
      case atStart => exact ⟨0, zs, Nat.zero_le _, rfl, rfl, HW, ⟨HZ.out.1, fun i x hi => by omega, fun x hx _ => HZ.out.2 x hx⟩⟩
      case round =>
        clear HW HZ
        obtain ⟨j, zs, hj, rfl, rfl, HW, HZ⟩ := hrel
        by_cases hlt : j < k
        · have hjl : j < D.length := by have := HDL.out; omega
          obtain ⟨ad, rfl, d1⟩ := (HD.out.below HW.out.2).2.2 j hjl
          obtain ⟨x, hx⟩ : ∃ x, x = D[j] := ⟨_, rfl⟩
          rw [← hx] at d1
          have hxj : D[j]? = some x := by rw [hx, List.getElem?_eq_getElem hjl]
          have hxk : x < k := HND.out.2.1 x (List.mem_of_getElem? hxj)
          have hxt : x ∉ D.take j := fun hm => by
            obtain ⟨i, hi, e⟩ := List.mem_iff_getElem.1 hm
            rw [List.length_take] at hi
            rw [List.getElem_take] at e
            exact List.pairwise_iff_getElem.1 HND.out.1 i j (by omega) hjl (by omega) (by rw [e, hx])
          obtain ⟨f1, f2⟩ := HW.out.1.at_ (HZ.out.2.2 x hxk hxt)
          have HS := Aside0.mk (HW.out.1.set_ HZ.out.1.symm x (j : Int))
          have HB := Aside0.mk (HW.out.2.setCell (p := ⟨g, x, none⟩) (by rw [HG.out]; exact Nat.le_refl _) (.int .i64 (j : Int)))
          have HZ2 := Aside0.mk (show (zs.set x (j : Int)).length = k ∧ (∀ i y : Nat, i < j + 1 → D[i]? = some y → (zs.set x (j : Int))[y]? = some (i : Int)) ∧ ∀ y, y < k → y ∉ D.take (j + 1) → (zs.set x (j : Int))[y]? = some (-1) from by
            refine ⟨by rw [List.length_set]; exact HZ.out.1, fun i y hi hy => ?_, fun y hy hm => ?_⟩
            · rw [List.getElem?_set]
              by_cases e : x = y
              · rw [if_pos e, if_pos (by rw [HZ.out.1]; exact hxk)]
                have : i = j := by
                  rcases Nat.lt_or_ge i j with c | c
                  · exfalso
                    apply hxt
                    rw [e, List.mem_iff_getElem?]
                    exact ⟨i, by rw [List.getElem?_take, if_pos c]; exact hy⟩
                  · omega
                rw [this]
              · rw [if_neg e]
                have : i ≠ j := fun e2 => by rw [e2, hxj] at hy; exact e (Option.some.inj hy)
                exact HZ.out.2.1 i y (by omega) hy
            · rw [List.getElem?_set]
              have h1 : x ≠ y := fun e => hm ((mem_take_succ hxj).2 (.inr e.symm))
              rw [if_neg h1]
              exact HZ.out.2.2 y hy (fun h => hm ((mem_take_succ hxj).2 (.inl h))))
          clear hx hxj hxt
          go_wp2_with fail
          go_roundg (k - (j + 1))
          case rel => exact ⟨j + 1, _, by omega, rfl, by go_num, ⟨HS.out, HB.out⟩, HZ2⟩
          case measure => omega
        · obtain rfl : j = k := by omega
          obtain ⟨N, hN, hz, hpos⟩ := place_fin HZ.out.1 (fun i x hx => HZ.out.2.1 i x (by have := (List.getElem?_eq_some_iff.1 hx).1; have := HDL.out; omega) hx) HND.out.2.2 HND.out.2.1
          have HNN := Aside0.mk (show OwnN wr w.heap.size (.slice (some ⟨g, 0, none⟩) j j) N from by
            have h1 := HW.out.1
            rw [hz] at h1
            unfold OwnZ at h1
            rw [List.length_map, List.map_map] at h1
            exact h1)
          have HN := Aside0.mk (And.intro hN hpos)
          have hjj : ((j : Int) == (j : Int)) = true := by simp
          clear hN hz hpos
          go_wp2_with fail
          go_ret2
          have hfin := HNN.out
          rw [HG.out] at hfin
          exact ⟨N, by rw [← HG.out]; rfl, hfin, HN.out.1, HN.out.2, HW.out.2⟩

end Go.Proofs.Ytdddbjaggfaofaa.Mem
