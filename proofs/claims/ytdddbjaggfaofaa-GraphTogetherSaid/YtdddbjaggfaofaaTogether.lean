/- GraphTogether: two things are in one part just if each is reached from the other; what a reached thing reaches is reached. -/
import Derived.Test.YtdddbjaggfaofaaGood
import Derived.Outline
namespace Go.Proofs.Ytdddbjaggfaofaa.Mem
open Go.RowKit Go.Proofs.Ytdddbjaggfaofaa.GM Go.Proofs.YtdddbjaggfaofaaW.PrintWords
set_option linter.unusedVariables false

/-- After i parts: of each thing the number of its part. -/
structure Of (E : List (Int × Int)) (n : Nat) (D : List Nat) (i : Nat) (O : List Nat) : Prop where
  len : O.length = n
  of : ∀ j d, j < i → D[j]? = some d → ∀ x ∈ pof E n d, pa O x = j
structure Of2 (E : List (Int × Int)) (n : Nat) (D : List Nat) (i k d : Nat) (O : List Nat) : Prop where
  len : O.length = n
  of : ∀ j d, j < i → D[j]? = some d → ∀ x ∈ pof E n d, pa O x = j
  here : ∀ x ∈ (pof E n d).take k, pa O x = i

theorem pof_apart {E : List (Int × Int)} {n : Nat} {D : List Nat} (hD : D.Nodup) (hH : ∀ x ∈ D, Hd E n x) {i j a b : Nat} (hi : D[i]? = some a) (hj : D[j]? = some b) (hij : i ≠ j) {x : Nat} (hx : x ∈ pof E n a) : x ∉ pof E n b := by
  intro hx2
  have h1 := part_mem.1 hx
  have h2 := part_mem.1 hx2
  have ha := hH a (List.mem_of_getElem? hi)
  have hb := hH b (List.mem_of_getElem? hj)
  have e : a = b := by
    rw [← ha.2, ← hb.2]
    exact lo_same (h1.2.trans h2.2.symm)
  subst e
  obtain ⟨i1, e5⟩ := List.getElem?_eq_some_iff.1 hi
  obtain ⟨i2, e6⟩ := List.getElem?_eq_some_iff.1 hj
  rcases Nat.lt_trichotomy i j with c | c | c
  · exact List.pairwise_iff_getElem.1 hD i j i1 i2 c (e5.trans e6.symm)
  · exact hij c
  · exact List.pairwise_iff_getElem.1 hD j i i2 i1 c (e6.trans e5.symm)

theorem Of2.step {E : List (Int × Int)} {n : Nat} {D : List Nat} {i k d x : Nat} {O : List Nat} (h : Of2 E n D i k d O) (hD : D.Nodup) (hH : ∀ x ∈ D, Hd E n x) (hd : D[i]? = some d) (hx : (pof E n d)[k]? = some x) : Of2 E n D i (k + 1) d (O.set x i) := by
  have hxm := List.mem_of_getElem? hx
  have hxn := (part_mem.1 hxm).1
  refine ⟨by rw [List.length_set]; exact h.len, fun j d' hj hd' y hy => ?_, fun y hy => ?_⟩
  · rw [pa_set (by rw [h.len]; exact hxn), if_neg]
    · exact h.of j d' hj hd' y hy
    · intro e
      rw [e] at hy
      exact pof_apart hD hH hd hd' (by omega) hxm hy
  · rw [pa_set (by rw [h.len]; exact hxn)]
    split
    · rfl
    · rename_i hne
      rw [mem_take_succ hx] at hy
      exact h.here y (hy.resolve_right hne)
theorem Of2.fin {E : List (Int × Int)} {n : Nat} {D : List Nat} {i d : Nat} {O : List Nat} (h : Of2 E n D i (pof E n d).length d O) (hd : D[i]? = some d) : Of E n D (i + 1) O :=
  ⟨h.len, fun j d' hj hd' x hx => by
    by_cases e : j = i
    · subst e
      rw [hd] at hd'
      cases hd'
      exact h.here x (by rw [List.take_length]; exact hx)
    · exact h.of j d' (by omega) hd' x hx⟩

/-- Both in one part, just if the numbers are the same. -/
theorem Of.same {E : List (Int × Int)} {n : Nat} {D O : List Nat} (h : Of E n D D.length O) (hf : Full (Hd E n) (Nb E n) D) (hE : ∀ e ∈ E, EOk n e) {a b : Nat} (ha : a < n) (hb : b < n) : pa O a = pa O b ↔ Both E a b := by
  have hall := full_all hE hf
  have key : ∀ x, x < n → ∃ j, D[j]? = some (lo E n x) ∧ pa O x = j := fun x hx => by
    obtain ⟨j, hj, e⟩ := List.mem_iff_getElem.1 (hall _ ⟨(lo_mem hx).1, lo_lo hx⟩)
    have hj2 : D[j]? = some (lo E n x) := by rw [List.getElem?_eq_getElem hj, e]
    exact ⟨j, hj2, h.of j _ hj hj2 x (by rw [part_lo hx]; exact part_mem.2 ⟨hx, .refl x⟩)⟩
  obtain ⟨i, hi, ei⟩ := key a ha
  obtain ⟨j, hj, ej⟩ := key b hb
  rw [ei, ej, ← lo_eq ha hb]
  constructor
  · intro e
    subst e
    rw [hi] at hj
    exact Option.some.inj hj
  · intro e
    rw [← e] at hj
    obtain ⟨i1, e5⟩ := List.getElem?_eq_some_iff.1 hi
    obtain ⟨i2, e6⟩ := List.getElem?_eq_some_iff.1 hj
    rcases Nat.lt_trichotomy i j with c | c | c
    · exact absurd (e5.trans e6.symm) (List.pairwise_iff_getElem.1 hf.1.nodup i j i1 i2 c)
    · exact c
    · exact absurd (e6.trans e5.symm) (List.pairwise_iff_getElem.1 hf.1.nodup j i i2 i1 c)

set_option maxHeartbeats 4000000 in
set_option maxRecDepth 100000 in
theorem together_main (n a b : Nat) (E : List (Int × Int)) (A : Option Addr) (c : Nat) (w : World) (hr : kE.C w A E.length E) (hE : E.length ≤ 8796093022200) (hall : AllOk n E) (ha : a < n) (hb : b < n) :
    Calls Try.prog 8 #[.int .i64 n, .slice A E.length c, .int .i64 a, .int .i64 b] w fun e w' => e = .returned (.bool true) ∧ Below w.heap.size w w' := by
  have hn : n ≤ 131072 := by have := hall.2.1; omega
  have HR := Aside0.mk hr
  have HALL := Aside0.mk hall
  clear hr hall
  go_enter Try.func8, Try.ntmps8
  go_wp2_with fail
  refine (reach_good n a E A c w HR.out (by omega) HALL.out ha).mono ?_
  rintro e w1 ⟨A1, c1, xs, rfl, hox, hrx, hmx, hlx, hb1⟩
  have HX := Aside0.mk (And.intro hox (And.intro hrx (And.intro hmx hlx)))
  have HB1 := Aside0.mk hb1
  clear hox hrx hmx hlx hb1
  go_wp2_with fail
  refine (reach_good n b E A c w1 (Kd.C_below HR.out HB1.out) (by omega) HALL.out hb).mono ?_
  rintro e w2 ⟨A2, c2, ys, rfl, hoy, hry, hmy, hly, hb2⟩
  have HY := Aside0.mk (And.intro hoy (And.intro hry (And.intro hmy hly)))
  have HB2 := Aside0.mk (HB1.out.trans (hb2.mono HB1.out.size))
  have HX2 := Aside0.mk (own_below HX.out.1 hb2)
  clear hoy hry hmy hly hb2
  go_wp2_with fail
  refine (gparts_good n E A c w2 (Kd.C_below HR.out HB2.out) hE HALL.out).mono ?_
  rintro e w3 ⟨A3, c3, vals, D, rfl, hP, hfull, hDl, hb3⟩
  have HP := Aside0.mk hP
  have HF := Aside0.mk hfull
  have HB3 := Aside0.mk (HB2.out.trans (hb3.mono HB2.out.size))
  have HX3 := Aside0.mk (own_below HX2.out hb3)
  have HY3 := Aside0.mk (own_below HY.out.1 hb3)
  clear hP hfull hb3
  go_wp2_with fail
  refine (right_good n E A c w3 (Kd.C_below HR.out HB3.out) (by omega) HALL.out).mono ?_
  rintro e w4 ⟨rfl, hb4⟩
  have HB4 := Aside0.mk (HB3.out.trans (hb4.mono HB3.out.size))
  have HX4 := Aside0.mk (own_below HX3.out hb4)
  have HY4 := Aside0.mk (own_below HY3.out hb4)
  have HP4 := Aside0.mk (HP.out.below hb4)
  clear hb4 HX2 HX3 HY3 HP HB3 HB2 HB1
  have hmk := run_make_row' (P := Try.prog) 33 3 (.int .i64 0) 8 Try.underlying33 info3 rfl .i64 .i64 n (by omega) (by omega)
  have HZ := Aside0.mk (OwnN.made w4 w4.heap.size n (Nat.le_refl _) hn)
  go_wp2_with fail
  obtain ⟨gO, hgO⟩ : ∃ gO, gO = w4.heap.size := ⟨_, rfl⟩
  obtain ⟨W5, hW5, HO5⟩ := ex_world (p := fun W => OwnN W w4.heap.size (.slice (some ⟨gO, 0, none⟩) n n) (List.replicate n 0) ∧ Below w4.heap.size w4 W) (W := w4.alloc (Obj.cells (madeCells #[Value.int IntKind.i64 0] n) 3)) ⟨by rw [hgO]; exact HZ.out, (Below.refl _ _).alloc (Nat.le_refl _) _⟩
  have HGO := Aside0.mk (show w4.heap.size ≤ gO by omega)
  rw [hW5, ← hgO]
  clear hW5 hgO HZ hmk
  go_loopg [94] D.length (fun g v94 wr => ∃ (i : Nat) (O : List Nat), i ≤ D.length ∧ g = D.length - i ∧ v94 = .int .i64 i ∧ Aside0 (OwnN wr w4.heap.size (.slice (some ⟨gO, 0, none⟩) n n) O ∧ Below w4.heap.size w4 wr) ∧ Aside0 (Of E n D i O))
  case atStart => exact ⟨0, _, Nat.zero_le _, rfl, rfl, HO5, ⟨⟨by simp, fun j d hj => by omega⟩⟩⟩
  case round =>
    clear HO5
    obtain ⟨i, O, hi, rfl, rfl, HO, HOF⟩ := hrel
    by_cases hlt : i < D.length
    · obtain ⟨gP, xv, rfl, hxv, o1, hown, -⟩ := (HP4.out.below HO.out.2).row (i := i) (by rw [List.length_map]; exact hlt)
      obtain ⟨d, hd⟩ : ∃ d, d = D[i] := ⟨_, rfl⟩
      have hdi : D[i]? = some d := by rw [hd, List.getElem?_eq_getElem hlt]
      rw [nb_map hdi] at hown
      obtain ⟨Ax, cx, he⟩ := own_slice hown
      subst he
      have hlen : (pof E n d).length ≤ n := rising_length (part_rising E n d) (fun x hx => (part_mem.1 hx).1)
      have HXV := Aside0.mk hxv
      have HDI := Aside0.mk hdi
      have HOF2 := Aside0.mk (show Of2 E n D i 0 d O from ⟨HOF.out.len, HOF.out.of, fun x hx => by simp at hx⟩)
      clear hxv hown hd hdi
      go_wp2_with fail
      clear o1
      go_loopg [101] (pof E n d).length (fun g v101 wr => ∃ (k : Nat) (O : List Nat), k ≤ (pof E n d).length ∧ g = (pof E n d).length - k ∧ v101 = .int .i64 k ∧ Aside0 (OwnN wr w4.heap.size (.slice (some ⟨gO, 0, none⟩) n n) O ∧ Below w4.heap.size w4 wr) ∧ Aside0 (Of2 E n D i k d O))
      case atStart => exact ⟨0, _, Nat.zero_le _, rfl, rfl, HO, HOF2⟩
      case round =>
        clear HO HOF HOF2
        obtain ⟨k, O, hk, rfl, rfl, HO, HOF⟩ := hrel
        by_cases hlk : k < (pof E n d).length
        · have hown := (HP4.out.below HO.out.2).inner i _ HXV.out
          rw [nb_map HDI.out] at hown
          obtain ⟨gx, rfl, o2, -⟩ := row_cell hown hlk
          obtain ⟨x, hx⟩ : ∃ x, x = (pof E n d)[k] := ⟨_, rfl⟩
          rw [← hx] at o2
          have hxk : (pof E n d)[k]? = some x := by rw [hx, List.getElem?_eq_getElem hlk]
          have hxn : x < n := (part_mem.1 (List.mem_of_getElem? hxk)).1
          have HOF3 := Aside0.mk (HOF.out.step HF.out.1.nodup HF.out.1.mem HDI.out hxk)
          obtain ⟨f1, f2, -⟩ := OwnN.at_ HO.out.1 (x := x) (by rw [HOF.out.len]; exact hxn)
          have HO3 := Aside0.mk (And.intro (OwnN.set_ HO.out.1 (x := x) (v := i) (by rw [HOF.out.len]; exact hxn)).1 (HO.out.2.setCell HGO.out (Value.int .i64 (i : Int)) : Below w4.heap.size w4 (wr.setCell ⟨gO, x, none⟩ (Value.int .i64 (i : Int)))))
          have hxi : (x : Int) < (n : Int) := by omega
          clear hown hx hxk
          go_wp2_with fail
          go_roundg ((pof E n d).length - (k + 1))
          case rel => exact ⟨k + 1, _, by omega, rfl, by go_num, HO3, HOF3⟩
          case measure => omega
        · obtain rfl : k = (pof E n d).length := by omega
          have HOF3 := Aside0.mk (HOF.out.fin HDI.out)
          go_wp2_with fail
          go_roundg (D.length - (i + 1))
          case rel => exact ⟨i + 1, _, by omega, rfl, by go_num, HO, HOF3⟩
          case measure => omega
    · obtain rfl : i = D.length := by omega
      have HSAME := Aside0.mk (HOF.out.same HF.out HALL.out.2.2 ha hb)
      have HOL := Aside0.mk HOF.out.len
      clear HOF HP4
      have hxl : xs.length ≤ n := rising_length HX.out.2.1 HX.out.2.2.2
      have hyl : ys.length ≤ n := rising_length HY.out.2.1 HY.out.2.2.2
      have HCX := Aside0.mk (fun (k : Nat) (W : World) (hW : Below w4.heap.size w4 W) => has_calls xs A1 c1 k W (RN.of_own (own_below HX4.out hW)) HX.out.2.1 (by omega))
      have HCY := Aside0.mk (fun (k : Nat) (W : World) (hW : Below w4.heap.size w4 W) => has_calls ys A2 c2 k W (RN.of_own (own_below HY4.out hW)) HY.out.2.1 (by omega))
      go_wp2_with fail
      go_loopg [22] xs.length (fun g v22 wr => ∃ (j : Nat), v22 = .int .i64 ((j : Int) + 1) ∧ j ≤ xs.length ∧ g = xs.length - j ∧ Aside0 (OwnN wr w4.heap.size (.slice (some ⟨gO, 0, none⟩) n n) O ∧ Below w4.heap.size w4 wr))
      case atStart => exact ⟨0, rfl, Nat.zero_le _, by omega, HO⟩
      case round =>
        clear HO
        obtain ⟨j, rfl, hj, rfl, HO⟩ := hrel
        by_cases hlt3 : j + 1 < xs.length
        · have hxo := own_below HX4.out HO.out.2
          obtain ⟨gX, rfl, o1, -⟩ := row_cell hxo (k := j) (by omega)
          obtain ⟨_, e, o2, -⟩ := row_cell hxo (k := j + 1) hlt3
          cases e
          have hlt4 := rising_at HX.out.2.1 (show j < j + 1 by omega) hlt3
          rw [← pa_get] at o1 o2
          obtain ⟨u, hu⟩ : ∃ u, u = pa xs j := ⟨_, rfl⟩
          obtain ⟨v, hv⟩ : ∃ v, v = pa xs (j + 1) := ⟨_, rfl⟩
          rw [← hu] at o1 hlt4
          rw [← hv] at o2 hlt4
          clear hu hv hxo
          have i1 : ((j : Int) + 1) < (xs.length : Int) := by omega
          have hle : decide ((v : Int) ≤ (u : Int)) = false := decide_eq_false (by omega)
          go_wp2_with fail
          go_quiet (fail)
          go_wp2_with fail
          go_roundg (xs.length - (j + 1))
          case rel => exact ⟨j + 1, by go_num, by omega, rfl, ⟨HO.out.1, pw_below_drewN HO.out.2 _⟩⟩
          case measure => omega
        · have haX : hasB a xs = true := by unfold hasB; rw [decide_eq_true_eq, HX.out.2.2.1]; exact .refl a
          have hbY : hasB b ys = true := by unfold hasB; rw [decide_eq_true_eq, HY.out.2.2.1]; exact .refl b
          have hsame := HSAME.out
          have hbX : hasB b xs = true ↔ Rch E a b := by unfold hasB; rw [decide_eq_true_eq, HX.out.2.2.1]
          have haY : hasB a ys = true ↔ Rch E b a := by unfold hasB; rw [decide_eq_true_eq, HY.out.2.2.1]
          obtain ⟨W, hW, HOW⟩ := ex_world (p := fun W => OwnN W w4.heap.size (.slice (some ⟨gO, 0, none⟩) n n) O ∧ Below w4.heap.size w4 W) HO.out
          rw [hW]
          clear hW HO
          have K1 := fun q => HCX.out a (W.drewN q) (pw_below_drewN HOW.out.2 q)
          have K2 := fun q => HCY.out b (W.drewN q) (pw_below_drewN HOW.out.2 q)
          have K3 := fun q => HCX.out b (W.drewN q) (pw_below_drewN HOW.out.2 q)
          have K4 := fun q => HCY.out a (W.drewN q) (pw_below_drewN HOW.out.2 q)
          rw [haX] at K1
          rw [hbY] at K2
          obtain ⟨oa, hoa⟩ : ∃ oa, oa = pa O a := ⟨_, rfl⟩
          obtain ⟨ob, hob⟩ : ∃ ob, ob = pa O b := ⟨_, rfl⟩
          obtain ⟨f1, -, -⟩ := OwnN.at_ HOW.out.1 (x := a) (by rw [HOL.out]; exact ha)
          obtain ⟨f2, -, -⟩ := OwnN.at_ HOW.out.1 (x := b) (by rw [HOL.out]; exact hb)
          rw [← hoa] at f1 hsame
          rw [← hob] at f2 hsame
          have i1 : (a : Int) < (n : Int) := by omega
          have i2 : (b : Int) < (n : Int) := by omega
          have j1 : (0 : Int) ≤ (a : Int) := by omega
          have j2 : (0 : Int) ≤ (b : Int) := by omega
          have HKX := Aside0.mk (show ∀ k, hasB k xs = true ↔ Rch E a k from fun k => by unfold hasB; rw [decide_eq_true_eq, HX.out.2.2.1])
          have HK1 := Aside0.mk K1
          have HK2 := Aside0.mk K2
          clear haX hbY hoa hob K1 K2 HCY HSAME
          cases hxb : hasB b xs with
          | true =>
            have HXB := Aside0.mk hxb
            rw [hxb] at K3 hbX
            have HRB := Aside0.mk (hbX.1 rfl)
            cases hya : hasB a ys with
            | true =>
              rw [hya] at K4 haY
              have HRA := Aside0.mk (haY.1 rfl)
              have hoo : oa = ob := hsame.2 ⟨HRB.out, HRA.out⟩
              have hob : ((oa : Int) == (ob : Int)) = true := beq_iff_eq.2 (by omega)
              have HK3 := Aside0.mk K3
              have HK4 := Aside0.mk K4
              have hxy : xs = ys := rising_ext HX.out.2.1 HY.out.2.1 (fun z => by
                rw [HX.out.2.2.1, HY.out.2.2.1]
                exact ⟨fun h => HRA.out.trans h, fun h => HRB.out.trans h⟩)
              have HXY := Aside0.mk hxy
              clear hxy
              clear K3 K4 hxb hya hbX haY hsame hoo
              go_wp2_with fail
              go_quiet ((go_at_call 32; first | (with_reducible exact Calls.quiet_of_same (HK1.out _)) | (with_reducible exact Calls.quiet_of_same (HK2.out _)) | (with_reducible exact Calls.quiet_of_same (HK3.out _)) | (with_reducible exact Calls.quiet_of_same (HK4.out _))))
              obtain ⟨V, hV, HOV⟩ := ex_world (p := fun W => OwnN W w4.heap.size (.slice (some ⟨gO, 0, none⟩) n n) O ∧ Below w4.heap.size w4 W) (W := W.drewN nq) ⟨HOW.out.1, pw_below_drewN HOW.out.2 _⟩
              replace f1 := cell_dr hV f1
              replace f2 := cell_dr hV f2
              rw [hV]
              clear hV HK1 HK2 HK3 HK4
              have hSI := fun q => sameInts_calls xs ys A1 A2 _ _ c1 c2 (V.drewN q) (RN.of_own (own_below HX4.out (pw_below_drewN HOV.out.2 q))) (RN.of_own (own_below HY4.out (pw_below_drewN HOV.out.2 q)))
              rw [show sameB xs ys = true by unfold sameB; rw [decide_eq_true_eq]; exact HXY.out] at hSI
              have HSI := Aside0.mk hSI
              clear hSI
              go_upto_region 29 with (fail)
              go_quiet ((go_at_call 24; exact Calls.quiet_of (HSI.out _)))
              obtain ⟨V2, hV2, HOV2⟩ := ex_world (p := fun W => Below w4.heap.size w4 W) (W := V.drewN nq) (pw_below_drewN HOV.out.2 _)
              rw [hV2]
              clear hV2 f1 f2 i1 i2 j1 j2 hob
              go_wp2_with fail
              go_loopg [185] E.length (fun g v185 wr => ∃ (k : Nat), k ≤ E.length ∧ g = E.length - k ∧ v185 = .int .i64 k ∧ Aside0 (Below w4.heap.size w4 wr))
              case atStart => exact ⟨0, Nat.zero_le _, rfl, rfl, HOV2⟩
              case round =>
                clear HOV HOV2
                obtain ⟨k, hk, rfl, rfl, HOV⟩ := hrel
                by_cases hlt5 : k < E.length
                · have HBA := Aside0.mk (HB4.out.trans (HOV.out.mono HB4.out.size))
                  obtain ⟨ad, x, rfl, hx, d0, d1⟩ := edge_at HR.out k hlt5
                  replace d0 := (HBA.out.cell (World.block_lt_of_cell? w _ d0)).trans d0
                  replace d1 := (HBA.out.cell (World.block_lt_of_cell? w _ d1)).trans d1
                  obtain ⟨x1, x2⟩ := x
                  obtain ⟨o1, o2, o3, o4⟩ := HALL.out.2.2 _ (List.mem_of_getElem? hx)
                  simp only at o1 o2 o3 o4
                  obtain ⟨p, rfl⟩ := Int.eq_ofNat_of_zero_le o1
                  obtain ⟨q, rfl⟩ := Int.eq_ofNat_of_zero_le o3
                  have HB6 := Aside0.mk (show Below w4.heap.size w4 (wr.alloc (Obj.cells #[Value.int IntKind.i64 (p : Int), Value.int IntKind.i64 (q : Int)] 52)) from HOV.out.alloc HOV.out.size _)
                  have HE := Aside0.mk (List.mem_of_getElem? hx)
                  clear hx o1 o2 o3 o4
                  have M1 := HCX.out p _ HB6.out
                  have M2 := HCX.out q _ HB6.out
                  cases hp : hasB p xs with
                  | true =>
                    have hq : hasB q xs = true := (HKX.out q).2 (.step ((HKX.out p).1 hp) HE.out)
                    rw [hp] at M1
                    rw [hq] at M2
                    have HM1 := Aside0.mk M1
                    have HM2 := Aside0.mk M2
                    clear M1 M2 hp hq
                    go_wp2_with fail
                    refine HM1.out.mono ?_
                    rintro e w6 ⟨rfl, rfl⟩
                    go_wp2_with fail
                    refine HM2.out.mono ?_
                    rintro e w6 ⟨rfl, rfl⟩
                    go_wp2_with fail
                    go_roundg (E.length - (k + 1))
                    case rel => exact ⟨k + 1, by omega, rfl, by go_num, HB6⟩
                    case measure => omega
                  | false =>
                    rw [hp] at M1
                    have HM1 := Aside0.mk M1
                    clear M1 M2 hp
                    go_wp2_with fail
                    refine HM1.out.mono ?_
                    rintro e w6 ⟨rfl, rfl⟩
                    go_wp2_with fail
                    go_roundg (E.length - (k + 1))
                    case rel => exact ⟨k + 1, by omega, rfl, by go_num, HB6⟩
                    case measure => omega
                · have M1 := HCX.out b wr HOV.out
                  rw [HXB.out] at M1
                  have HM1 := Aside0.mk M1
                  clear M1
                  go_wp2_with fail
                  refine HM1.out.mono ?_
                  rintro e w6 ⟨rfl, rfl⟩
                  go_wp2_with fail
                  go_loopg [209] ys.length (fun g v209 wr => ∃ (k : Nat), k ≤ ys.length ∧ g = ys.length - k ∧ v209 = .int .i64 k ∧ Aside0 (Below w4.heap.size w4 wr))
                  case atStart => exact ⟨0, Nat.zero_le _, rfl, rfl, HOV⟩
                  case round =>
                    clear HOV HM1
                    obtain ⟨k, hk, rfl, rfl, HOV⟩ := hrel
                    by_cases hlt6 : k < ys.length
                    · obtain ⟨gY, rfl, y1, -⟩ := row_cell (own_below HY4.out HOV.out) hlt6
                      have M1 := HCX.out ys[k] wr HOV.out
                      rw [(HKX.out ys[k]).2 (HRB.out.trans ((HY.out.2.2.1 _).1 (List.getElem_mem hlt6)))] at M1
                      have HM1 := Aside0.mk M1
                      clear M1
                      go_wp2_with fail
                      refine HM1.out.mono ?_
                      rintro e w6 ⟨rfl, rfl⟩
                      go_wp2_with fail
                      go_roundg (ys.length - (k + 1))
                      case rel => exact ⟨k + 1, by omega, rfl, by go_num, HOV⟩
                      case measure => omega
                    · obtain rfl : k = ys.length := by omega
                      go_wp2_with fail
                      go_ret
                      exact ⟨rfl, HB4.out.trans (HOV.out.mono HB4.out.size)⟩
            | false =>
              rw [hya] at K4 haY
              have hoo : ¬ oa = ob := fun e => by have := haY.2 (hsame.1 e).2; cases this
              have hob : ((oa : Int) == (ob : Int)) = false := beq_eq_false_iff_ne.2 (by omega)
              have HK3 := Aside0.mk K3
              have HK4 := Aside0.mk K4
              clear K3 K4 hxb hya hbX haY hsame hoo
              go_wp2_with fail
              go_quiet ((go_at_call 32; first | (with_reducible exact Calls.quiet_of_same (HK1.out _)) | (with_reducible exact Calls.quiet_of_same (HK2.out _)) | (with_reducible exact Calls.quiet_of_same (HK3.out _)) | (with_reducible exact Calls.quiet_of_same (HK4.out _))))
              obtain ⟨V, hV, HOV⟩ := ex_world (p := fun W => OwnN W w4.heap.size (.slice (some ⟨gO, 0, none⟩) n n) O ∧ Below w4.heap.size w4 W) (W := W.drewN nq) ⟨HOW.out.1, pw_below_drewN HOW.out.2 _⟩
              replace f1 := cell_dr hV f1
              replace f2 := cell_dr hV f2
              rw [hV]
              clear hV HK1 HK2 HK3 HK4
              go_upto_region 29 with (fail)
              go_quiet (fail)
              obtain ⟨V2, hV2, HOV2⟩ := ex_world (p := fun W => Below w4.heap.size w4 W) (W := V.drewN nq) (pw_below_drewN HOV.out.2 _)
              rw [hV2]
              clear hV2 f1 f2 i1 i2 j1 j2 hob
              go_wp2_with fail
              go_loopg [185] E.length (fun g v185 wr => ∃ (k : Nat), k ≤ E.length ∧ g = E.length - k ∧ v185 = .int .i64 k ∧ Aside0 (Below w4.heap.size w4 wr))
              case atStart => exact ⟨0, Nat.zero_le _, rfl, rfl, HOV2⟩
              case round =>
                clear HOV HOV2
                obtain ⟨k, hk, rfl, rfl, HOV⟩ := hrel
                by_cases hlt5 : k < E.length
                · have HBA := Aside0.mk (HB4.out.trans (HOV.out.mono HB4.out.size))
                  obtain ⟨ad, x, rfl, hx, d0, d1⟩ := edge_at HR.out k hlt5
                  replace d0 := (HBA.out.cell (World.block_lt_of_cell? w _ d0)).trans d0
                  replace d1 := (HBA.out.cell (World.block_lt_of_cell? w _ d1)).trans d1
                  obtain ⟨x1, x2⟩ := x
                  obtain ⟨o1, o2, o3, o4⟩ := HALL.out.2.2 _ (List.mem_of_getElem? hx)
                  simp only at o1 o2 o3 o4
                  obtain ⟨p, rfl⟩ := Int.eq_ofNat_of_zero_le o1
                  obtain ⟨q, rfl⟩ := Int.eq_ofNat_of_zero_le o3
                  have HB6 := Aside0.mk (show Below w4.heap.size w4 (wr.alloc (Obj.cells #[Value.int IntKind.i64 (p : Int), Value.int IntKind.i64 (q : Int)] 52)) from HOV.out.alloc HOV.out.size _)
                  have HE := Aside0.mk (List.mem_of_getElem? hx)
                  clear hx o1 o2 o3 o4
                  have M1 := HCX.out p _ HB6.out
                  have M2 := HCX.out q _ HB6.out
                  cases hp : hasB p xs with
                  | true =>
                    have hq : hasB q xs = true := (HKX.out q).2 (.step ((HKX.out p).1 hp) HE.out)
                    rw [hp] at M1
                    rw [hq] at M2
                    have HM1 := Aside0.mk M1
                    have HM2 := Aside0.mk M2
                    clear M1 M2 hp hq
                    go_wp2_with fail
                    refine HM1.out.mono ?_
                    rintro e w6 ⟨rfl, rfl⟩
                    go_wp2_with fail
                    refine HM2.out.mono ?_
                    rintro e w6 ⟨rfl, rfl⟩
                    go_wp2_with fail
                    go_roundg (E.length - (k + 1))
                    case rel => exact ⟨k + 1, by omega, rfl, by go_num, HB6⟩
                    case measure => omega
                  | false =>
                    rw [hp] at M1
                    have HM1 := Aside0.mk M1
                    clear M1 M2 hp
                    go_wp2_with fail
                    refine HM1.out.mono ?_
                    rintro e w6 ⟨rfl, rfl⟩
                    go_wp2_with fail
                    go_roundg (E.length - (k + 1))
                    case rel => exact ⟨k + 1, by omega, rfl, by go_num, HB6⟩
                    case measure => omega
                · have M1 := HCX.out b wr HOV.out
                  rw [HXB.out] at M1
                  have HM1 := Aside0.mk M1
                  clear M1
                  go_wp2_with fail
                  refine HM1.out.mono ?_
                  rintro e w6 ⟨rfl, rfl⟩
                  go_wp2_with fail
                  go_loopg [209] ys.length (fun g v209 wr => ∃ (k : Nat), k ≤ ys.length ∧ g = ys.length - k ∧ v209 = .int .i64 k ∧ Aside0 (Below w4.heap.size w4 wr))
                  case atStart => exact ⟨0, Nat.zero_le _, rfl, rfl, HOV⟩
                  case round =>
                    clear HOV HM1
                    obtain ⟨k, hk, rfl, rfl, HOV⟩ := hrel
                    by_cases hlt6 : k < ys.length
                    · obtain ⟨gY, rfl, y1, -⟩ := row_cell (own_below HY4.out HOV.out) hlt6
                      have M1 := HCX.out ys[k] wr HOV.out
                      rw [(HKX.out ys[k]).2 (HRB.out.trans ((HY.out.2.2.1 _).1 (List.getElem_mem hlt6)))] at M1
                      have HM1 := Aside0.mk M1
                      clear M1
                      go_wp2_with fail
                      refine HM1.out.mono ?_
                      rintro e w6 ⟨rfl, rfl⟩
                      go_wp2_with fail
                      go_roundg (ys.length - (k + 1))
                      case rel => exact ⟨k + 1, by omega, rfl, by go_num, HOV⟩
                      case measure => omega
                    · obtain rfl : k = ys.length := by omega
                      go_wp2_with fail
                      go_ret
                      exact ⟨rfl, HB4.out.trans (HOV.out.mono HB4.out.size)⟩
          | false =>
            have HXB := Aside0.mk hxb
            rw [hxb] at K3 hbX
            have hoo : ¬ oa = ob := fun e => by have := hbX.2 (hsame.1 e).1; cases this
            have hob : ((oa : Int) == (ob : Int)) = false := beq_eq_false_iff_ne.2 (by omega)
            have HK3 := Aside0.mk K3
            clear K3 K4 hxb hbX haY hsame hoo
            go_wp2_with fail
            go_quiet ((go_at_call 32; first | (with_reducible exact Calls.quiet_of_same (HK1.out _)) | (with_reducible exact Calls.quiet_of_same (HK2.out _)) | (with_reducible exact Calls.quiet_of_same (HK3.out _))))
            obtain ⟨V, hV, HOV⟩ := ex_world (p := fun W => OwnN W w4.heap.size (.slice (some ⟨gO, 0, none⟩) n n) O ∧ Below w4.heap.size w4 W) (W := W.drewN nq) ⟨HOW.out.1, pw_below_drewN HOW.out.2 _⟩
            replace f1 := cell_dr hV f1
            replace f2 := cell_dr hV f2
            rw [hV]
            clear hV HK1 HK2 HK3
            go_upto_region 29 with (fail)
            go_quiet (fail)
            obtain ⟨V2, hV2, HOV2⟩ := ex_world (p := fun W => Below w4.heap.size w4 W) (W := V.drewN nq) (pw_below_drewN HOV.out.2 _)
            rw [hV2]
            clear hV2 f1 f2 i1 i2 j1 j2 hob
            go_wp2_with fail
            go_loopg [185] E.length (fun g v185 wr => ∃ (k : Nat), k ≤ E.length ∧ g = E.length - k ∧ v185 = .int .i64 k ∧ Aside0 (Below w4.heap.size w4 wr))
            case atStart => exact ⟨0, Nat.zero_le _, rfl, rfl, HOV2⟩
            case round =>
              clear HOV HOV2
              obtain ⟨k, hk, rfl, rfl, HOV⟩ := hrel
              by_cases hlt5 : k < E.length
              · have HBA := Aside0.mk (HB4.out.trans (HOV.out.mono HB4.out.size))
                obtain ⟨ad, x, rfl, hx, d0, d1⟩ := edge_at HR.out k hlt5
                replace d0 := (HBA.out.cell (World.block_lt_of_cell? w _ d0)).trans d0
                replace d1 := (HBA.out.cell (World.block_lt_of_cell? w _ d1)).trans d1
                obtain ⟨x1, x2⟩ := x
                obtain ⟨o1, o2, o3, o4⟩ := HALL.out.2.2 _ (List.mem_of_getElem? hx)
                simp only at o1 o2 o3 o4
                obtain ⟨p, rfl⟩ := Int.eq_ofNat_of_zero_le o1
                obtain ⟨q, rfl⟩ := Int.eq_ofNat_of_zero_le o3
                have HB6 := Aside0.mk (show Below w4.heap.size w4 (wr.alloc (Obj.cells #[Value.int IntKind.i64 (p : Int), Value.int IntKind.i64 (q : Int)] 52)) from HOV.out.alloc HOV.out.size _)
                have HE := Aside0.mk (List.mem_of_getElem? hx)
                clear hx o1 o2 o3 o4
                have M1 := HCX.out p _ HB6.out
                have M2 := HCX.out q _ HB6.out
                cases hp : hasB p xs with
                | true =>
                  have hq : hasB q xs = true := (HKX.out q).2 (.step ((HKX.out p).1 hp) HE.out)
                  rw [hp] at M1
                  rw [hq] at M2
                  have HM1 := Aside0.mk M1
                  have HM2 := Aside0.mk M2
                  clear M1 M2 hp hq
                  go_wp2_with fail
                  refine HM1.out.mono ?_
                  rintro e w6 ⟨rfl, rfl⟩
                  go_wp2_with fail
                  refine HM2.out.mono ?_
                  rintro e w6 ⟨rfl, rfl⟩
                  go_wp2_with fail
                  go_roundg (E.length - (k + 1))
                  case rel => exact ⟨k + 1, by omega, rfl, by go_num, HB6⟩
                  case measure => omega
                | false =>
                  rw [hp] at M1
                  have HM1 := Aside0.mk M1
                  clear M1 M2 hp
                  go_wp2_with fail
                  refine HM1.out.mono ?_
                  rintro e w6 ⟨rfl, rfl⟩
                  go_wp2_with fail
                  go_roundg (E.length - (k + 1))
                  case rel => exact ⟨k + 1, by omega, rfl, by go_num, HB6⟩
                  case measure => omega
              · have M1 := HCX.out b wr HOV.out
                rw [HXB.out] at M1
                have HM1 := Aside0.mk M1
                clear M1
                go_wp2_with fail
                refine HM1.out.mono ?_
                rintro e w6 ⟨rfl, rfl⟩
                go_wp2_with fail
                go_ret
                exact ⟨rfl, HB4.out.trans (HOV.out.mono HB4.out.size)⟩

end Go.Proofs.Ytdddbjaggfaofaa.Mem
