/- GraphWhole: without the document: orders, cycles and parts hang together. -/
import Derived.Test.YtdddbjaggfaofaaNd
import Derived.BigQuiet
import Derived.StillTailTactics
namespace Go.Proofs.Ytdddbjaggfaofaa.Mem
open Go.RowKit Go.Proofs.Ytdddbjaggfaofaa.GM Go.Proofs.YtdddbjaggfaofaaW.PrintWords
set_option linter.unusedVariables false

theorem fl_take_le {n i : Nat} {E : List (Int × Int)} {D : List Nat} (hl : (fl E n D).length = n) : (fl E n (D.take i)).length ≤ n := by
  have h : fl E n D = fl E n (D.take i) ++ fl E n (D.drop i) := by rw [← fl_append, List.take_append_drop]
  rw [h, List.length_append] at hl
  omega

/-- What the first loop holds. -/
structure WA (w3 : World) (gI m : Nat) (v : Value) (xs I : List Nat) (W : World) : Prop where
  a : OwnN W w3.heap.size v xs
  i : OwnN W w3.heap.size (.slice (some ⟨gI, 0, none⟩) m m) I
  ne : v.ownBlock ≠ some gI
  lo : w3.heap.size ≤ gI
  B : Below w3.heap.size w3 W

theorem WA.put {w3 W : World} {gI m x u : Nat} {v : Value} {xs I : List Nat} (h : WA w3 gI m v xs I W) (hx : x < I.length) : WA w3 gI m v xs (I.set x u) (W.setCell ⟨gI, x, none⟩ (.int .i64 (u : Int))) :=
  ⟨own_set_far h.a h.ne _, (OwnN.set_ h.i hx).1, h.ne, h.lo, h.B.setCell h.lo _⟩
theorem WA.append {w3 W W1 : World} {gI m : Nat} {v v1 : Value} {xs I ys : List Nat} (h : WA w3 gI m v xs I W) (ho : OwnN W1 w3.heap.size v1 ys) (hb : Below w3.heap.size w3 W1) (hg : W.grownBy W1 v.ownBlock) (hat : v1.ownBlock = v.ownBlock ∨ ∃ b, v1.ownBlock = some b ∧ W.heap.size ≤ b) : WA w3 gI m v1 ys I W1 :=
  ⟨ho, own_grown h.i hg (fun k hk e => h.ne (e.trans hk.symm)), by
    rcases hat with e | ⟨b, e, hb⟩
    · rw [e]; exact h.ne
    · rw [e]
      intro e2
      injection e2 with e2
      have := (own_blk_lt h.i (b := gI) rfl).choose_spec.2.1
      omega, h.lo, hb⟩
theorem own_nums {W : World} {base : Nat} {v : Value} {xs : List Nat} (h : OwnN W base v xs) : W.ownsRow base 3 1 v (xs.map Int.ofNat).length (nums .i64 (xs.map Int.ofNat)) := by
  unfold OwnN at h
  unfold nums
  rw [List.length_map, List.map_map]
  exact h
theorem own_of_nums {W : World} {base : Nat} {v : Value} {xs ys : List Nat} (h : W.ownsRow base 3 1 v (xs.map Int.ofNat ++ ys.map Int.ofNat).length (nums .i64 (xs.map Int.ofNat ++ ys.map Int.ofNat))) : OwnN W base v (xs ++ ys) := by
  unfold nums at h
  rw [← List.map_append, List.length_map, List.map_map] at h
  exact h
theorem rn_reads {W : World} {A : Option Addr} {n : Nat} {xs : List Nat} (h : RN W A n xs) : ReadsInt W .i64 A n (xs.map Int.ofNat) := by
  refine ⟨by rw [List.length_map]; exact h.1.symm, h.2.1, fun h0 => ?_⟩
  have hl := h.1
  obtain ⟨ad, e, _⟩ := h.2.2 0 (by omega)
  refine ⟨ad, e, fun j hj => ?_⟩
  obtain ⟨ad', e', hc⟩ := h.2.2 j (by omega)
  rw [e] at e'
  cases e'
  rw [hc, List.getD_eq_getElem?_getD, List.getElem?_map, List.getElem?_eq_getElem (by omega)]
  rfl

theorem inp_both {n : Nat} {E : List (Int × Int)} {D I : List Nat} (hE : ∀ e ∈ E, EOk n e) (hf : Full (Hd E n) (Nb E n) D) (hI : InP E n D I) {x y : Nat} (hx : x < n) (hy : y < n) (h : Both E x y) : pa I x = pa I y := by
  obtain ⟨d, hd, e⟩ := inp_at hE hf hI hx
  exact (hI _ _ hd y (by rw [← e]; exact part_mem.2 ⟨hy, (lo_mem hx).2.symm.trans h⟩)).symm
theorem mod_int (i l : Nat) : ((i : Int) + 1).tmod (l : Int) = (((i + 1) % l : Nat) : Int) := by
  rw [Int.tmod_eq_emod_of_nonneg (by omega)]
  simp

theorem order_sing {w w1 : World} {m : Nat} {E : List (Int × Int)} {D : List Nat} {v u : Value} {k : Int} (hall : AllOk (m : Int) E) (hp : OrderPost w (m : Int) E (.returned (.tuple #[v, u, .int .i64 k])) w1) (hf : Full (Hd E m) (Nb E m) D) (hs : Sing E m D) (hl : Loopless E) :
    ∃ A c, v = .slice A m c ∧ u = .slice none 0 0 ∧ k = 0 ∧ OwnN w1 w.heap.size (.slice A m c) D := by
  have hD : D.length = m := by have := fl_length hall.2.2 hf; rw [fl_sing hs hf.1.mem] at this; exact this
  rcases hp.2 with ⟨b, _⟩ | ⟨_, m', D0, hm, hf0, h⟩
  · exact absurd hall b
  · obtain rfl : m = m' := by omega
    obtain rfl := (sing_full hall.2.2 hf hs hl).unique hf0
    rcases h with ⟨_, A, c, he, ho⟩ | ⟨h1, _⟩
    · have he2 : v = .slice A m c ∧ u = .slice none 0 0 ∧ k = 0 := by simpa using he
      exact ⟨A, c, he2.1, he2.2.1, he2.2.2, ho⟩
    · exact absurd hD h1
theorem order_cyc {w w1 : World} {m : Nat} {E : List (Int × Int)} {v u : Value} {k : Int} (hall : AllOk (m : Int) E) (hp : OrderPost w (m : Int) E (.returned (.tuple #[v, u, .int .i64 k])) w1) (hx : ∃ x, x < m ∧ OnC E x) :
    ∃ A c C, v = .slice none 0 0 ∧ u = .slice A C.length c ∧ k = 73 ∧ OwnN w1 w.heap.size (.slice A C.length c) C ∧ CycS E m C := by
  rcases hp.2 with ⟨b, _⟩ | ⟨_, m', D0, hm, hf0, h⟩
  · exact absurd hall b
  · obtain rfl : m = m' := by omega
    rcases h with ⟨h1, _⟩ | ⟨_, A, c, C, he, ho, hc⟩
    · exact absurd h1 (onc_short hf0 hx)
    · have he2 : v = .slice none 0 0 ∧ u = .slice A C.length c ∧ k = 73 := by simpa using he
      exact ⟨A, c, C, he2.1, he2.2.1, he2.2.2, ho, hc⟩
theorem not_sing {m : Nat} {E : List (Int × Int)} {D : List Nat} (hall : AllOk (m : Int) E) (hf : Full (Hd E m) (Nb E m) D) (h : ¬ (Sing E m D ∧ Loopless E)) : ∃ x, x < m ∧ OnC E x := by
  by_cases hs : Sing E m D
  · exact loop_onc hall.2.2 (fun hl => h ⟨hs, hl⟩)
  · exact sing_onc hall.2.2 hf.1.mem hs

set_option maxHeartbeats 8000000 in
set_option maxRecDepth 100000 in
theorem graphWhole_walk (n : Int) (E : List (Int × Int)) (A : Option Addr) (c : Nat) (w : World) (hr : kE.C w A E.length E) (hnil : A = none → c = 0) (hE : E.length ≤ 8796093022200) :
    Calls Try.prog 12 #[.int .i64 n, .slice A E.length c] w fun e w' => e = .returned (.bool true) ∧ Below w.heap.size w w' := by
  have HR := Aside0.mk hr
  have HOC := Aside0.mk (order_calls n E A c w hr (by omega))
  clear hr
  by_cases hall : AllOk n E
  · obtain ⟨m, rfl⟩ := Int.eq_ofNat_of_zero_le hall.1
    have hm : m ≤ 131072 := by have := hall.2.1; omega
    have HALL := Aside0.mk hall
    clear hall
    go_enter Try.func12, Try.ntmps12
    go_wp2_with fail
    refine HOC.out.mono ?_
    intro e w1 hp
    have HP := Aside0.mk hp
    have HB1 := Aside0.mk hp.1
    obtain ⟨v, u, k, rfl⟩ := order_shape hp
    have HPC := Aside0.mk (gparts_good m E A c w1 (Kd.C_below HR.out HB1.out) (by omega) HALL.out)
    clear hp HOC
    go_wp2_with fail
    refine HPC.out.mono ?_
    rintro e w2 ⟨A8, c8, vals8, D, rfl, ho8, hf8, hl8, hb8⟩
    have HB2 := Aside0.mk (HB1.out.trans (hb8.mono HB1.out.size))
    have HF := Aside0.mk hf8
    have HRC := Aside0.mk (right_good m E A c w2 (Kd.C_below HR.out HB2.out) (by omega) HALL.out)
    have HO2 := Aside0.mk ho8
    have HB12 := Aside0.mk hb8
    clear ho8 hf8 hb8 HPC
    go_wp2_with fail
    refine HRC.out.mono ?_
    rintro e w3 ⟨rfl, hb3⟩
    have HB3 := Aside0.mk (HB2.out.trans (hb3.mono HB2.out.size))
    have HB13 := Aside0.mk (HB12.out.trans (hb3.mono HB12.out.size))
    have HO3 := Aside0.mk (HO2.out.below hb3)
    have HFL := Aside0.mk (fl_length HALL.out.2.2 HF.out)
    have hmk := run_make_row' (P := Try.prog) 33 3 (.int .i64 0) 8 Try.underlying33 info3 rfl .i64 .i64 m (by omega) (by omega)
    have HZ := Aside0.mk (OwnN.made w3 w3.heap.size m (Nat.le_refl _) hm)
    clear hb3 HRC HO2
    go_wp2_with fail
    clear hmk
    obtain ⟨gI, hgI⟩ : ∃ gI, gI = w3.heap.size := ⟨_, rfl⟩
    obtain ⟨W4, hW4, HW⟩ := ex_world (p := fun W => WA w3 gI m (.slice none 0 0) [] (List.replicate m 0) W) (W := w3.alloc (Obj.cells (madeCells #[Value.int IntKind.i64 0] m) 3)) ⟨World.ownsRow_nil _ _ _ _, by rw [hgI]; exact HZ.out, by simp [Value.ownBlock], by rw [hgI]; exact Nat.le_refl _, (Below.refl _ _).alloc (Nat.le_refl _) _⟩
    rw [hW4, ← hgI]
    clear hW4 HZ hgI
    go_loopg [10, 11, 68] D.length (fun g v10 v11 v68 wr => ∃ (i : Nat) (B : Option Addr) (d : Nat) (S : Bool) (I : List Nat), i ≤ D.length ∧ g = D.length - i ∧ v68 = .int .i64 i ∧ v10 = .slice B (fl E m (D.take i)).length d ∧ v11 = .bool S ∧
      Aside0 (WA w3 gI m (.slice B (fl E m (D.take i)).length d) (fl E m (D.take i)) I wr) ∧ Aside0 (I.length = m ∧ ∀ j d, j < i → D[j]? = some d → ∀ x ∈ pof E m d, pa I x = j) ∧ Aside0 (S = true ↔ Sing E m (D.take i)))
    case atStart => exact ⟨0, none, 0, true, _, Nat.zero_le _, rfl, rfl, by simp [fl], rfl, by simpa [fl] using HW, ⟨by simp, fun j d hj => by omega⟩, ⟨by simp [Sing]⟩⟩
    case round =>
      clear HW
      obtain ⟨i, B, d, S, I, hi, rfl, rfl, rfl, rfl, HW, HI, HS⟩ := hrel
      by_cases hlt : i < D.length
      · obtain ⟨p, hp⟩ : ∃ p, p = D[i] := ⟨_, rfl⟩
        have hpi : D[i]? = some p := by rw [hp, List.getElem?_eq_getElem hlt]
        have hhd := HF.out.1.mem p (List.mem_of_getElem? hpi)
        obtain ⟨g8, x8, rfl, hx8, k8, hin8, -⟩ := OwnRows.row (HO3.out.below HW.out.B) (i := i) (by rw [List.length_map]; exact hlt)
        rw [nb_map hpi] at hin8
        obtain ⟨Ax, cx, rfl⟩ := own_slice hin8
        obtain ⟨ps, hps⟩ : ∃ ps, ps = pof E m p := ⟨_, rfl⟩
        obtain ⟨xs, hxs⟩ : ∃ xs, xs = fl E m (D.take i) := ⟨_, rfl⟩
        have hxl : xs.length ≤ m := by rw [hxs]; exact fl_take_le HFL.out
        have hpl : ps.length ≤ m := by rw [hps]; exact rising_length (part_rising E m p) (fun y hy => (part_mem.1 hy).1)
        have hp0 : 0 < ps.length := by rw [hps]; exact List.length_pos_of_mem (hd_self hhd)
        have hp01 : ((ps.length : Int) == 0) = false := beq_eq_false_iff_ne.2 (by omega)
        have HST := Aside0.mk (show fl E m (D.take (i + 1)) = xs ++ ps by rw [fl_step hpi, hxs, hps])
        obtain ⟨S2, hS2⟩ : ∃ S2, S2 = (S && decide (ps.length = 1)) := ⟨_, rfl⟩
        have HS2E := Aside0.mk (show S2 = (S && ((ps.length : Int) == 1)) by
          rw [hS2]
          congr 1
          rw [Bool.eq_iff_iff, decide_eq_true_iff, beq_iff_eq]
          omega)
        have HS2 := Aside0.mk (show S2 = true ↔ Sing E m (D.take (i + 1)) by
          rw [hS2, Bool.and_eq_true, HS.out, decide_eq_true_iff]
          unfold Sing
          constructor
          · rintro ⟨h1, h2⟩ d hd
            rcases (mem_take_one hpi).1 hd with h | h
            · exact h1 d h
            · rw [h, ← hps]; exact h2
          · intro h
            exact ⟨fun d hd => h d ((mem_take_one hpi).2 (.inl hd)), by rw [hps]; exact h p ((mem_take_one hpi).2 (.inr rfl))⟩)
        rw [← hps] at k8 hin8
        rw [← hxs] at HW
        rw [← hxs]
        have HPI := Aside0.mk (And.intro hpi (And.intro hhd hps))
        have HRD := Aside0.mk (RN.of_own hin8)
        have HX8 := Aside0.mk hx8
        have hm2 : (xs.length + ps.length) * 8 ≤ 140737488355328 := by omega
        have HINN := Aside0.mk hin8
        clear hp hpi hhd hps hxs hin8 hx8 hS2
        go_wp2_with (at_builtin; refine print_append_row (w0 := w3) (W := wr) w3.heap.size rfl (.tmp 76) (.tmp 77) 33 3 .i64 8 rfl Try.underlying33 info3 (by decide) (.slice B xs.length d) (xs.map Int.ofNat) (ps.map Int.ofNat) Ax ps.length cx rfl rfl ?aO ?aR ?aB ?aS ?aL ?_; (case aO => exact own_nums HW.out.a); (case aR => exact rn_reads HRD.out); (case aB => exact HW.out.B); (case aS => exact HW.out.B.size); (case aL => rw [List.length_map]; exact hm2); intro v2 w4 ho hb hg hat; have ho2 := own_of_nums ho; obtain ⟨A6, c6, he⟩ := own_slice ho2; subst he; have HW2 := Aside0.mk (WA.append HW.out ho2 hb hg hat); clear hb hg hat ho ho2)
        all_goals (
          go_loopg [87] ps.length (fun g v87 wq => ∃ (j : Nat) (I : List Nat), j ≤ ps.length ∧ g = ps.length - j ∧ v87 = .int .i64 j ∧ Aside0 (WA w3 gI m (.slice A6 (xs ++ ps).length c6) (xs ++ ps) I wq) ∧
            Aside0 (I.length = m ∧ (∀ j' d, j' < i → D[j']? = some d → ∀ x ∈ pof E m d, pa I x = j') ∧ ∀ x ∈ ps.take j, pa I x = i))
          case atStart => exact ⟨0, I, Nat.zero_le _, rfl, rfl, HW2, ⟨HI.out.1, HI.out.2, fun x hx => by simp at hx⟩⟩
          case round =>
            clear HW HW2 HI
            obtain ⟨j, I, hj, rfl, rfl, HW, HI⟩ := hrel
            by_cases hltj : j < ps.length
            · have hin := (HO3.out.below HW.out.B).inner i _ HX8.out
              rw [nb_map HPI.out.1, ← HPI.out.2.2] at hin
              obtain ⟨gx, rfl, kx, -⟩ := row_cell hin hltj
              obtain ⟨x, hx⟩ : ∃ x, x = ps[j] := ⟨_, rfl⟩
              rw [← hx] at kx
              have hxj : ps[j]? = some x := by rw [hx, List.getElem?_eq_getElem hltj]
              have hxp : x ∈ pof E m p := by rw [← HPI.out.2.2]; exact List.mem_of_getElem? hxj
              have hxm : x < m := (part_mem.1 hxp).1
              obtain ⟨f1, f2, -⟩ := OwnN.at_ HW.out.i (x := x) (by rw [HI.out.1]; exact hxm)
              have HPUT := Aside0.mk (HW.out.put (x := x) (u := i) (by rw [HI.out.1]; exact hxm))
              have HI2 := Aside0.mk (show (I.set x i).length = m ∧ (∀ j' d, j' < i → D[j']? = some d → ∀ y ∈ pof E m d, pa (I.set x i) y = j') ∧ ∀ y ∈ ps.take (j + 1), pa (I.set x i) y = i from by
                refine ⟨by rw [List.length_set]; exact HI.out.1, fun j' d hj' hd y hy => ?_, fun y hy => ?_⟩
                · rw [pa_set (by rw [HI.out.1]; exact hxm)]
                  by_cases e : y = x
                  · exfalso
                    subst e
                    have h1 := ((hd_part (HF.out.1.mem d (List.mem_of_getElem? hd))).1 hy).2
                    have h2 := ((hd_part HPI.out.2.1).1 hxp).2
                    have h3 : D[j']? = D[i]? := by rw [hd, HPI.out.1, ← h1, ← h2]
                    obtain ⟨l1, e1⟩ := List.getElem?_eq_some_iff.1 hd
                    obtain ⟨l2, e2⟩ := List.getElem?_eq_some_iff.1 HPI.out.1
                    exact List.pairwise_iff_getElem.1 HF.out.1.nodup j' i l1 l2 hj' (by rw [e1, e2, ← h1, ← h2])
                  · rw [if_neg e]; exact HI.out.2.1 j' d hj' hd y hy
                · rw [pa_set (by rw [HI.out.1]; exact hxm)]
                  rcases (mem_take_one hxj).1 hy with h | h
                  · split
                    · rfl
                    · exact HI.out.2.2 y h
                  · rw [if_pos h])
              have i1 : (x : Int) < (m : Int) := by omega
              by_cases hj0 : j = 0
              · subst hj0
                clear hin hx hxj hxp
                go_wp2_with fail
                go_roundg (ps.length - (0 + 1))
                case rel => exact ⟨0 + 1, _, by omega, rfl, by go_num, HPUT, HI2⟩
                case measure => omega
              · obtain ⟨j', rfl⟩ : ∃ j', j = j' + 1 := ⟨j - 1, by omega⟩
                have hltj' : j' < ps.length := by omega
                obtain ⟨gx', he, kx', -⟩ := row_cell hin hltj'
                cases he
                obtain ⟨x', hx'⟩ : ∃ x', x' = ps[j'] := ⟨_, rfl⟩
                rw [← hx'] at kx'
                have hxx : x' < x := by
                  have hr := part_rising E m p
                  rw [← HPI.out.2.2] at hr
                  rw [hx, hx']
                  exact List.pairwise_iff_getElem.1 hr j' (j' + 1) hltj' hltj (by omega)
                have hle : ¬ (x : Int) ≤ (x' : Int) := by omega
                have hj1 : (0 : Int) < (j' : Int) + 1 := by omega
                clear hin hx hxj hxp hx' hj0
                go_wp2_with fail
                go_roundg (ps.length - (j' + 1 + 1))
                case rel => exact ⟨j' + 1 + 1, _, by omega, rfl, by go_num, HPUT, HI2⟩
                case measure => omega
            · obtain rfl : j = ps.length := by omega
              go_wp2_with fail
              go_roundg (D.length - (i + 1))
              case rel => exact ⟨i + 1, A6, c6, S2, I, by omega, rfl, by go_num, by rw [HST.out]; simp, by rw [HS2E.out]; simp [*], by rw [HST.out]; exact HW, ⟨HI.out.1, fun j' d hj' hd x hx => by
                  rcases Nat.lt_or_ge j' i with h | h
                  · exact HI.out.2.1 j' d h hd x hx
                  · have e : j' = i := by omega
                    subst e
                    rw [HPI.out.1] at hd
                    cases hd
                    exact HI.out.2.2 x (by rw [List.take_length, HPI.out.2.2]; exact hx)⟩, HS2⟩
              case measure => omega)
      · obtain rfl : i = D.length := by omega
        rw [List.take_length] at HW HS
        rw [List.take_length]
        rw [HFL.out] at HW
        rw [HFL.out]
        have HIN := Aside0.mk (show InP E m D I from fun j d hd x hx => HI.out.2 j d (List.getElem?_eq_some_iff.1 hd).1 hd x hx)
        have HIL := Aside0.mk HI.out.1
        have HPL := Aside0.mk (places_calls m (fl E m D) B d wr (RN.of_own HW.out.a) hm (fl_nodup HF.out.1.mem HF.out.1.nodup) fl_lt)
        have HBR := Aside0.mk (HB3.out.trans (HW.out.B.mono HB3.out.size))
        clear HI
        go_wp2_with fail
        refine HPL.out.mono ?_
        rintro e w5 ⟨N, rfl, hN, hNl, hpos, hb5⟩
        have HB5 := Aside0.mk (HBR.out.trans (hb5.mono HBR.out.size))
        have HB35 := Aside0.mk (HW.out.B.trans (hb5.mono HW.out.B.size))
        have HAL := Aside0.mk (own_below HW.out.a hb5)
        have HI5 := Aside0.mk (own_below HW.out.i hb5)
        have HN5 := Aside0.mk hN
        have HNL := Aside0.mk (And.intro hNl hpos)
        obtain ⟨gN, hgN⟩ : ∃ gN, gN = wr.heap.size := ⟨_, rfl⟩
        rw [← hgN] at HN5
        rw [← hgN]
        clear hN hNl hpos hb5 HPL HW hgN
        go_wp2_with fail
        go_loopg [11, 132] E.length (fun g v11 v132 wq => ∃ (k : Nat) (S : Bool), k ≤ E.length ∧ g = E.length - k ∧ v132 = .int .i64 k ∧ v11 = .bool S ∧ Aside0 (Below w5.heap.size w5 wq) ∧ Aside0 (S = true ↔ Sing E m D ∧ ∀ e ∈ E.take k, e.1 ≠ e.2))
        case atStart => exact ⟨0, S, Nat.zero_le _, rfl, rfl, rfl, ⟨Below.refl _ _⟩, ⟨by rw [HS.out]; simp⟩⟩
        case round =>
          clear HS
          obtain ⟨k', S, hk, rfl, rfl, rfl, HW, HS⟩ := hrel
          by_cases hlte : k' < E.length
          · have HBA := Aside0.mk (HB5.out.trans (HW.out.mono HB5.out.size))
            obtain ⟨ad, x, rfl, hx, c0, c1⟩ := edge_at HR.out k' hlte
            replace c0 := (HBA.out.cell (World.block_lt_of_cell? w _ c0)).trans c0
            replace c1 := (HBA.out.cell (World.block_lt_of_cell? w _ c1)).trans c1
            obtain ⟨x1, x2⟩ := x
            obtain ⟨o1, o2, o3, o4⟩ := HALL.out.2.2 _ (List.mem_of_getElem? hx)
            simp only at o1 o2 o3 o4
            obtain ⟨a, rfl⟩ := Int.eq_ofNat_of_zero_le o1
            obtain ⟨b, rfl⟩ := Int.eq_ofNat_of_zero_le o3
            have ham : a < m := by omega
            have hbm : b < m := by omega
            have hib := inp_edge HALL.out.2.2 HF.out HIN.out (x := a) (y := b) (List.mem_of_getElem? hx)
            have hpl := pos_lt HALL.out.2.2 HF.out HIN.out HNL.out.2 (x := a) (y := b) ham hbm
            have HX := Aside0.mk hx
            clear hx
            go_upto_region 29 with (fail)
            obtain ⟨gb, hgb⟩ : ∃ gb, gb = wr.heap.size := ⟨_, rfl⟩
            obtain ⟨W7, hW7, HW7⟩ := ex_world (p := fun W => Below w5.heap.size w5 W ∧ W.heap[gb]? = some (.cells #[.int .i64 (a : Int), .int .i64 (b : Int)] 52 (0, 0)))
              (W := wr.alloc (.cells #[.int .i64 (a : Int), .int .i64 (b : Int)] 52)) ⟨HW.out.alloc HW.out.size _, new_at _ _ hgb⟩
            rw [hW7, ← hgb]
            clear hW7 hgb c0 c1
            have b01 : W7.cell? ⟨gb, 0, none⟩ = some (.int .i64 (a : Int)) ∧ W7.cell? ⟨gb, 1, none⟩ = some (.int .i64 (b : Int)) := by constructor <;> simp [World.cell?, HW7.out.2]
            obtain ⟨b0, b1⟩ := b01
            obtain ⟨f1, -, -⟩ := OwnN.at_ (own_below HI5.out HW7.out.1) (x := a) (by rw [HIL.out]; exact ham)
            obtain ⟨f2, -, -⟩ := OwnN.at_ (own_below HI5.out HW7.out.1) (x := b) (by rw [HIL.out]; exact hbm)
            obtain ⟨g1, -, -⟩ := OwnN.at_ (own_below HN5.out HW7.out.1) (x := a) (by rw [HNL.out.1]; exact ham)
            obtain ⟨g2, -, -⟩ := OwnN.at_ (own_below HN5.out HW7.out.1) (x := b) (by rw [HNL.out.1]; exact hbm)
            obtain ⟨ia, hia⟩ : ∃ ia, ia = pa I a := ⟨_, rfl⟩
            obtain ⟨ib, hib2⟩ : ∃ ib, ib = pa I b := ⟨_, rfl⟩
            obtain ⟨na, hna⟩ : ∃ na, na = pa N a := ⟨_, rfl⟩
            obtain ⟨nb', hnb⟩ : ∃ nb', nb' = pa N b := ⟨_, rfl⟩
            rw [← hia] at f1 hib hpl
            rw [← hib2] at f2 hib hpl
            rw [← hna] at g1 hpl
            rw [← hnb] at g2 hpl
            have hgt : decide (ia < ib) = false := decide_eq_false (by omega)
            obtain ⟨S2, hS2⟩ : ∃ S2, S2 = (S && ((a : Int) != (b : Int))) := ⟨_, rfl⟩
            have HS2 := Aside0.mk (show S2 = true ↔ Sing E m D ∧ ∀ e ∈ E.take (k' + 1), e.1 ≠ e.2 by
              rw [hS2, Bool.and_eq_true, HS.out, bne_iff_ne]
              constructor
              · rintro ⟨⟨h1, h2⟩, h3⟩
                refine ⟨h1, fun e he => ?_⟩
                rcases (mem_take_one HX.out).1 he with h | h
                · exact h2 e h
                · rw [h]; exact h3
              · rintro ⟨h1, h2⟩
                exact ⟨⟨h1, fun e he => h2 e ((mem_take_one HX.out).2 (.inl he))⟩, h2 _ ((mem_take_one HX.out).2 (.inr rfl))⟩)
            have HS2E := Aside0.mk hS2
            clear hia hib2 hna hnb hS2
            by_cases hii : ia = ib
            · have e2 : ((ia : Int) != (ib : Int)) = false := by rw [hii]; simp
              clear hii hpl hib
              go_upto_region 30 with (fail)
              all_goals (
                go_quiet (fail)
                go_wp2_with fail
                go_roundg (E.length - (k' + 1))
                case rel => exact ⟨k' + 1, S2, by omega, rfl, by go_num, by rw [HS2E.out]; simp [*], ⟨pw_below_drewN HW7.out.1 _⟩, HS2⟩
                case measure => omega)
            · have e2 : ((ia : Int) != (ib : Int)) = true := by simpa [bne_iff_ne, Int.natCast_inj] using hii
              have e3 : decide (na < nb') = false := decide_eq_false (by omega)
              clear hii hpl hib
              go_upto_region 30 with (fail)
              all_goals (
                go_quiet (fail)
                go_wp2_with fail
                go_roundg (E.length - (k' + 1))
                case rel => exact ⟨k' + 1, S2, by omega, rfl, by go_num, by rw [HS2E.out]; simp [*], ⟨pw_below_drewN HW7.out.1 _⟩, HS2⟩
                case measure => omega)
          · obtain rfl : k' = E.length := by omega
            have HSL := Aside0.mk (show S = true ↔ Sing E m D ∧ Loopless E by have := HS.out; rw [List.take_length] at this; exact this)
            have HB15 := Aside0.mk (HB13.out.trans (HB35.out.mono HB13.out.size))
            have HB1W := Aside0.mk (HB15.out.trans (HW.out.mono HB15.out.size))
            have HBW := Aside0.mk (HB5.out.trans (HW.out.mono HB5.out.size))
            clear HS
            cases S with
            | true =>
              obtain ⟨hs, hl⟩ := HSL.out.1 rfl
              obtain ⟨A0, c0, rfl, rfl, rfl, ho⟩ := order_sing HALL.out HP.out HF.out hs hl
              have HSS := Aside0.mk (sameInts_calls D D A0 B m m c0 d wr ((RN.of_own ho).below HB1W.out) (by
                have h1 := RN.of_own (own_below HAL.out HW.out)
                rw [fl_sing hs HF.out.1.mem] at h1
                exact h1))
              rw [show sameB D D = true by simp [sameB]] at HSS
              clear hs hl ho HP
              go_wp2_with fail
              refine HSS.out.mono ?_
              rintro e w9 ⟨rfl, q, rfl⟩
              go_wp2_with fail
              go_ret
              exact ⟨rfl, pw_below_drewN HBW.out _⟩
            | false =>
              have hno : ¬ (Sing E m D ∧ Loopless E) := fun h => by have := HSL.out.2 h; cases this
              obtain ⟨A0, c0, C, rfl, rfl, rfl, ho, hcy⟩ := order_cyc HALL.out HP.out (not_sing HALL.out HF.out hno)
              obtain ⟨x0, hfirst, hC0, hnext, hboth⟩ := cyc_facts hcy
              have HC0 := Aside0.mk (own_below ho HB15.out)
              have HCF := Aside0.mk (And.intro hfirst (And.intro hC0 (And.intro hnext hboth)))
              have hcl : C.length ≠ 0 := fun e => by rw [List.length_eq_zero_iff.1 e] at hC0; simp at hC0
              have hc1 : ((C.length : Int) == 0) = false := beq_eq_false_iff_ne.2 (by omega)
              clear hno ho hcy hfirst hC0 hnext hboth HP
              go_wp2_with fail
              go_loopg [209] C.length (fun g v209 wq => ∃ i : Nat, i ≤ C.length ∧ g = C.length - i ∧ v209 = .int .i64 i ∧ Aside0 (Below w5.heap.size w5 wq))
              case atStart => exact ⟨0, Nat.zero_le _, rfl, rfl, HW⟩
              case round =>
                clear HW HBW HB1W
                obtain ⟨i, hi, rfl, rfl, HW⟩ := hrel
                by_cases hlti : i < C.length
                · have hin := own_below HC0.out HW.out
                  have hj : (i + 1) % C.length < C.length := Nat.mod_lt _ (by omega)
                  obtain ⟨gC, rfl, k1, -⟩ := row_cell hin hlti
                  obtain ⟨gC', he, k2, -⟩ := row_cell hin hj
                  cases he
                  obtain ⟨gC', he, k3, -⟩ := row_cell hin (k := 0) (by omega)
                  cases he
                  have hmod := mod_int i C.length
                  have hclen := (RN.of_own HC0.out).2.1
                  obtain ⟨j, hjj⟩ : ∃ j, j = (i + 1) % C.length := ⟨_, rfl⟩
                  obtain ⟨u, hu⟩ : ∃ u, u = C[i] := ⟨_, rfl⟩
                  obtain ⟨v, hv⟩ : ∃ v, v = C[(i + 1) % C.length] := ⟨_, rfl⟩
                  have hx0 : C[0] = x0 := by
                    have h := HCF.out.2.1
                    rw [List.getElem?_eq_getElem (by omega)] at h
                    exact Option.some.inj h
                  have hui : C[i]? = some u := by rw [hu, List.getElem?_eq_getElem hlti]
                  obtain ⟨v', hv', hedge⟩ := HCF.out.2.2.1 i u hui
                  have hvv : v' = v := by
                    rw [List.getElem?_eq_getElem hj, ← hv] at hv'
                    exact (Option.some.inj hv').symm
                  subst hvv
                  have hok := HALL.out.2.2 _ hedge
                  unfold EOk at hok
                  simp only at hok
                  have hum : u < m := by omega
                  have hvm : v' < m := by omega
                  have hb := HCF.out.2.2.2 i u hui
                  have hx0m := HCF.out.1.1
                  have hsame := inp_both HALL.out.2.2 HF.out HIN.out hum hx0m hb
                  have hxle : x0 ≤ u := HCF.out.1.2.2 u hum ⟨v', hedge, (Rch.trans (Rch.trans (by
                    obtain ⟨hj2, e2⟩ := List.getElem?_eq_some_iff.1 hv'
                    exact (HCF.out.2.2.2 _ v' (by rw [List.getElem?_eq_getElem hj2, e2])).1) (.refl _)) hb.2)⟩
                  rw [← hu] at k1
                  rw [← hv, ← hjj] at k2
                  rw [hx0] at k3
                  rw [← hjj] at hmod hj
                  obtain ⟨f1, -, -⟩ := OwnN.at_ (own_below HI5.out HW.out) (x := u) (by rw [HIL.out]; exact hum)
                  obtain ⟨f2, -, -⟩ := OwnN.at_ (own_below HI5.out HW.out) (x := x0) (by rw [HIL.out]; exact hx0m)
                  rw [← hsame] at f2
                  obtain ⟨iu, hiu⟩ : ∃ iu, iu = pa I u := ⟨_, rfl⟩
                  rw [← hiu] at f1 f2
                  have HEDGE := Aside0.mk (show decide (((u : Int), (v' : Int)) ∈ E) = true from decide_eq_true hedge)
                  have hjl : (j : Int) < (C.length : Int) := by omega
                  have hiu2 : ((iu : Int) != (iu : Int)) = false := by simp
                  have hxle2 : decide (u < x0) = false := decide_eq_false (by omega)
                  have HND := Aside0.mk (fun (W : World) (hW : Below w5.heap.size w5 W) => needs_calls (u : Int) (v' : Int) E A c W (Kd.C_below HR.out (HB5.out.trans (hW.mono HB5.out.size))) (by omega))
                  rw [HEDGE.out] at HND
                  clear hin hjj hu hv hx0 hui hv' hedge hok hb hsame hiu
                  go_upto_region 41 with (fail)
                  have hc0 : 0 < C.length := by omega
                  have HWD := Aside0.mk (HW.out.drew)
                  go_still_tail 40, (by kernel_rfl)
                  go_wp2_with fail
                  refine (HND.out _ HWD.out).mono ?_
                  rintro e W9 ⟨rfl, hb9⟩
                  have HB9 := Aside0.mk (HWD.out.trans (hb9.mono HWD.out.size))
                  clear hb9
                  go_wp2_with fail
                  go_roundg (C.length - (i + 1))
                  case rel => exact ⟨i + 1, by omega, rfl, by go_num, HB9⟩
                  case measure => omega
                · obtain rfl : i = C.length := by omega
                  go_wp2_with fail
                  go_loopg [268] D.length (fun g v268 wq => ∃ t : Nat, t ≤ D.length ∧ g = D.length - t ∧ v268 = .int .i64 t ∧ Aside0 (Below w5.heap.size w5 wq))
                  case atStart => exact ⟨0, Nat.zero_le _, rfl, rfl, HW⟩
                  case round =>
                    clear HW
                    obtain ⟨t, ht, rfl, rfl, HW⟩ := hrel
                    by_cases hltt : t < D.length
                    · have HB3W := Aside0.mk (HB35.out.trans (HW.out.mono HB35.out.size))
                      obtain ⟨g8, x8, rfl, -, k8, hin8, -⟩ := OwnRows.row (HO3.out.below HB3W.out) (i := t) (by rw [List.length_map]; exact hltt)
                      obtain ⟨p, hp⟩ : ∃ p, p = D[t] := ⟨_, rfl⟩
                      have hpi : D[t]? = some p := by rw [hp, List.getElem?_eq_getElem hltt]
                      have hhd := HF.out.1.mem p (List.mem_of_getElem? hpi)
                      rw [nb_map hpi] at hin8
                      obtain ⟨Ax, cx, rfl⟩ := own_slice hin8
                      have hin := own_below HC0.out HW.out
                      obtain ⟨gC, rfl, k3, -⟩ := row_cell hin (k := 0) (by omega)
                      have hx0 : C[0] = x0 := by
                        have h := HCF.out.2.1
                        rw [List.getElem?_eq_getElem (by omega)] at h
                        exact Option.some.inj h
                      rw [hx0] at k3
                      have hpp := hd_self hhd
                      have hp0 := hd_first hhd
                      have hon := onc_iff (ne_lt HALL.out.2.2) hhd.1
                      have hpm : p < m := hhd.1
                      obtain ⟨ps, hps⟩ : ∃ ps, ps = pof E m p := ⟨_, rfl⟩
                      rw [← hps] at hin8 k8 hpp hp0 hon
                      have hpl : 0 < ps.length := List.length_pos_of_mem hpp
                      obtain ⟨gx, rfl, kx, -⟩ := row_cell hin8 hpl
                      rw [← pa_get hpl, hp0] at kx
                      have hc0 : 0 < C.length := by omega
                      by_cases hlow : p < x0
                      · have hnon : ¬ OnC E p := fun h => by
                          have := HCF.out.1.2.2 p hpm h
                          omega
                        rw [hon] at hnon
                        have hlen : ps.length = 1 := by omega
                        have hnself : decide (((p : Int), (p : Int)) ∈ E) = false := decide_eq_false (fun h => hnon (.inr h))
                        have hl1 : decide (p < x0) = true := decide_eq_true hlow
                        have HND := Aside0.mk (fun (W : World) (hW : Below w5.heap.size w5 W) => needs_calls (p : Int) (p : Int) E A c W (Kd.C_below HR.out (HB5.out.trans (hW.mono HB5.out.size))) (by omega))
                        rw [hnself] at HND
                        have HWD := Aside0.mk (HW.out.drew)
                        rw [hlen] at k8
                        clear hin hin8 hp hpi hhd hx0 hpp hp0 hon hps hpl hnon hnself hlen hlow
                        go_upto_region 47 with (fail)
                        go_still_tail 19, (by kernel_rfl)
                        go_wp2_with fail
                        refine (HND.out _ HWD.out).mono ?_
                        rintro e W9 ⟨rfl, hb9⟩
                        have HB9 := Aside0.mk (HWD.out.trans (hb9.mono HWD.out.size))
                        clear hb9
                        go_wp2_with fail
                        go_roundg (D.length - (t + 1))
                        case rel => exact ⟨t + 1, by omega, rfl, by go_num, HB9⟩
                        case measure => omega
                      · have hl1 : decide (p < x0) = false := decide_eq_false hlow
                        clear hin hin8 hp hpi hhd hx0 hpp hp0 hon hps hlow
                        go_upto_region 47 with (fail)
                        go_quiet (fail)
                        go_wp2_with fail
                        go_roundg (D.length - (t + 1))
                        case rel => exact ⟨t + 1, by omega, rfl, by go_num, ⟨pw_below_drewN HW.out _⟩⟩
                        case measure => omega
                    · obtain rfl : t = D.length := by omega
                      go_wp2_with fail
                      go_ret
                      exact ⟨rfl, HB5.out.trans (HW.out.mono HB5.out.size)⟩
  · have HALL := Aside0.mk hall
    clear hall
    go_enter Try.func12, Try.ntmps12
    go_wp2_with fail
    refine HOC.out.mono ?_
    intro e w1 hp
    have HB1 := Aside0.mk hp.1
    have he : e = .returned (.tuple #[.slice none 0 0, .slice none 0 0, .int .i64 1]) := by
      rcases hp.2 with ⟨_, h⟩ | ⟨h, _⟩
      · exact h
      · exact absurd h HALL.out
    subst he
    have HPB := Aside0.mk (gparts_bad n E A c w1 (Kd.C_below HR.out HB1.out) (by omega) HALL.out)
    clear hp HOC
    go_wp2_with fail
    refine HPB.out.mono ?_
    rintro e w2 ⟨rfl, hb2⟩
    have HB2 := Aside0.mk (HB1.out.trans (hb2.mono HB1.out.size))
    have HRB := Aside0.mk (right_bad n E A c w2 (Kd.C_below HR.out HB2.out) (by omega) HALL.out)
    clear hb2 HPB
    go_wp2_with fail
    refine HRB.out.mono ?_
    rintro e w3 ⟨rfl, hb3⟩
    have HB3 := Aside0.mk (HB2.out.trans (hb3.mono HB2.out.size))
    clear hb3 HRB
    go_wp2_with fail
    go_ret
    exact ⟨rfl, HB3.out⟩

end Go.Proofs.Ytdddbjaggfaofaa.Mem
