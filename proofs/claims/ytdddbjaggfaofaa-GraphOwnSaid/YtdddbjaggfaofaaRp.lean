/- The document's Parts, by its contract. -/
import Derived.Test.YtdddbjaggfaofaaTog
import Derived.Test.YtdddbjaggfaofaaLows
import Derived.Test.YtdddbjaggfaofaaRefAB
import Derived.Test.YtdddbjaggfaofaaGMs
import Derived.Test.YtdddbjaggfaofaaGp
import Derived.Outline

namespace Go.Proofs.Ytdddbjaggfaofaa.Mem
open Go.RowKit Go.Proofs.Ytdddbjaggfaofaa.GM Go.Proofs.YtdddbjaggfaofaaW.PrintWords
set_option linter.unusedVariables false

/-- The counts, the tree, what is handed out: each in a block of its own. -/
structure RQ (w7 : World) (gN n b g S : Nat) (N c : List Nat) (W : World) : Prop where
  nd : OwnN W w7.heap.size (.slice (some ⟨gN, 0, none⟩) n n) N
  lw : LW W w7.heap.size b g S c
  ne : gN ≠ g
  lo : w7.heap.size ≤ gN ∧ w7.heap.size ≤ g ∧ w7.heap.size ≤ b
  B : Below w7.heap.size w7 W

theorem RQ.put {w7 W W1 : World} {gN n b g S : Nat} {N c c1 : List Nat} (h : RQ w7 gN n b g S N c W) (hl : LW W1 w7.heap.size b g S c1) (hg : W.grownBy W1 (some g)) : RQ w7 gN n b g S N c1 W1 where
  nd := own_grown h.nd hg (fun k hk e => h.ne ((Option.some.inj hk).trans (Option.some.inj e).symm))
  lw := hl
  ne := h.ne
  lo := h.lo
  B := h.B.grown hg h.B.size (fun k hk => by injection hk with hk; have := h.lo; omega)

theorem RQ.len {w7 W : World} {gN n b g S : Nat} {N c : List Nat} (h : RQ w7 gN n b g S N c W) : N.length = n := (row_at h.nd).symm

theorem RQ.box_ne {w7 W : World} {gN n b g S : Nat} {N c : List Nat} (h : RQ w7 gN n b g S N c W) : gN ≠ b := fun e => by
  obtain ⟨cs, hcs⟩ := own_typed h.nd gN rfl
  have := h.lw.box
  rw [← e, hcs] at this
  injection this with this
  injection this with _ this
  exact absurd this (by decide)

theorem RQ.set {w7 W : World} {gN n b g S : Nat} {N c : List Nat} (h : RQ w7 gN n b g S N c W) {x : Nat} (hx : x < n) (v : Nat) : RQ w7 gN n b g S (N.set x v) c (W.setCell ⟨gN, x, none⟩ (.int .i64 (v : Int))) ∧ W.grownBy (W.setCell ⟨gN, x, none⟩ (.int .i64 (v : Int))) (some gN) := by
  obtain ⟨h1, h2⟩ := h.nd.set_ (v := v) (x := x) (by rw [h.len]; exact hx)
  exact ⟨⟨h1, h.lw.grown h2 (fun e => h.box_ne (Option.some.inj e)) (fun e => h.ne (Option.some.inj e)), h.ne, h.lo, h.B.setCell h.lo.1 _⟩, h2⟩

theorem RQ.grown {w7 W W1 : World} {gN n b g S e size m : Nat} {N c : List Nat} {v : Value} {xs : List Value} (h : RQ w7 gN n b g S N c W) (ho : W.ownsRow w7.heap.size 33 1 v m xs) (hg : W.grownBy W1 v.ownBlock) : RQ w7 gN n b g S N c W1 where
  nd := own_grown h.nd hg (fun k hk e => own_types_ne ho h.nd (by decide) e hk)
  lw := h.lw.grown hg (fun e => blk_row_ne ho h.lw.box (by decide) e.symm) (fun e => own_types_ne ho h.lw.own (by decide) e rfl)
  ne := h.ne
  lo := h.lo
  B := h.B.grown hg h.B.size (fun k hk => own_base ho k hk)

theorem RQ.row {w7 W W1 : World} {gN n b g S m r : Nat} {N c : List Nat} {v : Value} {xs : List Value} (h : RQ w7 gN n b g S N c W) (ho : W.ownsRow w7.heap.size 33 1 v m xs) (hg : W.grownBy W1 (some r)) (hr : r = gN ∨ r = g) : W1.ownsRow w7.heap.size 33 1 v m xs :=
  own_grown ho hg (fun k hk e => by
    injection e with e
    subst e
    rcases hr with e2 | e2
    · subst e2; exact own_types_ne ho h.nd (by decide) hk rfl
    · subst e2; exact own_types_ne ho h.lw.own (by decide) hk rfl)

theorem ub_mk {n : Nat} {E Bt : List (Int × Int)} {Us : List (List Nat)} (hBt : Bt = btw (lo E n) E) (hE : ∀ x ∈ E, EOk n x) (h : RowsM n Bt Us) : UB n (Hd E n) Bt Us where
  ok := fun e he => by
    rw [hBt] at he
    obtain ⟨a, b, rfl, -⟩ := btw_mem he
    exact ⟨by simp, by simp⟩
  t := fun x y hy => by
    have h' : ((x : Int), (y : Int)) ∈ Bt := hy
    rw [hBt] at h'
    obtain ⟨a, b, e1, -, e, he, rfl, rfl⟩ := btw_mem h'
    obtain ⟨o1, o2, o3, o4⟩ := hE e he
    simp only [Prod.mk.injEq, Int.natCast_inj] at e1
    obtain ⟨rfl, rfl⟩ := e1
    have l1 : e.1.toNat < n := by omega
    have l2 : e.2.toNat < n := by omega
    exact ⟨⟨(lo_mem l1).1, lo_lo l1⟩, ⟨(lo_mem l2).1, lo_lo l2⟩⟩
  lt := fun x hx => hx.1
  cnt := h.2

theorem btw_ok {n : Nat} {E Bt : List (Int × Int)} (hBt : Bt = btw (lo E n) E) (hE : ∀ x ∈ E, EOk n x) : ∀ x ∈ Bt, EOk n x := fun x hx => by
  rw [hBt] at hx
  obtain ⟨a, b, rfl, -, e, he, rfl, rfl⟩ := btw_mem hx
  obtain ⟨o1, o2, o3, o4⟩ := hE e he
  have h1 := (lo_mem (E := E) (n := n) (x := e.1.toNat) (by omega)).1
  have h2 := (lo_mem (E := E) (n := n) (x := e.2.toNat) (by omega)).1
  exact ⟨by simp, by simpa using h1, by simp, by simpa using h2⟩

/-- The members in the order told. -/
theorem member_rows {W : World} {base base' g n cg : Nat} {E : List (Int × Int)} {v : Value} {valsM vals : List Value} {M : List (List Nat)} {D : List Nat} (hM : OwnRows W base (.slice (some ⟨g, 0, none⟩) n cg) valsM M) (hm : Mem0 (lo E n) n n M) (hb : base' ≤ base)
    (hv : W.ownsRow base' 33 1 v D.length vals) (hf : ∀ (j x : Nat), D[j]? = some x → vals[j]? = valsM[x]?) (hD : D.Nodup) (hH : ∀ x ∈ D, Hd E n x) : OwnRows W base' v vals (D.map (pof E n)) :=
  parts_rows (f := fun x => valsM[x]?) hM hv hb hf hD hH (fun x hx => by
    have hl := hM.len
    have hxl : x < valsM.length := by rw [hl, hm.1]; exact hx.1
    refine ⟨x, valsM[x], ?_, List.getElem?_eq_getElem hxl, List.getElem?_eq_getElem hxl⟩
    rw [List.getElem?_eq_getElem (by rw [hm.1]; exact hx.1)]
    have := hm.pof hx
    unfold nb at this
    rw [List.getD_eq_getElem?_getD, List.getElem?_eq_getElem (by rw [hm.1]; exact hx.1)] at this
    exact congrArg some this)

end Go.Proofs.Ytdddbjaggfaofaa.Mem

namespace Go.Proofs.Ytdddbjaggfaofaa.Mem
open Go.RowKit Go.Proofs.Ytdddbjaggfaofaa.GM Go.Proofs.YtdddbjaggfaofaaW.PrintWords
set_option linter.unusedVariables false

set_option maxHeartbeats 8000000 in
set_option maxRecDepth 100000 in
theorem refParts_calls (n : Int) (E : List (Int × Int)) (A : Option Addr) (c : Nat) (w : World) (hr : kE.C w A E.length E) (hE : E.length ≤ 8796093022200) :
    Calls Try.prog 29 #[.int .i64 n, .slice A E.length c] w fun e w' => GPartsPost 1 w n E e w' := by
  have HBC := Aside0.mk (bad_calls n E A c w hr (by omega))
  have HR := Aside0.mk hr
  clear hr
  by_cases hok : AllOk n E
  · have HALL := Aside0.mk hok
    obtain ⟨g0, g1, g2⟩ := hok
    obtain ⟨n, rfl⟩ := Int.eq_ofNat_of_zero_le g0
    have hn : n ≤ 131072 := by omega
    have HOK := Aside0.mk g2
    clear g2 g0 g1
    go_enter Try.func29, Try.ntmps29
    go_wp2_with fail
    refine HBC.out.mono ?_
    rintro e w1 ⟨rfl, ⟨-, rfl⟩ | ⟨hb, -⟩⟩
    · have HTC := Aside0.mk (together_calls n E A c w HR.out hE hn HOK.out)
      go_wp2_with fail
      refine HTC.out.mono ?_
      rintro e w2 ⟨gl, P, rfl, hP, hPl, hPlo, hb2⟩
      have HP := Aside0.mk hP
      have HPL := Aside0.mk (And.intro hPl hPlo)
      have HB2 := Aside0.mk hb2
      clear hP hPl hPlo hb2
      have hmk := run_make_row' (P := Try.prog) 45 33 (.slice none 0 0) 24 Try.underlying45 info33 rfl .i64 .i64 n (by omega) (by omega)
      have HM := Aside0.mk (OwnRows.made w2 w2.heap.size n (Nat.le_refl _) (by omega))
      obtain ⟨lF, hlF⟩ : ∃ lF, lF = lo E n := ⟨_, rfl⟩
      have HLF := Aside0.mk hlF
      have HLT := Aside0.mk (show ∀ x, x < n → lF x < n from fun x hx => by rw [hlF]; exact (lo_mem hx).1)
      have HPA := Aside0.mk (show ∀ x, x < n → pa P x = lF x by rw [hlF]; exact HPL.out.2)
      clear hlF
      go_wp2_with fail
      clear hmk
      go_loopg [8] n (fun g i wr => ∃ k : Nat, k ≤ n ∧ g = n - k ∧ i = .int .i64 k ∧ Aside0 (Below w2.heap.size w2 wr) ∧ ∃ (vals : List Value) (M : List (List Nat)),
        Aside0 (OwnRows wr w2.heap.size (.slice (some ⟨w2.heap.size, 0, none⟩) n n) vals M) ∧ Aside0 (Mem0 lF n k M))
      case atStart => exact ⟨0, Nat.zero_le _, rfl, rfl, ⟨(Below.refl _ _).alloc (Nat.le_refl _) _⟩, _, _, HM, ⟨Mem0.start lF n⟩⟩
      case round =>
        clear HM
        obtain ⟨i, hi, rfl, rfl, HB, vals, M, HM, HM0⟩ := hrel
        by_cases hlt : i < n
        · obtain ⟨p, hp⟩ : ∃ p, p = lF i := ⟨_, rfl⟩
          have hpn : p < n := by rw [hp]; exact HLT.out i hlt
          obtain ⟨f1, -, -⟩ := OwnN.at_ (own_below HP.out HB.out) (x := i) (by rw [HPL.out.1]; exact hlt)

          rw [show pa P i = p by rw [HPA.out i hlt, hp]] at f1
          obtain ⟨f1', -, -⟩ := OwnN.at_ (own_alloc (own_below HP.out HB.out) (Obj.cells #[Value.int IntKind.i64 (i : Int)] 3)) (x := i) (by rw [HPL.out.1]; exact hlt)
          rw [show pa P i = p by rw [HPA.out i hlt, hp]] at f1'
          have hf3 := fun (W : World) (h : OwnN W w.heap.size (.slice (some ⟨gl, 0, none⟩) n n) P) => (h.at_ (x := i) (by rw [HPL.out.1]; exact hlt)).1
          rw [show pa P i = p by rw [HPA.out i hlt, hp]] at hf3
          have HF3 := Aside0.mk hf3
          clear hf3
          have hstep := HM0.out.step (by rw [← hp]; exact hpn)
          rw [← hp] at hstep
          have HSTEP := Aside0.mk hstep
          obtain ⟨xv, hxv, hcell, hfroz, hown, hgb, hglt⟩ := HM.out.get (i := p) (by rw [HM0.out.1]; exact hpn)
          have HXV := Aside0.mk hxv
          have HOWN := Aside0.mk hown
          have HPN := Aside0.mk (show p < M.length by rw [HM0.out.1]; exact hpn)
          have hle := HM0.out.len_le hpn
          clear hxv hown hstep hp
          go_wp2_with fail
          have hlen1 : (nb M p).length + 1 ≤ maxLen := by unfold maxLen; omega
          have hlen2 : ((nb M p).length + 1) * 8 ≤ 140737488355328 := by omega
          have hbse : w2.heap.size ≤ wr.heap.size := HB.out.size
          have HBW := Aside0.mk (show Below wr.heap.size wr (wr.alloc (.cells #[encN i] 3)).drew from ((Below.refl _ _).alloc (Nat.le_refl _) _).drew)
          obtain ⟨i0, hi0, hz0, hz1, hz2⟩ := info_parts info3
          go_region_law (refine step_append_lies _ (by rfl) _ _ _ (by rfl) w2.heap.size 3 i0 _ 1 8 Try.underlying33 hi0 hz0 hz1 hz2 rfl (by omega) xv (nb M p).length ((nb M p).map encN) (by rfl) (own_below HOWN.out HBW.out) ⟨wr.heap.size, 0, none⟩ 1 1 [encN i] (by rfl) (by rfl) (World.news_of_block (cs := #[encN i]) (t := 3) (fr := (0, 0)) (heap_alloc_new wr _)) (by simp [encN, Value.oneCell']) (by omega) hlen1 hlen2 (by simp; omega) (wr.heap.size + 1) (by simp) ?_; intro gg cap2 w3 hown1 hgrow hat hlt2; have hcg := (HM.out.below HBW.out).cell_grown HXV.out hgrow; have hcg1 := hcg.1; have hcg2 := hcg.2; clear hcg; have f3 := HF3.out w3 (own_grown (own_below (own_below HP.out HB.out) HBW.out) hgrow (fun b hb e => (by have h1 := (own_blk_lt HP.out hb).choose_spec.2.1; have h2 := own_base HOWN.out b e; omega))); have HREL := Aside0.mk (rows_appended (HM.out.below HBW.out) HPN.out HXV.out hgrow hown1 hat (by simp)); have HBE := Aside0.mk ((HB.out.trans (HBW.out.mono HB.out.size)).grown hgrow (by simp; omega) (fun b hb => (own_blk_lt HOWN.out hb).choose_spec.2.2)); clear hgrow hown1 hat hlt2)
          all_goals
            go_wp2_with fail
            go_roundg (n - (i + 1))
            case rel => exact ⟨i + 1, by omega, rfl, by go_num, ⟨HBE.out.setCell (Nat.le_refl _) _⟩, _, _, HREL, HSTEP⟩
            case measure => omega
        · obtain rfl : n = i := by omega
          obtain ⟨w4, hw4, HX⟩ := ex_world (p := fun W => Below w2.heap.size w2 W ∧ OwnRows W w2.heap.size (.slice (some ⟨w2.heap.size, 0, none⟩) n n) vals M) (W := wr) ⟨HB.out, HM.out⟩
          rw [hw4]
          clear hw4 HB HM
          have HB24 := Aside0.mk HX.out.1
          have HM4 := Aside0.mk HX.out.2
          have HP4 := Aside0.mk (own_below HP.out HX.out.1)
          clear HX HP
          go_wp2_with fail
          go_loopg [9, 10] E.length (fun g v9 i wq => ∃ (k : Nat) (Ab : Option Addr) (cb : Nat), k ≤ E.length ∧ g = E.length - k ∧ i = .int .i64 k ∧ v9 = .slice Ab (btw lF (E.take k)).length cb ∧
            Aside0 (Below w4.heap.size w4 wq) ∧ Aside0 (OwnE wq w4.heap.size (.slice Ab (btw lF (E.take k)).length cb) (btw lF (E.take k))))
          case atStart => exact ⟨0, none, 0, Nat.zero_le _, rfl, rfl, by simp [btw], ⟨Below.refl _ _⟩, ⟨by have := World.ownsRow_nil w4 w4.heap.size 52 2; simpa [OwnE, btw, cellsE] using this⟩⟩
          case round =>
            obtain ⟨k, Ab, cb, hk, rfl, rfl, rfl, HB, HE⟩ := hrel
            have hbt : (btw lF (E.take k)).length ≤ k := Nat.le_trans (btw_length _ _) (List.length_take_le _ _)
            have HB4 := Aside0.mk (HB2.out.trans (HB24.out.mono HB2.out.size))
            have HBA := Aside0.mk (HB4.out.trans (HB.out.mono HB4.out.size))
            by_cases hlt : k < E.length
            · obtain ⟨ad, x, rfl, hx, c0, c1⟩ := edge_at HR.out k hlt
              have d0 := (HBA.out.cell (World.block_lt_of_cell? w _ c0)).trans c0
              have d1 := (HBA.out.cell (World.block_lt_of_cell? w _ c1)).trans c1
              obtain ⟨x1, x2⟩ := x
              obtain ⟨o1, o2, o3, o4⟩ := HOK.out _ (List.mem_of_getElem? hx)
              simp only at o1 o2 o3 o4
              obtain ⟨a, rfl⟩ := Int.eq_ofNat_of_zero_le o1
              obtain ⟨b, rfl⟩ := Int.eq_ofNat_of_zero_le o3
              obtain ⟨fa, -, -⟩ := OwnN.at_ (own_below HP4.out HB.out) (x := a) (by rw [HPL.out.1]; omega)
              obtain ⟨fb, -, -⟩ := OwnN.at_ (own_below HP4.out HB.out) (x := b) (by rw [HPL.out.1]; omega)
              rw [HPA.out a (by omega)] at fa
              rw [HPA.out b (by omega)] at fb
              have hst := btw_step (f := lF) hx
              obtain ⟨la, hla⟩ : ∃ la, la = lF a := ⟨_, rfl⟩
              obtain ⟨lb, hlb⟩ : ∃ lb, lb = lF b := ⟨_, rfl⟩
              rw [← hla] at fa hst
              rw [← hlb] at fb hst
              have HST := Aside0.mk hst
              clear hx c0 c1 hst hla hlb
              by_cases hab : la = lb
              · have hne : ((la : Int) != (lb : Int)) = false := by rw [bne_eq_false_iff_eq]; omega
                have HST2 := Aside0.mk (by have := HST.out; rw [if_pos hab, List.append_nil] at this; exact this)
                clear hab
                go_wp2_with fail
                go_roundg (E.length - (k + 1))
                case rel => exact ⟨k + 1, Ab, cb, by omega, rfl, by go_num, by rw [HST2.out], HB, by rw [HST2.out]; exact HE⟩
                case measure => omega
              · have hne : ((la : Int) != (lb : Int)) = true := by rw [bne_iff_ne]; omega
                have HST2 := Aside0.mk (by have := HST.out; rw [if_neg hab] at this; exact this)
                clear hab
                go_wp2_with (at_builtin; refine print_append_cells (w0 := w4) (W := wr) w4.heap.size rfl (.tmp 76) (.tmp 80) 31 52 (.agg #[.int .i64 0, .int .i64 0]) 2 16 rfl Try.underlying31 info52 rfl (by decide) (by decide) (.slice Ab (btw lF (E.take k)).length cb) (btw lF (E.take k)).length (cellsE (btw lF (E.take k))) [.int .i64 (la : Int), .int .i64 (lb : Int)] rfl rfl rfl ?aQ ?aO ?aB ?aS ?aL ?_; (case aQ => intro u hu; simp only [List.mem_cons, List.not_mem_nil, or_false] at hu; rcases hu with rfl | rfl <;> rfl); (case aO => exact HE.out); (case aB => exact HB.out); (case aS => exact HB.out.size); (case aL => omega); intro v2 w6 ho hb hg hat; obtain ⟨A6, c6, he⟩ := own_slice ho; subst he; have HE7 := Aside0.mk ho; have HB7 := Aside0.mk hb; clear hb hg hat ho)
                have hl7 : (btw lF (E.take (k + 1))).length = (btw lF (E.take k)).length + 1 := by rw [HST2.out]; simp
                have HL7 := Aside0.mk hl7
                clear hl7
                go_roundg (E.length - (k + 1))
                case rel => exact ⟨k + 1, A6, c6, by omega, rfl, by go_num, by rw [HL7.out], HB7, ⟨by unfold OwnE; rw [HL7.out, HST2.out, cellsE_append]; exact HE7.out⟩⟩
                case measure => omega
            · obtain rfl : k = E.length := by omega
              rw [List.take_length] at HE hbt ⊢
              obtain ⟨Bt, hBt⟩ : ∃ Bt, Bt = btw lF E := ⟨_, rfl⟩
              rw [← hBt] at HE hbt ⊢
              have HBT := Aside0.mk (show Bt = btw (lo E n) E by rw [← HLF.out]; exact hBt)
              clear hBt
              have HOKB := Aside0.mk (btw_ok HBT.out HOK.out)
              have HRC1 := Aside0.mk (refRowsM_calls n Bt Ab cb wr (HE.out.reads (by omega)) (by omega) hn HOKB.out)
              go_wp2_with fail
              refine HRC1.out.mono ?_
              rintro e w5 ⟨vals5, Us, rfl, hrows5, hin5, hsum5, hb5⟩
              have HU5 := Aside0.mk hrows5
              have HUB := Aside0.mk (ub_mk HBT.out HOK.out hin5)
              have HUL := Aside0.mk (And.intro hin5.1 (show ∀ x, (nb Us x).length ≤ 8796093022200 from fun x => Nat.le_trans (hsum5 x) (by omega)))
              have HE5 := Aside0.mk (show OwnE w5 w4.heap.size (.slice Ab Bt.length cb) Bt from own_below HE.out hb5)
              have HB45 := Aside0.mk (HB.out.trans (hb5.mono HB.out.size))
              clear hrows5 hin5 hsum5 hb5 HE HB
              have hmk := run_make_row' (P := Try.prog) 33 3 (.int .i64 0) 8 Try.underlying33 info3 rfl .i64 .i64 n (by omega) (by omega)
              have HZ := Aside0.mk (OwnN.made w5 w5.heap.size n (Nat.le_refl _) hn)
              go_wp2_with fail
              clear hmk
              obtain ⟨gN, hgN⟩ : ∃ gN, gN = w5.heap.size := ⟨_, rfl⟩
              obtain ⟨W6, hW6, HN6⟩ := ex_world (p := fun W => OwnN W w5.heap.size (.slice (some ⟨gN, 0, none⟩) n n) (List.replicate n 0) ∧ Below w5.heap.size w5 W) (W := w5.alloc (Obj.cells (madeCells #[Value.int IntKind.i64 0] n) 3)) ⟨by rw [hgN]; exact HZ.out, (Below.refl _ _).alloc (Nat.le_refl _) _⟩
              have HGN := Aside0.mk (show w5.heap.size ≤ gN by omega)
              rw [hW6, ← hgN]
              clear hW6 hgN HZ
              go_loopg [15] Bt.length (fun g i wq => ∃ (k : Nat) (N : List Nat), k ≤ Bt.length ∧ g = Bt.length - k ∧ i = .int .i64 k ∧ Aside0 (OwnN wq w5.heap.size (.slice (some ⟨gN, 0, none⟩) n n) N ∧ Below w5.heap.size w5 wq) ∧ Aside0 (N.length = n ∧ ∀ y, y < n → pa N y = cntF (Bt.take k) y))
              case atStart => exact ⟨0, _, Nat.zero_le _, rfl, rfl, HN6, ⟨by simp, fun y hy => by rw [pa_repl, if_pos hy]; simp [cntF]⟩⟩
              case round =>
                clear HN6
                obtain ⟨k, N, hk, rfl, rfl, HN, HNC⟩ := hrel
                by_cases hlt : k < Bt.length
                · obtain ⟨ad, x, rfl, hx, c0, c1⟩ := edge_at (OwnE.reads (own_below HE5.out HN.out.2) (by omega)) k hlt
                  obtain ⟨x1, x2⟩ := x
                  obtain ⟨o1, o2, o3, o4⟩ := HOKB.out _ (List.mem_of_getElem? hx)
                  simp only at o1 o2 o3 o4
                  obtain ⟨a, rfl⟩ := Int.eq_ofNat_of_zero_le o1
                  have han : a < n := by omega
                  obtain ⟨f1, f2, -⟩ := OwnN.at_ HN.out.1 (x := a) (by rw [HNC.out.1]; exact han)
                  obtain ⟨u, hu⟩ : ∃ u, u = pa N a := ⟨_, rfl⟩
                  have hub : u ≤ Bt.length := by rw [hu, HNC.out.2 a han]; exact Nat.le_trans (cntF_le _ _) (List.length_take_le' _ _)
                  obtain ⟨s1, s2⟩ := OwnN.set_ HN.out.1 (x := a) (v := u + 1) (by rw [HNC.out.1]; exact han)
                  have HN2 := Aside0.mk (And.intro s1 (HN.out.2.setCell HGN.out _ : Below w5.heap.size w5 (wr.setCell ⟨gN, a, none⟩ (.int .i64 ((u + 1 : Nat) : Int)))))
                  have HNC2 := Aside0.mk (show (N.set a (u + 1)).length = n ∧ ∀ y, y < n → pa (N.set a (u + 1)) y = cntF (Bt.take (k + 1)) y by
                    refine ⟨by rw [List.length_set]; exact HNC.out.1, fun y hy => ?_⟩
                    rw [pa_set (by rw [HNC.out.1]; exact han), cntF_step hx]
                    by_cases e : y = a
                    · subst e
                      rw [if_pos rfl, if_pos rfl, hu, HNC.out.2 y hy]
                    · rw [if_neg e, if_neg (by omega), HNC.out.2 y hy]; rfl)
                  have E1 := Aside0.mk (show ((u + 1 : Nat) : Int) = (u : Int) + 1 by omega)
                  rw [← hu] at f1
                  clear hx hu s1 s2 c1
                  rw [E1.out] at HN2
                  go_upto_region 21 with (fail)
                  obtain ⟨w6, hw6, HN6⟩ := ex_world (p := fun W => OwnN W w5.heap.size (.slice (some ⟨gN, 0, none⟩) n n) (N.set a (u + 1)) ∧ Below w5.heap.size w5 W) HN2.out
                  rw [hw6]
                  clear hw6 f1 f2 c0
                  go_wp2_with fail
                  go_roundg (Bt.length - (k + 1))
                  case rel => exact ⟨k + 1, _, by omega, rfl, by go_num, HN6, HNC2⟩
                  case measure => omega
                · obtain rfl : k = Bt.length := by omega
                  have HLC := Aside0.mk (newLows_calls n wr hn)
                  have HNC3 := Aside0.mk (by have := HNC.out; rw [List.take_length] at this; exact this)
                  go_wp2_with fail
                  refine HLC.out.mono ?_
                  rintro e w7 ⟨s, b, g, rfl, hs1, hs2, hlw, hb1, hg1, hb7⟩
                  obtain ⟨S, hS⟩ : ∃ S, S = 2 ^ s := ⟨_, rfl⟩
                  rw [← hS] at hs1 hs2 hlw
                  have hS1 : 1 ≤ S := by rw [hS]; exact Nat.two_pow_pos s
                  have HS := Aside0.mk hS
                  have hnsz := HN.out.2.size
                  have hrq : RQ w5 gN n b g S N (List.replicate (2 * S) 0) w7 :=
                    ⟨own_below HN.out.1 hb7, ⟨hlw.box, own_less hlw.own hnsz⟩, by have := (own_blk_lt HN.out.1 (b := gN) rfl).choose_spec.2.1; omega, ⟨HGN.out, by omega, by omega⟩, HN.out.2.trans (hb7.mono hnsz)⟩
                  have HRQ := Aside0.mk hrq
                  clear hS hlw hb1 hg1 hb7 hrq hnsz
                  go_wp2_with fail
                  go_loopg [17] n (fun gg i wq => ∃ (k : Nat) (c : List Nat) (p : Nat → Nat), k ≤ n ∧ gg = n - k ∧ i = .int .i64 k ∧ Aside0 (RQ w5 gN n b g S N c wq) ∧ Aside0 (Tr S c p ∧ ∀ y, (p y = 1 ∧ y < k ∧ lo E n y = y ∧ pa N y = 0) ∨ (p y = 0 ∧ ¬(y < k ∧ lo E n y = y ∧ pa N y = 0))))
                  case atStart => exact ⟨0, _, _, Nat.zero_le _, rfl, rfl, HRQ, ⟨Tr.start S, fun y => .inr ⟨rfl, fun h => by omega⟩⟩⟩
                  case round =>
                    clear HRQ HN HNC
                    obtain ⟨i, c, p, hi, rfl, rfl, HRQ, HT⟩ := hrel
                    by_cases hlt : i < n
                    · have HB57 := Aside0.mk HRQ.out.B
                      obtain ⟨f1, -, -⟩ := OwnN.at_ (own_below (own_below HP4.out HB45.out) HRQ.out.B) (x := i) (by rw [HPL.out.1]; exact hlt)
                      obtain ⟨f2, -, -⟩ := OwnN.at_ HRQ.out.nd (x := i) (by rw [HNC3.out.1]; exact hlt)
                      obtain ⟨l, hl⟩ : ∃ l, l = pa P i := ⟨_, rfl⟩
                      obtain ⟨u, hu⟩ : ∃ u, u = pa N i := ⟨_, rfl⟩
                      rw [← hl] at f1
                      rw [← hu] at f2
                      have HLL := Aside0.mk (show l = lo E n i by rw [hl, HPL.out.2 i hlt])
                      have HUU := Aside0.mk hu
                      clear hl hu
                      by_cases hl0 : l = i
                      · have hlb : ((l : Int) == (i : Int)) = true := beq_iff_eq.2 (by omega)
                        by_cases hu0 : u = 0
                        · have hub : ((u : Int) == 0) = true := beq_iff_eq.2 (by omega)
                          have hp0 : p i = 0 := by
                            rcases HT.out.2 i with h | h
                            · omega
                            · exact h.1
                          have HPC := Aside0.mk (put_calls w5.heap.size b g S i 1 1 c p wr HRQ.out.lw HT.out.1 (by omega) hs2 (by rw [hp0]; rfl) (fun y => by
                            split
                            · omega
                            · rcases HT.out.2 y with h | h <;> omega) ⟨by omega, by omega⟩)
                          have HPR := Aside0.mk (show ∀ y, ((if y = i then 1 else p y) = 1 ∧ y < i + 1 ∧ lo E n y = y ∧ pa N y = 0) ∨ ((if y = i then 1 else p y) = 0 ∧ ¬(y < i + 1 ∧ lo E n y = y ∧ pa N y = 0)) from fun y => by
                            by_cases e : y = i
                            · subst e
                              exact .inl ⟨by rw [if_pos rfl], by omega, by rw [← HLL.out]; exact hl0, by rw [← HUU.out]; exact hu0⟩
                            · rw [if_neg e]
                              rcases HT.out.2 y with h | h
                              · exact .inl ⟨h.1, by omega, h.2.2⟩
                              · exact .inr ⟨h.1, fun h' => h.2 ⟨by omega, h'.2⟩⟩)
                          clear hl0 hu0 hp0
                          go_wp2_with fail
                          refine HPC.out.mono ?_
                          rintro e w8 ⟨rfl, c8, hlw8, htr8, hg8⟩
                          have HRQ8 := Aside0.mk (HRQ.out.put hlw8 hg8)
                          have HT8 := Aside0.mk (And.intro htr8 HPR.out)
                          clear hlw8 htr8 hg8 f1 f2
                          go_wp2_with fail
                          go_roundg (n - (i + 1))
                          case rel => exact ⟨i + 1, c8, _, by omega, rfl, by go_num, HRQ8, HT8⟩
                          case measure => omega
                        · have hub : ((u : Int) == 0) = false := beq_eq_false_iff_ne.2 (by omega)
                          have HT8 := Aside0.mk (show Tr S c p ∧ ∀ y, (p y = 1 ∧ y < i + 1 ∧ lo E n y = y ∧ pa N y = 0) ∨ (p y = 0 ∧ ¬(y < i + 1 ∧ lo E n y = y ∧ pa N y = 0)) from ⟨HT.out.1, fun y => by
                            rcases HT.out.2 y with h | h
                            · exact .inl ⟨h.1, by omega, h.2.2⟩
                            · refine .inr ⟨h.1, fun h' => ?_⟩
                              by_cases e : y = i
                              · subst e; exact hu0 (by rw [HUU.out]; exact h'.2.2)
                              · exact h.2 ⟨by omega, h'.2⟩⟩)
                          clear hl0 hu0
                          go_wp2_with fail
                          go_roundg (n - (i + 1))
                          case rel => exact ⟨i + 1, c, p, by omega, rfl, by go_num, HRQ, HT8⟩
                          case measure => omega
                      · have hlb : ((l : Int) == (i : Int)) = false := beq_eq_false_iff_ne.2 (by omega)
                        have HT8 := Aside0.mk (show Tr S c p ∧ ∀ y, (p y = 1 ∧ y < i + 1 ∧ lo E n y = y ∧ pa N y = 0) ∨ (p y = 0 ∧ ¬(y < i + 1 ∧ lo E n y = y ∧ pa N y = 0)) from ⟨HT.out.1, fun y => by
                          rcases HT.out.2 y with h | h
                          · exact .inl ⟨h.1, by omega, h.2.2⟩
                          · refine .inr ⟨h.1, fun h' => ?_⟩
                            by_cases e : y = i
                            · subst e; exact hl0 (by rw [HLL.out]; exact h'.2.1)
                            · exact h.2 ⟨by omega, h'.2⟩⟩)
                        clear hl0
                        go_wp2_with fail
                        go_roundg (n - (i + 1))
                        case rel => exact ⟨i + 1, c, p, by omega, rfl, by go_num, HRQ, HT8⟩
                        case measure => omega
                    · obtain rfl : n = i := by omega
                      have HKM := Aside0.mk (show Km n (Hd E n) Bt [] N p from Km.start HNC3.out.1 HNC3.out.2 (fun y => by
                        rcases HT.out.2 y with h | h
                        · exact .inl ⟨h.1, ⟨h.2.1, h.2.2.1⟩, h.2.2.2⟩
                        · exact .inr ⟨h.1, fun h' => h.2 ⟨h'.1.1, h'.1.2, h'.2⟩⟩))
                      have HTR := Aside0.mk HT.out.1
                      clear HT
                      have HLE := Aside0.mk (fun (W : World) c p (h : LW W w5.heap.size b g S c) (ht : Tr S c p) => least_calls w5.heap.size b g s S c p W HS.out h ht hs2 hS1)
                      go_wp2_with fail
                      refine (HLE.out _ _ _ HRQ.out.lw HTR.out).mono ?_
                      rintro e w8 ⟨r, rfl, hlow, rfl⟩
                      have HLOW := Aside0.mk hlow
                      clear hlow
                      go_wp2_with fail
                      go_loopg [18, 19] n (fun gg v18 v19 wq => ∃ (r : Int) (Ao : Option Addr) (co : Nat) (vs : List Value) (N c D : List Nat) (p : Nat → Nat), v19 = .int .i64 r ∧ v18 = .slice Ao D.length co ∧ gg = n - D.length ∧
                        Aside0 (RQ w5 gN n b g S N c wq) ∧ Aside0 (wq.ownsRow w5.heap.size 33 1 (.slice Ao D.length co) D.length vs) ∧ Aside0 (Tr S c p ∧ Lowest S p r) ∧ Aside0 (Km n (Hd E n) Bt D N p) ∧ Aside0 (∀ (j x : Nat), D[j]? = some x → vs[j]? = vals[x]?))
                      case atStart => exact ⟨r, none, 0, [], N, c, [], p, rfl, rfl, by simp, HRQ, ⟨World.ownsRow_nil _ _ _ _⟩, ⟨HTR.out, HLOW.out⟩, HKM, ⟨fun j x h => by simp at h⟩⟩
                      case round =>
                        clear HRQ HTR HLOW HKM HNC3
                        obtain ⟨r, Ao, co, vs, N, c, D, p, rfl, rfl, rfl, HRQ, HV, HTL, HKM, HVF⟩ := hrel
                        have htl := HTL.out.2
                        rcases htl with ⟨rfl, hz⟩ | ⟨x, rfl, hxS, hpx, hmin⟩
                        · have hfull := HKM.out.full HUB.out hs1 hz
                          have hfull2 : Full (Hd E n) (Nb E n) D := hfull.congr (fun x => Iff.rfl) (fun x y => by unfold NE Nb; rw [← HBT.out])
                          have hrows := member_rows (E := E) (n := n) (HM4.out.below (HB45.out.trans (HRQ.out.B.mono HB45.out.size))) (by have := HM0.out; rw [HLF.out] at this; exact this) (Nat.le_refl _) (own_less HV.out (Nat.le_trans HB24.out.size HB45.out.size)) HVF.out hfull2.1.nodup hfull2.1.mem
                          have HROWSF := Aside0.mk (hrows.less HB2.out.size)
                          have HFULL := Aside0.mk hfull2
                          clear hz hfull hfull2 hrows
                          go_wp2_with fail
                          go_ret2
                          exact ⟨(HB2.out.trans (HB24.out.mono HB2.out.size)).trans ((HB45.out.trans (HRQ.out.B.mono HB45.out.size)).mono (Nat.le_trans HB2.out.size HB24.out.size)), .inr ⟨HOK.out, n, _, vs, D, rfl, hn, rfl, HROWSF.out, HFULL.out⟩⟩
                        · have hxT := ((HKM.out.rdy HUB.out x).2 hpx).1
                          have hxn : x < n := hxT.1
                          have hkj := HKM.out.take HUB.out hpx hmin
                          have hDl : D.length + 1 ≤ n := by
                            have := hkj.ln.length_le (fun y hy => hy.1)
                            simpa using this
                          have hp1 : p x = 1 := by have := HKM.out.rd.le x; omega
                          have HPC := Aside0.mk (put_calls w5.heap.size b g S x 0 (-1) c p wr HRQ.out.lw HTL.out.1 hxS hs2 (by rw [hp1]; rfl) (fun y => by
                            split
                            · omega
                            · exact HKM.out.rd.le y) ⟨by omega, by omega⟩)
                          have HKJ := Aside0.mk hkj
                          clear hpx hmin hp1 hkj hxT
                          have hxge : decide ((0 : Int) ≤ (x : Int)) = true := decide_eq_true (by omega)
                          go_wp2_with fail
                          refine HPC.out.mono ?_
                          rintro e w9 ⟨rfl, c9, hlw9, htr9, hg9⟩
                          have HRQ9 := Aside0.mk (HRQ.out.put hlw9 hg9)
                          have HT9 := Aside0.mk htr9
                          have HV9 := Aside0.mk (HRQ.out.row HV.out hg9 (.inr rfl))
                          have HB9 := Aside0.mk HRQ9.out.B
                          clear hlw9 htr9 hg9
                          obtain ⟨xv, hxv, r1, -, hin, -, -⟩ := (HM4.out.below (HB45.out.trans (HB9.out.mono HB45.out.size))).get (i := x) (by rw [HM0.out.1]; exact hxn)
                          obtain ⟨Ax, cx, he⟩ := own_slice hin
                          subst he
                          obtain ⟨lx, hlx⟩ : ∃ lx, lx = (nb M x).length := ⟨_, rfl⟩
                          rw [← hlx] at r1 hxv
                          have hvl : vs.length = D.length := by have := HV.out.1; omega
                          have HVL := Aside0.mk hvl
                          have HVF2 := Aside0.mk (show ∀ (j y : Nat), (D ++ [x])[j]? = some y → (vs ++ [.slice Ax lx cx])[j]? = vals[y]? from fun j y hy => by
                            rcases Nat.lt_or_ge j D.length with hj | hj
                            · rw [List.getElem?_append_left hj] at hy
                              rw [List.getElem?_append_left (by omega)]
                              exact HVF.out j y hy
                            · have hj2 : j = D.length := by
                                have := (List.getElem?_eq_some_iff.1 hy).1
                                simp at this; omega
                              subst hj2
                              rw [List.getElem?_append_right (Nat.le_refl _), Nat.sub_self] at hy
                              simp only [List.getElem?_cons_zero, Option.some.injEq] at hy
                              subst hy
                              rw [List.getElem?_append_right (by omega), hvl, Nat.sub_self, hxv]
                              rfl)
                          clear hxv hin hlx hvl
                          go_wp2_with (at_builtin; refine print_append (w0 := w5) (W := w9) w5.heap.size rfl (.tmp 135) (.tmp 140) 45 33 (.slice none 0 0) 24 rfl Try.underlying45 info33 rfl (by decide) (.slice Ao D.length co) vs (.slice Ax lx cx) rfl rfl rfl ?aO ?aB ?aS ?aL ?_; (case aO => rw [HVL.out]; exact HV9.out); (case aB => exact HB9.out); (case aS => exact HB9.out.size); (case aL => rw [HVL.out]; omega); intro v2 w10 ho hb hg hat; have hrq10 := RQ.grown (e := 0) (size := 0) HRQ9.out HV9.out hg; obtain ⟨A6, c6, he⟩ := own_slice ho; subst he; have hl2 : (vs ++ [Value.slice Ax lx cx]).length = D.length + 1 := (by rw [List.length_append, HVL.out]; rfl); rw [hl2] at ho; rw [hl2]; have HV10 := Aside0.mk ho; have HRQ10 := Aside0.mk hrq10; clear hb hg hat ho hl2 hrq10)
                          have HDL := Aside0.mk hDl
                          have hkl := HUL.out.2 x
                          clear r1 hDl hxge
                          go_loopg [20] (nb Us x).length (fun gg i wq => ∃ (k : Nat) (N c : List Nat) (p : Nat → Nat), k ≤ (nb Us x).length ∧ gg = (nb Us x).length - k ∧ i = .int .i64 k ∧
                            Aside0 (RQ w5 gN n b g S N c wq) ∧ Aside0 (wq.ownsRow w5.heap.size 33 1 (.slice A6 (D.length + 1) c6) (D.length + 1) (vs ++ [.slice Ax lx cx])) ∧ Aside0 (Tr S c p) ∧ Aside0 (Kj n (Hd E n) Bt Us D N p x k))
                          case atStart => exact ⟨0, _, _, _, Nat.zero_le _, rfl, rfl, HRQ10, HV10, HT9, HKJ⟩
                          case round =>
                            clear HRQ10 HV10 HT9 HKJ HRQ9 HV9 HB9 HRQ HV HTL HKM HPC
                            obtain ⟨k, N, c, p, hk, rfl, rfl, HRQ, HV, HT, HKJ⟩ := hrel
                            obtain ⟨yv, hyv, r2, -, hin, -, -⟩ := (HU5.out.below HRQ.out.B).get (i := x) (by rw [HUL.out.1]; exact hxn)
                            obtain ⟨Ay, cy, he⟩ := own_slice hin
                            subst he
                            by_cases hlt : k < (nb Us x).length
                            · obtain ⟨gy, rfl, g2, -⟩ := row_cell hin hlt
                              obtain ⟨y, hy⟩ : ∃ y, y = (nb Us x)[k] := ⟨_, rfl⟩
                              rw [← hy] at g2
                              have hy2 : (nb Us x)[k]? = some y := by rw [hy, List.getElem?_eq_getElem hlt]
                              obtain ⟨hyT, hyn, -, c0, hc0⟩ := HKJ.out.at_ HUB.out hy2
                              obtain ⟨f1, f2, -⟩ := OwnN.at_ HRQ.out.nd (x := y) (by rw [HKJ.out.len]; exact hyn)
                              rw [hc0, show ((c0 + 1 : Nat) : Int) = (c0 : Int) + 1 from by omega] at f1
                              have hcb : c0 ≤ 100000000000000 := by
                                have h1 := HKJ.out.nd y hyn
                                have h2 := mlack_le Bt (D ++ [x]) y
                                have h3 : ((nb Us x).drop k).count y ≤ (nb Us x).length := Nat.le_trans List.count_le_length (by rw [List.length_drop]; omega)
                                omega
                              obtain ⟨s1, s2⟩ := HRQ.out.set hyn c0
                              have HRQ2 := Aside0.mk s1
                              have HV2 := Aside0.mk (HRQ.out.row HV.out s2 (.inl rfl))
                              have HTOLD := Aside0.mk (HKJ.out.told HUB.out hy2 hc0)
                              have HYT := Aside0.mk (show y < S by omega)
                              obtain ⟨f3, -, -⟩ := OwnN.at_ s1.nd (x := y) (by rw [List.length_set, HKJ.out.len]; exact hyn)
                              rw [pa_set (by rw [HKJ.out.len]; exact hyn), if_pos rfl] at f3
                              clear hin hyv hy hy2 hyT hc0 s1 s2
                              go_upto_region 40 with (fail)
                              obtain ⟨w11, hw11, HX⟩ := ex_world (p := fun W => RQ w5 gN n b g S (N.set y c0) c W ∧ W.ownsRow w5.heap.size 33 1 (.slice A6 (D.length + 1) c6) (D.length + 1) (vs ++ [.slice Ax lx cx]) ∧ W.cell? ⟨gN, y, none⟩ = some (.int .i64 (c0 : Int))) (W := wr.setCell ⟨gN, y, none⟩ (.int .i64 (c0 : Int))) ⟨HRQ2.out, HV2.out, f3⟩
                              rw [hw11]
                              clear hw11 f1 f2 f3 HRQ2 HV2
                              have f1 := HX.out.2.2
                              have HRQ2 := Aside0.mk HX.out.1
                              have HV2 := Aside0.mk HX.out.2.1
                              clear HX r2 g2
                              by_cases hc : c0 = 0
                              · have hcb2 : ((c0 : Int) == 0) = true := beq_iff_eq.2 (by omega)
                                obtain ⟨hp0, hkj2⟩ := HTOLD.out.2 hc
                                have HPC := Aside0.mk (put_calls w5.heap.size b g S y 1 1 c p w11 HRQ2.out.lw HT.out HYT.out hs2 (by rw [hp0]; rfl) (fun z => by
                                  split
                                  · omega
                                  · exact HKJ.out.rd.le z) ⟨by omega, by omega⟩)
                                have HKJ2 := Aside0.mk hkj2
                                clear hp0 hkj2 hc
                                go_wp2_with fail
                                refine HPC.out.mono ?_
                                rintro e w12 ⟨rfl, c12, hlw12, htr12, hg12⟩
                                have HRQ12 := Aside0.mk (HRQ2.out.put hlw12 hg12)
                                have HT12 := Aside0.mk htr12
                                have HV12 := Aside0.mk (HRQ2.out.row HV2.out hg12 (.inr rfl))
                                clear hlw12 htr12 hg12 f1
                                go_wp2_with fail
                                go_roundg ((nb Us x).length - (k + 1))
                                case rel => exact ⟨k + 1, _, c12, _, by omega, rfl, by go_num, HRQ12, HV12, HT12, HKJ2⟩
                                case measure => omega
                              · have hcb2 : ((c0 : Int) == 0) = false := beq_eq_false_iff_ne.2 (by omega)
                                have HKJ2 := Aside0.mk (HTOLD.out.1 hc)
                                clear hc
                                go_wp2_with fail
                                go_roundg ((nb Us x).length - (k + 1))
                                case rel => exact ⟨k + 1, _, c, p, by omega, rfl, by go_num, HRQ2, HV2, HT, HKJ2⟩
                                case measure => omega
                            · obtain rfl : k = (nb Us x).length := by omega
                              have HKM2 := Aside0.mk HKJ.out.fin
                              clear hin hyv
                              go_wp2_with fail
                              clear r2
                              refine (HLE.out _ _ _ HRQ.out.lw HT.out).mono ?_
                              rintro e w13 ⟨r3, rfl, hlow, rfl⟩
                              have HTL3 := Aside0.mk (And.intro HT.out hlow)
                              clear hlow
                              go_wp2_with fail
                              go_roundg (n - (D.length + 1))
                              case rel => exact ⟨r3, A6, c6, _, N, c, D ++ [x], p, rfl, by simp, by simp, HRQ, by simpa using HV, HTL3, HKM2, HVF2⟩
                              case measure => have := HDL.out; omega
    · exact absurd HALL.out hb
  · have HOK := Aside0.mk hok
    clear hok
    go_enter Try.func29, Try.ntmps29
    go_wp2_with fail
    refine HBC.out.mono ?_
    rintro e w1 ⟨rfl, ⟨hb, -⟩ | ⟨-, rfl⟩⟩
    · exact absurd hb HOK.out
    · go_wp2_with fail
      go_ret2
      exact ⟨Below.refl _ _, .inl ⟨HOK.out, rfl⟩⟩

end Go.Proofs.Ytdddbjaggfaofaa.Mem
