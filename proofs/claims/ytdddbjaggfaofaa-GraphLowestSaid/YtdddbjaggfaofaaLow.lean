/- GraphLowest: without the document: the lowest that may stand, stands. -/
import Derived.Test.YtdddbjaggfaofaaPl
import Derived.Test.YtdddbjaggfaofaaGood
import Derived.BigQuiet
namespace Go.Proofs.Ytdddbjaggfaofaa.Mem
open Go.RowKit Go.Proofs.Ytdddbjaggfaofaa.GM Go.Proofs.YtdddbjaggfaofaaW.PrintWords
set_option linter.unusedVariables false

theorem order_cases {w w' : World} {n : Int} {E : List (Int × Int)} {e : Ending} (h : OrderPost w n E e w') :
    (∃ v k, k ≠ 0 ∧ e = .returned (.tuple #[.slice none 0 0, v, .int .i64 k])) ∨
    (AllOk n E ∧ ∃ (m : Nat) (D : List Nat) (A : Option Addr) (c : Nat), n = (m : Int) ∧ Full (fun x => x < m) (NE E) D ∧ D.length = m ∧ e = .returned (.tuple #[.slice A m c, .slice none 0 0, .int .i64 0]) ∧ OwnN w' w.heap.size (.slice A m c) D) := by
  rcases h.2 with ⟨_, rfl⟩ | ⟨hall, m, D, hm, hf, ⟨hl, A, c, rfl, ho⟩ | ⟨_, A, c, C, rfl, _⟩⟩
  · exact .inl ⟨_, 1, by omega, rfl⟩
  · exact .inr ⟨hall, m, D, A, c, hm, hf, hl, rfl, ho⟩
  · exact .inl ⟨_, 73, by omega, rfl⟩

theorem ne3 {x y : Nat} : NE [((0 : Int), (2 : Int))] x y ↔ x = 0 ∧ y = 2 := by
  unfold NE
  rw [List.mem_singleton, Prod.mk.injEq]
  omega
theorem full3 : Full (fun x => x < 3) (NE [((0 : Int), (2 : Int))]) [1, 2, 0] := by
  have h0 : ¬ Rdy (fun x => x < 3) (NE [((0 : Int), (2 : Int))]) [] 0 := fun h => by have := h.2.2 2 (ne3.2 ⟨rfl, rfl⟩); cases this
  have h1 : ¬ Rdy (fun x => x < 3) (NE [((0 : Int), (2 : Int))]) [1] 0 := fun h => by have := h.2.2 2 (ne3.2 ⟨rfl, rfl⟩); simp at this
  have a1 : Ln (fun x => x < 3) (NE [((0 : Int), (2 : Int))]) ([] ++ [1]) := .snoc .nil ⟨⟨by decide, by simp, fun y hy => by have := ne3.1 hy; omega⟩, fun y hy => by
    rcases Nat.eq_zero_or_pos y with e | e
    · subst e; exact absurd hy h0
    · exact e⟩
  have a2 : Ln (fun x => x < 3) (NE [((0 : Int), (2 : Int))]) ([1] ++ [2]) := .snoc a1 ⟨⟨by decide, by simp, fun y hy => by have := ne3.1 hy; omega⟩, fun y hy => by
    match y, hy with
    | 0, hy => exact absurd hy h1
    | 1, hy => exact absurd (List.mem_singleton.2 rfl) hy.2.1
    | y + 2, _ => omega⟩
  have a3 : Ln (fun x => x < 3) (NE [((0 : Int), (2 : Int))]) ([1, 2] ++ [0]) := .snoc a2 ⟨⟨by decide, by simp, fun y hy => by have := ne3.1 hy; rw [this.2]; simp⟩, fun y hy => Nat.zero_le _⟩
  refine ⟨a3, fun x hx => ?_⟩
  have h3 := hx.1
  apply hx.2.1
  match x, h3 with
  | 0, _ => simp
  | 1, _ => simp
  | 2, _ => simp
  | x + 3, h3 => exact absurd h3 (by simp)

theorem order3 {w w' : World} {e : Ending} (h : OrderPost w 3 [((0 : Int), (2 : Int))] e w') : ∃ (A : Option Addr) (c : Nat), e = .returned (.tuple #[.slice A 3 c, .slice none 0 0, .int .i64 0]) ∧ OwnN w' w.heap.size (.slice A 3 c) [1, 2, 0] := by
  have hall : AllOk 3 [((0 : Int), (2 : Int))] := ⟨by omega, by omega, fun x hx => by rw [List.mem_singleton.1 hx]; unfold EOk; decide⟩
  rcases h.2 with ⟨hno, _⟩ | ⟨_, m, D, hm, hf, h2⟩
  · exact absurd hall hno
  · obtain rfl : m = 3 := by omega
    obtain rfl := hf.unique full3
    rcases h2 with ⟨_, A, c, rfl, ho⟩ | ⟨hl, _⟩
    · exact ⟨A, c, rfl, ho⟩
    · exact absurd rfl hl

theorem box2 {W : World} {gb : Nat} {u v : Value} (h : W.heap[gb]? = some (.cells #[u, v] 52 (0, 0))) : W.cell? ⟨gb, 0, none⟩ = some u ∧ W.cell? ⟨gb, 1, none⟩ = some v := by
  constructor <;> simp [World.cell?, h]

theorem mem_take_add {α : Type} {l : List α} {k : Nat} {x y : α} (hx : l[k]? = some x) : y ∈ l.take (k + 1) ↔ y ∈ l.take k ∨ y = x := by
  rw [List.take_add_one, hx, List.mem_append]
  simp

theorem ord_at {m : Nat} {E : List (Int × Int)} {D : List Nat} (hf : Full (fun x => x < m) (NE E) D) (hl : D.length = m) {x : Nat} (hx : x < m) : ∃ i, i < m ∧ D[i]? = some x := by
  obtain ⟨i, hi, e⟩ := List.mem_iff_getElem.1 (perm_mem hf.1.nodup hf.1.mem hl x hx)
  exact ⟨i, by omega, by rw [List.getElem?_eq_getElem hi, e]⟩
/-- What is needed stands ahead. -/
theorem ord_edge {m : Nat} {E : List (Int × Int)} {D N : List Nat} (hf : Full (fun x => x < m) (NE E) D) (hl : D.length = m) (hp : Pos D N) {x y : Nat} (hx : x < m) (he : ((x : Int), (y : Int)) ∈ E) : pa N y < pa N x ∧ pa N x < m := by
  obtain ⟨i, hi, hxi⟩ := ord_at hf hl hx
  have h1 := hf.1.next (k := i) (by omega)
  rw [List.getElem?_eq_getElem (by omega)] at hxi
  have h2 := h1.1.2.2 y (by rw [Option.some.inj hxi]; exact he)
  obtain ⟨j, hj, e⟩ := List.mem_iff_getElem.1 h2
  rw [List.length_take] at hj
  rw [List.getElem_take] at e
  rw [hp i x (by rw [List.getElem?_eq_getElem (by omega)]; exact hxi), hp j y (by rw [List.getElem?_eq_getElem (by omega), e])]
  omega
/-- One that is lower than the one ahead of it needs that one. -/
theorem ord_next {m : Nat} {E : List (Int × Int)} {D : List Nat} (hf : Full (fun x => x < m) (NE E) D) {i u v : Nat} (hu : D[i]? = some u) (hv : D[i + 1]? = some v) (hlt : v < u) : ((v : Int), (u : Int)) ∈ E := by
  obtain ⟨hi, eu⟩ := List.getElem?_eq_some_iff.1 hu
  obtain ⟨hi1, ev⟩ := List.getElem?_eq_some_iff.1 hv
  have h1 := hf.1.next hi
  have h2 := hf.1.next hi1
  rw [eu] at h1
  rw [ev] at h2
  refine Classical.byContradiction fun hno => ?_
  have hr : Rdy (fun x => x < m) (NE E) (D.take i) v := ⟨h2.1.1, fun hm => h2.1.2.1 ((mem_take_succ hu).2 (.inl hm)), fun y hy => by
    rcases (mem_take_succ hu).1 (h2.1.2.2 y hy) with h3 | h3
    · exact h3
    · exact absurd (h3 ▸ hy) hno⟩
  have := h1.2 v hr
  omega

set_option maxHeartbeats 4000000 in
set_option maxRecDepth 100000 in
theorem graphLowest_walk (n : Int) (E : List (Int × Int)) (A : Option Addr) (c : Nat) (w : World) (hr : kE.C w A E.length E) (hnil : A = none → c = 0) (hE : E.length ≤ 8796093022200) :
    Calls Try.prog 11 #[.int .i64 n, .slice A E.length c] w fun e w' => e = .returned (.bool true) ∧ Below w.heap.size w w' := by
  have HR := Aside0.mk hr
  have HOC := Aside0.mk (order_calls n E A c w hr (by omega))
  clear hr
  go_enter Try.func11, Try.ntmps11
  go_wp2_with fail
  refine HOC.out.mono ?_
  intro e w1 hp
  have HP := Aside0.mk hp
  have HC := Aside0.mk (order_cases hp)
  have HB1 := Aside0.mk hp.1
  obtain ⟨v, u, k, rfl⟩ := order_shape hp
  clear hp HOC
  have hlit : OwnE (w1.alloc (.cells #[.int .i64 0, .int .i64 2] 52)) w1.heap.size (.slice (some ⟨w1.heap.size, 0, none⟩) 1 1) [((0 : Int), (2 : Int))] :=
    World.ownsRow_lit (base := w1.heap.size) (e := 52) (size := 2) w1 #[.int .i64 0, .int .i64 2] 1 (Nat.le_refl _) (by decide) rfl
  have HO3 := Aside0.mk (order_calls 3 [((0 : Int), (2 : Int))] (some ⟨w1.heap.size, 0, none⟩) 1 _ (OwnE.reads hlit (by simp)) (by simp))
  have HB1A := Aside0.mk (HB1.out.alloc HB1.out.size (.cells #[.int .i64 0, .int .i64 2] 52))
  clear hlit
  go_wp2_with fail
  refine HO3.out.mono ?_
  intro e w2 hp
  obtain ⟨A3, c3, rfl, ho3⟩ := order3 hp
  have HB2 := Aside0.mk (HB1A.out.trans (hp.1.mono HB1A.out.size))
  have HB12 := Aside0.mk (((Below.refl w1.heap.size w1).alloc (Nat.le_refl _) (.cells #[.int .i64 0, .int .i64 2] 52)).trans (hp.1.mono (by simp)))
  have hlit : OwnN (w2.alloc (.cells #[.int .i64 1, .int .i64 2, .int .i64 0] 3)) w2.heap.size (.slice (some ⟨w2.heap.size, 0, none⟩) 3 3) [1, 2, 0] :=
    World.ownsRow_lit (base := w2.heap.size) (e := 3) (size := 1) w2 #[.int .i64 1, .int .i64 2, .int .i64 0] 3 (Nat.le_refl _) (by decide) rfl
  have HSC := Aside0.mk (sameInts_calls [1, 2, 0] [1, 2, 0] A3 (some ⟨w2.heap.size, 0, none⟩) 3 3 c3 3 (w2.alloc (.cells #[.int .i64 1, .int .i64 2, .int .i64 0] 3)) (RN.of_own (own_alloc ho3 _)) (RN.of_own hlit))
  have HB2A := Aside0.mk (HB2.out.alloc HB2.out.size (.cells #[.int .i64 1, .int .i64 2, .int .i64 0] 3))
  have HB12A := Aside0.mk (HB12.out.alloc HB12.out.size (.cells #[.int .i64 1, .int .i64 2, .int .i64 0] 3))
  clear hp ho3 hlit HO3
  go_wp2_with fail
  refine HSC.out.mono ?_
  rintro e w3 ⟨rfl, q, rfl⟩
  have hs : sameB [1, 2, 0] [1, 2, 0] = true := by simp [sameB]
  rw [hs]
  obtain ⟨W3, hW3, HB3⟩ := ex_world (p := fun W => Below w.heap.size w W ∧ Below w1.heap.size w1 W) (W := (w2.alloc (.cells #[.int .i64 1, .int .i64 2, .int .i64 0] 3)).drewN q) ⟨pw_below_drewN HB2A.out _, pw_below_drewN HB12A.out _⟩
  rw [hW3]
  clear hs hW3 HSC
  rcases HC.out with ⟨v', k', hk, he⟩ | ⟨hall, m, D, A4, c4, hm, hf, hl, he, ho⟩
  · have he2 : v = .slice none 0 0 ∧ u = v' ∧ k = k' := by simpa using he
    obtain ⟨rfl, rfl, rfl⟩ := he2
    have hk1 : (k != 0) = true := by simpa [bne_iff_ne] using hk
    clear hk he
    go_wp2_with fail
    go_ret
    exact ⟨rfl, HB3.out.1⟩
  · have he2 : v = .slice A4 m c4 ∧ u = .slice none 0 0 ∧ k = 0 := by simpa using he
    obtain ⟨rfl, rfl, rfl⟩ := he2
    subst hm
    have hm : m ≤ 131072 := by have := hall.2.1; omega
    have HRC := Aside0.mk (right_good m E A c W3 (Kd.C_below HR.out HB3.out.1) (by omega) hall)
    have HOK := Aside0.mk hall.2.2
    have HF := Aside0.mk (And.intro hf hl)
    have HD := Aside0.mk (own_below ho HB3.out.2)
    have hmk := run_make_row' (P := Try.prog) 33 3 (.int .i64 0) 8 Try.underlying33 info3 rfl .i64 .i64 m (by omega) (by omega)
    clear he hall hf hl ho HC HP
    go_wp2_with fail
    refine HRC.out.mono ?_
    rintro e w4 ⟨rfl, hb4⟩
    have HD4 := Aside0.mk (own_below HD.out hb4)
    have HB4 := Aside0.mk (HB3.out.1.trans (hb4.mono HB3.out.1.size))
    have HPC := Aside0.mk (places_calls m D A4 c4 w4 (RN.of_own HD4.out) hm HF.out.1.1.nodup HF.out.1.1.mem)
    clear hb4 HRC HD HB3
    go_wp2_with fail
    refine HPC.out.mono ?_
    rintro e w5 ⟨N, rfl, hN, hNl, hpos, hb5⟩
    have HB5 := Aside0.mk (HB4.out.trans (hb5.mono HB4.out.size))
    have HD5 := Aside0.mk (own_below HD4.out hb5)
    have HN := Aside0.mk hN
    have HP := Aside0.mk (And.intro hNl hpos)
    have HZ := Aside0.mk (OwnN.made w5 w5.heap.size m (Nat.le_refl _) hm)
    clear hN hNl hpos hb5 HPC HD4
    go_wp2_with fail
    clear hmk
    obtain ⟨gF, hgF⟩ : ∃ gF, gF = w5.heap.size := ⟨_, rfl⟩
    obtain ⟨W6, hW6, HW⟩ := ex_world (p := fun W => OwnN W w5.heap.size (.slice (some ⟨gF, 0, none⟩) m m) (List.replicate m 0) ∧ Below w5.heap.size w5 W) (W := w5.alloc (Obj.cells (madeCells #[Value.int IntKind.i64 0] m) 3)) ⟨by rw [hgF]; exact HZ.out, (Below.refl _ _).alloc (Nat.le_refl _) _⟩
    rw [hW6, ← hgF]
    have HGF := Aside0.mk hgF
    clear hW6 hgF HZ
    go_loopg [66] E.length (fun g i wq => ∃ (k : Nat) (F : List Nat), k ≤ E.length ∧ g = E.length - k ∧ i = .int .i64 k ∧ Aside0 (OwnN wq w5.heap.size (.slice (some ⟨gF, 0, none⟩) m m) F ∧ Below w5.heap.size w5 wq) ∧ Aside0 (F.length = m ∧ ∀ x y : Nat, ((x : Int), (y : Int)) ∈ E.take k → pa N y + 1 ≤ pa F x))
    case atStart => exact ⟨0, _, Nat.zero_le _, rfl, rfl, HW, ⟨by simp, fun x y hx => by simp at hx⟩⟩
    case round =>
      clear HW
      obtain ⟨k, F, hk, rfl, rfl, HW, HF2⟩ := hrel
      by_cases hlt : k < E.length
      · have HBA := Aside0.mk (HB5.out.trans (HW.out.2.mono HB5.out.size))
        obtain ⟨ad, x, rfl, hx, c0, c1⟩ := edge_at HR.out k hlt
        replace c0 := (HBA.out.cell (World.block_lt_of_cell? w _ c0)).trans c0
        replace c1 := (HBA.out.cell (World.block_lt_of_cell? w _ c1)).trans c1
        obtain ⟨x1, x2⟩ := x
        obtain ⟨o1, o2, o3, o4⟩ := HOK.out _ (List.mem_of_getElem? hx)
        simp only at o1 o2 o3 o4
        obtain ⟨a, rfl⟩ := Int.eq_ofNat_of_zero_le o1
        obtain ⟨b, rfl⟩ := Int.eq_ofNat_of_zero_le o3
        have hae := ord_edge HF.out.1 HF.out.2 HP.out.2 (x := a) (y := b) (by omega) (List.mem_of_getElem? hx)
        have HX := Aside0.mk hx
        clear hx
        go_upto_region 14 with (fail)
        obtain ⟨gb, hgb⟩ : ∃ gb, gb = wr.heap.size := ⟨_, rfl⟩
        obtain ⟨W7, hW7, HW7⟩ := ex_world (p := fun W => OwnN W w5.heap.size (.slice (some ⟨gF, 0, none⟩) m m) F ∧ Below w5.heap.size w5 W ∧ W.heap[gb]? = some (.cells #[.int .i64 (a : Int), .int .i64 (b : Int)] 52 (0, 0)))
          (W := wr.alloc (.cells #[.int .i64 (a : Int), .int .i64 (b : Int)] 52)) ⟨own_alloc HW.out.1 _, HW.out.2.alloc HW.out.2.size _, new_at _ _ hgb⟩
        rw [hW7, ← hgb]
        clear hW7 hgb c0 c1
        obtain ⟨b0, b1⟩ := box2 (W := W7) HW7.out.2.2
        obtain ⟨na, hna⟩ : ∃ na, na = pa N a := ⟨_, rfl⟩
        obtain ⟨nb', hnb⟩ : ∃ nb', nb' = pa N b := ⟨_, rfl⟩
        obtain ⟨g1, -, -⟩ := OwnN.at_ (own_below HN.out HW7.out.2.1) (x := a) (by rw [HP.out.1]; omega)
        obtain ⟨g2, -, -⟩ := OwnN.at_ (own_below HN.out HW7.out.2.1) (x := b) (by rw [HP.out.1]; omega)
        rw [← hna] at g1 hae
        rw [← hnb] at g2 hae
        have HNN := Aside0.mk (And.intro hna hnb)
        have hge : decide (na ≤ nb') = false := decide_eq_false (by omega)
        clear hna hnb
        go_quiet (fail)
        go_upto_region 16 with (fail)
        clear b0 b1 g1 g2
        obtain ⟨W8, hW8, HW8⟩ := ex_world (p := fun W => OwnN W w5.heap.size (.slice (some ⟨gF, 0, none⟩) m m) F ∧ Below w5.heap.size w5 W ∧ W.heap[gb]? = some (.cells #[.int .i64 (a : Int), .int .i64 (b : Int)] 52 (0, 0)))
          (W := W7.drewN nq) ⟨own_below HW7.out.1 (pw_below_drewN (Below.refl _ _) _), pw_below_drewN HW7.out.2.1 _, HW7.out.2.2⟩
        rw [hW8]
        clear hW8
        obtain ⟨b0, b1⟩ := box2 (W := W8.drew) HW8.out.2.2
        obtain ⟨g2, -, -⟩ := OwnN.at_ (own_below HN.out HW8.out.2.1.drew) (x := b) (by rw [HP.out.1]; omega)
        rw [← HNN.out.2] at g2
        obtain ⟨f1, f2, -⟩ := OwnN.at_ (own_below HW8.out.1 (Below.refl _ W8).drew) (x := a) (by rw [HF2.out.1]; omega)
        obtain ⟨fa, hfa⟩ : ∃ fa, fa = pa F a := ⟨_, rfl⟩
        rw [← hfa] at f1
        have HFA := Aside0.mk hfa
        have HSET := Aside0.mk (show OwnN (W8.setCell ⟨gF, a, none⟩ (.int .i64 (max (fa : Int) ((nb' : Int) + 1)))).drew w5.heap.size (.slice (some ⟨gF, 0, none⟩) m m) (F.set a (max fa (nb' + 1))) ∧ Below w5.heap.size w5 (W8.setCell ⟨gF, a, none⟩ (.int .i64 (max (fa : Int) ((nb' : Int) + 1)))).drew from by
          have h1 := (OwnN.set_ HW8.out.1 (x := a) (v := max fa (nb' + 1)) (by rw [HF2.out.1]; omega)).1
          rw [show ((max fa (nb' + 1) : Nat) : Int) = max (fa : Int) ((nb' : Int) + 1) from by omega] at h1
          exact ⟨own_below h1 (Below.refl _ _).drew, (HW8.out.2.1.setCell (p := ⟨gF, a, none⟩) (by rw [HGF.out]; exact Nat.le_refl _) _).drew⟩)
        have HF3 := Aside0.mk (show (F.set a (max fa (nb' + 1))).length = m ∧ ∀ x y : Nat, ((x : Int), (y : Int)) ∈ E.take (k + 1) → pa N y + 1 ≤ pa (F.set a (max fa (nb' + 1))) x from by
          refine ⟨by rw [List.length_set]; exact HF2.out.1, fun x y hxy => ?_⟩
          rw [pa_set (by rw [HF2.out.1]; omega)]
          rcases (mem_take_add HX.out).1 hxy with h1 | h1
          · have h2 := HF2.out.2 x y h1
            split
            · rename_i e
              subst e
              rw [← hfa] at h2
              omega
            · exact h2
          · rw [Prod.mk.injEq] at h1
            have e1 : x = a := by omega
            have e2 : y = b := by omega
            subst e1 e2
            rw [if_pos rfl, ← HNN.out.2]
            omega)
        clear hfa hge
        go_region
        all_goals go_wp2_with fail
        go_roundg (E.length - (k + 1))
        case rel => exact ⟨k + 1, _, by omega, rfl, by go_num, HSET, HF3⟩
        case measure => omega
      · obtain rfl : k = E.length := by omega
        have HF3 := Aside0.mk (show F.length = m ∧ ∀ x y : Nat, ((x : Int), (y : Int)) ∈ E → pa N y + 1 ≤ pa F x from ⟨HF2.out.1, fun x y h => HF2.out.2 x y (by rw [List.take_length]; exact h)⟩)
        clear HF2 hlt hk
        go_wp2_with fail
        go_loopg [16] m (fun g v16 wq => ∃ i : Nat, i ≤ m ∧ g = m - i ∧ v16 = .int .i64 i ∧ Aside0 (OwnN wq w5.heap.size (.slice (some ⟨gF, 0, none⟩) m m) F ∧ Below w5.heap.size w5 wq))
        case atStart => exact ⟨0, Nat.zero_le _, rfl, rfl, HW⟩
        case round =>
          clear HW
          obtain ⟨i, hi, rfl, rfl, HW⟩ := hrel
          by_cases hlt : i + 1 < m
          · have hd1 : i < D.length := by rw [HF.out.2]; omega
            have hd2 : i + 1 < D.length := by rw [HF.out.2]; omega
            obtain ⟨gD, rfl, d1, -⟩ := row_cell (own_below HD5.out HW.out.2) hd1
            obtain ⟨gD2, he, d2, -⟩ := row_cell (own_below HD5.out HW.out.2) hd2
            cases he
            obtain ⟨u, hu⟩ : ∃ u, u = D[i] := ⟨_, rfl⟩
            obtain ⟨v, hv⟩ : ∃ v, v = D[i + 1] := ⟨_, rfl⟩
            rw [← hu] at d1
            rw [← hv] at d2
            have hui : D[i]? = some u := by rw [hu, List.getElem?_eq_getElem hd1]
            have hvi : D[i + 1]? = some v := by rw [hv, List.getElem?_eq_getElem hd2]
            have hvm : v < m := HF.out.1.1.mem v (List.mem_of_getElem? hvi)
            obtain ⟨f1, -, -⟩ := OwnN.at_ HW.out.1 (x := v) (by rw [HF3.out.1]; omega)
            obtain ⟨fv, hfv⟩ : ∃ fv, fv = pa F v := ⟨_, rfl⟩
            rw [← hfv] at f1
            have i1 : (i : Int) + 1 < (m : Int) := by omega
            by_cases hvu : v < u
            · have h1 := HF3.out.2 v u (ord_next HF.out.1 hui hvi hvu)
              rw [HP.out.2 i u hui, ← hfv] at h1
              have hc1 : decide (v < u) = true := decide_eq_true hvu
              have hc2 : decide (fv ≤ i) = false := decide_eq_false (by omega)
              clear hu hv hui hvi hfv hvu h1
              go_wp2_with fail
              go_quiet (fail)
              go_wp2_with fail
              go_roundg (m - (i + 1))
              case rel => exact ⟨i + 1, by omega, rfl, by go_num, ⟨own_below HW.out.1 (pw_below_drewN (Below.refl _ _) _), pw_below_drewN HW.out.2 _⟩⟩
              case measure => omega
            · have hc1 : decide (v < u) = false := decide_eq_false hvu
              clear hu hv hui hvi hfv hvu
              go_wp2_with fail
              go_quiet (fail)
              go_wp2_with fail
              go_roundg (m - (i + 1))
              case rel => exact ⟨i + 1, by omega, rfl, by go_num, ⟨own_below HW.out.1 (pw_below_drewN (Below.refl _ _) _), pw_below_drewN HW.out.2 _⟩⟩
              case measure => omega
          · have i1 : ¬ (i : Int) + 1 < (m : Int) := by omega
            go_wp2_with fail
            go_ret
            exact ⟨rfl, HB5.out.trans (HW.out.2.mono HB5.out.size)⟩

end Go.Proofs.Ytdddbjaggfaofaa.Mem
