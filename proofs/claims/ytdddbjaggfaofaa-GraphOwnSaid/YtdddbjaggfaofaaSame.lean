/- SameInts, lent, kept, by their contracts. -/
import Derived.Test.YtdddbjaggfaofaaRefD
import Derived.ChangeKeysEq
namespace Go.Proofs.Ytdddbjaggfaofaa.Mem
open Go.RowKit Go.Proofs.Ytdddbjaggfaofaa.GM Go.Proofs.YtdddbjaggfaofaaW.PrintWords
set_option linter.unusedVariables false

/-- A slice that reads as numbers. -/
def RN (w : World) (A : Option Addr) (n : Nat) (xs : List Nat) : Prop := n = xs.length ∧ n ≤ 9223372036854775807 ∧ ∀ k (h : k < xs.length), ∃ ad, A = some ad ∧ w.cell? (ad.add k) = some (.int .i64 (xs[k] : Nat))

theorem RN.of_own {w : World} {base : Nat} {A : Option Addr} {n c : Nat} {xs : List Nat} (h : OwnN w base (.slice A n c) xs) : RN w A n xs := by
  refine ⟨row_at h, ?_, fun k hk => ?_⟩
  · rcases h.2 with ⟨h1, h2⟩ | ⟨g, cap, cur, hv, hb, hh, hn, hc, -⟩
    · cases h1; omega
    · cases hv; unfold maxLen at hc; omega
  · obtain ⟨g, rfl, hc, -⟩ := row_cell h hk
    exact ⟨_, rfl, by rw [add_plain]; simpa using hc⟩

theorem RN.below {w w1 : World} {A : Option Addr} {n : Nat} {xs : List Nat} (h : RN w A n xs) (hb : Below w.heap.size w w1) : RN w1 A n xs :=
  ⟨h.1, h.2.1, fun k hk => by
    obtain ⟨ad, e, hc⟩ := h.2.2 k hk
    exact ⟨ad, e, (hb.cell (World.block_lt_of_cell? w _ hc)).trans hc⟩⟩

def sameB (xs ys : List Nat) : Bool := decide (xs = ys)

set_option maxHeartbeats 2000000 in
set_option maxRecDepth 100000 in
theorem sameInts_calls (xs ys : List Nat) (A B : Option Addr) (n m c d : Nat) (w : World) (hx : RN w A n xs) (hy : RN w B m ys) :
    Calls Try.prog 24 #[.slice A n c, .slice B m d] w fun e w' => e = .returned (.bool (sameB xs ys)) ∧ ∃ q, w' = w.drewN q := by
  obtain ⟨rfl, hx1, hx2⟩ := hx
  obtain ⟨rfl, hy1, hy2⟩ := hy
  by_cases hl : xs.length = ys.length
  · have HL := Aside0.mk hl
    have HX := Aside0.mk hx2
    have HY := Aside0.mk hy2
    have hd : ((xs.length : Int) != (ys.length : Int)) = false := by rw [hl]; simp
    clear hl hx2 hy2
    go_enter Try.func24, Try.ntmps24
    go_wp2_with fail
    go_loopg [5, 13] xs.length (fun g v5 i wr => ∃ k : Nat, k ≤ xs.length ∧ g = xs.length - k ∧ i = .int .i64 k ∧ (∃ q, wr = w.drewN q) ∧ Aside0 (xs.take k = ys.take k))
    case atStart => exact ⟨0, Nat.zero_le _, rfl, rfl, ⟨0, rfl⟩, ⟨by simp⟩⟩
    case round =>
      obtain ⟨k, hk, rfl, rfl, ⟨q, rfl⟩, HT⟩ := hrel
      by_cases hlt : k < xs.length
      · obtain ⟨ad, rfl, c1⟩ := HX.out k hlt
        have hlt2 : k < ys.length := by have := HL.out; omega
        obtain ⟨bd, rfl, c2⟩ := HY.out k hlt2
        obtain ⟨x, hx⟩ : ∃ x, x = xs[k] := ⟨_, rfl⟩
        obtain ⟨y, hy⟩ : ∃ y, y = ys[k] := ⟨_, rfl⟩
        rw [← hx] at c1
        rw [← hy] at c2
        have HXK := Aside0.mk hx
        have HYK := Aside0.mk hy
        clear hx hy
        have i1 : (k : Int) < (xs.length : Int) := by omega
        have i2 : (k : Int) < (ys.length : Int) := by omega
        have i0 : (0 : Int) ≤ (k : Int) := by omega
        by_cases hxy : x = y
        · have hd2 : ((x : Int) != (y : Int)) = false := by rw [hxy]; simp
          have HXY := Aside0.mk hxy
          clear hxy
          go_wp2_with fail
          go_quiet (fail)
          go_wp2_with fail
          go_roundg (xs.length - (k + 1))
          case rel => exact ⟨k + 1, by omega, rfl, by go_num, ⟨_, rfl⟩, ⟨by rw [List.take_succ_eq_append_getElem hlt, List.take_succ_eq_append_getElem hlt2, HT.out, ← HXK.out, ← HYK.out, HXY.out]⟩⟩
          case measure => omega
        · have hd2 : ((x : Int) != (y : Int)) = true := by simpa [bne_iff_ne, Int.natCast_inj] using hxy
          have HF := Aside0.mk (show sameB xs ys = false by
            unfold sameB
            rw [decide_eq_false_iff_not]
            intro e
            apply hxy
            rw [HXK.out, HYK.out]
            subst e
            rfl)
          clear hxy
          go_wp2_with fail
          go_quiet (fail)
          go_wp2_with fail
          go_ret
          exact ⟨by rw [HF.out]; rfl, _, World.drewN_drewN _ _ _⟩
      · obtain rfl : k = xs.length := by omega
        have HF := Aside0.mk (show sameB xs ys = true by
          unfold sameB
          rw [decide_eq_true_eq]
          have := HT.out
          rw [List.take_length, HL.out, List.take_length] at this
          exact this)
        go_wp2_with fail
        go_ret
        exact ⟨by rw [HF.out]; rfl, _, rfl⟩
  · have hd : ((xs.length : Int) != (ys.length : Int)) = true := by simpa [bne_iff_ne, Int.natCast_inj] using hl
    have HF := Aside0.mk (show sameB xs ys = false by
      unfold sameB
      rw [decide_eq_false_iff_not]
      intro e
      exact hl (by rw [e]))
    clear hl
    go_enter Try.func24, Try.ntmps24
    go_wp2_with fail
    go_ret
    exact ⟨by rw [HF.out]; rfl, 0, rfl⟩

theorem info52 : (Try.prog.info? 52).map (fun i => (i.zero, i.size, i.bytes)) = some (some (.agg #[.int .i64 0, .int .i64 0]), 2, 16) := by kernel_rfl

/-- An edge's two cells. -/
def encE (x : Int × Int) : List Value := [.int .i64 x.1, .int .i64 x.2]
def cellsE (E : List (Int × Int)) : List Value := E.flatMap encE

theorem cellsE_length (E : List (Int × Int)) : (cellsE E).length = E.length * 2 := by
  unfold cellsE encE
  induction E with
  | nil => rfl
  | cons x E ih => simp only [List.flatMap_cons, List.length_append, List.length_cons, List.length_nil, ih]; omega
theorem cellsE_append (E F : List (Int × Int)) : cellsE (E ++ F) = cellsE E ++ cellsE F := List.flatMap_append
theorem cellsE_one (E : List (Int × Int)) : ∀ u ∈ cellsE E, u.oneCell' = true := by
  intro u hu
  unfold cellsE encE at hu
  obtain ⟨x, _, hx⟩ := List.mem_flatMap.1 hu
  simp at hx
  rcases hx with rfl | rfl <;> rfl
theorem cellsE_get : ∀ (E : List (Int × Int)) (i : Nat) (x : Int × Int), E[i]? = some x → (cellsE E)[i * 2]? = some (.int .i64 x.1) ∧ (cellsE E)[i * 2 + 1]? = some (.int .i64 x.2)
  | [], i, x, h => by simp at h
  | y :: E, 0, x, h => by
    simp at h
    subst h
    exact ⟨rfl, rfl⟩
  | y :: E, i + 1, x, h => by
    have := cellsE_get E i x (by simpa using h)
    have e : cellsE (y :: E) = encE y ++ cellsE E := List.flatMap_cons
    rw [e]
    constructor
    · rw [List.getElem?_append_right (by simp [encE]; omega)]
      rw [show (i + 1) * 2 - (encE y).length = i * 2 by simp [encE]; omega]
      exact this.1
    · rw [List.getElem?_append_right (by simp [encE]; omega)]
      rw [show (i + 1) * 2 + 1 - (encE y).length = i * 2 + 1 by simp [encE]; omega]
      exact this.2

theorem edges_cells {w : World} {A : Option Addr} {n : Nat} {E : List (Int × Int)} (h : kE.C w A n E) : ∀ ad, A = some ad → ∀ (j : Nat) u, (cellsE E)[j]? = some u → w.cell? (ad.add j) = some u := by
  intro ad hA j u hu
  have hj : j < (cellsE E).length := by
    rcases Nat.lt_or_ge j (cellsE E).length with h | h
    · exact h
    · rw [List.getElem?_eq_none h] at hu; cases hu
  rw [cellsE_length] at hj
  have hi : j / 2 < n := by have := h.1; omega
  obtain ⟨ad', x, e, hx, c0, c1⟩ := edge_at h (j / 2) hi
  rw [hA] at e
  cases e
  obtain ⟨g0, g1⟩ := cellsE_get E (j / 2) x hx
  rcases Nat.mod_two_eq_zero_or_one j with hm | hm
  · have e2 : j = j / 2 * 2 := by omega
    rw [e2] at hu ⊢
    rw [g0] at hu
    cases hu
    exact c0
  · have e2 : j = j / 2 * 2 + 1 := by omega
    have hu2 : (cellsE E)[j / 2 * 2 + 1]? = some u := by rw [← e2]; exact hu
    rw [g1] at hu2
    cases hu2
    rw [e2, add_field _ _ 1 (by omega)]
    exact c1

set_option maxHeartbeats 2000000 in
set_option maxRecDepth 100000 in
theorem lent_calls (E : List (Int × Int)) (A : Option Addr) (c : Nat) (w : World) (hr : kE.C w A E.length E) (hnil : A = none → c = 0) (hE : E.length ≤ 8796093022200) :
    Calls Try.prog 21 #[.slice A E.length c] w fun e w' => e = .returned (.slice (some ⟨w.heap.size, 0, none⟩) E.length (E.length + 2)) ∧ Below w.heap.size w w' ∧
      w'.ownsRow w.heap.size 52 2 (.slice (some ⟨w.heap.size, 0, none⟩) (E.length + 2) (E.length + 2)) (E.length + 2) (cellsE (E ++ [(-7, 7), (7, -7)])) := by
  obtain ⟨i0, hi0, hz0, hz1, hz2⟩ := info_parts info52
  have HZ2 := Aside0.mk hz2
  have HC := Aside0.mk (edges_cells hr)
  have hnil2 : A = none → E.length = 0 ∧ c = 0 := by
    intro h
    refine ⟨?_, hnil h⟩
    rcases Nat.eq_zero_or_pos E.length with h0 | h0
    · exact h0
    · obtain ⟨ad, e, _⟩ := hr.2.2 h0
      rw [h] at e
      cases e
  have HNIL := Aside0.mk hnil2
  clear hnil2
  have HLN := Aside0.mk (cellsE_length E)
  clear hr hnil hz2
  go_enter Try.func21, Try.ntmps21
  go_upto_region 2 with (refine wpList_make_own _ rfl _ _ 31 rfl w.heap.size 52 i0 _ 2 Try.underlying31 hi0 hz0 hz1 .i64 .i64 _ (E.length + 2) rfl rfl (by omega) (by rw [HZ2.out]; omega) (by unfold maxLen; omega) (Nat.le_refl _) ?_; intro w1 ho1 hg1)
  have HO1 := Aside0.mk ho1
  have HB1 := Aside0.mk (show Below w.heap.size w w1 from (Below.refl _ _).grown hg1 (Nat.le_refl _) (fun k hk => by cases hk))
  clear ho1 hg1
  go_upto_region 3 with (refine wpList_append_fits_any _ rfl (.tmp 8) (.tmp 9) 31 rfl w.heap.size 52 i0 2 Try.underlying31 hi0 hz1 w.heap.size 0 (E.length + 2) [] rfl HO1.out A E.length c (cellsE E) rfl HLN.out HNIL.out ?qh (cellsE_one E) (by omega) ?_; (case qh => intro ad hA j u hu; have h0 := HC.out ad hA j u hu; exact (HB1.out.cell (World.block_lt_of_cell? w _ h0)).trans h0); intro w2 ho2 hg2; simp only [Nat.zero_add, List.nil_append] at ho2)
  have HO2 := Aside0.mk ho2
  have HB2 := Aside0.mk (show Below w.heap.size w w2 from HB1.out.grown hg2 HB1.out.size (fun k hk => by cases hk; exact Nat.le_refl _))
  clear ho2 hg2
  go_upto_region 4 with (refine wpList_append_fits_any _ rfl (.tmp 11) (.tmp 14) 31 rfl w.heap.size 52 i0 2 Try.underlying31 hi0 hz1 w.heap.size E.length (E.length + 2) (cellsE E) rfl (HO2.out.alloc _) (some ⟨w2.heap.size, 0, none⟩) 2 2 (cellsE [(-7, 7), (7, -7)]) rfl rfl (fun h => by cases h) ?qh (cellsE_one _) (by omega) ?_; (case qh => intro ad hA; cases hA; exact World.news_of_block (cs := #[.int .i64 (-7), .int .i64 7, .int .i64 7, .int .i64 (-7)]) (t := 52) (fr := (0, 0)) (heap_alloc_new w2 _)); intro w3 ho3 hg3)
  have HO3 := Aside0.mk ho3
  have HB3 := Aside0.mk (show Below w.heap.size w w3 from (HB2.out.alloc HB2.out.size _).grown hg3 (by have := HB2.out.size; simp; omega) (fun k hk => by cases hk; exact Nat.le_refl _))
  clear ho3 hg3
  go_wp2_with fail
  go_ret
  exact ⟨rfl, HB3.out, by rw [cellsE_append]; exact HO3.out⟩

theorem eqA52 (d : Nat) (w : World) (x0 y0 x1 y1 : Int) :
    (Op.equalIn (d + 2) 52 (.agg #[.int .i64 x0, .int .i64 x1]) (.agg #[.int .i64 y0, .int .i64 y1])).run Try.prog w = .ok (x0 == y0 && x1 == y1) w := by
  obtain ⟨i0, hi, hzz⟩ := Option.map_eq_some_iff.1 info3
  simp only [Prod.mk.injEq] at hzz
  rw [show d + 2 = (d + 1) + 1 from rfl, run_equalIn_array (w := w) (d + 1) _ _ Try.underlying52 hi]
  have hc : Try.prog.cellsOf 3 = 1 := by kernel_rfl
  rw [hc]
  simp only [List.range, List.range.loop, Op.eqItems, Sem.run_bind]
  go_simp
  by_cases h0 : x0 = y0 <;> by_cases h1 : x1 = y1 <;> simp [h0, h1]
attribute [local go_sem high] eqA52

/-- The list that was lent, marks behind it, in memory. -/
def Lent (w : World) (g : Nat) (E : List (Int × Int)) : Prop := ∃ base, w.ownsRow base 52 2 (.slice (some ⟨g, 0, none⟩) (E.length + 2) (E.length + 2)) (E.length + 2) (cellsE (E ++ [(-7, 7), (7, -7)]))

theorem lent_cell {w : World} {g : Nat} {E : List (Int × Int)} (h : Lent w g E) {i : Nat} {x : Int × Int} (hx : (E ++ [(-7, 7), (7, -7)])[i]? = some x) :
    w.cell? ⟨g, i * 2, none⟩ = some (.int .i64 x.1) ∧ w.cell? ⟨g, i * 2 + 1, none⟩ = some (.int .i64 x.2) := by
  obtain ⟨base, h⟩ := h
  obtain ⟨h0, h1⟩ := cellsE_get _ i x hx
  have c0 := h.cells (g := g) rfl _ _ h0
  have c1 := h.cells (g := g) rfl _ _ h1
  rw [add_plain] at c0 c1
  exact ⟨by simpa using c0, by simpa using c1⟩

/-- What is lent reads as the edges themselves. -/
theorem lent_reads {w : World} {g : Nat} {E : List (Int × Int)} (h : Lent w g E) (hE : E.length ≤ 8796093022208) : kE.C w (some ⟨g, 0, none⟩) E.length E := by
  refine ⟨rfl, by omega, fun _ => ⟨_, rfl, fun j p hj => ?_⟩⟩
  have hj' : j < E.length := (List.getElem?_eq_some_iff.1 hj).1
  obtain ⟨c0, c1⟩ := lent_cell h (i := j) (x := p) (by rw [List.getElem?_append_left hj']; exact hj)
  refine ⟨[.int .i64 p.1, .int .i64 p.2], rfl, ⟨[.int .i64 p.1], [.int .i64 p.2], rfl, rfl, rfl⟩, fun i u hu => ?_⟩
  rw [add_plain]
  match i, hu with
  | 0, hu => cases hu; exact c0
  | 1, hu => cases hu; exact c1

set_option maxHeartbeats 2000000 in
set_option maxRecDepth 100000 in
theorem kept_calls (E : List (Int × Int)) (A : Option Addr) (c g : Nat) (w : World) (hr : kE.C w A E.length E) (hE : E.length ≤ 8796093022200) (hl : Lent w g E) :
    Calls Try.prog 25 #[.slice (some ⟨g, 0, none⟩) E.length (E.length + 2), .slice A E.length c] w fun e w' => e = .returned (.bool true) ∧ ∃ q, w' = w.drewN q := by
  have hd : ((E.length : Int) != (E.length : Int)) = false := by simp
  have HR := Aside0.mk hr
  have HL := Aside0.mk hl
  clear hr hl
  go_enter Try.func25, Try.ntmps25
  go_wp2_with fail
  go_loopg [5, 14] E.length (fun g' v5 i wr => ∃ k : Nat, k ≤ E.length ∧ g' = E.length - k ∧ i = .int .i64 k ∧ (∃ q, wr = w.drewN q))
  case atStart => exact ⟨0, Nat.zero_le _, rfl, rfl, ⟨0, rfl⟩⟩
  case round =>
    obtain ⟨k, hk, rfl, rfl, ⟨q, rfl⟩⟩ := hrel
    by_cases hlt : k < E.length
    · obtain ⟨ad, x, rfl, hx, c0, c1⟩ := edge_at HR.out k hlt
      obtain ⟨d0, d1⟩ := lent_cell HL.out (i := k) (x := x) (by rw [List.getElem?_append_left hlt]; exact hx)
      obtain ⟨x1, x2⟩ := x
      simp only at c0 c1 d0 d1
      have i1 : (k : Int) < (E.length : Int) := by omega
      have i0 : (0 : Int) ≤ (k : Int) := by omega
      clear hx
      go_wp2_with fail
      go_quiet (fail)
      go_wp2_with fail
      go_roundg (E.length - (k + 1))
      case rel => exact ⟨k + 1, by omega, rfl, by go_num, ⟨_, rfl⟩⟩
      case measure => omega
    · obtain rfl : k = E.length := by omega
      obtain ⟨d0, d1⟩ := lent_cell HL.out (i := E.length) (x := (-7, 7)) (by rw [List.getElem?_append_right (Nat.le_refl _)]; simp)
      obtain ⟨d2, d3⟩ := lent_cell HL.out (i := E.length + 1) (x := (7, -7)) (by rw [List.getElem?_append_right (by omega)]; simp)
      simp only at d0 d1 d2 d3
      go_wp2_with fail
      go_ret
      exact ⟨rfl, _, rfl⟩

end Go.Proofs.Ytdddbjaggfaofaa.Mem
