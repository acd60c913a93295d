/- graphs.first and the closure nearest of graphs.around, by their contracts. -/
import Derived.Test.YtdddbjaggfaofaaGQ
import Derived.Test.YtdddbjaggfaofaaGood
import Derived.Test.YtdddbjaggfaofaaClsC
import Derived.Outline
import Derived.BigQuiet
import Derived.WalkLawsBesides
namespace Go.Proofs.Ytdddbjaggfaofaa.Mem
open Go.RowKit Go.Proofs.Ytdddbjaggfaofaa.GM Go.Proofs.YtdddbjaggfaofaaW.PrintWords Go.Proofs.YtdddbjaggfaofaaW.PrintMore
attribute [local go_sem] max2_int min2_int max_two min_two
set_option linter.unusedVariables false

/-- Numbers as whole ones. -/
def ints (l : List Nat) : List Int := l.map (fun n : Nat => (n : Int))
theorem ints_len (l : List Nat) : (ints l).length = l.length := List.length_map ..
theorem foldl_min_le : ∀ (l : List Int) (a : Int), (∀ x ∈ l, a ≤ x) → l.foldl min a = a
  | [], a, _ => rfl
  | b :: l, a, h => by
    rw [List.foldl_cons, show min a b = a from by have := h b List.mem_cons_self; omega]
    exact foldl_min_le l a (fun x hx => h x (List.mem_cons_of_mem _ hx))
theorem minOf_rising {l : List Nat} (h : Rising l) (h0 : 0 < l.length) : Lib.minOf (ints l) = (pa l 0 : Nat) := by
  cases l with
  | nil => simp at h0
  | cons a l =>
    unfold Lib.minOf ints
    rw [List.map_cons, List.headD_cons, List.foldl_cons, show min (a : Int) (a : Int) = (a : Int) from by omega]
    rw [foldl_min_le]
    · rfl
    · intro x hx
      obtain ⟨y, hy, rfl⟩ := List.mem_map.1 hx
      have := (List.pairwise_cons.1 h).1 y hy
      omega
theorem ints_cells {w : World} {base g n c : Nat} {l : List Nat} (h : OwnN w base (.slice (some ⟨g, 0, none⟩) n c) l) : ∀ j, j < (ints l).length → w.cell? ⟨g, 0 + j, none⟩ = some (.int .i64 ((ints l).getD j 0)) := by
  intro j hj
  rw [ints_len] at hj
  obtain ⟨_, e, h1, -⟩ := row_cell h hj
  cases e
  rw [Nat.zero_add, h1]
  unfold ints
  rw [List.getD_eq_getElem?_getD, List.getElem?_map, List.getElem?_eq_getElem hj]
  rfl

theorem min_calls (base g c : Nat) (l : List Nat) (w : World) (h : OwnN w base (.slice (some ⟨g, 0, none⟩) l.length c) l) (hr : Rising l) (h0 : 0 < l.length) (hl : l.length ≤ 131072) :
    Calls Try.prog 73 #[.slice (some ⟨g, 0, none⟩) l.length c] w fun e w' => e = .returned (.int .i64 (pa l 0 : Nat)) ∧ w' = w := by
  have := Try.slices_Min_int g 0 l.length c (ints l) w h0 (by rw [ints_len]; exact Nat.le_refl _) (by omega) (ints_cells h)
  rw [List.take_of_length_le (by rw [ints_len]; exact Nat.le_refl _), minOf_rising hr h0] at this
  exact this

theorem contains_calls (base c x : Nat) (A : Option Addr) (l : List Nat) (w : World) (h : OwnN w base (.slice A l.length c) l) (hl : l.length ≤ 8796093022208) :
    Calls Try.prog 74 #[.slice A l.length c, .int .i64 x] w fun e w' => e = .returned (.bool (decide (x ∈ l))) ∧ w' = w := by
  rcases Nat.eq_zero_or_pos l.length with h0 | h0
  · have hn : l = [] := List.eq_nil_of_length_eq_zero h0
    subst hn
    exact Try.slices_Contains_int_empty A c x w
  · obtain ⟨g, rfl, -, -⟩ := row_cell h h0
    have := Try.slices_Contains_int g 0 l.length c (ints l) x w (by rw [ints_len]; exact Nat.le_refl _) (by omega) (ints_cells h)
    rw [List.take_of_length_le (by rw [ints_len]; exact Nat.le_refl _)] at this
    have e : (ints l).contains (x : Int) = decide (x ∈ l) := by
      unfold ints
      rw [Bool.eq_iff_iff, List.contains_iff_mem, List.mem_map, decide_eq_true_eq]
      constructor
      · rintro ⟨y, hy, e⟩
        obtain rfl : y = x := by omega
        exact hy
      · exact fun hx => ⟨x, hx, rfl⟩
    rw [e] at this
    exact this

/-- The lowest so far. -/
structure LoF (E : List (Int × Int)) (n : Nat) (out : List (List Nat)) (i lo : Nat) : Prop where
  le : lo ≤ n
  is : lo = n ∨ (lo < n ∧ OnC E lo)
  all : ∀ j C, j < i → out[j]? = some C → OnC E (pa C 0) → lo ≤ pa C 0

theorem LoF.fin {E : List (Int × Int)} {n lo : Nat} {R : List (List Nat)} {out : List (List Nat)} (h : LoF E n out out.length lo) (hs : Sccs R n out) (hin : RowsIn n E false R) (hE : ∀ x y : Nat, NE E x y → y < n) (hex : ∃ x, FirstC E n x) : FirstC E n lo := by
  obtain ⟨x, hx⟩ := hex
  have key : ∀ z, z < n → OnC E z → lo ≤ z := by
    intro z hz hc
    obtain ⟨C, hC, hzC⟩ := hs.all z hz
    have hp := sccs_part hs hin C hC z hzC
    obtain ⟨j, hj, rfl⟩ := List.mem_iff_getElem.1 hC
    have hh := rising_head (hs.scc _ hC).2.1 hzC
    have hhn := hs.lt _ hC _ hh.1
    have hoc : OnC E (pa out[j] 0) := by
      rw [onc_iff hE hhn, ← sccs_part hs hin _ hC _ hh.1]
      rw [onc_iff hE hz, ← hp] at hc
      rcases hc with c | c
      · exact .inl c
      · by_cases c2 : 1 < out[j].length
        · exact .inl c2
        · right
          have : pa out[j] 0 = z := by
            have h0 := (scc_ne hs hC).1
            obtain ⟨i, hi, e⟩ := List.mem_iff_getElem.1 hzC
            have : i = 0 := by omega
            subst this
            rw [pa_get h0, e]
          rw [this]; exact c
    have := h.all j _ hj (List.getElem?_eq_getElem hj) hoc
    omega
  rcases h.is with e | ⟨h1, h2⟩
  · have := key x hx.1 hx.2.1
    have := hx.1
    omega
  · exact ⟨h1, h2, key⟩

set_option maxHeartbeats 4000000 in
set_option maxRecDepth 100000 in
theorem first_calls (n gr cr b0 : Nat) (E : List (Int × Int)) (vals : List Value) (R : List (List Nat)) (w : World) (hrows : OwnRows w b0 (.slice (some ⟨gr, 0, none⟩) n cr) vals R) (hin : RowsIn n E false R) (hris : ∀ a, Rising (nb R a))
    (hn : n ≤ 131072) (hE : ∀ e ∈ E, EOk n e) (hex : ∃ x, FirstC E n x) :
    Calls Try.prog 57 #[.slice (some ⟨gr, 0, none⟩) n cr] w fun e w' => ∃ x : Nat, e = .returned (.int .i64 x) ∧ FirstC E n x ∧ Below w.heap.size w w' := by
  have hRn : ∀ x y, y ∈ nb R x → y < n := fun x y hy => by
    have h2 := (hE _ ((hin.2 x y).1 hy)).2.2.2
    simp only at h2
    omega
  have hNE : ∀ x y : Nat, NE E x y → y < n := fun x y hy => by
    have h2 := (hE _ hy).2.2.2
    simp only at h2
    omega
  have HPC := Aside0.mk (parts_calls w b0 gr n cr vals R hrows hin.1 hRn (fun x => rising_length (hris x) (hRn x)) hn)
  have HROWS := Aside0.mk hrows
  have HIN := Aside0.mk (And.intro hin hRn)
  have HRI := Aside0.mk hris
  have HNE := Aside0.mk (And.intro hNE hex)
  clear hrows hin hris hRn hNE hex
  go_enter Try.func57, Try.ntmps57
  go_wp2_with fail
  refine HPC.out.mono ?_
  rintro e w3 ⟨hb3, vO, os, out, rfl, hO, hS⟩
  obtain ⟨A3, c3, rfl⟩ := own_slice hO.outer
  have HB3 := Aside0.mk hb3
  have HO := Aside0.mk hO
  have HS := Aside0.mk hS
  have hol := hS.len
  clear hb3 hO hS
  go_wp2_with fail
  go_loopg [3, 12] out.length (fun g v3 v12 wr => ∃ (i lo : Nat), v3 = .int .i64 lo ∧ v12 = .int .i64 i ∧ i ≤ out.length ∧ g = out.length - i ∧ lo ≤ n ∧ Aside0 (∃ q, wr = w3.drewN q) ∧ Aside0 (LoF E n out i lo))
  case atStart => exact ⟨0, n, rfl, rfl, Nat.zero_le _, rfl, Nat.le_refl _, ⟨0, rfl⟩, ⟨Nat.le_refl _, .inl rfl, fun j C hj => by omega⟩⟩
  case round =>
    obtain ⟨i, lo, rfl, rfl, hi, rfl, hlo, HQ, HL⟩ := hrel
    obtain ⟨q, hq⟩ := HQ.out
    have HW := Aside0.mk (show OwnRows wr w.heap.size (.slice A3 out.length c3) os out ∧ Below w.heap.size w wr by rw [hq]; exact ⟨⟨HO.out.outer, HO.out.inner, HO.out.apart⟩, pw_below_drewN HB3.out _⟩)
    clear hq
    by_cases hlt : i < out.length
    · obtain ⟨gO, xv, rfl, hxv, o1, hown, -⟩ := HW.out.1.row hlt
      obtain ⟨C, hCe⟩ : ∃ C, C = out[i] := ⟨_, rfl⟩
      have hC : out[i]? = some C := by rw [hCe, List.getElem?_eq_getElem hlt]
      have hnb : nb out i = C := by unfold nb; rw [List.getD_eq_getElem?_getD, hC]; rfl
      rw [hnb] at hown
      have hCm := List.mem_of_getElem? hC
      obtain ⟨hC0, hCh⟩ := scc_ne HS.out hCm
      have hCr := (HS.out.scc C hCm).2.1
      have hCl : C.length ≤ n := rising_length hCr (HS.out.lt C hCm)
      obtain ⟨Ax, cx, he⟩ := own_slice hown
      subst he
      obtain ⟨gx, rfl, -, -⟩ := row_cell hown hC0
      have HMC := Aside0.mk (min_calls w.heap.size gx cx C wr hown hCr hC0 (by omega))
      obtain ⟨hz0, hh⟩ : ∃ hz0, hz0 = pa C 0 := ⟨_, rfl⟩
      rw [← hh] at HMC hCh
      have hhn := HS.out.lt C hCm hz0 hCh
      obtain ⟨xr, hxr, r1, -, hinr, -, -⟩ := (HROWS.out.below HW.out.2).get (i := hz0) (by rw [HIN.out.1.1]; exact hhn)
      obtain ⟨Ar, cr2, he⟩ := own_slice hinr
      subst he
      have hrl := rising_length (HRI.out hz0) (HIN.out.2 hz0)
      have HCC := Aside0.mk (contains_calls b0 cr2 hz0 Ar (nb R hz0) wr hinr (by omega))
      obtain ⟨lr, hlr⟩ : ∃ lr, lr = (nb R hz0).length := ⟨_, rfl⟩
      rw [← hlr] at r1 HCC
      have hoc : OnC E hz0 ↔ 1 < C.length ∨ hz0 ∈ nb R hz0 := by
        rw [onc_iff HNE.out.1 hhn, ← sccs_part HS.out HIN.out.1 C hCm hz0 hCh]
        exact or_congr Iff.rfl (HIN.out.1.2 hz0 hz0).symm
      have HSTEP := Aside0.mk (show (OnC E hz0 → LoF E n out (i + 1) (min lo hz0)) ∧ (¬ OnC E hz0 → LoF E n out (i + 1) lo) from ⟨fun hc => ⟨by omega, by
          rcases Nat.le_total lo hz0 with k | k
          · rw [Nat.min_eq_left k]; exact HL.out.is
          · rw [Nat.min_eq_right k]; exact .inr ⟨hhn, hc⟩, fun j D hj hD hcD => by
          by_cases e : j = i
          · subst e
            rw [hC] at hD
            cases hD
            rw [← hh]
            omega
          · have := HL.out.all j D (by omega) hD hcD
            omega⟩, fun hc => ⟨HL.out.le, HL.out.is, fun j D hj hD hcD => by
          by_cases e : j = i
          · subst e
            rw [hC] at hD
            cases hD
            rw [← hh] at hcD
            exact absurd hcD hc
          · exact HL.out.all j D (by omega) hD hcD⟩⟩)
      have hmin : ((min lo hz0 : Nat) : Int) = min (lo : Int) (hz0 : Int) := by omega
      have HMIN := Aside0.mk hmin
      have HOC := Aside0.mk hoc
      clear hxv hown hCe hC hnb hCm hCh hCr hh hxr hinr hlr hoc hmin
      by_cases h1 : 1 < C.length
      · have h1' : (1 : Int) < (C.length : Int) := by omega
        have HLN := Aside0.mk (HSTEP.out.1 (HOC.out.2 (.inl h1)))
        go_wp2_with fail
        refine HMC.out.mono ?_
        rintro e w4 ⟨rfl, rfl⟩
        go_wp2_with fail
        all_goals
          go_roundg (out.length - (i + 1))
          case rel => exact ⟨i + 1, min lo hz0, by have := HMIN.out; first | (congr 1; omega) | (congr 2; omega), by go_num, by omega, rfl, by omega, HQ, HLN⟩
          case measure => omega
      · have h1' : ¬ (1 : Int) < (C.length : Int) := by omega
        go_wp2_with fail
        refine HMC.out.mono ?_
        rintro e w4 ⟨rfl, rfl⟩
        go_wp2_with fail
        refine HCC.out.mono ?_
        rintro e w5 ⟨rfl, rfl⟩
        by_cases hm : hz0 ∈ nb R hz0
        · rw [decide_eq_true hm]
          have HLN := Aside0.mk (HSTEP.out.1 (HOC.out.2 (.inr hm)))
          clear hm
          go_wp2_with fail
          all_goals
            go_roundg (out.length - (i + 1))
            case rel => exact ⟨i + 1, min lo hz0, by have := HMIN.out; first | (congr 1; omega) | (congr 2; omega), by go_num, by omega, rfl, by omega, HQ, HLN⟩
            case measure => omega
        · rw [decide_eq_false hm]
          have HLN := Aside0.mk (HSTEP.out.2 (fun hc => by
            rcases HOC.out.1 hc with k | k
            · exact h1 k
            · exact hm k))
          clear hm
          go_wp2_with fail
          go_roundg (out.length - (i + 1))
          case rel => exact ⟨i + 1, lo, rfl, by go_num, by omega, rfl, hlo, HQ, HLN⟩
          case measure => omega
    · obtain rfl : i = out.length := by omega
      have HF := Aside0.mk (HL.out.fin HS.out HIN.out.1 HNE.out.1 HNE.out.2)
      go_wp2_with fail
      go_ret
      exact ⟨lo, rfl, HF.out, HW.out.2⟩

end Go.Proofs.Ytdddbjaggfaofaa.Mem
