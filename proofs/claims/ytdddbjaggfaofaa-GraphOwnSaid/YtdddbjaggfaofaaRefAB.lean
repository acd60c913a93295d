/- The document's graphs: Bad and Rows, by their contracts. -/
import Derived.Test.YtdddbjaggfaofaaReachC
import Derived.StillTailTactics
import Derived.Deep.RegionLaw
import Derived.Deep.AppendLies

namespace Go.Proofs.Ytdddbjaggfaofaa.Mem
open Go.RowKit Go.Proofs.Ytdddbjaggfaofaa.GM Go.Proofs.YtdddbjaggfaofaaW.PrintWords
set_option linter.unusedVariables false

def BadPost (w : World) (n : Int) (E : List (Int × Int)) (e : Ending) (w' : World) : Prop := w = w' ∧ ((AllOk n E ∧ e = .returned (.bool false)) ∨ (¬ AllOk n E ∧ e = .returned (.bool true)))

set_option maxHeartbeats 1000000 in
set_option maxRecDepth 100000 in
theorem bad_calls (n : Int) (E : List (Int × Int)) (A : Option Addr) (c : Nat) (w : World) (hr : kE.C w A E.length E) (hE : E.length ≤ 8796093022208) :
    Calls Try.prog 45 #[.int .i64 n, .slice A E.length c] w fun e w' => BadPost w n E e w' := by
  by_cases h0 : n < 0
  · have HF := Aside0.mk (show ¬ AllOk n E by unfold AllOk; omega)
    go_enter Try.func45, Try.ntmps45
    go_wp2_with fail
    go_ret
    exact ⟨rfl, .inr ⟨HF.out, rfl⟩⟩
  by_cases h1 : n > 131072
  · have HF := Aside0.mk (show ¬ AllOk n E by unfold AllOk; omega)
    go_enter Try.func45, Try.ntmps45
    go_wp2_with fail
    go_ret
    exact ⟨rfl, .inr ⟨HF.out, rfl⟩⟩
  obtain ⟨n, rfl⟩ := Int.eq_ofNat_of_zero_le (show 0 ≤ n by omega)
  have HR := Aside0.mk hr
  clear hr
  go_enter Try.func45, Try.ntmps45
  go_wp2_with fail
  go_loopg [5] E.length (fun g i wr => ∃ k : Nat, k ≤ E.length ∧ g = E.length - k ∧ i = .int .i64 k ∧ wr = w ∧ Aside0 (∀ x ∈ E.take k, EOk n x))
  case atStart => exact ⟨0, Nat.zero_le _, rfl, rfl, rfl, ⟨by simp⟩⟩
  case round =>
    obtain ⟨k, hk, rfl, rfl, rfl, HO⟩ := hrel
    by_cases hlt : k < E.length
    · obtain ⟨ad, x, rfl, hx, c0, c1⟩ := edge_at HR.out k hlt
      obtain ⟨x1, x2⟩ := x
      have HX := Aside0.mk hx
      clear hx
      by_cases hok : EOk n (x1, x2)
      · have HOK := Aside0.mk hok
        obtain ⟨o1, o2, o3, o4⟩ := hok
        simp only at o1 o2 o3 o4
        go_wp2_with fail
        go_roundg (E.length - (k + 1))
        case rel =>
          refine ⟨k + 1, by omega, rfl, by go_num, rfl, ⟨?_⟩⟩
          rw [List.take_add_one, HX.out]
          intro x hx
          rcases List.mem_append.1 hx with hx | hx
          · exact HO.out x hx
          · simp at hx
            subst hx
            exact HOK.out
        case measure => omega
      · have hbad : x1 < 0 ∨ (0 ≤ x1 ∧ (n : Int) ≤ x1) ∨ (0 ≤ x1 ∧ x1 < n ∧ x2 < 0) ∨ (0 ≤ x1 ∧ x1 < n ∧ 0 ≤ x2 ∧ (n : Int) ≤ x2) := by
          unfold EOk at hok
          simp only at hok
          omega
        have HF := Aside0.mk (show ¬ AllOk n E from fun h' => hok (h'.2.2 _ (List.mem_of_getElem? HX.out)))
        clear hok
        rcases hbad with b1 | ⟨b1, b2⟩ | ⟨b1, b2, b3⟩ | ⟨b1, b2, b3, b4⟩
        all_goals
          go_wp2_with fail
          go_ret
          exact ⟨rfl, .inr ⟨HF.out, rfl⟩⟩
    · obtain rfl : k = E.length := by omega
      have HF := Aside0.mk (show AllOk n E by
        have := HO.out
        rw [List.take_length] at this
        exact ⟨by omega, by omega, this⟩)
      go_wp2_with fail
      go_ret
      exact ⟨rfl, .inl ⟨HF.out, rfl⟩⟩

end Go.Proofs.Ytdddbjaggfaofaa.Mem

namespace Go.Proofs.Ytdddbjaggfaofaa.Mem
open Go.RowKit Go.Proofs.Ytdddbjaggfaofaa.GM Go.Proofs.YtdddbjaggfaofaaW.PrintWords
set_option linter.unusedVariables false

def RefRowsPost (w : World) (n : Nat) (E : List (Int × Int)) (back : Bool) (e : Ending) (w' : World) : Prop :=
  ∃ (vals : List Value) (R : List (List Nat)), e = .returned (.slice (some ⟨w.heap.size, 0, none⟩) n n) ∧ OwnRows w' w.heap.size (.slice (some ⟨w.heap.size, 0, none⟩) n n) vals R ∧ RowsIn n E back R ∧ RowsSum R E.length ∧ Below w.heap.size w w'

theorem rows_appended {W w1 : World} {base g n cap a b gg cap2 H : Nat} {vals : List Value} {R : List (List Nat)} {xv : Value} (h : OwnRows W base (.slice (some ⟨g, 0, none⟩) n cap) vals R) (hi : a < R.length) (hx : vals[a]? = some xv)
    (hg : W.grownBy w1 xv.ownBlock) (ho : w1.ownsRow base 3 1 (.slice (some ⟨gg, 0, none⟩) ((nb R a).length + 1) cap2) ((nb R a).length + 1) ((nb R a).map encN ++ [encN b])) (hat : xv.ownBlock = some gg ∨ gg = H) (hH : W.heap.size = H) :
    OwnRows (w1.setCell ⟨g, a, none⟩ (.slice (some ⟨gg, 0, none⟩) ((nb R a).length + 1) cap2)) base (.slice (some ⟨g, 0, none⟩) n cap) (vals.set a (.slice (some ⟨gg, 0, none⟩) ((nb R a).length + 1) cap2)) (R.set a (nb R a ++ [b])) := by
  refine h.put hi hx hg (by unfold OwnN; simpa using ho) ?_
  rcases hat with hat | hat
  · exact .inl (by rw [hat]; rfl)
  · exact .inr ⟨gg, rfl, by omega⟩

set_option maxHeartbeats 1000000 in
set_option maxRecDepth 100000 in
theorem refRows_calls (n : Nat) (E : List (Int × Int)) (A : Option Addr) (c : Nat) (w : World) (hr : kE.C w A E.length E) (hE : E.length ≤ 8796093022208) (hn : n ≤ 131072) (hok : ∀ x ∈ E, EOk n x) :
    Calls Try.prog 47 #[.int .i64 n, .slice A E.length c, .int .i64 1] w fun e w' => RefRowsPost w n E false e w' := by
  have hmk := run_make_row' (P := Try.prog) 45 33 (.slice none 0 0) 24 Try.underlying45 info33 rfl .i64 .i64 n (by omega) (by omega)
  have HM := Aside0.mk (OwnRows.made w w.heap.size n (Nat.le_refl _) (by omega))
  have HR := Aside0.mk hr
  have HOK := Aside0.mk hok
  clear hr hok
  go_enter Try.func47, Try.ntmps47
  go_wp2_with fail
  clear hmk
  go_loopg [8] E.length (fun g i wr => ∃ k : Nat, k ≤ E.length ∧ g = E.length - k ∧ i = .int .i64 k ∧ Aside0 (Below w.heap.size w wr) ∧ ∃ (vals : List Value) (R : List (List Nat)),
    Aside0 (OwnRows wr w.heap.size (.slice (some ⟨w.heap.size, 0, none⟩) n n) vals R ∧ RowsIn n (E.take k) false R ∧ (∀ x ∈ E.take k, EOk n x) ∧ RowsSum R k))
  case atStart =>
    exact ⟨0, Nat.zero_le _, rfl, rfl, ⟨(Below.refl _ _).alloc (Nat.le_refl _) _⟩, _, _, ⟨HM.out, rows_start n E false⟩⟩
  case round =>
    obtain ⟨k, hk, rfl, rfl, HB, vals, R, HO⟩ := hrel
    by_cases hlt : k < E.length
    · obtain ⟨ad, x, rfl, hx, c0, c1⟩ := edge_at HR.out k hlt
      have d0 := (HB.out.cell (World.block_lt_of_cell? w _ c0)).trans c0
      have d1 := (HB.out.cell (World.block_lt_of_cell? w _ c1)).trans c1
      obtain ⟨x1, x2⟩ := x
      have HX := Aside0.mk hx
      obtain ⟨o1, o2, o3, o4⟩ := HOK.out _ (List.mem_of_getElem? hx)
      simp only at o1 o2 o3 o4
      obtain ⟨a, rfl⟩ := Int.eq_ofNat_of_zero_le o1
      obtain ⟨b, rfl⟩ := Int.eq_ofNat_of_zero_le o3
      have hRn : R.length = n := HO.out.2.1.1
      obtain ⟨xv, hxv, hcell, hfroz, hown, hgb, hglt⟩ := HO.out.1.get (i := a) (by omega)
      have HXV := Aside0.mk hxv
      have HOWN := Aside0.mk hown
      have HPL := Aside0.mk (show a < R.length by omega)
      have HAB := Aside0.mk (show a < n ∧ b < n by omega)
      clear hx c0 c1 hown hxv hRn
      go_wp2_with fail
      have hlen1 : (nb R a).length + 1 ≤ maxLen := by have := HO.out.2.2.2 a; unfold maxLen; omega
      have hlen2 : ((nb R a).length + 1) * 8 ≤ 140737488355328 := by have := HO.out.2.2.2 a; omega
      have hbse : w.heap.size ≤ wr.heap.size := HB.out.size
      have hbw : Below wr.heap.size wr (wr.alloc (.cells #[encN b] 3)).drew := ((Below.refl _ _).alloc (Nat.le_refl _) _).drew
      have HBW := Aside0.mk hbw
      clear hbw
      obtain ⟨i0, hi0, hz0, hz1, hz2⟩ := info_parts info3
      go_region_law (refine step_append_lies _ (by rfl) _ _ _ (by rfl) w.heap.size 3 i0 _ 1 8 Try.underlying33 hi0 hz0 hz1 hz2 rfl (by omega) xv (nb R a).length ((nb R a).map encN) (by rfl) (own_below HOWN.out HBW.out) ⟨wr.heap.size, 0, none⟩ 1 1 [encN b] (by rfl) (by rfl) (World.news_of_block (cs := #[encN b]) (t := 3) (fr := (0, 0)) (heap_alloc_new wr _)) (by simp [encN, Value.oneCell']) (by omega) hlen1 hlen2 (by simp; omega) (wr.heap.size + 1) (by simp) ?_; intro gg cap2 w1 hown1 hgrow hat hlt2; have hcg := (HO.out.1.below HBW.out).cell_grown HXV.out hgrow; have hcg1 := hcg.1; have hcg2 := hcg.2; clear hcg; have HREL := Aside0.mk (rows_appended (HO.out.1.below HBW.out) HPL.out HXV.out hgrow hown1 hat (by simp)); have HBE := Aside0.mk ((HB.out.trans (HBW.out.mono HB.out.size)).grown hgrow (by simp; omega) (fun b hb => (own_blk_lt HOWN.out hb).choose_spec.2.2)); clear hgrow hown1 hat hlt2)
      all_goals
        go_wp2_with fail
        go_roundg (E.length - (k + 1))
        case rel => exact ⟨k + 1, by omega, rfl, by go_num, ⟨HBE.out.setCell (Nat.le_refl _) _⟩, _, _, ⟨HREL.out, rows_step HO.out.2 HX.out HAB.out.1 HAB.out.2 rfl rfl⟩⟩
        case measure => omega
    · obtain rfl : k = E.length := by omega
      go_wp2_with fail
      go_ret
      have h := HO.out
      rw [List.take_length] at h
      exact ⟨vals, R, rfl, h.1, h.2.1, h.2.2.2, HB.out⟩

set_option maxHeartbeats 1000000 in
set_option maxRecDepth 100000 in
theorem refRowsBack_calls (n : Nat) (E : List (Int × Int)) (A : Option Addr) (c : Nat) (w : World) (hr : kE.C w A E.length E) (hE : E.length ≤ 8796093022208) (hn : n ≤ 131072) (hok : ∀ x ∈ E, EOk n x) :
    Calls Try.prog 47 #[.int .i64 n, .slice A E.length c, .int .i64 0] w fun e w' => RefRowsPost w n E true e w' := by
  have hmk := run_make_row' (P := Try.prog) 45 33 (.slice none 0 0) 24 Try.underlying45 info33 rfl .i64 .i64 n (by omega) (by omega)
  have HM := Aside0.mk (OwnRows.made w w.heap.size n (Nat.le_refl _) (by omega))
  have HR := Aside0.mk hr
  have HOK := Aside0.mk hok
  clear hr hok
  go_enter Try.func47, Try.ntmps47
  go_wp2_with fail
  clear hmk
  go_loopg [8] E.length (fun g i wr => ∃ k : Nat, k ≤ E.length ∧ g = E.length - k ∧ i = .int .i64 k ∧ Aside0 (Below w.heap.size w wr) ∧ ∃ (vals : List Value) (R : List (List Nat)),
    Aside0 (OwnRows wr w.heap.size (.slice (some ⟨w.heap.size, 0, none⟩) n n) vals R ∧ RowsIn n (E.take k) true R ∧ (∀ x ∈ E.take k, EOk n x) ∧ RowsSum R k))
  case atStart =>
    exact ⟨0, Nat.zero_le _, rfl, rfl, ⟨(Below.refl _ _).alloc (Nat.le_refl _) _⟩, _, _, ⟨HM.out, rows_start n E true⟩⟩
  case round =>
    obtain ⟨k, hk, rfl, rfl, HB, vals, R, HO⟩ := hrel
    by_cases hlt : k < E.length
    · obtain ⟨ad, x, rfl, hx, c0, c1⟩ := edge_at HR.out k hlt
      have d0 := (HB.out.cell (World.block_lt_of_cell? w _ c0)).trans c0
      have d1 := (HB.out.cell (World.block_lt_of_cell? w _ c1)).trans c1
      obtain ⟨x1, x2⟩ := x
      have HX := Aside0.mk hx
      obtain ⟨o1, o2, o3, o4⟩ := HOK.out _ (List.mem_of_getElem? hx)
      simp only at o1 o2 o3 o4
      obtain ⟨a, rfl⟩ := Int.eq_ofNat_of_zero_le o1
      obtain ⟨b, rfl⟩ := Int.eq_ofNat_of_zero_le o3
      have hRn : R.length = n := HO.out.2.1.1
      obtain ⟨xv, hxv, hcell, hfroz, hown, hgb, hglt⟩ := HO.out.1.get (i := b) (by omega)
      have HXV := Aside0.mk hxv
      have HOWN := Aside0.mk hown
      have HPL := Aside0.mk (show b < R.length by omega)
      have HAB := Aside0.mk (show a < n ∧ b < n by omega)
      clear hx c0 c1 hown hxv hRn
      go_wp2_with fail
      have hlen1 : (nb R b).length + 1 ≤ maxLen := by have := HO.out.2.2.2 b; unfold maxLen; omega
      have hlen2 : ((nb R b).length + 1) * 8 ≤ 140737488355328 := by have := HO.out.2.2.2 b; omega
      have hbse : w.heap.size ≤ wr.heap.size := HB.out.size
      have hbw : Below wr.heap.size wr (wr.alloc (.cells #[encN a] 3)).drew := ((Below.refl _ _).alloc (Nat.le_refl _) _).drew
      have HBW := Aside0.mk hbw
      clear hbw
      obtain ⟨i0, hi0, hz0, hz1, hz2⟩ := info_parts info3
      go_region_law (refine step_append_lies _ (by rfl) _ _ _ (by rfl) w.heap.size 3 i0 _ 1 8 Try.underlying33 hi0 hz0 hz1 hz2 rfl (by omega) xv (nb R b).length ((nb R b).map encN) (by rfl) (own_below HOWN.out HBW.out) ⟨wr.heap.size, 0, none⟩ 1 1 [encN a] (by rfl) (by rfl) (World.news_of_block (cs := #[encN a]) (t := 3) (fr := (0, 0)) (heap_alloc_new wr _)) (by simp [encN, Value.oneCell']) (by omega) hlen1 hlen2 (by simp; omega) (wr.heap.size + 1) (by simp) ?_; intro gg cap2 w1 hown1 hgrow hat hlt2; have hcg := (HO.out.1.below HBW.out).cell_grown HXV.out hgrow; have hcg1 := hcg.1; have hcg2 := hcg.2; clear hcg; have HREL := Aside0.mk (rows_appended (HO.out.1.below HBW.out) HPL.out HXV.out hgrow hown1 hat (by simp)); have HBE := Aside0.mk ((HB.out.trans (HBW.out.mono HB.out.size)).grown hgrow (by simp; omega) (fun b hb => (own_blk_lt HOWN.out hb).choose_spec.2.2)); clear hgrow hown1 hat hlt2)
      all_goals
        go_wp2_with fail
        go_roundg (E.length - (k + 1))
        case rel => exact ⟨k + 1, by omega, rfl, by go_num, ⟨HBE.out.setCell (Nat.le_refl _) _⟩, _, _, ⟨HREL.out, rows_step HO.out.2 HX.out HAB.out.1 HAB.out.2 rfl rfl⟩⟩
        case measure => omega
    · obtain rfl : k = E.length := by omega
      go_wp2_with fail
      go_ret
      have h := HO.out
      rw [List.take_length] at h
      exact ⟨vals, R, rfl, h.1, h.2.1, h.2.2.2, HB.out⟩

end Go.Proofs.Ytdddbjaggfaofaa.Mem

namespace Go.Proofs.Ytdddbjaggfaofaa.Mem
open Go.RowKit Go.Proofs.Ytdddbjaggfaofaa.GM Go.Proofs.YtdddbjaggfaofaaW.PrintWords
set_option linter.unusedVariables false

/-- By thing who needs it, as often as there are edges. -/
def RowsM (n : Nat) (E : List (Int × Int)) (R : List (List Nat)) : Prop := R.length = n ∧ ∀ a b, (nb R a).count b = E.count ((b : Int), (a : Int))

def RefRowsMPost (w : World) (n : Nat) (E : List (Int × Int)) (e : Ending) (w' : World) : Prop :=
  ∃ (vals : List Value) (R : List (List Nat)), e = .returned (.slice (some ⟨w.heap.size, 0, none⟩) n n) ∧ OwnRows w' w.heap.size (.slice (some ⟨w.heap.size, 0, none⟩) n n) vals R ∧ RowsM n E R ∧ RowsSum R E.length ∧ Below w.heap.size w w'

theorem rowsM_start (n : Nat) (E : List (Int × Int)) : RowsM n (E.take 0) (List.replicate n []) ∧ (∀ x ∈ E.take 0, EOk n x) ∧ RowsSum (List.replicate n []) 0 := by
  have h := rows_start n E true
  refine ⟨⟨by simp, fun a b => ?_⟩, h.2⟩
  have e : nb (List.replicate n ([] : List Nat)) a = [] := by unfold nb; rw [List.getD_eq_getElem?_getD, List.getElem?_replicate]; split <;> rfl
  rw [e]
  simp

theorem rowsM_step {n k a b : Nat} {E : List (Int × Int)} {R : List (List Nat)} (h : RowsM n (E.take k) R ∧ (∀ x ∈ E.take k, EOk n x) ∧ RowsSum R k) (hx : E[k]? = some ((a : Int), (b : Int))) (ha : a < n) (hb : b < n) :
    RowsM n (E.take (k + 1)) (R.set b (nb R b ++ [a])) ∧ (∀ x ∈ E.take (k + 1), EOk n x) ∧ RowsSum (R.set b (nb R b ++ [a])) (k + 1) := by
  obtain ⟨⟨h1, h2⟩, h3, h4⟩ := h
  have hpn : b < R.length := by omega
  have ht : E.take (k + 1) = E.take k ++ [((a : Int), (b : Int))] := by rw [List.take_add_one, hx]; rfl
  refine ⟨⟨by rw [List.length_set]; exact h1, fun x y => ?_⟩, fun x hx => ?_, fun x => ?_⟩
  · rw [nb_set hpn, ht, List.count_append, ← h2]
    by_cases e : x = b
    · subst e
      rw [if_pos rfl, List.count_append]
      congr 1
      by_cases e2 : y = a
      · subst e2; simp
      · have e3 : [((a : Int), (x : Int))].count ((y : Int), (x : Int)) = 0 := List.count_eq_zero.2 (by simp; omega)
        have e4 : [a].count y = 0 := List.count_eq_zero.2 (by simpa using e2)
        rw [e3, e4]
    · have e3 : [((a : Int), (b : Int))].count ((y : Int), (x : Int)) = 0 := List.count_eq_zero.2 (by simp; omega)
      rw [if_neg e, e3]
      rfl
  · rw [ht, List.mem_append, List.mem_singleton] at hx
    rcases hx with hx | rfl
    · exact h3 x hx
    · exact ⟨by simp, by simpa using ha, by simp, by simpa using hb⟩
  · rw [nb_set hpn]
    have := h4 x
    split
    · rename_i e
      subst e
      simp only [List.length_append, List.length_cons, List.length_nil]
      omega
    · omega

set_option maxHeartbeats 1000000 in
set_option maxRecDepth 100000 in
theorem refRowsM_calls (n : Nat) (E : List (Int × Int)) (A : Option Addr) (c : Nat) (w : World) (hr : kE.C w A E.length E) (hE : E.length ≤ 8796093022208) (hn : n ≤ 131072) (hok : ∀ x ∈ E, EOk n x) :
    Calls Try.prog 47 #[.int .i64 n, .slice A E.length c, .int .i64 0] w fun e w' => RefRowsMPost w n E e w' := by
  have hmk := run_make_row' (P := Try.prog) 45 33 (.slice none 0 0) 24 Try.underlying45 info33 rfl .i64 .i64 n (by omega) (by omega)
  have HM := Aside0.mk (OwnRows.made w w.heap.size n (Nat.le_refl _) (by omega))
  have HR := Aside0.mk hr
  have HOK := Aside0.mk hok
  clear hr hok
  go_enter Try.func47, Try.ntmps47
  go_wp2_with fail
  clear hmk
  go_loopg [8] E.length (fun g i wr => ∃ k : Nat, k ≤ E.length ∧ g = E.length - k ∧ i = .int .i64 k ∧ Aside0 (Below w.heap.size w wr) ∧ ∃ (vals : List Value) (R : List (List Nat)),
    Aside0 (OwnRows wr w.heap.size (.slice (some ⟨w.heap.size, 0, none⟩) n n) vals R ∧ RowsM n (E.take k) R ∧ (∀ x ∈ E.take k, EOk n x) ∧ RowsSum R k))
  case atStart =>
    exact ⟨0, Nat.zero_le _, rfl, rfl, ⟨(Below.refl _ _).alloc (Nat.le_refl _) _⟩, _, _, ⟨HM.out, rowsM_start n E⟩⟩
  case round =>
    obtain ⟨k, hk, rfl, rfl, HB, vals, R, HO⟩ := hrel
    by_cases hlt : k < E.length
    · obtain ⟨ad, x, rfl, hx, c0, c1⟩ := edge_at HR.out k hlt
      have d0 := (HB.out.cell (World.block_lt_of_cell? w _ c0)).trans c0
      have d1 := (HB.out.cell (World.block_lt_of_cell? w _ c1)).trans c1
      obtain ⟨x1, x2⟩ := x
      have HX := Aside0.mk hx
      obtain ⟨o1, o2, o3, o4⟩ := HOK.out _ (List.mem_of_getElem? hx)
      simp only at o1 o2 o3 o4
      obtain ⟨a, rfl⟩ := Int.eq_ofNat_of_zero_le o1
      obtain ⟨b, rfl⟩ := Int.eq_ofNat_of_zero_le o3
      have hRn : R.length = n := HO.out.2.1.1
      obtain ⟨xv, hxv, hcell, hfroz, hown, hgb, hglt⟩ := HO.out.1.get (i := b) (by omega)
      have HXV := Aside0.mk hxv
      have HOWN := Aside0.mk hown
      have HPL := Aside0.mk (show b < R.length by omega)
      have HAB := Aside0.mk (show a < n ∧ b < n by omega)
      clear hx c0 c1 hown hxv hRn
      go_wp2_with fail
      have hlen1 : (nb R b).length + 1 ≤ maxLen := by have := HO.out.2.2.2 b; unfold maxLen; omega
      have hlen2 : ((nb R b).length + 1) * 8 ≤ 140737488355328 := by have := HO.out.2.2.2 b; omega
      have hbse : w.heap.size ≤ wr.heap.size := HB.out.size
      have hbw : Below wr.heap.size wr (wr.alloc (.cells #[encN a] 3)).drew := ((Below.refl _ _).alloc (Nat.le_refl _) _).drew
      have HBW := Aside0.mk hbw
      clear hbw
      obtain ⟨i0, hi0, hz0, hz1, hz2⟩ := info_parts info3
      go_region_law (refine step_append_lies _ (by rfl) _ _ _ (by rfl) w.heap.size 3 i0 _ 1 8 Try.underlying33 hi0 hz0 hz1 hz2 rfl (by omega) xv (nb R b).length ((nb R b).map encN) (by rfl) (own_below HOWN.out HBW.out) ⟨wr.heap.size, 0, none⟩ 1 1 [encN a] (by rfl) (by rfl) (World.news_of_block (cs := #[encN a]) (t := 3) (fr := (0, 0)) (heap_alloc_new wr _)) (by simp [encN, Value.oneCell']) (by omega) hlen1 hlen2 (by simp; omega) (wr.heap.size + 1) (by simp) ?_; intro gg cap2 w1 hown1 hgrow hat hlt2; have hcg := (HO.out.1.below HBW.out).cell_grown HXV.out hgrow; have hcg1 := hcg.1; have hcg2 := hcg.2; clear hcg; have HREL := Aside0.mk (rows_appended (HO.out.1.below HBW.out) HPL.out HXV.out hgrow hown1 hat (by simp)); have HBE := Aside0.mk ((HB.out.trans (HBW.out.mono HB.out.size)).grown hgrow (by simp; omega) (fun b hb => (own_blk_lt HOWN.out hb).choose_spec.2.2)); clear hgrow hown1 hat hlt2)
      all_goals
        go_wp2_with fail
        go_roundg (E.length - (k + 1))
        case rel => exact ⟨k + 1, by omega, rfl, by go_num, ⟨HBE.out.setCell (Nat.le_refl _) _⟩, _, _, ⟨HREL.out, rowsM_step HO.out.2 HX.out HAB.out.1 HAB.out.2⟩⟩
        case measure => omega
    · obtain rfl : k = E.length := by omega
      go_wp2_with fail
      go_ret
      have h := HO.out
      rw [List.take_length] at h
      exact ⟨vals, R, rfl, h.1, h.2.1, h.2.2.2, HB.out⟩

end Go.Proofs.Ytdddbjaggfaofaa.Mem
