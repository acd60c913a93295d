/- The shelf's grow, by its contract. -/
import Derived.Test.YtdddbjaggfaofaaShf
import Derived.Deep.RegionHeld3
import Derived.Deep.AppendLies
namespace Go.Proofs.Ytdddbjaggfaofaa.Mem
open Go.RowKit Go.Proofs.Ytdddbjaggfaofaa.GM Go.Proofs.YtdddbjaggfaofaaW.PrintWords
set_option linter.unusedVariables false

def GrowPost (base s : Nat) (v6 v7 : Value) (l7 : List Value) (C : List (List Int)) (w : World) (e : Ending) (w' : World) : Prop :=
  e = .returned (.tuple #[]) ∧ ∃ l6' H', SH w' base s v6 v7 l6' l7 H' C ∧ MkH C H' (fun _ => 70) H'.length ∧ Below base w w'

theorem grow_step {base s k g6 c6 n gg cap t m m6 : Nat} {v7 x : Value} {l6 l7 : List Value} {H C : List (List Int)} {zs : List Int} {w wr w7 : World} {o : Obj}
    (hx : l6[k]? = some x) (hz : H[k]? = some zs) (hn : zs.length = m6) (h : SH wr base s (.slice (some ⟨g6, 0, none⟩) n c6) v7 l6 l7 H C ∧ MkH C H (fun i => if i < k then t + 1 else t) H.length ∧ H.length = m ∧ Below base w wr) (hb0 : base ≤ wr.heap.size)
    (h1 : w7.ownsRow base 3 1 (.slice (some ⟨gg, 0, none⟩) (m6 + 1) cap) (m6 + 1) (zs.map (Value.int .i64) ++ [.int .i64 (-7777 - (k : Int))])) (h2 : ((wr.alloc o).drew).grownBy w7 x.ownBlock) (h3 : x.ownBlock = some gg ∨ gg = wr.heap.size + 1) :
    SH (w7.setCell ⟨g6, k, none⟩ (.slice (some ⟨gg, 0, none⟩) (m6 + 1) cap)) base s (.slice (some ⟨g6, 0, none⟩) n c6) v7 (l6.set k (.slice (some ⟨gg, 0, none⟩) (m6 + 1) cap)) l7 (H.set k (zs ++ [mk k])) C ∧
      MkH C (H.set k (zs ++ [mk k])) (fun i => if i < k + 1 then t + 1 else t) (H.set k (zs ++ [mk k])).length ∧ (H.set k (zs ++ [mk k])).length = m ∧ Below base w (w7.setCell ⟨g6, k, none⟩ (.slice (some ⟨gg, 0, none⟩) (m6 + 1) cap)) := by
  obtain ⟨a1, a2, a3, a4⟩ := h
  have hk : k < H.length := (List.getElem?_eq_some_iff.1 hz).1
  have hg : wr.grownBy w7 x.ownBlock := World.grownBy.trans (World.grownBy_alloc wr _ _) ⟨h2.os, h2.tape, h2.output, h2.size, h2.block⟩
  have hat : NewAt x (.slice (some ⟨gg, 0, none⟩) (m6 + 1) cap) wr.heap.size := by
    rcases h3 with h3 | h3
    · exact .inl h3.symm
    · exact .inr ⟨gg, rfl, by omega⟩
  have ho : OwnZ w7 base (.slice (some ⟨gg, 0, none⟩) (m6 + 1) cap) (zs ++ [mk k]) := by
    unfold OwnZ
    rw [List.length_append, hn, List.map_append]
    exact h1
  have hg6 := (a1.sz.z6.lt (x := x)).1 g6 rfl
  refine ⟨a1.put hx hg ho hat, a2.set hk ⟨?_, fun _ j z hj => ?_⟩ (fun j hj => ?_) (fun j _ hj => by rw [List.length_set] at hj; exact hj), by rw [List.length_set]; exact a3, (a4.trans ⟨hg.os, hg.tape, hg.output, hg.size, fun b hb => hg.block b (by omega) (fun e => ?_)⟩).setCell hg6.2.1 _⟩
  · have := (a2.2 k zs hz).1
    simp only [Nat.lt_irrefl, if_false] at this
    rw [List.length_append, this]
    simp
    omega
  · rcases Nat.lt_or_ge j zs.length with c | c
    · rw [List.getElem?_append_left c] at hj
      exact (a2.2 k zs hz).2 hk j z hj
    · rw [List.getElem?_append_right c] at hj
      have := List.mem_of_getElem? hj
      simpa using this
  · rcases Nat.lt_trichotomy j k with c | c | c
    · rw [if_pos (by omega), if_pos c]
    · exact absurd c hj
    · rw [if_neg (by omega), if_neg (by omega)]
  · have := (a1.sz.z6.lt (x := x)).2 k x b hx e.symm
    omega
theorem grow_round {C H : List (List Int)} {t m : Nat} (h : MkH C H (fun i => if i < m then t + 1 else t) H.length) (hm : H.length = m) : MkH C H (fun _ => t + 1) H.length :=
  ⟨h.1, fun i zs hz => by
    have hi : i < m := by have := (List.getElem?_eq_some_iff.1 hz).1; omega
    have := h.2 i zs hz
    simp only [hi, if_true] at this
    exact this⟩

set_option maxHeartbeats 4000000 in
set_option maxRecDepth 100000 in
theorem grow_calls (base s : Nat) (v6 v7 : Value) (l6 l7 : List Value) (H C : List (List Int)) (w : World) (h : SH w base s v6 v7 l6 l7 H C) (hM : MkH C H (fun _ => 0) H.length) (hl : H.length ≤ 1000000) (hn : ∀ (i : Nat) (zs : List Int), C[i]? = some zs → zs.length ≤ 1000000000) :
    Calls Try.prog 63 #[.pointer (some ⟨s, 0, none⟩)] w fun e w' => GrowPost base s v6 v7 l7 C w e w' := by
  have HS := Aside0.mk h
  have HM := Aside0.mk (And.intro hM hn)
  obtain ⟨A6, c6, rfl⟩ := h.sz.z6.slice
  obtain ⟨m, hm⟩ : ∃ m, m = H.length := ⟨_, rfl⟩
  rw [← hm] at hl HS ⊢
  have HMM := Aside0.mk hm
  have hbs : base ≤ w.heap.size := by have := h.lo; have := (Array.getElem?_eq_some_iff.1 h.cell).1; omega
  clear h hM hn hm
  obtain ⟨i0, hi0, hz0, hz1, hz2⟩ := info_parts info3
  go_enter Try.func63, Try.ntmps63
  go_wp2_with fail
  go_loopg [2] 70 (fun g i wr => ∃ (t : Nat) (l6 : List Value) (H' : List (List Int)), t ≤ 70 ∧ g = 70 - t ∧ i = .int .i64 t ∧ Aside0 (SH wr base s (.slice A6 m c6) v7 l6 l7 H' C ∧ MkH C H' (fun _ => t) H'.length ∧ H'.length = m ∧ Below base w wr))
  case atStart => exact ⟨0, l6, H, Nat.zero_le _, rfl, rfl, ⟨HS.out, HM.out.1, HMM.out.symm, Below.refl _ _⟩⟩
  case round =>
    obtain ⟨t, l6', H', ht, rfl, rfl, HI⟩ := hrel
    by_cases htl : t < 70
    · obtain ⟨n0, n1, n2, n3, n4, n5, n8, n9, n10, n11⟩ := HI.out.1.nils
      obtain ⟨f6, f7, -, -⟩ := HI.out.1.at_
      clear f7 n1 n3 n5 n9 n11
      have htb : decide ((t : Int) < 70) = true := decide_eq_true (by omega)
      go_wp2_with fail
      refine wp_loop_rounds 1 ?_
      rw [rounds_succ]
      go_wp2_with fail
      refine wp_loop_rounds 1 ?_
      rw [rounds_succ]
      go_wp2_with fail
      refine wp_loop_rounds 1 ?_
      rw [rounds_succ]
      go_wp2_with fail
      obtain ⟨wo, hwo⟩ : ∃ wo : World, wo = wr := ⟨_, rfl⟩
      rw [← hwo] at HI
      clear n0 n2 n4 n8 n10 f6
      go_loopg [6, 99] m (fun g a6 i wr => ∃ (k : Nat) (l6 : List Value) (H' : List (List Int)), k ≤ m ∧ g = m - k ∧ i = .int .i64 k ∧ Aside0 (SH wr base s (.slice A6 m c6) v7 l6 l7 H' C ∧ MkH C H' (fun i => if i < k then t + 1 else t) H'.length ∧ H'.length = m ∧ Below base w wr))
      case atStart => exact ⟨0, l6', H', Nat.zero_le _, rfl, rfl, ⟨by rw [← hwo]; exact HI.out.1, by simpa using HI.out.2.1, HI.out.2.2.1, by rw [← hwo]; exact HI.out.2.2.2⟩⟩
      case round =>
        obtain ⟨k, l6k, H2, hk, rfl, rfl, HJ⟩ := hrel
        clear HI hwo
        by_cases hlt : k < m
        · obtain ⟨g6, d6, B6, m6, e6, zs6, hv6, hx6, a6, z6, hz6, hm6, o6, -, hg6⟩ := HJ.out.1.sz.z6.form (i := k) (by rw [HJ.out.2.2.1]; exact hlt)
          rw [HJ.out.2.2.1] at hv6
          cases hv6
          obtain ⟨f6, -, -, -⟩ := HJ.out.1.at_
          have hm6le : m6 ≤ 1000000100 := by
            obtain ⟨h1, h2⟩ := HJ.out.2.1
            obtain ⟨h3, -⟩ := h2 k zs6 hz6
            have hkC : k < C.length := by have := HJ.out.2.2.1; omega
            have h4 := HM.out.2 k C[k] (List.getElem?_eq_getElem hkC)
            rw [List.getD_eq_getElem?_getD, List.getElem?_eq_getElem hkC] at h3
            simp only [Option.getD_some, Nat.lt_irrefl, if_false] at h3
            omega
          have HXX := Aside0.mk (And.intro hx6 (And.intro hz6 (And.intro hm6 o6)))
          have i0' : (0 : Int) ≤ (k : Int) := by omega
          have i1' : (k : Int) < (m : Int) := by omega
          have hslt := World.block_lt_of_cell? wr _ f6
          simp only at hslt
          have HNE := Aside0.mk (show ∀ b, (Value.slice B6 m6 e6).ownBlock = some b → b ≠ s ∧ b ≠ g6 ∧ b < wr.heap.size from fun b hb => by
            obtain ⟨h1, _, cs, hc⟩ := (HJ.out.1.sz.z6.lt (x := v7)).2 k _ b hx6 hb
            obtain ⟨_, _, cs', hc'⟩ := (HJ.out.1.sz.z6.lt (x := v7)).1 g6 rfl
            exact ⟨fun e => tys_ne HJ.out.1.cell hc (by decide) e.symm, fun e => tys_ne hc' hc (by decide) e.symm, h1⟩)
          have hbw : base ≤ wr.heap.size := Nat.le_trans hbs HJ.out.2.2.2.size
          have hsn : some s ≠ (Value.slice B6 m6 e6).ownBlock := fun e => (HNE.out s e.symm).1 rfl
          have hgn : some g6 ≠ (Value.slice B6 m6 e6).ownBlock := fun e => (HNE.out g6 e.symm).2.1 rfl
          have HSN := Aside0.mk (And.intro hsn hgn)
          have HOW := Aside0.mk (show wr.ownsRow base 3 1 (.slice B6 m6 e6) m6 (zs6.map (Value.int .i64)) from by have := o6; unfold OwnZ at this; rw [hm6] at this; exact this)
          clear hx6 hz6 hm6 o6 hsn hgn
          go_wp2_with fail
          go_region_law
            (first
              | (go_simp; go_at_call 80; refine (mark_calls k _ (by omega)).mono ?_; rintro e w' ⟨rfl, rfl⟩)
              | (refine step_append_lies _ (by rfl) _ _ _ (by rfl) base 3 i0 _ 1 8 Try.underlying33 hi0 hz0 hz1 hz2 rfl (by omega) (.slice B6 m6 e6) m6 (zs6.map (Value.int .i64)) (by rfl) ((HOW.out.alloc _).drew) ⟨wr.heap.size, 0, none⟩ 1 1 [.int .i64 (-7777 - (k : Int))] (by rfl) (by rfl) (World.news_of_block (cs := #[.int .i64 (-7777 - (k : Int))]) (t := 3) (fr := (0, 0)) (heap_alloc_new wr _)) (by simp [Value.oneCell']) (by omega) (by unfold maxLen; omega) (by omega) (by simp; omega) (wr.heap.size + 1) (by simp) ?_; intro gg cap w7 hown1 hgrow hat hlt7; have q1 : w7.cell? ⟨s, 6, none⟩ = some (.slice (some ⟨g6, 0, none⟩) m c6) := (hgrow.cell_far _ (by simp; omega) HSN.out.1).trans (by go_keep); have q2 : w7.cell? ⟨g6, k, none⟩ = some (.slice B6 m6 e6) := (hgrow.cell_far _ (by simp; omega) HSN.out.2).trans (by go_keep); have q3 : w7.frozen? ⟨g6, k, none⟩ = false := (hgrow.frozen_far _ (by simp; omega) HSN.out.2).trans ((World.frozen?_of_block (Below.heap_alloc _ _ _ hg6)).trans z6); have H7 := Aside0.mk (And.intro hown1 (And.intro hgrow hat)); clear hown1 hgrow hat hlt7))
          all_goals
            go_wp2_with fail
            go_roundg (m - (k + 1))
            case rel => exact ⟨k + 1, _, _, by omega, rfl, by go_num, ⟨grow_step HXX.out.1 HXX.out.2.1 HXX.out.2.2.1 HJ.out hbw H7.out.1 H7.out.2.1 H7.out.2.2⟩⟩
            case measure => omega
        · obtain rfl : k = m := by omega
          obtain ⟨-, -, -, -, -, -, n8, -, n10, -⟩ := HJ.out.1.nils
          go_wp2_with fail
          refine wp_loop_rounds 1 ?_
          rw [rounds_succ]
          go_wp2_with fail
          refine wp_loop_rounds 1 ?_
          rw [rounds_succ]
          go_wp2_with fail
          go_roundg (70 - (t + 1))
          case rel => exact ⟨t + 1, _, _, by omega, rfl, by go_num, ⟨HJ.out.1, grow_round HJ.out.2.1 HJ.out.2.2.1, HJ.out.2.2.1, HJ.out.2.2.2⟩⟩
          case measure => omega
    · obtain rfl : t = 70 := by omega
      go_wp2_with fail
      refine bodyPost_end (results_none rfl _ _ _) rfl ?_
      exact ⟨rfl, l6', H', HI.out.1, HI.out.2.1, HI.out.2.2.2⟩

end Go.Proofs.Ytdddbjaggfaofaa.Mem
