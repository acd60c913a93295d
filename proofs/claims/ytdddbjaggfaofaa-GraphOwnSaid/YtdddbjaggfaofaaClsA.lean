/- graphs.count, and the closure of graphs.Classes that finds a class's head, by their contracts. -/
import Derived.Test.YtdddbjaggfaofaaReachC
import Derived.Test.YtdddbjaggfaofaaGMs
import Derived.StillTailTactics
namespace Go.Proofs.Ytdddbjaggfaofaa.Mem
open Go.RowKit Go.Proofs.Ytdddbjaggfaofaa.GM Go.Proofs.YtdddbjaggfaofaaW.PrintWords
set_option linter.unusedVariables false

theorem OwnN.at_ {w : World} {base g n c : Nat} {P : List Nat} (h : OwnN w base (.slice (some ⟨g, 0, none⟩) n c) P) {x : Nat} (hx : x < P.length) :
    w.cell? ⟨g, x, none⟩ = some (.int .i64 (pa P x : Nat)) ∧ w.frozen? ⟨g, x, none⟩ = false ∧ n = P.length := by
  obtain ⟨g', he, h1, h2⟩ := row_cell h hx
  cases he
  refine ⟨?_, h2, row_at h⟩
  rw [h1]
  unfold pa
  rw [List.getD_eq_getElem?_getD, List.getElem?_eq_getElem hx]; rfl

theorem OwnN.set_ {w : World} {base g n c : Nat} {P : List Nat} (h : OwnN w base (.slice (some ⟨g, 0, none⟩) n c) P) {x v : Nat} (hx : x < P.length) :
    OwnN (w.setCell ⟨g, x, none⟩ (.int .i64 (v : Int))) base (.slice (some ⟨g, 0, none⟩) n c) (P.set x v) ∧ w.grownBy (w.setCell ⟨g, x, none⟩ (.int .i64 (v : Int))) (some g) := by
  have hn := row_at h
  subst hn
  unfold OwnN at h ⊢
  have := h.stored x (.int .i64 (v : Int))
  refine ⟨?_, this.2⟩
  rw [List.length_set, List.map_set]
  exact this.1

theorem OwnN.made (W : World) (base n : Nat) (hb : base ≤ W.heap.size) (hn : n ≤ 131072) :
    OwnN (W.alloc (.cells (madeCells #[.int .i64 0] n) 3)) base (.slice (some ⟨W.heap.size, 0, none⟩) n n) (List.replicate n 0) := by
  have h := World.ownsRow_lit (base := base) (e := 3) (size := 1) W (madeCells #[.int .i64 0] n) n hb (by unfold maxLen; omega) (by simp [size_madeCells])
  have hl : (madeCells #[Value.int .i64 0] n).toList = (List.replicate n 0).map encN := by
    apply List.ext_getElem
    · simp [madeCells]
    · intro i h1 h2
      simp [madeCells, Nat.mod_one, encN]
  rw [hl] at h
  unfold OwnN
  simpa using h

set_option maxHeartbeats 1000000 in
set_option maxRecDepth 100000 in
theorem count_calls (n : Nat) (w : World) (hn : n ≤ 131072) :
    Calls Try.prog 48 #[.int .i64 n] w fun e w' => e = .returned (.slice (some ⟨w.heap.size, 0, none⟩) n n) ∧ OwnN w' w.heap.size (.slice (some ⟨w.heap.size, 0, none⟩) n n) (List.range n) ∧ Below w.heap.size w w' := by
  have hmk := run_make_row' (P := Try.prog) 33 3 (.int .i64 0) 8 Try.underlying33 info3 rfl .i64 .i64 n (by omega) (by omega)
  have HM := Aside0.mk (OwnN.made w w.heap.size n (Nat.le_refl _) hn)
  go_enter Try.func48, Try.ntmps48
  go_wp2_with fail
  clear hmk
  go_loopg [4, 9] n (fun g v4 i wr => ∃ k : Nat, k ≤ n ∧ g = n - k ∧ i = .int .i64 k ∧ Aside0 (Below w.heap.size w wr ∧ ∃ xs : List Nat, xs.length = n ∧ OwnN wr w.heap.size (.slice (some ⟨w.heap.size, 0, none⟩) n n) xs ∧ ∀ j, j < k → pa xs j = j))
  case atStart => exact ⟨0, Nat.zero_le _, rfl, rfl, ⟨(Below.refl _ _).alloc (Nat.le_refl _) _, _, by simp, HM.out, fun j hj => by omega⟩⟩
  case round =>
    obtain ⟨k, hk, rfl, rfl, HO⟩ := hrel
    obtain ⟨hb, xs, hl, hx, hj⟩ := HO.out
    by_cases hlt : k < n
    · obtain ⟨f1, f2, -⟩ := hx.at_ (x := k) (by omega)
      obtain ⟨s1, s2⟩ := hx.set_ (x := k) (v := k) (by omega)
      have HREL := Aside0.mk (show Below w.heap.size w (wr.setCell ⟨w.heap.size, k, none⟩ (.int .i64 (k : Int))) ∧ ∃ ys : List Nat, ys.length = n ∧ OwnN (wr.setCell ⟨w.heap.size, k, none⟩ (.int .i64 (k : Int))) w.heap.size (.slice (some ⟨w.heap.size, 0, none⟩) n n) ys ∧ ∀ j, j < k + 1 → pa ys j = j by
        refine ⟨hb.setCell (Nat.le_refl _) _, xs.set k k, by rw [List.length_set]; exact hl, s1, fun j hj2 => ?_⟩
        rw [pa_set (by omega)]
        split
        · rename_i e; exact e.symm
        · exact hj j (by omega))
      clear hb hl hx hj s1 s2 HO
      go_wp2_with fail
      go_roundg (n - (k + 1))
      case rel => exact ⟨k + 1, by omega, rfl, by go_num, HREL⟩
      case measure => omega
    · obtain rfl : k = n := by omega
      have HF := Aside0.mk (show xs = List.range k by
        apply List.ext_getElem
        · simp [hl]
        · intro i h1 h2
          have := hj i (by omega)
          unfold pa at this
          rw [List.getD_eq_getElem?_getD, List.getElem?_eq_getElem h1] at this
          simpa using this)
      have HX := Aside0.mk hx
      have HB := Aside0.mk hb
      clear hb hl hx hj
      go_wp2_with fail
      go_ret
      exact ⟨rfl, by rw [← HF.out]; exact HX.out, HB.out⟩

set_option maxHeartbeats 2000000 in
set_option maxRecDepth 100000 in
theorem head_calls (base b n x g c : Nat) (P : List Nat) (w : World) (hx : x < n) (hn : n ≤ 131072) (hu : Uf n P) (hbox : w.heap[b]? = some (.cells #[.slice (some ⟨g, 0, none⟩) n c] 33 (0, 0))) (ho : OwnN w base (.slice (some ⟨g, 0, none⟩) n c) P) :
    Calls Try.prog 49 #[.int .i64 x, ptr b] w fun e w' => ∃ (r : Nat) (P' : List Nat), e = .returned (.int .i64 r) ∧ Root P x r ∧ Kin n P P' ∧ OwnN w' base (.slice (some ⟨g, 0, none⟩) n c) P' ∧ w.grownBy w' (some g) := by
  have HI := Aside0.mk (show Kin n P P ∧ OwnN w base (.slice (some ⟨g, 0, none⟩) n c) P ∧ w.grownBy w (some g) from ⟨Kin.refl hu, ho, World.grownBy.refl _ _⟩)
  have HBOX := Aside0.mk hbox
  have HU := Aside0.mk hu
  have HGB := Aside0.mk (blk_row_ne ho hbox (by decide))
  obtain ⟨r, hr, -⟩ := hu.root x hx
  have HR := Aside0.mk hr
  clear hbox ho hu hr
  go_enter Try.func49, Try.ntmps49
  go_wp2_with fail
  go_loopg [0] x (fun g' v0 wr => ∃ (x' : Nat) (P' : List Nat), v0 = .int .i64 x' ∧ x' < n ∧ g' = x' ∧ Aside0 (Root P' x' r) ∧ Aside0 (Kin n P P' ∧ OwnN wr base (.slice (some ⟨g, 0, none⟩) n c) P' ∧ w.grownBy wr (some g)))
  case atStart => exact ⟨x, P, rfl, hx, rfl, HR, HI⟩
  case round =>
    obtain ⟨x', P', rfl, hx', hgk, HR2, HI2⟩ := hrel
    replace hgk : x' ≤ gk := by omega
    have hbx := blk_grown' HBOX.out HI2.out.2.2 HGB.out
    obtain ⟨f1, f2⟩ := box_cell hbx
    have hlen := HI2.out.1.uf.len
    obtain ⟨g1, g2, -⟩ := HI2.out.2.1.at_ (x := x') (by omega)
    have hle := HI2.out.1.uf.le x' hx'
    obtain ⟨y, hy⟩ : ∃ y, y = pa P' x' := ⟨_, rfl⟩
    rw [← hy] at g1 hle
    have HY := Aside0.mk hy
    by_cases hyx : y = x'
    · subst hyx
      have HF := Aside0.mk (HR2.out.unique (.here hy.symm))
      clear hbx hlen hy HY
      have hd : ((y : Int) != (y : Int)) = false := by simp
      go_wp2_with fail
      go_ret
      exact ⟨y, P', by rfl, by rw [← HF.out]; exact HR.out, HI2.out.1, HI2.out.2.1, HI2.out.2.2⟩
    · have hd : ((y : Int) != (x' : Int)) = true := by simpa [bne_iff_ne, Int.natCast_inj] using hyx
      obtain ⟨h1, h2, -⟩ := HI2.out.2.1.at_ (x := y) (by omega)
      obtain ⟨z, hz⟩ : ∃ z, z = pa P' y := ⟨_, rfl⟩
      have hzy := HI2.out.1.uf.le y (by omega)
      rw [← hz] at h1 hzy
      have hne : pa P' x' ≠ x' := by rw [← hy]; exact hyx
      have hset := HI2.out.2.1.set_ (x := x') (v := z) (by omega)
      have HSET := Aside0.mk (show OwnN (wr.setCell ⟨g, x', none⟩ (.int .i64 (z : Int))) base (.slice (some ⟨g, 0, none⟩) n c) (P'.set x' z) ∧ w.grownBy (wr.setCell ⟨g, x', none⟩ (.int .i64 (z : Int))) (some g) from ⟨hset.1, HI2.out.2.2.trans hset.2⟩)
      have hkin := Kin.halve HI2.out.1.uf hx' hne
      rw [← hy, ← hz] at hkin
      have HK := Aside0.mk (Kin.trans HU.out HI2.out.1 hkin)
      have HR3 := Aside0.mk (show Root (P'.set x' z) z r by
        have h3 := hkin.root x' hx' r HR2.out
        cases h3 with
        | here e => rw [pa_set (by omega), if_pos rfl] at e; omega
        | up ne h3 => rw [pa_set (by omega), if_pos rfl] at h3; exact h3)
      clear hbx hlen hy hz hset hkin hne hyx
      have i1 : (x' : Int) < (n : Int) := by omega
      have i0 : (0 : Int) ≤ (x' : Int) := by omega
      have i2 : (y : Int) < (n : Int) := by omega
      have i3 : (0 : Int) ≤ (y : Int) := by omega
      go_wp2_with fail
      go_still_tail 10, (by kernel_rfl)
      go_upto_region 3 with (fail)
      obtain ⟨w2, hw2, HS2⟩ := ex_world (p := fun W => OwnN W base (.slice (some ⟨g, 0, none⟩) n c) (P'.set x' z) ∧ w.grownBy W (some g)) (W := (wr.setCell ⟨g, x', none⟩ (.int .i64 (z : Int))).drew) ⟨HSET.out.1, HSET.out.2.trans ⟨rfl, rfl, rfl, Nat.le_refl _, fun _ _ _ => rfl⟩⟩
      rw [hw2]
      clear hw2 f1 f2 g1 g2 h1 h2
      obtain ⟨f1, -⟩ := box_cell (blk_grown' HBOX.out HS2.out.2 HGB.out)
      obtain ⟨g1, -, -⟩ := HS2.out.1.at_ (x := x') (by rw [List.length_set]; have := HI2.out.1.uf.len; omega)
      rw [pa_set (by have := HI2.out.1.uf.len; omega), if_pos rfl] at g1
      have hyx2 : y < x' := by
        rcases Nat.lt_or_ge y x' with h | h
        · exact h
        · have e : y = x' := by omega
          rw [e] at hd
          simp at hd
      go_wp2_with fail
      go_roundg z
      case rel => exact ⟨z, P'.set x' z, rfl, by omega, rfl, HR3, ⟨HK.out, HS2.out⟩⟩
      case measure => omega

end Go.Proofs.Ytdddbjaggfaofaa.Mem
