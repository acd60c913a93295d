/- graphs.Classes, by its contract: for each thing the lowest that is tied to it. -/
import Derived.Test.YtdddbjaggfaofaaClsA
import Derived.Deep.RegionWith
namespace Go.Proofs.Ytdddbjaggfaofaa.Mem
open Go.RowKit Go.Proofs.Ytdddbjaggfaofaa.GM Go.Proofs.YtdddbjaggfaofaaW.PrintWords Go.Proofs.YtdddbjaggfaofaaW.PrintMore
attribute [local go_sem] max2_int min2_int max_two min_two
set_option linter.unusedVariables false

/-- Tied by one tie. -/
def TE (E : List (Int × Int)) (a b : Nat) : Prop := ((a : Int), (b : Int)) ∈ E

def ClassesPost (w : World) (n : Int) (E : List (Int × Int)) (e : Ending) (w' : World) : Prop :=
  Below w.heap.size w w' ∧
  ((¬ AllOk n E ∧ e = .returned (.tuple #[.slice none 0 0, .int .i64 1])) ∨
   (AllOk n E ∧ ∃ (m : Nat) (v : Value) (P : List Nat), n = (m : Int) ∧ e = .returned (.tuple #[v, .int .i64 0]) ∧ OwnN w' w.heap.size v P ∧ P.length = m ∧ ∀ x, x < m → Least (TE E) x (pa P x)))

/-- What holds while the ties are joined. -/
structure CI (w : World) (g b n : Nat) (T : Nat → Nat → Prop) (P : List Nat) (W : World) : Prop where
  uf : Uf n P
  tells : Tells n T P
  own : OwnN W w.heap.size (.slice (some ⟨g, 0, none⟩) n n) P
  box : W.heap[b]? = some (.cells #[.slice (some ⟨g, 0, none⟩) n n] 33 (0, 0))
  bel : Below w.heap.size w W
  lo : w.heap.size ≤ g

theorem grown_undrew {w w1 : World} {r : Option Nat} (h : w.drew.grownBy w1 r) : w.grownBy w1 r := ⟨h.os, h.tape, h.output, h.size, h.block⟩

theorem CI.step {w W W1 : World} {g b n : Nat} {T : Nat → Nat → Prop} {P : List Nat} (h : CI w g b n T P W) (hb : Below W.heap.size W W1) : CI w g b n T P W1 :=
  ⟨h.uf, h.tells, own_below h.own hb, blk_below' h.box hb, h.bel.trans (hb.mono h.bel.size), h.lo⟩
theorem CI.kin {w W W1 : World} {g b n : Nat} {T : Nat → Nat → Prop} {P P1 : List Nat} (h : CI w g b n T P W) (hk : Kin n P P1) (ho : OwnN W1 w.heap.size (.slice (some ⟨g, 0, none⟩) n n) P1) (hg : W.grownBy W1 (some g)) : CI w g b n T P1 W1 :=
  ⟨hk.uf, h.tells.kin h.uf hk, ho, blk_grown' h.box hg (blk_row_ne h.own h.box (by decide)), h.bel.grown hg h.bel.size (fun k hk => by cases hk; exact h.lo), h.lo⟩

theorem te_take {E : List (Int × Int)} {k a b : Nat} (hx : E[k]? = some ((a : Int), (b : Int))) (x y : Nat) : TE (E.take (k + 1)) x y ↔ TE (E.take k) x y ∨ (x = a ∧ y = b) := by
  unfold TE
  rw [List.take_add_one, hx]
  simp [Int.natCast_inj]
theorem te_lt {n : Nat} {E : List (Int × Int)} (h : ∀ x ∈ E, EOk n x) {x y : Nat} (k : TE E x y) : x < n ∧ y < n := by
  have := h _ k
  obtain ⟨-, h1, -, h2⟩ := this
  simp only at h1 h2
  omega

theorem CI.join {w W : World} {g b n k a a2 ra rb M m : Nat} {E : List (Int × Int)} {P : List Nat} (h : CI w g b n (TE (E.take k)) P W) (hE : ∀ x ∈ E, EOk n x) (hx : E[k]? = some ((a : Int), (a2 : Int))) (hra : Root P a ra) (hrb : Root P a2 rb)
    (hM : M = max ra rb) (hm : m = min ra rb) : CI w g b n (TE (E.take (k + 1))) (P.set M m) (W.setCell ⟨g, M, none⟩ (.int .i64 (m : Int))) := by
  obtain ⟨-, h1, -, h2⟩ := hE _ (List.mem_of_getElem? hx)
  simp only at h1 h2
  have ha : a < n := by omega
  have hb : a2 < n := by omega
  have l1 := h.uf.root_le ha hra
  have l2 := h.uf.root_le hb hrb
  have hMn : M < n := by omega
  obtain ⟨s1, s2⟩ := h.own.set_ (x := M) (v := m) (by rw [h.uf.len]; exact hMn)
  refine ⟨h.uf.join hMn (by omega), ?_, s1, blk_grown' h.box s2 (blk_row_ne h.own h.box (by decide)), h.bel.setCell h.lo _, h.lo⟩
  subst hM hm
  exact h.tells.join h.uf (fun x y hxy => te_lt (fun z hz => hE z (List.mem_of_mem_take hz)) hxy) (te_take hx) ha hb hra hrb

theorem CI.at_ {w W : World} {g b n x : Nat} {T : Nat → Nat → Prop} {P : List Nat} (h : CI w g b n T P W) (hx : x < n) : W.cell? ⟨g, x, none⟩ = some (.int .i64 (pa P x : Nat)) ∧ W.frozen? ⟨g, x, none⟩ = false := by
  obtain ⟨h1, h2, -⟩ := h.own.at_ (x := x) (by rw [h.uf.len]; exact hx)
  exact ⟨h1, h2⟩

theorem flat_step {n k r : Nat} {P P1 : List Nat} (hu : Uf n P) (hk : Kin n P P1) (hkn : k < n) (hr : Root P k r) (hf : ∀ y, y < k → pa P (pa P y) = pa P y) : ∀ y, y < k + 1 → pa (P1.set k r) (pa (P1.set k r) y) = pa (P1.set k r) y := by
  have hr1 := hk.root k hkn r hr
  have hp := Kin.point hk.uf hkn hr1
  intro y hy
  by_cases e : y = k
  · subst e
    have hl : y < P1.length := by rw [hk.uf.len]; exact hkn
    have hle := hk.uf.root_le hkn hr1
    have : pa (P1.set y r) y = r := by rw [pa_set hl, if_pos rfl]
    rw [this, pa_set hl]
    split
    · rfl
    · exact hr1.top
  · exact hp.flat2 hk.uf (by omega) (hk.flat2 hu (by omega) (hf y (by omega)))

theorem CI.point {w W : World} {g b n x r : Nat} {T : Nat → Nat → Prop} {P : List Nat} (h : CI w g b n T P W) (hx : x < n) (hr : Root P x r) : CI w g b n T (P.set x r) (W.setCell ⟨g, x, none⟩ (.int .i64 (r : Int))) := by
  obtain ⟨s1, s2⟩ := h.own.set_ (x := x) (v := r) (by rw [h.uf.len]; exact hx)
  exact h.kin (Kin.point h.uf hx hr) s1 s2

set_option maxHeartbeats 4000000 in
set_option maxRecDepth 100000 in
theorem classes_calls (n : Int) (E : List (Int × Int)) (A : Option Addr) (c : Nat) (w : World) (hr : kE.C w A E.length E) (hE : E.length ≤ 8796093022208) :
    Calls Try.prog 26 #[.int .i64 n, .slice A E.length c] w fun e w' => ClassesPost w n E e w' := by
  have HRC := Aside0.mk (rows_calls n E false A c w hr hE)
  have HR := Aside0.mk hr
  clear hr
  go_enter Try.func26, Try.ntmps26
  go_wp2_with fail
  refine HRC.out.mono ?_
  rintro e w1 ⟨hb1, ⟨hbad, rfl⟩ | ⟨g2, n, vals, R, rfl, g1, rfl, hrows, hin, hris⟩⟩
  · have HB1 := Aside0.mk hb1
    have HBAD := Aside0.mk hbad
    clear hb1 hbad
    go_wp2_with fail
    go_ret2
    exact ⟨HB1.out, .inl ⟨HBAD.out, rfl⟩⟩
  · have HB1 := Aside0.mk hb1
    have HG := Aside0.mk (show AllOk n E from ⟨by omega, by omega, g2⟩)
    clear hb1 hrows hin hris g2
    go_wp2_with fail
    refine (count_calls n w1 g1).mono ?_
    rintro e w2 ⟨rfl, ho, hb2⟩
    have HO := Aside0.mk ho
    have HB2 := Aside0.mk (HB1.out.trans (hb2.mono HB1.out.size))
    have HG1 := Aside0.mk HB1.out.size
    clear ho hb2
    go_wp2_with fail
    obtain ⟨w3, hw3, HCI⟩ := ex_world (p := CI w w1.heap.size w2.heap.size n (TE (E.take 0)) (List.range n)) (W := w2.alloc (Obj.cells #[Value.slice (some ⟨w1.heap.size, 0, none⟩) n n] 33))
      ⟨Uf.start n, Tells.start n _ (fun a b h => by simp [TE] at h), own_less (own_alloc HO.out _) HG1.out, new_at _ _ rfl, HB2.out.alloc HB2.out.size _, HG1.out⟩
    rw [hw3]
    clear hw3 HO HB2 HB1
    go_loopg [28] E.length (fun g' i wr => ∃ (k : Nat) (P : List Nat), k ≤ E.length ∧ g' = E.length - k ∧ i = .int .i64 k ∧ Aside0 (CI w w1.heap.size w2.heap.size n (TE (E.take k)) P wr))
    case atStart => exact ⟨0, _, Nat.zero_le _, rfl, rfl, HCI⟩
    case round =>
      clear HCI
      obtain ⟨k, P, hk, rfl, rfl, HCI⟩ := hrel
      by_cases hlt : k < E.length
      · obtain ⟨ad, x, rfl, hx, c0, c1⟩ := edge_at HR.out k hlt
        have d0 := (HCI.out.bel.cell (World.block_lt_of_cell? w _ c0)).trans c0
        have d1 := (HCI.out.bel.cell (World.block_lt_of_cell? w _ c1)).trans c1
        obtain ⟨x1, x2⟩ := x
        obtain ⟨o1, o2, o3, o4⟩ := HG.out.2.2 _ (List.mem_of_getElem? hx)
        simp only at o1 o2 o3 o4
        obtain ⟨a, rfl⟩ := Int.eq_ofNat_of_zero_le o1
        obtain ⟨b, rfl⟩ := Int.eq_ofNat_of_zero_le o3
        have HX := Aside0.mk hx
        clear hx c0 c1
        go_upto_region 9 with (fail)
        obtain ⟨W, hW, HCW⟩ := ex_world (HCI.out.step (W1 := wr.alloc (Obj.cells #[Value.int IntKind.i64 ↑a, Value.int IntKind.i64 ↑b] 52)) ((Below.refl _ _).alloc (Nat.le_refl _) _))
        have hbx : W.heap[wr.heap.size]? = some (.cells #[.int .i64 (a : Int), .int .i64 (b : Int)] 52 (0, 0)) := by rw [← hW]; exact new_at _ _ rfl
        rw [hW]
        have e0 : W.cell? ⟨wr.heap.size, 0, none⟩ = some (.int .i64 (a : Int)) := by simp [World.cell?, hbx]
        have e1 : W.cell? ⟨wr.heap.size, 1, none⟩ = some (.int .i64 (b : Int)) := by simp [World.cell?, hbx]
        have HBX := Aside0.mk hbx
        have HNE := Aside0.mk (show wr.heap.size ≠ w1.heap.size from tys_ne hbx (own_typed HCW.out.own w1.heap.size rfl).choose_spec (by decide))
        have HA := Aside0.mk (show a < n ∧ b < n by omega)
        clear hW hbx d0 d1
        go_region_with (first | (go_at_call_of 49 (Value.int IntKind.i64 (a : Int)); refine (head_calls w.heap.size w2.heap.size n a w1.heap.size n P _ (by omega) g1 HCW.out.uf (by exact HCW.out.box) (by exact HCW.out.own)).mono ?_; rintro e W1 ⟨ra, P1, rfl, hra, hk1, ho1, hg0⟩; have hg1 := grown_undrew hg0; have e1' : W1.cell? ⟨wr.heap.size, 1, none⟩ = some (.int .i64 (b : Int)) := by { have := blk_grown' HBX.out hg1 (by intro e; injection e with e; exact HNE.out e); simp [World.cell?, this] }; have HRA := Aside0.mk hra; have HK1 := Aside0.mk hk1; have HC1 := Aside0.mk (HCW.out.kin hk1 ho1 hg1); clear hra hk1 ho1 hg1 hg0) | (go_at_call_of 49 (Value.int IntKind.i64 (b : Int)); refine (head_calls w.heap.size w2.heap.size n b w1.heap.size n P1 _ (by omega) g1 HC1.out.uf HC1.out.box HC1.out.own).mono ?_; rintro e W2 ⟨rb, P2, rfl, hrb, hk2, ho2, hg2⟩; have HRB := Aside0.mk hrb; have HK2 := Aside0.mk hk2; have HC2 := Aside0.mk (HC1.out.kin hk2 ho2 hg2); clear hrb hk2 ho2 hg2))
        all_goals
          clear e0 e1 e1'
          have hra2 := HK2.out.root a HA.out.1 ra (HK1.out.root a HA.out.1 ra HRA.out)
          have hrb2 := HK2.out.root b HA.out.2 rb HRB.out
          have lra := HC2.out.uf.root_le HA.out.1 hra2
          have lrb := HC2.out.uf.root_le HA.out.2 hrb2
          have f1 := (box_cell HC2.out.box).1
          obtain ⟨m1, m2⟩ := HC2.out.at_ (x := ra) (by omega)
          obtain ⟨m3, m4⟩ := HC2.out.at_ (x := rb) (by omega)
          have HRA2 := Aside0.mk hra2
          have HRB2 := Aside0.mk hrb2
          have HALT := Aside0.mk (show ra < n ∧ rb < n by omega)
          have hran : ra < n := HALT.out.1
          have hrbn : rb < n := HALT.out.2
          clear hra2 hrb2
          rcases Nat.lt_trichotomy ra rb with hlt2 | heq | hgt
          · have hc : ((ra : Int) < (rb : Int)) := by omega
            have HREL := Aside0.mk (HC2.out.join HG.out.2.2 HX.out HRA2.out HRB2.out (M := rb) (m := ra) (by omega) (by omega))
            go_wp2_with fail
            go_roundg (E.length - (k + 1))
            case rel => exact ⟨k + 1, _, by omega, rfl, by go_num, HREL⟩
            case measure => omega
          · subst heq
            have HREL := Aside0.mk (HC2.out.join HG.out.2.2 HX.out HRA2.out HRB2.out (M := ra) (m := ra) (by omega) (by omega))
            go_wp2_with fail
            go_roundg (E.length - (k + 1))
            case rel => exact ⟨k + 1, _, by omega, rfl, by go_num, HREL⟩
            case measure => omega
          · have hc : ((rb : Int) < (ra : Int)) := by omega
            have HREL := Aside0.mk (HC2.out.join HG.out.2.2 HX.out HRA2.out HRB2.out (M := ra) (m := rb) (by omega) (by omega))
            go_wp2_with fail
            go_roundg (E.length - (k + 1))
            case rel => exact ⟨k + 1, _, by omega, rfl, by go_num, HREL⟩
            case measure => omega
      · obtain rfl : k = E.length := by omega
        have HC := Aside0.mk (show CI w w1.heap.size w2.heap.size n (TE E) P wr by have := HCI.out; rwa [List.take_length] at this)
        clear HCI
        have f1 := (box_cell HC.out.box).1
        go_wp2_with fail
        clear f1
        go_loopg [14, 51] n (fun g' v14 i wr => ∃ (k : Nat) (P : List Nat), k ≤ n ∧ g' = n - k ∧ i = .int .i64 k ∧ Aside0 (CI w w1.heap.size w2.heap.size n (TE E) P wr) ∧ Aside0 (∀ y, y < k → pa P (pa P y) = pa P y))
        case atStart => exact ⟨0, _, Nat.zero_le _, rfl, rfl, HC, ⟨fun y hy => by omega⟩⟩
        case round =>
          clear HC
          obtain ⟨k, P, hk, rfl, rfl, HC, HF⟩ := hrel
          by_cases hlt3 : k < n
          · have f1 := (box_cell HC.out.box).1
            go_upto_region 15 with (fail)
            go_region_with (go_at_call 49; refine (head_calls w.heap.size w2.heap.size n k w1.heap.size n P _ hlt3 g1 HC.out.uf (by exact HC.out.box) (by exact HC.out.own)).mono ?_; rintro e W1 ⟨r, P1, rfl, hr1, hk1, ho1, hg0⟩; have hc1 := HC.out.kin hk1 ho1 (grown_undrew hg0); have f2 := (box_cell hc1.box).1; have f3 := hc1.at_ hlt3; have f4 := f3.1; have f5 := f3.2; have HC1 := Aside0.mk (hc1.point hlt3 (hk1.root k hlt3 r hr1)); have HF1 := Aside0.mk (flat_step HC.out.uf hk1 hlt3 hr1 HF.out); clear hr1 hk1 ho1 hg0 hc1 f3)
            all_goals
              go_wp2_with fail
              go_roundg (n - (k + 1))
              case rel => exact ⟨k + 1, _, by omega, rfl, by go_num, HC1, HF1⟩
              case measure => omega
          · obtain rfl : k = n := by omega
            have f1 := (box_cell HC.out.box).1
            go_wp2_with fail
            go_ret2
            exact ⟨HC.out.bel, .inr ⟨HG.out, k, _, P, rfl, rfl, HC.out.own, HC.out.uf.len, fun x hx => HC.out.tells.least HC.out.uf (fun a b h => te_lt HG.out.2.2 h) HF.out hx⟩⟩

end Go.Proofs.Ytdddbjaggfaofaa.Mem
