/- places: where each thing stands in an order of them all. -/
import Derived.Test.YtdddbjaggfaofaaOrders
namespace Go.Proofs.Ytdddbjaggfaofaa.Mem
open Go.RowKit Go.Proofs.Ytdddbjaggfaofaa.GM Go.Proofs.YtdddbjaggfaofaaW.PrintWords
set_option linter.unusedVariables false

/-- A slice of whole numbers of the call's own. -/
def OwnZ (w : World) (base : Nat) (v : Value) (zs : List Int) : Prop := w.ownsRow base 3 1 v zs.length (zs.map (Value.int .i64))

theorem OwnZ.of {w : World} {base : Nat} {v : Value} {xs : List Nat} (h : OwnN w base v xs) : OwnZ w base v (xs.map Int.ofNat) := by
  unfold OwnZ
  rw [List.length_map, List.map_map]
  exact h
theorem OwnZ.at_ {w : World} {base g n c : Nat} {P : List Int} (h : OwnZ w base (.slice (some ⟨g, 0, none⟩) n c) P) {x : Nat} {z : Int} (hx : P[x]? = some z) :
    w.cell? ⟨g, x, none⟩ = some (.int .i64 z) ∧ w.frozen? ⟨g, x, none⟩ = false := by
  have hc := h.cells (g := g) rfl x (.int .i64 z) (by rw [List.getElem?_map, hx]; rfl)
  rw [add_plain] at hc
  obtain ⟨cs, hcs⟩ := own_typed h g rfl
  exact ⟨by simpa using hc, by simp [World.frozen?, hcs]⟩
theorem OwnZ.set_ {w : World} {base g n c : Nat} {P : List Int} (h : OwnZ w base (.slice (some ⟨g, 0, none⟩) n c) P) (hn : n = P.length) (x : Nat) (z : Int) :
    OwnZ (w.setCell ⟨g, x, none⟩ (.int .i64 z)) base (.slice (some ⟨g, 0, none⟩) n c) (P.set x z) := by
  subst hn
  unfold OwnZ at h ⊢
  have := h.stored x (.int .i64 z)
  rw [List.length_set, List.map_set]
  exact this.1

/-- N tells where each stands in D. -/
def Pos (D N : List Nat) : Prop := ∀ i x : Nat, D[i]? = some x → pa N x = i

theorem perm_mem {n : Nat} {D : List Nat} (hd : D.Nodup) (hlt : ∀ x ∈ D, x < n) (hl : D.length = n) : ∀ x, x < n → x ∈ D := by
  intro x hx
  refine Classical.byContradiction fun hno => ?_
  have h1 : (x :: D).Nodup := List.nodup_cons.2 ⟨hno, hd⟩
  have h2 := GM.nodup_lt_length (n := n) h1 (fun y hy => by
    rcases List.mem_cons.1 hy with e | e
    · omega
    · exact hlt y e)
  rw [List.length_cons] at h2
  omega

def PlacesPost (w : World) (n : Nat) (D : List Nat) (e : Ending) (w' : World) : Prop :=
  ∃ N, e = .returned (.tuple #[.slice (some ⟨w.heap.size, 0, none⟩) n n, .bool true]) ∧ OwnN w' w.heap.size (.slice (some ⟨w.heap.size, 0, none⟩) n n) N ∧ N.length = n ∧ Pos D N ∧ Below w.heap.size w w'

theorem place_fin {n : Nat} {D : List Nat} {zs : List Int} (hz : zs.length = n) (h : ∀ i x : Nat, D[i]? = some x → zs[x]? = some (i : Int)) (hall : ∀ x, x < n → x ∈ D) (hlt : ∀ x ∈ D, x < n) : ∃ N : List Nat, N.length = n ∧ zs = N.map Int.ofNat ∧ Pos D N := by
  refine ⟨zs.map Int.toNat, by simpa using hz, ?_, fun i x hx => ?_⟩
  · apply List.ext_getElem
    · simp
    · intro x h1 h2
      simp only [List.getElem_map]
      obtain ⟨i, hi, e⟩ := List.mem_iff_getElem.1 (hall x (by omega))
      have h3 := h i x (by rw [List.getElem?_eq_getElem hi, e])
      rw [List.getElem?_eq_getElem h1] at h3
      rw [Option.some.inj h3]
      rfl
  · have h3 := h i x hx
    have hxn := hlt x (List.mem_of_getElem? hx)
    obtain ⟨h1, h4⟩ := List.getElem?_eq_some_iff.1 h3
    rw [pa_get (by simpa using h1), List.getElem_map, h4]
    rfl

set_option maxHeartbeats 2000000 in
set_option maxRecDepth 100000 in
theorem places_calls (n : Nat) (D : List Nat) (A : Option Addr) (c : Nat) (w : World) (hD : RN w A n D) (hn : n ≤ 131072) (hd : D.Nodup) (hlt : ∀ x ∈ D, x < n) :
    Calls Try.prog 35 #[.int .i64 n, .slice A n c] w fun e w' => PlacesPost w n D e w' := by
  have hmk := run_make_row' (P := Try.prog) 33 3 (.int .i64 0) 8 Try.underlying33 info3 rfl .i64 .i64 n (by omega) (by omega)
  have HM := Aside0.mk (OwnZ.of (OwnN.made w w.heap.size n (Nat.le_refl _) hn))
  have hdl := hD.1
  have HD := Aside0.mk hD
  have HND := Aside0.mk (And.intro hd (And.intro hlt (perm_mem hd hlt hdl.symm)))
  have HDL := Aside0.mk hdl
  clear hD hd hlt hdl
  go_enter Try.func35, Try.ntmps35
  go_wp2_with fail
  clear hmk
  obtain ⟨g, hg⟩ : ∃ g, g = w.heap.size := ⟨_, rfl⟩
  obtain ⟨W, hW, HW⟩ := ex_world (p := fun W => OwnZ W w.heap.size (.slice (some ⟨g, 0, none⟩) n n) ((List.replicate n 0).map Int.ofNat) ∧ Below w.heap.size w W) (W := w.alloc (Obj.cells (madeCells #[Value.int IntKind.i64 0] n) 3)) ⟨by rw [hg]; exact HM.out, (Below.refl _ _).alloc (Nat.le_refl _) _⟩
  rw [hW, ← hg]
  have HG := Aside0.mk hg
  clear hW HM hg
  go_loopg [14] n (fun gk v14 wr => ∃ (k : Nat) (zs : List Int), k ≤ n ∧ gk = n - k ∧ v14 = .int .i64 k ∧ Aside0 (OwnZ wr w.heap.size (.slice (some ⟨g, 0, none⟩) n n) zs ∧ Below w.heap.size w wr) ∧ Aside0 (zs.length = n ∧ ∀ x, x < k → zs[x]? = some (-1)))
  case atStart => exact ⟨0, _, Nat.zero_le _, rfl, rfl, HW, ⟨by simp, fun x hx => by omega⟩⟩
  case round =>
    clear HW
    obtain ⟨k, zs, hk, rfl, rfl, HW, HZ⟩ := hrel
    by_cases hlt : k < n
    · obtain ⟨f1, f2⟩ := HW.out.1.at_ (x := k) (z := zs[k]'(by rw [HZ.out.1]; exact hlt)) (by rw [List.getElem?_eq_getElem])
      have HS := Aside0.mk (HW.out.1.set_ HZ.out.1.symm k (-1))
      have HB := Aside0.mk (HW.out.2.setCell (p := ⟨g, k, none⟩) (by rw [HG.out]; exact Nat.le_refl _) (.int .i64 (-1)))
      have HZ2 := Aside0.mk (show (zs.set k (-1)).length = n ∧ ∀ x, x < k + 1 → (zs.set k (-1))[x]? = some (-1) from ⟨by rw [List.length_set]; exact HZ.out.1, fun x hx => by
        rw [List.getElem?_set]
        by_cases e : k = x
        · rw [if_pos e, if_pos (by rw [HZ.out.1]; exact hlt)]
        · rw [if_neg e]; exact HZ.out.2 x (by omega)⟩)
      go_wp2_with fail
      go_roundg (n - (k + 1))
      case rel => exact ⟨k + 1, _, by omega, rfl, by go_num, ⟨HS.out, HB.out⟩, HZ2⟩
      case measure => omega
    · obtain rfl : k = n := by omega
      go_wp2_with fail
      go_loopg [23] k (fun gk v23 wr => ∃ (j : Nat) (zs : List Int), j ≤ k ∧ gk = k - j ∧ v23 = .int .i64 j ∧ Aside0 (OwnZ wr w.heap.size (.slice (some ⟨g, 0, none⟩) k k) zs ∧ Below w.heap.size w wr) ∧
        Aside0 (zs.length = k ∧ (∀ i x : Nat, i < j → D[i]? = some x → zs[x]? = some (i : Int)) ∧ ∀ x, x < k → x ∉ D.take j → zs[x]? = some (-1)))
      case atStart => exact ⟨0, zs, Nat.zero_le _, rfl, rfl, HW, ⟨HZ.out.1, fun i x hi => by omega, fun x hx _ => HZ.out.2 x hx⟩⟩
      case round =>
        clear HW HZ
        obtain ⟨j, zs, hj, rfl, rfl, HW, HZ⟩ := hrel
        by_cases hlt : j < k
        · have hjl : j < D.length := by have := HDL.out; omega
          obtain ⟨ad, rfl, d1⟩ := (HD.out.below HW.out.2).2.2 j hjl
          obtain ⟨x, hx⟩ : ∃ x, x = D[j] := ⟨_, rfl⟩
          rw [← hx] at d1
          have hxj : D[j]? = some x := by rw [hx, List.getElem?_eq_getElem hjl]
          have hxk : x < k := HND.out.2.1 x (List.mem_of_getElem? hxj)
          have hxt : x ∉ D.take j := fun hm => by
            obtain ⟨i, hi, e⟩ := List.mem_iff_getElem.1 hm
            rw [List.length_take] at hi
            rw [List.getElem_take] at e
            exact List.pairwise_iff_getElem.1 HND.out.1 i j (by omega) hjl (by omega) (by rw [e, hx])
          obtain ⟨f1, f2⟩ := HW.out.1.at_ (HZ.out.2.2 x hxk hxt)
          have HS := Aside0.mk (HW.out.1.set_ HZ.out.1.symm x (j : Int))
          have HB := Aside0.mk (HW.out.2.setCell (p := ⟨g, x, none⟩) (by rw [HG.out]; exact Nat.le_refl _) (.int .i64 (j : Int)))
          have HZ2 := Aside0.mk (show (zs.set x (j : Int)).length = k ∧ (∀ i y : Nat, i < j + 1 → D[i]? = some y → (zs.set x (j : Int))[y]? = some (i : Int)) ∧ ∀ y, y < k → y ∉ D.take (j + 1) → (zs.set x (j : Int))[y]? = some (-1) from by
            refine ⟨by rw [List.length_set]; exact HZ.out.1, fun i y hi hy => ?_, fun y hy hm => ?_⟩
            · rw [List.getElem?_set]
              by_cases e : x = y
              · rw [if_pos e, if_pos (by rw [HZ.out.1]; exact hxk)]
                have : i = j := by
                  rcases Nat.lt_or_ge i j with c | c
                  · exfalso
                    apply hxt
                    rw [e, List.mem_iff_getElem?]
                    exact ⟨i, by rw [List.getElem?_take, if_pos c]; exact hy⟩
                  · omega
                rw [this]
              · rw [if_neg e]
                have : i ≠ j := fun e2 => by rw [e2, hxj] at hy; exact e (Option.some.inj hy)
                exact HZ.out.2.1 i y (by omega) hy
            · rw [List.getElem?_set]
              have h1 : x ≠ y := fun e => hm ((mem_take_succ hxj).2 (.inr e.symm))
              rw [if_neg h1]
              exact HZ.out.2.2 y hy (fun h => hm ((mem_take_succ hxj).2 (.inl h))))
          clear hx hxj hxt
          go_wp2_with fail
          go_roundg (k - (j + 1))
          case rel => exact ⟨j + 1, _, by omega, rfl, by go_num, ⟨HS.out, HB.out⟩, HZ2⟩
          case measure => omega
        · obtain rfl : j = k := by omega
          obtain ⟨N, hN, hz, hpos⟩ := place_fin HZ.out.1 (fun i x hx => HZ.out.2.1 i x (by have := (List.getElem?_eq_some_iff.1 hx).1; have := HDL.out; omega) hx) HND.out.2.2 HND.out.2.1
          have HNN := Aside0.mk (show OwnN wr w.heap.size (.slice (some ⟨g, 0, none⟩) j j) N from by
            have h1 := HW.out.1
            rw [hz] at h1
            unfold OwnZ at h1
            rw [List.length_map, List.map_map] at h1
            exact h1)
          have HN := Aside0.mk (And.intro hN hpos)
          have hjj : ((j : Int) == (j : Int)) = true := by simp
          clear hN hz hpos
          go_wp2_with fail
          go_ret2
          have hfin := HNN.out
          rw [HG.out] at hfin
          exact ⟨N, by rw [← HG.out]; rfl, hfin, HN.out.1, HN.out.2, HW.out.2⟩

end Go.Proofs.Ytdddbjaggfaofaa.Mem
