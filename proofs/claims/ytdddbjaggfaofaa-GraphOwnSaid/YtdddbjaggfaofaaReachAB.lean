/- graphs.Reach: its memory and its walk, by their contracts. -/
import Derived.Test.YtdddbjaggfaofaaRowsAB

namespace Go.Proofs.Ytdddbjaggfaofaa.Mem
open Go.RowKit Go.Proofs.Ytdddbjaggfaofaa.GM Go.Proofs.YtdddbjaggfaofaaW.PrintWords
set_option linter.unusedVariables false

abbrev ptr (b : Nat) : Value := .pointer (some ⟨b, 0, none⟩)
theorem tys_ne {w : World} {g g' : Nat} {e e' : TypeId} {cs cs' : Array Value} (h : w.heap[g]? = some (.cells cs e (0, 0))) (h' : w.heap[g']? = some (.cells cs' e' (0, 0))) (hne : e ≠ e') : g ≠ g' := by
  rintro rfl
  rw [h] at h'
  injection h' with h'
  injection h' with _ ht
  exact hne ht
theorem blk_row_ne {w : World} {base g : Nat} {e e' : TypeId} {size n : Nat} {v : Value} {xs : List Value} {cs : Array Value} (h : w.ownsRow base e size v n xs) (hg : w.heap[g]? = some (.cells cs e' (0, 0))) (hne : e ≠ e') : some g ≠ v.ownBlock := by
  intro hb
  obtain ⟨cs', hc⟩ := own_typed h g hb.symm
  exact tys_ne hc hg hne rfl
theorem blk_lt' {w : World} {g : Nat} {o : Obj} (h : w.heap[g]? = some o) : g < w.heap.size := (Array.getElem?_eq_some_iff.1 h).1
theorem blk_below' {w w1 : World} {g : Nat} {o : Obj} (h : w.heap[g]? = some o) (hb : Below w.heap.size w w1) : w1.heap[g]? = some o := (hb.block g (blk_lt' h)).trans h
theorem blk_grown' {w w1 : World} {g : Nat} {o : Obj} {row : Option Nat} (h : w.heap[g]? = some o) (hb : w.grownBy w1 row) (hne : some g ≠ row) : w1.heap[g]? = some o := (hb.block g (blk_lt' h) hne).trans h
theorem blk_set_far {w : World} {g g' j : Nat} {o : Obj} (h : w.heap[g]? = some o) (hne : g ≠ g') (u : Value) : (w.setCell ⟨g', j, none⟩ u).heap[g]? = some o := (Below.heap_setCell _ _ _ _ hne).trans h
theorem box_cell {w : World} {g : Nat} {v : Value} {e : TypeId} (h : w.heap[g]? = some (.cells #[v] e (0, 0))) : w.cell? ⟨g, 0, none⟩ = some v ∧ w.frozen? ⟨g, 0, none⟩ = false := by
  constructor
  · simp [World.cell?, h]
  · simp [World.frozen?, h]
theorem box_set {w : World} {g : Nat} {v : Value} {e : TypeId} (h : w.heap[g]? = some (.cells #[v] e (0, 0))) (u : Value) : (w.setCell ⟨g, 0, none⟩ u).heap[g]? = some (.cells #[u] e (0, 0)) := by
  simp [World.setCell, Array.getElem?_modify, h]

theorem OwnB.at_ {w : World} {base g n cap : Nat} {S : List Bool} (h : OwnB w base (.slice (some ⟨g, 0, none⟩) n cap) S) {y : Nat} (hy : y < S.length) :
    w.cell? ⟨g, y, none⟩ = some (.bool (sn S y)) ∧ w.frozen? ⟨g, y, none⟩ = false ∧ n = S.length ∧ base ≤ g := by
  unfold OwnB at h
  have hc := h.cells (g := g) rfl y (.bool (sn S y)) (by
    unfold sn
    rw [List.getElem?_map, List.getD_eq_getElem?_getD, List.getElem?_eq_getElem hy]; rfl)
  rw [add_plain] at hc
  obtain ⟨cs, hcs, _, hb⟩ := own_blk_lt h (b := g) rfl
  refine ⟨by simpa using hc, by simp [World.frozen?, hcs], ?_, hb⟩
  rcases h.2 with ⟨h2, _⟩ | ⟨g', cap', cur, hv, -⟩
  · cases h2
  · cases hv; rfl

theorem OwnB.set_ {w : World} {base g n cap : Nat} {S : List Bool} (h : OwnB w base (.slice (some ⟨g, 0, none⟩) n cap) S) {y : Nat} (hy : y < S.length) (b : Bool) :
    OwnB (w.setCell ⟨g, y, none⟩ (.bool b)) base (.slice (some ⟨g, 0, none⟩) n cap) (S.set y b) ∧ w.grownBy (w.setCell ⟨g, y, none⟩ (.bool b)) (some g) := by
  obtain ⟨_, _, hn, _⟩ := h.at_ hy
  subst hn
  unfold OwnB at h ⊢
  have := h.stored y (.bool b)
  refine ⟨?_, this.2⟩
  have h1 := this.1
  rw [List.length_set, List.map_set]
  exact h1

theorem OwnB.made (W : World) (base n : Nat) (hb : base ≤ W.heap.size) (hn : n ≤ 131072) :
    OwnB (W.alloc (.cells (madeCells #[.bool false] n) 4)) base (.slice (some ⟨W.heap.size, 0, none⟩) n n) (List.replicate n false) := by
  have h := World.ownsRow_lit (base := base) (e := 4) (size := 1) W (madeCells #[.bool false] n) n hb (by unfold maxLen; omega) (by simp [size_madeCells])
  have hl : (madeCells #[Value.bool false] n).toList = (List.replicate n false).map Value.bool := by
    apply List.ext_getElem
    · simp [madeCells]
    · intro i h1 h2
      simp [madeCells, Nat.mod_one]
  rw [hl] at h
  unfold OwnB
  simpa using h

/-- A world by a name of its own. -/
theorem ex_world {p : World → Prop} {W : World} (h : p W) : ∃ w', W = w' ∧ Aside0 (p w') := ⟨W, rfl, ⟨h⟩⟩

/-- The closure itself. -/
abbrev walkF (bs bo bn bw : Nat) : Value := .func (.func 43) #[] #[ptr bs, ptr bo, ptr bn, ptr bw]

/-- What holds while Reach walks: its four captured variables, marks S, the list O. -/
structure RS (w0 : World) (b0 : Nat) (vn : Value) (vals : List Value) (R : List (List Nat)) (bs bo bn bw : Nat) (vs vo : Value) (S : List Bool) (O : List Nat) (w : World) : Prop where
  bel : Below w0.heap.size w0 w
  rows : OwnRows w0 b0 vn vals R
  hs : w.heap[bs]? = some (.cells #[vs] 80 (0, 0))
  ho : w.heap[bo]? = some (.cells #[vo] 33 (0, 0))
  hn : w.heap[bn]? = some (.cells #[vn] 45 (0, 0))
  hw : w.heap[bw]? = some (.cells #[walkF bs bo bn bw] 81 (0, 0))
  lo : w0.heap.size ≤ bo
  mS : OwnB w w0.heap.size vs S
  mO : OwnN w w0.heap.size vo O

section
variable {w0 w w1 : World} {b0 : Nat} {vn : Value} {vals : List Value} {R : List (List Nat)} {bs bo bn bw : Nat} {vs vo : Value} {S : List Bool} {O : List Nat}

theorem RS.step (h : RS w0 b0 vn vals R bs bo bn bw vs vo S O w) (hb : Below w.heap.size w w1) : RS w0 b0 vn vals R bs bo bn bw vs vo S O w1 where
  bel := h.bel.trans (hb.mono h.bel.size)
  rows := h.rows
  hs := blk_below' h.hs hb
  ho := blk_below' h.ho hb
  hn := blk_below' h.hn hb
  hw := blk_below' h.hw hb
  lo := h.lo
  mS := own_below h.mS hb
  mO := own_below h.mO hb

theorem RS.mark {g n c x : Nat} (h : RS w0 b0 vn vals R bs bo bn bw (.slice (some ⟨g, 0, none⟩) n c) vo S O w) (hx : x < S.length) :
    RS w0 b0 vn vals R bs bo bn bw (.slice (some ⟨g, 0, none⟩) n c) vo (S.set x true) O (w.setCell ⟨g, x, none⟩ (.bool true)) := by
  obtain ⟨h1, h2, h3, h4⟩ := h.mS.at_ hx
  obtain ⟨k1, k2⟩ := h.mS.set_ hx true
  exact {
    bel := h.bel.setCell h4 _
    rows := h.rows
    hs := blk_grown' h.hs k2 (blk_row_ne h.mS h.hs (by decide))
    ho := blk_grown' h.ho k2 (blk_row_ne h.mS h.ho (by decide))
    hn := blk_grown' h.hn k2 (blk_row_ne h.mS h.hn (by decide))
    hw := blk_grown' h.hw k2 (blk_row_ne h.mS h.hw (by decide))
    lo := h.lo
    mS := k1
    mO := own_set_far h.mO (own_types_ne h.mS h.mO (by decide) rfl) _ }

/-- Behind the append, ahead of the store. -/
theorem RS.at_out (h : RS w0 b0 vn vals R bs bo bn bw vs vo S O w) (hg : w.grownBy w1 vo.ownBlock) : w1.cell? ⟨bo, 0, none⟩ = some vo ∧ w1.frozen? ⟨bo, 0, none⟩ = false :=
  box_cell (blk_grown' h.ho hg (blk_row_ne h.mO h.ho (by decide)))

theorem RS.push {v1 : Value} {O1 : List Nat} (h : RS w0 b0 vn vals R bs bo bn bw vs vo S O w) (hg : w.grownBy w1 vo.ownBlock) (ho : OwnN w1 w0.heap.size v1 O1) :
    RS w0 b0 vn vals R bs bo bn bw vs v1 S O1 (w1.setCell ⟨bo, 0, none⟩ v1) := by
  have e1 := blk_grown' h.hs hg (blk_row_ne h.mO h.hs (by decide))
  have e2 := blk_grown' h.ho hg (blk_row_ne h.mO h.ho (by decide))
  have e3 := blk_grown' h.hn hg (blk_row_ne h.mO h.hn (by decide))
  have e4 := blk_grown' h.hw hg (blk_row_ne h.mO h.hw (by decide))
  have s1 : OwnB w1 w0.heap.size vs S := own_grown h.mS hg (fun b hb => own_types_ne h.mS h.mO (by decide) hb)
  exact {
    bel := (h.bel.grown hg h.bel.size (fun b hb => (own_blk_lt h.mO hb).choose_spec.2.2)).setCell h.lo _
    rows := h.rows
    hs := blk_set_far e1 (tys_ne e1 e2 (by decide)) _
    ho := box_set e2 _
    hn := blk_set_far e3 (tys_ne e3 e2 (by decide)) _
    hw := blk_set_far e4 (tys_ne e4 e2 (by decide)) _
    lo := h.lo
    mS := own_set_far s1 (fun e => blk_row_ne s1 e2 (by decide) e.symm) _
    mO := own_set_far ho (fun e => blk_row_ne ho e2 (by decide) e.symm) _ }
end

end Go.Proofs.Ytdddbjaggfaofaa.Mem

namespace Go.Proofs.Ytdddbjaggfaofaa.Mem
open Go.RowKit Go.Proofs.Ytdddbjaggfaofaa.GM Go.Proofs.YtdddbjaggfaofaaW.PrintWords
set_option linter.unusedVariables false

theorem row_at {w : World} {base : Nat} {A : Option Addr} {n c : Nat} {xs : List Nat} (h : OwnN w base (.slice A n c) xs) : n = xs.length := by
  rcases h.2 with ⟨h1, h2⟩ | ⟨g, cap, cur, hv, -⟩
  · cases h1; exact h2.symm
  · cases hv; rfl

theorem row_cell {w : World} {base : Nat} {A : Option Addr} {n c : Nat} {xs : List Nat} (h : OwnN w base (.slice A n c) xs) {k : Nat} (hk : k < xs.length) :
    ∃ g, A = some ⟨g, 0, none⟩ ∧ w.cell? ⟨g, k, none⟩ = some (.int .i64 (xs[k] : Nat)) ∧ w.frozen? ⟨g, k, none⟩ = false := by
  obtain ⟨g, cap, hv, hb, hlt⟩ := h.form (by omega)
  cases hv
  have hc := h.cells (g := g) rfl k (encN xs[k]) (by rw [List.getElem?_map, List.getElem?_eq_getElem hk]; rfl)
  rw [add_plain] at hc
  obtain ⟨cs, hcs⟩ := own_typed h g rfl
  exact ⟨g, rfl, by simpa [encN] using hc, by simp [World.frozen?, hcs]⟩

set_option maxHeartbeats 1000000 in
set_option maxRecDepth 100000 in
theorem walk_calls (w0 : World) (b0 gn n cn gs : Nat) (vals : List Value) (R : List (List Nat)) (bs bo bn bw : Nat) (hR : R.length = n) (hRn : ∀ a b, b ∈ nb R a → b < n) (hRl : ∀ a, (nb R a).length ≤ n) (hn : n ≤ 131072) (m : Nat) :
    ∀ (x : Nat) (vo : Value) (S : List Bool) (O : List Nat) (w : World), S.count false ≤ m → x < n → sn S x = false → S.length = n → O.length + S.count false ≤ 131072 →
      RS w0 b0 (.slice (some ⟨gn, 0, none⟩) n cn) vals R bs bo bn bw (.slice (some ⟨gs, 0, none⟩) n n) vo S O w →
      Calls Try.prog 43 #[.int .i64 x, ptr bs, ptr bo, ptr bn, ptr bw] w fun e w' => e = .returned (.tuple #[]) ∧
        ∃ vo' S' O', RS w0 b0 (.slice (some ⟨gn, 0, none⟩) n cn) vals R bs bo bn bw (.slice (some ⟨gs, 0, none⟩) n n) vo' S' O' w' ∧ Walked R x S O S' O' := by
  induction m with
  | zero =>
    intro x vo S O w hm hx hs hl hc hI
    have := count_set (S := S) (x := x) (by omega) hs
    omega
  | succ m ih =>
    intro x vo S O w hm hx hs hl hc hI
    have hcs := count_set (S := S) (x := x) (by omega) hs
    have IH := Aside0.mk ih
    have HST := Aside0.mk (Walking.start (R := R) (O := O) (by omega) hs)
    have HS := Aside0.mk hs
    have HR := Aside0.mk hR
    have HL := Aside0.mk hl
    have HI := Aside0.mk hI
    have HC := Aside0.mk hc
    have HCS := Aside0.mk hcs
    have HM := Aside0.mk hm
    have HRN := Aside0.mk hRn
    have f1 := (box_cell hI.hs).1
    obtain ⟨f2, f3, -, -⟩ := hI.mS.at_ (y := x) (by omega)
    clear hI hc hcs hm ih hl hs hRn hR
    go_enter Try.func43, Try.ntmps43
    go_upto_region 1 with (fail)
    obtain ⟨w1, hw1⟩ : ∃ w1, w1 = w.setCell ⟨gs, x, none⟩ (.bool true) := ⟨_, rfl⟩
    have HI1 := Aside0.mk (HI.out.mark (x := x) (by have := HL.out; omega))
    rw [← hw1] at HI1 ⊢
    clear hw1 f1 f2 f3
    have f1 := (box_cell HI1.out.ho).1
    go_upto_region 2 with (at_builtin; refine print_append (w0 := w0) (W := w1) w0.heap.size rfl (.tmp 11) (.tmp 13) 33 3 (.int .i64 0) 8 rfl Try.underlying33 info3 rfl (by decide) vo (O.map encN) (encN x) rfl rfl rfl ?aO ?aB ?aS ?aL ?_; (case aO => rw [List.length_map]; exact HI1.out.mO); (case aB => exact HI1.out.bel); (case aS => exact HI1.out.bel.size); (case aL => rw [List.length_map]; have := HC.out; omega); intro v1 w2 ho hb hg hat; obtain ⟨A1, C1, he⟩ := own_slice ho; subst he; have hcg := HI1.out.at_out hg; have hcg1 := hcg.1; have hcg2 := hcg.2; clear hcg; have HREL := Aside0.mk (HI1.out.push (O1 := O ++ [x]) hg (by unfold OwnN; simpa using ho)); clear hb hg hat ho)
    obtain ⟨w3, hw3, HI2⟩ := ex_world HREL.out
    rw [hw3]
    clear hw3 HREL f1
    obtain ⟨xv, hxv, hcell, hfroz, hown, hgb, hglt⟩ := (HI2.out.rows.below HI2.out.bel).get (i := x) (by have := HR.out; omega)
    obtain ⟨An, Cn, he⟩ := own_slice hown
    subst he
    have f1 := (box_cell HI2.out.hn).1
    have HXV := Aside0.mk hxv
    clear hown hxv hfroz hgb hglt
    go_wp2_with fail
    clear f1 hcell
    have hkl := hRl x
    go_loopg [7, 20] (nb R x).length (fun g u7 i wr => ∃ (k : Nat) (vo' : Value) (S' : List Bool) (O' : List Nat), k ≤ (nb R x).length ∧ g = (nb R x).length - k ∧ i = .int .i64 k ∧
      Aside0 (RS w0 b0 (.slice (some ⟨gn, 0, none⟩) n cn) vals R bs bo bn bw (.slice (some ⟨gs, 0, none⟩) n n) vo' S' O' wr) ∧ Aside0 (Walking R x S O k S' O'))
    case atStart => exact ⟨0, _, _, _, Nat.zero_le _, rfl, rfl, HI2, HST⟩
    case round =>
      obtain ⟨k, vo', S', O', hk, rfl, rfl, HI3, HW⟩ := hrel
      by_cases hlt : k < (nb R x).length
      · have hin := (HI3.out.rows.below HI3.out.bel).inner x _ HXV.out
        obtain ⟨g, rfl, c1, -⟩ := row_cell hin hlt
        obtain ⟨z, hz⟩ : ∃ z, z = (nb R x)[k] := ⟨_, rfl⟩
        rw [← hz] at c1
        have hz2 : (nb R x)[k]? = some z := by rw [hz, List.getElem?_eq_getElem hlt]
        have hzn : z < n := HRN.out x z (by rw [hz]; exact List.getElem_mem hlt)
        have hl' : S'.length = n := by rw [HW.out.len]; exact HL.out
        have f1 := (box_cell HI3.out.hs).1
        obtain ⟨f2, -, -, -⟩ := HI3.out.mS.at_ (y := z) (by omega)
        have f3 := (box_cell HI3.out.hw).1
        have HZ2 := Aside0.mk hz2
        have HL' := Aside0.mk hl'
        clear hz hz2 hin hl'
        cases hsz : sn S' z with
        | true =>
          rw [hsz] at f2
          have HSZ := Aside0.mk hsz
          clear hsz
          go_wp2_with fail
          go_roundg ((nb R x).length - (k + 1))
          case rel => exact ⟨k + 1, vo', S', O', by omega, rfl, by go_num, HI3, ⟨HW.out.skip HZ2.out HSZ.out⟩⟩
          case measure => omega
        | false =>
          rw [hsz] at f2
          have HSZ := Aside0.mk hsz
          clear hsz
          go_wp2_with fail
          have hcount : S'.count false ≤ m := by have := HW.out.count; have := HW.out.more; have := HM.out; omega
          refine (IH.out z vo' S' O' _ hcount hzn HSZ.out HL'.out (by have := HW.out.count; have := HC.out; omega) HI3.out).mono ?_
          rintro e w4 ⟨rfl, vo2, S2, O2, hI4, hW4⟩
          have HI4 := Aside0.mk hI4
          have HW4 := Aside0.mk hW4
          clear hI4 hW4 hcount
          go_wp2_with fail
          go_roundg ((nb R x).length - (k + 1))
          case rel => exact ⟨k + 1, vo2, S2, O2, by omega, rfl, by go_num, HI4, ⟨HW.out.go HZ2.out HS.out HW4.out⟩⟩
          case measure => omega
      · obtain rfl : k = (nb R x).length := by omega
        go_wp2_with fail
        go_end0
        exact ⟨rfl, _, _, _, HI3.out, HW.out.fin⟩

end Go.Proofs.Ytdddbjaggfaofaa.Mem
