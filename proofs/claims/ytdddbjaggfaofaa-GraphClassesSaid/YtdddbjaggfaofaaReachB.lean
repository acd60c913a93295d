/- graphs.Reach: the walk in depth, by its contract. -/
import Derived.Test.YtdddbjaggfaofaaReachA
namespace Go.Proofs.Ytdddbjaggfaofaa.Mem
open Go.RowKit Go.Proofs.Ytdddbjaggfaofaa.GM Go.Proofs.YtdddbjaggfaofaaW.PrintWords
set_option linter.unusedVariables false

theorem row_at {w : World} {base : Nat} {A : Option Addr} {n c : Nat} {xs : List Nat} (h : OwnN w base (.slice A n c) xs) : n = xs.length := by
  rcases h.2 with ⟨h1, h2⟩ | ⟨g, cap, cur, hv, -⟩
  · cases h1; exact h2.symm
  · cases hv; rfl

theorem row_cell {w : World} {base : Nat} {A : Option Addr} {n c : Nat} {xs : List Nat} (h : OwnN w base (.slice A n c) xs) {k : Nat} (hk : k < xs.length) :
    ∃ g, A = some ⟨g, 0, none⟩ ∧ w.cell? ⟨g, k, none⟩ = some (.int .i64 (xs[k] : Nat)) ∧ w.frozen? ⟨g, k, none⟩ = false := by
  obtain ⟨g, cap, hv, hb, hlt⟩ := h.form (by omega)
  cases hv
  have hc := h.cells (g := g) rfl k (encN xs[k]) (by rw [List.getElem?_map, List.getElem?_eq_getElem hk]; rfl)
  rw [add_plain] at hc
  obtain ⟨cs, hcs⟩ := own_typed h g rfl
  exact ⟨g, rfl, by simpa [encN] using hc, by simp [World.frozen?, hcs]⟩

set_option maxHeartbeats 1000000 in
set_option maxRecDepth 100000 in
theorem walk_calls (w0 : World) (b0 gn n cn gs : Nat) (vals : List Value) (R : List (List Nat)) (bs bo bn bw : Nat) (hR : R.length = n) (hRn : ∀ a b, b ∈ nb R a → b < n) (hRl : ∀ a, (nb R a).length ≤ n) (hn : n ≤ 131072) (m : Nat) :
    ∀ (x : Nat) (vo : Value) (S : List Bool) (O : List Nat) (w : World), S.count false ≤ m → x < n → sn S x = false → S.length = n → O.length + S.count false ≤ 131072 →
      RS w0 b0 (.slice (some ⟨gn, 0, none⟩) n cn) vals R bs bo bn bw (.slice (some ⟨gs, 0, none⟩) n n) vo S O w →
      Calls Try.prog 43 #[.int .i64 x, ptr bs, ptr bo, ptr bn, ptr bw] w fun e w' => e = .returned (.tuple #[]) ∧
        ∃ vo' S' O', RS w0 b0 (.slice (some ⟨gn, 0, none⟩) n cn) vals R bs bo bn bw (.slice (some ⟨gs, 0, none⟩) n n) vo' S' O' w' ∧ Walked R x S O S' O' := by
  induction m with
  | zero =>
    intro x vo S O w hm hx hs hl hc hI
    have := count_set (S := S) (x := x) (by omega) hs
    omega
  | succ m ih =>
    intro x vo S O w hm hx hs hl hc hI
    have hcs := count_set (S := S) (x := x) (by omega) hs
    have IH := Aside0.mk ih
    have HST := Aside0.mk (Walking.start (R := R) (O := O) (by omega) hs)
    have HS := Aside0.mk hs
    have HR := Aside0.mk hR
    have HL := Aside0.mk hl
    have HI := Aside0.mk hI
    have HC := Aside0.mk hc
    have HCS := Aside0.mk hcs
    have HM := Aside0.mk hm
    have HRN := Aside0.mk hRn
    have f1 := (box_cell hI.hs).1
    obtain ⟨f2, f3, -, -⟩ := hI.mS.at_ (y := x) (by omega)
    clear hI hc hcs hm ih hl hs hRn hR
    go_enter Try.func43, Try.ntmps43
    go_upto_region 1 with (fail)
    obtain ⟨w1, hw1⟩ : ∃ w1, w1 = w.setCell ⟨gs, x, none⟩ (.bool true) := ⟨_, rfl⟩
    have HI1 := Aside0.mk (HI.out.mark (x := x) (by have := HL.out; omega))
    rw [← hw1] at HI1 ⊢
    clear hw1 f1 f2 f3
    have f1 := (box_cell HI1.out.ho).1
    go_upto_region 2 with (at_builtin; refine print_append (w0 := w0) (W := w1) w0.heap.size rfl (.tmp 11) (.tmp 13) 33 3 (.int .i64 0) 8 rfl Try.underlying33 info3 rfl (by decide) vo (O.map encN) (encN x) rfl rfl rfl ?aO ?aB ?aS ?aL ?_; (case aO => rw [List.length_map]; exact HI1.out.mO); (case aB => exact HI1.out.bel); (case aS => exact HI1.out.bel.size); (case aL => rw [List.length_map]; have := HC.out; omega); intro v1 w2 ho hb hg hat; obtain ⟨A1, C1, he⟩ := own_slice ho; subst he; have hcg := HI1.out.at_out hg; have hcg1 := hcg.1; have hcg2 := hcg.2; clear hcg; have HREL := Aside0.mk (HI1.out.push (O1 := O ++ [x]) hg (by unfold OwnN; simpa using ho)); clear hb hg hat ho)
    obtain ⟨w3, hw3, HI2⟩ := ex_world HREL.out
    rw [hw3]
    clear hw3 HREL f1
    obtain ⟨xv, hxv, hcell, hfroz, hown, hgb, hglt⟩ := (HI2.out.rows.below HI2.out.bel).get (i := x) (by have := HR.out; omega)
    obtain ⟨An, Cn, he⟩ := own_slice hown
    subst he
    have f1 := (box_cell HI2.out.hn).1
    have HXV := Aside0.mk hxv
    clear hown hxv hfroz hgb hglt
    go_wp2_with fail
    clear f1 hcell
    have hkl := hRl x
    go_loopg [7, 20] (nb R x).length (fun g u7 i wr => ∃ (k : Nat) (vo' : Value) (S' : List Bool) (O' : List Nat), k ≤ (nb R x).length ∧ g = (nb R x).length - k ∧ i = .int .i64 k ∧
      Aside0 (RS w0 b0 (.slice (some ⟨gn, 0, none⟩) n cn) vals R bs bo bn bw (.slice (some ⟨gs, 0, none⟩) n n) vo' S' O' wr) ∧ Aside0 (Walking R x S O k S' O'))
    case atStart => exact ⟨0, _, _, _, Nat.zero_le _, rfl, rfl, HI2, HST⟩
    case round =>
      obtain ⟨k, vo', S', O', hk, rfl, rfl, HI3, HW⟩ := hrel
      by_cases hlt : k < (nb R x).length
      · have hin := (HI3.out.rows.below HI3.out.bel).inner x _ HXV.out
        obtain ⟨g, rfl, c1, -⟩ := row_cell hin hlt
        obtain ⟨z, hz⟩ : ∃ z, z = (nb R x)[k] := ⟨_, rfl⟩
        rw [← hz] at c1
        have hz2 : (nb R x)[k]? = some z := by rw [hz, List.getElem?_eq_getElem hlt]
        have hzn : z < n := HRN.out x z (by rw [hz]; exact List.getElem_mem hlt)
        have hl' : S'.length = n := by rw [HW.out.len]; exact HL.out
        have f1 := (box_cell HI3.out.hs).1
        obtain ⟨f2, -, -, -⟩ := HI3.out.mS.at_ (y := z) (by omega)
        have f3 := (box_cell HI3.out.hw).1
        have HZ2 := Aside0.mk hz2
        have HL' := Aside0.mk hl'
        clear hz hz2 hin hl'
        cases hsz : sn S' z with
        | true =>
          rw [hsz] at f2
          have HSZ := Aside0.mk hsz
          clear hsz
          go_wp2_with fail
          go_roundg ((nb R x).length - (k + 1))
          case rel => exact ⟨k + 1, vo', S', O', by omega, rfl, by go_num, HI3, ⟨HW.out.skip HZ2.out HSZ.out⟩⟩
          case measure => omega
        | false =>
          rw [hsz] at f2
          have HSZ := Aside0.mk hsz
          clear hsz
          go_wp2_with fail
          have hcount : S'.count false ≤ m := by have := HW.out.count; have := HW.out.more; have := HM.out; omega
          refine (IH.out z vo' S' O' _ hcount hzn HSZ.out HL'.out (by have := HW.out.count; have := HC.out; omega) HI3.out).mono ?_
          rintro e w4 ⟨rfl, vo2, S2, O2, hI4, hW4⟩
          have HI4 := Aside0.mk hI4
          have HW4 := Aside0.mk hW4
          clear hI4 hW4 hcount
          go_wp2_with fail
          go_roundg ((nb R x).length - (k + 1))
          case rel => exact ⟨k + 1, vo2, S2, O2, by omega, rfl, by go_num, HI4, ⟨HW.out.go HZ2.out HS.out HW4.out⟩⟩
          case measure => omega
      · obtain rfl : k = (nb R x).length := by omega
        go_wp2_with fail
        go_end0
        exact ⟨rfl, _, _, _, HI3.out, HW.out.fin⟩

end Go.Proofs.Ytdddbjaggfaofaa.Mem
