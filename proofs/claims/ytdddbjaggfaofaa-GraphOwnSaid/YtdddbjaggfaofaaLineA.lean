/- graphs.line: things one behind the other, each behind its needs, the lowest first, by its contract. -/
import Derived.Test.YtdddbjaggfaofaaHeap
import Derived.Test.YtdddbjaggfaofaaMapN
import Derived.Deep.DeepCutAuto
import Derived.Outline
namespace Go.Proofs.Ytdddbjaggfaofaa.Mem
open Go.RowKit Go.Proofs.Ytdddbjaggfaofaa.GM Go.Proofs.YtdddbjaggfaofaaW.PrintWords
set_option linter.unusedVariables false

/-- The heap, the map of what is open, all else as it was. -/
structure LnS (w : World) (bb mb n : Nat) (v : Value) (h : List Nat) (f : Nat → Option Nat) (W : World) : Prop where
  q : HQ W w.heap.size bb v h
  m : MapF W mb n (fun x => (f x).map encN)
  B : Below w.heap.size w W
  lo : w.heap.size ≤ bb ∧ w.heap.size ≤ mb ∧ bb < mb

/-- After k things. -/
structure L1 (Nd : List (List Nat)) (xs : List Nat) (k : Nat) (h : List Nat) (f : Nat → Option Nat) : Prop where
  h : h = (xs.take k).filter (fun x => decide ((nb Nd x).length = 0))
  f : ∀ x, x ∈ xs.take k → f x = some (nb Nd x).length

theorem L1.start (Nd : List (List Nat)) (xs : List Nat) : L1 Nd xs 0 [] (fun _ => none) := ⟨by simp, by simp⟩
theorem L1.step {Nd : List (List Nat)} {xs : List Nat} {k x : Nat} {h : List Nat} {f : Nat → Option Nat} (H : L1 Nd xs k h f) (hx : xs[k]? = some x) :
    L1 Nd xs (k + 1) (if (nb Nd x).length = 0 then h ++ [x] else h) (fun y => if y = x then some (nb Nd x).length else f y) where
  h := by
    rw [List.take_add_one, hx, List.filter_append, ← H.h]
    by_cases e : (nb Nd x).length = 0
    · rw [if_pos e]; simp only [Option.toList, List.filter_cons, e, decide_true, if_true, List.filter_nil]
    · rw [if_neg e]; simp only [Option.toList, List.filter_cons, e, decide_false, Bool.false_eq_true, if_false, List.filter_nil, List.append_nil]
  f := fun y hy => by
    rw [List.take_add_one, hx] at hy
    by_cases e : y = x
    · subst e; rw [if_pos rfl]
    · rw [if_neg e]
      exact H.f y (by simpa [e] using hy)
theorem L1.fin {Nd : List (List Nat)} {xs : List Nat} {h h' : List Nat} {f : Nat → Option Nat} (H : L1 Nd xs xs.length h f) (hn : xs.Nodup) (hp : h'.Perm h) : Kn (fun x => x ∈ xs) Nd [] h' f where
  ln := .nil
  nodup := by
    rw [hp.nodup_iff, H.h, List.take_length]
    exact hn.filter _
  ready := fun x => by
    rw [hp.mem_iff, H.h, List.take_length, List.mem_filter, rdy_lack, lack_nil]
    simp
  open_ := fun x hx => by rw [H.f x (by rw [List.take_length]; exact hx), lack_nil]

theorem LnS.store {w W : World} {bb mb n : Nat} {v : Value} {h : List Nat} {f : Nat → Option Nat} (H : LnS w bb mb n v h f W) {x : Nat} (hx : x < n) (hn : n ≤ 131072) (c : Nat) :
    ∃ w1, (Instr.mapUpdate 101 (.map (some mb)) (.int .i64 (x : Int)) (.int .i64 (c : Int))).run Try.prog W = .ok () w1 ∧ LnS w bb mb n v h (fun y => if y = x then some c else f y) w1 ∧ W.grownBy w1 (some mb) := by
  obtain ⟨w1, hr, hm, hg⟩ := H.m.store (t := 101) Try.underlying101 hx (by omega) (.int .i64 (c : Int))
  refine ⟨w1, hr, ⟨⟨?_, ?_⟩, ?_, ?_, H.lo⟩, hg⟩
  · exact blk_grown' H.q.box hg (fun e => by have := H.lo.2.2; injection e; omega)
  · exact own_grown H.q.own hg (fun b hb e => H.m.row_ne H.q.own (by rw [hb, ← e]))
  · refine hm.ext (fun y => ?_)
    split <;> rfl
  · exact H.B.grown hg H.B.size (fun b hb => by injection hb with hb; rw [← hb]; exact H.lo.2.1)

/-- The heap's variable has a longer slice now. -/
theorem LnS.push {w W w2 : World} {bb mb n x : Nat} {v v1 : Value} {h : List Nat} {f : Nat → Option Nat} (H : LnS w bb mb n v h f W) (hB : Below w.heap.size w w2) (hg : W.grownBy w2 v.ownBlock) (ho : OwnN w2 w.heap.size v1 (h ++ [x])) :
    LnS w bb mb n v1 (h ++ [x]) f (w2.setCell ⟨bb, 0, none⟩ v1) := by
  have hb2 := blk_grown' H.q.box hg (blk_row_ne H.q.own H.q.box (by decide))
  refine ⟨⟨box_set hb2 _, own_set_far ho (fun e => blk_row_ne ho hb2 (by decide) e.symm) _⟩, ?_, hB.setCell H.lo.1 _, H.lo⟩
  exact (H.m.grown hg (H.m.row_ne H.q.own)).setCell (by have := H.lo.2.2; omega) _

/-- .. and what has been put in order. -/
structure LnO (w : World) (bb mb n : Nat) (v : Value) (h : List Nat) (f : Nat → Option Nat) (vo : Value) (D : List Nat) (W : World) : Prop where
  s : LnS w bb mb n v h f W
  o : OwnN W w.heap.size vo D
  ne : ∀ b, v.ownBlock = some b → vo.ownBlock ≠ some b

/-- The heap's own writing leaves all else. -/
theorem LnO.fr {w W W2 : World} {bb mb n : Nat} {v v2 vo : Value} {h h2 D : List Nat} {f : Nat → Option Nat} (H : LnO w bb mb n v h f vo D W) (hq : HQ W2 w.heap.size bb v2 h2) (hf : Fr W W2 (fun k => k = bb ∨ v.ownBlock = some k))
    (hat : v2.ownBlock = v.ownBlock ∨ ∃ k, v2.ownBlock = some k ∧ W.heap.size ≤ k) : LnO w bb mb n v2 h2 f vo D W2 where
  s := {
    q := hq
    m := H.s.m.block (hf.block mb H.s.m.lt (by
      rintro (e | e)
      · have := H.s.lo.2.2; omega
      · exact H.s.m.row_ne H.s.q.own e))
    B := H.s.B.trans ⟨hf.os, hf.tape, hf.output, hf.size, fun k hk => hf.block k (Nat.lt_of_lt_of_le hk H.s.B.size) (by
      rintro (e | e)
      · have := H.s.lo.1; omega
      · have := own_base H.s.q.own k e; omega)⟩
    lo := H.s.lo }
  o := own_move H.o (fun k hk => hf.block k (own_blk_lt H.o hk).choose_spec.2.1 (by
    rintro (e | e)
    · subst e; exact blk_row_ne H.o H.s.q.box (by decide) hk.symm
    · exact H.ne k e hk))
  ne := fun b hb => by
    rcases hat with e | ⟨k, e, hk⟩
    · exact H.ne b (e ▸ hb)
    · rw [e] at hb
      injection hb with hb
      intro hb'
      have := (own_blk_lt H.o hb').choose_spec.2.1
      omega

/-- A thing is put behind. -/
theorem LnO.out {w W w2 : World} {bb mb n x : Nat} {v vo v1 : Value} {h D : List Nat} {f : Nat → Option Nat} (H : LnO w bb mb n v h f vo D W) (hB : Below w.heap.size w w2) (hg : W.grownBy w2 vo.ownBlock) (ho : OwnN w2 w.heap.size v1 (D ++ [x]))
    (hat : v1.ownBlock = vo.ownBlock ∨ ∃ b, v1.ownBlock = some b ∧ W.heap.size ≤ b) : LnO w bb mb n v h f v1 (D ++ [x]) w2 where
  s := {
    q := ⟨blk_grown' H.s.q.box hg (blk_row_ne H.o H.s.q.box (by decide)), own_grown H.s.q.own hg (fun b hb => H.ne b hb)⟩
    m := H.s.m.grown hg (H.s.m.row_ne H.o)
    B := hB
    lo := H.s.lo }
  o := ho
  ne := fun b hb => by
    rcases hat with e | ⟨k, e, hk⟩
    · rw [e]; exact H.ne b hb
    · rw [e]
      intro e2
      injection e2 with e2
      have := (own_blk_lt H.s.q.own hb).choose_spec.2.1
      omega

theorem LnO.store {w W : World} {bb mb n : Nat} {v vo : Value} {h D : List Nat} {f : Nat → Option Nat} (H : LnO w bb mb n v h f vo D W) {x : Nat} (hx : x < n) (hn : n ≤ 131072) (c : Nat) :
    ∃ w1, (Instr.mapUpdate 101 (.map (some mb)) (.int .i64 (x : Int)) (.int .i64 (c : Int))).run Try.prog W = .ok () w1 ∧ LnO w bb mb n v h (fun y => if y = x then some c else f y) vo D w1 := by
  obtain ⟨w1, hr, hs, hg⟩ := H.s.store hx hn c
  exact ⟨w1, hr, hs, own_grown H.o hg (fun b hb e => H.s.m.row_ne H.o (by rw [hb, ← e])), H.ne⟩

theorem zero3 (w : World) : (zeroValue 3).run Try.prog w = .ok (.int .i64 0) w := by kernel_rfl

theorem LnO.look {w W : World} {bb mb n : Nat} {v vo : Value} {h D : List Nat} {f : Nat → Option Nat} (H : LnO w bb mb n v h f vo D W) {x c : Nat} (hx : x ≤ 131072) (hc : f x = some c) :
    (Instr.lookup 101 (.map (some mb)) (.int .i64 (x : Int)) false).run Try.prog W = .ok (.int .i64 (c : Int)) W :=
  H.s.m.look (t := 101) Try.underlying101 (zero3 W) (by omega) (by rw [hc]; rfl)

def LinePost (w : World) (xs : List Nat) (Nd : List (List Nat)) (e : Ending) (w' : World) : Prop :=
  Below w.heap.size w w' ∧ ∃ v D, e = .returned v ∧ OwnN w' w.heap.size v D ∧ Full (fun x => x ∈ xs) (NN Nd) D

set_option maxHeartbeats 2000000 in
set_option maxRecDepth 100000 in
theorem line_calls (n gN cN gU cU b0 bT : Nat) (vT : Value) (xs : List Nat) (vN vU : List Value) (Nd Us : List (List Nat)) (w : World) (hT : OwnN w bT vT xs) (hN : OwnRows w b0 (.slice (some ⟨gN, 0, none⟩) n cN) vN Nd) (hU : OwnRows w b0 (.slice (some ⟨gU, 0, none⟩) n cU) vU Us)
    (hNl : Nd.length = n) (hUl : Us.length = n) (hn : n ≤ 131072) (hnu : NU n Nd Us (fun x => x ∈ xs)) (hxs : xs.Nodup) :
    Calls Try.prog 51 #[vT, .slice (some ⟨gN, 0, none⟩) n cN, .slice (some ⟨gU, 0, none⟩) n cU] w fun e w' => LinePost w xs Nd e w' := by
  have hxl : xs.length ≤ n := GM.nodup_lt_length hxs hnu.lt
  obtain ⟨AT, cT, rfl⟩ := own_slice hT
  have hmm := @run_makeMap Try.prog
  have HT := Aside0.mk hT
  have HN := Aside0.mk hN
  have HU := Aside0.mk hU
  have HL := Aside0.mk (And.intro hNl hUl)
  have HNU := Aside0.mk (And.intro hnu hxs)
  clear hT hN hU hNl hUl hnu hxs
  go_enter Try.func51, Try.ntmps51
  go_wp2_with fail
  obtain ⟨W, hW, HLS⟩ := ex_world (p := LnS w w.heap.size (w.heap.size + 1) n (.slice none 0 0) [] (fun _ => none)) (W := (w.alloc (.cells #[.slice none 0 0] 100)).alloc (.map #[] 0))
    ⟨⟨old_at (new_at w _ rfl), World.ownsRow_nil _ _ _ _⟩, by have := MapF.made (w.alloc (.cells #[.slice none 0 0] 100)) n; simpa using this, ((Below.refl _ _).alloc (Nat.le_refl _) _).alloc (by simp) _, by omega⟩
  rw [hW]
  clear hW hmm
  go_loopg [18] xs.length (fun g i wr => ∃ k : Nat, k ≤ xs.length ∧ g = xs.length - k ∧ i = .int .i64 k ∧ ∃ v h f, Aside0 (LnS w w.heap.size (w.heap.size + 1) n v h f wr) ∧ Aside0 (L1 Nd xs k h f))
  case atStart => exact ⟨0, Nat.zero_le _, rfl, rfl, _, _, _, HLS, ⟨L1.start Nd xs⟩⟩
  case round =>
    clear HLS
    obtain ⟨k, hk, rfl, rfl, v, h, f, HLS, H1⟩ := hrel
    by_cases hlt : k < xs.length
    · obtain ⟨x, hx⟩ : ∃ x, x = xs[k] := ⟨_, rfl⟩
      have hxg : xs[k]? = some x := by rw [hx, List.getElem?_eq_getElem hlt]
      have hxn : x < n := HNU.out.1.lt x (List.mem_of_getElem? hxg)
      obtain ⟨gT, rfl, c1, -⟩ := row_cell (own_below HT.out HLS.out.B) hlt
      rw [← hx] at c1
      obtain ⟨xv, hxv, r1, -, hin, -, -⟩ := (HN.out.below HLS.out.B).get (i := x) (by have := HL.out.1; omega)
      obtain ⟨Ax, cx, he⟩ := own_slice hin
      subst he
      obtain ⟨m, hm⟩ : ∃ m, m = (nb Nd x).length := ⟨_, rfl⟩
      have hml : m ≤ n := by
        rw [hm]
        exact rising_length (HNU.out.1.nr x) (fun y hy => HNU.out.1.lt y (HNU.out.1.nt x y hy).2)
      rw [← hm] at r1
      obtain ⟨w1, hrun, hls1, hg1⟩ := HLS.out.store hxn hn m
      obtain ⟨xv1, hxv1, r2, -, -, -, -⟩ := (HN.out.below hls1.B).get (i := x) (by have := HL.out.1; omega)
      rw [hxv] at hxv1
      cases hxv1
      rw [← hm] at r2
      have hstep := H1.out.step hxg
      rw [← hm] at hstep
      obtain ⟨f1, f2⟩ := box_cell hls1.q.box
      have HS := Aside0.mk hstep
      have HLS1 := Aside0.mk hls1
      clear hx hxg hxv hin hls1 hg1 hstep hm
      by_cases h0 : m = 0
      · have h0' : ((m : Int) == 0) = true := beq_iff_eq.2 (by omega)
        have HS2 := Aside0.mk (by have := HS.out; rw [if_pos h0] at this; exact this)
        clear h0
        have HB1 := Aside0.mk HLS1.out.B
        have hlen : h.length ≤ k := by rw [H1.out.h]; exact Nat.le_trans (List.length_filter_le _ _) (List.length_take_le _ _)
        go_wp2_with (at_builtin; refine print_append (w0 := w) (W := w1) w.heap.size rfl (.tmp 35) (.tmp 37) 100 3 (.int .i64 0) 8 rfl Try.underlying100 info3 rfl (by decide) v (h.map encN) (encN x) rfl rfl rfl ?aO ?aB ?aS ?aL ?_; (case aO => rw [List.length_map]; exact HLS1.out.q.own); (case aB => exact HB1.out); (case aS => exact HB1.out.size); (case aL => rw [List.length_map]; omega); intro v1 w2 ho hb hg hat; obtain ⟨A1, C1, he⟩ := own_slice ho; subst he; have hb2 := box_cell (blk_grown' HLS1.out.q.box hg (blk_row_ne HLS1.out.q.own HLS1.out.q.box (by decide))); have g1 := hb2.1; have g2 := hb2.2; clear hb2; have HREL := Aside0.mk (LnS.push HLS1.out hb hg (by unfold OwnN; simpa using ho)); clear hb hg hat ho)
        go_roundg (xs.length - (k + 1))
        case rel => exact ⟨k + 1, by omega, rfl, by go_num, _, _, _, HREL, HS2⟩
        case measure => omega
      · have h0' : ((m : Int) == 0) = false := beq_eq_false_iff_ne.2 (by omega)
        have HS2 := Aside0.mk (by have := HS.out; rw [if_neg h0] at this; exact this)
        go_wp2_with fail
        go_roundg (xs.length - (k + 1))
        case rel => exact ⟨k + 1, by omega, rfl, by go_num, _, _, _, HLS1, HS2⟩
        case measure => omega
    · obtain rfl : k = xs.length := by omega
      have hh : h.length ≤ 131072 := by
        rw [H1.out.h]
        exact Nat.le_trans (List.length_filter_le _ _) (Nat.le_trans (List.length_take_le _ _) (by omega))
      have HI := Aside0.mk (heapInit_calls w.heap.size w.heap.size v h wr HLS.out.q hh)
      clear hh
      go_wp2_with (go_at_call 68; refine HI.out.mono ?_)
      rintro e w1 ⟨rfl, h1, hq1, hp1, hpm1, hg1⟩
      have hKn := H1.out.fin HNU.out.2 hpm1
      have hlo : LnO w w.heap.size (w.heap.size + 1) n v h1 f (.slice none 0 0) [] w1 :=
        LnO.fr (v2 := v) ⟨HLS.out, World.ownsRow_nil _ _ _ _, fun b _ e => by cases e⟩ hq1 (Fr.of_grown hg1 (fun k e => .inr e)) (.inl rfl)
      have HLO := Aside0.mk hlo
      have HKN := Aside0.mk (And.intro hKn hp1)
      clear hq1 hp1 hpm1 hg1 hKn hlo
      go_wp2_with fail
      go_loopg [11] n (fun g v11 wq => ∃ v h f D Ao Co, g = n - D.length ∧ v11 = .slice Ao D.length Co ∧ Aside0 (LnO w w.heap.size (w.heap.size + 1) n v h f (.slice Ao D.length Co) D wq) ∧ Aside0 (Kn (fun x => x ∈ xs) Nd D h f ∧ Hp h h.length 0))
      case atStart => exact ⟨_, _, _, [], _, _, by simp, rfl, HLO, HKN⟩
      case round =>
        clear HLO HKN HLS H1
        obtain ⟨v, h, f, D, Ao, Co, rfl, rfl, HLO, HKN⟩ := hrel
        obtain ⟨A, c, he⟩ := own_form HLO.out.s.q.own
        subst he
        obtain ⟨f1, f2⟩ := box_cell HLO.out.s.q.box
        cases h with
        | nil =>
          go_wp2_with fail
          go_ret
          exact ⟨HLO.out.s.B, _, D, rfl, HLO.out.o, HKN.out.1.full⟩
        | cons h0 h =>
          have hall : ∀ y, y ∈ h0 :: h → y ∈ xs := fun y hy => ((HKN.out.1.ready y).1 hy).1
          have hbd : (h0 :: h).length ≤ n := GM.nodup_lt_length HKN.out.1.nodup (fun y hy => HNU.out.1.lt y (hall y hy))
          rw [List.length_cons] at hbd
          obtain ⟨x, hx⟩ : ∃ x, x = pa (h0 :: h) 0 := ⟨_, rfl⟩
          have hxm : x ∈ h0 :: h := by rw [hx]; exact List.mem_cons_self
          have hxn : x < n := HNU.out.1.lt x (hall x hxm)
          have hmin : ∀ y ∈ h0 :: h, x ≤ y := fun y hy => by
            obtain ⟨j, hj, e⟩ := List.mem_iff_getElem.1 hy
            have := HKN.out.2.root j hj
            rw [pa_get hj, e, ← hx] at this
            exact this
          have PC := heapPop_calls w.heap.size w.heap.size (.slice A (h0 :: h).length c) (h0 :: h) h.length wr HLO.out.s.q rfl (by omega) HKN.out.2
          rw [← hx] at PC
          have HPC := Aside0.mk PC
          have HMIN := Aside0.mk hmin
          have hta := run_assert3 (x : Int)
          clear PC hmin hx hxm hall
          go_wp2_with (go_at_call 69; refine HPC.out.mono ?_)
          rintro e w1 ⟨rfl, v1, h1, hq1, hp1, hpm1, hat1, hfr1⟩
          clear f1 f2
          have hlo := HLO.out.fr hq1 hfr1 (.inl hat1)
          have hki := HKN.out.1.take (Us := Us) hpm1 HMIN.out
          have hDl : D.length + 1 ≤ n := by
            have := hki.ln.length_le HNU.out.1.lt
            simpa using this
          have HLO1 := Aside0.mk hlo
          have HKI := Aside0.mk (And.intro hki hp1)
          clear hq1 hp1 hpm1 hat1 hfr1 hlo hki
          have HB1 := Aside0.mk HLO1.out.s.B
          go_wp2_with (at_builtin; refine print_append (w0 := w) (W := w1) w.heap.size rfl (.tmp 48) (.tmp 50) 33 3 (.int .i64 0) 8 rfl Try.underlying33 info3 rfl (by decide) (.slice Ao D.length Co) (D.map encN) (encN x) rfl rfl rfl ?aO ?aB ?aS ?aL ?_; (case aO => rw [List.length_map]; exact HLO1.out.o); (case aB => exact HB1.out); (case aS => exact HB1.out.size); (case aL => rw [List.length_map]; omega); intro v2 w2 ho hb hg hat; have hlo2 := HLO1.out.out hb hg (by unfold OwnN; simpa using ho) hat; obtain ⟨A2, C2, he⟩ := own_slice ho; subst he; have hl2 : ((List.map encN D) ++ [encN x]).length = D.length + 1 := (by simp); rw [hl2] at hlo2; rw [hl2]; obtain ⟨xv, hxv, r1, -, hin, -, -⟩ := (HU.out.below hlo2.s.B).get (i := x) (by have := HL.out.2; omega); obtain ⟨Ax, cx, he⟩ := own_slice hin; subst he; have HLO2 := Aside0.mk hlo2; have HXV := Aside0.mk hxv; clear hb hg hat ho hlo2 hin hxv hl2)
          have HN2 := Aside0.mk hDl
          have hul : (nb Us x).length ≤ n := rising_length (HNU.out.1.ur x) (fun z hz => HNU.out.1.lt z (HNU.out.1.nt z x ((HNU.out.1.tie z x).2 hz)).1)
          clear hDl hta
          go_loopg [57] (nb Us x).length (fun g i wq => ∃ (k : Nat) (v : Value) (h : List Nat) (f : Nat → Option Nat), k ≤ (nb Us x).length ∧ g = (nb Us x).length - k ∧ i = .int .i64 k ∧
            Aside0 (LnO w w.heap.size (w.heap.size + 1) n v h f (.slice A2 (D.length + 1) C2) (D ++ [x]) wq) ∧ Aside0 (Ki (fun x => x ∈ xs) Nd Us D h f x k ∧ Hp h h.length 0))
          case atStart => exact ⟨0, _, _, _, Nat.zero_le _, rfl, rfl, HLO2, HKI⟩
          case round =>
            clear r1 HLO2 HKI HLO HLO1 HB1 HKN HPC HMIN
            obtain ⟨k, v, h, f, hk, rfl, rfl, HLO, HKI⟩ := hrel
            by_cases hlt : k < (nb Us x).length
            · obtain ⟨y, hy⟩ : ∃ y, y = (nb Us x)[k] := ⟨_, rfl⟩
              have hyk : (nb Us x)[k]? = some y := by rw [hy, List.getElem?_eq_getElem hlt]
              obtain ⟨gx, rfl, c1, -⟩ := row_cell ((HU.out.below HLO.out.s.B).inner x _ HXV.out) hlt
              rw [← hy] at c1
              obtain ⟨hty, c, hfy, hc⟩ := HKI.out.1.at_ HNU.out.1 hyk
              have hyn : y < n := HNU.out.1.lt y hty
              have hcb : c ≤ n := by
                rw [hc]
                exact Nat.le_trans List.countP_le_length (rising_length (HNU.out.1.nr y) (fun z hz => HNU.out.1.lt z (HNU.out.1.nt y z hz).2))
              have l1 := HLO.out.look (x := y) (by omega) hfy
              rw [show (((c + 1 : Nat)) : Int) = (c : Int) + 1 from by omega] at l1
              obtain ⟨w3, hrun, hlo3⟩ := HLO.out.store hyn hn c
              have l2 := hlo3.look (x := y) (c := c) (by omega) (by rw [if_pos rfl])
              have hhl : h.length ≤ n := GM.nodup_lt_length HKI.out.1.nodup (fun z hz => by
                rcases (HKI.out.1.ready z).1 hz with h1 | h1
                · exact HNU.out.1.lt z h1.1.1
                · exact HNU.out.1.lt z h1.2.1)
              have HLO3 := Aside0.mk hlo3
              have HF := Aside0.mk (And.intro hyk hfy)
              clear hy hyk hfy hc hlo3 hty
              by_cases h0 : c = 0
              · have h0' : ((c : Int) == 0) = true := beq_iff_eq.2 (by omega)
                have H0 := Aside0.mk h0
                clear h0
                have PC := heapPush_calls w.heap.size w.heap.size v h y w3 HLO3.out.s.q (by omega) (Nat.le_refl _) HKI.out.2
                have HPC := Aside0.mk PC
                clear PC
                go_wp2_with (go_at_call 70; refine HPC.out.mono ?_)
                rintro e w4 ⟨rfl, v4, h4, hq4, hp4, hpm4, hat4, hfr4⟩
                have HLO4 := Aside0.mk (HLO3.out.fr hq4 hfr4 hat4)
                have HK4 := Aside0.mk (And.intro (HKI.out.1.told HNU.out.1 HF.out.1 HF.out.2 (fun z => rfl) (h' := h4) (by rw [if_pos H0.out]; exact hpm4)) hp4)
                clear hq4 hp4 hpm4 hat4 hfr4 l1 l2 hrun
                go_wp2_with fail
                go_roundg ((nb Us x).length - (k + 1))
                case rel => exact ⟨k + 1, _, _, _, by omega, rfl, by go_num, HLO4, HK4⟩
                case measure => omega
              · have h0' : ((c : Int) == 0) = false := beq_eq_false_iff_ne.2 (by omega)
                have HK4 := Aside0.mk (And.intro (HKI.out.1.told HNU.out.1 HF.out.1 HF.out.2 (fun z => rfl) (h' := h) (by rw [if_neg h0])) HKI.out.2)
                go_wp2_with fail
                go_roundg ((nb Us x).length - (k + 1))
                case rel => exact ⟨k + 1, _, _, _, by omega, rfl, by go_num, HLO3, HK4⟩
                case measure => omega
            · obtain rfl : k = (nb Us x).length := by omega
              have HK4 := Aside0.mk (And.intro (HKI.out.1.fin HNU.out.1) HKI.out.2)
              go_wp2_with fail
              go_roundg (n - (D.length + 1))
              case rel => exact ⟨_, _, _, D ++ [x], A2, C2, by simp, by simp, by simpa using HLO, HK4⟩
              case measure => have := HN2.out; omega

end Go.Proofs.Ytdddbjaggfaofaa.Mem
