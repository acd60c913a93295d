/- container/heap over graphs.lows: its methods and functions, each by its contract. -/
import Derived.Test.YtdddbjaggfaofaaParC
import Derived.Handy
import Derived.Test.YtdddbjaggfaofaaGMs
import Derived.BigQuiet

namespace Go.Proofs.Ytdddbjaggfaofaa.Mem
open Go.RowKit Go.Proofs.Ytdddbjaggfaofaa.GM Go.Proofs.YtdddbjaggfaofaaW.PrintWords
set_option linter.unusedVariables false

theorem grown_drew {w w1 : World} {r : Option Nat} (h : w.grownBy w1 r) : w.grownBy w1.drew r := ⟨h.os, h.tape, h.output, h.size, h.block⟩

/-- What stands but for some blocks. -/
structure Fr (w w1 : World) (p : Nat → Prop) : Prop where
  os : w1.os = w.os
  tape : w1.tape = w.tape
  output : w1.output = w.output
  size : w.heap.size ≤ w1.heap.size
  block : ∀ k, k < w.heap.size → ¬ p k → w1.heap[k]? = w.heap[k]?

theorem Fr.of_grown {w w1 : World} {r : Option Nat} (h : w.grownBy w1 r) {p : Nat → Prop} (hp : ∀ k, r = some k → p k) : Fr w w1 p := ⟨h.os, h.tape, h.output, h.size, fun k hk hn => h.block k hk (fun e => hn (hp k e.symm))⟩
theorem Fr.trans {w w1 w2 : World} {p q : Nat → Prop} (h : Fr w w1 p) (k : Fr w1 w2 q) (hq : ∀ j, j < w.heap.size → q j → p j) : Fr w w2 p :=
  ⟨k.os.trans h.os, k.tape.trans h.tape, k.output.trans h.output, Nat.le_trans h.size k.size, fun j hj hn => (k.block j (Nat.lt_of_lt_of_le hj h.size) (fun e => hn (hq j hj e))).trans (h.block j hj hn)⟩

/-- A heap's variable and what it holds. -/
structure HQ (w : World) (base b : Nat) (v : Value) (l : List Nat) : Prop where
  box : w.heap[b]? = some (.cells #[v] 100 (0, 0))
  own : OwnN w base v l

/-- Nothing but draws. -/
def Quiet (w : World) (r : Value) (e : Ending) (w' : World) : Prop := e = .returned r ∧ ∃ q, w' = w.drewN q

theorem len_calls (A : Option Addr) (n c : Nat) (w : World) : Calls Try.prog 121 #[.slice A n c] w fun e w' => e = .returned (.int .i64 n) ∧ w' = w := by
  go_enter Try.func121, Try.ntmps121
  go_wp2_with fail
  go_ret
  exact ⟨rfl, rfl⟩

set_option maxHeartbeats 1000000 in
theorem less_calls (base : Nat) (v : Value) (l : List Nat) (i j : Nat) (w : World) (h : OwnN w base v l) (hi : i < l.length) (hj : j < l.length) :
    Calls Try.prog 122 #[v, .int .i64 i, .int .i64 j] w fun e w' => Quiet w (.bool (decide (pa l i < pa l j))) e w' := by
  obtain ⟨A, c, rfl⟩ := own_slice h
  obtain ⟨g, rfl, -, -⟩ := row_cell h hi
  obtain ⟨f1, -, -⟩ := h.at_ hi
  obtain ⟨f2, -, -⟩ := h.at_ hj
  obtain ⟨a, ha⟩ : ∃ a, a = pa l i := ⟨_, rfl⟩
  obtain ⟨b, hb⟩ : ∃ b, b = pa l j := ⟨_, rfl⟩
  rw [← ha] at f1 ⊢
  rw [← hb] at f2 ⊢
  clear ha hb
  go_enter Try.func122, Try.ntmps122
  go_wp2_with fail
  go_quiet (fail)
  go_wp2_with fail
  go_ret
  exact ⟨by simp, _, rfl⟩

theorem run_cutTo100 (A : Option Addr) (n c : Nat) (j : Int) (h0 : 0 ≤ j) (hm : j ≤ n) (hc : n ≤ c) : ∀ W : World, (Instr.slice 100 (.slice A n c) none (some (.int .i64 j)) none).run Try.prog W = .ok (.slice A j.toNat c) W := by
  obtain ⟨i0, hi, hzz⟩ := Option.map_eq_some_iff.1 info3
  have := cut_to (P := Try.prog) 100 3 .i64 Try.underlying100 hi A n c j h0 hm hc
  exact this

theorem run_assert3 (x : Int) (W : World) : (Instr.typeAssert (.iface 3 (.int .i64 x)) 20 3 false).run Try.prog W = .ok (.int .i64 x) W := by kernel_rfl

set_option maxHeartbeats 1000000 in
theorem swap_calls (base : Nat) (v : Value) (l : List Nat) (i j : Nat) (w : World) (h : OwnN w base v l) (hi : i < l.length) (hj : j < l.length) :
    Calls Try.prog 123 #[v, .int .i64 i, .int .i64 j] w fun e w' => e = .returned (.tuple #[]) ∧ OwnN w' base v (swp l i j) ∧ w.grownBy w' v.ownBlock := by
  obtain ⟨A, c, rfl⟩ := own_slice h
  obtain ⟨g, rfl, -, -⟩ := row_cell h hi
  obtain ⟨f1, f2, -⟩ := h.at_ hi
  obtain ⟨f3, f4, -⟩ := h.at_ hj
  obtain ⟨s1, s2⟩ := h.set_ (v := pa l j) hi
  obtain ⟨t1, t2⟩ := s1.set_ (x := j) (v := pa l i) (by rw [List.length_set]; exact hj)
  have HT := Aside0.mk (And.intro t1 (s2.trans t2))
  clear s1 s2 t1 t2 h
  by_cases hij : i = j
  · subst hij
    obtain ⟨a, ha⟩ : ∃ a, a = pa l i := ⟨_, rfl⟩
    rw [← ha] at f1 f3 HT
    have HA := Aside0.mk ha
    clear ha
    go_enter Try.func123, Try.ntmps123
    go_wp2_with fail
    go_region
    all_goals
      go_wp2_with fail
      go_end0
      exact ⟨rfl, by unfold swp; rw [← HA.out]; exact HT.out.1, grown_drew HT.out.2⟩
  · obtain ⟨a, ha⟩ : ∃ a, a = pa l i := ⟨_, rfl⟩
    obtain ⟨b, hb⟩ : ∃ b, b = pa l j := ⟨_, rfl⟩
    rw [← ha] at f1 HT
    rw [← hb] at f3 HT
    have HA := Aside0.mk (And.intro ha hb)
    clear ha hb
    go_enter Try.func123, Try.ntmps123
    go_wp2_with fail
    go_region
    all_goals
      go_wp2_with fail
      go_end0
      exact ⟨rfl, by unfold swp; rw [← HA.out.1, ← HA.out.2]; exact HT.out.1, grown_drew HT.out.2⟩

set_option maxHeartbeats 1000000 in
theorem hpop_calls (base b : Nat) (v : Value) (l : List Nat) (x : Nat) (w : World) (h : HQ w base b v (l ++ [x])) (hl : l.length ≤ 131072) :
    Calls Try.prog 124 #[ptr b] w fun e w' => e = .returned (.iface 3 (.int .i64 x)) ∧ ∃ v', HQ w' base b v' l ∧ v'.ownBlock = v.ownBlock ∧ w.grownBy w' (some b) := by
  obtain ⟨d, hd⟩ : ∃ d, l.length = d := ⟨_, rfl⟩
  obtain ⟨g, c, rfl, c1, hcap, hcutO⟩ := own_last h.own hd
  obtain ⟨f1, f2⟩ := box_cell h.box
  have hdd : ((d : Int) + 1 - 1) = (d : Int) := by omega
  go_enter Try.func124, Try.ntmps124
  go_wp2_with fail
  go_quiet (fail)
  go_wp2_with fail
  obtain ⟨w1, hw1, HQ1⟩ := ex_world (p := fun W => HQ W base b (.slice (some ⟨g, 0, none⟩) (d + 1) c) (l ++ [x]) ∧ w.grownBy W (some b)) (W := w.drewN nq) ⟨⟨h.box, h.own⟩, ⟨rfl, rfl, rfl, Nat.le_refl _, fun _ _ _ => rfl⟩⟩
  have HC := Aside0.mk (show OwnN w1 base (.slice (some ⟨g, 0, none⟩) d c) l by rw [← hw1]; exact hcutO)
  rw [hw1]
  clear hw1 f1 f2 h hcutO c1
  obtain ⟨f1, f2⟩ := box_cell HQ1.out.1.box
  have hcut := run_cutTo100 (some ⟨g, 0, none⟩) (d + 1) c (d : Int) (by omega) (by omega) hcap
  go_region
  go_wp2_with fail
  go_ret
  have hgb : g ≠ b := fun e => by
    subst e
    obtain ⟨cs, hcs, -, -⟩ := own_blk_lt HC.out (b := g) rfl
    exact tys_ne hcs HQ1.out.1.box (by decide) rfl
  exact ⟨rfl, _, ⟨box_set HQ1.out.1.box _, own_set_far HC.out (fun e => hgb (Option.some.inj e)) _⟩, rfl, grown_drew (HQ1.out.2.trans (Go.Lib.grownBy_setCell _ _ _ _))⟩

set_option maxHeartbeats 1000000 in
theorem hpush_calls (base b : Nat) (v : Value) (l : List Nat) (x : Nat) (w : World) (h : HQ w base b v l) (hl : l.length ≤ 131072) (hbase : base ≤ b) :
    Calls Try.prog 125 #[ptr b, .iface 3 (.int .i64 x)] w fun e w' => e = .returned (.tuple #[]) ∧ ∃ v', HQ w' base b v' (l ++ [x]) ∧ (v'.ownBlock = v.ownBlock ∨ ∃ k, v'.ownBlock = some k ∧ w.heap.size ≤ k) ∧ Fr w w' (fun k => k = b ∨ v.ownBlock = some k) := by
  obtain ⟨f1, f2⟩ := box_cell h.box
  obtain ⟨i0', hi0, hz0, hz1, hz2⟩ := info_parts info3
  have HH := Aside0.mk h
  have hta := run_assert3 x
  have hsz := blk_lt' h.box
  clear h
  go_enter Try.func125, Try.ntmps125
  have HBW := Aside0.mk (show Below w.heap.size w (w.alloc (.cells #[encN x] 3)).drew from ((Below.refl _ _).alloc (Nat.le_refl _) _).drew)
  go_region_law (refine step_append_lies _ (by rfl) _ _ _ (by rfl) base 3 i0' _ 1 8 Try.underlying100 hi0 hz0 hz1 hz2 rfl (by omega) v l.length (l.map encN) (by rfl) (own_below HH.out.own HBW.out) ⟨w.heap.size, 0, none⟩ 1 1 [encN x] (by rfl) (by rfl) (World.news_of_block (cs := #[encN x]) (t := 3) (fr := (0, 0)) (heap_alloc_new w _)) (by simp [encN, Value.oneCell']) (by omega) (by simp only [maxLen]; omega) (by omega) (by simp; omega) (w.heap.size + 1) (by simp) ?_; intro gg cap2 w1 hown1 hgrow hat hlt2; have hgr := World.grownBy.trans (grown_drew (World.grownBy_alloc w (.cells #[encN x] 3) v.ownBlock)) hgrow; have hcg := box_cell (blk_grown' HH.out.box hgr (blk_row_ne HH.out.own HH.out.box (by decide))); have hcg1 := hcg.1; have hcg2 := hcg.2; clear hcg; have HREL := Aside0.mk (And.intro hown1 (And.intro hgr hat)); clear hown1 hgrow hat hgr)
  all_goals
    go_wp2_with fail
    go_end0
    obtain ⟨hown1, hgr, hat⟩ := HREL.out
    have hown2 : OwnN w1 base (.slice (some ⟨gg, 0, none⟩) (l.length + 1) cap2) (l ++ [x]) := by unfold OwnN; simpa using hown1
    have hbx := blk_grown' HH.out.box hgr (blk_row_ne HH.out.own HH.out.box (by decide))
    refine ⟨rfl, _, ⟨box_set hbx _, own_set_far hown2 (fun e => blk_row_ne hown2 hbx (by decide) e.symm) _⟩, ?_, ?_⟩
    · rcases hat with e | e
      · exact .inl e.symm
      · exact .inr ⟨gg, rfl, by omega⟩
    · exact (Fr.of_grown hgr (fun k e => .inr e)).trans (Fr.of_grown (Go.Lib.grownBy_setCell w1 b 0 _) (fun k e => .inl (Option.some.inj e).symm)) (fun j _ e => e)

end Go.Proofs.Ytdddbjaggfaofaa.Mem

namespace Go.Proofs.Ytdddbjaggfaofaa.Mem
open Go.RowKit Go.Proofs.Ytdddbjaggfaofaa.GM Go.Proofs.YtdddbjaggfaofaaW.PrintWords
set_option linter.unusedVariables false

theorem drewN_grown {w w1 : World} {r : Option Nat} (h : w.grownBy w1 r) (q : Nat) : w.grownBy (w1.drewN q) r := ⟨h.os, h.tape, h.output, h.size, h.block⟩

/-- What a heap's functions are handed. -/
abbrev hv (b : Nat) : Value := .iface 103 (ptr b)

theorem load100 (b : Nat) (W : World) (v : Value) (h : W.cell? ⟨b, 0, none⟩ = some v) : (loadVar 100 ⟨b, 0, none⟩).run Try.prog W = .ok v W := by
  go_simp
theorem meth_load (f : FuncId) (b : Nat) (W : World) (v : Value) (h : W.cell? ⟨b, 0, none⟩ = some v) : (do let v ← loadVar 100 ⟨b, 0, none⟩; pure (f, v) : Sem (FuncId × Value)).run Try.prog W = .ok (f, v) W := by
  simp only [Sem.run_bind, load100 b W v h, Result.andThen_ok, Sem.run_pure]
theorem meth_len (b : Nat) (W : World) (v : Value) (h : W.cell? ⟨b, 0, none⟩ = some v) : (method 275 103 (ptr b) "Len").run Try.prog W = .ok (121, v) W := by
  have e : (method 275 103 (ptr b) "Len").run Try.prog W = (do let v ← loadVar 100 ⟨b, 0, none⟩; pure (121, v) : Sem (FuncId × Value)).run Try.prog W := by kernel_rfl
  exact e.trans (meth_load 121 b W v h)
theorem meth_less (b : Nat) (W : World) (v : Value) (h : W.cell? ⟨b, 0, none⟩ = some v) : (method 275 103 (ptr b) "Less").run Try.prog W = .ok (122, v) W := by
  have e : (method 275 103 (ptr b) "Less").run Try.prog W = (do let v ← loadVar 100 ⟨b, 0, none⟩; pure (122, v) : Sem (FuncId × Value)).run Try.prog W := by kernel_rfl
  exact e.trans (meth_load 122 b W v h)
theorem meth_swap (b : Nat) (W : World) (v : Value) (h : W.cell? ⟨b, 0, none⟩ = some v) : (method 275 103 (ptr b) "Swap").run Try.prog W = .ok (123, v) W := by
  have e : (method 275 103 (ptr b) "Swap").run Try.prog W = (do let v ← loadVar 100 ⟨b, 0, none⟩; pure (123, v) : Sem (FuncId × Value)).run Try.prog W := by kernel_rfl
  exact e.trans (meth_load 123 b W v h)
theorem meth_pop (b : Nat) (W : World) : (method 275 103 (ptr b) "Pop").run Try.prog W = .ok (124, ptr b) W := by kernel_rfl
theorem meth_push (b : Nat) (W : World) : (method 275 103 (ptr b) "Push").run Try.prog W = .ok (125, ptr b) W := by kernel_rfl

set_option maxHeartbeats 2000000 in
set_option maxRecDepth 100000 in
theorem down_calls (base b : Nat) (v : Value) (l : List Nat) (i n : Nat) (w : World) (h : HQ w base b v l) (hn : n ≤ l.length) (hl : l.length ≤ 131072) (hi0 : i ≤ 131072) (hp : Hp l n (i + 1)) :
    Calls Try.prog 84 #[hv b, .int .i64 i, .int .i64 n] w fun e w' => (∃ d : Value, e = .returned d) ∧ ∃ l', HQ w' base b v l' ∧ Hp l' n i ∧ l'.Perm l ∧ (∀ k, n ≤ k → pa l' k = pa l k) ∧ w.grownBy w' v.ownBlock := by
  have HH := Aside0.mk h
  have HD := Aside0.mk (Dn.start hp)
  clear h hp
  go_enter Try.func84, Try.ntmps84
  go_wp2_with fail
  go_loopg [7] (n - i) (fun g a7 wr => ∃ (i' : Nat) (l' : List Nat), a7 = .int .i64 i' ∧ i' ≤ 262144 ∧ g = n - i' ∧ Aside0 (HQ wr base b v l' ∧ w.grownBy wr v.ownBlock) ∧ Aside0 (Dn l n i i' l'))
  case atStart => exact ⟨i, l, rfl, by omega, rfl, ⟨HH.out, World.grownBy.refl _ _⟩, HD⟩
  case round =>
    clear HD
    obtain ⟨i', l', rfl, hi', rfl, HI, HD⟩ := hrel
    have hlen : l'.length = l.length := HD.out.perm.length_eq
    by_cases c1 : 2 * i' + 1 < n
    · have d1 : (2 * (i' : Int) + 1) < (n : Int) := by omega
      have d2 : (0 : Int) ≤ 2 * (i' : Int) + 1 := by omega
      by_cases c2 : 2 * i' + 2 < n
      · have d3 : (2 * (i' : Int) + 1 + 1) < (n : Int) := by omega
        have m1 := meth_less b wr v (box_cell HI.out.1.box).1
        go_wp2_with (go_at_call 122; refine (less_calls base v l' (2 * i' + 1 + 1) (2 * i' + 1) _ HI.out.1.own (by omega) (by omega)).mono ?_)
        rintro e w1 ⟨rfl, q1, rfl⟩
        obtain ⟨wa, hwa, HIA⟩ := ex_world (p := fun W => HQ W base b v l' ∧ w.grownBy W v.ownBlock) (W := wr.drewN q1) ⟨⟨HI.out.1.box, HI.out.1.own⟩, drewN_grown HI.out.2 _⟩
        rw [hwa]
        clear hwa m1
        by_cases c3 : pa l' (2 * i' + 1 + 1) < pa l' (2 * i' + 1)
        · rw [decide_eq_true c3]
          have HLOW := Aside0.mk (show Low l' n i' (2 * i' + 1 + 1) from ⟨.inr rfl, c2, Nat.le_of_lt c3, fun _ => Nat.le_refl _⟩)
          have hMn : 2 * i' + 1 + 1 < n := HLOW.out.lt
          have m2 := meth_less b wa v (box_cell HIA.out.1.box).1
          go_wp2_with (go_at_call 122; refine (less_calls base v l' (2 * i' + 1 + 1) i' _ HIA.out.1.own (by omega) (by omega)).mono ?_)
          rintro e w2 ⟨rfl, q2, rfl⟩
          obtain ⟨w3, hw3, HI3⟩ := ex_world (p := fun W => HQ W base b v l' ∧ w.grownBy W v.ownBlock) (W := (wa).drewN q2) ⟨⟨HIA.out.1.box, HIA.out.1.own⟩, drewN_grown HIA.out.2 _⟩
          rw [hw3]
          clear hw3 m2
          by_cases c5 : pa l' (2 * i' + 1 + 1) < pa l' i'
          · rw [decide_eq_true c5]
            have m3 := meth_swap b w3 v (box_cell HI3.out.1.box).1
            go_wp2_with (go_at_call 123; refine (swap_calls base v l' i' (2 * i' + 1 + 1) _ HI3.out.1.own (by omega) (by omega)).mono ?_)
            rintro e w4 ⟨rfl, ho, hg⟩
            have HI4 := Aside0.mk (show HQ w4 base b v (swp l' i' (2 * i' + 1 + 1)) ∧ w.grownBy w4 v.ownBlock from ⟨⟨blk_grown' HI3.out.1.box hg (blk_row_ne HI3.out.1.own HI3.out.1.box (by decide)), ho⟩, HI3.out.2.trans hg⟩)
            have HD4 := Aside0.mk (HD.out.down (by omega) HLOW.out c5)
            clear ho hg m3
            go_wp2_with fail
            go_roundg (n - (2 * i' + 1 + 1))
            case rel => exact ⟨_, _, by go_num, by omega, rfl, HI4, HD4⟩
            case measure => omega
          · rw [decide_eq_false c5]
            have HD4 := Aside0.mk (HD.out.stop HLOW.out (by omega))
            go_wp2_with fail
            go_ret
            exact ⟨⟨_, rfl⟩, l', HI3.out.1, HD4.out, HD.out.perm, HD.out.keep, HI3.out.2⟩
        · rw [decide_eq_false c3]
          have HLOW := Aside0.mk (show Low l' n i' (2 * i' + 1) from ⟨.inl rfl, c1, Nat.le_refl _, fun _ => Nat.le_of_not_lt c3⟩)
          have hMn : 2 * i' + 1 < n := HLOW.out.lt
          have m2 := meth_less b wa v (box_cell HIA.out.1.box).1
          go_wp2_with (go_at_call 122; refine (less_calls base v l' (2 * i' + 1) i' _ HIA.out.1.own (by omega) (by omega)).mono ?_)
          rintro e w2 ⟨rfl, q2, rfl⟩
          obtain ⟨w3, hw3, HI3⟩ := ex_world (p := fun W => HQ W base b v l' ∧ w.grownBy W v.ownBlock) (W := (wa).drewN q2) ⟨⟨HIA.out.1.box, HIA.out.1.own⟩, drewN_grown HIA.out.2 _⟩
          rw [hw3]
          clear hw3 m2
          by_cases c5 : pa l' (2 * i' + 1) < pa l' i'
          · rw [decide_eq_true c5]
            have m3 := meth_swap b w3 v (box_cell HI3.out.1.box).1
            go_wp2_with (go_at_call 123; refine (swap_calls base v l' i' (2 * i' + 1) _ HI3.out.1.own (by omega) (by omega)).mono ?_)
            rintro e w4 ⟨rfl, ho, hg⟩
            have HI4 := Aside0.mk (show HQ w4 base b v (swp l' i' (2 * i' + 1)) ∧ w.grownBy w4 v.ownBlock from ⟨⟨blk_grown' HI3.out.1.box hg (blk_row_ne HI3.out.1.own HI3.out.1.box (by decide)), ho⟩, HI3.out.2.trans hg⟩)
            have HD4 := Aside0.mk (HD.out.down (by omega) HLOW.out c5)
            clear ho hg m3
            go_wp2_with fail
            go_roundg (n - (2 * i' + 1))
            case rel => exact ⟨_, _, by go_num, by omega, rfl, HI4, HD4⟩
            case measure => omega
          · rw [decide_eq_false c5]
            have HD4 := Aside0.mk (HD.out.stop HLOW.out (by omega))
            go_wp2_with fail
            go_ret
            exact ⟨⟨_, rfl⟩, l', HI3.out.1, HD4.out, HD.out.perm, HD.out.keep, HI3.out.2⟩
      · have d3 : ¬ ((2 * (i' : Int) + 1 + 1) < (n : Int)) := by omega
        have d4 : decide ((2 * (i' : Int) + 1 + 1) < (n : Int)) = false := decide_eq_false d3
        have HLOW := Aside0.mk (show Low l' n i' (2 * i' + 1) from ⟨.inl rfl, c1, Nat.le_refl _, fun h => absurd h c2⟩)
        have hMn : 2 * i' + 1 < n := HLOW.out.lt
        have m2 := meth_less b wr v (box_cell HI.out.1.box).1
        go_wp2_with (go_at_call 122; refine (less_calls base v l' (2 * i' + 1) i' _ HI.out.1.own (by omega) (by omega)).mono ?_)
        rintro e w2 ⟨rfl, q2, rfl⟩
        obtain ⟨w3, hw3, HI3⟩ := ex_world (p := fun W => HQ W base b v l' ∧ w.grownBy W v.ownBlock) (W := (wr).drewN q2) ⟨⟨HI.out.1.box, HI.out.1.own⟩, drewN_grown HI.out.2 _⟩
        rw [hw3]
        clear hw3 m2
        by_cases c5 : pa l' (2 * i' + 1) < pa l' i'
        · rw [decide_eq_true c5]
          have m3 := meth_swap b w3 v (box_cell HI3.out.1.box).1
          go_wp2_with (go_at_call 123; refine (swap_calls base v l' i' (2 * i' + 1) _ HI3.out.1.own (by omega) (by omega)).mono ?_)
          rintro e w4 ⟨rfl, ho, hg⟩
          have HI4 := Aside0.mk (show HQ w4 base b v (swp l' i' (2 * i' + 1)) ∧ w.grownBy w4 v.ownBlock from ⟨⟨blk_grown' HI3.out.1.box hg (blk_row_ne HI3.out.1.own HI3.out.1.box (by decide)), ho⟩, HI3.out.2.trans hg⟩)
          have HD4 := Aside0.mk (HD.out.down (by omega) HLOW.out c5)
          clear ho hg m3
          go_wp2_with fail
          go_roundg (n - (2 * i' + 1))
          case rel => exact ⟨_, _, by go_num, by omega, rfl, HI4, HD4⟩
          case measure => omega
        · rw [decide_eq_false c5]
          have HD4 := Aside0.mk (HD.out.stop HLOW.out (by omega))
          go_wp2_with fail
          go_ret
          exact ⟨⟨_, rfl⟩, l', HI3.out.1, HD4.out, HD.out.perm, HD.out.keep, HI3.out.2⟩
    · have d1 : (n : Int) ≤ (2 * (i' : Int) + 1) := by omega
      have d2 : decide ((n : Int) ≤ (2 * (i' : Int) + 1)) = true := decide_eq_true d1
      have d3 : decide ((2 * (i' : Int) + 1) < 0) = false := decide_eq_false (by omega)
      have HD4 := Aside0.mk (HD.out.leaf (by omega))
      go_wp2_with fail
      go_ret
      exact ⟨⟨_, rfl⟩, l', HI.out.1, HD4.out, HD.out.perm, HD.out.keep, HI.out.2⟩

end Go.Proofs.Ytdddbjaggfaofaa.Mem

namespace Go.Proofs.Ytdddbjaggfaofaa.Mem
open Go.RowKit Go.Proofs.Ytdddbjaggfaofaa.GM Go.Proofs.YtdddbjaggfaofaaW.PrintWords
set_option linter.unusedVariables false

set_option maxHeartbeats 800000 in
set_option maxRecDepth 100000 in
theorem up_calls (base b : Nat) (v : Value) (l : List Nat) (j : Nat) (w : World) (h : HQ w base b v l) (hl : l.length ≤ 131073) (hu : Up l j l) :
    Calls Try.prog 85 #[hv b, .int .i64 j] w fun e w' => e = .returned (.tuple #[]) ∧ ∃ l', HQ w' base b v l' ∧ Hp l' l'.length 0 ∧ l'.Perm l ∧ w.grownBy w' v.ownBlock := by
  have HH := Aside0.mk h
  have HD := Aside0.mk hu
  clear h hu
  go_enter Try.func85, Try.ntmps85
  go_wp2_with fail
  go_loopg [1] j (fun g a1 wr => ∃ (j' : Nat) (l' : List Nat), a1 = .int .i64 j' ∧ g = j' ∧ Aside0 (HQ wr base b v l' ∧ w.grownBy wr v.ownBlock) ∧ Aside0 (Up l j' l'))
  case atStart => exact ⟨j, l, rfl, rfl, ⟨HH.out, World.grownBy.refl _ _⟩, HD⟩
  case round =>
    clear HD
    obtain ⟨j', l', rfl, hg, HI, HD⟩ := hrel
    subst hg
    have hlen : l'.length = l.length := HD.out.perm.length_eq
    have hlt := HD.out.lt
    by_cases c0 : gk = 0
    · subst c0
      have HF := Aside0.mk HD.out.top
      go_wp2_with fail
      go_end0
      exact ⟨rfl, l', HI.out.1, HF.out, HD.out.perm, HI.out.2⟩
    · obtain ⟨p, hp⟩ : ∃ p, p = (gk - 1) / 2 := ⟨_, rfl⟩
      have E1 := Aside0.mk (show ((gk : Int) - 1) / 2 = (p : Int) by omega)
      have E2 := Aside0.mk (show ((gk - 1 : Nat) : Int) / 2 = (p : Int) by omega)
      have m1 := meth_less b wr v (box_cell HI.out.1.box).1
      go_wp2_with (go_at_call 122; (try rw [E1.out]); (try rw [E2.out]); refine (less_calls base v l' gk p _ HI.out.1.own (by omega) (by omega)).mono ?_)
      rintro e w2 ⟨rfl, q2, rfl⟩
      obtain ⟨w3, hw3, HI3⟩ := ex_world (p := fun W => HQ W base b v l' ∧ w.grownBy W v.ownBlock) (W := wr.drewN q2) ⟨⟨HI.out.1.box, HI.out.1.own⟩, drewN_grown HI.out.2 _⟩
      rw [hw3]
      clear hw3 m1
      by_cases c5 : pa l' gk < pa l' p
      · rw [decide_eq_true c5]
        have m3 := meth_swap b w3 v (box_cell HI3.out.1.box).1
        go_wp2_with (go_at_call 123; (try rw [E1.out]); (try rw [E2.out]); refine (swap_calls base v l' p gk _ HI3.out.1.own (by omega) (by omega)).mono ?_)
        rintro e w4 ⟨rfl, ho, hg⟩
        have HI4 := Aside0.mk (show HQ w4 base b v (swp l' p gk) ∧ w.grownBy w4 v.ownBlock from ⟨⟨blk_grown' HI3.out.1.box hg (blk_row_ne HI3.out.1.own HI3.out.1.box (by decide)), ho⟩, HI3.out.2.trans hg⟩)
        have HD4 := Aside0.mk (by have := HD.out.rise (by omega) (by rw [← hp]; exact c5); rw [← hp] at this; exact this)
        clear ho hg m3
        go_wp2_with fail
        go_roundg p
        case rel => exact ⟨_, _, by go_num, rfl, HI4, HD4⟩
        case measure => omega
      · rw [decide_eq_false c5]
        have HD4 := Aside0.mk (HD.out.stop (by rw [← hp]; omega))
        go_wp2_with fail
        go_end0
        exact ⟨rfl, l', HI3.out.1, HD4.out, HD.out.perm, HI3.out.2⟩

theorem own_form {w : World} {base : Nat} {v : Value} {l : List Nat} (h : OwnN w base v l) : ∃ A c, v = .slice A l.length c := own_slice h

theorem fr_drew {w w1 : World} {p : Nat → Prop} (h : Fr w w1 p) (q : Nat) : Fr w (w1.drewN q) p := ⟨h.os, h.tape, h.output, h.size, h.block⟩

set_option maxHeartbeats 800000 in
set_option maxRecDepth 100000 in
theorem heapPush_calls (base b : Nat) (v : Value) (l : List Nat) (x : Nat) (w : World) (h : HQ w base b v l) (hl : l.length ≤ 131072) (hbase : base ≤ b) (hp : Hp l l.length 0) :
    Calls Try.prog 70 #[hv b, .iface 3 (.int .i64 x)] w fun e w' => e = .returned (.tuple #[]) ∧ ∃ v' l', HQ w' base b v' l' ∧ Hp l' l'.length 0 ∧ l'.Perm (l ++ [x]) ∧ (v'.ownBlock = v.ownBlock ∨ ∃ k, v'.ownBlock = some k ∧ w.heap.size ≤ k) ∧ Fr w w' (fun k => k = b ∨ v.ownBlock = some k) := by
  have HH := Aside0.mk h
  have HP := Aside0.mk hp
  have m1 := meth_push b w
  clear h hp
  go_enter Try.func70, Try.ntmps70
  go_wp2_with (go_at_call 125; refine (hpush_calls base b v l x _ HH.out hl hbase).mono ?_)
  rintro e w1 ⟨rfl, v1, h1, hat, hfr⟩
  have HFR := Aside0.mk (And.intro hat hfr)
  have H1 := Aside0.mk h1
  obtain ⟨A1, c1, he⟩ := own_form h1.own
  subst he
  have m2 := meth_len b w1 _ (box_cell h1.box).1
  clear hat hfr h1 m1
  have hlen : (l ++ [x]).length = l.length + 1 := by simp
  rw [hlen] at m2
  have hdd : ((l.length : Int) + 1 - 1) = (l.length : Int) := by omega
  go_wp2_with (first | (go_at_call 121; refine (len_calls A1 (l.length + 1) c1 _).mono ?_; rintro e w2 ⟨rfl, rfl⟩) | (go_at_call 85; refine (up_calls base b _ (l ++ [x]) l.length _ H1.out (by rw [hlen]; omega) (Up.start HP.out)).mono ?_))
  rintro e w3 ⟨rfl, l', h3, hp3, hpm3, hg3⟩
  have H3 := Aside0.mk (And.intro h3 (And.intro hp3 (And.intro hpm3 hg3)))
  clear h3 hp3 hpm3 hg3
  go_wp2_with fail
  go_end0
  refine ⟨rfl, _, l', H3.out.1, H3.out.2.1, H3.out.2.2.1, HFR.out.1, HFR.out.2.trans (Fr.of_grown H3.out.2.2.2 (fun k e => e)) ?_⟩
  intro j hj e
  rcases HFR.out.1 with h | ⟨k, h, hk⟩
  · rw [h] at e; exact .inr e
  · rw [h] at e; injection e with e; omega

set_option maxHeartbeats 800000 in
set_option maxRecDepth 100000 in
theorem heapPop_calls (base b : Nat) (v : Value) (l : List Nat) (n : Nat) (w : World) (h : HQ w base b v l) (hn : l.length = n + 1) (hl : n + 1 ≤ 131072) (hp : Hp l (n + 1) 0) :
    Calls Try.prog 69 #[hv b] w fun e w' => e = .returned (.iface 3 (.int .i64 (pa l 0 : Nat))) ∧ ∃ v' l', HQ w' base b v' l' ∧ Hp l' l'.length 0 ∧ l.Perm (l' ++ [pa l 0]) ∧ v'.ownBlock = v.ownBlock ∧ Fr w w' (fun k => k = b ∨ v.ownBlock = some k) := by
  have HH := Aside0.mk h
  have HP := Aside0.mk hp
  obtain ⟨A, c, he⟩ := own_form h.own
  rw [hn] at he
  subst he
  have m1 := meth_len b w _ (box_cell h.box).1
  have HN := Aside0.mk hn
  clear h hp hn
  have hdd : ((n : Int) + 1 - 1) = (n : Int) := by omega
  go_enter Try.func69, Try.ntmps69
  have m2 := meth_swap b w _ (box_cell HH.out.box).1
  go_wp2_with (first | (go_at_call 121; refine (len_calls A (n + 1) c _).mono ?_; rintro e w1 ⟨rfl, rfl⟩) | (go_at_call 123; refine (swap_calls base _ l 0 n _ HH.out.own (by rw [HN.out]; omega) (by rw [HN.out]; omega)).mono ?_))
  rintro e w2 ⟨rfl, ho2, hg2⟩
  have H2 := Aside0.mk (show HQ w2 base b (.slice A (n + 1) c) (swp l 0 n) from ⟨blk_grown' HH.out.box hg2 (blk_row_ne HH.out.own HH.out.box (by decide)), ho2⟩)
  have HG2 := Aside0.mk hg2
  clear m1 m2 ho2 hg2
  have hsl : (swp l 0 n).length = n + 1 := by rw [swp_len, HN.out]
  have hsw : Hp (swp l 0 n) n (0 + 1) := HP.out.swapped (by rw [HN.out]; exact Nat.lt_succ_self n)
  have DC := Aside0.mk (down_calls base b (.slice A (n + 1) c) (swp l 0 n) 0 n w2 H2.out (by omega) (by omega) (by omega) hsw)
  clear hsl hsw
  go_wp2_with (go_at_call 84; refine DC.out.mono ?_)
  rintro e w3 ⟨⟨d, rfl⟩, l2, h3, hp3, hpm3, hk3, hg3⟩
  have hl2 : l2.length = n + 1 := by rw [hpm3.length_eq, swp_len, HN.out]
  have hlast : pa l2 n = pa l 0 := by rw [hk3 n (Nat.le_refl _), swp_at (by rw [HN.out]; omega) (by rw [HN.out]; omega), if_pos rfl]
  obtain ⟨mm, hm, hml⟩ := split_last hl2
  rw [hlast] at hm
  have H3 := Aside0.mk h3
  have HX := Aside0.mk (And.intro hp3 (And.intro hpm3 hg3))
  have m3 := meth_pop b w3
  have hbox3 : HQ w3 base b (.slice A (n + 1) c) (mm ++ [pa l 0]) := by rw [← hm]; exact h3
  have HB3 := Aside0.mk hbox3
  have HM := Aside0.mk hm
  clear h3 hp3 hpm3 hg3 hbox3 hm hlast hl2 hk3
  go_wp2_with (go_at_call 124; refine (hpop_calls base b _ mm (pa l 0) _ HB3.out (by omega)).mono ?_)
  rintro e w4 ⟨rfl, v4, h4, hat4, hg4⟩
  have H4 := Aside0.mk (And.intro h4 (And.intro hat4 hg4))
  clear h4 hat4 hg4
  go_wp2_with fail
  go_ret
  refine ⟨rfl, v4, mm, H4.out.1, ?_, ?_, H4.out.2.1, ?_⟩
  · intro j h0 hj ha
    have := HX.out.1 j h0 (by omega) ha
    rw [HM.out] at this
    have e : ∀ i, i < mm.length → pa (mm ++ [pa l 0]) i = pa mm i := fun i hi => by
      unfold pa; rw [List.getD_eq_getElem?_getD, List.getElem?_append_left hi, ← List.getD_eq_getElem?_getD]
    rw [e _ (by omega), e _ hj] at this
    exact this
  · rw [← HM.out]
    exact (HX.out.2.1.trans (swp_perm (by rw [HN.out]; omega) (by rw [HN.out]; omega))).symm
  · refine ((Fr.of_grown (HG2.out.trans HX.out.2.2) (fun k e => .inr e)).trans (Fr.of_grown H4.out.2.2 (fun k e => .inl (Option.some.inj e).symm)) (fun j _ e => e))

set_option maxHeartbeats 800000 in
set_option maxRecDepth 100000 in
theorem heapInit_calls (base b : Nat) (v : Value) (l : List Nat) (w : World) (h : HQ w base b v l) (hl : l.length ≤ 131072) :
    Calls Try.prog 68 #[hv b] w fun e w' => e = .returned (.tuple #[]) ∧ ∃ l', HQ w' base b v l' ∧ Hp l' l'.length 0 ∧ l'.Perm l ∧ w.grownBy w' v.ownBlock := by
  have HH := Aside0.mk h
  obtain ⟨A, c, he⟩ := own_form h.own
  subst he
  obtain ⟨n, hn⟩ : ∃ n, n = l.length := ⟨_, rfl⟩
  rw [← hn] at HH hl ⊢
  have HN := Aside0.mk hn
  clear hn
  have m1 := meth_len b w _ (box_cell HH.out.box).1
  clear h
  have E1 := Aside0.mk (show (n : Int) / 2 = ((n / 2 : Nat) : Int) by omega)
  go_enter Try.func68, Try.ntmps68
  go_upto_region 2 with (go_at_call 121; refine (len_calls A n c _).mono ?_; rintro e w1 ⟨rfl, rfl⟩)
  clear m1
  go_loopg [3] (n / 2) (fun g a3 wr => ∃ (k : Nat) (l' : List Nat), a3 = .int .i64 ((k : Int) - 1) ∧ g = k ∧ k ≤ n ∧ Aside0 (HQ wr base b (.slice A n c) l' ∧ w1.grownBy wr (Value.slice A n c).ownBlock) ∧ Aside0 (Hp l' n k ∧ l'.Perm l))
  case atStart => exact ⟨n / 2, l, by rw [E1.out], rfl, by omega, ⟨HH.out, World.grownBy.refl _ _⟩, ⟨fun j h0 hj ha => by omega, List.Perm.refl _⟩⟩
  case round =>
    obtain ⟨k, l', rfl, rfl, hk, HI, HP⟩ := hrel
    have hll : l'.length = n := by rw [HP.out.2.length_eq, HN.out]
    have HLL := Aside0.mk hll
    by_cases c0 : gk = 0
    · subst c0
      clear hll
      go_wp2_with fail
      go_end0
      exact ⟨rfl, l', HI.out.1, by rw [HLL.out]; exact HP.out.1, HP.out.2, HI.out.2⟩
    · obtain ⟨k, rfl⟩ : ∃ k, gk = k + 1 := ⟨gk - 1, by omega⟩
      have DC := Aside0.mk (down_calls base b (.slice A n c) l' k n wr HI.out.1 (by omega) (by omega) (by omega) HP.out.1)
      have e1 : (((k + 1 : Nat) : Int) - 1) = (k : Int) := by omega
      rw [e1]
      clear hll
      go_wp2_with (go_at_call 84; refine DC.out.mono ?_)
      rintro e w3 ⟨⟨d, rfl⟩, l2, h3, hp3, hpm3, hk3, hg3⟩
      have H3 := Aside0.mk (show HQ w3 base b (.slice A n c) l2 ∧ w1.grownBy w3 (Value.slice A n c).ownBlock from ⟨h3, HI.out.2.trans hg3⟩)
      have H4 := Aside0.mk (And.intro hp3 (hpm3.trans HP.out.2))
      clear h3 hp3 hpm3 hk3 hg3
      go_wp2_with fail
      go_roundg k
      case rel => exact ⟨k, l2, by go_num, rfl, by omega, H3, H4⟩
      case measure => omega

end Go.Proofs.Ytdddbjaggfaofaa.Mem
