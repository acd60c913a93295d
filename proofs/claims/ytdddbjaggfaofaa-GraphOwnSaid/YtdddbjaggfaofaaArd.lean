/- graphs.around: the shortest way from the lowest thing on a cycle back to itself, by its contract. -/
import Derived.Test.YtdddbjaggfaofaaFst
import Derived.Test.YtdddbjaggfaofaaCyc
import Derived.Test.YtdddbjaggfaofaaRefC
namespace Go.Proofs.Ytdddbjaggfaofaa.Mem
open Go.RowKit Go.Proofs.Ytdddbjaggfaofaa.GM Go.Proofs.YtdddbjaggfaofaaW.PrintWords
set_option linter.unusedVariables false

/-- The nearest so far: the lowest of those that are the fewest steps away. -/
structure NrI (f : Nat → Option Nat) (ys : List Nat) (i : Nat) (b : Option (Nat × Nat)) : Prop where
  none_ : b = none → ∀ y ∈ ys.take i, f y = none
  some_ : ∀ y d, b = some (y, d) → (y ∈ ys.take i ∧ f y = some d) ∧ ∀ z ∈ ys.take i, ∀ e, f z = some e → d < e ∨ (d = e ∧ y ≤ z)

theorem NrI.start (f : Nat → Option Nat) (ys : List Nat) : NrI f ys 0 none := ⟨fun _ y hy => (by simp at hy), fun y d h => (by cases h)⟩
theorem NrI.skip {f : Nat → Option Nat} {ys : List Nat} {i y : Nat} {b : Option (Nat × Nat)} (h : NrI f ys i b) (hr : Rising ys) (hy : ys[i]? = some y) (hf : f y = none ∨ ∃ u d e, b = some (u, d) ∧ f y = some e ∧ d ≤ e) : NrI f ys (i + 1) b := by
  refine ⟨fun e z hz => ?_, fun u d e => ?_⟩
  · rcases (mem_take_succ hy).1 hz with h1 | h1
    · exact h.none_ e z h1
    · subst h1
      rcases hf with h2 | ⟨u, d, e', e2, _⟩
      · exact h2
      · rw [e] at e2; cases e2
  · obtain ⟨⟨h1, h2⟩, h3⟩ := h.some_ u d e
    refine ⟨⟨(mem_take_succ hy).2 (.inl h1), h2⟩, fun z hz e' hfz => ?_⟩
    rcases (mem_take_succ hy).1 hz with h4 | h4
    · exact h3 z h4 e' hfz
    · subst h4
      rcases hf with h5 | ⟨u', d', e2, h6, h7, h8⟩
      · rw [h5] at hfz; cases hfz
      · rw [e] at h6
        cases h6
        rw [h7] at hfz
        cases hfz
        have hlt : u < z := by
          obtain ⟨j, hj, e3⟩ := List.mem_iff_getElem.1 h1
          rw [List.length_take] at hj
          rw [List.getElem_take] at e3
          obtain ⟨hi, e4⟩ := List.getElem?_eq_some_iff.1 hy
          rw [← e3, ← e4]
          exact List.pairwise_iff_getElem.1 hr j i (by omega) hi (by omega)
        rcases Nat.lt_or_ge d e' with c | c
        · exact .inl c
        · exact .inr ⟨by omega, by omega⟩
theorem NrI.take {f : Nat → Option Nat} {ys : List Nat} {i y d : Nat} {b : Option (Nat × Nat)} (h : NrI f ys i b) (hy : ys[i]? = some y) (hf : f y = some d) (hlt : ∀ u e, b = some (u, e) → d < e) : NrI f ys (i + 1) (some (y, d)) := by
  refine ⟨fun e => (by cases e), fun u e' e => ?_⟩
  cases e
  refine ⟨⟨(mem_take_succ hy).2 (.inr rfl), hf⟩, fun z hz e' hfz => ?_⟩
  rcases (mem_take_succ hy).1 hz with h4 | h4
  · cases hb : b with
    | none => rw [h.none_ hb z h4] at hfz; cases hfz
    | some p =>
      obtain ⟨u, e⟩ := p
      have h1 := hlt u e hb
      rcases (h.some_ u e hb).2 z h4 e' hfz with h2 | h2
      · exact .inl (by omega)
      · exact .inl (by omega)
  · subst h4
    rw [hf] at hfz
    cases hfz
    exact .inr ⟨rfl, Nat.le_refl _⟩

/-- y, d away, is the lowest of the nearest that a needs. -/
def Nr (E : List (Int × Int)) (f : Nat → Option Nat) (a y d : Nat) : Prop := (((a : Int), (y : Int)) ∈ E ∧ f y = some d) ∧ ∀ (z e : Nat), ((a : Int), (z : Int)) ∈ E → f z = some e → d < e ∨ (d = e ∧ y ≤ z)
theorem NrI.fin {E : List (Int × Int)} {f : Nat → Option Nat} {ys : List Nat} {a : Nat} {b : Option (Nat × Nat)} (h : NrI f ys ys.length b) (hys : ∀ y : Nat, y ∈ ys ↔ ((a : Int), (y : Int)) ∈ E) (hex : ∃ (y d : Nat), ((a : Int), (y : Int)) ∈ E ∧ f y = some d) : ∃ y d, b = some (y, d) ∧ Nr E f a y d := by
  cases hb : b with
  | none =>
    obtain ⟨y, d, h1, h2⟩ := hex
    rw [h.none_ hb y (by rw [List.take_length]; exact (hys y).2 h1)] at h2
    cases h2
  | some p =>
    obtain ⟨y, d⟩ := p
    obtain ⟨⟨h1, h2⟩, h3⟩ := h.some_ y d hb
    rw [List.take_length] at h1 h3
    exact ⟨y, d, rfl, ⟨(hys y).1 h1, h2⟩, fun z e hz hf => h3 z ((hys z).2 hz) e hf⟩
theorem Nr.lw {E : List (Int × Int)} {f : Nat → Option Nat} {a y d : Nat} (h : Nr E f a y d) : Lw E f a d y := ⟨h.1, fun z hz hf => by
  rcases h.2 z d hz hf with h1 | h1
  · omega
  · exact h1.2⟩
theorem Nr.best {E : List (Int × Int)} {f : Nat → Option Nat} {a y d : Nat} (h : Nr E f a y d) : Best E f a d := ⟨⟨y, h.1⟩, fun z e hz hf => by rcases h.2 z e hz hf with h1 | h1 <;> omega⟩
theorem Nr.next {E : List (Int × Int)} {f : Nat → Option Nat} {x a y d k : Nat} (h : Nr E f a y d) (ht : TellsE E x f) (hf : f a = some (k + 1)) : d = k := by
  obtain ⟨⟨z, hz, hfz⟩, hmin⟩ := ht.next hf
  have h1 := hmin y d h.1.1 h.1.2
  rcases h.2 z k hz hfz with h2 | h2 <;> omega

def encP1 : Option (Nat × Nat) → Value
  | none => .int .i64 (-1)
  | some p => .int .i64 (p.1 : Int)
def encP2 : Option (Nat × Nat) → Value
  | none => .int .i64 (-1)
  | some p => .int .i64 (p.2 : Int)

set_option maxHeartbeats 2000000 in
set_option maxRecDepth 100000 in
theorem nearest_calls (n a gr cr b0 b4 b7 mb : Nat) (E : List (Int × Int)) (f : Nat → Option Nat) (vals : List Value) (R : List (List Nat)) (w : World) (hrows : OwnRows w b0 (.slice (some ⟨gr, 0, none⟩) n cr) vals R) (hin : RowsIn n E false R) (hris : ∀ x, Rising (nb R x))
    (hm : MapF w mb n (fun y => (f y).map encN)) (h4 : w.heap[b4]? = some (.cells #[.slice (some ⟨gr, 0, none⟩) n cr] 45 (0, 0))) (h7 : w.heap[b7]? = some (.cells #[.map (some mb)] 101 (0, 0)))
    (ha : a < n) (hn : n ≤ 131072) (hE : ∀ e ∈ E, EOk n e) (hex : ∃ (y d : Nat), ((a : Int), (y : Int)) ∈ E ∧ f y = some d) :
    Calls Try.prog 72 #[.int .i64 a, ptr b4, ptr b7] w fun e w' => (∃ y d : Nat, e = .returned (.tuple #[.int .i64 y, .int .i64 d]) ∧ Nr E f a y d) ∧ w' = w := by
  obtain ⟨c4, -⟩ := box_cell h4
  obtain ⟨c7, -⟩ := box_cell h7
  have hrl : (nb R a).length ≤ n := rising_length (hris a) (fun y hy => by have := (hE _ ((hin.2 a y).1 hy)).2.2.2; simp only at this; omega)
  have HROWS := Aside0.mk hrows
  have HIN := Aside0.mk (And.intro hin hris)
  have HM := Aside0.mk hm
  have HEX := Aside0.mk hex
  obtain ⟨xv, hxv, g1, -, hrow, -, -⟩ := hrows.get (i := a) (by rw [hin.1]; exact ha)
  obtain ⟨Ay, cy, he⟩ := own_slice hrow
  subst he
  have HROW := Aside0.mk hrow
  obtain ⟨lr, hlr⟩ : ∃ lr, lr = (nb R a).length := ⟨_, rfl⟩
  rw [← hlr] at g1 hrl
  have HLR := Aside0.mk hlr
  clear hrows hin hris hm h4 h7 hex hxv hrow hlr
  go_enter Try.func72, Try.ntmps72
  go_wp2_with fail
  go_loopg [6, 7, 17] lr (fun g v6 v7 v17 wr => ∃ (i : Nat) (b : Option (Nat × Nat)), v6 = encP2 b ∧ v7 = encP1 b ∧ v17 = .int .i64 i ∧ i ≤ lr ∧ g = lr - i ∧ Aside0 (wr = w) ∧ Aside0 (NrI f (nb R a) i b))
  case atStart => exact ⟨0, none, rfl, rfl, rfl, Nat.zero_le _, rfl, ⟨rfl⟩, ⟨NrI.start f _⟩⟩
  case round =>
    obtain ⟨i, b, rfl, rfl, rfl, hi, rfl, HW, HB⟩ := hrel
    obtain rfl := HW.out
    by_cases hlt : i < lr
    · obtain ⟨gy, rfl, g2, -⟩ := row_cell HROW.out (k := i) (by rw [← HLR.out]; exact hlt)
      have hlt' : i < (nb R a).length := by rw [← HLR.out]; exact hlt
      obtain ⟨y, hy⟩ : ∃ y, y = (nb R a)[i] := ⟨_, rfl⟩
      rw [← hy] at g2
      have hyi : (nb R a)[i]? = some y := by rw [hy, List.getElem?_eq_getElem hlt']
      have hyn : y < n := by
        have := (hE _ ((HIN.out.1.2 a y).1 (by rw [hy]; exact List.getElem_mem hlt'))).2.2.2
        simp only at this
        omega
      have HY := Aside0.mk hyi
      clear hy hyi hlt'
      cases hf : f y with
      | none =>
        have l1 := HM.out.look_no (t := 101) Try.underlying101 (zero3' wr) (x := y) (by omega) (by rw [hf]; rfl)
        have HB2 := Aside0.mk (HB.out.skip (HIN.out.2 a) HY.out (.inl hf))
        clear hf
        cases b with
        | none =>
          unfold encP1 encP2
          simp only
          go_wp2_with fail
          go_roundg (lr - (i + 1))
          case rel => exact ⟨i + 1, none, rfl, rfl, by go_num, by omega, rfl, ⟨rfl⟩, HB2⟩
          case measure => omega
        | some p =>
          unfold encP1 encP2
          simp only
          go_wp2_with fail
          go_roundg (lr - (i + 1))
          case rel => exact ⟨i + 1, some p, rfl, rfl, by go_num, by omega, rfl, ⟨rfl⟩, HB2⟩
          case measure => omega
      | some d =>
        have l1 := HM.out.look_ok (t := 101) Try.underlying101 (zero3' wr) (x := y) (by omega) (v := encN d) (by rw [hf]; rfl)
        unfold encN at l1
        cases b with
        | none =>
          have HB2 := Aside0.mk (HB.out.take HY.out hf (fun u e h => (by cases h)))
          unfold encP1 encP2
          simp only
          clear hf
          go_wp2_with fail
          go_roundg (lr - (i + 1))
          case rel => exact ⟨i + 1, some (y, d), rfl, rfl, by go_num, by omega, rfl, ⟨rfl⟩, HB2⟩
          case measure => omega
        | some p =>
          obtain ⟨u, bd⟩ := p
          unfold encP1 encP2
          simp only
          have hb0 : decide ((u : Int) < 0) = false := decide_eq_false (by omega)
          by_cases hdb : d < bd
          · have HB2 := Aside0.mk (HB.out.take HY.out hf (fun u' e h => (by cases h; exact hdb)))
            have hdb2 : (d : Int) < (bd : Int) := by omega
            clear hf
            go_wp2_with fail
            go_roundg (lr - (i + 1))
            case rel => exact ⟨i + 1, some (y, d), rfl, rfl, by go_num, by omega, rfl, ⟨rfl⟩, HB2⟩
            case measure => omega
          · have HB2 := Aside0.mk (HB.out.skip (HIN.out.2 a) HY.out (.inr ⟨u, bd, d, rfl, hf, by omega⟩))
            have hdb2 : ¬ (d : Int) < (bd : Int) := by omega
            clear hf
            go_wp2_with fail
            go_roundg (lr - (i + 1))
            case rel => exact ⟨i + 1, some (u, bd), rfl, rfl, by go_num, by omega, rfl, ⟨rfl⟩, HB2⟩
            case measure => omega
    · obtain rfl : i = lr := by omega
      have hb := HB.out
      rw [HLR.out] at hb
      obtain ⟨y, d, hbb, hnr⟩ := hb.fin (fun y => HIN.out.1.2 a y) HEX.out
      subst hbb
      have HNR := Aside0.mk hnr
      clear hb hnr
      unfold encP1 encP2
      simp only
      go_wp2_with fail
      go_ret2
      exact ⟨⟨y, d, rfl, HNR.out⟩, rfl⟩

/-- What the search over the queue holds in memory. -/
structure AQ (w : World) (b4 b7 mb n : Nat) (vN : Value) (f : Nat → Option Nat) (A : Option Addr) (c : Nat) (Wk : List Nat) (W : World) : Prop where
  m : MapF W mb n (fun y => (f y).map encN)
  h4 : W.heap[b4]? = some (.cells #[vN] 45 (0, 0))
  h7 : W.heap[b7]? = some (.cells #[.map (some mb)] 101 (0, 0))
  Q : QN W w.heap.size (.slice A Wk.length c) Wk
  lo : w.heap.size ≤ mb
  B : Below w.heap.size w W

theorem map_blk_ne {W : World} {mb N g : Nat} {f : Nat → Option Value} (h : MapF W mb N f) {cs : Array Value} {e : TypeId} (hg : W.heap[g]? = some (.cells cs e (0, 0))) : g ≠ mb := fun e => by
  obtain ⟨es, c, h1⟩ := h.isMap
  rw [e, h1] at hg
  cases hg
theorem map_q_ne {W : World} {mb N base : Nat} {f : Nat → Option Value} (h : MapF W mb N f) {v : Value} {xs : List Nat} (hq : QN W base v xs) : v.ownBlock ≠ some mb := fun e => by
  obtain ⟨_, cs, hc⟩ := q_typed hq mb e
  obtain ⟨es, c, h1⟩ := h.isMap
  rw [h1] at hc
  cases hc

theorem AQ.store {w W : World} {b4 b7 mb n c : Nat} {vN : Value} {f : Nat → Option Nat} {A : Option Addr} {Wk : List Nat} (h : AQ w b4 b7 mb n vN f A c Wk W) {z : Nat} (hz : z < n) (hn : n ≤ 131072) (v : Nat) :
    ∃ w1, (Instr.mapUpdate 101 (.map (some mb)) (.int .i64 (z : Int)) (.int .i64 (v : Int))).run Try.prog W = .ok () w1 ∧ AQ w b4 b7 mb n vN (fun y => if y = z then some v else f y) A c Wk w1 := by
  obtain ⟨w1, hr, hm, hg⟩ := h.m.store (t := 101) Try.underlying101 hz (by omega) (.int .i64 (v : Int))
  exact ⟨w1, hr, hm.ext (fun y => by split <;> rfl), blk_grown' h.h4 hg (fun e => map_blk_ne h.m h.h4 (Option.some.inj e)), blk_grown' h.h7 hg (fun e => map_blk_ne h.m h.h7 (Option.some.inj e)),
    q_grown h.Q hg (fun b hb e => map_q_ne h.m h.Q (by rw [hb, ← e])), h.lo, h.B.grown hg h.B.size (fun b hb => by injection hb with hb; rw [← hb]; exact h.lo)⟩

theorem AQ.push {w W w2 : World} {b4 b7 mb n c c2 z : Nat} {vN : Value} {f : Nat → Option Nat} {A A2 : Option Addr} {Wk : List Nat} (h : AQ w b4 b7 mb n vN f A c Wk W) (hg : W.grownBy w2 (Value.slice A Wk.length c).ownBlock) (hb : Below w.heap.size w w2)
    (ho : QRow w2 w.heap.size 3 1 (.slice A2 ((Wk.map encN).length + 1) c2) ((Wk.map encN).length + 1) (Wk.map encN ++ [encN z])) : AQ w b4 b7 mb n vN f A2 c2 (Wk ++ [z]) w2 := by
  have key : ∀ {g : Nat} {cs : Array Value} {e : TypeId}, W.heap[g]? = some (.cells cs e (0, 0)) → e ≠ 3 → some g ≠ (Value.slice A Wk.length c).ownBlock := fun hgc hne e => by
    obtain ⟨_, cs', hc⟩ := q_typed h.Q _ e.symm
    rw [hgc] at hc
    injection hc with hc
    injection hc with _ hc
    exact hne hc
  exact ⟨h.m.grown hg (map_q_ne h.m h.Q), blk_grown' h.h4 hg (key h.h4 (by decide)), blk_grown' h.h7 hg (key h.h7 (by decide)), by unfold QN; simpa using ho, h.lo, hb⟩

theorem AQ.head {w W : World} {b4 b7 mb n c x : Nat} {vN : Value} {f : Nat → Option Nat} {A : Option Addr} {Wk : List Nat} (h : AQ w b4 b7 mb n vN f A c (x :: Wk) W) :
    ∃ ad, A = some ad ∧ W.cell? ad = some (.int .i64 (x : Int)) ∧ Wk.length + 1 ≤ c ∧ QN W w.heap.size (.slice (if c = 1 then A else A.map (·.add 1)) Wk.length (c - 1)) Wk := by
  have hq : QRow W w.heap.size 3 1 (.slice A (Wk.length + 1) c) (Wk.length + 1) (encN x :: Wk.map encN) := h.Q
  obtain ⟨ad, rfl, hc⟩ := q_cells hq (by omega)
  have h0 := hc 0 _ rfl
  obtain ⟨A', c', he, hle⟩ := q_slice hq
  cases he
  have hd := q_drop hq (k := 1) (by omega)
  refine ⟨ad, rfl, by simpa [Addr.add, encN] using h0, hle, ?_⟩
  unfold QN
  simpa using hd

theorem AQ.drew {w W : World} {b4 b7 mb n : Nat} {vN : Value} {f : Nat → Option Nat} {A : Option Addr} {c : Nat} {Wk : List Nat} (h : AQ w b4 b7 mb n vN f A c Wk W) : AQ w b4 b7 mb n vN f A c Wk W.drew := ⟨h.m, h.h4, h.h7, h.Q, h.lo, h.B.drew⟩

theorem below_at {w W : World} (h : Below w.heap.size w W) {k : Nat} {o : Obj} (hk : w.heap[k]? = some o) : W.heap[k]? = some o := by
  rw [h.block k (Array.getElem?_eq_some_iff.1 hk).1]; exact hk

def AroundPost (w : World) (E : List (Int × Int)) (n : Nat) (e : Ending) (w' : World) : Prop :=
  ∃ A c C, e = .returned (.slice A C.length c) ∧ OwnN w' w.heap.size (.slice A C.length c) C ∧ CycS E n C ∧ Below w.heap.size w w'

set_option maxHeartbeats 4000000 in
set_option maxRecDepth 100000 in
theorem around_calls (n x gN cN gU cU b0 : Nat) (E : List (Int × Int)) (vN vU : List Value) (R1 R2 : List (List Nat)) (w : World) (hrN : OwnRows w b0 (.slice (some ⟨gN, 0, none⟩) n cN) vN R1) (hrU : OwnRows w b0 (.slice (some ⟨gU, 0, none⟩) n cU) vU R2)
    (hin1 : RowsIn n E false R1) (hin2 : RowsIn n E true R2) (hris1 : ∀ a, Rising (nb R1 a)) (hris2 : ∀ a, Rising (nb R2 a)) (hn : n ≤ 131072) (hE : ∀ e ∈ E, EOk n e) (hx : FirstC E n x) :
    Calls Try.prog 56 #[.int .i64 x, .slice (some ⟨gN, 0, none⟩) n cN, .slice (some ⟨gU, 0, none⟩) n cU] w fun e w' => AroundPost w E n e w' := by
  have hxn := hx.1
  have hR2n : ∀ a b, b ∈ nb R2 a → b < n := fun a b hb => by have := (hE _ ((hin2.2 a b).1 hb)).2.1; simp only at this; omega
  have hR2l : ∀ a, (nb R2 a).length ≤ n := fun a => rising_length (hris2 a) (hR2n a)
  have hmm := @run_makeMap Try.prog
  obtain ⟨w1, hw1⟩ : ∃ w1, w1 = w.alloc (.cells #[.slice (some ⟨gN, 0, none⟩) n cN] 45) := ⟨_, rfl⟩
  have hs1 : w1.heap.size = w.heap.size + 1 := by rw [hw1]; simp
  obtain ⟨w2, hrun, hm2, hg2⟩ := (MapF.made w1 n).store (t := 101) Try.underlying101 hxn (by omega) (.int .i64 0)
  have hb4 : w2.heap[w.heap.size]? = some (.cells #[.slice (some ⟨gN, 0, none⟩) n cN] 45 (0, 0)) := by
    rw [hg2.block w.heap.size (by simp; omega) (fun e => by injection e; omega)]
    rw [hw1]
    exact old_at (new_at _ _ rfl)
  have hs2 : w1.heap.size + 1 ≤ w2.heap.size := by have := hg2.size; simpa using this
  have hB2 : Below w.heap.size w w2 := by
    have h1 : Below w.heap.size w w1 := by rw [hw1]; exact (Below.refl _ _).alloc (Nat.le_refl _) _
    exact (h1.alloc (by omega) _).grown hg2 (by simp; omega) (fun b hb => by injection hb with hb; omega)
  rw [hs1] at hrun hm2
  rw [hw1] at hrun
  obtain ⟨b7, hb7⟩ : ∃ b7, b7 = w2.heap.size := ⟨_, rfl⟩
  have haq : AQ w w.heap.size b7 (w.heap.size + 1) n (.slice (some ⟨gN, 0, none⟩) n cN) (fun y => if y = x then some 0 else none) (some ⟨b7 + 1, 0, none⟩) 1 [x] ((w2.alloc (.cells #[.map (some (w.heap.size + 1))] 101)).alloc (.cells #[.int .i64 (x : Int)] 3)) := by
    subst hb7
    refine ⟨(hm2.ext (fun y => by split <;> rfl)).below (((Below.refl _ _).alloc (Nat.le_refl _) _).alloc (by simp) _), old_at (old_at hb4), old_at (new_at _ _ rfl), ?_, by omega, (hB2.alloc (by omega) _).alloc (by simp; omega) _⟩
    have := World.ownsRow_lit (base := w.heap.size) (e := 3) (size := 1) (w2.alloc (.cells #[.map (some (w.heap.size + 1))] 101)) #[Value.int IntKind.i64 ↑x] 1 (by simp; omega) (by decide) rfl
    have e : (w2.alloc (.cells #[.map (some (w.heap.size + 1))] 101)).heap.size = w2.heap.size + 1 := by simp
    rw [e] at this
    exact q_of_own this
  have HAQ0 := Aside0.mk haq
  have HB7 := Aside0.mk hb7
  have HRN := Aside0.mk hrN
  have HRU := Aside0.mk hrU
  have HIN := Aside0.mk (And.intro hin1 (And.intro hin2 (And.intro hris1 hris2)))
  have HR2 := Aside0.mk (And.intro hR2n hR2l)
  have HX := Aside0.mk hx
  clear hrN hrU hin1 hin2 hris1 hris2 hR2n hR2l hx hm2 hg2 hb4 hB2 haq hw1 hs1 hs2 hb7
  go_enter Try.func56, Try.ntmps56
  go_wp2_with fail
  rw [← HB7.out]
  obtain ⟨W, hW, HAQ⟩ := ex_world HAQ0.out
  rw [hW]
  clear hW HAQ0 hmm hrun
  go_loopg [8] (2 * n + 1) (fun g v8 wr => ∃ (A : Option Addr) (c p : Nat) (f : Nat → Option Nat) (Q Wk : List Nat), v8 = .slice A Wk.length c ∧ 2 * (n - Q.length) + Wk.length ≤ g ∧ Aside0 (Wk = Q.drop p) ∧
    Aside0 (AQ w w.heap.size b7 (w.heap.size + 1) n (.slice (some ⟨gN, 0, none⟩) n cN) f A c Wk wr) ∧ Aside0 (Bq R2 x n f Q p) ∧ Aside0 (∀ y d, f y = some d → d < Q.length))
  case atStart => exact ⟨_, _, 0, _, [x], [x], rfl, by simp; omega, ⟨rfl⟩, HAQ, ⟨Bq.start hxn⟩, ⟨fun y d h => (by by_cases e : y = x; (rw [if_pos e] at h; cases h; exact Nat.one_pos); (rw [if_neg e] at h; cases h))⟩⟩
  case round =>
    clear HAQ
    obtain ⟨A, c, p, f, Q, Wk, rfl, hgk, HWK, HAQ, HBQ, HUB⟩ := hrel
    by_cases hp : p < Q.length
    · obtain ⟨u, L, hbi⟩ := HBQ.out.at_ hp
      obtain ⟨Wr, hWr⟩ : ∃ Wr, Wr = Q.drop (p + 1) := ⟨_, rfl⟩
      have hWk : Wk = u :: Wr := by
        rw [HWK.out, List.drop_eq_getElem_cons hp, hWr]
        congr 1
        have := hbi.here
        rw [List.getElem?_eq_getElem hp] at this
        exact Option.some.inj this
      subst hWk
      have HWR := Aside0.mk hWr
      have HBI := Aside0.mk hbi
      have hun : u < n := HBQ.out.log.lt u (List.mem_of_getElem? hbi.here)
      have hLn : L ≤ n := by have h1 := HUB.out u L hbi.lev; have h2 := HBQ.out.log.len; omega
      obtain ⟨ad, rfl, h0, hcap, -⟩ := HAQ.out.head
      obtain ⟨xv, hxv, r1, -, hin, -, -⟩ := (HRU.out.below HAQ.out.B).get (i := u) (by rw [HIN.out.2.1.1]; exact hun)
      obtain ⟨Ax, cx, he⟩ := own_slice hin
      subst he
      have hkl := HR2.out.2 u
      have HXV := Aside0.mk hxv
      simp only [List.length_cons] at hgk
      clear hWr hbi hxv hin HWK
      go_wp2_with fail
      clear h0 r1
      go_loopg [8, 34] (nb R2 u).length (fun g v8 v34 wq => ∃ (k : Nat) (A : Option Addr) (c : Nat) (f : Nat → Option Nat) (Q Wr : List Nat), k ≤ (nb R2 u).length ∧ g = (nb R2 u).length - k ∧ v34 = .int .i64 k ∧ v8 = .slice A (Wr.length + 1) c ∧ 2 * (n - Q.length) + Wr.length + 1 ≤ gk ∧ Aside0 (Wr = Q.drop (p + 1)) ∧
        Aside0 (AQ w w.heap.size b7 (w.heap.size + 1) n (.slice (some ⟨gN, 0, none⟩) n cN) f A c (u :: Wr) wq) ∧ Aside0 (Bqi R2 x n f Q p u L k) ∧ Aside0 (∀ y d, f y = some d → d < Q.length))
      case atStart => exact ⟨0, _, _, f, Q, Wr, Nat.zero_le _, rfl, rfl, rfl, by omega, HWR, HAQ, HBI, HUB⟩
      case round =>
        clear HAQ HBQ HBI HWR HUB hgk hcap hp
        obtain ⟨k, A, c, f, Q, Wr, hk, rfl, rfl, rfl, hgk2, HWR, HAQ, HBI, HUB⟩ := hrel
        obtain ⟨ad, rfl, h0, hcap, hq⟩ := HAQ.out.head
        by_cases hlt : k < (nb R2 u).length
        · have hin := (HRU.out.below HAQ.out.B).inner u _ HXV.out
          obtain ⟨gx, rfl, g2, -⟩ := row_cell hin hlt
          obtain ⟨z, hz⟩ : ∃ z, z = (nb R2 u)[k] := ⟨_, rfl⟩
          rw [← hz] at g2
          have hzk : (nb R2 u)[k]? = some z := by rw [hz, List.getElem?_eq_getElem hlt]
          have hzn : z < n := HR2.out.1 u z (by rw [hz]; exact List.getElem_mem hlt)
          obtain ⟨c7, -⟩ := box_cell HAQ.out.h7
          have HZ := Aside0.mk hzk
          have HQ := Aside0.mk hq
          clear hin hz hzk hq
          cases hfz : f z with
          | some d =>
            have l1 := HAQ.out.m.look_ok (t := 101) Try.underlying101 (zero3' wr) (x := z) (by omega) (v := encN d) (by rw [hfz]; rfl)
            unfold encN at l1
            have HBI2 := Aside0.mk (HBI.out.skip HZ.out (by rw [hfz]; simp))
            clear hfz
            go_wp2_with fail
            go_roundg ((nb R2 u).length - (k + 1))
            case rel => exact ⟨k + 1, _, _, f, Q, Wr, by omega, rfl, by go_num, rfl, hgk2, HWR, HAQ, HBI2, HUB⟩
            case measure => omega
          | none =>
            have l1 := HAQ.out.m.look_no (t := 101) Try.underlying101 (zero3' wr) (x := z) (by omega) (by rw [hfz]; rfl)
            have hadd := HBI.out.add HZ.out hfz hzn
            have hql := hadd.b.log.len
            rw [List.length_append] at hql
            simp only [List.length_cons, List.length_nil] at hql
            have hpl : p < Q.length := (List.getElem?_eq_some_iff.1 HBI.out.here).1
            have HWR2 := Aside0.mk (show Wr ++ [z] = (Q ++ [z]).drop (p + 1) by rw [List.drop_append_of_le_length (by omega), HWR.out])
            have hWl : Wr.length ≤ Q.length := by rw [HWR.out, List.length_drop]; omega
            have HAQD := Aside0.mk HAQ.out.drew
            have l2 := HAQD.out.m.look (t := 101) Try.underlying101 (zero3' wr.drew) (x := u) (by omega) (v := encN L) (by rw [HBI.out.lev]; rfl)
            unfold encN at l2
            obtain ⟨d7, -⟩ := box_cell HAQD.out.h7
            obtain ⟨_, hadd0, d0, -, -⟩ := HAQD.out.head
            cases hadd0
            obtain ⟨w3, hrun, haq3⟩ := HAQD.out.store hzn hn (L + 1)
            rw [show (((L + 1 : Nat)) : Int) = (L : Int) + 1 from by omega] at hrun
            have HADD := Aside0.mk hadd
            have HAQ3 := Aside0.mk haq3
            clear hadd hfz haq3
            go_upto_region 10 with (fail)
            go_region
            clear l1 l2 hrun d0 d7 h0 c7 g2
            have HUB2 := Aside0.mk (show ∀ y d, (fun y => if y = z then some (L + 1) else f y) y = some d → d < (Q ++ [z]).length from fun y d h => (by
              rw [List.length_append, List.length_cons, List.length_nil]
              simp only at h
              by_cases e : y = z
              · rw [if_pos e] at h
                cases h
                have := HUB.out u L HBI.out.lev
                omega
              · rw [if_neg e] at h
                have := HUB.out y d h
                omega))
            go_wp2_with (at_builtin; refine append_q (w0 := w) (W := w3) w.heap.size rfl (.tmp 54) (.tmp 56) 33 3 (.int .i64 0) 8 rfl Try.underlying33 info3 rfl (by decide) (.slice (some ad) (u :: Wr).length c) ((u :: Wr).map encN) (encN z) rfl rfl rfl ?aO ?aB ?aS ?aL ?_; (case aO => rw [List.length_map]; exact HAQ3.out.Q); (case aB => exact HAQ3.out.B); (case aS => exact HAQ3.out.B.size); (case aL => rw [List.length_map, List.length_cons]; omega); intro v1 w4 ho hb hg hat; obtain ⟨A2, C2, he, hle2⟩ := q_slice ho; subst he; have HREL := Aside0.mk (AQ.push HAQ3.out hg hb ho); clear hb hg hat ho hle2)
            go_roundg ((nb R2 u).length - (k + 1))
            case rel => exact ⟨k + 1, A2, C2, _, Q ++ [z], Wr ++ [z], by omega, rfl, by go_num, by simp, by simp only [List.length_append, List.length_cons, List.length_nil]; omega, HWR2, ⟨by simpa using HREL.out⟩, HADD, HUB2⟩
            case measure => omega
        · obtain rfl : k = (nb R2 u).length := by omega
          have hcut := run_cut1 (some ad) (Wr.length + 1) c (by omega) hcap
          obtain ⟨A1, hA1⟩ : ∃ A1, A1 = (if c = 1 then some ad else (some ad).map (fun b => b.add 1)) := ⟨_, rfl⟩
          rw [← hA1] at hcut hq
          rw [show Wr.length + 1 - 1 = Wr.length from rfl] at hcut
          have HQ := Aside0.mk hq
          have HFIN := Aside0.mk HBI.out.fin
          clear hq hA1 h0
          go_wp2_with fail
          go_roundg (2 * (n - Q.length) + Wr.length)
          case rel => exact ⟨A1, c - 1, p + 1, f, Q, Wr, rfl, Nat.le_refl _, HWR, ⟨⟨HAQ.out.m, HAQ.out.h4, HAQ.out.h7, HQ.out, HAQ.out.lo, HAQ.out.B⟩⟩, HFIN, HUB⟩
          case measure => omega
    · have hpe : p = Q.length := Nat.le_antisymm HBQ.out.ple (by omega)
      subst hpe
      have hWk : Wk = [] := by rw [HWK.out, List.drop_length]
      subst hWk
      have htl := HBQ.out.all
      have HT := Aside0.mk (TellsE.of (E := E) (fun p q => HIN.out.2.1.2 p q) htl)
      have HFN := Aside0.mk (show ∀ y d, f y = some d → y < n ∧ d < n from fun y d h => ⟨HBQ.out.log.lt y ((HBQ.out.log.mem y).2 (by rw [h]; rfl)), Dst.le_log HBQ.out.log htl d y h⟩)
      have HEX := Aside0.mk (show ∃ y d : Nat, ((x : Int), (y : Int)) ∈ E ∧ f y = some d from by
        obtain ⟨y, h1, h2⟩ := HX.out.2.1
        obtain ⟨d, hd⟩ := (HT.out.some_iff y).2 h2
        exact ⟨y, d, h1, hd⟩)
      have HNC := Aside0.mk (show ∀ (W : World) (y : Nat), Below wr.heap.size wr W → y < n → (∃ z d : Nat, ((y : Int), (z : Int)) ∈ E ∧ f z = some d) → Calls Try.prog 72 #[.int .i64 y, ptr w.heap.size, ptr b7] W fun e w' => (∃ z d : Nat, e = .returned (.tuple #[.int .i64 z, .int .i64 d]) ∧ Nr E f y z d) ∧ w' = W from fun W y hb hy he =>
        nearest_calls n y gN cN b0 w.heap.size b7 (w.heap.size + 1) E f vN R1 W ((HRN.out.below HAQ.out.B).below hb) HIN.out.1 HIN.out.2.2.1 (HAQ.out.m.below hb) (below_at hb HAQ.out.h4) (below_at hb HAQ.out.h7) hy hn hE he)
      have hlit : OwnN (wr.alloc (Obj.cells #[Value.int IntKind.i64 ↑x] 3)) wr.heap.size (.slice (some ⟨wr.heap.size, 0, none⟩) 1 1) [x] := World.ownsRow_lit (base := wr.heap.size) (e := 3) (size := 1) wr #[Value.int IntKind.i64 ↑x] 1 (Nat.le_refl _) (by decide) rfl
      have HC0 := Aside0.mk (HNC.out _ x ((Below.refl _ wr).alloc (Nat.le_refl _) (Obj.cells #[Value.int IntKind.i64 ↑x] 3)) hxn HEX.out)
      have HBM := Aside0.mk (show BM wr (.slice (some ⟨wr.heap.size, 0, none⟩) 1 1) [x] (wr.alloc (Obj.cells #[Value.int IntKind.i64 ↑x] 3)) from ⟨hlit, (Below.refl _ _).alloc (Nat.le_refl _) _⟩)
      obtain ⟨wE, hwE⟩ : ∃ wE, wE = wr := ⟨_, rfl⟩
      have HBE := Aside0.mk HAQ.out.B
      rw [← hwE] at HNC HBM HC0 HBE
      clear htl hlit hgk HAQ HBQ HUB HWK hp
      go_wp2_with fail
      rw [← hwE]
      clear hwE
      refine HC0.out.mono ?_
      rintro e w5 ⟨⟨y, d, rfl, hnr⟩, rfl⟩
      have HW0 := Aside0.mk (WayB.start (E := E) (f := f) (x := x) (b := d))
      have HNR := Aside0.mk hnr.lw
      have HBEST := Aside0.mk hnr.best
      have hdn := (HFN.out y d hnr.1.2).2
      obtain ⟨b, hb⟩ : ∃ b, b = d := ⟨_, rfl⟩
      have HBEQ := Aside0.mk hb
      have HDF := Aside0.mk hnr.1.2
      clear hnr hb
      obtain ⟨W, hW, HBM2⟩ := ex_world HBM.out
      rw [hW]
      clear hW HBM HC0
      go_wp2_with fail
      go_loopg [13, 15, 16] d (fun g v13 v15 v16 wr => ∃ (a y k : Nat) (l : List Nat) (A : Option Addr) (c : Nat), v13 = .slice A l.length c ∧ v15 = .int .i64 y ∧ v16 = .int .i64 k ∧ k = g ∧ k ≤ d ∧ Aside0 (BM wE (.slice A l.length c) l wr) ∧ Aside0 (WayB E f x d a k l) ∧ Aside0 (Lw E f a k y))
      case atStart => exact ⟨x, y, d, [x], _, _, rfl, rfl, rfl, rfl, Nat.le_refl _, HBM2, HW0, HNR⟩
      case round =>
        clear HBM2 HW0 HNR HDF
        obtain ⟨a, y, k, l, A, c, rfl, rfl, rfl, rfl, hkd, HBM, HWAY, HLW⟩ := hrel
        by_cases h0 : k = 0
        · subst h0
          have HOUT := Aside0.mk (own_less HBM.out.o HBE.out.size)
          have HBB := Aside0.mk (HBE.out.trans (HBM.out.B.mono HBE.out.size))
          go_wp2_with fail
          go_ret
          exact ⟨A, c, l, rfl, HOUT.out, ⟨x, d, a, f, HX.out, HT.out, HBEST.out, HWAY.out⟩, HBB.out⟩
        · obtain ⟨k, rfl⟩ : ∃ j, k = j + 1 := ⟨k - 1, by omega⟩
          have hll : l.length ≤ n := by obtain ⟨m, h1, h2⟩ := HWAY.out.bk; omega
          have hyn : y < n := (HFN.out y _ HLW.out.1.2).1
          have HWAY2 := Aside0.mk (HWAY.out.step HLW.out)
          have HEX3 := Aside0.mk (HT.out.next HLW.out.1.2).1
          have HYF := Aside0.mk HLW.out.1.2
          clear h0
          go_wp2_with (at_builtin; refine print_append (w0 := wE) (W := wr) wE.heap.size rfl (.tmp 76) (.tmp 78) 33 3 (.int .i64 0) 8 rfl Try.underlying33 info3 rfl (by decide) (.slice A l.length c) (l.map encN) (encN y) rfl rfl rfl ?aO ?aB ?aS ?aL ?_; (case aO => rw [List.length_map]; exact HBM.out.o); (case aB => exact HBM.out.B); (case aS => exact HBM.out.B.size); (case aL => rw [List.length_map]; omega); intro v2 w4 ho hb hg hat; obtain ⟨A6, c6, he⟩ := own_slice ho; subst he; have HBM4 := Aside0.mk (show BM wE (.slice A6 (l.map encN ++ [encN y]).length c6) (l ++ [y]) w4 from ⟨by unfold OwnN; simpa using ho, hb⟩); have HC1 := Aside0.mk (HNC.out w4 y hb hyn (by obtain ⟨z, h1, h2⟩ := HEX3.out; exact ⟨z, k, h1, h2⟩)); clear hb hg hat ho)
          refine HC1.out.mono ?_
          rintro e w6 ⟨⟨y2, d2, rfl, hnr⟩, rfl⟩
          obtain rfl := hnr.next HT.out HYF.out
          have HNR := Aside0.mk hnr.lw
          clear hnr HC1
          go_wp2_with fail
          go_roundg d2
          case rel => exact ⟨y, y2, d2, l ++ [y], A6, c6, by simp, rfl, rfl, rfl, by omega, by simpa using HBM4, HWAY2, HNR⟩
          case measure => omega

end Go.Proofs.Ytdddbjaggfaofaa.Mem
