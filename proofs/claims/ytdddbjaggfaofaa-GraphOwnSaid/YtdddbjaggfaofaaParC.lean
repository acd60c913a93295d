/- graphs.parts, by its contract: the parts that hang together, each rising, each once. -/
import Derived.Test.YtdddbjaggfaofaaParB
import Derived.Deep.DeepCutAuto
namespace Go.Proofs.Ytdddbjaggfaofaa.Mem
open Go.RowKit Go.Proofs.Ytdddbjaggfaofaa.GM Go.Proofs.YtdddbjaggfaofaaW.PrintWords
set_option linter.unusedVariables false

/-- The parts of a graph that hang together. -/
structure Sccs (R : List (List Nat)) (n : Nat) (out : List (List Nat)) : Prop where
  scc : ∀ C ∈ out, C ≠ [] ∧ Rising C ∧ ∀ y ∈ C, ∀ z, z ∈ C ↔ (RR R y z ∧ RR R z y)
  lt : ∀ C ∈ out, ∀ y ∈ C, y < n
  all : ∀ y, y < n → ∃ C ∈ out, y ∈ C
  uniq : out.Pairwise (fun C D => ∀ y ∈ C, y ∉ D)
  len : out.length ≤ n

def PartsPost (w : World) (n : Nat) (R : List (List Nat)) (e : Ending) (w' : World) : Prop :=
  Below w.heap.size w w' ∧ ∃ vO os out, e = .returned vO ∧ OwnRows w' w.heap.size vO os out ∧ Sccs R n out

/-- Two rows of noughts and their variables, made in whatever order. -/
structure MF (W : World) (n gN gL bN bL : Nat) (wx : World) : Prop where
  bel : Below W.heap.size W wx
  hN : wx.heap[bN]? = some (.cells #[.slice (some ⟨gN, 0, none⟩) n n] 33 (0, 0))
  hL : wx.heap[bL]? = some (.cells #[.slice (some ⟨gL, 0, none⟩) n n] 33 (0, 0))
  mN : wx.heap[gN]? = some (.cells (madeCells #[.int .i64 0] n) 3 (0, 0))
  mL : wx.heap[gL]? = some (.cells (madeCells #[.int .i64 0] n) 3 (0, 0))
  ne : gN ≠ gL ∧ bN ≠ bL
  lo : W.heap.size ≤ gN ∧ W.heap.size ≤ gL ∧ W.heap.size ≤ bN ∧ W.heap.size ≤ bL

theorem mf_mk {W wx : World} {n gN gL bN bL : Nat} (hN : wx.heap[bN]? = some (.cells #[.slice (some ⟨gN, 0, none⟩) n n] 33 (0, 0))) (hL : wx.heap[bL]? = some (.cells #[.slice (some ⟨gL, 0, none⟩) n n] 33 (0, 0)))
    (mN : wx.heap[gN]? = some (.cells (madeCells #[.int .i64 0] n) 3 (0, 0))) (mL : wx.heap[gL]? = some (.cells (madeCells #[.int .i64 0] n) 3 (0, 0))) (ne : gN ≠ gL ∧ bN ≠ bL)
    (lo : W.heap.size ≤ gN ∧ W.heap.size ≤ gL ∧ W.heap.size ≤ bN ∧ W.heap.size ≤ bL) (bel : Below W.heap.size W wx) : ∃ gN gL, MF W n gN gL bN bL wx := ⟨gN, gL, bel, hN, hL, mN, mL, ne, lo⟩

theorem drew_at {w : World} {k : Nat} {o : Obj} (h : w.heap[k]? = some o) : w.drew.heap[k]? = some o := h

theorem own_zeros {W : World} {g n base : Nat} (h : W.heap[g]? = some (.cells (madeCells #[.int .i64 0] n) 3 (0, 0))) (hb : base ≤ g) (hn : n ≤ 131072) : OwnN W base (.slice (some ⟨g, 0, none⟩) n n) (List.replicate n 0) := by
  have hl : (madeCells #[Value.int .i64 0] n).toList = (List.replicate n 0).map encN := by
    apply List.ext_getElem
    · simp [madeCells]
    · intro i h1 h2
      simp [madeCells, Nat.mod_one, encN]
  unfold OwnN
  refine ⟨by simp, .inr ⟨g, n, _, by simp, hb, h, by simp, by unfold maxLen; omega, by simp [madeCells], ?_⟩⟩
  rw [hl]
  simp

theorem ps_start {w wc : World} {b0 g0 cn n gN gL bN bL : Nat} {vals : List Value} {R : List (List Nat)} (h : OwnRows w b0 (.slice (some ⟨g0, 0, none⟩) n cn) vals R) (hn : n ≤ 131072)
    (hm : MF (w.alloc (.cells #[.slice (some ⟨g0, 0, none⟩) n cn] 45)) n gN gL bN bL wc) (f : Fx) (hf : f = ⟨wc.heap.size + 1 + 1 + 1 + 1, bN, bL, wc.heap.size + 1 + 1, wc.heap.size + 1, w.heap.size, wc.heap.size + 1 + 1 + 1 + 1 + 1, wc.heap.size + 1 + 1 + 1, gN, gL, wc.heap.size, n, wc.heap.size + 6⟩) :
    PS w b0 (.slice (some ⟨g0, 0, none⟩) n cn) vals R f (.slice none 0 0) (.slice none 0 0) [] (List.replicate n 0) (List.replicate n 0) [] (List.replicate n false) [] 0
      ((((((wc.alloc (Obj.cells (madeCells #[Value.bool false] n) 4)).alloc (Obj.cells #[Value.slice (some ⟨wc.heap.size, 0, none⟩) n n] 80)).alloc (Obj.cells #[Value.slice none 0 0] 33)).alloc (Obj.cells #[Value.slice none 0 0] 45)).alloc (Obj.cells #[Value.int .i64 0] 3)).alloc (Obj.cells #[tjF f] 81)) := by
  have hs : w.heap.size + 1 ≤ wc.heap.size := by have := hm.bel.size; simpa using this
  have l1 := blk_lt' hm.hN
  have l2 := blk_lt' hm.hL
  have l3 := blk_lt' hm.mN
  have l4 := blk_lt' hm.mL
  have l5 := hm.lo
  simp at l5
  have l6 := hm.ne
  have n1 : bN ≠ gN := tys_ne hm.hN hm.mN (by decide)
  have n2 : bN ≠ gL := tys_ne hm.hN hm.mL (by decide)
  have n3 : bL ≠ gN := tys_ne hm.hL hm.mN (by decide)
  have n4 : bL ≠ gL := tys_ne hm.hL hm.mL (by decide)
  have hn0 : wc.heap[w.heap.size]? = some (.cells #[.slice (some ⟨g0, 0, none⟩) n cn] 45 (0, 0)) := by
    rw [hm.bel.block w.heap.size (by simp)]
    exact new_at _ _ rfl
  have hb0 : Below w.heap.size w wc := ((Below.refl _ _).alloc (Nat.le_refl _) _).trans (hm.bel.mono (by simp))
  have hmk := OwnB.made wc w.heap.size n (by omega) hn
  subst hf
  exact {
    bel := ((((((hb0.alloc (by omega) _).alloc (by simp; omega) _).alloc (by simp; omega) _).alloc (by simp; omega) _).alloc (by simp; omega) _).alloc (by simp; omega) _)
    rows := h
    nd := by
      unfold Fx.all
      simp only [List.nodup_cons, List.mem_cons, not_or, List.not_mem_nil, not_false_eq_true, List.nodup_nil, and_true]
      omega
    lo := by
      unfold Fx.all
      simp only [List.forall_mem_cons, List.not_mem_nil, false_implies, implies_true, and_true]
      omega
    lF := by simp; omega
    hx := old_at (new_at _ _ (by simp))
    hN := old_at (old_at (old_at (old_at (old_at (old_at hm.hN)))))
    hL := old_at (old_at (old_at (old_at (old_at (old_at hm.hL)))))
    hS := old_at (old_at (old_at (new_at _ _ (by simp))))
    hon := old_at (old_at (old_at (old_at (new_at _ _ (by simp)))))
    hn := old_at (old_at (old_at (old_at (old_at (old_at hn0)))))
    hw := new_at _ _ (by simp)
    ho := old_at (old_at (new_at _ _ (by simp)))
    mN := own_alloc (own_alloc (own_alloc (own_alloc (own_alloc (own_alloc (own_zeros hm.mN (by omega) hn) _) _) _) _) _) _
    mL := own_alloc (own_alloc (own_alloc (own_alloc (own_alloc (own_alloc (own_zeros hm.mL (by omega) hn) _) _) _) _) _) _
    mon := own_alloc (own_alloc (own_alloc (own_alloc (own_alloc hmk _) _) _) _) _
    mS := World.ownsRow_nil _ _ _ _
    mO := ⟨World.ownsRow_nil _ _ _ _, fun i x hx => by simp at hx, fun i j x y b _ hx => by simp at hx⟩
    ap := fun i x b hx => by simp at hx }

set_option maxHeartbeats 4000000 in
set_option maxRecDepth 100000 in
theorem parts_calls (w : World) (b0 g0 n cn : Nat) (vals : List Value) (R : List (List Nat)) (hrows : OwnRows w b0 (.slice (some ⟨g0, 0, none⟩) n cn) vals R) (hR : R.length = n) (hRn : ∀ a b, b ∈ nb R a → b < n) (hRl : ∀ a, (nb R a).length ≤ n) (hn : n ≤ 131072) :
    Calls Try.prog 50 #[.slice (some ⟨g0, 0, none⟩) n cn] w fun e w' => PartsPost w n R e w' := by
  have HROWS := Aside0.mk hrows
  have HR := Aside0.mk (And.intro hR (And.intro hRn hRl))
  clear hrows hRn hRl hR
  have hmk := run_make_row' (P := Try.prog) 33 3 (.int .i64 0) 8 Try.underlying33 info3 rfl .i64 .i64 n (by omega) (by omega)
  have hmk2 := run_make_row' (P := Try.prog) 80 4 (.bool false) 1 Try.underlying80 info4 rfl .i64 .i64 n (by omega) (by omega)
  go_enter Try.func50, Try.ntmps50
  go_upto_region 2 with (fail)
  go_cut [4, 5] (fun a4 a5 wx => ∃ bN bL, a4 = ptr bN ∧ a5 = ptr bL ∧ ∃ gN gL, MF (w.alloc (.cells #[.slice (some ⟨g0, 0, none⟩) n cn] 45)) n gN gL bN bL wx)
  case first =>
    go_region
    all_goals
      go_wp2_with fail
      go_meet
      refine ⟨_, _, rfl, rfl, ?_⟩
      apply mf_mk
      · first | (refine drew_at (new_at _ _ ?_); simp; done) | (refine drew_at (old_at (new_at _ _ ?_)); simp; done) | (refine drew_at (old_at (old_at (new_at _ _ ?_))); simp; done) | (refine drew_at (old_at (old_at (old_at (new_at _ _ ?_)))); simp; done)
      · first | (refine drew_at (new_at _ _ ?_); simp; done) | (refine drew_at (old_at (new_at _ _ ?_)); simp; done) | (refine drew_at (old_at (old_at (new_at _ _ ?_))); simp; done) | (refine drew_at (old_at (old_at (old_at (new_at _ _ ?_)))); simp; done)
      · first | (refine drew_at (new_at _ _ ?_); simp; done) | (refine drew_at (old_at (new_at _ _ ?_)); simp; done) | (refine drew_at (old_at (old_at (new_at _ _ ?_))); simp; done) | (refine drew_at (old_at (old_at (old_at (new_at _ _ ?_)))); simp; done)
      · first | (refine drew_at (new_at _ _ ?_); simp; done) | (refine drew_at (old_at (new_at _ _ ?_)); simp; done) | (refine drew_at (old_at (old_at (new_at _ _ ?_))); simp; done) | (refine drew_at (old_at (old_at (old_at (new_at _ _ ?_)))); simp; done)
      · constructor <;> omega
      · simp; try omega
      · exact Below.drew (((((Below.refl _ _).alloc (by simp) _).alloc (by simp; try omega) _).alloc (by simp; try omega) _).alloc (by simp; try omega) _)
  case rest =>
    obtain ⟨bN, bL, rfl, rfl, gN, gL, hmf⟩ := hcut
    have HMF := Aside0.mk hmf
    clear hmf hmk
    go_upto_region 9 with (fail)
    obtain ⟨w3, hw3, HPS⟩ := ex_world (ps_start HROWS.out hn HMF.out _ rfl)
    rw [hw3]
    clear hw3
    obtain ⟨f, hf⟩ : ∃ f : Fx, f = ⟨wc.heap.size + 1 + 1 + 1 + 1, bN, bL, wc.heap.size + 1 + 1, wc.heap.size + 1, w.heap.size, wc.heap.size + 1 + 1 + 1 + 1 + 1, wc.heap.size + 1 + 1 + 1, gN, gL, wc.heap.size, n, wc.heap.size + 6⟩ := ⟨_, rfl⟩
    rw [← hf] at HPS
    have hfn : f.n = n := by rw [hf]
    have HBN := Aside0.mk (show bN = f.bN by rw [hf])
    have HBW := Aside0.mk (show wc.heap.size + 1 + 1 + 1 + 1 + 1 = f.bw by rw [hf])
    have HBO := Aside0.mk (show wc.heap.size + 1 + 1 + 1 = f.bo by rw [hf])
    clear hf hmk2
    have HWF := Aside0.mk (WF.start R n)
    go_wp2_with fail
    go_loopg [11, 22] n (fun g a11 i wr => ∃ (k : Nat) (vS vO : Value) (os : List Value) (N L st : List Nat) (S : List Bool) (out : List (List Nat)) (next : Nat), k ≤ n ∧ g = n - k ∧ i = .int .i64 k ∧
      Aside0 (PS w b0 (.slice (some ⟨g0, 0, none⟩) n cn) vals R f vS vO os N L st S out next wr) ∧ Aside0 (WF R n (fun _ => False) N st out next ∧ Mk n S st ∧ L.length = n ∧ out.length ≤ next ∧ ∀ y, y < k → pa N y ≠ 0))
    case atStart => exact ⟨0, _, _, _, _, _, _, _, _, _, Nat.zero_le _, rfl, rfl, HPS, ⟨HWF.out, ⟨by simp, fun y => by rw [sn_repl]; simp⟩, by simp, by simp, fun y hy => by omega⟩⟩
    case round =>
      clear HPS HWF
      obtain ⟨k, vS, vO, os, N, L, st, S, out, next, hk, rfl, rfl, HPS, HW⟩ := hrel
      by_cases hlt : k < n
      · have f1 : wr.cell? ⟨bN, 0, none⟩ = some (.slice (some ⟨f.gN, 0, none⟩) f.n f.n) := by rw [HBN.out]; exact (box_cell HPS.out.hN).1
        rw [hfn] at f1
        obtain ⟨f2, -, -⟩ := HPS.out.mN.at_ (x := k) (by have := HW.out.1.len; omega)
        obtain ⟨q, hq⟩ : ∃ q, q = pa N k := ⟨_, rfl⟩
        rw [← hq] at f2
        have HQ := Aside0.mk hq
        clear hq
        by_cases hq0 : q = 0
        · subst hq0
          have f3 : wr.cell? ⟨wc.heap.size + 1 + 1 + 1 + 1 + 1, 0, none⟩ = some (tjF f) := by rw [HBW.out]; exact (box_cell HPS.out.hw).1
          go_wp2_with fail
          clear f1 f2 f3
          have HPS' := Aside0.mk HPS.out
          rw [← hfn] at HPS'
          refine (tj_calls w b0 n cn g0 vals R f (by rw [hfn]; exact HR.out.1) (by rw [hfn]; exact HR.out.2.1) (by rw [hfn]; exact HR.out.2.2) (by omega) (N.count 0) (fun _ => False) k vS vO os N L st S out next _ (Nat.le_refl _) (by omega) HQ.out.symm (by rw [hfn]; exact HW.out.2.2.1) (fun g hg => hg.elim) HW.out.2.2.2.1 (by rw [hfn]; exact HW.out.2.1) (by rw [hfn]; exact HW.out.1) HPS'.out).mono ?_
          rintro e w4 ⟨rfl, vS2, vO2, os2, N2, L2, st2, S2, out2, next2, hI6, hwf6, htj, hmk6, hol6⟩
          rw [hfn] at hI6 hwf6 hmk6
          have HI6 := Aside0.mk hI6
          have HT6 := Aside0.mk (show WF R n (fun _ => False) N2 st2 out2 next2 ∧ Mk n S2 st2 ∧ L2.length = n ∧ out2.length ≤ next2 ∧ ∀ y, y < k + 1 → pa N2 y ≠ 0 from
            ⟨hwf6, hmk6, by rw [htj.llen]; exact HW.out.2.2.1, by have := HW.out.2.2.2.1; omega, fun y hy => by
              by_cases e : y = k
              · subst e; exact htj.self
              · have := HW.out.2.2.2.2 y (by omega)
                rw [htj.ext y this]; exact this⟩)
          clear hI6 hwf6 htj hmk6 hol6 HPS HPS' HW
          go_wp2_with fail
          go_roundg (n - (k + 1))
          case rel => exact ⟨k + 1, _, _, _, _, _, _, _, _, _, by omega, rfl, by go_num, HI6, HT6⟩
          case measure => omega
        · have hqi : ((q : Int) == 0) = false := by simpa using hq0
          have HT6 := Aside0.mk (show WF R n (fun _ => False) N st out next ∧ Mk n S st ∧ L.length = n ∧ out.length ≤ next ∧ ∀ y, y < k + 1 → pa N y ≠ 0 from
            ⟨HW.out.1, HW.out.2.1, HW.out.2.2.1, HW.out.2.2.2.1, fun y hy => by
              by_cases e : y = k
              · subst e; rw [← HQ.out]; exact hq0
              · exact HW.out.2.2.2.2 y (by omega)⟩)
          go_wp2_with fail
          go_roundg (n - (k + 1))
          case rel => exact ⟨k + 1, _, _, _, _, _, _, _, _, _, by omega, rfl, by go_num, HPS, HT6⟩
          case measure => omega
      · obtain rfl : k = n := by omega
        have f1 : wr.cell? ⟨wc.heap.size + 1 + 1 + 1, 0, none⟩ = some vO := by rw [HBO.out]; exact (box_cell HPS.out.ho).1
        go_wp2_with fail
        go_ret
        have hst := HW.out.1.empty
        refine ⟨HPS.out.bel, vO, os, out, by rfl, ?_, ⟨HW.out.1.scc, fun C hC y hy => ?_, fun y hy => ?_, HW.out.1.uniq, by have := HW.out.1.cnt; have := HW.out.2.2.2.1; omega⟩⟩
        · have h1 := HPS.out.mO
          exact ⟨own_less h1.outer HPS.out.lF.1, fun i x hx => own_less (h1.inner i x hx) HPS.out.lF.1, h1.apart⟩
        · have := pa_lt (HW.out.1.outv C hC y hy)
          have := HW.out.1.len
          omega
        · rcases HW.out.1.part y (HW.out.2.2.2.2 y hy) with h | h
          · rw [hst] at h; cases h
          · exact h

end Go.Proofs.Ytdddbjaggfaofaa.Mem
