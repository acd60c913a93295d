/- graphs.Reach, by its contract: the things that are reached, rising; or that something is no thing. -/
import Derived.Test.YtdddbjaggfaofaaReachAB
import Derived.Laws.EntriesVeiled
namespace Go.Proofs.Ytdddbjaggfaofaa.Mem
open Go.RowKit Go.Proofs.Ytdddbjaggfaofaa.GM Go.Proofs.YtdddbjaggfaofaaW.PrintWords
set_option linter.unusedVariables false

def AllOk (n : Int) (E : List (Int × Int)) : Prop := 0 ≤ n ∧ n ≤ 131072 ∧ ∀ x ∈ E, EOk n x

/-- What Reach (the program's or the document's) hands back. -/
def ReachPost (w : World) (n : Int) (E : List (Int × Int)) (a : Int) (e : Ending) (w' : World) : Prop :=
  Below w.heap.size w w' ∧
  ((¬(AllOk n E ∧ 0 ≤ a ∧ a < n) ∧ e = .returned (.tuple #[.slice none 0 0, .int .i64 1])) ∨
   (AllOk n E ∧ 0 ≤ a ∧ a < n ∧ ∃ (v : Value) (ys : List Nat) (R : List (List Nat)), e = .returned (.tuple #[v, .int .i64 0]) ∧ OwnN w' w.heap.size v ys ∧ RowsIn n.toNat E false R ∧ Rising ys ∧ ∀ x, x ∈ ys ↔ RR R a.toNat x))

theorem new_at (w : World) (o : Obj) {k : Nat} (hk : k = w.heap.size) : (w.alloc o).heap[k]? = some o := by subst hk; exact heap_alloc_new w o
theorem old_at {w : World} {o o' : Obj} {k : Nat} (h : w.heap[k]? = some o) : (w.alloc o').heap[k]? = some o := (Below.heap_alloc w o' k (blk_lt' h)).trans h

theorem rs_start {w1 : World} {b0 n : Nat} {vn : Value} {vals : List Value} {R : List (List Nat)} (h : OwnRows w1 b0 vn vals R) (hn : n ≤ 131072) :
    RS w1 b0 vn vals R (w1.heap.size + 1 + 1) (w1.heap.size + 1 + 1 + 1) w1.heap.size (w1.heap.size + 1 + 1 + 1 + 1) (.slice (some ⟨w1.heap.size + 1, 0, none⟩) n n) (.slice none 0 0) (List.replicate n false) []
      (((((w1.alloc (Obj.cells #[vn] 45)).alloc (Obj.cells (madeCells #[Value.bool false] n) 4)).alloc (Obj.cells #[Value.slice (some ⟨w1.heap.size + 1, 0, none⟩) n n] 80)).alloc (Obj.cells #[Value.slice none 0 0] 33)).alloc
        (Obj.cells #[walkF (w1.heap.size + 1 + 1) (w1.heap.size + 1 + 1 + 1) w1.heap.size (w1.heap.size + 1 + 1 + 1 + 1)] 81)) where
  bel := (((((Below.refl _ _).alloc (by simp) _).alloc (by simp) _).alloc (by simp; omega) _).alloc (by simp; omega) _).alloc (by simp; omega) _
  rows := h
  hs := old_at (old_at (new_at _ _ (by simp)))
  ho := old_at (new_at _ _ (by simp))
  hn := old_at (old_at (old_at (old_at (new_at _ _ rfl))))
  hw := new_at _ _ (by simp)
  lo := by omega
  mS := by
    have := OwnB.made (w1.alloc (Obj.cells #[vn] 45)) w1.heap.size n (by simp) hn
    have e : (w1.alloc (Obj.cells #[vn] 45)).heap.size = w1.heap.size + 1 := by simp
    rw [e] at this
    exact own_alloc (own_alloc (own_alloc this _) _) _
  mO := World.ownsRow_nil _ _ _ _

set_option maxHeartbeats 1000000 in
set_option maxRecDepth 100000 in
theorem reach_calls (n a : Int) (E : List (Int × Int)) (A : Option Addr) (c : Nat) (w : World) (hr : kE.C w A E.length E) (hE : E.length ≤ 8796093022208) :
    Calls Try.prog 22 #[.int .i64 n, .slice A E.length c, .int .i64 a] w fun e w' => ReachPost w n E a e w' := by
  have HRC := Aside0.mk (rows_calls n E false A c w hr hE)
  clear hr
  go_enter Try.func22, Try.ntmps22
  go_wp2_with fail
  refine HRC.out.mono ?_
  rintro e w1 ⟨hb1, ⟨hbad, rfl⟩ | ⟨g2, n, vals, R, rfl, g1, rfl, hrows, hin, hris⟩⟩
  · have HB1 := Aside0.mk hb1
    have HBAD := Aside0.mk hbad
    clear hb1 hbad
    go_wp2_with fail
    go_ret2
    exact ⟨HB1.out.alloc HB1.out.size _, .inl ⟨fun h => HBAD.out h.1, rfl⟩⟩
  · have HB1 := Aside0.mk hb1
    have HG := Aside0.mk (show AllOk n E from ⟨by omega, by omega, g2⟩)
    have HROWS := Aside0.mk hrows
    have HIN := Aside0.mk hin
    have HRIS := Aside0.mk hris
    clear hb1 hrows hin hris g2
    by_cases ha : 0 ≤ a ∧ a < n
    · obtain ⟨a0, a1⟩ := ha
      obtain ⟨a, rfl⟩ := Int.eq_ofNat_of_zero_le a0
      have hmk := run_make_row' (P := Try.prog) 80 4 (.bool false) 1 Try.underlying80 info4 rfl .i64 .i64 n (by omega) (by omega)
      go_wp2_with fail
      have hin := HIN.out
      have hRn : ∀ x y, y ∈ nb R x → y < n := fun x y hy => by
        have h1 := (hin.2 x y).1 hy
        have h2 := HG.out.2.2 _ h1
        have := h2.2.2.2
        simp only at this
        omega
      refine (walk_calls w1 w.heap.size w.heap.size n n (w1.heap.size + 1) vals R (w1.heap.size + 1 + 1) (w1.heap.size + 1 + 1 + 1) w1.heap.size (w1.heap.size + 1 + 1 + 1 + 1) hin.1 hRn (fun x => rising_length (HRIS.out x) (hRn x)) g1 n
        a (.slice none 0 0) (List.replicate n false) [] _ (by simp) (by omega) (sn_repl n a) (by simp) (by simpa using g1) (rs_start HROWS.out g1)).mono ?_
      rintro e w2 ⟨rfl, vo, S, O, hI, hW⟩
      have HI := Aside0.mk hI
      have HW := Aside0.mk hW
      have hRN := Aside0.mk hRn
      have f1 := (box_cell hI.ho).1
      clear hI hW hin hRn hmk
      go_wp2_with fail
      refine (sorted_calls w1.heap.size vo O _ HI.out.mO (by have := HW.out.count; simp at this; omega)).mono ?_
      rintro e w3 ⟨v', ys, rfl, ho, hri, hmem, hle, hblk, hg⟩
      have HO := Aside0.mk ho
      have HF := Aside0.mk (And.intro hri hmem)
      have HB3 := Aside0.mk (HI.out.bel.grown hg HI.out.bel.size (fun b hb => (own_blk_lt HI.out.mO hb).choose_spec.2.2))
      clear ho hri hmem hblk hg
      obtain ⟨A1, C1, he⟩ := own_slice HO.out
      subst he
      go_wp2_with fail
      go_ret2
      refine ⟨HB1.out.trans (HB3.out.mono HB1.out.size), .inr ⟨HG.out, a0, a1, _, ys, R, rfl, own_less HO.out HB1.out.size, HIN.out, HF.out.1, fun x => ?_⟩⟩
      rw [HF.out.2, HW.out.all]
      rfl
    · have HA := Aside0.mk ha
      have ha' : a < 0 ∨ (0 ≤ a ∧ n ≤ a) := by omega
      clear ha
      rcases ha' with ha1 | ⟨ha1, ha2⟩
      all_goals
        go_wp2_with fail
        go_ret2
        exact ⟨HB1.out.alloc HB1.out.size _, .inl ⟨fun h => HA.out h.2, rfl⟩⟩

end Go.Proofs.Ytdddbjaggfaofaa.Mem
