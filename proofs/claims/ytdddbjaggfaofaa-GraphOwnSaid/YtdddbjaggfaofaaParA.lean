/- graphs.parts: what its walk holds in memory: nine captured variables, two rows of numbers, marks, a stack, the parts found. -/
import Derived.Test.YtdddbjaggfaofaaClsB
import Derived.Test.YtdddbjaggfaofaaGMs
import Derived.Lib.BufferWrite
namespace Go.Proofs.Ytdddbjaggfaofaa.Mem
open Go.RowKit Go.Proofs.Ytdddbjaggfaofaa.GM Go.Proofs.YtdddbjaggfaofaaW.PrintWords
set_option linter.unusedVariables false

/-- The fixed blocks; those that come from F on move. -/
structure Fx where
  bx : Nat
  bN : Nat
  bL : Nat
  bS : Nat
  bon : Nat
  bn : Nat
  bw : Nat
  bo : Nat
  gN : Nat
  gL : Nat
  gon : Nat
  n : Nat
  F : Nat

def Fx.all (f : Fx) : List Nat := [f.bx, f.bN, f.bL, f.bS, f.bon, f.bn, f.bw, f.bo, f.gN, f.gL, f.gon]
abbrev tjF (f : Fx) : Value := .func (.func 67) #[] #[ptr f.bx, ptr f.bN, ptr f.bL, ptr f.bS, ptr f.bon, ptr f.bn, ptr f.bw, ptr f.bo]

theorem OwnRows.grown {w w1 : World} {base : Nat} {v : Value} {vals : List Value} {R : List (List Nat)} (h : OwnRows w base v vals R) {row : Option Nat} (hg : w.grownBy w1 row) (h1 : ∀ b, v.ownBlock = some b → row ≠ some b)
    (h2 : ∀ (i : Nat) (x : Value) (b : Nat), vals[i]? = some x → x.ownBlock = some b → row ≠ some b) : OwnRows w1 base v vals R :=
  ⟨own_grown h.outer hg h1, fun i x hx => own_grown (h.inner i x hx) hg (fun b hb => h2 i x b hx hb), h.apart⟩

theorem OwnRows.base_le {w : World} {base : Nat} {v : Value} {vals : List Value} {R : List (List Nat)} (h : OwnRows w base v vals R) :
    (∀ b, v.ownBlock = some b → base ≤ b) ∧ ∀ (i : Nat) (x : Value) (b : Nat), vals[i]? = some x → x.ownBlock = some b → base ≤ b :=
  ⟨fun b hb => own_base h.outer b hb, fun i x b hx hb => own_base (h.inner i x hx) b hb⟩

/-- Behind the append of a slice to the rows. -/
theorem OwnRows.push {w w1 : World} {base : Nat} {v v1 x : Value} {vals : List Value} {R : List (List Nat)} {r : List Nat} (h : OwnRows w base v vals R) (hg : w.grownBy w1 v.ownBlock) (ho : w1.ownsRow base 33 1 v1 (vals ++ [x]).length (vals ++ [x]))
    (hx : OwnN w base x r) (hap : ∀ (i : Nat) (y : Value) (b : Nat), vals[i]? = some y → y.ownBlock = some b → x.ownBlock ≠ some b) : OwnRows w1 base v1 (vals ++ [x]) (R ++ [r]) := by
  have hl := h.len
  have hnb : ∀ i, i < vals.length → nb (R ++ [r]) i = nb R i := fun i hi => by
    unfold nb
    rw [List.getD_eq_getElem?_getD, List.getElem?_append_left (by omega), ← List.getD_eq_getElem?_getD]
  refine ⟨by have : (R ++ [r]).length = (vals ++ [x]).length := by simp [hl]
             rw [this]; exact ho, ?_, ?_⟩
  · intro i y hy
    rcases Nat.lt_or_ge i vals.length with hi | hi
    · rw [List.getElem?_append_left hi] at hy
      rw [hnb i hi]
      exact own_grown (h.inner i y hy) hg (fun b hb e => own_types_ne h.outer (h.inner i y hy) (by decide) e hb)
    · have hi2 : i = vals.length := by
        have := (List.getElem?_eq_some_iff.1 hy).1
        simp at this; omega
      subst hi2
      rw [List.getElem?_append_right (Nat.le_refl _), Nat.sub_self] at hy
      simp only [List.getElem?_cons_zero, Option.some.injEq] at hy
      subst hy
      have : nb (R ++ [r]) vals.length = r := by
        unfold nb
        rw [List.getD_eq_getElem?_getD, List.getElem?_append_right (by omega), hl, Nat.sub_self]; rfl
      rw [this]
      exact own_grown hx hg (fun b hb e => own_types_ne h.outer hx (by decide) e hb)
  · intro i j y z b hij hy hz hb
    rcases Nat.lt_or_ge i vals.length with hi | hi <;> rcases Nat.lt_or_ge j vals.length with hj | hj
    · rw [List.getElem?_append_left hi] at hy
      rw [List.getElem?_append_left hj] at hz
      exact h.apart i j y z b hij hy hz hb
    · rw [List.getElem?_append_left hi] at hy
      have hj2 : j = vals.length := by
        have := (List.getElem?_eq_some_iff.1 hz).1
        simp at this; omega
      subst hj2
      rw [List.getElem?_append_right (Nat.le_refl _), Nat.sub_self] at hz
      simp only [List.getElem?_cons_zero, Option.some.injEq] at hz
      subst hz
      exact hap i y b hy hb
    · rw [List.getElem?_append_left hj] at hz
      have hi2 : i = vals.length := by
        have := (List.getElem?_eq_some_iff.1 hy).1
        simp at this; omega
      subst hi2
      rw [List.getElem?_append_right (Nat.le_refl _), Nat.sub_self] at hy
      simp only [List.getElem?_cons_zero, Option.some.injEq] at hy
      subst hy
      intro hz'
      exact hap j z b hz hz' hb
    · have h1 := (List.getElem?_eq_some_iff.1 hy).1
      have h2 := (List.getElem?_eq_some_iff.1 hz).1
      simp at h1 h2; omega

structure PS (w0 : World) (b0 : Nat) (vn : Value) (vals : List Value) (R : List (List Nat)) (f : Fx) (vS vO : Value) (os : List Value) (N L st : List Nat) (S : List Bool) (out : List (List Nat)) (next : Nat) (w : World) : Prop where
  bel : Below w0.heap.size w0 w
  rows : OwnRows w0 b0 vn vals R
  nd : f.all.Nodup
  lo : ∀ b ∈ f.all, w0.heap.size ≤ b ∧ b < f.F
  lF : w0.heap.size ≤ f.F ∧ f.F ≤ w.heap.size
  hx : w.heap[f.bx]? = some (.cells #[.int .i64 (next : Int)] 3 (0, 0))
  hN : w.heap[f.bN]? = some (.cells #[.slice (some ⟨f.gN, 0, none⟩) f.n f.n] 33 (0, 0))
  hL : w.heap[f.bL]? = some (.cells #[.slice (some ⟨f.gL, 0, none⟩) f.n f.n] 33 (0, 0))
  hS : w.heap[f.bS]? = some (.cells #[vS] 33 (0, 0))
  hon : w.heap[f.bon]? = some (.cells #[.slice (some ⟨f.gon, 0, none⟩) f.n f.n] 80 (0, 0))
  hn : w.heap[f.bn]? = some (.cells #[vn] 45 (0, 0))
  hw : w.heap[f.bw]? = some (.cells #[tjF f] 81 (0, 0))
  ho : w.heap[f.bo]? = some (.cells #[vO] 45 (0, 0))
  mN : OwnN w w0.heap.size (.slice (some ⟨f.gN, 0, none⟩) f.n f.n) N
  mL : OwnN w w0.heap.size (.slice (some ⟨f.gL, 0, none⟩) f.n f.n) L
  mon : OwnB w w0.heap.size (.slice (some ⟨f.gon, 0, none⟩) f.n f.n) S
  mS : OwnN w f.F vS st
  mO : OwnRows w f.F vO os out
  ap : ∀ (i : Nat) (x : Value) (b : Nat), os[i]? = some x → x.ownBlock = some b → vS.ownBlock ≠ some b

section
variable {w0 w w1 : World} {b0 : Nat} {vn : Value} {vals : List Value} {R : List (List Nat)} {f : Fx} {vS vO : Value} {os : List Value} {N L st : List Nat} {S : List Bool} {out : List (List Nat)} {next : Nat}

theorem PS.ne (h : PS w0 b0 vn vals R f vS vO os N L st S out next w) (i j : Nat) {a b : Nat} (hi : f.all[i]? = some a) (hj : f.all[j]? = some b) (hij : i ≠ j) : a ≠ b := by
  intro e
  subst e
  exact hij ((List.getElem?_inj (List.getElem?_eq_some_iff.1 hi).1 h.nd).1 (hi.trans hj.symm))

theorem PS.los (h : PS w0 b0 vn vals R f vS vO os N L st S out next w) :
    (w0.heap.size ≤ f.bx ∧ w0.heap.size ≤ f.bN ∧ w0.heap.size ≤ f.bL ∧ w0.heap.size ≤ f.bS ∧ w0.heap.size ≤ f.bon ∧ w0.heap.size ≤ f.bn ∧ w0.heap.size ≤ f.bw ∧ w0.heap.size ≤ f.bo ∧ w0.heap.size ≤ f.gN ∧ w0.heap.size ≤ f.gL ∧ w0.heap.size ≤ f.gon) ∧
    (f.bx < f.F ∧ f.bN < f.F ∧ f.bL < f.F ∧ f.bS < f.F ∧ f.bon < f.F ∧ f.bn < f.F ∧ f.bw < f.F ∧ f.bo < f.F ∧ f.gN < f.F ∧ f.gL < f.F ∧ f.gon < f.F) := by
  have := h.lo
  unfold Fx.all at this
  simp only [List.forall_mem_cons, List.not_mem_nil, false_implies, implies_true, and_true] at this
  omega

theorem PS.mS_base (h : PS w0 b0 vn vals R f vS vO os N L st S out next w) : ∀ b, vS.ownBlock = some b → f.F ≤ b := fun b hb => own_base h.mS b hb

/-- What a row's growth leaves that is none of these. -/
theorem PS.grown (h : PS w0 b0 vn vals R f vS vO os N L st S out next w) {row : Option Nat} (hg : w.grownBy w1 row) (h1 : ∀ b, row = some b → f.F ≤ b) (h2 : ∀ b, vS.ownBlock = some b → row ≠ some b) (h3 : ∀ b, vO.ownBlock = some b → row ≠ some b)
    (h4 : ∀ (i : Nat) (x : Value) (b : Nat), os[i]? = some x → x.ownBlock = some b → row ≠ some b) : PS w0 b0 vn vals R f vS vO os N L st S out next w1 := by
  have l := h.los
  have key : ∀ g, g < f.F → some g ≠ row := fun g hgF e => by have := h1 g e.symm; omega
  exact { h with
    bel := h.bel.grown hg h.bel.size (fun b hb => Nat.le_trans h.lF.1 (h1 b hb))
    lF := ⟨h.lF.1, Nat.le_trans h.lF.2 hg.size⟩
    hx := blk_grown' h.hx hg (key _ (by omega))
    hN := blk_grown' h.hN hg (key _ (by omega))
    hL := blk_grown' h.hL hg (key _ (by omega))
    hS := blk_grown' h.hS hg (key _ (by omega))
    hon := blk_grown' h.hon hg (key _ (by omega))
    hn := blk_grown' h.hn hg (key _ (by omega))
    hw := blk_grown' h.hw hg (key _ (by omega))
    ho := blk_grown' h.ho hg (key _ (by omega))
    mN := own_grown h.mN hg (fun b hb e => key f.gN (by omega) (by cases hb; exact e.symm))
    mL := own_grown h.mL hg (fun b hb e => key f.gL (by omega) (by cases hb; exact e.symm))
    mon := own_grown h.mon hg (fun b hb e => key f.gon (by omega) (by cases hb; exact e.symm))
    mS := own_grown h.mS hg h2
    mO := h.mO.grown hg h3 h4 }

theorem PS.step (h : PS w0 b0 vn vals R f vS vO os N L st S out next w) (hb : Below w.heap.size w w1) : PS w0 b0 vn vals R f vS vO os N L st S out next w1 := { h with
    bel := h.bel.trans (hb.mono h.bel.size)
    lF := ⟨h.lF.1, Nat.le_trans h.lF.2 hb.size⟩
    hx := blk_below' h.hx hb
    hN := blk_below' h.hN hb
    hL := blk_below' h.hL hb
    hS := blk_below' h.hS hb
    hon := blk_below' h.hon hb
    hn := blk_below' h.hn hb
    hw := blk_below' h.hw hb
    ho := blk_below' h.ho hb
    mN := own_below h.mN hb
    mL := own_below h.mL hb
    mon := own_below h.mon hb
    mS := own_below h.mS hb
    mO := h.mO.below hb }

theorem own_ne {g : Nat} (k n c : Nat) (hne : k ≠ g) (b : Nat) (hb : (Value.slice (some ⟨k, 0, none⟩) n c).ownBlock = some b) : some g ≠ some b := fun e => hne ((Option.some.inj hb).trans (Option.some.inj e).symm)

/-- Below F all but one block stand; from F on nothing has turned. -/
theorem PS.fix (h : PS w0 b0 vn vals R f vS vO os N L st S out next w) {g : Nat} (hg : w.grownBy w1 (some g)) (hF : w0.heap.size ≤ g ∧ g < f.F) :
    Below w0.heap.size w0 w1 ∧ (w0.heap.size ≤ f.F ∧ f.F ≤ w1.heap.size) ∧ OwnN w1 f.F vS st ∧ OwnRows w1 f.F vO os out ∧
    (f.gN ≠ g → OwnN w1 w0.heap.size (.slice (some ⟨f.gN, 0, none⟩) f.n f.n) N) ∧ (f.gL ≠ g → OwnN w1 w0.heap.size (.slice (some ⟨f.gL, 0, none⟩) f.n f.n) L) ∧
    (f.gon ≠ g → OwnB w1 w0.heap.size (.slice (some ⟨f.gon, 0, none⟩) f.n f.n) S) ∧ (∀ (b : Nat) (o : Obj), b ≠ g → w.heap[b]? = some o → w1.heap[b]? = some o) := by
  have l := h.los
  have key : ∀ b, f.F ≤ b → some g ≠ some b := fun b hb e => by injection e with e; omega
  refine ⟨h.bel.grown hg h.bel.size (fun b hb => by cases hb; exact hF.1), ⟨h.lF.1, Nat.le_trans h.lF.2 hg.size⟩, own_grown h.mS hg (fun b hb => key b (h.mS_base b hb)),
    h.mO.grown hg (fun b hb => key b (h.mO.base_le.1 b hb)) (fun i x b hx hb => key b (h.mO.base_le.2 i x b hx hb)), fun hne => own_grown h.mN hg (own_ne f.gN _ _ hne), fun hne => own_grown h.mL hg (own_ne f.gL _ _ hne), fun hne => own_grown h.mon hg (own_ne f.gon _ _ hne), fun b o hne ho => blk_grown' ho hg (fun e => hne (Option.some.inj e))⟩

theorem PS.setX (h : PS w0 b0 vn vals R f vS vO os N L st S out next w) (v : Nat) : PS w0 b0 vn vals R f vS vO os N L st S out v (w.setCell ⟨f.bx, 0, none⟩ (.int .i64 (v : Int))) := by
  obtain ⟨a1, a2, a3, a4, a5, a6, a7, a8⟩ := h.fix (Go.Lib.grownBy_setCell w f.bx 0 (.int .i64 (v : Int))) (by have := h.los; omega)
  exact { h with
    bel := a1
    lF := a2
    hx := box_set h.hx _
    hN := a8 _ _ (h.ne 1 0 rfl rfl (by decide)) h.hN
    hL := a8 _ _ (h.ne 2 0 rfl rfl (by decide)) h.hL
    hS := a8 _ _ (h.ne 3 0 rfl rfl (by decide)) h.hS
    hon := a8 _ _ (h.ne 4 0 rfl rfl (by decide)) h.hon
    hn := a8 _ _ (h.ne 5 0 rfl rfl (by decide)) h.hn
    hw := a8 _ _ (h.ne 6 0 rfl rfl (by decide)) h.hw
    ho := a8 _ _ (h.ne 7 0 rfl rfl (by decide)) h.ho
    mN := a5 (h.ne 8 0 rfl rfl (by decide))
    mL := a6 (h.ne 9 0 rfl rfl (by decide))
    mon := a7 (h.ne 10 0 rfl rfl (by decide))
    mS := a3
    mO := a4 }

theorem PS.setN (h : PS w0 b0 vn vals R f vS vO os N L st S out next w) {x : Nat} (hx : x < N.length) (v : Nat) : PS w0 b0 vn vals R f vS vO os (N.set x v) L st S out next (w.setCell ⟨f.gN, x, none⟩ (.int .i64 (v : Int))) := by
  obtain ⟨a1, a2, a3, a4, a5, a6, a7, a8⟩ := h.fix (Go.Lib.grownBy_setCell w f.gN x (.int .i64 (v : Int))) (by have := h.los; omega)
  exact { h with
    bel := a1
    lF := a2
    hx := a8 _ _ (h.ne 0 8 rfl rfl (by decide)) h.hx
    hN := a8 _ _ (h.ne 1 8 rfl rfl (by decide)) h.hN
    hL := a8 _ _ (h.ne 2 8 rfl rfl (by decide)) h.hL
    hS := a8 _ _ (h.ne 3 8 rfl rfl (by decide)) h.hS
    hon := a8 _ _ (h.ne 4 8 rfl rfl (by decide)) h.hon
    hn := a8 _ _ (h.ne 5 8 rfl rfl (by decide)) h.hn
    hw := a8 _ _ (h.ne 6 8 rfl rfl (by decide)) h.hw
    ho := a8 _ _ (h.ne 7 8 rfl rfl (by decide)) h.ho
    mN := (h.mN.set_ hx).1
    mL := a6 (h.ne 9 8 rfl rfl (by decide))
    mon := a7 (h.ne 10 8 rfl rfl (by decide))
    mS := a3
    mO := a4 }

theorem PS.setL (h : PS w0 b0 vn vals R f vS vO os N L st S out next w) {x : Nat} (hx : x < L.length) (v : Nat) : PS w0 b0 vn vals R f vS vO os N (L.set x v) st S out next (w.setCell ⟨f.gL, x, none⟩ (.int .i64 (v : Int))) := by
  obtain ⟨a1, a2, a3, a4, a5, a6, a7, a8⟩ := h.fix (Go.Lib.grownBy_setCell w f.gL x (.int .i64 (v : Int))) (by have := h.los; omega)
  exact { h with
    bel := a1
    lF := a2
    hx := a8 _ _ (h.ne 0 9 rfl rfl (by decide)) h.hx
    hN := a8 _ _ (h.ne 1 9 rfl rfl (by decide)) h.hN
    hL := a8 _ _ (h.ne 2 9 rfl rfl (by decide)) h.hL
    hS := a8 _ _ (h.ne 3 9 rfl rfl (by decide)) h.hS
    hon := a8 _ _ (h.ne 4 9 rfl rfl (by decide)) h.hon
    hn := a8 _ _ (h.ne 5 9 rfl rfl (by decide)) h.hn
    hw := a8 _ _ (h.ne 6 9 rfl rfl (by decide)) h.hw
    ho := a8 _ _ (h.ne 7 9 rfl rfl (by decide)) h.ho
    mN := a5 (h.ne 8 9 rfl rfl (by decide))
    mL := (h.mL.set_ hx).1
    mon := a7 (h.ne 10 9 rfl rfl (by decide))
    mS := a3
    mO := a4 }

theorem PS.setOn (h : PS w0 b0 vn vals R f vS vO os N L st S out next w) {x : Nat} (hx : x < S.length) (v : Bool) : PS w0 b0 vn vals R f vS vO os N L st (S.set x v) out next (w.setCell ⟨f.gon, x, none⟩ (.bool v)) := by
  obtain ⟨a1, a2, a3, a4, a5, a6, a7, a8⟩ := h.fix (Go.Lib.grownBy_setCell w f.gon x (.bool v)) (by have := h.los; omega)
  exact { h with
    bel := a1
    lF := a2
    hx := a8 _ _ (h.ne 0 10 rfl rfl (by decide)) h.hx
    hN := a8 _ _ (h.ne 1 10 rfl rfl (by decide)) h.hN
    hL := a8 _ _ (h.ne 2 10 rfl rfl (by decide)) h.hL
    hS := a8 _ _ (h.ne 3 10 rfl rfl (by decide)) h.hS
    hon := a8 _ _ (h.ne 4 10 rfl rfl (by decide)) h.hon
    hn := a8 _ _ (h.ne 5 10 rfl rfl (by decide)) h.hn
    hw := a8 _ _ (h.ne 6 10 rfl rfl (by decide)) h.hw
    ho := a8 _ _ (h.ne 7 10 rfl rfl (by decide)) h.ho
    mN := a5 (h.ne 8 10 rfl rfl (by decide))
    mL := a6 (h.ne 9 10 rfl rfl (by decide))
    mon := (h.mon.set_ hx v).1
    mS := a3
    mO := a4 }

/-- The stack's variable is written anew. -/
theorem PS.setS (h : PS w0 b0 vn vals R f vS vO os N L st S out next w) {v1 : Value} {st1 : List Nat} (ho : OwnN w f.F v1 st1) (hap : ∀ (i : Nat) (x : Value) (b : Nat), os[i]? = some x → x.ownBlock = some b → v1.ownBlock ≠ some b) :
    PS w0 b0 vn vals R f v1 vO os N L st1 S out next (w.setCell ⟨f.bS, 0, none⟩ v1) := by
  obtain ⟨a1, a2, a3, a4, a5, a6, a7, a8⟩ := h.fix (Go.Lib.grownBy_setCell w f.bS 0 v1) (by have := h.los; omega)
  have l := h.los
  exact { h with
    bel := a1
    lF := a2
    hx := a8 _ _ (h.ne 0 3 rfl rfl (by decide)) h.hx
    hN := a8 _ _ (h.ne 1 3 rfl rfl (by decide)) h.hN
    hL := a8 _ _ (h.ne 2 3 rfl rfl (by decide)) h.hL
    hS := box_set h.hS _
    hon := a8 _ _ (h.ne 4 3 rfl rfl (by decide)) h.hon
    hn := a8 _ _ (h.ne 5 3 rfl rfl (by decide)) h.hn
    hw := a8 _ _ (h.ne 6 3 rfl rfl (by decide)) h.hw
    ho := a8 _ _ (h.ne 7 3 rfl rfl (by decide)) h.ho
    mN := a5 (h.ne 8 3 rfl rfl (by decide))
    mL := a6 (h.ne 9 3 rfl rfl (by decide))
    mon := a7 (h.ne 10 3 rfl rfl (by decide))
    mS := own_set_far ho (fun e => by have := own_base ho _ e; omega) _
    mO := a4
    ap := hap }

/-- Behind an append to the stack, ahead of the store. -/
theorem PS.at_S (h : PS w0 b0 vn vals R f vS vO os N L st S out next w) (hg : w.grownBy w1 vS.ownBlock) : w1.cell? ⟨f.bS, 0, none⟩ = some vS ∧ w1.frozen? ⟨f.bS, 0, none⟩ = false :=
  box_cell (blk_grown' h.hS hg (fun e => by have := h.mS_base _ e.symm; have := h.los; omega))

theorem PS.pushS (h : PS w0 b0 vn vals R f vS vO os N L st S out next w) {v1 : Value} {st1 : List Nat} (hg : w.grownBy w1 vS.ownBlock) (ho : OwnN w1 f.F v1 st1) (hat : v1.ownBlock = vS.ownBlock ∨ ∃ b, v1.ownBlock = some b ∧ w.heap.size ≤ b) :
    PS w0 b0 vn vals R f v1 vO os N L st1 S out next (w1.setCell ⟨f.bS, 0, none⟩ v1) := by
  have l := h.los
  have hap : ∀ (i : Nat) (x : Value) (b : Nat), os[i]? = some x → x.ownBlock = some b → v1.ownBlock ≠ some b := by
    intro i x b hx hb e
    rcases hat with hat | ⟨b', hat, hle⟩
    · exact h.ap i x b hx hb (by rw [← hat]; exact e)
    · rw [hat] at e
      injection e with e
      have := (own_blk_lt (h.mO.inner i x hx) hb).choose_spec.2.1
      omega
  have key : ∀ g, g < f.F → some g ≠ vS.ownBlock := fun g hgF e => by have := h.mS_base g e.symm; omega
  have hSty := fun b hb => own_blk_lt h.mS (b := b) hb
  -- the stack itself is set aside: it is read again as the new one
  have h' : PS w0 b0 vn vals R f (.slice none 0 0) vO os N L [] S out next (w1.setCell ⟨f.bS, 0, none⟩ (.slice none 0 0)) := by
    have k : PS w0 b0 vn vals R f (.slice none 0 0) vO os N L [] S out next (w.setCell ⟨f.bS, 0, none⟩ (.slice none 0 0)) :=
      h.setS (World.ownsRow_nil _ _ _ _) (fun i x b hx hb e => by cases e)
    have k2 : (w.setCell ⟨f.bS, 0, none⟩ (.slice none 0 0)).grownBy (w1.setCell ⟨f.bS, 0, none⟩ (.slice none 0 0)) vS.ownBlock := by
      refine ⟨hg.os, hg.tape, hg.output, by simpa using hg.size, ?_⟩
      intro i hi hne
      simp only [World.setCell, Array.size_modify, Array.getElem?_modify] at hi ⊢
      rw [hg.block i hi hne]
    exact k.grown k2 (h.mS_base) (fun b hb => by cases hb) (fun b hb e => own_types_ne h.mS h.mO.outer (by decide) e hb) (fun i x b hx hb e => h.ap i x b hx hb e)
  have hf := h'.setS (v1 := v1) (st1 := st1) (own_set_far ho (fun e => by have := own_base ho _ e; omega) _) hap
  have e : (w1.setCell ⟨f.bS, 0, none⟩ (.slice none 0 0)).setCell ⟨f.bS, 0, none⟩ v1 = w1.setCell ⟨f.bS, 0, none⟩ v1 := by
    have hb := blk_grown' h.hS hg (key _ (by omega))
    have hlt := blk_lt' hb
    unfold World.setCell
    congr 1
    apply Array.ext_getElem?
    intro i
    simp only [Array.getElem?_modify]
    by_cases c : f.bS = i
    · subst c
      simp [hb]
    · simp [c]
  rwa [e] at hf

/-- Behind the append of a part's row to the parts, ahead of the store. -/
theorem PS.at_O (h : PS w0 b0 vn vals R f vS vO os N L st S out next w) (hg : w.grownBy w1 vO.ownBlock) : w1.cell? ⟨f.bo, 0, none⟩ = some vO ∧ w1.frozen? ⟨f.bo, 0, none⟩ = false :=
  box_cell (blk_grown' h.ho hg (fun e => by have := h.mO.base_le.1 _ e.symm; have := h.los; omega))

theorem PS.pushO (h : PS w0 b0 vn vals R f vS vO os N L st S out next w) {v1 vp : Value} {C : List Nat} (hg : w.grownBy w1 vO.ownBlock) (ho : w1.ownsRow f.F 33 1 v1 (os ++ [vp]).length (os ++ [vp])) (hp : OwnN w f.F vp C)
    (h1 : ∀ b, vp.ownBlock = some b → vS.ownBlock ≠ some b) (h2 : ∀ (i : Nat) (x : Value) (b : Nat), os[i]? = some x → x.ownBlock = some b → vp.ownBlock ≠ some b) :
    PS w0 b0 vn vals R f vS v1 (os ++ [vp]) N L st S (out ++ [C]) next (w1.setCell ⟨f.bo, 0, none⟩ v1) := by
  have l := h.los
  have key : ∀ g, g < f.F → some g ≠ vO.ownBlock := fun g hgF e => by have := h.mO.base_le.1 g e.symm; omega
  have hrows := h.mO.push hg ho hp h2
  have hmS : OwnN w1 f.F vS st := own_grown h.mS hg (fun b hb e => own_types_ne h.mO.outer h.mS (by decide) e hb)
  have far : ∀ (b : Nat) (o : Obj), b < f.F → b ≠ f.bo → w.heap[b]? = some o → (w1.setCell ⟨f.bo, 0, none⟩ v1).heap[b]? = some o := fun b o h1 h2 h3 => blk_set_far (blk_grown' h3 hg (key b h1)) h2 _
  exact { h with
    bel := (h.bel.grown hg h.bel.size (fun b hb => Nat.le_trans h.lF.1 (h.mO.base_le.1 b hb))).setCell (show w0.heap.size ≤ f.bo by omega) _
    lF := ⟨h.lF.1, by have := hg.size; have := h.lF.2; simpa using (by omega : f.F ≤ w1.heap.size)⟩
    hx := far _ _ (by omega) (h.ne 0 7 rfl rfl (by decide)) h.hx
    hN := far _ _ (by omega) (h.ne 1 7 rfl rfl (by decide)) h.hN
    hL := far _ _ (by omega) (h.ne 2 7 rfl rfl (by decide)) h.hL
    hS := far _ _ (by omega) (h.ne 3 7 rfl rfl (by decide)) h.hS
    hon := far _ _ (by omega) (h.ne 4 7 rfl rfl (by decide)) h.hon
    hn := far _ _ (by omega) (h.ne 5 7 rfl rfl (by decide)) h.hn
    hw := far _ _ (by omega) (h.ne 6 7 rfl rfl (by decide)) h.hw
    ho := box_set (blk_grown' h.ho hg (key _ (by omega))) _
    mN := own_set_far (own_grown h.mN hg (fun b hb e => by cases hb; exact key f.gN (by omega) e.symm)) (fun e => h.ne 8 7 rfl rfl (by decide) (Option.some.inj e)) _
    mL := own_set_far (own_grown h.mL hg (fun b hb e => by cases hb; exact key f.gL (by omega) e.symm)) (fun e => h.ne 9 7 rfl rfl (by decide) (Option.some.inj e)) _
    mon := own_set_far (own_grown h.mon hg (fun b hb e => by cases hb; exact key f.gon (by omega) e.symm)) (fun e => h.ne 10 7 rfl rfl (by decide) (Option.some.inj e)) _
    mS := own_set_far hmS (fun e => by have := own_base hmS _ e; omega) _
    mO := hrows.grown (Go.Lib.grownBy_setCell w1 f.bo 0 v1) (fun b hb e => by injection e with e; have := hrows.base_le.1 b hb; omega) (fun i x b hx hb e => by injection e with e; have := hrows.base_le.2 i x b hx hb; omega)
    ap := fun i x b hx hb => by
      rcases Nat.lt_or_ge i os.length with hi | hi
      · rw [List.getElem?_append_left hi] at hx
        exact h.ap i x b hx hb
      · have hi2 : i = os.length := by
          have := (List.getElem?_eq_some_iff.1 hx).1
          simp at this; omega
        subst hi2
        rw [List.getElem?_append_right (Nat.le_refl _), Nat.sub_self] at hx
        simp only [List.getElem?_cons_zero, Option.some.injEq] at hx
        subst hx
        exact h1 b hb }
end

end Go.Proofs.Ytdddbjaggfaofaa.Mem
