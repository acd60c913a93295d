/- Ranging over a map keyed by numbers, in the words of MapN. -/
import Derived.Test.YtdddbjaggfaofaaMapN
namespace Go.Proofs.Ytdddbjaggfaofaa.Mem
open Go.RowKit Go.Proofs.Ytdddbjaggfaofaa.GM Go.Proofs.YtdddbjaggfaofaaW.PrintWords
set_option linter.unusedVariables false

/-- A range over map b is under way: what is in rem is still to come. -/
def RangeF (w : World) (b r N : Nat) (f : Nat → Option Value) (rem : Nat → Bool) (cnt : Nat) : Prop :=
  ∃ (n : Nat) (D : DataW Value) (left : Lit → Bool), w.ranges Try.prog 3 heldE b r n D left cnt ∧ (∀ k, Maps.has D k = true → ∃ x : Nat, k = kx x ∧ x < N) ∧ (∀ x : Nat, Maps.has D (kx x) = (f x).isSome ∧ ∀ z v, f x = some v → D.atKey (kx x) z = .held v) ∧ ∀ x, left (kx x) = rem x

theorem RangeF.owns {w : World} {b r N cnt : Nat} {f : Nat → Option Value} {rem : Nat → Bool} (h : RangeF w b r N f rem cnt) : MapF w b N f := by
  obtain ⟨n, D, left, h1, h2, h3, -⟩ := h
  exact ⟨n, D, h1.owns, h2, h3⟩
theorem RangeF.lt {w : World} {b r N cnt : Nat} {f : Nat → Option Value} {rem : Nat → Bool} (h : RangeF w b r N f rem cnt) : b < w.heap.size ∧ r < w.heap.size ∧ r ≠ b := by
  obtain ⟨n, D, left, h1, -⟩ := h
  exact ⟨h1.owns.lt, h1.lt, h1.ne⟩
theorem RangeF.grown {w w1 : World} {b r N cnt : Nat} {f : Nat → Option Value} {rem : Nat → Bool} (h : RangeF w b r N f rem cnt) {row : Option Nat} (hg : w.grownBy w1 row) (h1 : row ≠ some b) (h2 : row ≠ some r) : RangeF w1 b r N f rem cnt := by
  obtain ⟨n, D, left, k1, k2⟩ := h
  exact ⟨n, D, left, k1.kept hg (fun e => h1 e.symm) (fun e => h2 e.symm), k2⟩
theorem RangeF.ext {w : World} {b r N cnt : Nat} {f : Nat → Option Value} {rem rem' : Nat → Bool} (h : RangeF w b r N f rem cnt) (e : ∀ x, rem x = rem' x) : RangeF w b r N f rem' cnt := by
  obtain ⟨n, D, left, k1, k2, k3, k4⟩ := h
  exact ⟨n, D, left, k1, k2, k3, fun x => (k4 x).trans (e x)⟩

section
variable {w : World} {ops : Array Oper} {rest : List Oper} {o : Oper} {a : Act} {Q : Exit → Act → World → Prop}

set_option maxRecDepth 100000 in
theorem wpList_range_F (hg : o.guard = none) (m : Operand) (t : TypeId) (hop : o.op = Op.range t m) (e : TypeId) (ht : Try.prog.underlying t = some (.map 3 e)) (b N : Nat) (f : Nat → Option Value)
    (hm : a.eval m = .map (some b)) (h : MapF w b N f)
    (hK : ∀ w' cnt, RangeF w' b w.heap.size N f (fun x => (f x).isSome) cnt → Below w.heap.size w w' → wpList Try.prog ops Q rest (a.put o.dst (.pointer (some ⟨w.heap.size, 0, none⟩))) w') :
    wpList Try.prog ops Q (o :: rest) a w := by
  refine wpList_plain hg fun K' hK' => ?_
  obtain ⟨n, D, ho, hk, hf⟩ := h
  obtain ⟨w', hrun, r1, r2, r3⟩ := ho.range law3 ht
  unfold Oper.wp
  simp [execOp, hop, hm, hrun, Result.andThen]
  exact hK' _ _ (hK w' _ ⟨n, D, _, r1, hk, hf, fun x => (hf x).1⟩ ⟨r2.os, r2.tape, r2.output, r2.size, fun k hk => r2.block k hk (by simp)⟩)

set_option maxRecDepth 100000 in
theorem wpList_next_F (hg : o.guard = none) (it : Operand) (hop : o.op = Op.next it false) (b r N cnt : Nat) (f : Nat → Option Value) (rem : Nat → Bool)
    (hit : a.eval it = .pointer (some ⟨r, 0, none⟩)) (h : RangeF w b r N f rem cnt)
    (hDone : (∀ x, rem x = false) → wpList Try.prog ops Q rest (a.put o.dst (.tuple #[.bool false])) w)
    (hMore : ∀ (x : Nat) (v : Value) (w' : World) (cnt' : Nat), rem x = true → x < N → f x = some v → RangeF w' b r N f (fun y => rem y && !decide (y = x)) cnt' → cnt' < cnt → w.grownBy w' (some r) →
      (Instr.entry (.pointer (some ⟨r, 0, none⟩))).run Try.prog w' = .ok (.tuple #[.int .i64 (x : Int), v]) w' → wpList Try.prog ops Q rest (a.put o.dst (.tuple #[.bool true, .int .i64 (x : Int), v])) w') :
    wpList Try.prog ops Q (o :: rest) a w := by
  refine wpList_plain hg fun K' hK' => ?_
  obtain ⟨n, D, left, h1, h2, h3, h4⟩ := h
  unfold Oper.wp
  rcases h1.next law3 o.type with ⟨h0, hl, hrun⟩ | ⟨key, v, kl, y, w', cnt', hkey, hlk, hv, hat, hrun, hrg, hlt, hgr, hsz, hen⟩
  · simp [execOp, hop, hit, hrun, Result.andThen]
    exact hK' _ _ (hDone (fun x => by rw [← h4]; exact hl _))
  · obtain ⟨x, rfl, hxN⟩ := h2 kl (Maps.has_true_of_atKey hat)
    obtain ⟨z, rfl, e2, hwf⟩ := Maps.keyOf_int_inv Try.underlying3 hkey
    have ez : z = (x : Int) := by
      unfold kx at e2
      injection e2 with _ e2
      exact e2.symm
    subst ez
    have hfx : f x = some v := by
      have hs := (h3 x).1
      rw [Maps.has_true_of_atKey hat] at hs
      cases hfe : f x with
      | none => rw [hfe] at hs; cases hs
      | some v' =>
        have e3 := (h3 x).2 (.held v') v' hfe
        rw [hat] at e3
        unfold heldE at hv
        have e4 := congrArg Prod.fst (Option.some.inj hv)
        rw [e3] at e4
        injection e4 with e4
        rw [e4]
    simp [execOp, hop, hit, hrun, Result.andThen]
    refine hK' _ _ (hMore x v w' cnt' (by rw [← h4]; exact hlk) hxN hfx ⟨n, D, _, hrg, h2, h3, fun y => ?_⟩ hlt hgr hen)
    rw [h4]
    congr 1
    by_cases e : y = x
    · subst e
      rw [WideAt.sameKey_self (kx_key y)]
      simp
    · rw [Maps.sameKey_ne (fun h => e (kx_inj h))]
      simp [e]
end

end Go.Proofs.Ytdddbjaggfaofaa.Mem
