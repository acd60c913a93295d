/- The row of ScopeUniverse: the two lists as laid are the fifteen names; so the law returns true, and each argument reads behind the call as before. -/
import Derived.Test.YtnkgdijnecnojaaGreatDoorRows
import Derived.Test.YtnkgdijnecnojaaGreatDoorUni
import Derived.ProofKit
import Derived.LaidMore
import Derived.OpenShut
import Derived.Stop.Joined
namespace Go.Proofs.YtnkgdijnecnojaaGreatDoor.Uni
open Go.ChangeShapes Go.ChangeMaps Go.WideShapes Go.ChangeAt Go.WideMaps Go.WideElems Go.RowKit
set_option linter.unusedVariables false
set_option maxRecDepth 100000

theorem own : ownKnob Tryz.prog.godebug = none := by kernel_rfl
theorem laidOut : laidOutB Tryz.prog = true := by kernel_rfl
theorem gScope : Tryz.prog.globalNamed "moniker/scope.universe" = some 0 := by kernel_rfl
theorem gRef : Tryz.prog.globalNamed "moniker/monikerref9.universe" = some 1 := by kernel_rfl
theorem tScope : (Tryz.prog.globals[0]?).map (·.type) = some 39 := by kernel_rfl
theorem tRef : (Tryz.prog.globals[1]?).map (·.type) = some 39 := by kernel_rfl
theorem c9 : Tryz.prog.cellsOf 9 = 1 := by kernel_rfl
theorem c3 : Tryz.prog.cellsOf 3 = 1 := by kernel_rfl
theorem c23 : Tryz.prog.cellsOf 23 = 2 := by kernel_rfl

theorem holds_of {W : World} {n : String} {g : Nat} {cs : Array Value} {f : Nat} {p : List MemPlace} {sp : Nat → Bool} {held : Bool} {H : Type} {enc : TypeId × Value → H}
    (hg : Tryz.prog.globalNamed n = some g) (hv : W.var? Tryz.prog n = some cs)
    (hd : DataW.trod enc Tryz.prog W 0 sp held f 39 cs.toList = some (.agg (names.map fun x => .lit (.string x)), p)) : Holds W g := by
  obtain ⟨xs, m, rfl, hx, hlen, hn, hel⟩ := DataW.trod_array Tryz.underlying39 hd
  intro k hk
  have h1 := hel k hk
  rw [c9, Nat.mul_one] at h1
  have hk2 : k < xs.length := by omega
  rw [List.getElem?_eq_getElem hk2] at h1
  obtain ⟨s, e1, e2, _⟩ := DataW.trod_string Tryz.underlying9 h1
  have hx1 : names.map (fun x => (.lit (.string x) : DataW H)) = xs.map (·.1) := by
    injection hx with a b
    injection a
  have h2 := congrArg (·[k]?) hx1
  have hk3 : k < names.length := by rw [names_len]; exact hk
  simp only [List.getElem?_map, List.getElem?_eq_getElem hk2, List.getElem?_eq_getElem hk3, Option.map_some, e2, Option.some.injEq] at h2
  injection h2 with h3
  injection h3 with h4
  have hs : s = nm k := by
    unfold nm
    rw [List.getD_eq_getElem?_getD, List.getElem?_eq_getElem hk3, Option.getD_some, h4]
  rw [World.var?_cell hg hv k]
  have h5 : (cs.toList.drop k).head? = some (.string s) := by
    have h6 := List.head?_take (l := cs.toList.drop k) (i := 1)
    rw [if_neg (by decide), e1] at h6
    exact h6.symm
  rw [List.head?_drop] at h5
  rw [← hs]
  simpa using h5

theorem of_laid {W : World} (h : laidMetH Tryz.prog Rows.scopeUniverseRow.laid W) : Holds W 0 ∧ Holds W 1 := by
  rw [MakeChecks.laidMetH_plain _ _ _ (by kernel_rfl)] at h
  obtain ⟨ps, ⟨g1, t1, cs1, f1, p1, q1, hg1, ht1, hv1, hd1, ⟨g0, t0, cs0, f0, p0, q0, hg0, ht0, hv0, hd0, _, _⟩, _⟩, _, _⟩ := h
  obtain rfl := Option.some.inj (gScope.symm.trans hg0)
  obtain rfl := Option.some.inj (gRef.symm.trans hg1)
  obtain rfl := Option.some.inj (tScope.symm.trans ht0)
  obtain rfl := Option.some.inj (tRef.symm.trans ht1)
  exact ⟨holds_of hg0 hv0 hd0, holds_of hg1 hv1 hd1⟩

/-- The door's own heap meets the condition. -/
theorem door_met (os : Os) (args : Array Value) : laidMetH Tryz.prog Rows.scopeUniverseRow.laid ((World.doorLaid Tryz.prog 19 os).forCall (fun _ _ => 0) ⟨#[], args, []⟩).memory :=
  laidMetH_of_parts3 (fuel := 8) (laidMet_of_run' 8 (by kernel_rfl) (by kernel_rfl)) (by kernel_rfl) (by kernel_rfl)

theorem open_place {H : Type} {enc : TypeId × Value → H} {W : World} {b0 base : Nat} {sp : Nat → Bool} {held : Bool} {v : Value} {d : DataW H} {ps : List MemPlace}
    (hval : Value.okWide Tryz.prog W .any b0 23 v) (hd : DataW.Trod enc Tryz.prog W base sp held 23 v d ps) :
    ∃ a b : Int, v = .agg #[.int .i64 a, .int .i64 b] := by
  obtain ⟨cs, rfl, hsz⟩ := okWide_struct Tryz.underlying23 hval
  obtain ⟨fuel, hf⟩ := hd
  rw [c23] at hsz
  obtain ⟨y0, y1, n, _, _, e0, e1⟩ := trod_struct2 Tryz.underlying23 hf
  rw [c3] at e0 e1
  match cs, hsz with
  | ⟨[x0, x1]⟩, _ =>
    obtain ⟨a, ha, _⟩ := DataW.trod_int Tryz.underlying3 e0
    obtain ⟨b, hb, _⟩ := DataW.trod_int Tryz.underlying3 e1
    simp [Value.cells] at ha hb
    exact ⟨a, b, by rw [ha, hb]⟩

/-- ARGS: behind the call each argument reads as it did. -/
theorem args_stay {H : Type} {enc : TypeId × Value → H} {W W' : World} (bel : Below W.heap.size W W') :
    ∀ {ts : List TypeId} {vs : List Value} {ds : List (DataW H)} {p : List MemPlace}, (∀ t ∈ ts, Tryz.prog.readableRec t = true ∧ t < Tryz.prog.types.size) →
      DataW.TrodAll enc Tryz.prog W 0 (fun _ => true) true ts vs ds p → (∀ x ∈ p, x.block < W.heap.size) →
      DataW.TrodAll enc Tryz.prog W' 0 (fun b => decide (b < W.heap.size)) true ts vs ds p := by
  intro ts
  induction ts with
  | nil =>
    intro vs ds p _ h _
    obtain ⟨rfl, rfl, rfl⟩ := trodAll_nil h
    exact trodAll_mk0
  | cons t ts ih =>
    intro vs ds p ht h hlt
    obtain ⟨v, vs', d, ds', p1, p2, rfl, rfl, rfl, h1, h2⟩ := trodAll_cons h
    refine trodAll_cons_mk (Below.trod laidOut (ht t (by simp)).1 (ht t (by simp)).2 h1 bel (fun x hx => hlt x (by simp [hx]))) (ih (fun t' h' => ht t' (by simp [h'])) h2 (fun x hx => hlt x (by simp [hx])))

set_option maxRecDepth 100000 in
theorem lifted (os : Os) (started : os.Started) (H : Type) (enc : TypeId × Value → H) :
    ReturnsInHanded {} Tryz.checked os 3 .any (fun w args => (Rows.scopeUniverseSpec.pre enc Tryz.prog Tryz.f3 [] false w args ∧ laidMetH Tryz.prog Rows.scopeUniverseRow.laid w) ∧ sizedMet enc Tryz.prog Tryz.f3 (OpenSpec.ofChange Rows.scopeUniverseSpec) false w args)
      (Rows.scopeUniverseSpec.post enc Tryz.prog Tryz.f3 false true false false) := by
  refine returnsInHanded_of_change_and (C := Tryz.checked) (X := fun w _ => laidMetH Tryz.prog Rows.scopeUniverseRow.laid w) (fun _ _ _ hh h => h.of_heap hh) own started (by kernel_rfl) Tryz.func3
    (ChangeSpec.witness_shaped (enc := enc) (C := Tryz.checked) (os := os) (X := fun w _ => laidMetH Tryz.prog Rows.scopeUniverseRow.laid w) false (World.doorLaid Tryz.prog 19 os) #[.string ⟨#[]⟩, .agg #[.int .i64 0, .int .i64 0]] 8 rfl (World.shaped_of_RefB (by kernel_rfl) (by kernel_rfl)) (by kernel_rfl) (by kernel_rfl) (by kernel_rfl) (door_met os _)) ?_
  intro W base args ds gs before hval0 hW _ _ hL _
  have hval : ∀ (j : Nat) t v, Tryz.f3.params[j]? = some t → args[j]? = some v → Value.okWide Tryz.prog W .any base t v := hval0
  have hW' := hW
  obtain ⟨p, q, hA0, hV, rfl, hfz, hnd⟩ := hW
  have hA : DataW.TrodAll enc Tryz.prog W 0 (fun _ => true) true Tryz.f3.params.toList args.toList ds p := hA0
  rw [Tryz.params3] at hA hval
  obtain ⟨rfl, rfl⟩ := trodVars_none hV
  have hlt : ∀ x ∈ p, x.block < W.heap.size := fun x hx => by simpa using hW'.lt x (by simpa using hx)
  have hst := fun W' bel => args_stay (W' := W') bel (ts := [9, 23]) (by intro t ht; have ht2 : t = 9 ∨ t = 23 := by simpa using ht
                                                                         rcases ht2 with rfl | rfl; all_goals exact ⟨by kernel_rfl, of_decide_eq_true (by kernel_rfl)⟩) hA hlt
  obtain ⟨v0, v1, d0, d1, p0, p1, rfl, rfl, rfl, h0, h1⟩ := trodAll_two hA
  obtain ⟨s, rfl, rfl, rfl, _⟩ := open_string Tryz.underlying9 (hval 0 9 v0 rfl rfl) h0
  obtain ⟨a, b, rfl⟩ := open_place (hval 1 23 v1 rfl rfl) h1
  obtain ⟨hu0, hu1⟩ := of_laid hL
  have hz : 2 ≤ W.heap.size := World.block_lt_of_cell? W _ (hu1 0 (by decide))
  refine (law_calls s a b W hz hu0 hu1).mono fun e W' ⟨he, bel⟩ => ?_
  subst he
  exact ⟨_, rfl, _, _, _, [], _, [], hW', trodAll_mk1 (shut_bool Tryz.underlying4 _), hst W' bel, rfl, bel.frame _, fun h => by cases h⟩

theorem row_holds : Rows.ScopeUniverseSaid :=
  OpenClaim.holds_of_wide 3 Tryz.f3 rfl rfl rfl rfl rfl rfl rfl ⟨rfl, rfl, rfl, rfl, rfl⟩ rfl rfl rfl rfl rfl (by kernel_rfl) Tryz.func3 (by kernel_rfl)
    (of_decide_eq_true (by kernel_rfl)) (by unfold Func.isWrapper; first | (rw [if_pos (by decide +kernel)]; kernel_rfl) | (rw [if_neg (by decide +kernel)]; exact ⟨rfl, rfl⟩))
    (fun os started H enc _ => lifted os started H enc)
#print axioms row_holds
end Go.Proofs.YtnkgdijnecnojaaGreatDoor.Uni
