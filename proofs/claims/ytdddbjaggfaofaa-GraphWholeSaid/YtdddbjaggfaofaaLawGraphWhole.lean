/- The row of GraphWhole: for every number of things and list of edges the law returns true; each argument reads behind the call as before. No condition. -/
import Derived.Test.YtdddbjaggfaofaaRowE
import Derived.Test.YtdddbjaggfaofaaWh
namespace Go.Proofs.Ytdddbjaggfaofaa.graphWhole
open Go.ChangeShapes Go.WideShapes Go.ChangeAt Go.RowKit Go.Proofs.Ytdddbjaggfaofaa.Aid Go.Proofs.Ytdddbjaggfaofaa.Mem Go.Proofs.YtdddbjaggfaofaaW.PrintWords
set_option linter.unusedVariables false
set_option maxRecDepth 100000 in
theorem lifted (os : Os) (started : os.Started) (H : Type) (enc : TypeId × Value → H) :
    ReturnsInHanded {} Try.checked os 12 .any (Rows.graphWholeSpec.pre6 enc Try.prog Try.f12 Rows.graphWholeRow.domain false) (Rows.graphWholeSpec.post enc Try.prog Try.f12 false true false false) := by
  refine returnsInHanded_of_change_sized (C := Try.checked) own started (by kernel_rfl) Try.func12
    (ChangeSpec.witness6 (enc := enc) (C := Try.checked) false ⟨#[], #[.int .i64 0, .slice none 0 0], []⟩ 8 (by kernel_rfl) (by kernel_rfl) (by kernel_rfl) (by kernel_rfl)) ?_
  intro W base args ds gs before hval0 hW hcnd hsz0 _
  have hsz : (DataW.weightsEach Try.prog (Try.f12.params.toList ++ Rows.graphWholeSpec.plain.varTypes Try.prog) (ds ++ gs)).all (· ≤ reachBytes) = true := hsz0
  have hval : ∀ (j : Nat) t v, Try.f12.params[j]? = some t → args[j]? = some v → Value.okWide Try.prog W .any base t v := hval0
  have hW' := hW
  obtain ⟨p, q, hA0, hV, rfl, hfz, hnd⟩ := hW
  have hA : DataW.TrodAll enc Try.prog W 0 (fun _ => true) true Try.f12.params.toList args.toList ds p := hA0
  rw [Try.params12] at hA hval hsz
  obtain ⟨rfl, rfl⟩ := trodVars_none hV
  have hlt : ∀ x ∈ p, x.block < W.heap.size := fun x hx => by simpa using hW'.lt x (by simpa using hx)
  have hst := fun W' bel => args_stay (W' := W') bel (ts := [3, 31]) (by intro t ht; have ht2 : t = 3 ∨ t = 31 := by { simp only [List.mem_cons, List.not_mem_nil, or_false] at ht; rcases ht with h | h; all_goals first | exact Or.inl h | exact Or.inr h }; rcases ht2 with rfl | rfl; all_goals exact ⟨by kernel_rfl, of_decide_eq_true (by kernel_rfl)⟩) hA hlt
  obtain ⟨v0, vs0, d0, ds0, p0, q0, hargs, rfl, rfl, h0, r0⟩ := trodAll_cons hA
  obtain ⟨v1, vs1, d1, ds1, p1, q1, rfl, rfl, rfl, h1, r1⟩ := trodAll_cons r0
  obtain ⟨rfl, rfl, rfl⟩ := trodAll_nil r1
  obtain rfl : args = #[v0, v1] := by cases args; simp_all
  obtain ⟨x0, rfl, rfl, rfl, wx0⟩ := open_int Try.underlying3 (hval 0 3 v0 rfl rfl) h0
  obtain ⟨A1, c1, E1, rfl, hr1, hn1, hd1⟩ := open_edges (hval 1 31 v1 rfl rfl) h1
  have hE1 := edges_bound (j := 1) hsz rfl rfl hd1
  refine (graphWhole_walk x0 E1 A1 c1 W hr1 hn1 hE1).mono fun e W' ⟨he, bel⟩ => ?_
  subst he
  exact ⟨_, rfl, _, _, _, [], _, [], hW', trodAll_mk1 (shut_bool Try.underlying4 _), hst W' bel, rfl, bel.frame _, fun h => by cases h⟩
theorem over : Rows.graphWholeRow.holds Try.pinned (OpenSpec.ofChange Rows.graphWholeSpec) :=
  OpenClaim.holds_of_wide 12 Try.f12 rfl rfl rfl rfl rfl rfl rfl ⟨rfl, rfl, rfl, rfl, rfl⟩ rfl rfl rfl rfl rfl (by kernel_rfl) Try.func12 (by kernel_rfl)
    (of_decide_eq_true (by kernel_rfl)) (by unfold Func.isWrapper; first | (rw [if_pos (by decide +kernel)]; kernel_rfl) | (rw [if_neg (by decide +kernel)]; exact ⟨rfl, rfl⟩))
    (fun os started H enc _ => lifted os started H enc)
theorem proved : Rows.GraphWholeSaid := over
#print axioms proved
end Go.Proofs.Ytdddbjaggfaofaa.graphWhole
namespace Go.Proofs.Ytdddbjaggfaofaa
/-- The row, under a short name, for the claim. -/
theorem graphWhole_holds : Rows.GraphWholeSaid := graphWhole.proved
end Go.Proofs.Ytdddbjaggfaofaa
