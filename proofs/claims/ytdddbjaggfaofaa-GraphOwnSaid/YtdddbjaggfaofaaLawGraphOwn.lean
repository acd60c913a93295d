/- The row of GraphOwn: for every number of things, list of edges and list of other edges the law returns true; each argument reads behind the call as before. No condition. -/
import Derived.Test.YtdddbjaggfaofaaRowE
import Derived.Test.YtdddbjaggfaofaaOwnC
namespace Go.Proofs.Ytdddbjaggfaofaa.graphOwn
open Go.ChangeShapes Go.WideShapes Go.ChangeAt Go.RowKit Go.Proofs.Ytdddbjaggfaofaa.Aid Go.Proofs.Ytdddbjaggfaofaa.Mem Go.Proofs.YtdddbjaggfaofaaW.PrintWords
set_option linter.unusedVariables false
set_option maxRecDepth 100000 in
theorem lifted (os : Os) (started : os.Started) (H : Type) (enc : TypeId × Value → H) :
    ReturnsInHanded {} Try.checked os 14 .any (Rows.graphOwnSpec.pre6 enc Try.prog Try.f14 Rows.graphOwnRow.domain false) (Rows.graphOwnSpec.post enc Try.prog Try.f14 false true false false) := by
  refine returnsInHanded_of_change_sized (C := Try.checked) own started (by kernel_rfl) Try.func14
    (ChangeSpec.witness6 (enc := enc) (C := Try.checked) false ⟨#[], #[.int .i64 0, .slice none 0 0, .slice none 0 0], []⟩ 8 (by kernel_rfl) (by kernel_rfl) (by kernel_rfl) (by kernel_rfl)) ?_
  intro W base args ds gs before hval0 hW hcnd hsz0 _
  have hsz : (DataW.weightsEach Try.prog (Try.f14.params.toList ++ Rows.graphOwnSpec.plain.varTypes Try.prog) (ds ++ gs)).all (· ≤ reachBytes) = true := hsz0
  have hval : ∀ (j : Nat) t v, Try.f14.params[j]? = some t → args[j]? = some v → Value.okWide Try.prog W .any base t v := hval0
  have hW' := hW
  obtain ⟨p, q, hA0, hV, rfl, hfz, hnd⟩ := hW
  have hA : DataW.TrodAll enc Try.prog W 0 (fun _ => true) true Try.f14.params.toList args.toList ds p := hA0
  rw [Try.params14] at hA hval hsz
  obtain ⟨rfl, rfl⟩ := trodVars_none hV
  have hlt : ∀ x ∈ p, x.block < W.heap.size := fun x hx => by simpa using hW'.lt x (by simpa using hx)
  have hst := fun W' bel => args_stay (W' := W') bel (ts := [3, 31, 31]) (by intro t ht; have ht2 : t = 3 ∨ t = 31 := by { simp only [List.mem_cons, List.not_mem_nil, or_false] at ht; rcases ht with h | h | h; all_goals first | exact Or.inl h | exact Or.inr h }; rcases ht2 with rfl | rfl; all_goals exact ⟨by kernel_rfl, of_decide_eq_true (by kernel_rfl)⟩) hA hlt
  obtain ⟨v0, vs0, d0, ds0, p0, q0, hargs, rfl, rfl, h0, r0⟩ := trodAll_cons hA
  obtain ⟨v1, vs1, d1, ds1, p1, q1, rfl, rfl, rfl, h1, r1⟩ := trodAll_cons r0
  obtain ⟨v2, vs2, d2, ds2, p2, q2, rfl, rfl, rfl, h2, r2⟩ := trodAll_cons r1
  obtain ⟨rfl, rfl, rfl⟩ := trodAll_nil r2
  obtain rfl : args = #[v0, v1, v2] := by cases args; simp_all
  obtain ⟨x0, rfl, rfl, rfl, wx0⟩ := open_int Try.underlying3 (hval 0 3 v0 rfl rfl) h0
  obtain ⟨A1, c1, E1, rfl, hr1, hn1, hd1⟩ := open_edges (hval 1 31 v1 rfl rfl) h1
  have hE1 := edges_bound (j := 1) hsz rfl rfl hd1
  obtain ⟨A2, c2, E2, rfl, hr2, hn2, hd2⟩ := open_edges (hval 2 31 v2 rfl rfl) h2
  have hE2 := edges_bound (j := 2) hsz rfl rfl hd2
  refine (graphOwn_law x0 E1 E2 A1 A2 c1 c2 W hr1 hn1 hE1 hr2 hn2 hE2).mono fun e W' ⟨he, bel⟩ => ?_
  subst he
  exact ⟨_, rfl, _, _, _, [], _, [], hW', trodAll_mk1 (shut_bool Try.underlying4 _), hst W' bel, rfl, bel.frame _, fun h => by cases h⟩
theorem over : Rows.graphOwnRow.holds Try.pinned (OpenSpec.ofChange Rows.graphOwnSpec) :=
  OpenClaim.holds_of_wide 14 Try.f14 rfl rfl rfl rfl rfl rfl rfl ⟨rfl, rfl, rfl, rfl, rfl⟩ rfl rfl rfl rfl rfl (by kernel_rfl) Try.func14 (by kernel_rfl)
    (of_decide_eq_true (by kernel_rfl)) (by unfold Func.isWrapper; first | (rw [if_pos (by decide +kernel)]; kernel_rfl) | (rw [if_neg (by decide +kernel)]; exact ⟨rfl, rfl⟩))
    (fun os started H enc _ => lifted os started H enc)
theorem proved : Rows.GraphOwnSaid := over
#print axioms proved
end Go.Proofs.Ytdddbjaggfaofaa.graphOwn
namespace Go.Proofs.Ytdddbjaggfaofaa
/-- The row, under a short name, for the claim. -/
theorem graphOwn_holds : Rows.GraphOwnSaid := graphOwn.proved
end Go.Proofs.Ytdddbjaggfaofaa
