/- The row of ParserDepths: for every tree of nodes the law returns true, and the tree reads behind the call as before. No condition. -/
import Derived.Test.YtdddbjaggfaofaaRowAid
import Derived.Test.YtdddbjaggfaofaaPureParserDepths
namespace Go.Proofs.Ytdddbjaggfaofaa.parserDepths
open Go.ChangeShapes Go.WideShapes Go.ChangeAt Go.RowKit Go.Proofs.Ytdddbjaggfaofaa.Aid Go.Proofs.Ytdddbjaggfaofaa.PParserDepths Go.Proofs.YtdddbjaggfaofaaW.PrintWords
set_option linter.unusedVariables false

instance : Inhabited S75 := ⟨z75⟩
theorem cells24 : Try.prog.cellsOf 24 = 1 := by kernel_rfl
theorem cells3 : Try.prog.cellsOf 3 = 1 := by kernel_rfl
theorem cells73 : Try.prog.cellsOf 73 = 1 := by kernel_rfl
theorem cells75 : Try.prog.cellsOf 75 = 4 := by kernel_rfl
theorem cells26 : Try.prog.cellsOf 26 = 1 := by kernel_rfl
theorem bytes75 : Try.prog.bytesOf 75 = 32 := by kernel_rfl

theorem node_reads {H : Type} {enc : TypeId × Value → H} {w : World} {base : Nat} {spare : Nat → Bool} {held : Bool} (n : Nat) (cs : List Value) (y : DataW H × List MemPlace) (hl : cs.length = 4)
    (h : DataW.trod enc Try.prog w base spare held n 75 cs = some y) : ∃ a : S75, k75.K w a cs := by
  obtain ⟨xs, m, -, -, -, hlen, hf⟩ := DataW.trod_struct Try.underlying75 h
  obtain ⟨c0, c1, c2, c3, rfl⟩ := list4 hl
  obtain ⟨x0, x1, x2, x3, rfl⟩ := list4 (show xs.length = 4 from hlen)
  have f0 := hf 0 _ rfl
  have f1 := hf 1 _ rfl
  have f2 := hf 2 _ rfl
  have f3 := hf 3 _ rfl
  simp [cells3, cells73] at f0 f1 f2 f3
  obtain ⟨n0, e0, -, -⟩ := DataW.trod_int Try.underlying73 f0
  obtain ⟨n1, e1, -, -⟩ := DataW.trod_int Try.underlying3 f1
  obtain ⟨n2, e2, -, -⟩ := DataW.trod_int Try.underlying3 f2
  obtain ⟨n3, e3, -, -⟩ := DataW.trod_int Try.underlying3 f3
  simp at e0 e1 e2 e3
  subst e0 e1 e2 e3
  exact ⟨⟨n0, n1, n2, n3⟩, k75_mk w ⟨n0, n1, n2, n3⟩⟩

theorem weighed {H : Type} {d0 : DataW H} {ds gs : List (DataW H)} {vs : List TypeId} {els sp : List (DataW H)} (h : (DataW.weightsEach Try.prog ([26] ++ vs) (d0 :: ds ++ gs)).all (· ≤ reachBytes) = true) (hd : d0 = .agg [.slice els sp]) :
    els.length * 32 ≤ 140737488351232 := by
  have := List.all_eq_true.1 h _ (DataW.weights_mem_each (P := Try.prog) (ts := [26] ++ vs) (ds := d0 :: ds ++ gs) (j := 0) (t := 26) (d := d0) rfl rfl ((els.length + sp.length) * Try.prog.bytesOf 75) (by
    subst hd
    simp [DataW.weights, DataW.weightsEach, Try.underlying26, Try.underlying24]))
  rw [bytes75] at this
  have h2 : (els.length + sp.length) * 32 ≤ reachBytes := by simpa using this
  unfold reachBytes at h2
  omega

set_option maxRecDepth 100000 in
theorem lifted (os : Os) (started : os.Started) (H : Type) (enc : TypeId × Value → H) :
    ReturnsInHanded {} Try.checked os 4 .any (Rows.parserDepthsSpec.pre6 enc Try.prog Try.f4 Rows.parserDepthsRow.domain false) (Rows.parserDepthsSpec.post enc Try.prog Try.f4 false true false false) := by
  refine returnsInHanded_of_change_sized (C := Try.checked) own started (by kernel_rfl) Try.func4
    (ChangeSpec.witness6 (enc := enc) (C := Try.checked) false ⟨#[], #[.agg #[.slice none 0 0]], []⟩ 8 (by kernel_rfl) (by kernel_rfl) (by kernel_rfl) (by kernel_rfl)) ?_
  intro W base args ds gs before hval0 hW hcnd hsz0 _
  have hsz : (DataW.weightsEach Try.prog (Try.f4.params.toList ++ Rows.parserDepthsSpec.plain.varTypes Try.prog) (ds ++ gs)).all (· ≤ reachBytes) = true := hsz0
  have hval : ∀ (j : Nat) t v, Try.f4.params[j]? = some t → args[j]? = some v → Value.okWide Try.prog W .any base t v := hval0
  have hW' := hW
  obtain ⟨p, q, hA0, hV, rfl, hfz, hnd⟩ := hW
  have hA : DataW.TrodAll enc Try.prog W 0 (fun _ => true) true Try.f4.params.toList args.toList ds p := hA0
  rw [Try.params4] at hA hval hsz
  obtain ⟨rfl, rfl⟩ := trodVars_none hV
  have hlt : ∀ x ∈ p, x.block < W.heap.size := fun x hx => by simpa using hW'.lt x (by simpa using hx)
  have hst := fun W' bel => args_stay (W' := W') bel (ts := [26]) (by intro t ht; simp at ht; subst ht; exact ⟨by kernel_rfl, of_decide_eq_true (by kernel_rfl)⟩) hA hlt
  obtain ⟨v0, vs0, d0, ds0, p0, q0, hargs, rfl, rfl, h0, r0⟩ := trodAll_cons hA
  obtain ⟨rfl, rfl, rfl⟩ := trodAll_nil r0
  obtain rfl : args = #[v0] := by cases args; simp_all
  obtain ⟨cs, rfl, hcs⟩ := okWide_struct Try.underlying26 (hval 0 26 v0 rfl rfl)
  obtain ⟨fuel, hf⟩ := h0
  obtain ⟨y0, n, hx, _, ht⟩ := trod_struct1 Try.underlying26 hf
  rw [cells26] at hcs
  obtain ⟨c0, rfl⟩ := array1 hcs
  simp [Value.cells, cells24] at ht
  obtain ⟨A, cap, l, hc, hle, hmax, hr, hd⟩ := open_reads Try.underlying24 cells75 (k75.K W) (node_reads (enc := enc)) ht
  simp at hc
  subst hc
  have hbound : l.length ≤ 4398046511040 := by
    rcases hd with ⟨h1, rfl, h3⟩ | ⟨els, sp, h1, h2, h3⟩
    · simp
    · simp only [Prod.mk.injEq] at hx
      have hz := weighed hsz (els := els) (sp := sp) (by rw [hx.1, h1])
      omega
  obtain ⟨k, hk⟩ := Pure.ParserDepths l hbound
  refine (monikerlaw3_ParserDepths.calls k A cap l true W hr hle hk).mono fun e W' ⟨he, bel⟩ => ?_
  subst he
  exact ⟨_, rfl, _, _, _, [], _, [], hW', trodAll_mk1 (shut_bool Try.underlying4 _), hst W' bel, rfl, bel.frame _, fun h => by cases h⟩

theorem over : Rows.parserDepthsRow.holds Try.pinned (OpenSpec.ofChange Rows.parserDepthsSpec) :=
  OpenClaim.holds_of_wide 4 Try.f4 rfl rfl rfl rfl rfl rfl rfl ⟨rfl, rfl, rfl, rfl, rfl⟩ rfl rfl rfl rfl rfl (by kernel_rfl) Try.func4 (by kernel_rfl)
    (of_decide_eq_true (by kernel_rfl)) (by unfold Func.isWrapper; first | (rw [if_pos (by decide +kernel)]; kernel_rfl) | (rw [if_neg (by decide +kernel)]; exact ⟨rfl, rfl⟩))
    (fun os started H enc _ => lifted os started H enc)
theorem proved : Rows.ParserDepthsSaid := over
#print axioms proved
end Go.Proofs.Ytdddbjaggfaofaa.parserDepths
namespace Go.Proofs.Ytdddbjaggfaofaa
/-- The row, under a short name, for the claim. -/
theorem parserDepths_holds : Rows.ParserDepthsSaid := parserDepths.proved
end Go.Proofs.Ytdddbjaggfaofaa
