/- An argument that is a list of edges, opened. -/
import Derived.Test.YtdddbjaggfaofaaRowAid
import Derived.Test.YtdddbjaggfaofaaRowsAB
namespace Go.Proofs.Ytdddbjaggfaofaa.Aid
open Go.ChangeShapes Go.WideShapes Go.ChangeAt Go.RowKit Go.Proofs.YtdddbjaggfaofaaW.PrintWords Go.Proofs.Ytdddbjaggfaofaa.Mem
set_option linter.unusedVariables false

theorem cells3 : Try.prog.cellsOf 3 = 1 := by kernel_rfl
theorem cells52 : Try.prog.cellsOf 52 = 2 := by kernel_rfl
theorem bytes52 : Try.prog.bytesOf 52 = 16 := by kernel_rfl

theorem edge_reads {H : Type} {enc : TypeId × Value → H} {w : World} {base : Nat} {spare : Nat → Bool} {held : Bool} (n : Nat) (cs : List Value) (y : DataW H × List MemPlace) (hl : cs.length = 2)
    (h : DataW.trod enc Try.prog w base spare held n 52 cs = some y) : ∃ a : Int × Int, kE.K w a cs := by
  obtain ⟨xs, m, -, -, -, hlen, hf⟩ := DataW.trod_array Try.underlying52 h
  obtain ⟨c0, c1, rfl⟩ := list2 hl
  obtain ⟨x0, x1, rfl⟩ := list2 (show xs.length = 2 from hlen)
  have f0 := hf 0 (by omega)
  have f1 := hf 1 (by omega)
  simp [cells3] at f0 f1
  obtain ⟨n0, e0, -, -⟩ := DataW.trod_int Try.underlying3 f0
  obtain ⟨n1, e1, -, -⟩ := DataW.trod_int Try.underlying3 f1
  simp at e0 e1
  subst e0 e1
  exact ⟨(n0, n1), [.int .i64 n0], [.int .i64 n1], rfl, rfl, rfl⟩

set_option maxRecDepth 100000 in
theorem open_edges {H : Type} {enc : TypeId × Value → H} {W : World} {base : Nat} {spare : Nat → Bool} {held : Bool} {b0 : Nat} {v : Value} {d : DataW H} {p : List MemPlace}
    (hv : Value.okWide Try.prog W .any b0 31 v) (h : DataW.Trod enc Try.prog W base spare held 31 v d p) :
    ∃ (A : Option Addr) (cap : Nat) (E : List (Int × Int)), v = .slice A E.length cap ∧ kE.C W A E.length E ∧ (A = none → cap = 0) ∧ ((d = .nil ∧ E = []) ∨ ∃ els sp, d = .slice els sp ∧ els.length = E.length) := by
  obtain ⟨a0, len, cap, rfl⟩ := okWide_slice Try.underlying31 hv
  obtain ⟨fuel, hf⟩ := h
  obtain ⟨A, cap', E, hc, hle, hmax, hr, hd⟩ := open_reads Try.underlying31 cells52 (kE.K W) (edge_reads (enc := enc)) hf
  simp [Value.cells] at hc
  obtain ⟨rfl, rfl, rfl⟩ := hc
  refine ⟨_, _, E, rfl, hr, ?_, ?_⟩
  · rcases hd with ⟨_, _, _, h4⟩ | ⟨els, sp, _, h2, _⟩
    · exact fun _ => h4
    · exact fun h => absurd h h2
  · rcases hd with ⟨h1, h2, _⟩ | ⟨els, sp, h1, _, h3, _⟩
    · exact .inl ⟨h1, h2⟩
    · exact .inr ⟨els, sp, h1, h3⟩

theorem edges_bound {H : Type} {d : DataW H} {E : List (Int × Int)} {ts : List TypeId} {ds : List (DataW H)} {j : Nat} (h : (DataW.weightsEach Try.prog ts ds).all (· ≤ reachBytes) = true) (ht : ts[j]? = some 31) (hd : ds[j]? = some d)
    (hE : (d = .nil ∧ E = []) ∨ ∃ els sp, d = .slice els sp ∧ els.length = E.length) : E.length ≤ 8796093022200 := by
  rcases hE with ⟨_, rfl⟩ | ⟨els, sp, rfl, h2⟩
  · simp
  · have := sized_slice h ht hd Try.underlying31
    rw [bytes52] at this
    unfold reachBytes at this
    omega

end Go.Proofs.Ytdddbjaggfaofaa.Aid
