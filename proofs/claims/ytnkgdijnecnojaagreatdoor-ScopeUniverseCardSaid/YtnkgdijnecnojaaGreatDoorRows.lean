/-
  NARROWER THAN 'FOR EVERY INPUT', by the rows' own cells (each row's printed sentence says how): ScopeUniverse: laid.
  DERIVED. THE GIVEN ROWS OF THIS SEAT. 1 by the template 'for every input the law returns true; each argument reads behind the call as it read before'; 0 by the template 'total and deterministic' (their statements: YtnkgdijnecnojaaGreatDoorTotals.lean).
  GIVEN WITH THE SEED: the statements are not yours to turn. If you find one false, say at which input.
  Laid BY PROGRAM, IN A SANDBOX (cutbox-rows.mjs): the forced cells as the released guide's own fill.sh prints them over the translation a020ab26cc306aec… (all of the seat's roots in one cut). By AI agents, Wed Nov 11 2026. No macro, syntax, notation, axiom, sorry.
-/
import Derived.Test.YtnkgdijnecnojaaGreatDoorChecked
import GoSem.Claim
import GoSem.ClaimJoined
import GoSem.ClaimMapViews
import Derived.JoinedTies
import Derived.KernelRfl
namespace Go.Proofs.YtnkgdijnecnojaaGreatDoor
/- THE CELL 'sum', in the pinned program and in every row, IS THE sha256 OF THE DUMP (.gsa) THAT YtnkgdijnecnojaaGreatDoorProg.lean LOADS. Nothing in Lean hashes anything: it is a label: what it is worth is what the hold of that sum in a sandbox is worth. -/
noncomputable def Tryz.pinned : Pinned := { name := "ytnkgdijnecnojaagreatdoor", sum := "a020ab26cc306aeccf30939a5f05a2e186ee2438cf070678febaddb866632941", checked := Tryz.checked }
namespace Rows
def none {H : Type} : Left H := { results := [], args := [] }

/- WHAT THE LISTED PACKAGE-LEVEL VARIABLES READ AS WHEN THE CALL BEGINS. Each datum BY PROGRAM (the guide's laid-datum.mjs) off the statement by which the dump's own 'gosem.cut.vars' lays the variable. In a bare row this is a premise. The card (YtnkgdijnecnojaaGreatDoorCards.lean) ties it to the program's text. -/
def laid_moniker_monikerref9_universe {H : Type} : DataW H := .agg [.lit (.string [98, 111, 111, 108]), .lit (.string [105, 110, 116]), .lit (.string [115, 116, 114, 105, 110, 103]), .lit (.string [116, 114, 117, 101]), .lit (.string [102, 97, 108, 115, 101]), .lit (.string [105, 111, 116, 97]), .lit (.string [110, 105, 108]), .lit (.string [97, 112, 112, 101, 110, 100]), .lit (.string [99, 111, 112, 121]), .lit (.string [100, 101, 108, 101, 116, 101]), .lit (.string [108, 101, 110]), .lit (.string [109, 97, 107, 101]), .lit (.string [110, 101, 119]), .lit (.string [112, 97, 110, 105, 99]), .lit (.string [112, 114, 105, 110, 116])]
def laid_moniker_scope_universe {H : Type} : DataW H := .agg [.lit (.string [98, 111, 111, 108]), .lit (.string [105, 110, 116]), .lit (.string [115, 116, 114, 105, 110, 103]), .lit (.string [116, 114, 117, 101]), .lit (.string [102, 97, 108, 115, 101]), .lit (.string [105, 111, 116, 97]), .lit (.string [110, 105, 108]), .lit (.string [97, 112, 112, 101, 110, 100]), .lit (.string [99, 111, 112, 121]), .lit (.string [100, 101, 108, 101, 116, 101]), .lit (.string [108, 101, 110]), .lit (.string [109, 97, 107, 101]), .lit (.string [110, 101, 119]), .lit (.string [112, 97, 110, 105, 99]), .lit (.string [112, 114, 105, 110, 116])]

/-- 'monikerlaw9.ScopeUniverse': WHATEVER THE INPUT: true; the input reads as it did. -/
def scopeUniverseSpec : ChangeSpec := { name := "scopeUniverse", fn := fun _ => fun
  | [d1, d2] => { results := [.lit (.bool true)], args := [d1, d2] }
  | _ => none }
def scopeUniverseRow : OpenClaim := { program := "ytnkgdijnecnojaagreatdoor", sum := "a020ab26cc306aeccf30939a5f05a2e186ee2438cf070678febaddb866632941", func := "moniker/monikerlaw9.ScopeUniverse", spec := "scopeUniverse", unfollowed := true, recurses := true, named := ["moniker/scope.universe", "moniker/monikerref9.universe"], plainKeys := false, apart := false, laid := [("moniker/monikerref9.universe", laid_moniker_monikerref9_universe), ("moniker/scope.universe", laid_moniker_scope_universe)] }
def ScopeUniverseSaid : Prop := scopeUniverseRow.holds Tryz.pinned (OpenSpec.ofChange scopeUniverseSpec)

/-- ITS FALSE NEIGHBOUR: 'it returns false'. Refute it at one input. -/
def scopeUniverseWrong : ChangeSpec := { name := "scopeUniverse", fn := fun _ => fun
  | [d1, d2] => { results := [.lit (.bool false)], args := [d1, d2] }
  | _ => none }
def ScopeUniverseWrongFalsely : Prop := scopeUniverseRow.holds Tryz.pinned (OpenSpec.ofChange scopeUniverseWrong)

/- THE SECOND FORM. 'bulk': how many values and letters a reading holds, each counted each time it is reached (what is shared counts as often as it is met; a slice's spare places count too). A statement '..UptoSaid' is the law's where the arguments, and the package variables that the reading takes, are together of bulk at most 1048576: NARROWER than '..Said'. Prove '..Said' where nothing that the law and all that it calls make is longer than what came in: it says more and counts as full. Else prove '..UptoSaid'. A law counts once. -/
mutual
def uptoBulk {H : Type} : DataW H → Nat
  | .lit (.string bytes) => bytes.length + 1
  | .lit _ => 1
  | .nil => 1
  | .ptr d => uptoBulk d + 1
  | .slice elems spare => uptoBulkAll elems + uptoBulkAll spare + 1
  | .agg parts => uptoBulkAll parts + 1
  | .iface _ d => uptoBulk d + 1
  | .map entries => uptoBulkEntries entries + 1
  | .held _ => 1
def uptoBulkAll {H : Type} : List (DataW H) → Nat
  | [] => 0
  | d :: r => uptoBulk d + uptoBulkAll r
def uptoBulkEntries {H : Type} : List (Lit × DataW H) → Nat
  | [] => 0
  | x :: r => uptoBulkEntry x + uptoBulkEntries r
def uptoBulkEntry {H : Type} : Lit × DataW H → Nat
  | (.string bytes, d) => bytes.length + uptoBulk d + 1
  | (_, d) => uptoBulk d + 1
 end
def uptoSmall : (H : Type) → List (DataW H) → Bool := fun _ ds => decide (uptoBulkAll ds ≤ 1048576)
def OpenSpec.upto (s : _root_.Go.ChangeSpec) : _root_.Go.OpenSpec := { _root_.Go.OpenSpec.ofChange s with cond := some uptoSmall }

/-- 'monikerlaw9.ScopeUniverse', WHERE WHAT IT READS IS OF BULK AT MOST 1048576: true; the input reads as it did. -/
def scopeUniverseUptoRow : OpenClaim := { program := "ytnkgdijnecnojaagreatdoor", sum := "a020ab26cc306aeccf30939a5f05a2e186ee2438cf070678febaddb866632941", func := "moniker/monikerlaw9.ScopeUniverse", spec := "scopeUniverse", unfollowed := true, recurses := true, named := ["moniker/scope.universe", "moniker/monikerref9.universe"], plainKeys := false, apart := false, laid := [("moniker/monikerref9.universe", laid_moniker_monikerref9_universe), ("moniker/scope.universe", laid_moniker_scope_universe)], narrowed := true }
def ScopeUniverseUptoSaid : Prop := scopeUniverseUptoRow.holds Tryz.pinned (OpenSpec.upto scopeUniverseSpec)

end Rows
end Go.Proofs.YtnkgdijnecnojaaGreatDoor
