/-
  No cell of these rows narrows 'for every input' (looked for: loops, veiled, ifaces, maps, wideKeys, modest, calm, conditions, laid).
  DERIVED. THE GIVEN ROWS OF THIS SEAT. 12 by the template 'for every input the law returns true; each argument reads behind the call as it read before'; 0 by the template 'total and deterministic' (their statements: YtdddbjaggfaofaaTotals.lean).
  GIVEN WITH THE SEED: the statements are not yours to turn. If you find one false, say at which input.
  Laid BY PROGRAM, IN A SANDBOX (cutbox-rows.mjs): the forced cells as the released guide's own fill.sh prints them over the translation 377d5040cfb9be87… (all of the seat's roots in one cut). By AI agents, Wed Nov 11 2026. No macro, syntax, notation, axiom, sorry.
-/
import Derived.Test.YtdddbjaggfaofaaChecked
import GoSem.Claim
import GoSem.ClaimJoined
import GoSem.ClaimMapViews
import Derived.JoinedTies
import Derived.KernelRfl
namespace Go.Proofs.Ytdddbjaggfaofaa
/- THE CELL 'sum', in the pinned program and in every row, IS THE sha256 OF THE DUMP (.gsa) THAT YtdddbjaggfaofaaProg.lean LOADS. Nothing in Lean hashes anything: it is a label: what it is worth is what the hold of that sum in a sandbox is worth. -/
noncomputable def Try.pinned : Pinned := { name := "ytdddbjaggfaofaa", sum := "377d5040cfb9be87aa1e0b228930acc556c7545cf5d5c27112836b2bd12fc798", checked := Try.checked }
namespace Rows
def none {H : Type} : Left H := { results := [], args := [] }

/-- 'monikerlaw7.ModulesFolders': WHATEVER THE INPUT: true; the input reads as it did. -/
def modulesFoldersSpec : ChangeSpec := { name := "modulesFolders", fn := fun _ => fun
  | [d] => { results := [.lit (.bool true)], args := [d] }
  | _ => none }
def modulesFoldersRow : OpenClaim := { program := "ytdddbjaggfaofaa", sum := "377d5040cfb9be87aa1e0b228930acc556c7545cf5d5c27112836b2bd12fc798", func := "moniker/monikerlaw7.ModulesFolders", spec := "modulesFolders", apart := false }
def ModulesFoldersSaid : Prop := modulesFoldersRow.holds Try.pinned (OpenSpec.ofChange modulesFoldersSpec)

/-- ITS FALSE NEIGHBOUR: 'it returns false'. Refute it at one input. -/
def modulesFoldersWrong : ChangeSpec := { name := "modulesFolders", fn := fun _ => fun
  | [d] => { results := [.lit (.bool false)], args := [d] }
  | _ => none }
def ModulesFoldersWrongFalsely : Prop := modulesFoldersRow.holds Try.pinned (OpenSpec.ofChange modulesFoldersWrong)

/-- 'monikerlaw3.ParserDepths': WHATEVER THE INPUT: true; the input reads as it did. -/
def parserDepthsSpec : ChangeSpec := { name := "parserDepths", fn := fun _ => fun
  | [d] => { results := [.lit (.bool true)], args := [d] }
  | _ => none }
def parserDepthsRow : OpenClaim := { program := "ytdddbjaggfaofaa", sum := "377d5040cfb9be87aa1e0b228930acc556c7545cf5d5c27112836b2bd12fc798", func := "moniker/monikerlaw3.ParserDepths", spec := "parserDepths", recurses := true, apart := false }
def ParserDepthsSaid : Prop := parserDepthsRow.holds Try.pinned (OpenSpec.ofChange parserDepthsSpec)

/-- ITS FALSE NEIGHBOUR: 'it returns false'. Refute it at one input. -/
def parserDepthsWrong : ChangeSpec := { name := "parserDepths", fn := fun _ => fun
  | [d] => { results := [.lit (.bool false)], args := [d] }
  | _ => none }
def ParserDepthsWrongFalsely : Prop := parserDepthsRow.holds Try.pinned (OpenSpec.ofChange parserDepthsWrong)

/-- 'monikerlaw6.GraphReaches': WHATEVER THE INPUT: true; the input reads as it did. -/
def graphReachesSpec : ChangeSpec := { name := "graphReaches", fn := fun _ => fun
  | [d1, d2, d3] => { results := [.lit (.bool true)], args := [d1, d2, d3] }
  | _ => none }
def graphReachesRow : OpenClaim := { program := "ytdddbjaggfaofaa", sum := "377d5040cfb9be87aa1e0b228930acc556c7545cf5d5c27112836b2bd12fc798", func := "moniker/monikerlaw6.GraphReaches", spec := "graphReaches", unfollowed := true, recurses := true, apart := false }
def GraphReachesSaid : Prop := graphReachesRow.holds Try.pinned (OpenSpec.ofChange graphReachesSpec)

/-- ITS FALSE NEIGHBOUR: 'it returns false'. Refute it at one input. -/
def graphReachesWrong : ChangeSpec := { name := "graphReaches", fn := fun _ => fun
  | [d1, d2, d3] => { results := [.lit (.bool false)], args := [d1, d2, d3] }
  | _ => none }
def GraphReachesWrongFalsely : Prop := graphReachesRow.holds Try.pinned (OpenSpec.ofChange graphReachesWrong)

/-- 'monikerlaw6.GraphClasses': WHATEVER THE INPUT: true; the input reads as it did. -/
def graphClassesSpec : ChangeSpec := { name := "graphClasses", fn := fun _ => fun
  | [d1, d2] => { results := [.lit (.bool true)], args := [d1, d2] }
  | _ => none }
def graphClassesRow : OpenClaim := { program := "ytdddbjaggfaofaa", sum := "377d5040cfb9be87aa1e0b228930acc556c7545cf5d5c27112836b2bd12fc798", func := "moniker/monikerlaw6.GraphClasses", spec := "graphClasses", unfollowed := true, recurses := true, apart := false }
def GraphClassesSaid : Prop := graphClassesRow.holds Try.pinned (OpenSpec.ofChange graphClassesSpec)

/-- ITS FALSE NEIGHBOUR: 'it returns false'. Refute it at one input. -/
def graphClassesWrong : ChangeSpec := { name := "graphClasses", fn := fun _ => fun
  | [d1, d2] => { results := [.lit (.bool false)], args := [d1, d2] }
  | _ => none }
def GraphClassesWrongFalsely : Prop := graphClassesRow.holds Try.pinned (OpenSpec.ofChange graphClassesWrong)

/-- 'monikerlaw6.GraphParts': WHATEVER THE INPUT: true; the input reads as it did. -/
def graphPartsSpec : ChangeSpec := { name := "graphParts", fn := fun _ => fun
  | [d1, d2] => { results := [.lit (.bool true)], args := [d1, d2] }
  | _ => none }
def graphPartsRow : OpenClaim := { program := "ytdddbjaggfaofaa", sum := "377d5040cfb9be87aa1e0b228930acc556c7545cf5d5c27112836b2bd12fc798", func := "moniker/monikerlaw6.GraphParts", spec := "graphParts", unfollowed := true, recurses := true, apart := false }
def GraphPartsSaid : Prop := graphPartsRow.holds Try.pinned (OpenSpec.ofChange graphPartsSpec)

/-- ITS FALSE NEIGHBOUR: 'it returns false'. Refute it at one input. -/
def graphPartsWrong : ChangeSpec := { name := "graphParts", fn := fun _ => fun
  | [d1, d2] => { results := [.lit (.bool false)], args := [d1, d2] }
  | _ => none }
def GraphPartsWrongFalsely : Prop := graphPartsRow.holds Try.pinned (OpenSpec.ofChange graphPartsWrong)

/-- 'monikerlaw6.GraphTogether': WHATEVER THE INPUT: true; the input reads as it did. -/
def graphTogetherSpec : ChangeSpec := { name := "graphTogether", fn := fun _ => fun
  | [d1, d2, d3, d4] => { results := [.lit (.bool true)], args := [d1, d2, d3, d4] }
  | _ => none }
def graphTogetherRow : OpenClaim := { program := "ytdddbjaggfaofaa", sum := "377d5040cfb9be87aa1e0b228930acc556c7545cf5d5c27112836b2bd12fc798", func := "moniker/monikerlaw6.GraphTogether", spec := "graphTogether", unfollowed := true, recurses := true, apart := false }
def GraphTogetherSaid : Prop := graphTogetherRow.holds Try.pinned (OpenSpec.ofChange graphTogetherSpec)

/-- ITS FALSE NEIGHBOUR: 'it returns false'. Refute it at one input. -/
def graphTogetherWrong : ChangeSpec := { name := "graphTogether", fn := fun _ => fun
  | [d1, d2, d3, d4] => { results := [.lit (.bool false)], args := [d1, d2, d3, d4] }
  | _ => none }
def GraphTogetherWrongFalsely : Prop := graphTogetherRow.holds Try.pinned (OpenSpec.ofChange graphTogetherWrong)

/-- 'monikerlaw6.GraphTied': WHATEVER THE INPUT: true; the input reads as it did. -/
def graphTiedSpec : ChangeSpec := { name := "graphTied", fn := fun _ => fun
  | [d1, d2, d3, d4] => { results := [.lit (.bool true)], args := [d1, d2, d3, d4] }
  | _ => none }
def graphTiedRow : OpenClaim := { program := "ytdddbjaggfaofaa", sum := "377d5040cfb9be87aa1e0b228930acc556c7545cf5d5c27112836b2bd12fc798", func := "moniker/monikerlaw6.GraphTied", spec := "graphTied", unfollowed := true, recurses := true, apart := false }
def GraphTiedSaid : Prop := graphTiedRow.holds Try.pinned (OpenSpec.ofChange graphTiedSpec)

/-- ITS FALSE NEIGHBOUR: 'it returns false'. Refute it at one input. -/
def graphTiedWrong : ChangeSpec := { name := "graphTied", fn := fun _ => fun
  | [d1, d2, d3, d4] => { results := [.lit (.bool false)], args := [d1, d2, d3, d4] }
  | _ => none }
def GraphTiedWrongFalsely : Prop := graphTiedRow.holds Try.pinned (OpenSpec.ofChange graphTiedWrong)

/-- 'monikerlaw6.GraphOrders': WHATEVER THE INPUT: true; the input reads as it did. -/
def graphOrdersSpec : ChangeSpec := { name := "graphOrders", fn := fun _ => fun
  | [d1, d2] => { results := [.lit (.bool true)], args := [d1, d2] }
  | _ => none }
def graphOrdersRow : OpenClaim := { program := "ytdddbjaggfaofaa", sum := "377d5040cfb9be87aa1e0b228930acc556c7545cf5d5c27112836b2bd12fc798", func := "moniker/monikerlaw6.GraphOrders", spec := "graphOrders", unfollowed := true, recurses := true, apart := false }
def GraphOrdersSaid : Prop := graphOrdersRow.holds Try.pinned (OpenSpec.ofChange graphOrdersSpec)

/-- ITS FALSE NEIGHBOUR: 'it returns false'. Refute it at one input. -/
def graphOrdersWrong : ChangeSpec := { name := "graphOrders", fn := fun _ => fun
  | [d1, d2] => { results := [.lit (.bool false)], args := [d1, d2] }
  | _ => none }
def GraphOrdersWrongFalsely : Prop := graphOrdersRow.holds Try.pinned (OpenSpec.ofChange graphOrdersWrong)

/-- 'monikerlaw6.GraphLowest': WHATEVER THE INPUT: true; the input reads as it did. -/
def graphLowestSpec : ChangeSpec := { name := "graphLowest", fn := fun _ => fun
  | [d1, d2] => { results := [.lit (.bool true)], args := [d1, d2] }
  | _ => none }
def graphLowestRow : OpenClaim := { program := "ytdddbjaggfaofaa", sum := "377d5040cfb9be87aa1e0b228930acc556c7545cf5d5c27112836b2bd12fc798", func := "moniker/monikerlaw6.GraphLowest", spec := "graphLowest", unfollowed := true, recurses := true, apart := false }
def GraphLowestSaid : Prop := graphLowestRow.holds Try.pinned (OpenSpec.ofChange graphLowestSpec)

/-- ITS FALSE NEIGHBOUR: 'it returns false'. Refute it at one input. -/
def graphLowestWrong : ChangeSpec := { name := "graphLowest", fn := fun _ => fun
  | [d1, d2] => { results := [.lit (.bool false)], args := [d1, d2] }
  | _ => none }
def GraphLowestWrongFalsely : Prop := graphLowestRow.holds Try.pinned (OpenSpec.ofChange graphLowestWrong)

/-- 'monikerlaw6.GraphWhole': WHATEVER THE INPUT: true; the input reads as it did. -/
def graphWholeSpec : ChangeSpec := { name := "graphWhole", fn := fun _ => fun
  | [d1, d2] => { results := [.lit (.bool true)], args := [d1, d2] }
  | _ => none }
def graphWholeRow : OpenClaim := { program := "ytdddbjaggfaofaa", sum := "377d5040cfb9be87aa1e0b228930acc556c7545cf5d5c27112836b2bd12fc798", func := "moniker/monikerlaw6.GraphWhole", spec := "graphWhole", unfollowed := true, recurses := true, apart := false }
def GraphWholeSaid : Prop := graphWholeRow.holds Try.pinned (OpenSpec.ofChange graphWholeSpec)

/-- ITS FALSE NEIGHBOUR: 'it returns false'. Refute it at one input. -/
def graphWholeWrong : ChangeSpec := { name := "graphWhole", fn := fun _ => fun
  | [d1, d2] => { results := [.lit (.bool false)], args := [d1, d2] }
  | _ => none }
def GraphWholeWrongFalsely : Prop := graphWholeRow.holds Try.pinned (OpenSpec.ofChange graphWholeWrong)

/-- 'monikerlaw6.GraphMore': WHATEVER THE INPUT: true; the input reads as it did. -/
def graphMoreSpec : ChangeSpec := { name := "graphMore", fn := fun _ => fun
  | [d1, d2] => { results := [.lit (.bool true)], args := [d1, d2] }
  | _ => none }
def graphMoreRow : OpenClaim := { program := "ytdddbjaggfaofaa", sum := "377d5040cfb9be87aa1e0b228930acc556c7545cf5d5c27112836b2bd12fc798", func := "moniker/monikerlaw6.GraphMore", spec := "graphMore", unfollowed := true, recurses := true, apart := false }
def GraphMoreSaid : Prop := graphMoreRow.holds Try.pinned (OpenSpec.ofChange graphMoreSpec)

/-- ITS FALSE NEIGHBOUR: 'it returns false'. Refute it at one input. -/
def graphMoreWrong : ChangeSpec := { name := "graphMore", fn := fun _ => fun
  | [d1, d2] => { results := [.lit (.bool false)], args := [d1, d2] }
  | _ => none }
def GraphMoreWrongFalsely : Prop := graphMoreRow.holds Try.pinned (OpenSpec.ofChange graphMoreWrong)

/-- 'monikerlaw6.GraphOwn': WHATEVER THE INPUT: true; the input reads as it did. -/
def graphOwnSpec : ChangeSpec := { name := "graphOwn", fn := fun _ => fun
  | [d1, d2, d3] => { results := [.lit (.bool true)], args := [d1, d2, d3] }
  | _ => none }
def graphOwnRow : OpenClaim := { program := "ytdddbjaggfaofaa", sum := "377d5040cfb9be87aa1e0b228930acc556c7545cf5d5c27112836b2bd12fc798", func := "moniker/monikerlaw6.GraphOwn", spec := "graphOwn", unfollowed := true, recurses := true, apart := false }
def GraphOwnSaid : Prop := graphOwnRow.holds Try.pinned (OpenSpec.ofChange graphOwnSpec)

/-- ITS FALSE NEIGHBOUR: 'it returns false'. Refute it at one input. -/
def graphOwnWrong : ChangeSpec := { name := "graphOwn", fn := fun _ => fun
  | [d1, d2, d3] => { results := [.lit (.bool false)], args := [d1, d2, d3] }
  | _ => none }
def GraphOwnWrongFalsely : Prop := graphOwnRow.holds Try.pinned (OpenSpec.ofChange graphOwnWrong)

/- THE SECOND FORM. 'bulk': how many values and letters a reading holds, each counted each time it is reached (what is shared counts as often as it is met; a slice's spare places count too). A statement '..UptoSaid' is the law's where the arguments, and the package variables that the reading takes, are together of bulk at most 1048576: NARROWER than '..Said'. Prove '..Said' where nothing that the law and all that it calls make is longer than what came in: it says more and counts as full. Else prove '..UptoSaid'. A law counts once. -/
mutual
def uptoBulk {H : Type} : DataW H → Nat
  | .lit (.string bytes) => bytes.length + 1
  | .lit _ => 1
  | .nil => 1
  | .ptr d => uptoBulk d + 1
  | .slice elems spare => uptoBulkAll elems + uptoBulkAll spare + 1
  | .agg parts => uptoBulkAll parts + 1
  | .iface _ d => uptoBulk d + 1
  | .map entries => uptoBulkEntries entries + 1
  | .held _ => 1
def uptoBulkAll {H : Type} : List (DataW H) → Nat
  | [] => 0
  | d :: r => uptoBulk d + uptoBulkAll r
def uptoBulkEntries {H : Type} : List (Lit × DataW H) → Nat
  | [] => 0
  | x :: r => uptoBulkEntry x + uptoBulkEntries r
def uptoBulkEntry {H : Type} : Lit × DataW H → Nat
  | (.string bytes, d) => bytes.length + uptoBulk d + 1
  | (_, d) => uptoBulk d + 1
 end
def uptoSmall : (H : Type) → List (DataW H) → Bool := fun _ ds => decide (uptoBulkAll ds ≤ 1048576)
def OpenSpec.upto (s : _root_.Go.ChangeSpec) : _root_.Go.OpenSpec := { _root_.Go.OpenSpec.ofChange s with cond := some uptoSmall }

/-- 'monikerlaw7.ModulesFolders', WHERE WHAT IT READS IS OF BULK AT MOST 1048576: true; the input reads as it did. -/
def modulesFoldersUptoRow : OpenClaim := { program := "ytdddbjaggfaofaa", sum := "377d5040cfb9be87aa1e0b228930acc556c7545cf5d5c27112836b2bd12fc798", func := "moniker/monikerlaw7.ModulesFolders", spec := "modulesFolders", apart := false, narrowed := true }
def ModulesFoldersUptoSaid : Prop := modulesFoldersUptoRow.holds Try.pinned (OpenSpec.upto modulesFoldersSpec)

/-- 'monikerlaw3.ParserDepths', WHERE WHAT IT READS IS OF BULK AT MOST 1048576: true; the input reads as it did. -/
def parserDepthsUptoRow : OpenClaim := { program := "ytdddbjaggfaofaa", sum := "377d5040cfb9be87aa1e0b228930acc556c7545cf5d5c27112836b2bd12fc798", func := "moniker/monikerlaw3.ParserDepths", spec := "parserDepths", recurses := true, apart := false, narrowed := true }
def ParserDepthsUptoSaid : Prop := parserDepthsUptoRow.holds Try.pinned (OpenSpec.upto parserDepthsSpec)

/-- 'monikerlaw6.GraphReaches', WHERE WHAT IT READS IS OF BULK AT MOST 1048576: true; the input reads as it did. -/
def graphReachesUptoRow : OpenClaim := { program := "ytdddbjaggfaofaa", sum := "377d5040cfb9be87aa1e0b228930acc556c7545cf5d5c27112836b2bd12fc798", func := "moniker/monikerlaw6.GraphReaches", spec := "graphReaches", unfollowed := true, recurses := true, apart := false, narrowed := true }
def GraphReachesUptoSaid : Prop := graphReachesUptoRow.holds Try.pinned (OpenSpec.upto graphReachesSpec)

/-- 'monikerlaw6.GraphClasses', WHERE WHAT IT READS IS OF BULK AT MOST 1048576: true; the input reads as it did. -/
def graphClassesUptoRow : OpenClaim := { program := "ytdddbjaggfaofaa", sum := "377d5040cfb9be87aa1e0b228930acc556c7545cf5d5c27112836b2bd12fc798", func := "moniker/monikerlaw6.GraphClasses", spec := "graphClasses", unfollowed := true, recurses := true, apart := false, narrowed := true }
def GraphClassesUptoSaid : Prop := graphClassesUptoRow.holds Try.pinned (OpenSpec.upto graphClassesSpec)

/-- 'monikerlaw6.GraphParts', WHERE WHAT IT READS IS OF BULK AT MOST 1048576: true; the input reads as it did. -/
def graphPartsUptoRow : OpenClaim := { program := "ytdddbjaggfaofaa", sum := "377d5040cfb9be87aa1e0b228930acc556c7545cf5d5c27112836b2bd12fc798", func := "moniker/monikerlaw6.GraphParts", spec := "graphParts", unfollowed := true, recurses := true, apart := false, narrowed := true }
def GraphPartsUptoSaid : Prop := graphPartsUptoRow.holds Try.pinned (OpenSpec.upto graphPartsSpec)

/-- 'monikerlaw6.GraphTogether', WHERE WHAT IT READS IS OF BULK AT MOST 1048576: true; the input reads as it did. -/
def graphTogetherUptoRow : OpenClaim := { program := "ytdddbjaggfaofaa", sum := "377d5040cfb9be87aa1e0b228930acc556c7545cf5d5c27112836b2bd12fc798", func := "moniker/monikerlaw6.GraphTogether", spec := "graphTogether", unfollowed := true, recurses := true, apart := false, narrowed := true }
def GraphTogetherUptoSaid : Prop := graphTogetherUptoRow.holds Try.pinned (OpenSpec.upto graphTogetherSpec)

/-- 'monikerlaw6.GraphTied', WHERE WHAT IT READS IS OF BULK AT MOST 1048576: true; the input reads as it did. -/
def graphTiedUptoRow : OpenClaim := { program := "ytdddbjaggfaofaa", sum := "377d5040cfb9be87aa1e0b228930acc556c7545cf5d5c27112836b2bd12fc798", func := "moniker/monikerlaw6.GraphTied", spec := "graphTied", unfollowed := true, recurses := true, apart := false, narrowed := true }
def GraphTiedUptoSaid : Prop := graphTiedUptoRow.holds Try.pinned (OpenSpec.upto graphTiedSpec)

/-- 'monikerlaw6.GraphOrders', WHERE WHAT IT READS IS OF BULK AT MOST 1048576: true; the input reads as it did. -/
def graphOrdersUptoRow : OpenClaim := { program := "ytdddbjaggfaofaa", sum := "377d5040cfb9be87aa1e0b228930acc556c7545cf5d5c27112836b2bd12fc798", func := "moniker/monikerlaw6.GraphOrders", spec := "graphOrders", unfollowed := true, recurses := true, apart := false, narrowed := true }
def GraphOrdersUptoSaid : Prop := graphOrdersUptoRow.holds Try.pinned (OpenSpec.upto graphOrdersSpec)

/-- 'monikerlaw6.GraphLowest', WHERE WHAT IT READS IS OF BULK AT MOST 1048576: true; the input reads as it did. -/
def graphLowestUptoRow : OpenClaim := { program := "ytdddbjaggfaofaa", sum := "377d5040cfb9be87aa1e0b228930acc556c7545cf5d5c27112836b2bd12fc798", func := "moniker/monikerlaw6.GraphLowest", spec := "graphLowest", unfollowed := true, recurses := true, apart := false, narrowed := true }
def GraphLowestUptoSaid : Prop := graphLowestUptoRow.holds Try.pinned (OpenSpec.upto graphLowestSpec)

/-- 'monikerlaw6.GraphWhole', WHERE WHAT IT READS IS OF BULK AT MOST 1048576: true; the input reads as it did. -/
def graphWholeUptoRow : OpenClaim := { program := "ytdddbjaggfaofaa", sum := "377d5040cfb9be87aa1e0b228930acc556c7545cf5d5c27112836b2bd12fc798", func := "moniker/monikerlaw6.GraphWhole", spec := "graphWhole", unfollowed := true, recurses := true, apart := false, narrowed := true }
def GraphWholeUptoSaid : Prop := graphWholeUptoRow.holds Try.pinned (OpenSpec.upto graphWholeSpec)

/-- 'monikerlaw6.GraphMore', WHERE WHAT IT READS IS OF BULK AT MOST 1048576: true; the input reads as it did. -/
def graphMoreUptoRow : OpenClaim := { program := "ytdddbjaggfaofaa", sum := "377d5040cfb9be87aa1e0b228930acc556c7545cf5d5c27112836b2bd12fc798", func := "moniker/monikerlaw6.GraphMore", spec := "graphMore", unfollowed := true, recurses := true, apart := false, narrowed := true }
def GraphMoreUptoSaid : Prop := graphMoreUptoRow.holds Try.pinned (OpenSpec.upto graphMoreSpec)

/-- 'monikerlaw6.GraphOwn', WHERE WHAT IT READS IS OF BULK AT MOST 1048576: true; the input reads as it did. -/
def graphOwnUptoRow : OpenClaim := { program := "ytdddbjaggfaofaa", sum := "377d5040cfb9be87aa1e0b228930acc556c7545cf5d5c27112836b2bd12fc798", func := "moniker/monikerlaw6.GraphOwn", spec := "graphOwn", unfollowed := true, recurses := true, apart := false, narrowed := true }
def GraphOwnUptoSaid : Prop := graphOwnUptoRow.holds Try.pinned (OpenSpec.upto graphOwnSpec)

end Rows
end Go.Proofs.Ytdddbjaggfaofaa
