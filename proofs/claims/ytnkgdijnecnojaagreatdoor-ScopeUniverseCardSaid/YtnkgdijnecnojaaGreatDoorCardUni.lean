/- The tied card of ScopeUniverse: the two lists tied to the program's text. -/
import Derived.Test.YtnkgdijnecnojaaGreatDoorLawUni
import Derived.Test.YtnkgdijnecnojaaGreatDoorTie
import Derived.Test.YtnkgdijnecnojaaGreatDoorCards
import Derived.SevenTiedAt
namespace Go.Proofs.YtnkgdijnecnojaaGreatDoor
open Go
set_option maxRecDepth 100000
theorem scopeUniverse_card_holds : Rows.ScopeUniverseCardSaid :=
  Claim7.holds_tied_plain_at .later [] [.data, .widerDeep] true (true, "294d663b197708aff4a7dda4ccc2f92e32394f30acc3c08017b73d17ae53d3fa") false
    Uni.row_holds (fun _ h => by cases h) (by kernel_rfl) (fun _ h => by cases h) scopeUniverse_row_tie rfl ⟨rfl, rfl⟩ (by kernel_rfl) rfl
    (fun f fn hf hfn => by
      obtain rfl : f = 3 := Option.some.inj ((show Tryz.prog.funcNamed "moniker/monikerlaw9.ScopeUniverse" = some 3 by kernel_rfl).symm.trans hf) |>.symm
      obtain rfl : fn = Tryz.f3 := (Option.some.inj (Tryz.func3.symm.trans hfn)).symm
      exact ⟨by kernel_rfl, fun j t ht => by
        rw [Tryz.params3] at ht
        have hm : t ∈ [9, 23] := by simpa using Array.mem_of_getElem? ht
        have hall : ([9, 23].all fun u => !Tryz.prog.wantsStandIn u) = true := by kernel_rfl
        exact (show Tryz.prog.wantsStandIn t = false by simpa using List.all_eq_true.1 hall t hm)⟩)
    (by kernel_rfl)
#print axioms scopeUniverse_card_holds
end Go.Proofs.YtnkgdijnecnojaaGreatDoor
