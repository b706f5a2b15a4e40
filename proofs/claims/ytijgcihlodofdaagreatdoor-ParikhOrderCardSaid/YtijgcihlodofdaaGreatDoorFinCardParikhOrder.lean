/- PROVED HERE: Rows.ParikhOrderCardSaid: evermorekeep.ParikhOrder returns true for every input, and the input reads as it did; the listed variables are tied to the program's text. No condition. -/
import Derived.Test.YtijgcihlodofdaaGreatDoorCards
import Derived.Test.YtijgcihlodofdaaGreatDoorTie
import Derived.SevenTiedAt
import Derived.Test.YtijgcihlodofdaaGreatDoorPackCardParikhOrder7
namespace Go.Proofs.YtijgcihlodofdaaGreatDoor.cardParikhOrder
open Go Go.RowKit
set_option linter.unusedSimpArgs false
set_option linter.unusedVariables false
set_option maxRecDepth 100000

theorem proved : Rows.ParikhOrderCardSaid :=
  Claim7.holds_tied_plain_at .later [] [.data, .data, .data, .data, .data, .data, .data] true (true, "b5d6fbf33626717ee81d54873558e9bf330cbea5a87bbc6f9b5fc60e68cf274c") true
    parikhOrder.proved (fun _ h => by cases h) (by kernel_rfl) (fun _ h => by cases h) parikhOrder_row_tie rfl ⟨rfl, rfl⟩ (by kernel_rfl) rfl
    (fun f fn hf hfn => by
      obtain rfl : f = 3 := Option.some.inj ((show Tryz.prog.funcNamed "evermore/evermorekeep.ParikhOrder" = some 3 by kernel_rfl).symm.trans hf) |>.symm
      obtain rfl : fn = Tryz.f3 := (Option.some.inj (Tryz.func3.symm.trans hfn)).symm
      exact ⟨by kernel_rfl, fun j t ht => by
        rw [Tryz.params3] at ht
        have h3 : t ∈ Tryz.f3.params.toList := by
          rw [Tryz.params3]
          simpa using Array.mem_of_getElem? ht
        have hall : (Tryz.f3.params.toList.all fun u => !Tryz.prog.wantsStandIn u) = true := by kernel_rfl
        exact (show Tryz.prog.wantsStandIn t = false by simpa using List.all_eq_true.1 hall t h3)⟩)
    (by kernel_rfl)
#print axioms proved
end Go.Proofs.YtijgcihlodofdaaGreatDoor.cardParikhOrder
