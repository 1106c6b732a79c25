/- PROVED: colonnadelaw15.VmNone returns true at every batch, and the batch reads behind the call as it read before. CONDITIONS: the seven listed tables and errors of the library start as the text lays them (the card ties them); the call enters in whatever heap; recursion and calls through function values are as the row says. -/
import Derived.Test.YtdldbhjhejdhdaaGreatDoorRows
import Derived.Test.YtdldbhjhejdhdaaGreatDoorCards
import Derived.Test.YtdldbhjhejdhdaaGreatDoorTie
import Derived.Test.YtdldbhjhejdhdaaGreatDoorVaRowW
import Derived.Test.YtdldbhjhejdhdaaGreatDoorVaFacts
import Derived.ProofKit
import Derived.LaidMore
import Derived.Lay
import Derived.OpenShut
import Derived.SevenTiedAt
import Derived.Stop.Joined
namespace Go.Proofs.YtdldbhjhejdhdaaGreatDoor
open Go Go.ChangeShapes Go.WideShapes Go.ChangeAt Go.RowKit

theorem vmNone_holds : Rows.VmNoneSaid :=
  OpenClaim.holds_of_wide 7 Tryz.f7 rfl rfl rfl rfl rfl rfl rfl ⟨rfl, rfl, rfl, rfl, rfl⟩ rfl rfl rfl rfl rfl vmNone_named Tryz.func7 vmNone_facts
    (of_decide_eq_true (by kernel_rfl)) (by unfold Func.isWrapper; first | (rw [if_pos (by decide +kernel)]; kernel_rfl) | (rw [if_neg (by decide +kernel)]; exact ⟨rfl, rfl⟩))
    (fun os started H enc _ => vmNone_lifted os started H enc)

theorem vmNone_card : Rows.VmNoneCardSaid :=
  Claim7.holds_tied_plain_at .later [] [.data, .data, .data, .data, .sentinel, .sentinel, .pinned] true (true, "6f0175de8835b4dfeb0f7c4b137acc800d808d818b5879cb21edb4c300f61d8d") true vmNone_holds (fun _ h => by cases h) (by kernel_rfl) (fun _ h => by cases h) vmNone_row_tie rfl ⟨rfl, rfl⟩ (by kernel_rfl) rfl
    (fun f fn hf hfn => by
      obtain rfl : f = 7 := Option.some.inj ((show Tryz.prog.funcNamed "colonnade/colonnadelaw15.VmNone" = some 7 by kernel_rfl).symm.trans hf) |>.symm
      obtain rfl : fn = Tryz.f7 := (Option.some.inj (Tryz.func7.symm.trans hfn)).symm
      exact ⟨by kernel_rfl, fun j t ht => by
        rw [Tryz.params7] at ht
        have hm : t ∈ [33] := by simpa using Array.mem_of_getElem? ht
        have hall : ([33].all fun u => !Tryz.prog.wantsStandIn u) = true := by kernel_rfl
        exact (show Tryz.prog.wantsStandIn t = false by simpa using List.all_eq_true.1 hall t hm)⟩)
    (by kernel_rfl)
#print axioms vmNone_card
end Go.Proofs.YtdldbhjhejdhdaaGreatDoor
