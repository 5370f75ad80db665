/- The card of annalistlaw35.CopiesNone: it answers true at every text. Conditions: the listed variables of utf8 are laid as the program's text lays them (the card ties them). -/
import Derived.Test.YtamlhndibcafgaaGreatDoorCopNone
import Derived.Test.YtamlhndibcafgaaGreatDoorCopFacts
namespace Go.Proofs.YtamlhndibcafgaaGreatDoor
open Go.ChangeShapes Go.WideShapes Go.ChangeAt Go.RowKit Go.MapKept
theorem cn_wrap : Tryz.f4.isWrapper Tryz.pinned.checked.prog Rows.copiesNoneRow.wrapper Rows.copiesNoneRow.mainSum := by
  unfold Func.isWrapper; first | (rw [if_pos (by decide +kernel)]; kernel_rfl) | (rw [if_neg (by decide +kernel)]; exact ⟨rfl, rfl⟩)
theorem cn_inst : Tryz.f4.isInstance Tryz.pinned.checked.prog Rows.copiesNoneRow.origin Rows.copiesNoneRow.targs := of_decide_eq_true (by kernel_rfl)
theorem cn_holds : Rows.CopiesNoneSaid :=
  OpenClaim.holds_of_wide 4 Tryz.f4 rfl rfl rfl rfl rfl rfl rfl ⟨rfl, rfl, rfl, rfl, rfl⟩ rfl rfl rfl rfl rfl cn_named Tryz.func4 cn_closed
    cn_inst cn_wrap (fun os started H enc _ => cn_lifted os started H enc)
theorem copiesNone_card_holds : Rows.CopiesNoneCardSaid :=
  Claim7.holds_tied_plain_at .later [] [.data, .pinned] true (true, "cbba40256c2b729c8a1f8e0ff952a4ba9fea256a4d3646d09b7be1bf1c7b9121") true cn_holds (fun _ h => by cases h) (by kernel_rfl) (fun _ h => by cases h) copiesNone_row_tie rfl ⟨rfl, rfl⟩ (by kernel_rfl) rfl
    (fun f fn hf hfn => by
      obtain rfl : f = 4 := Option.some.inj ((show Tryz.prog.funcNamed "annalist/annalistlaw35.CopiesNone" = some 4 by kernel_rfl).symm.trans hf) |>.symm
      obtain rfl : fn = Tryz.f4 := (Option.some.inj (Tryz.func4.symm.trans hfn)).symm
      exact ⟨by kernel_rfl, fun j t ht => by
        rw [Tryz.params4] at ht
        have hm : t ∈ [9] := by simpa using Array.mem_of_getElem? ht
        have hall : ([9].all fun u => !Tryz.prog.wantsStandIn u) = true := by kernel_rfl
        exact (show Tryz.prog.wantsStandIn t = false by simpa using List.all_eq_true.1 hall t hm)⟩)
    (by kernel_rfl)
#print axioms copiesNone_card_holds
end Go.Proofs.YtamlhndibcafgaaGreatDoor
