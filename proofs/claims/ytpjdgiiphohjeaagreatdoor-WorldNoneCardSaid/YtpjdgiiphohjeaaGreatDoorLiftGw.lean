import Derived.Test.YtpjdgiiphohjeaaGreatDoorTie
import Derived.Test.YtpjdgiiphohjeaaGreatDoorCards
import Derived.ProofKit
import Derived.OpenShut
import Derived.LaidMore
import Derived.Lay
import Derived.SevenTiedAt
import Derived.Stop.Joined
import Derived.Carry
/-! The closed facts of a card, one by one. -/
namespace Go.Proofs.YtpjdgiiphohjeaaGreatDoor
open Go.ChangeShapes Go.WideShapes Go.ChangeAt Go.RowKit
theorem card_wf : Rows.worldNoneRow.wfByText (OpenSpec.ofChange Rows.worldNoneSpec) = true := by kernel_rfl
theorem card_main : Tryz.prog.mainIs = some (true, "c291b547914388d1f0c84dc22dd48d0a99cbccd33f04c3c68296b4f87558c577".toList) := by kernel_rfl
theorem card_named : Tryz.prog.funcNamed "coxswain/coxswainlaw30.WorldNone" = some 6 := by kernel_rfl
theorem card_looks : true = Tryz.prog.looks [] := by kernel_rfl
theorem card_stand : ([40, 3].all fun u => !Tryz.prog.wantsStandIn u) = true := by kernel_rfl
theorem funcs_goes : Tryz.prog.funcs.any Func.goes = false := by kernel_rfl
theorem goes_none (f : FuncId) : Tryz.prog.goes f = false := by
  unfold Program.goes
  rw [Bool.or_eq_false_iff]
  refine ⟨?_, by rw [funcs_goes, Bool.and_false]⟩
  rw [Bool.eq_false_iff]
  intro h
  have hall := Array.any_eq_false'.1 funcs_goes
  simp only [List.any_eq_true] at h
  obtain ⟨g, _, hg⟩ := h
  cases hf : Tryz.prog.funcs[g]? with
  | none => rw [hf] at hg; cases hg
  | some fn =>
    rw [hf] at hg
    exact hall fn (Array.mem_of_getElem? hf) hg
theorem card_goes : false = Rows.worldNoneRow.goesBy Tryz.prog := by
  have h1 : Rows.worldNoneRow.func = "coxswain/coxswainlaw30.WorldNone" := rfl
  have h2 : Rows.worldNoneRow.start = .entering := rfl
  unfold OpenClaim.goesBy Program.goesAt Program.goesFrom
  rw [h1, h2, card_named]
  simp only [Option.any_some, goes_none, Bool.or_false]
theorem row_instance : Tryz.f6.isInstance Tryz.prog Rows.worldNoneRow.origin Rows.worldNoneRow.targs := of_decide_eq_true (by kernel_rfl)
theorem row_wrapper : Tryz.f6.isWrapper Tryz.prog Rows.worldNoneRow.wrapper Rows.worldNoneRow.mainSum := by unfold Func.isWrapper; first | (rw [if_pos (by decide +kernel)]; kernel_rfl) | (rw [if_neg (by decide +kernel)]; exact ⟨rfl, rfl⟩)
end Go.Proofs.YtpjdgiiphohjeaaGreatDoor
