import Derived.Test.YtpjdgiiphohjeaaGreatDoorTie
import Derived.Test.YtpjdgiiphohjeaaGreatDoorCards
import Derived.ProofKit
import Derived.OpenShut
import Derived.LaidMore
import Derived.Lay
import Derived.SevenTiedAt
import Derived.Stop.Joined
import Derived.Carry
/-! The closed facts of a row, one by one. -/
namespace Go.Proofs.YtpjdgiiphohjeaaGreatDoor
open Go.ChangeShapes Go.WideShapes Go.ChangeAt Go.RowKit
theorem and_t {a b : Bool} (h : a = true) (h' : b = true) : (a && b) = true := by rw [h, h']; rfl
theorem lf0 : (Rows.kernNoneRow.wf (OpenSpec.ofChange Rows.kernNoneSpec)) = true := by kernel_rfl
theorem lf1 : (laidOutB Tryz.prog) = true := by kernel_rfl
theorem lf2 : (mapsRowed Tryz.prog) = true := by kernel_rfl
theorem lf3 : (Tryz.f5.params.all (Tryz.prog.readableRec ·)) = true := by kernel_rfl
theorem lf4 : (namedTie Tryz.prog Rows.kernNoneRow.named Rows.kernNoneSpec.vars) = true := by kernel_rfl
theorem lf5 : ((Rows.kernNoneRow.stops == [])) = true := by kernel_rfl
theorem lf6 : ((Tryz.prog.stops == [])) = true := by kernel_rfl
theorem lf7 : ((Rows.kernNoneRow.knobs == [])) = true := by kernel_rfl
theorem lf8 : ((Tryz.prog.stopKnobs == [])) = true := by kernel_rfl
theorem lf9 : ((Rows.kernNoneRow.inPlace == Tryz.prog.inPlace 5)) = true := by kernel_rfl
theorem lf10 : ((Rows.kernNoneRow.unfollowed == Tryz.prog.unfollowed 5)) = true := by kernel_rfl
theorem lf11 : ((Rows.kernNoneRow.recurses == Tryz.prog.recurses 5)) = true := by kernel_rfl
theorem lf12 : ((Rows.kernNoneRow.named == Tryz.prog.varsNamed 5)) = true := by kernel_rfl
theorem lf13 : ((Rows.kernNoneRow.maps == (Tryz.f5.params.toList ++ Rows.kernNoneSpec.plain.varTypes Tryz.prog).any (Tryz.prog.mapsRec ·))) = true := by kernel_rfl
theorem lf14 : ((Rows.kernNoneRow.ifaces == (Tryz.f5.params.toList ++ Rows.kernNoneSpec.plain.varTypes Tryz.prog).any (Tryz.prog.ifacesRec ·))) = true := by kernel_rfl
theorem lf15 : ((Rows.kernNoneRow.mapsOut == Tryz.prog.mapsAmong Tryz.f5.resultTypes.toList)) = true := by kernel_rfl
theorem lf16 : ((Rows.kernNoneRow.loops == (Tryz.f5.params.toList ++ Rows.kernNoneSpec.plain.varTypes Tryz.prog).any (Tryz.prog.loopsFrom ·))) = true := by kernel_rfl
theorem lf17 : ((Rows.kernNoneRow.wideKeys == (Tryz.f5.params.toList ++ Rows.kernNoneSpec.plain.varTypes Tryz.prog ++ Tryz.f5.resultTypes.toList).any (Tryz.prog.wideKeysFrom ·))) = true := by kernel_rfl
theorem lf18 : (Rows.kernNoneSpec.vars.all (Tryz.prog.varReadable ·)) = true := by kernel_rfl
theorem lf19 : (Tryz.f5.resultTypes.all (fun t => Tryz.prog.readableRec t && decide (t < Tryz.prog.types.size))) = true := by kernel_rfl
theorem lf20 : ((Rows.kernNoneRow.ifacesOut == Tryz.f5.resultTypes.toList.any (Tryz.prog.ifacesRec ·))) = true := by kernel_rfl
theorem lf21 : ((Rows.kernNoneRow.loopsOut == Tryz.f5.resultTypes.toList.any (Tryz.prog.loopsFrom ·))) = true := by kernel_rfl
theorem lf22 : ((Rows.kernNoneRow.plainKeys == Tryz.prog.plainKeys)) = true := by kernel_rfl
theorem lf23 : (Rows.kernNoneRow.shortTexts.isNone) = true := by kernel_rfl
theorem lf24 : (Tryz.prog.stopsHeard) = true := by kernel_rfl
theorem lf25 : (Tryz.prog.mayEnter) = true := by kernel_rfl
theorem lf26 : ((Rows.kernNoneRow.lifted == Tryz.prog.liftsFinal)) = true := by kernel_rfl
theorem lf27 : ((Tryz.prog.make == some Rows.kernNoneRow.make)) = true := by kernel_rfl
theorem lf28 : ((Rows.kernNoneRow.kinds == (if Rows.kernNoneRow.domain.isEmpty then [] else Tryz.f5.params.toList.map fun t => match Tryz.prog.underlying t with | some (.int k) => some k | _ => none))) = true := by kernel_rfl
theorem lf29 : ((Rows.kernNoneRow.pinned == Rows.kernNoneRow.pinnedBy)) = true := by kernel_rfl
theorem lf30 : ((Rows.kernNoneRow.veiled == (Tryz.f5.params.toList ++ Rows.kernNoneSpec.plain.varTypes Tryz.prog ++ Tryz.f5.resultTypes.toList).any (Tryz.prog.veiledRec ·))) = true := by kernel_rfl
theorem lf31 : (Rows.kernNoneRow.veiledFits Tryz.prog Tryz.f5.params.toList (Tryz.f5.params.toList ++ Rows.kernNoneSpec.plain.varTypes Tryz.prog ++ Tryz.f5.resultTypes.toList)) = true := by kernel_rfl
set_option maxRecDepth 100000 in
theorem row_facts : joinedFacts Tryz.prog 5 Tryz.f5 Rows.kernNoneSpec Rows.kernNoneRow = true := by
  unfold joinedFacts
  exact (and_t (and_t (and_t (and_t (and_t (and_t (and_t (and_t (and_t (and_t (and_t (and_t (and_t (and_t (and_t (and_t (and_t (and_t (and_t (and_t (and_t (and_t (and_t (and_t (and_t (and_t (and_t (and_t (and_t (and_t (and_t lf0 lf1) lf2) lf3) lf4) lf5) lf6) lf7) lf8) lf9) lf10) lf11) lf12) lf13) lf14) lf15) lf16) lf17) lf18) lf19) lf20) lf21) lf22) lf23) lf24) lf25) lf26) lf27) lf28) lf29) lf30) lf31)
end Go.Proofs.YtpjdgiiphohjeaaGreatDoor
