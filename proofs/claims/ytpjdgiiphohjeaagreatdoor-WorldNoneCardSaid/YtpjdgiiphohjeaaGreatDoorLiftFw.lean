import Derived.Test.YtpjdgiiphohjeaaGreatDoorTie
import Derived.Test.YtpjdgiiphohjeaaGreatDoorCards
import Derived.ProofKit
import Derived.OpenShut
import Derived.LaidMore
import Derived.Lay
import Derived.SevenTiedAt
import Derived.Stop.Joined
import Derived.Carry
/-! The closed facts of a row, one by one. -/
namespace Go.Proofs.YtpjdgiiphohjeaaGreatDoor
open Go.ChangeShapes Go.WideShapes Go.ChangeAt Go.RowKit
theorem and_t {a b : Bool} (h : a = true) (h' : b = true) : (a && b) = true := by rw [h, h']; rfl
theorem lf0 : (Rows.worldNoneRow.wf (OpenSpec.ofChange Rows.worldNoneSpec)) = true := by kernel_rfl
theorem lf1 : (laidOutB Tryz.prog) = true := by kernel_rfl
theorem lf2 : (mapsRowed Tryz.prog) = true := by kernel_rfl
theorem lf3 : (Tryz.f6.params.all (Tryz.prog.readableRec ·)) = true := by kernel_rfl
theorem lf4 : (namedTie Tryz.prog Rows.worldNoneRow.named Rows.worldNoneSpec.vars) = true := by kernel_rfl
theorem lf5 : ((Rows.worldNoneRow.stops == [])) = true := by kernel_rfl
theorem lf6 : ((Tryz.prog.stops == [])) = true := by kernel_rfl
theorem lf7 : ((Rows.worldNoneRow.knobs == [])) = true := by kernel_rfl
theorem lf8 : ((Tryz.prog.stopKnobs == [])) = true := by kernel_rfl
theorem lf9 : ((Rows.worldNoneRow.inPlace == Tryz.prog.inPlace 6)) = true := by kernel_rfl
theorem lf10 : ((Rows.worldNoneRow.unfollowed == Tryz.prog.unfollowed 6)) = true := by kernel_rfl
theorem lf11 : ((Rows.worldNoneRow.recurses == Tryz.prog.recurses 6)) = true := by kernel_rfl
theorem lf12 : ((Rows.worldNoneRow.named == Tryz.prog.varsNamed 6)) = true := by kernel_rfl
theorem lf13 : ((Rows.worldNoneRow.maps == (Tryz.f6.params.toList ++ Rows.worldNoneSpec.plain.varTypes Tryz.prog).any (Tryz.prog.mapsRec ·))) = true := by kernel_rfl
theorem lf14 : ((Rows.worldNoneRow.ifaces == (Tryz.f6.params.toList ++ Rows.worldNoneSpec.plain.varTypes Tryz.prog).any (Tryz.prog.ifacesRec ·))) = true := by kernel_rfl
theorem lf15 : ((Rows.worldNoneRow.mapsOut == Tryz.prog.mapsAmong Tryz.f6.resultTypes.toList)) = true := by kernel_rfl
theorem lf16 : ((Rows.worldNoneRow.loops == (Tryz.f6.params.toList ++ Rows.worldNoneSpec.plain.varTypes Tryz.prog).any (Tryz.prog.loopsFrom ·))) = true := by kernel_rfl
theorem lf17 : ((Rows.worldNoneRow.wideKeys == (Tryz.f6.params.toList ++ Rows.worldNoneSpec.plain.varTypes Tryz.prog ++ Tryz.f6.resultTypes.toList).any (Tryz.prog.wideKeysFrom ·))) = true := by kernel_rfl
theorem lf18 : (Rows.worldNoneSpec.vars.all (Tryz.prog.varReadable ·)) = true := by kernel_rfl
theorem lf19 : (Tryz.f6.resultTypes.all (fun t => Tryz.prog.readableRec t && decide (t < Tryz.prog.types.size))) = true := by kernel_rfl
theorem lf20 : ((Rows.worldNoneRow.ifacesOut == Tryz.f6.resultTypes.toList.any (Tryz.prog.ifacesRec ·))) = true := by kernel_rfl
theorem lf21 : ((Rows.worldNoneRow.loopsOut == Tryz.f6.resultTypes.toList.any (Tryz.prog.loopsFrom ·))) = true := by kernel_rfl
theorem lf22 : ((Rows.worldNoneRow.plainKeys == Tryz.prog.plainKeys)) = true := by kernel_rfl
theorem lf23 : (Rows.worldNoneRow.shortTexts.isNone) = true := by kernel_rfl
theorem lf24 : (Tryz.prog.stopsHeard) = true := by kernel_rfl
theorem lf25 : (Tryz.prog.mayEnter) = true := by kernel_rfl
theorem lf26 : ((Rows.worldNoneRow.lifted == Tryz.prog.liftsFinal)) = true := by kernel_rfl
theorem lf27 : ((Tryz.prog.make == some Rows.worldNoneRow.make)) = true := by kernel_rfl
theorem lf28 : ((Rows.worldNoneRow.kinds == (if Rows.worldNoneRow.domain.isEmpty then [] else Tryz.f6.params.toList.map fun t => match Tryz.prog.underlying t with | some (.int k) => some k | _ => none))) = true := by kernel_rfl
theorem lf29 : ((Rows.worldNoneRow.pinned == Rows.worldNoneRow.pinnedBy)) = true := by kernel_rfl
theorem lf30 : ((Rows.worldNoneRow.veiled == (Tryz.f6.params.toList ++ Rows.worldNoneSpec.plain.varTypes Tryz.prog ++ Tryz.f6.resultTypes.toList).any (Tryz.prog.veiledRec ·))) = true := by kernel_rfl
theorem lf31 : (Rows.worldNoneRow.veiledFits Tryz.prog Tryz.f6.params.toList (Tryz.f6.params.toList ++ Rows.worldNoneSpec.plain.varTypes Tryz.prog ++ Tryz.f6.resultTypes.toList)) = true := by kernel_rfl
set_option maxRecDepth 100000 in
theorem row_facts : joinedFacts Tryz.prog 6 Tryz.f6 Rows.worldNoneSpec Rows.worldNoneRow = true := by
  unfold joinedFacts
  exact (and_t (and_t (and_t (and_t (and_t (and_t (and_t (and_t (and_t (and_t (and_t (and_t (and_t (and_t (and_t (and_t (and_t (and_t (and_t (and_t (and_t (and_t (and_t (and_t (and_t (and_t (and_t (and_t (and_t (and_t (and_t lf0 lf1) lf2) lf3) lf4) lf5) lf6) lf7) lf8) lf9) lf10) lf11) lf12) lf13) lf14) lf15) lf16) lf17) lf18) lf19) lf20) lf21) lf22) lf23) lf24) lf25) lf26) lf27) lf28) lf29) lf30) lf31)
end Go.Proofs.YtpjdgiiphohjeaaGreatDoor
