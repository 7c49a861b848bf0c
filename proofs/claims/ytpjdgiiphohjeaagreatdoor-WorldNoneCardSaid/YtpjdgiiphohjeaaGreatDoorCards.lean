/-
  DERIVED. GIVEN WITH THE SEED: THE CARDS: each row of YtpjdgiiphohjeaaGreatDoorRows.lean that lists a variable, with what it lists TIED to the program's text (the seventh form; the later family's looks); each row that meets fmt, with fmt's text TOLD by the authors' own Lean function (tested against real Go, not proved from fmt's source: count such statements apart). THE CARD IS WHAT COUNTS. Prove the row's statement (the work); the ties are given (YtpjdgiiphohjeaaGreatDoorTie.lean); close each card by the builder's one call (the guide's Derived/Test/ToyasCard.lean, 'card_holds'). Laid BY PROGRAM, IN A SANDBOX (cutbox-door.mjs). By AI agents, Wed Nov 11 2026. No macro, syntax, notation, axiom, sorry.
-/
import Derived.Test.YtpjdgiiphohjeaaGreatDoorRows
import GoSem.ClaimSeven
namespace Go.Proofs.YtpjdgiiphohjeaaGreatDoor
namespace Rows

/-- THE TIED CARD OF 'coxswainlaw29.KernSleeps'. -/
def kernSleepsCard : Claim7 := { stood := { row := kernSleepsRow, standIns := [], harness := (true, "c291b547914388d1f0c84dc22dd48d0a99cbccd33f04c3c68296b4f87558c577"), looks := true }, kinds := [], alts := [], laidByText := true, laidKinds := [.data, .pinned], laidTests := true, laidLooks := .later }
def KernSleepsCardSaid : Prop := Claim7.holds Tryz.pinned (.plain (OpenSpec.ofChange kernSleepsSpec)) kernSleepsCard

/-- THE TIED CARD OF 'coxswainlaw29.KernWaits'. -/
def kernWaitsCard : Claim7 := { stood := { row := kernWaitsRow, standIns := [], harness := (true, "c291b547914388d1f0c84dc22dd48d0a99cbccd33f04c3c68296b4f87558c577"), looks := true }, kinds := [], alts := [], laidByText := true, laidKinds := [.data, .pinned], laidTests := true, laidLooks := .later }
def KernWaitsCardSaid : Prop := Claim7.holds Tryz.pinned (.plain (OpenSpec.ofChange kernWaitsSpec)) kernWaitsCard

/-- THE TIED CARD OF 'coxswainlaw29.KernNone'. -/
def kernNoneCard : Claim7 := { stood := { row := kernNoneRow, standIns := [], harness := (true, "c291b547914388d1f0c84dc22dd48d0a99cbccd33f04c3c68296b4f87558c577"), looks := true }, kinds := [], alts := [], laidByText := true, laidKinds := [.data, .pinned], laidTests := true, laidLooks := .later }
def KernNoneCardSaid : Prop := Claim7.holds Tryz.pinned (.plain (OpenSpec.ofChange kernNoneSpec)) kernNoneCard

/-- THE TIED CARD OF 'coxswainlaw30.WorldNone'. -/
def worldNoneCard : Claim7 := { stood := { row := worldNoneRow, standIns := [], harness := (true, "c291b547914388d1f0c84dc22dd48d0a99cbccd33f04c3c68296b4f87558c577"), looks := true }, kinds := [], alts := [], laidByText := true, laidKinds := [.data, .pinned], laidTests := true, laidLooks := .later }
def WorldNoneCardSaid : Prop := Claim7.holds Tryz.pinned (.plain (OpenSpec.ofChange worldNoneSpec)) worldNoneCard

/-- THE SECOND FORM's CARD OF 'coxswainlaw29.KernSleeps'. -/
def kernSleepsUptoCard : Claim7 := { stood := { row := kernSleepsUptoRow, standIns := [], harness := (true, "c291b547914388d1f0c84dc22dd48d0a99cbccd33f04c3c68296b4f87558c577"), looks := true }, kinds := [], alts := [], laidByText := true, laidKinds := [.data, .pinned], laidTests := true, laidLooks := .later }
def KernSleepsUptoCardSaid : Prop := Claim7.holds Tryz.pinned (.plain (OpenSpec.upto kernSleepsSpec)) kernSleepsUptoCard

/-- THE SECOND FORM's CARD OF 'coxswainlaw29.KernWaits'. -/
def kernWaitsUptoCard : Claim7 := { stood := { row := kernWaitsUptoRow, standIns := [], harness := (true, "c291b547914388d1f0c84dc22dd48d0a99cbccd33f04c3c68296b4f87558c577"), looks := true }, kinds := [], alts := [], laidByText := true, laidKinds := [.data, .pinned], laidTests := true, laidLooks := .later }
def KernWaitsUptoCardSaid : Prop := Claim7.holds Tryz.pinned (.plain (OpenSpec.upto kernWaitsSpec)) kernWaitsUptoCard

/-- THE SECOND FORM's CARD OF 'coxswainlaw29.KernNone'. -/
def kernNoneUptoCard : Claim7 := { stood := { row := kernNoneUptoRow, standIns := [], harness := (true, "c291b547914388d1f0c84dc22dd48d0a99cbccd33f04c3c68296b4f87558c577"), looks := true }, kinds := [], alts := [], laidByText := true, laidKinds := [.data, .pinned], laidTests := true, laidLooks := .later }
def KernNoneUptoCardSaid : Prop := Claim7.holds Tryz.pinned (.plain (OpenSpec.upto kernNoneSpec)) kernNoneUptoCard

/-- THE SECOND FORM's CARD OF 'coxswainlaw30.WorldNone'. -/
def worldNoneUptoCard : Claim7 := { stood := { row := worldNoneUptoRow, standIns := [], harness := (true, "c291b547914388d1f0c84dc22dd48d0a99cbccd33f04c3c68296b4f87558c577"), looks := true }, kinds := [], alts := [], laidByText := true, laidKinds := [.data, .pinned], laidTests := true, laidLooks := .later }
def WorldNoneUptoCardSaid : Prop := Claim7.holds Tryz.pinned (.plain (OpenSpec.upto worldNoneSpec)) worldNoneUptoCard
end Rows
end Go.Proofs.YtpjdgiiphohjeaaGreatDoor
