/- KernNone: of no kernel each call says so, at every list of events; under the row's own conditions, as its card ties them. -/
import Derived.Test.YtpjdgiiphohjeaaGreatDoorRows
import Derived.Test.YtpjdgiiphohjeaaGreatDoorLift
import Derived.Test.YtpjdgiiphohjeaaGreatDoorOwn8
import Derived.Test.YtpjdgiiphohjeaaGreatDoorSeatKW
namespace Go.Proofs.YtpjdgiiphohjeaaGreatDoor
theorem kernNone : Rows.KernNoneCardSaid := kernNone_card fun a n c W => Go.AM.kernNone_walk Go.AM.ownS_sound a n c W
end Go.Proofs.YtpjdgiiphohjeaaGreatDoor
