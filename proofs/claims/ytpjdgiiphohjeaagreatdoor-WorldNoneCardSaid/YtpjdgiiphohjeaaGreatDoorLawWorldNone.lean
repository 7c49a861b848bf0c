/- WorldNone: of no world each call says so, nothing is played of no ticks, at every configuration and number; under the row's own conditions, as its card ties them. -/
import Derived.Test.YtpjdgiiphohjeaaGreatDoorRows
import Derived.Test.YtpjdgiiphohjeaaGreatDoorLiftW
import Derived.Test.YtpjdgiiphohjeaaGreatDoorOwnW
import Derived.Test.YtpjdgiiphohjeaaGreatDoorMir
import Derived.Test.YtpjdgiiphohjeaaGreatDoorQ2
namespace Go.AM
open Go Go.Proofs Go.RowKit
theorem convE_rels {w : World} {e : Nat} {L : Loc} (he : mirF w e = some L) : ∀ args : List Value, VRels (mirF w) (args.map (convE w e)) args
  | [] => .nil
  | a :: l => .cons _ _ _ _ (convE_rel he a) (convE_rels he l)
theorem ownW6 : ownW 6 = none := by rfl
theorem worldNone_walk : Go.Proofs.YtpjdgiiphohjeaaGreatDoor.WorldNoneWalk := by
  intro H enc cs x W fuel y h hE
  obtain ⟨E, hE⟩ := hE
  obtain ⟨c, hc, ok⟩ := config_in hE h
  obtain ⟨cc, ct, cf, hcc⟩ := hE
  have he0 : mirF W E = some ⟨E, 0, cc.size⟩ := by unfold mirF; rw [hcc]
  refine open_trueE tb21_ok fu21_ok ownW_sound mixed ownW6 he0 [.agg c.enc, .int .i64 x] #[.agg cs, .int .i64 x] (.cons _ _ _ _ (.agg _ _ ?_) (.cons _ _ _ _ (.int _ _) .nil)) (worldNone_spec ok x _ fun _ => rfl)
  rw [hc]
  exact convE_rels he0 _
end Go.AM
namespace Go.Proofs.YtpjdgiiphohjeaaGreatDoor
theorem worldNone : Rows.WorldNoneCardSaid := worldNone_card Go.AM.worldNone_walk
end Go.Proofs.YtpjdgiiphohjeaaGreatDoor
