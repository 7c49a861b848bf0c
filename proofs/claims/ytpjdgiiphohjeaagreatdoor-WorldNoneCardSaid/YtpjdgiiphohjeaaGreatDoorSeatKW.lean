import Derived.Test.YtpjdgiiphohjeaaGreatDoorSeatKN
open Go Go.AM Go.Proofs Go.RowKit
namespace Go.AM
theorem mixed : Tryz.prog.follows .mixedOrders = true := by kernel_rfl

/-- KernNone's walk, but for the two rules. -/
theorem kernNone_walk (O : OwnSound Tryz.prog ownS) (a : Option Addr) (n c : Nat) (W : World) : Calls Tryz.prog 5 #[.slice a n c] W fun e W' => e = .returned (.bool true) ∧ Below W.heap.size W W' := by
  have hr : okB (tailK (.slice a n c) n (decide ((100 : Int) < (n : Int)))) = true := by
    cases decide ((100 : Int) < (n : Int))
    · exact tailK_false _ _
    · exact tailK_true _ _
  obtain ⟨h', he⟩ := okB_spec hr
  rw [← callK a n c] at he
  exact closed_true tb21_ok fs9_ok O mixed he own5 W (.cons _ _ _ _ (.raw _ (fun b hb => by cases hb)) .nil)
#print axioms kernNone_walk
end Go.AM
