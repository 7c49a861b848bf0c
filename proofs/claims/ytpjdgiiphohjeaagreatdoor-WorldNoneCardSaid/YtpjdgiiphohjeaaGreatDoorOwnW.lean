import Derived.Test.YtpjdgiiphohjeaaGreatDoorSeatKN
import Derived.Test.YtpjdgiiphohjeaaGreatDoorOwn8
import Derived.Test.YtpjdgiiphohjeaaGreatDoorSeatKW
import Derived.Test.YtpjdgiiphohjeaaGreatDoorSeatW
open Go Go.AM Go.Proofs Go.RowKit
namespace Go.AM
set_option maxRecDepth 100000
theorem aw7_run : okB ((runQ fs9 ownS 100000).call 7 [] Heap.empty) = true := by kernel_rfl
theorem aw21_run : okB ((runQ fs9 ownS 100000).call 21 [] Heap.empty) = true := by kernel_rfl
end Go.AM

open Go Go.AM Go.Proofs Go.RowKit
namespace Go.AM
theorem ownS7 : ownS 7 = none := by kernel_rfl
theorem ownS21 : ownS 21 = none := by kernel_rfl
theorem awake7_calls (w : World) : Calls Tryz.prog 7 #[] w fun e w' => e = .returned (.bool true) ∧ Below w.heap.size w w' := by
  obtain ⟨h', he⟩ := okB_spec aw7_run
  exact closed_true tb21_ok fs9_ok ownS_sound mixed he ownS7 w .nil
theorem awake21_calls (w : World) : Calls Tryz.prog 21 #[] w fun e w' => e = .returned (.bool true) ∧ Below w.heap.size w w' := by
  obtain ⟨h', he⟩ := okB_spec aw21_run
  exact closed_true tb21_ok fs9_ok ownS_sound mixed he ownS21 w .nil
theorem ownW_sound : OwnSound Tryz.prog ownW := by
  intro f g hg args h a h' he φ w args' R V
  left
  unfold ownW at hg
  split at hg
  · rename_i h1
    cases hg
    have hf : f = 106 := Nat.eq_of_beq_eq_true h1
    subst hf
    exact Go.Proofs.YtpjdgiiphohjeaaGreatDoor.owner_own he R V (knownOf Tryz.func106 (by kernel_rfl) rfl)
  · rename_i h1 h2
    cases hg
    have hf : f = 256 := Nat.eq_of_beq_eq_true h1
    subst hf
    exact sorted_own_any he R V
  · rename_i h1 h2 h3
    cases hg
    unfold awakeB at he
    split at he
    case h_2 => cases he
    cases he
    have e : args' = #[] := by
      obtain ⟨l⟩ := args'
      cases V
      rfl
    subst e
    have h3 : Nat.beq f 7 = true ∨ Nat.beq f 21 = true := by cases e7 : Nat.beq f 7 <;> cases e21 : Nat.beq f 21 <;> simp_all
    rcases h3 with h3 | h3
    · have hf : f = 7 := Nat.eq_of_beq_eq_true h3
      subst hf
      exact own_below (knownOf Tryz.func7 (by kernel_rfl) rfl) R (.bool true) (awake7_calls w)
    · have hf : f = 21 := Nat.eq_of_beq_eq_true h3
      subst hf
      exact own_below (knownOf Tryz.func21 (by kernel_rfl) rfl) R (.bool true) (awake21_calls w)
  · cases hg
#print axioms ownW_sound
end Go.AM
