import Derived.Test.YtpjdgiiphohjeaaGreatDoorOwn7
import Derived.Test.YtpjdgiiphohjeaaGreatDoorSeatKN
namespace Go.AM
open Go.Proofs Go.RowKit Go.Maps Go.Sort Go.Shelf

theorem knownOf {f : FuncId} {fn : Func} (h : Tryz.prog.funcs[f]? = some fn) (h1 : (fn.name == "runtime.NumGoroutine") = false) (h2 : fn.body.isNone = false) : Known Tryz.prog f := ⟨fn, h, h1, h2⟩

theorem sorted_own_any {args : List AVal} {h h' : Heap} {a : AVal} (he : sortedB [287, 342, 407] args h = some (a, h')) {φ : Map} {w : World} {args' : Array Value} (R : HRel φ h w) (V : VRels φ args args'.toList) :
    Known Tryz.prog 256 ∧ Calls Tryz.prog 256 args' w (CallOk φ h w a h') := by
  have hk : Known Tryz.prog 256 := knownOf Tryz.func256 (by kernel_rfl) rfl
  have he0 := he
  unfold sortedB at he
  split at he
  case h_2 => cases he
  rename_i f bx
  split at he
  case h_2 => cases he
  rename_i id rest hin hg
  have hf : f = 287 ∨ f = 342 ∨ f = 407 := by
    simp only [List.any_cons, List.any_nil, Bool.or_false, Bool.or_eq_true] at hin
    rcases hin with e | e | e
    · exact .inl (Nat.eq_of_beq_eq_true e)
    · exact .inr (.inl (Nat.eq_of_beq_eq_true e))
    · exact .inr (.inr (Nat.eq_of_beq_eq_true e))
  rcases hf with rfl | rfl | rfl
  · exact sorted_own (ρ := Tryz.keysA_ren) { Tryz.keysA with } rfl (enters_of Tryz.func287 (by kernel_rfl) rfl) (fun f b x e => by cases e; rfl) he0 R V hk
  · exact sorted_own (ρ := Tryz.keysB_ren) { Tryz.keysB with } rfl (enters_of Tryz.func342 (by kernel_rfl) rfl) (fun f b x e => by cases e; rfl) he0 R V hk
  · exact sorted_own (ρ := Tryz.keysC_ren) { Tryz.keysC with } rfl (enters_of Tryz.func407 (by kernel_rfl) rfl) (fun f b x e => by cases e; rfl) he0 R V hk

/-- Both rules are right. -/
theorem ownS_sound : OwnSound Tryz.prog ownS := by
  intro f g hg args h a h' he φ w args' R V
  left
  unfold ownS at hg
  split at hg
  · rename_i h1
    cases hg
    have hf : f = 106 := Nat.eq_of_beq_eq_true h1
    subst hf
    exact Go.Proofs.YtpjdgiiphohjeaaGreatDoor.owner_own he R V (knownOf Tryz.func106 (by kernel_rfl) rfl)
  · rename_i h1 h2
    cases hg
    have hf : f = 256 := Nat.eq_of_beq_eq_true h1
    subst hf
    exact sorted_own_any he R V
  · cases hg
#print axioms ownS_sound
end Go.AM
