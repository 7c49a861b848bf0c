import Derived.Test.YtpjdgiiphohjeaaGreatDoorAm25
/-! A call that leaves all old blocks as they were: the small machine's memory stands as it did. -/
namespace Go.AM
open Go.RowKit

theorem HRel.below {φ : Map} {h : Heap} {w w' : World} (r : HRel φ h w) (b : Below w.heap.size w w') : HRel φ h w' ∧ Ext φ h w φ h w' := by
  refine ⟨⟨fun id L e => ⟨(r.rng id L e).1, Nat.lt_of_lt_of_le (r.rng id L e).2 b.size⟩, fun id L o e g => ?_, r.inj⟩, ?_⟩
  · rw [b.block _ (r.rng id L e).2]
    exact r.obj id L o e g
  · exact ⟨b.os, b.tape, b.output, b.size, Nat.le_refl _, fun _ _ => rfl, fun _ _ _ => rfl, fun k hk _ => b.block k hk, fun _ _ x => x⟩

/-- A rule of its own for a call that leaves all old blocks as they were. -/
theorem own_below {P : Program} {f : FuncId} (hk : Known P f) {φ : Map} {h : Heap} {w : World} {a : AVal} {args' : Array Value} {v : Value} (r : HRel φ h w) (hv : VRel φ a v)
    (hc : Calls P f args' w fun e w' => e = .returned v ∧ Below w.heap.size w w') : Known P f ∧ Calls P f args' w (CallOk φ h w a h) := by
  refine ⟨hk, hc.mono fun e w' he => ?_⟩
  obtain ⟨rfl, b⟩ := he
  obtain ⟨r', x⟩ := r.below b
  exact ⟨v, φ, rfl, r', x, hv⟩

end Go.AM
