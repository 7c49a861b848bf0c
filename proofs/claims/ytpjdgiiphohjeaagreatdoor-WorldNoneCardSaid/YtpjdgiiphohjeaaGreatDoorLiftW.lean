import Derived.Test.YtpjdgiiphohjeaaGreatDoorLiftFw
import Derived.Test.YtpjdgiiphohjeaaGreatDoorLiftGw
import Derived.Test.YtpjdgiiphohjeaaGreatDoorTie
import Derived.Test.YtpjdgiiphohjeaaGreatDoorCards
import Derived.ProofKit
import Derived.OpenShut
import Derived.LaidMore
import Derived.Lay
import Derived.SevenTiedAt
import Derived.Stop.Joined
import Derived.Carry
namespace Go.Proofs.YtpjdgiiphohjeaaGreatDoor
open Go.ChangeShapes Go.WideShapes Go.ChangeAt Go.RowKit

theorem own : ownKnob Tryz.prog.godebug = none := by kernel_rfl
theorem laidOut : laidOutB Tryz.prog = true := by kernel_rfl

theorem keptBut_of_below {W W' : World} (hb : Below W.heap.size W W') (may : MemPlace → Prop) : W.keptBut W' may := by
  refine ⟨hb.os, hb.output, fun i hi => ?_⟩
  rw [hb.block i hi]
  cases W.heap[i]? with
  | none => rfl
  | some o => cases o <;> first | rfl | exact ⟨rfl, rfl, rfl, fun _ _ => rfl⟩ | exact .inr ⟨rfl, rfl⟩

abbrev laidL : List (String × DataW Unit) := [("unicode/utf8.acceptRanges", Rows.laid_unicode_utf8_acceptRanges), ("unicode/utf8.first", Rows.laid_unicode_utf8_first)]

/-- What the walk of WorldNone must show. -/
def WorldNoneWalk : Prop := ∀ (H : Type) (enc : TypeId × Value → H) (cs : Array Value) (x : Int) (W : World) (fuel : Nat) (y : DataW H × List MemPlace), DataW.trod enc Tryz.prog W 0 (fun _ => true) true fuel 40 cs.toList = some y →
  (∃ (E : Nat) (c : Array Value) (t : TypeId) (f : Nat × Nat), W.heap[E]? = some (.cells c t f)) → Calls Tryz.prog 6 #[.agg cs, .int .i64 x] W fun e W' => e = .returned (.bool true) ∧ Below W.heap.size W W'

theorem laid_block {W : World} (h : laidMetH Tryz.prog laidL W) : ∃ (E : Nat) (c : Array Value) (t : TypeId) (f : Nat × Nat), W.heap[E]? = some (.cells c t f) := by
  rw [MakeChecks.laidMetH_plain _ _ _ (by kernel_rfl)] at h
  obtain ⟨ps, ⟨g, t, cs, fuel, p, q, hg, ht, hv, hd, _, _⟩, _, _⟩ := h
  unfold World.var? at hv
  rw [hg] at hv
  simp only [Option.bind_some] at hv
  split at hv
  · rename_i c t f hc
    exact ⟨g, c, t, f, hc⟩
  · cases hv

set_option maxRecDepth 100000 in
theorem worldNone_lifted (walk : WorldNoneWalk) (os : Os) (started : os.Started) (H : Type) (enc : TypeId × Value → H) :
    ReturnsInHanded {} Tryz.checked os 6 .any (fun w args => (Rows.worldNoneSpec.pre enc Tryz.prog Tryz.f6 Rows.worldNoneRow.domain false w args ∧ laidMetH Tryz.prog laidL w) ∧ sizedMet enc Tryz.prog Tryz.f6 (OpenSpec.ofChange Rows.worldNoneSpec) false w args)
      (Rows.worldNoneSpec.post enc Tryz.prog Tryz.f6 false true false false) := by
  refine returnsInHanded_of_change_and (C := Tryz.checked) (X := fun w _ => laidMetH Tryz.prog laidL w) (fun _ _ _ hh h => h.of_heap hh) own started (by kernel_rfl) Tryz.func6
    (ChangeSpec.witness_shaped (enc := enc) (C := Tryz.checked) (os := os) (X := fun w _ => laidMetH Tryz.prog laidL w) false (World.laidAll Tryz.prog os laidL) #[.agg #[.slice none 0 0, .slice none 0 0, .slice none 0 0, .slice none 0 0, .int .i64 0, .int .i64 0], .int .i64 0] 8 (World.laidAll_os _ _ _)
      (World.shaped_of_ZipB (by kernel_rfl) (by kernel_rfl)) (by kernel_rfl) (by kernel_rfl) (by kernel_rfl)
      (by rw [MakeChecks.laidMetH_plain _ _ _ (by kernel_rfl)]; exact laidMet_laidAll _ (by kernel_rfl) (by kernel_rfl))) ?_
  intro W base args ds gs before hval0 hW hc _ hL _
  have hval : ∀ (j : Nat) t v, Tryz.f6.params[j]? = some t → args[j]? = some v → Value.okWide Tryz.prog W .any base t v := hval0
  have hW' := hW
  have hlt := fun p hp => DataW.Whole.lt hW (p := p) hp
  obtain ⟨p, q, hA0, hV, rfl, _, _⟩ := hW
  have hA : DataW.TrodAll enc Tryz.prog W 0 (fun _ => true) true Tryz.f6.params.toList args.toList ds p := hA0
  rw [Tryz.params6] at hA hval
  obtain ⟨v0, v1, d0, d1, p0, p1, rfl, rfl, rfl, h0, h1⟩ := trodAll_two hA
  obtain ⟨rfl, rfl⟩ := trodVars_none hV
  have hv0 := hval 0 40 v0 rfl rfl
  have hv1 := hval 1 3 v1 rfl rfl
  obtain ⟨cs, rfl, _⟩ := okWide_struct Tryz.underlying40 hv0
  obtain ⟨x, rfl⟩ := okWide_int Tryz.underlying3 hv1
  obtain ⟨fuel, h0'⟩ := h0
  refine (walk H enc cs x W fuel _ h0' (laid_block hL)).mono fun e W' ⟨he, hb⟩ => ?_
  subst he
  refine ⟨_, rfl, _, _, _, [], _, [], hW', trodAll_mk1 (shut_bool Tryz.underlying4 _), trodAll_mk2 (hb.trod laidOut (by kernel_rfl) (of_decide_eq_true (by kernel_rfl)) ⟨fuel, h0'⟩ (fun x hx => hlt x (by simp [hx]))) (hb.trod laidOut (by kernel_rfl) (of_decide_eq_true (by kernel_rfl)) h1 (fun x hx => hlt x (by simp [hx]))), rfl, keptBut_of_below hb _, fun h => by cases h⟩

theorem worldNone_holds (walk : WorldNoneWalk) : Rows.WorldNoneSaid :=
  OpenClaim.holds_of_wide 6 Tryz.f6 rfl rfl rfl rfl rfl rfl rfl ⟨rfl, rfl, rfl, rfl, rfl⟩ rfl rfl rfl rfl rfl card_named Tryz.func6 row_facts row_instance row_wrapper
    (fun os started H enc _ => worldNone_lifted walk os started H enc)

theorem worldNone_card (walk : WorldNoneWalk) : Rows.WorldNoneCardSaid :=
  Claim7.holds_tied_plain_at .later [] [.data, .pinned] true (true, "c291b547914388d1f0c84dc22dd48d0a99cbccd33f04c3c68296b4f87558c577") true (worldNone_holds walk) (fun _ h => by cases h) card_wf (fun _ h => by cases h) worldNone_row_tie rfl ⟨rfl, rfl⟩ card_main rfl
    (fun f fn hf hfn => by
      obtain rfl : f = 6 := Option.some.inj (card_named.symm.trans hf) |>.symm
      obtain rfl : fn = Tryz.f6 := (Option.some.inj (Tryz.func6.symm.trans hfn)).symm
      exact ⟨card_looks, fun j t ht => by
        rw [Tryz.params6] at ht
        have hm : t ∈ [40, 3] := by simpa using Array.mem_of_getElem? ht
        exact (show Tryz.prog.wantsStandIn t = false by simpa using List.all_eq_true.1 card_stand t hm)⟩)
    card_goes
end Go.Proofs.YtpjdgiiphohjeaaGreatDoor
