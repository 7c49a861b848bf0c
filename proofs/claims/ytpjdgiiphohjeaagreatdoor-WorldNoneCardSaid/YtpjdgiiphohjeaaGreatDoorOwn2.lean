import Derived.Test.YtpjdgiiphohjeaaGreatDoorProg
import Derived.WalkKit
import Derived.WalkSpells
import Derived.WalkLawsBesides
import Derived.LoopTactic
import Derived.Laws.IdiomRangeMap
namespace Go.Proofs.YtpjdgiiphohjeaaGreatDoor
open Go.RowKit
set_option maxHeartbeats 400000 in
/-- The closure of Owner: does an entry bear the mutex? -/
theorem holdsIt (mu m : Int) (y : Value) (b : Nat) (o : Nat) (w : World) (hc : w.cell? ⟨b, o, none⟩ = some (.int .i64 m)) (hb : b < w.heap.size) :
    Calls Tryz.prog 157 #[.agg #[.int .i64 mu, y], .pointer (some ⟨b, o, none⟩)] w fun e w' => e = .returned (.bool (mu == m)) ∧ Below w.heap.size w w' := by
  go_enter Tryz.func157, Tryz.ntmps157
  go_wp2
  go_ret
  exact ⟨rfl, (Below.refl _ w).alloc (Nat.le_refl _) _⟩

set_option maxHeartbeats 1000000 in
/-- IndexFunc at that closure: -1 just where no entry bears the mutex. -/
theorem indexIt (sb so len cap : Nat) (mus : Nat → Int) (ys : Nat → Value) (m : Int) (b o : Nat) (w : World) (hlen : (len : Int) ≤ 9223372036854775807) (hcap : len ≤ cap)
    (hs : ∀ i, i < len → w.cell? ⟨sb, so + i * 2, none⟩ = some (.int .i64 (mus i)) ∧ w.cell? ⟨sb, so + i * 2 + 1, none⟩ = some (ys i)) (hsb : sb < w.heap.size)
    (hc : w.cell? ⟨b, o, none⟩ = some (.int .i64 m)) (hb : b < w.heap.size) :
    Calls Tryz.prog 209 #[.slice (some ⟨sb, so, none⟩) len cap, .func (.func 157) #[] #[.pointer (some ⟨b, o, none⟩)]] w fun e w' => ∃ r : Int, e = .returned (.int .i64 r) ∧ (0 ≤ r ↔ ∃ i, i < len ∧ mus i = m) ∧ Below w.heap.size w w' := by
  go_enter Tryz.func209, Tryz.ntmps209
  go_wp2
  go_loopw [8] (fun i w' => ∃ k : Nat, k ≤ len ∧ i = .int .i64 k ∧ Below w.heap.size w w' ∧ ∀ j, j < k → mus j ≠ m) (fun i _ => len - (intOf i).toNat)
  case atStart => exact ⟨0, Nat.zero_le _, rfl, Below.refl _ _, fun j hj => absurd hj (Nat.not_lt_zero _)⟩
  case round =>
    obtain ⟨k, hk, rfl, hbl, hno⟩ := hrel
    have hcw : wr.cell? ⟨b, o, none⟩ = some (.int .i64 m) := by rw [hbl.cell (p := ⟨b, o, none⟩) hb]; exact hc
    by_cases hlt : k < len
    · obtain ⟨hs1, hs2⟩ := hs k hlt
      have hw1 : wr.cell? ⟨sb, so + k * 2, none⟩ = some (.int .i64 (mus k)) := by rw [hbl.cell (p := ⟨sb, so + k * 2, none⟩) hsb]; exact hs1
      have hw2 : wr.cell? ⟨sb, so + k * 2 + 1, none⟩ = some (ys k) := by rw [hbl.cell (p := ⟨sb, so + k * 2 + 1, none⟩) hsb]; exact hs2
      have hbw : b < wr.heap.size := Nat.lt_of_lt_of_le hb hbl.size
      have hlt' : (k : Int) < len := by omega
      go_wp2_with (go_at_call 157; refine (holdsIt (mus k) m (ys k) b o _ hcw hbw).mono ?_; rintro e w' ⟨rfl, hb2⟩)
      · rename_i heq
        go_ret
        exact ⟨k, rfl, ⟨fun _ => ⟨k, hlt, by simpa using heq⟩, fun _ => by omega⟩, hbl.trans (hb2.mono hbl.size)⟩
      · rename_i heq
        go_roundw
        case rel =>
          refine ⟨k + 1, by omega, ?_, hbl.trans (hb2.mono hbl.size), fun j hj => ?_⟩
          · rw [Int.natCast_add]; rfl
          · rcases Nat.lt_or_ge j k with h1 | h1
            · exact hno j h1
            · have : j = k := by omega
              subst this
              simpa using heq
        case measure =>
          simp only [intOf]
          omega
    · have hke : k = len := by omega
      subst hke
      have hnl : ¬ ((k : Int) < k) := by omega
      go_wp2
      go_ret
      refine ⟨_, rfl, ⟨fun h => by omega, fun ⟨i, hi, hm⟩ => absurd hm (hno i hi)⟩, hbl⟩

set_option maxHeartbeats 1000000 in
/-- ContainsFunc at that closure. -/
theorem containsIt (sb so len cap : Nat) (mus : Nat → Int) (ys : Nat → Value) (m : Int) (b o : Nat) (w : World) (hlen : (len : Int) ≤ 9223372036854775807) (hcap : len ≤ cap)
    (hs : ∀ i, i < len → w.cell? ⟨sb, so + i * 2, none⟩ = some (.int .i64 (mus i)) ∧ w.cell? ⟨sb, so + i * 2 + 1, none⟩ = some (ys i)) (hsb : sb < w.heap.size)
    (hc : w.cell? ⟨b, o, none⟩ = some (.int .i64 m)) (hb : b < w.heap.size) :
    Calls Tryz.prog 154 #[.slice (some ⟨sb, so, none⟩) len cap, .func (.func 157) #[] #[.pointer (some ⟨b, o, none⟩)]] w fun e w' => ∃ r : Bool, e = .returned (.bool r) ∧ (r = true ↔ ∃ i, i < len ∧ mus i = m) ∧ Below w.heap.size w w' := by
  go_enter Tryz.func154, Tryz.ntmps154
  go_wp2_with (go_at_call 209; refine (indexIt sb so len cap mus ys m b o _ hlen hcap hs hsb hc hb).mono ?_; rintro e w' ⟨r, rfl, hr, hb2⟩)
  go_ret
  exact ⟨_, rfl, by first | exact hr | (simp; done) | (rw [decide_eq_true_iff]; exact hr), hb2⟩

set_option maxHeartbeats 1000000 in
theorem indexNil (b o : Nat) (w : World) :
    Calls Tryz.prog 209 #[.slice none 0 0, .func (.func 157) #[] #[.pointer (some ⟨b, o, none⟩)]] w fun e w' => e = .returned (.int .i64 (-1)) ∧ w' = w := by
  go_enter Tryz.func209, Tryz.ntmps209
  go_wp2
  go_loopw [8] (fun i w' => i = .int .i64 0 ∧ w' = w) (fun _ _ => 0)
  case atStart => exact ⟨rfl, rfl⟩
  case round =>
    obtain ⟨rfl, rfl⟩ := hrel
    go_wp2
    go_ret
    exact ⟨rfl, rfl⟩

set_option maxHeartbeats 1000000 in
/-- At no slice. -/
theorem containsNil (b o : Nat) (w : World) :
    Calls Tryz.prog 154 #[.slice none 0 0, .func (.func 157) #[] #[.pointer (some ⟨b, o, none⟩)]] w fun e w' => e = .returned (.bool false) ∧ w' = w := by
  go_enter Tryz.func154, Tryz.ntmps154
  go_wp2_with (go_at_call 209; refine (indexNil b o _).mono ?_; rintro e w' ⟨rfl, rfl⟩)
  go_ret
  exact ⟨rfl, rfl⟩
end Go.Proofs.YtpjdgiiphohjeaaGreatDoor
