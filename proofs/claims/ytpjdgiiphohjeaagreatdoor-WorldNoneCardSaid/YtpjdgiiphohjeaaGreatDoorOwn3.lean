import Derived.Test.YtpjdgiiphohjeaaGreatDoorOwn2
import Derived.Maps.RangeRun
namespace Go.Proofs.YtpjdgiiphohjeaaGreatDoor
open Go.RowKit
open Go.ChangeMaps (setBlock)

/-- What a call of ContainsFunc at an entry's value says. -/
def Says (w : World) (m : Int) (bb : Nat) (x : MapEntry) (r : Bool) : Prop :=
  ∀ W : World, Below w.heap.size w W → W.cell? ⟨bb, 0, none⟩ = some (.int .i64 m) → bb < W.heap.size →
    Calls Tryz.prog 154 #[x.val, .func (.func 157) #[] #[.pointer (some ⟨bb, 0, none⟩)]] W fun e w' => e = .returned (.bool r) ∧ Below W.heap.size W w'

set_option maxRecDepth 1000000 in
set_option maxHeartbeats 1000000 in
theorem ownerIt (lb lo bm : Nat) (es : Array MapEntry) (clock : Nat) (m : Int) (hit : MapEntry → Bool) (w : World)
    (hl : w.cell? ⟨lb, lo + 1, none⟩ = some (.map (some bm))) (hlb : lb < w.heap.size) (hb : w.heap[bm]? = some (.map es clock)) (hst : ∀ x ∈ es.toList, x.born < clock) (hnd : (es.toList.map (·.born)).Nodup)
    (hkey : ∀ x ∈ es.toList, ∃ k : Int, x.key = .int .i64 k) (hsay : ∀ x ∈ es.toList, Says w m w.heap.size x (hit x)) :
    Calls Tryz.prog 106 #[.pointer (some ⟨lb, lo, none⟩), .int .i64 m] w fun e w' => ∃ r : Int, e = .returned (.int .i64 r) ∧ ((∃ x ∈ es.toList, hit x = true ∧ x.key = .int .i64 r) ∨ ((∀ x ∈ es.toList, hit x = false) ∧ r = -1)) ∧ Below w.heap.size w w' := by
  have hbl : bm < w.heap.size := by
    rcases Nat.lt_or_ge bm w.heap.size with h | h
    · exact h
    · simp [Array.getElem?_eq_none h] at hb
  have hb1 : ∀ c, (w.alloc c).heap[bm]? = some (.map es clock) := fun c => by rw [Below.heap_alloc _ _ _ hbl]; exact hb
  have hrg := run_range_map (P := Tryz.prog) (w.alloc (.cells #[.int .i64 m] 3)) 163 3 61 bm es clock Tryz.underlying163 (hb1 _)
  go_enter Tryz.func106, Tryz.ntmps106
  go_wp2
  go_loopw [] (fun w' => ∃ seen : Array Nat, w'.heap[w.heap.size + 1]? = some (.mapIter (some bm) clock seen clock) ∧ Below w.heap.size w w' ∧ w'.cell? ⟨w.heap.size, 0, none⟩ = some (.int .i64 m) ∧ w.heap.size + 1 < w'.heap.size ∧ ∀ x ∈ es.toList, seen.contains x.born = true → hit x = false)
    (fun w' => (leftOf es (w'.iterSeen (w.heap.size + 1))).size)
  case atStart =>
    refine ⟨#[], ?_, ?_, ?_, ?_, fun x _ h => by simp at h⟩
    · show ((w.alloc (.cells #[.int .i64 m] 3)).heap.push (.mapIter (some bm) clock #[] clock))[w.heap.size + 1]? = _
      have hsz0 : (w.alloc (.cells #[.int .i64 m] 3)).heap.size = w.heap.size + 1 := by simp
      rw [Array.getElem?_push, if_pos hsz0.symm]
    · exact ((Below.refl _ w).alloc (Nat.le_refl _) _).alloc (by simp) _
    · simp
    · simp
  case round =>
    obtain ⟨seen, hr, hbw, hcw, hsz, hno⟩ := hrel
    have hbm : wr.heap[bm]? = some (.map es clock) := by rw [hbw.block _ hbl]; exact hb
    rcases run_next_at (P := Tryz.prog) wr 0 (w.heap.size + 1) bm clock clock seen es clock hr hbm hst (Nat.le_refl _) with ⟨h0, hrun⟩ | ⟨x, hx, w1, hw1, hrun⟩
    · have hnx : ∀ ty, (Instr.next (.pointer (some ⟨w.heap.size + 1, 0, none⟩)) false ty).run Tryz.prog wr = _ := fun _ => hrun
      go_wp2
      go_ret
      exact ⟨-1, rfl, .inr ⟨fun x hx => hno x hx (all_seen es seen h0 x hx), rfl⟩, hbw⟩
    · have hnx : ∀ ty, (Instr.next (.pointer (some ⟨w.heap.size + 1, 0, none⟩)) false ty).run Tryz.prog wr = _ := fun _ => hrun
      obtain ⟨k, hk⟩ := hkey x (mem_left hx).1
      have hsize1 : w1.heap.size = wr.heap.size := by rcases hw1 with rfl | rfl <;> rfl
      have hheap1 : w1.heap = wr.heap := by rcases hw1 with rfl | rfl <;> rfl
      have hat : ∀ j, j ≠ w.heap.size + 1 → (setBlock w1 (w.heap.size + 1) (.mapIter (some bm) clock (seen.push x.born) clock)).heap[j]? = wr.heap[j]? := fun j hj => by
        simp only [setBlock]
        rw [Array.getElem?_setIfInBounds_ne (Ne.symm hj), hheap1]
      have hrr : (setBlock w1 (w.heap.size + 1) (.mapIter (some bm) clock (seen.push x.born) clock)).heap[w.heap.size + 1]? = some (.mapIter (some bm) clock (seen.push x.born) clock) := by
        simp only [setBlock]
        rw [hheap1, Array.getElem?_setIfInBounds_self_of_lt hsz]
      have hos : w1.os = wr.os ∧ w1.tape = wr.tape ∧ w1.output = wr.output := by rcases hw1 with rfl | rfl <;> exact ⟨rfl, rfl, rfl⟩
      have hsz2 : (setBlock w1 (w.heap.size + 1) (.mapIter (some bm) clock (seen.push x.born) clock)).heap.size = wr.heap.size := by simp [setBlock, hheap1]
      have hbw2 : Below w.heap.size w (setBlock w1 (w.heap.size + 1) (.mapIter (some bm) clock (seen.push x.born) clock)) :=
        ⟨hos.1.trans hbw.os, hos.2.1.trans hbw.tape, hos.2.2.trans hbw.output, by rw [hsz2]; exact hbw.size, fun j hj => by rw [hat j (by omega)]; exact hbw.block j hj⟩
      have hcw2 : (setBlock w1 (w.heap.size + 1) (.mapIter (some bm) clock (seen.push x.born) clock)).cell? ⟨w.heap.size, 0, none⟩ = some (.int .i64 m) := by
        rw [World.cell?_of_block (w := wr) (hat w.heap.size (by omega))]; exact hcw
      have hbm2 := (hat bm (by omega)).trans hbm
      have hen := run_entry_at (P := Tryz.prog) _ (w.heap.size + 1) bm clock seen es clock x hrr hbm2 (mem_left hx).1 hnd
      have hcall := hsay x (mem_left hx).1 _ hbw2 hcw2 (by rw [hsz2]; omega)
      obtain ⟨W2, hW2⟩ : ∃ W2, setBlock w1 (w.heap.size + 1) (.mapIter (some bm) clock (seen.push x.born) clock) = W2 := ⟨_, rfl⟩
      rw [hW2] at hat hrr hsz2 hbw2 hcw2 hbm2 hen hcall
      simp only [hW2] at hnx
      rw [hk] at hnx hen
      go_wp2_with (go_at_call 154; refine hcall.mono ?_; rintro e w' ⟨rfl, hb3⟩)
      · rename_i hh
        go_ret
        exact ⟨k, rfl, .inl ⟨x, (mem_left hx).1, hh, hk⟩, hbw2.trans (hb3.mono (by rw [hsz2]; omega))⟩
      · rename_i hh
        have hz3 : W2.heap.size ≤ w'.heap.size := hb3.size
        have hr3 : w'.heap[w.heap.size + 1]? = some (.mapIter (some bm) clock (seen.push x.born) clock) := by rw [hb3.block _ (by omega)]; exact hrr
        have hc3 : w'.cell? ⟨w.heap.size, 0, none⟩ = some (.int .i64 m) := by rw [hb3.cell (p := ⟨w.heap.size, 0, none⟩) (by show w.heap.size < _; omega)]; exact hcw2
        have hb4 : Below w.heap.size w w' := hbw2.trans (hb3.mono (by rw [hsz2]; omega))
        have hit0 : w'.iterSeen (w.heap.size + 1) = seen.push x.born := by unfold World.iterSeen; rw [hr3]
        have hit1 : wr.iterSeen (w.heap.size + 1) = seen := by unfold World.iterSeen; rw [hr]
        go_roundw
        case rel =>
          refine ⟨seen.push x.born, hr3, hb4, hc3, by omega, fun y hy hc => ?_⟩
          rw [contains_push, Bool.or_eq_true] at hc
          rcases hc with h1 | h1
          · exact hno y hy h1
          · have h2 : y.born = x.born := by simpa using h1
            have h3 : y = x := born_inj hnd hy (mem_left hx).1 h2
            rw [h3]; simpa using hh
        case measure =>
          rw [hit0, hit1]
          exact left_shrinks es seen x hx
end Go.Proofs.YtpjdgiiphohjeaaGreatDoor
