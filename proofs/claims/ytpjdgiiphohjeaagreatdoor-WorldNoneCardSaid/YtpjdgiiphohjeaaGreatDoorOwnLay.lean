import Derived.Test.YtpjdgiiphohjeaaGreatDoorOwnDef
import Derived.Test.YtpjdgiiphohjeaaGreatDoorAm26
/-! A call that lays one block more, and leaves all old ones as they were. -/
namespace Go.AM
open Go.RowKit

theorem lay_below {φ : Map} {h : Heap} {w w' : World} (r0 : HRel φ h w) (b : Below w.heap.size w w') {o : AObj} {x : Obj} {g n : Nat} (hg : w.heap.size ≤ g) (hx : w'.heap[g]? = some x)
    (ho : ORel φ ⟨g, 0, n⟩ o (some x)) :
    HRel (φ.put h.next ⟨g, 0, n⟩) (h.push o) w' ∧ Ext φ h w (φ.put h.next ⟨g, 0, n⟩) (h.push o) w' := by
  obtain ⟨r, X⟩ := r0.below b
  have hnone : φ h.next = none := r.none_next (Nat.le_refl _)
  have hle : φ.le (φ.put h.next ⟨g, 0, n⟩) := Map.le_put hnone
  have hgl : g < w'.heap.size := (Array.getElem?_eq_some_iff.1 hx).1
  have cases_ : ∀ j L, (φ.put h.next ⟨g, 0, n⟩) j = some L → (j = h.next ∧ L = ⟨g, 0, n⟩) ∨ (j ≠ h.next ∧ φ j = some L ∧ j < h.next ∧ L.block < w.heap.size) := by
    intro j L e
    unfold Map.put at e
    by_cases hj : j = h.next
    · simp [hj] at e; exact .inl ⟨hj, e.symm⟩
    · simp [hj] at e; exact .inr ⟨hj, e, (r0.rng j L e).1, (r0.rng j L e).2⟩
  refine ⟨⟨?_, ?_, ?_⟩, ⟨X.os, X.tape, X.output, X.size, by simp, ?_, ?_, X.frame, ?_⟩⟩
  · intro j L e
    rcases cases_ j L e with ⟨rfl, rfl⟩ | ⟨_, e', h1, h2⟩
    · exact ⟨by simp, hgl⟩
    · exact ⟨by simp; omega, Nat.lt_of_lt_of_le h2 b.size⟩
  · intro j L p e hp
    rcases cases_ j L e with ⟨rfl, rfl⟩ | ⟨_, e', h1, h2⟩
    · rw [Heap.get_push, if_pos rfl] at hp
      cases hp
      simp only [hx]
      exact ho.mono hle
    · rw [Heap.get_push, if_neg (by omega)] at hp
      exact (r.obj j L p e' hp).mono hle
  · intro i j L M p q ei ej hp hq ap aq hb
    rcases cases_ i L ei with ⟨rfl, rfl⟩ | ⟨hi, ei', h1, h2⟩
    · rcases cases_ j M ej with ⟨rfl, rfl⟩ | ⟨hj, ej', h3, h4⟩
      · rfl
      · simp only at hb; omega
    · rcases cases_ j M ej with ⟨rfl, rfl⟩ | ⟨hj, ej', h3, h4⟩
      · simp only at hb; omega
      · rw [Heap.get_push, if_neg (by omega)] at hp hq
        exact r.inj i j L M p q ei' ej' hp hq ap aq hb
  · intro j hj; unfold Map.put; rw [if_neg (by omega)]
  · intro j hj _; rw [Heap.get_push, if_neg (by omega)]
  · intro c hc
    rintro ⟨j, L, o', e, rfl, hg', ho'⟩
    rcases cases_ j L e with ⟨rfl, rfl⟩ | ⟨_, e', h1, h2⟩
    · simp only at hc; omega
    · rw [Heap.get_push, if_neg (by omega)] at hg'
      exact ⟨j, L, o', e', rfl, hg', ho'⟩

/-- A new row of numbers. -/
theorem own_row {P : Program} {f : FuncId} (hk : Known P f) {φ : Map} {h : Heap} {w : World} {args' : Array Value} {e : TypeId} (r : HRel φ h w) (zs : List Int) (hz : zs ≠ [])
    (hc : Calls P f args' w fun en w' => ∃ v, en = .returned v ∧ w'.ownsRow w.heap.size e 1 v zs.length (zs.map (.int .i64 ·)) ∧ Below w.heap.size w w') :
    Known P f ∧ Calls P f args' w (CallOk φ h w (.slice h.next 0 zs.length (.upto 1)) (h.push (.cells .rw (zs.map (.int .i64 ·))))) := by
  refine ⟨hk, hc.mono fun en w' hw => ?_⟩
  obtain ⟨v, rfl, ⟨_, hrow⟩, b⟩ := hw
  rcases hrow with ⟨_, h0⟩ | ⟨g, cap, cur, rfl, hbase, hg, hle, _, hcur, htake⟩
  · exact absurd (List.eq_nil_of_length_eq_zero h0) hz
  · rw [Nat.mul_one] at hcur htake
    have hrel : ORel φ ⟨g, 0, cur.size⟩ (.cells .rw (zs.map (.int .i64 ·))) (some (.cells cur e (0, 0))) := by
      refine ⟨cur, e, (0, 0), rfl, rfl, by simp; omega, rfl, fun i a ha => ?_⟩
      obtain ⟨z, hz1, rfl⟩ : ∃ z, zs[i]? = some z ∧ AVal.int .i64 z = a := by simpa [List.getElem?_map] using ha
      have hi : i < zs.length := (List.getElem?_eq_some_iff.1 hz1).1
      refine ⟨.int .i64 z, ?_, .int _ _⟩
      have h1 : (cur.toList.take zs.length)[i]? = some (.int .i64 z) := by rw [htake]; simp [hz1]
      rw [List.getElem?_take_of_lt hi] at h1
      simpa using h1
    obtain ⟨r', x'⟩ := lay_below r b hbase hg hrel
    have hput : (φ.put h.next ⟨g, 0, cur.size⟩) h.next = some ⟨g, 0, cur.size⟩ := by simp [Map.put]
    exact ⟨_, _, rfl, r', x', .upto _ 0 _ 1 cap ⟨g, 0, cur.size⟩ _ hput hle (fun _ => rfl) (by simp; omega)⟩

theorem insertI_perm (x : Int) : ∀ l : List Int, (insertI x l).Perm (x :: l) := by
  intro l
  induction l with
  | nil => exact .refl _
  | cons y ys ih =>
    simp only [insertI]
    split
    · exact .refl _
    · exact (ih.cons y).trans (.swap _ _ _)
theorem sortI_perm : ∀ l : List Int, (sortI l).Perm l := by
  intro l
  induction l with
  | nil => exact .refl _
  | cons x xs ih => exact (insertI_perm x _).trans (ih.cons x)
theorem insertI_sorted (x : Int) : ∀ l : List Int, l.Pairwise (· ≤ ·) → (insertI x l).Pairwise (· ≤ ·) := by
  intro l
  induction l with
  | nil => intro _; simp [insertI]
  | cons y ys ih =>
    intro hl
    rw [List.pairwise_cons] at hl
    simp only [insertI]
    split
    · rename_i hxy
      have hxy : x ≤ y := by simpa using hxy
      rw [List.pairwise_cons]
      refine ⟨fun z hz => ?_, List.pairwise_cons.2 hl⟩
      rcases List.mem_cons.1 hz with rfl | hz
      · exact hxy
      · exact Int.le_trans hxy (hl.1 z hz)
    · rename_i hxy
      have hxy : y ≤ x := by have := of_decide_eq_false hxy; omega
      rw [List.pairwise_cons]
      refine ⟨fun z hz => ?_, ih hl.2⟩
      rcases List.mem_cons.1 ((insertI_perm x ys).mem_iff.1 hz) with rfl | hz
      · exact hxy
      · exact hl.1 z hz
theorem sortI_sorted : ∀ l : List Int, (sortI l).Pairwise (· ≤ ·) := by
  intro l
  induction l with
  | nil => simp [sortI]
  | cons x xs ih => exact insertI_sorted x _ ih
theorem sortI_merge {ss ks : List Int} (h : ss.Perm ks) : ss.mergeSort (fun x y => decide (x ≤ y)) = sortI ks := by
  refine List.Perm.eq_of_pairwise (le := (· ≤ ·)) (fun a b _ _ h1 h2 => Int.le_antisymm h1 h2) ?_ (sortI_sorted ks) (((List.mergeSort_perm ss _).trans h).trans (sortI_perm ks).symm)
  have := List.pairwise_mergeSort (le := fun x y : Int => decide (x ≤ y)) (fun a b c h1 h2 => by simp only [decide_eq_true_eq] at *; omega) (fun a b => by simp; omega) ss
  exact this.imp fun h => by simpa using h
end Go.AM
