import Derived.Test.YtpjdgiiphohjeaaGreatDoorQ1
import Derived.Test.YtpjdgiiphohjeaaGreatDoorW1
open Go Go.AM
namespace Go.AM
/-! Steps of programs: what they may be. -/
structure CallM where
  sys : Int
  a : Int
  b : Int
  s : List UInt8
  t : List UInt8
  deriving DecidableEq
def CallM.enc (c : CallM) : List AVal := [.int .i64 c.sys, .int .i64 c.a, .int .i64 c.b, .str c.s, .str c.t]
structure OpM where
  kind : Int
  a : Int
  b : Int
  c : Int
  call : CallM
  deriving DecidableEq
def OpM.enc (o : OpM) : List AVal := [.int .i64 o.kind, .int .i64 o.a, .int .i64 o.b, .int .i64 o.c, .int .i64 o.call.sys, .int .i64 o.call.a, .int .i64 o.call.b, .str o.call.s, .str o.call.t]
theorem OpM.enc_length (o : OpM) : o.enc.length = 9 := rfl
theorem OpM.enc_ones (o : OpM) : o.enc.all AVal.one = true := rfl

theorem eqCall (h : Heap) (c d : CallM) : evalBin h .eql (some (.agg 5 [(0, .int), (1, .int), (2, .int), (3, .str), (4, .str)])) (.agg c.enc) (.agg d.enc) = some (.bool (decide (c = d))) := by
  obtain ⟨a1, a2, a3, a4, a5⟩ := c
  obtain ⟨b1, b2, b3, b4, b5⟩ := d
  by_cases h1 : a1 = b1
  · by_cases h2 : a2 = b2
    · by_cases h3 : a3 = b3
      · by_cases h4 : a4 = b4
        · by_cases h5 : a5 = b5
          · simp [evalBin, eqPlan, eqLeaves, eqLeaf, CallM.enc, h1, h2, h3, h4, h5]
          · simp [evalBin, eqPlan, eqLeaves, eqLeaf, CallM.enc, h1, h2, h3, h4, h5, beq_eq_false_iff_ne.2 h5]
        · simp [evalBin, eqPlan, eqLeaves, eqLeaf, CallM.enc, h1, h2, h3, h4, beq_eq_false_iff_ne.2 h4]
      · simp [evalBin, eqPlan, eqLeaves, eqLeaf, CallM.enc, h1, h2, h3]
    · simp [evalBin, eqPlan, eqLeaves, eqLeaf, CallM.enc, h1, h2]
  · simp [evalBin, eqPlan, eqLeaves, eqLeaf, CallM.enc, h1]

theorem eqOp (h : Heap) (c d : OpM) : evalBin h .eql (some (.agg 9 [(0, .int), (1, .int), (2, .int), (3, .int), (4, .int), (5, .int), (6, .int), (7, .str), (8, .str)])) (.agg c.enc) (.agg d.enc) = some (.bool (decide (c = d))) := by
  obtain ⟨a1, a2, a3, a4, a5, a6, a7, a8, a9⟩ := c
  obtain ⟨b1, b2, b3, b4, b5, b6, b7, b8, b9⟩ := d
  by_cases h1 : a1 = b1
  · by_cases h2 : a2 = b2
    · by_cases h3 : a3 = b3
      · by_cases h4 : a4 = b4
        · by_cases h5 : a5 = b5
          · by_cases h6 : a6 = b6
            · by_cases h7 : a7 = b7
              · by_cases h8 : a8 = b8
                · by_cases h9 : a9 = b9
                  · simp [evalBin, eqPlan, eqLeaves, eqLeaf, OpM.enc, h1, h2, h3, h4, h5, h6, h7, h8, h9]
                  · simp [evalBin, eqPlan, eqLeaves, eqLeaf, OpM.enc, h1, h2, h3, h4, h5, h6, h7, h8, h9, beq_eq_false_iff_ne.2 h9]
                · simp [evalBin, eqPlan, eqLeaves, eqLeaf, OpM.enc, h1, h2, h3, h4, h5, h6, h7, h8, beq_eq_false_iff_ne.2 h8]
              · simp [evalBin, eqPlan, eqLeaves, eqLeaf, OpM.enc, h1, h2, h3, h4, h5, h6, h7]
            · simp [evalBin, eqPlan, eqLeaves, eqLeaf, OpM.enc, h1, h2, h3, h4, h5, h6]
          · simp [evalBin, eqPlan, eqLeaves, eqLeaf, OpM.enc, h1, h2, h3, h4, h5]
        · simp [evalBin, eqPlan, eqLeaves, eqLeaf, OpM.enc, h1, h2, h3, h4]
      · simp [evalBin, eqPlan, eqLeaves, eqLeaf, OpM.enc, h1, h2, h3]
    · simp [evalBin, eqPlan, eqLeaves, eqLeaf, OpM.enc, h1, h2]
  · simp [evalBin, eqPlan, eqLeaves, eqLeaf, OpM.enc, h1]

theorem eqCall' (h : Heap) (a1 a2 a3 b1 b2 b3 : Int) (a4 a5 b4 b5 : List UInt8) : evalBin h .eql (some (.agg 5 [(0, .int), (1, .int), (2, .int), (3, .str), (4, .str)])) (.agg [.int .i64 a1, .int .i64 a2, .int .i64 a3, .str a4, .str a5]) (.agg [.int .i64 b1, .int .i64 b2, .int .i64 b3, .str b4, .str b5]) = some (.bool (decide ((⟨a1, a2, a3, a4, a5⟩ : CallM) = ⟨b1, b2, b3, b4, b5⟩))) :=
  eqCall h ⟨a1, a2, a3, a4, a5⟩ ⟨b1, b2, b3, b4, b5⟩
theorem eqOp' (h : Heap) (a1 a2 a3 a4 a5 a6 a7 b1 b2 b3 b4 b5 b6 b7 : Int) (a8 a9 b8 b9 : List UInt8) : evalBin h .eql (some (.agg 9 [(0, .int), (1, .int), (2, .int), (3, .int), (4, .int), (5, .int), (6, .int), (7, .str), (8, .str)]))
    (.agg [.int .i64 a1, .int .i64 a2, .int .i64 a3, .int .i64 a4, .int .i64 a5, .int .i64 a6, .int .i64 a7, .str a8, .str a9]) (.agg [.int .i64 b1, .int .i64 b2, .int .i64 b3, .int .i64 b4, .int .i64 b5, .int .i64 b6, .int .i64 b7, .str b8, .str b9]) = some (.bool (decide ((⟨a1, a2, a3, a4, ⟨a5, a6, a7, a8, a9⟩⟩ : OpM) = ⟨b1, b2, b3, b4, ⟨b5, b6, b7, b8, b9⟩⟩))) :=
  eqOp h ⟨a1, a2, a3, a4, ⟨a5, a6, a7, a8, a9⟩⟩ ⟨b1, b2, b3, b4, ⟨b5, b6, b7, b8, b9⟩⟩

theorem pwithin_spec (x a b : Int) (h : Heap) (Q : AVal → Heap → Prop) (q : Q (.bool (inB x a b)) h) : cl n_prog_within [.int .i64 x, .int .i64 a, .int .i64 b] h Q := by
  apply prog_within_wp
  unfold prog_within
  unfold inB at q
  by_cases h1 : a ≤ x
  · simp (disch := first | omega | (simp only [Heap.next_push, Heap.next_set]; try omega; done)) [go_sem, -getElem?_pos, h1, prog_within_g1]
    simpa [h1] using q
  · simp (disch := first | omega | (simp only [Heap.next_push, Heap.next_set]; try omega; done)) [go_sem, -getElem?_pos, h1, prog_within_g1]
    simpa [h1] using q

def pathB (s : List UInt8) : Bool := decide (s.length ≤ 100)
theorem path_spec (s : List UInt8) (h : Heap) (Q : AVal → Heap → Prop) (q : Q (.bool (pathB s)) h) : cl n_prog_path [.str s] h Q := by
  apply prog_path_wp
  unfold prog_path
  simp (disch := first | omega | (simp only [Heap.next_push, Heap.next_set]; try omega; done)) [go_sem, -getElem?_pos]
  have : (decide ((s.length : Int) ≤ 100)) = pathB s := by unfold pathB; congr 1; simp; omega
  rw [this]
  exact q

/-- What is named of a call, and whether it may be. -/
def formC (sys : Int) (c : CallM) : Option (CallM × Bool) :=
  if sys = 1 then some (⟨0, c.a, 0, c.s, []⟩, pathB c.s && inB c.a 0 7)
  else if sys = 2 ∨ sys = 6 then some (⟨0, c.a, 0, [], []⟩, inB c.a 0 7)
  else if sys = 3 ∨ sys = 5 then some (⟨0, c.a, c.b, [], []⟩, inB c.a 0 7 && inB c.b 0 512)
  else if sys = 4 then some (⟨0, c.a, 0, c.s, []⟩, inB c.a 0 7 && decide (c.s.length ≤ 512))
  else if sys = 7 then some (⟨0, 0, 0, c.s, c.t⟩, pathB c.s && pathB c.t)
  else if sys = 8 ∨ sys = 9 ∨ sys = 10 ∨ sys = 12 ∨ sys = 13 then some (⟨0, 0, 0, c.s, []⟩, pathB c.s)
  else if sys = 11 ∨ sys = 16 ∨ sys = 17 then some (⟨0, 0, 0, [], []⟩, true)
  else if sys = 14 then some (⟨0, c.a, 0, [], []⟩, inB c.a 0 39)
  else if sys = 15 then some (⟨0, c.a, 0, [], []⟩, inB c.a 0 255)
  else none
def mayCallB (c : CallM) : Bool := match formC c.sys c with
  | some (n, ok) => ok && decide ({ n with sys := c.sys } = c)
  | none => false

theorem prog_bare_spec (c : CallM) (h : Heap) (Q : AVal → Heap → Prop) (q : ∀ h', Old h h' → Q (.tuple [.agg (CallM.enc ⟨0, 0, 0, [], []⟩), .bool (true)]) h') : cl n_prog_bare [.agg c.enc] h Q := by
  apply prog_bare_wp
  unfold prog_bare
  unfold CallM.enc at q ⊢
  simp (disch := first | omega | (simp only [Heap.next_push, Heap.next_set]; try omega; done)) [go_sem, -getElem?_pos]
  exact q _ (by (repeat (first | exact Old.refl _ | assumption | refine Old.push ?_ _ | refine Old.setNew ?_ _ (by first | omega | (simp only [Heap.next_push, Heap.next_set]; try omega; done)))))

theorem prog_one_spec (c : CallM) (h : Heap) (Q : AVal → Heap → Prop) (q : ∀ h', Old h h' → Q (.tuple [.agg (CallM.enc ⟨0, 0, 0, c.s, []⟩), .bool (pathB c.s)]) h') : cl n_prog_one [.agg c.enc] h Q := by
  apply prog_one_wp
  unfold prog_one
  unfold CallM.enc at q ⊢
  simp (disch := first | omega | (simp only [Heap.next_push, Heap.next_set]; try omega; done)) [go_sem, -getElem?_pos]
  apply path_spec
  simp (disch := first | omega | (simp only [Heap.next_push, Heap.next_set]; try omega; done)) [go_sem, -getElem?_pos]
  exact q _ (by (repeat (first | exact Old.refl _ | assumption | refine Old.push ?_ _ | refine Old.setNew ?_ _ (by first | omega | (simp only [Heap.next_push, Heap.next_set]; try omega; done)))))

theorem prog_number_spec (c : CallM) (h : Heap) (Q : AVal → Heap → Prop) (q : ∀ h', Old h h' → Q (.tuple [.agg (CallM.enc ⟨0, c.a, 0, [], []⟩), .bool (inB c.a 0 7)]) h') : cl n_prog_number [.agg c.enc] h Q := by
  apply prog_number_wp
  unfold prog_number
  unfold CallM.enc at q ⊢
  simp (disch := first | omega | (simp only [Heap.next_push, Heap.next_set]; try omega; done)) [go_sem, -getElem?_pos]
  apply pwithin_spec
  simp (disch := first | omega | (simp only [Heap.next_push, Heap.next_set]; try omega; done)) [go_sem, -getElem?_pos]
  exact q _ (by (repeat (first | exact Old.refl _ | assumption | refine Old.push ?_ _ | refine Old.setNew ?_ _ (by first | omega | (simp only [Heap.next_push, Heap.next_set]; try omega; done)))))

theorem prog_fork_spec (c : CallM) (h : Heap) (Q : AVal → Heap → Prop) (q : ∀ h', Old h h' → Q (.tuple [.agg (CallM.enc ⟨0, c.a, 0, [], []⟩), .bool (inB c.a 0 39)]) h') : cl n_prog_fork [.agg c.enc] h Q := by
  apply prog_fork_wp
  unfold prog_fork
  unfold CallM.enc at q ⊢
  simp (disch := first | omega | (simp only [Heap.next_push, Heap.next_set]; try omega; done)) [go_sem, -getElem?_pos]
  apply pwithin_spec
  simp (disch := first | omega | (simp only [Heap.next_push, Heap.next_set]; try omega; done)) [go_sem, -getElem?_pos]
  exact q _ (by (repeat (first | exact Old.refl _ | assumption | refine Old.push ?_ _ | refine Old.setNew ?_ _ (by first | omega | (simp only [Heap.next_push, Heap.next_set]; try omega; done)))))

theorem prog_exit_spec (c : CallM) (h : Heap) (Q : AVal → Heap → Prop) (q : ∀ h', Old h h' → Q (.tuple [.agg (CallM.enc ⟨0, c.a, 0, [], []⟩), .bool (inB c.a 0 255)]) h') : cl n_prog_exit [.agg c.enc] h Q := by
  apply prog_exit_wp
  unfold prog_exit
  unfold CallM.enc at q ⊢
  simp (disch := first | omega | (simp only [Heap.next_push, Heap.next_set]; try omega; done)) [go_sem, -getElem?_pos]
  apply pwithin_spec
  simp (disch := first | omega | (simp only [Heap.next_push, Heap.next_set]; try omega; done)) [go_sem, -getElem?_pos]
  exact q _ (by (repeat (first | exact Old.refl _ | assumption | refine Old.push ?_ _ | refine Old.setNew ?_ _ (by first | omega | (simp only [Heap.next_push, Heap.next_set]; try omega; done)))))

theorem prog_two_spec (c : CallM) (h : Heap) (Q : AVal → Heap → Prop) (q : ∀ h', Old h h' → Q (.tuple [.agg (CallM.enc ⟨0, 0, 0, c.s, c.t⟩), .bool (pathB c.s && pathB c.t)]) h') : cl n_prog_two [.agg c.enc] h Q := by
  apply prog_two_wp
  unfold prog_two
  unfold CallM.enc at q ⊢
  simp (disch := first | omega | (simp only [Heap.next_push, Heap.next_set]; try omega; done)) [go_sem, -getElem?_pos]
  apply path_spec
  cases hb : pathB c.s
  · simp (disch := first | omega | (simp only [Heap.next_push, Heap.next_set]; try omega; done)) [go_sem, -getElem?_pos, hb]
    have := fun h' o => q h' o
    rw [hb] at q
    exact q _ (by (repeat (first | exact Old.refl _ | assumption | refine Old.push ?_ _ | refine Old.setNew ?_ _ (by first | omega | (simp only [Heap.next_push, Heap.next_set]; try omega; done)))))
  · simp (disch := first | omega | (simp only [Heap.next_push, Heap.next_set]; try omega; done)) [go_sem, -getElem?_pos, hb]
    apply path_spec
    simp (disch := first | omega | (simp only [Heap.next_push, Heap.next_set]; try omega; done)) [go_sem, -getElem?_pos, hb]
    rw [hb] at q
    simpa using q _ (by (repeat (first | exact Old.refl _ | assumption | refine Old.push ?_ _ | refine Old.setNew ?_ _ (by first | omega | (simp only [Heap.next_push, Heap.next_set]; try omega; done)))))

theorem prog_open_spec (c : CallM) (h : Heap) (Q : AVal → Heap → Prop) (q : ∀ h', Old h h' → Q (.tuple [.agg (CallM.enc ⟨0, c.a, 0, c.s, []⟩), .bool (pathB c.s && inB c.a 0 7)]) h') : cl n_prog_open [.agg c.enc] h Q := by
  apply prog_open_wp
  unfold prog_open
  unfold CallM.enc at q ⊢
  simp (disch := first | omega | (simp only [Heap.next_push, Heap.next_set]; try omega; done)) [go_sem, -getElem?_pos]
  apply path_spec
  cases hb : pathB c.s
  · simp (disch := first | omega | (simp only [Heap.next_push, Heap.next_set]; try omega; done)) [go_sem, -getElem?_pos, hb]
    have := fun h' o => q h' o
    rw [hb] at q
    exact q _ (by (repeat (first | exact Old.refl _ | assumption | refine Old.push ?_ _ | refine Old.setNew ?_ _ (by first | omega | (simp only [Heap.next_push, Heap.next_set]; try omega; done)))))
  · simp (disch := first | omega | (simp only [Heap.next_push, Heap.next_set]; try omega; done)) [go_sem, -getElem?_pos, hb]
    apply pwithin_spec
    simp (disch := first | omega | (simp only [Heap.next_push, Heap.next_set]; try omega; done)) [go_sem, -getElem?_pos, hb]
    rw [hb] at q
    simpa using q _ (by (repeat (first | exact Old.refl _ | assumption | refine Old.push ?_ _ | refine Old.setNew ?_ _ (by first | omega | (simp only [Heap.next_push, Heap.next_set]; try omega; done)))))

theorem prog_bytes_spec (c : CallM) (h : Heap) (Q : AVal → Heap → Prop) (q : ∀ h', Old h h' → Q (.tuple [.agg (CallM.enc ⟨0, c.a, c.b, [], []⟩), .bool (inB c.a 0 7 && inB c.b 0 512)]) h') : cl n_prog_bytes [.agg c.enc] h Q := by
  apply prog_bytes_wp
  unfold prog_bytes
  unfold CallM.enc at q ⊢
  simp (disch := first | omega | (simp only [Heap.next_push, Heap.next_set]; try omega; done)) [go_sem, -getElem?_pos]
  apply pwithin_spec
  cases hb : inB c.a 0 7
  · simp (disch := first | omega | (simp only [Heap.next_push, Heap.next_set]; try omega; done)) [go_sem, -getElem?_pos, hb]
    have := fun h' o => q h' o
    rw [hb] at q
    exact q _ (by (repeat (first | exact Old.refl _ | assumption | refine Old.push ?_ _ | refine Old.setNew ?_ _ (by first | omega | (simp only [Heap.next_push, Heap.next_set]; try omega; done)))))
  · simp (disch := first | omega | (simp only [Heap.next_push, Heap.next_set]; try omega; done)) [go_sem, -getElem?_pos, hb]
    apply pwithin_spec
    simp (disch := first | omega | (simp only [Heap.next_push, Heap.next_set]; try omega; done)) [go_sem, -getElem?_pos, hb]
    rw [hb] at q
    simpa using q _ (by (repeat (first | exact Old.refl _ | assumption | refine Old.push ?_ _ | refine Old.setNew ?_ _ (by first | omega | (simp only [Heap.next_push, Heap.next_set]; try omega; done)))))

theorem prog_write_spec (c : CallM) (h : Heap) (Q : AVal → Heap → Prop) (q : ∀ h', Old h h' → Q (.tuple [.agg (CallM.enc ⟨0, c.a, 0, c.s, []⟩), .bool (inB c.a 0 7 && decide (c.s.length ≤ 512))]) h') : cl n_prog_write [.agg c.enc] h Q := by
  apply prog_write_wp
  unfold prog_write
  unfold CallM.enc at q ⊢
  simp (disch := first | omega | (simp only [Heap.next_push, Heap.next_set]; try omega; done)) [go_sem, -getElem?_pos]
  apply pwithin_spec
  cases hb : inB c.a 0 7
  · simp (disch := first | omega | (simp only [Heap.next_push, Heap.next_set]; try omega; done)) [go_sem, -getElem?_pos, hb, prog_write_g1]
    have := fun h' o => q h' o
    rw [hb] at q
    exact q _ (by (repeat (first | exact Old.refl _ | assumption | refine Old.push ?_ _ | refine Old.setNew ?_ _ (by first | omega | (simp only [Heap.next_push, Heap.next_set]; try omega; done)))))
  · simp (disch := first | omega | (simp only [Heap.next_push, Heap.next_set]; try omega; done)) [go_sem, -getElem?_pos, hb, prog_write_g1]
    have e : decide ((c.s.length : Int) ≤ 512) = decide (c.s.length ≤ 512) := by congr 1; simp; omega
    rw [hb] at q
    rw [e]
    simpa using q _ (by (repeat (first | exact Old.refl _ | assumption | refine Old.push ?_ _ | refine Old.setNew ?_ _ (by first | omega | (simp only [Heap.next_push, Heap.next_set]; try omega; done)))))

/-- Which function a call's form is. -/
def callF (x : Int) : AVal :=
  if x = 1 then .func n_prog_open [] []
  else if x = 2 ∨ x = 6 then .func n_prog_number [] []
  else if x = 3 ∨ x = 5 then .func n_prog_bytes [] []
  else if x = 4 then .func n_prog_write [] []
  else if x = 7 then .func n_prog_two [] []
  else if x = 8 ∨ x = 9 ∨ x = 10 ∨ x = 12 ∨ x = 13 then .func n_prog_one [] []
  else if x = 11 ∨ x = 16 ∨ x = 17 then .func n_prog_bare [] []
  else if x = 14 then .func n_prog_fork [] []
  else if x = 15 then .func n_prog_exit [] []
  else .nilfunc
theorem prog_call_spec (x : Int) (h : Heap) (Q : AVal → Heap → Prop) (q : Q (callF x) h) : cl n_prog_call [.int .i64 x] h Q := by
  apply prog_call_wp
  unfold prog_call
  by_cases hx : 1 ≤ x ∧ x ≤ 17
  · rcases (by omega : x = 1 ∨ x = 2 ∨ x = 3 ∨ x = 4 ∨ x = 5 ∨ x = 6 ∨ x = 7 ∨ x = 8 ∨ x = 9 ∨ x = 10 ∨ x = 11 ∨ x = 12 ∨ x = 13 ∨ x = 14 ∨ x = 15 ∨ x = 16 ∨ x = 17) with rfl | rfl | rfl | rfl | rfl | rfl | rfl | rfl | rfl | rfl | rfl | rfl | rfl | rfl | rfl | rfl | rfl
    all_goals (simp (disch := first | omega | (simp only [Heap.next_push, Heap.next_set]; try omega; done)) [go_sem, -getElem?_pos]; exact q)
  · have e : ∀ k : Int, 1 ≤ k → k ≤ 17 → (x = k) = False := fun k _ _ => eq_false (by omega)
    have q' : Q .nilfunc h := by simpa [callF, e 1, e 2, e 3, e 4, e 5, e 6, e 7, e 8, e 9, e 10, e 11, e 12, e 13, e 14, e 15, e 16, e 17] using q
    simp (disch := first | omega | (simp only [Heap.next_push, Heap.next_set]; try omega; done)) [go_sem, -getElem?_pos, e 1, e 2, e 3, e 4, e 5, e 6, e 7, e 8, e 9, e 10, e 11, e 12, e 13, e 14, e 15, e 16, e 17]
    exact q'

theorem callF_spec (x : Int) (c : CallM) : (callF x = .nilfunc ∧ formC x c = none) ∨ ∃ f n ok, callF x = .func f [] [] ∧ formC x c = some (n, ok) ∧ ∀ h Q, (∀ h', Old h h' → Q (.tuple [.agg (CallM.enc n), .bool ok]) h') → cl f [.agg c.enc] h Q := by
  unfold callF formC
  by_cases h1 : x = 1
  · simp only [h1, if_true]; exact .inr ⟨_, _, _, rfl, rfl, prog_open_spec c⟩
  rw [if_neg h1, if_neg h1]
  by_cases h2 : x = 2 ∨ x = 6
  · rw [if_pos h2, if_pos h2]; exact .inr ⟨_, _, _, rfl, rfl, prog_number_spec c⟩
  rw [if_neg h2, if_neg h2]
  by_cases h3 : x = 3 ∨ x = 5
  · rw [if_pos h3, if_pos h3]; exact .inr ⟨_, _, _, rfl, rfl, prog_bytes_spec c⟩
  rw [if_neg h3, if_neg h3]
  by_cases h4 : x = 4
  · rw [if_pos h4, if_pos h4]; exact .inr ⟨_, _, _, rfl, rfl, prog_write_spec c⟩
  rw [if_neg h4, if_neg h4]
  by_cases h5 : x = 7
  · rw [if_pos h5, if_pos h5]; exact .inr ⟨_, _, _, rfl, rfl, prog_two_spec c⟩
  rw [if_neg h5, if_neg h5]
  by_cases h6 : x = 8 ∨ x = 9 ∨ x = 10 ∨ x = 12 ∨ x = 13
  · rw [if_pos h6, if_pos h6]; exact .inr ⟨_, _, _, rfl, rfl, prog_one_spec c⟩
  rw [if_neg h6, if_neg h6]
  by_cases h7 : x = 11 ∨ x = 16 ∨ x = 17
  · rw [if_pos h7, if_pos h7]; exact .inr ⟨_, _, _, rfl, rfl, prog_bare_spec c⟩
  rw [if_neg h7, if_neg h7]
  by_cases h8 : x = 14
  · rw [if_pos h8, if_pos h8]; exact .inr ⟨_, _, _, rfl, rfl, prog_fork_spec c⟩
  rw [if_neg h8, if_neg h8]
  by_cases h9 : x = 15
  · rw [if_pos h9, if_pos h9]; exact .inr ⟨_, _, _, rfl, rfl, prog_exit_spec c⟩
  rw [if_neg h9, if_neg h9]
  exact .inl ⟨rfl, rfl⟩

theorem mayCall_spec (c : CallM) (h : Heap) (Q : AVal → Heap → Prop) (q : ∀ h', Old h h' → Q (.bool (mayCallB c)) h') : cl n_prog_MayCall [.agg c.enc] h Q := by
  apply prog_MayCall_wp
  unfold prog_MayCall
  refine al_box c.enc rfl rfl ?_
  intro b h1 hb n1 o1 g
  unfold CallM.enc at g
  simp (disch := first | omega | (simp only [Heap.next_push, Heap.next_set]; try omega; done)) [go_sem, -getElem?_pos, g]
  apply prog_call_spec
  rcases callF_spec c.sys c with ⟨e1, e2⟩ | ⟨f, n, ok, e1, e2, hf⟩
  · rw [e1]
    simp (disch := first | omega | (simp only [Heap.next_push, Heap.next_set]; try omega; done)) [go_sem, -getElem?_pos]
    have := q h1 o1
    unfold mayCallB at this
    rw [e2] at this
    exact this
  · rw [e1]
    simp (disch := first | omega | (simp only [Heap.next_push, Heap.next_set]; try omega; done)) [go_sem, -getElem?_pos, g]
    refine hf h1 _ ?_
    intro h2 o2
    have g2 := o2.keeps g
    have n2 := o2.next
    simp (disch := first | omega | (simp only [Heap.next_push, Heap.next_set]; try omega; done)) [go_sem, -getElem?_pos, CallM.enc, g2]
    have e3 : mayCallB c = (ok && decide ({ n with sys := c.sys } = c)) := by unfold mayCallB; rw [e2]
    have o3 : ∀ {h'}, Old h2 h' → Old h h' := fun o => (o1.trans o2).trans o
    cases ok
    · simp (disch := first | omega | (simp only [Heap.next_push, Heap.next_set]; try omega; done)) [go_sem, -getElem?_pos, prog_MayCall_g1]
      rw [Bool.false_and] at e3
      rw [e3] at q
      exact q _ (o3 (by (repeat (first | exact Old.refl _ | assumption | refine Old.push ?_ _ | refine Old.setNew ?_ _ (by first | omega | (simp only [Heap.next_push, Heap.next_set]; try omega; done))))))
    · simp (disch := first | omega | (simp only [Heap.next_push, Heap.next_set]; try omega; done)) [go_sem, -getElem?_pos, prog_MayCall_g1, g2, eqCall']
      have e4 : decide ({ n with sys := c.sys } = c) = (decide (n.a = c.a) && (decide (n.b = c.b) && (decide (n.s = c.s) && decide (n.t = c.t)))) := by
        cases c; simp
      rw [Bool.true_and, e4] at e3
      rw [e3] at q
      exact q _ (o3 (by (repeat (first | exact Old.refl _ | assumption | refine Old.push ?_ _ | refine Old.setNew ?_ _ (by first | omega | (simp only [Heap.next_push, Heap.next_set]; try omega; done))))))

/-- What is named of a step, and whether it may be. -/
def call0 : CallM := ⟨0, 0, 0, [], []⟩
def op0 : OpM := ⟨0, 0, 0, 0, call0⟩
def formO (kind : Int) (o : OpM) : Option (OpM × Bool) :=
  if kind = 0 ∨ kind = 4 ∨ kind = 6 then some (op0, true)
  else if kind = 1 ∨ kind = 7 then some ({ op0 with a := o.a }, inB o.a 1 1000)
  else if kind = 2 ∨ kind = 3 then some ({ op0 with a := o.a }, inB o.a 0 5)
  else if kind = 5 then some ({ op0 with a := o.a }, inB o.a 0 39)
  else if kind = 8 then some ({ op0 with a := o.a, b := o.b, c := o.c }, (inB o.a 0 3 && inB o.b 0 5) && inB o.c 0 1000)
  else if kind = 9 then some ({ op0 with a := o.a }, inB o.a 0 3)
  else if kind = 10 then some ({ op0 with call := o.call }, mayCallB o.call)
  else none
def mayOpB (o : OpM) : Bool := match formO o.kind o with
  | some (n, ok) => ok && decide ({ n with kind := o.kind } = o)
  | none => false

theorem prog_none_spec (o : OpM) (h : Heap) (Q : AVal → Heap → Prop) (q : ∀ h', Old h h' → Q (.tuple [.agg op0.enc, .bool true]) h') : cl n_prog_none [.agg o.enc] h Q := by
  apply prog_none_wp
  unfold prog_none
  unfold OpM.enc at q ⊢
  simp (disch := first | omega | (simp only [Heap.next_push, Heap.next_set]; try omega; done)) [go_sem, -getElem?_pos]
  exact q _ (by (repeat (first | exact Old.refl _ | assumption | refine Old.push ?_ _ | refine Old.setNew ?_ _ (by first | omega | (simp only [Heap.next_push, Heap.next_set]; try omega; done)))))
theorem prog_ticks_spec (o : OpM) (h : Heap) (Q : AVal → Heap → Prop) (q : ∀ h', Old h h' → Q (.tuple [.agg (OpM.enc { op0 with a := o.a }), .bool (inB o.a 1 1000)]) h') : cl n_prog_ticks [.agg o.enc] h Q := by
  apply prog_ticks_wp
  unfold prog_ticks
  unfold OpM.enc at q ⊢
  simp (disch := first | omega | (simp only [Heap.next_push, Heap.next_set]; try omega; done)) [go_sem, -getElem?_pos]
  apply pwithin_spec
  simp (disch := first | omega | (simp only [Heap.next_push, Heap.next_set]; try omega; done)) [go_sem, -getElem?_pos]
  exact q _ (by (repeat (first | exact Old.refl _ | assumption | refine Old.push ?_ _ | refine Old.setNew ?_ _ (by first | omega | (simp only [Heap.next_push, Heap.next_set]; try omega; done)))))
theorem prog_mutex_spec (o : OpM) (h : Heap) (Q : AVal → Heap → Prop) (q : ∀ h', Old h h' → Q (.tuple [.agg (OpM.enc { op0 with a := o.a }), .bool (inB o.a 0 5)]) h') : cl n_prog_mutex [.agg o.enc] h Q := by
  apply prog_mutex_wp
  unfold prog_mutex
  unfold OpM.enc at q ⊢
  simp (disch := first | omega | (simp only [Heap.next_push, Heap.next_set]; try omega; done)) [go_sem, -getElem?_pos]
  apply pwithin_spec
  simp (disch := first | omega | (simp only [Heap.next_push, Heap.next_set]; try omega; done)) [go_sem, -getElem?_pos]
  exact q _ (by (repeat (first | exact Old.refl _ | assumption | refine Old.push ?_ _ | refine Old.setNew ?_ _ (by first | omega | (simp only [Heap.next_push, Heap.next_set]; try omega; done)))))
theorem prog_jump_spec (o : OpM) (h : Heap) (Q : AVal → Heap → Prop) (q : ∀ h', Old h h' → Q (.tuple [.agg (OpM.enc { op0 with a := o.a }), .bool (inB o.a 0 39)]) h') : cl n_prog_jump [.agg o.enc] h Q := by
  apply prog_jump_wp
  unfold prog_jump
  unfold OpM.enc at q ⊢
  simp (disch := first | omega | (simp only [Heap.next_push, Heap.next_set]; try omega; done)) [go_sem, -getElem?_pos]
  apply pwithin_spec
  simp (disch := first | omega | (simp only [Heap.next_push, Heap.next_set]; try omega; done)) [go_sem, -getElem?_pos]
  exact q _ (by (repeat (first | exact Old.refl _ | assumption | refine Old.push ?_ _ | refine Old.setNew ?_ _ (by first | omega | (simp only [Heap.next_push, Heap.next_set]; try omega; done)))))
theorem prog_cond_spec (o : OpM) (h : Heap) (Q : AVal → Heap → Prop) (q : ∀ h', Old h h' → Q (.tuple [.agg (OpM.enc { op0 with a := o.a }), .bool (inB o.a 0 3)]) h') : cl n_prog_cond [.agg o.enc] h Q := by
  apply prog_cond_wp
  unfold prog_cond
  unfold OpM.enc at q ⊢
  simp (disch := first | omega | (simp only [Heap.next_push, Heap.next_set]; try omega; done)) [go_sem, -getElem?_pos]
  apply pwithin_spec
  simp (disch := first | omega | (simp only [Heap.next_push, Heap.next_set]; try omega; done)) [go_sem, -getElem?_pos]
  exact q _ (by (repeat (first | exact Old.refl _ | assumption | refine Old.push ?_ _ | refine Old.setNew ?_ _ (by first | omega | (simp only [Heap.next_push, Heap.next_set]; try omega; done)))))
theorem prog_wait_spec (o : OpM) (h : Heap) (Q : AVal → Heap → Prop) (q : ∀ h', Old h h' → Q (.tuple [.agg (OpM.enc { op0 with a := o.a, b := o.b, c := o.c }), .bool ((inB o.a 0 3 && inB o.b 0 5) && inB o.c 0 1000)]) h') : cl n_prog_wait [.agg o.enc] h Q := by
  apply prog_wait_wp
  unfold prog_wait
  refine al_box o.enc rfl rfl ?_
  intro b h1 hb n1 o1 g
  refine al_alloc _ ?_
  intro b2 H hb2 n2 o2 g2
  replace g := o2.keeps g
  unfold OpM.enc at g
  simp (disch := first | omega | (simp only [Heap.next_push, Heap.next_set]; try omega; done)) [go_sem, -getElem?_pos, g]
  apply pwithin_spec
  refine prog_wait_g1_mono (K := fun v h' => v = .bool (inB o.a 0 3 && inB o.b 0 5) ∧ h' = H) ?_ ?_
  rotate_left
  · unfold prog_wait_g1
    cases hb : inB o.a 0 3
    · simp (disch := first | omega | (simp only [Heap.next_push, Heap.next_set]; try omega; done)) [go_sem, -getElem?_pos, hb]
    · simp (disch := first | omega | (simp only [Heap.next_push, Heap.next_set]; try omega; done)) [go_sem, -getElem?_pos, hb, g]; apply pwithin_spec; simp (disch := first | omega | (simp only [Heap.next_push, Heap.next_set]; try omega; done)) [go_sem, -getElem?_pos]
  rintro v hh ⟨rfl, rfl⟩
  refine prog_wait_g2_mono (K := fun v h' => v = .bool ((inB o.a 0 3 && inB o.b 0 5) && inB o.c 0 1000) ∧ h' = hh) ?_ ?_
  rotate_left
  · unfold prog_wait_g2
    cases hb : (inB o.a 0 3 && inB o.b 0 5)
    · simp (disch := first | omega | (simp only [Heap.next_push, Heap.next_set]; try omega; done)) [go_sem, -getElem?_pos, hb]
    · simp (disch := first | omega | (simp only [Heap.next_push, Heap.next_set]; try omega; done)) [go_sem, -getElem?_pos, hb, g]; apply pwithin_spec; simp (disch := first | omega | (simp only [Heap.next_push, Heap.next_set]; try omega; done)) [go_sem, -getElem?_pos]
  rintro v hh' ⟨rfl, rfl⟩
  have lt := Heap.get_lt g2
  simp (disch := first | omega | (simp only [Heap.next_push, Heap.next_set]; try omega; done)) [go_sem, -getElem?_pos, g, g2]
  exact q _ ((o1.trans o2).setNew _ (by omega))
theorem prog_asks_spec (o : OpM) (h : Heap) (Q : AVal → Heap → Prop) (q : ∀ h', Old h h' → Q (.tuple [.agg (OpM.enc { op0 with call := o.call }), .bool (mayCallB o.call)]) h') : cl n_prog_asks [.agg o.enc] h Q := by
  apply prog_asks_wp
  unfold prog_asks
  refine al_box o.enc rfl rfl ?_
  intro b h1 hb n1 o1 g
  refine al_alloc _ ?_
  intro b2 H hb2 n2 o2 g2
  replace g := o2.keeps g
  unfold OpM.enc at g
  simp (disch := first | omega | (simp only [Heap.next_push, Heap.next_set]; try omega; done)) [go_sem, -getElem?_pos, g]
  refine mayCall_spec o.call _ _ ?_
  intro h' o'
  have gg := o'.keeps g
  have gg2 := o'.keeps g2
  have lt := Heap.get_lt gg2
  have hne : b ≠ b2 := by omega
  simp (disch := first | omega | (simp only [Heap.next_push, Heap.next_set]; try omega; done)) [go_sem, -getElem?_pos, gg, gg2, hne]
  exact q _ (((o1.trans o2).trans o').setNew _ (by omega))

def opF (x : Int) : AVal :=
  if x = 0 ∨ x = 4 ∨ x = 6 then .func n_prog_none [] []
  else if x = 1 ∨ x = 7 then .func n_prog_ticks [] []
  else if x = 2 ∨ x = 3 then .func n_prog_mutex [] []
  else if x = 5 then .func n_prog_jump [] []
  else if x = 8 then .func n_prog_wait [] []
  else if x = 9 then .func n_prog_cond [] []
  else if x = 10 then .func n_prog_asks [] []
  else .nilfunc
theorem prog_op_spec (x : Int) (h : Heap) (Q : AVal → Heap → Prop) (q : Q (opF x) h) : cl n_prog_op [.int .i64 x] h Q := by
  apply prog_op_wp
  unfold prog_op
  by_cases hx : 0 ≤ x ∧ x ≤ 10
  · rcases (by omega : x = 0 ∨ x = 1 ∨ x = 2 ∨ x = 3 ∨ x = 4 ∨ x = 5 ∨ x = 6 ∨ x = 7 ∨ x = 8 ∨ x = 9 ∨ x = 10) with rfl | rfl | rfl | rfl | rfl | rfl | rfl | rfl | rfl | rfl | rfl
    all_goals (simp (disch := first | omega | (simp only [Heap.next_push, Heap.next_set]; try omega; done)) [go_sem, -getElem?_pos]; exact q)
  · have e : ∀ k : Int, 0 ≤ k → k ≤ 10 → (x = k) = False := fun k _ _ => eq_false (by omega)
    have q' : Q .nilfunc h := by simpa [opF, e 0, e 1, e 2, e 3, e 4, e 5, e 6, e 7, e 8, e 9, e 10] using q
    simp (disch := first | omega | (simp only [Heap.next_push, Heap.next_set]; try omega; done)) [go_sem, -getElem?_pos, e 0, e 1, e 2, e 3, e 4, e 5, e 6, e 7, e 8, e 9, e 10]
    exact q'

theorem opF_spec (x : Int) (c : OpM) : (opF x = .nilfunc ∧ formO x c = none) ∨ ∃ f n ok, opF x = .func f [] [] ∧ formO x c = some (n, ok) ∧ ∀ h Q, (∀ h', Old h h' → Q (.tuple [.agg (OpM.enc n), .bool ok]) h') → cl f [.agg c.enc] h Q := by
  unfold opF formO
  by_cases h1 : x = 0 ∨ x = 4 ∨ x = 6
  · rw [if_pos h1, if_pos h1]; exact .inr ⟨_, _, _, rfl, rfl, prog_none_spec c⟩
  rw [if_neg h1, if_neg h1]
  by_cases h2 : x = 1 ∨ x = 7
  · rw [if_pos h2, if_pos h2]; exact .inr ⟨_, _, _, rfl, rfl, prog_ticks_spec c⟩
  rw [if_neg h2, if_neg h2]
  by_cases h3 : x = 2 ∨ x = 3
  · rw [if_pos h3, if_pos h3]; exact .inr ⟨_, _, _, rfl, rfl, prog_mutex_spec c⟩
  rw [if_neg h3, if_neg h3]
  by_cases h4 : x = 5
  · rw [if_pos h4, if_pos h4]; exact .inr ⟨_, _, _, rfl, rfl, prog_jump_spec c⟩
  rw [if_neg h4, if_neg h4]
  by_cases h5 : x = 8
  · rw [if_pos h5, if_pos h5]; exact .inr ⟨_, _, _, rfl, rfl, prog_wait_spec c⟩
  rw [if_neg h5, if_neg h5]
  by_cases h6 : x = 9
  · rw [if_pos h6, if_pos h6]; exact .inr ⟨_, _, _, rfl, rfl, prog_cond_spec c⟩
  rw [if_neg h6, if_neg h6]
  by_cases h7 : x = 10
  · rw [if_pos h7, if_pos h7]; exact .inr ⟨_, _, _, rfl, rfl, prog_asks_spec c⟩
  rw [if_neg h7, if_neg h7]
  exact .inl ⟨rfl, rfl⟩

theorem mayOp_spec (c : OpM) (h : Heap) (Q : AVal → Heap → Prop) (q : ∀ h', Old h h' → Q (.bool (mayOpB c)) h') : cl n_prog_May [.agg c.enc] h Q := by
  apply prog_May_wp
  unfold prog_May
  refine al_box c.enc rfl rfl ?_
  intro b h1 hb n1 o1 g
  unfold OpM.enc at g
  simp (disch := first | omega | (simp only [Heap.next_push, Heap.next_set]; try omega; done)) [go_sem, -getElem?_pos, g]
  apply prog_op_spec
  rcases opF_spec c.kind c with ⟨e1, e2⟩ | ⟨f, n, ok, e1, e2, hf⟩
  · rw [e1]
    simp (disch := first | omega | (simp only [Heap.next_push, Heap.next_set]; try omega; done)) [go_sem, -getElem?_pos]
    have := q h1 o1
    unfold mayOpB at this
    rw [e2] at this
    exact this
  · rw [e1]
    simp (disch := first | omega | (simp only [Heap.next_push, Heap.next_set]; try omega; done)) [go_sem, -getElem?_pos, g]
    refine hf h1 _ ?_
    intro h2 o2
    have g2 := o2.keeps g
    have n2 := o2.next
    simp (disch := first | omega | (simp only [Heap.next_push, Heap.next_set]; try omega; done)) [go_sem, -getElem?_pos, OpM.enc, g2]
    have e3 : mayOpB c = (ok && decide ({ n with kind := c.kind } = c)) := by unfold mayOpB; rw [e2]
    have o3 : ∀ {h'}, Old h2 h' → Old h h' := fun o => (o1.trans o2).trans o
    cases ok
    · simp (disch := first | omega | (simp only [Heap.next_push, Heap.next_set]; try omega; done)) [go_sem, -getElem?_pos, prog_May_g1]
      rw [Bool.false_and] at e3
      rw [e3] at q
      exact q _ (o3 (by (repeat (first | exact Old.refl _ | assumption | refine Old.push ?_ _ | refine Old.setNew ?_ _ (by first | omega | (simp only [Heap.next_push, Heap.next_set]; try omega; done))))))
    · simp (disch := first | omega | (simp only [Heap.next_push, Heap.next_set]; try omega; done)) [go_sem, -getElem?_pos, prog_May_g1, g2, eqOp']
      have e4 : decide ({ n with kind := c.kind } = c) = (decide (n.a = c.a) && (decide (n.b = c.b) && (decide (n.c = c.c) && (decide (n.call.sys = c.call.sys) && (decide (n.call.a = c.call.a) && (decide (n.call.b = c.call.b) && (decide (n.call.s = c.call.s) && decide (n.call.t = c.call.t)))))))) := by
        obtain ⟨c1, c2, c3, c4, ⟨c5, c6, c7, c8, c9⟩⟩ := c
        obtain ⟨n1, n2, n3, n4, ⟨n5, n6, n7, n8, n9⟩⟩ := n
        simp
      rw [Bool.true_and, e4] at e3
      rw [e3] at q
      exact q _ (o3 (by (repeat (first | exact Old.refl _ | assumption | refine Old.push ?_ _ | refine Old.setNew ?_ _ (by first | omega | (simp only [Heap.next_push, Heap.next_set]; try omega; done))))))

/-- A program of any list. -/
def fixM (l : List OpM) : List OpM := (l.take 40).map fun o => if mayOpB o then o else op0
theorem ops_ones (xs : List OpM) : (xs.flatMap OpM.enc).all AVal.one = true := by
  rw [List.all_eq_true]
  intro x hx
  obtain ⟨o, _, ho⟩ := List.mem_flatMap.1 hx
  exact List.all_eq_true.1 o.enc_ones x ho

theorem ops_take (l : List OpM) : (l.take 40).flatMap OpM.enc = (l.flatMap OpM.enc).take (min l.length 40 * 9) := by
  have e : min l.length 40 * 9 = ((l.take 40).flatMap OpM.enc).length := by
    rw [flat_length OpM.enc_length, List.length_take, Nat.min_comm]
  have e2 : l.flatMap OpM.enc = (l.take 40).flatMap OpM.enc ++ (l.drop 40).flatMap OpM.enc := by
    rw [← List.flatMap_append, List.take_append_drop]
  rw [e, e2, List.take_left]

theorem prog_Fix_spec {h : Heap} {v : AVal} {l : List OpM} (r : Row h 9 v l.length (l.flatMap OpM.enc)) (hc : CapOk v 9) (hn : l.length ≤ 1000000) (Q : AVal → Heap → Prop)
    (q : ∀ h' v' fp, Old h h' → (∀ i ∈ fp, h.next ≤ i) → OwnRow h' 9 v' (fixM l).length ((fixM l).flatMap OpM.enc) fp → Q v' h') : cl n_prog_Fix [v] h Q := by
  apply prog_Fix_wp
  unfold prog_Fix
  simp (disch := first | omega | (simp only [Heap.next_push, Heap.next_set]; try omega; done)) [go_sem, -getElem?_pos, er_lenRow r]
  -- the list cut off
  have hcut : ∃ v2 L, L = l.take 40 ∧ evalRead h (.sliceSl 9 v none (some (.int .i64 (min (l.length : Int) 40))) none) = some v2 ∧ Row h 9 v2 L.length (L.flatMap OpM.enc) := by
    obtain ⟨v2, e, r2, _⟩ := er_cut (k := min l.length 40) r hc (by omega)
    refine ⟨v2, l.take 40, rfl, ?_, ?_⟩
    · rw [← e]
      have : (min (l.length : Int) 40) = ((min l.length 40 : Nat) : Int) := by omega
      rw [this]
    · rw [List.length_take, Nat.min_comm 40, ops_take]
      exact r2
  obtain ⟨v2, L, hL, hv2, r2⟩ := hcut
  have hlen2 : L.length ≤ 40 := by rw [hL]; exact List.length_take_le _ _
  have hfix : fixM l = L.map fun o => if mayOpB o then o else op0 := by rw [hL]; rfl
  rw [hfix] at q
  clear hL hfix
  simp (disch := first | omega | (simp only [Heap.next_push, Heap.next_set]; try omega; done)) [go_sem, -getElem?_pos, hv2, er_lenRow r2]
  refine lp_ind (fun k d h' => ∃ i : Nat, i ≤ L.length ∧ k = L.length - i ∧ Old h h' ∧ ∃ w fp, d = [w, .int .i64 i] ∧ (∀ i ∈ fp, h.next ≤ i) ∧ OwnRow h' 9 w i (((L.take i).map fun o => if mayOpB o then o else op0).flatMap OpM.enc) fp) L.length
    ⟨0, by omega, rfl, Old.refl _, .nilslice, [], rfl, by simp, .inl ⟨rfl, rfl, by simp, rfl⟩⟩ ?_
  rintro k d z h' again hag ⟨i, hi, rfl, ho, w, fp, rfl, hfp, hw⟩
  by_cases hlt : i < L.length
  · rcases r2.old ho with ⟨_, h0, _⟩ | ⟨id, off, c, m, vs, rfl, g, hl, hcs⟩
    · omega
    have hx := row_elem OpM.enc_length hcs hlt
    have hin := row_in hl hlt
    have htk : ∀ o : OpM, List.take 9 o.enc = o.enc := fun _ => rfl
    have hone : ∀ o : OpM, ∀ x ∈ o.enc, x.one = true := fun o => List.all_eq_true.1 o.enc_ones
    simp (disch := first | omega | (simp only [Heap.next_push, Heap.next_set]; try omega; done)) [go_sem, -getElem?_pos, hlt, g, hx, hin, OpM.enc_length, OpM.enc_ones, htk]
    refine mayOp_spec L[i] _ _ ?_
    intro h2 o2
    have n2 := o2.next
    simp only [Heap.next_set, Heap.next_push] at n2
    have gb : h2.get h'.next = some (.cells .rw L[i].enc) := o2.keeps (Heap.get_set_self (by simp))
    have oh : Old h' h2 := Old.trans (by (repeat (first | exact Old.refl _ | assumption | refine Old.push ?_ _ | refine Old.setNew ?_ _ (by first | omega | (simp only [Heap.next_push, Heap.next_set]; try omega; done))))) o2
    -- what is put behind, of whatever step
    have put : ∀ (o : OpM) (h3 : Heap), o = (if mayOpB L[i] then L[i] else op0) → Old h' h3 → h'.next < h3.next →
        wro (appendTo (h3.push (.cells .rw o.enc)) 9 88 w (.slice h3.next 0 1 (.exact 1))) fun v24 h25 => again [v24, .int .i64 (wrapF .i64 ((i : Int) + 1))] h25 := by
      intro o h3 ho3 o3 n3
      have o4 : Old h' (h3.push (.cells .rw o.enc)) := o3.push _
      refine wro_append_own (hw.old o4) (m := 1) (new := o.enc) ?_ o.enc_ones (by omega) (by omega) rfl (by omega) (by omega) ?_
      · rw [shown_at (Heap.get_push_self _ _) (by rw [OpM.enc_length]; decide)]; rfl
      intro v' h4 b4 n4 r4
      simp (disch := first | omega | (simp only [Heap.next_push, Heap.next_set]; try omega; done)) [go_sem, -getElem?_pos, wrapF_i64]
      refine hag (L.length - (i + 1)) _ _ (by omega) ⟨i + 1, by omega, rfl, (ho.trans o4).then b4 hfp, v', [(h3.push (.cells .rw o.enc)).next], by simp, ?_, ?_⟩
      · have := (ho.trans o4).next
        simp only [List.mem_singleton, forall_eq]
        exact this
      · have e : ((L.take (i + 1)).map fun o => if mayOpB o then o else op0).flatMap OpM.enc = ((L.take i).map fun o => if mayOpB o then o else op0).flatMap OpM.enc ++ o.enc := by
          rw [List.take_succ_eq_append_getElem hlt, List.map_append, List.flatMap_append, ho3]; simp
        rw [e]; exact r4
    cases hm : mayOpB L[i]
    · have hd : List.drop 9 L[i].enc = [] := rfl
      simp (disch := first | omega | (simp only [Heap.next_push, Heap.next_set]; try omega; done)) [go_sem, -getElem?_pos, gb, OpM.enc_length, hd]
      exact put op0 (h2.set h'.next (.cells .rw op0.enc)) (by simp [hm]) (oh.setNew _ (by omega)) (by simp; omega)
    · simp (disch := first | omega | (simp only [Heap.next_push, Heap.next_set]; try omega; done)) [go_sem, -getElem?_pos, gb, OpM.enc_length, OpM.enc_ones, htk]
      exact put L[i] h2 (by simp [hm]) oh (by omega)
  · have : i = L.length := by omega
    subst this
    simp (disch := first | omega | (simp only [Heap.next_push, Heap.next_set]; try omega; done)) [go_sem, -getElem?_pos]
    have := q h' w fp ho hfp
    rw [List.length_map] at this
    rw [List.take_length] at hw
    exact this hw
end Go.AM

open Go Go.AM
namespace Go.AM
/-! Threads at their beginning; the kernel at its. -/
/-- A thread, but for what it holds. -/
structure PrioM where
  cls : Int
  level : Int
  due : Int
def PrioM.enc (p : PrioM) : List AVal := [.int .i64 p.cls, .int .i64 p.level, .int .i64 p.due]
structure ResM where
  code : Int
  value : Int
  data : List UInt8
def ResM.enc (r : ResM) : List AVal := [.int .i64 r.code, .int .i64 r.value, .str r.data]
structure ThreadM where
  id : Int
  parent : Int
  base : PrioM
  state : Int
  on : Int
  pc : Int
  left : Int
  sect : Bool
  part : Int
  sum : ResM
  active : Bool
  released : Int
  due : Int
  used : Int
  last : Int
  again : Int
def ThreadM.enc (t : ThreadM) : List AVal :=
  [.int .i64 t.id, .int .i64 t.parent, .int .i64 t.base.cls, .int .i64 t.base.level, .int .i64 t.base.due, .int .i64 t.state, .int .i64 t.on, .int .i64 t.pc, .int .i64 t.left, .bool t.sect, .int .i64 t.part, .int .i64 t.sum.code, .int .i64 t.sum.value, .str t.sum.data, .bool t.active, .int .i64 t.released, .int .i64 t.due, .int .i64 t.used, .int .i64 t.last, .int .i64 t.again, .nilslice]
def res0 : ResM := ⟨0, 0, []⟩
def freshM (id : Int) (p : PrioM) (st : Int) : ThreadM := ⟨id, -1, p, st, -1, 0, 0, false, 0, res0, false, 0, 0, 0, -1, -1⟩

theorem task_fresh_spec (id : Int) (p : PrioM) (st : Int) (h : Heap) (Q : AVal → Heap → Prop) (q : ∀ h', Old h h' → Q (.agg (freshM id p st).enc) h') :
    cl n_task_fresh [.int .i64 id, .agg p.enc, .int .i64 st] h Q := by
  apply task_fresh_wp
  unfold task_fresh
  simp (disch := first | omega | (simp only [Heap.next_push, Heap.next_set]; try omega; done)) [go_sem, -getElem?_pos, PrioM.enc]
  exact q _ (by (repeat (first | exact Old.refl _ | assumption | refine Old.push ?_ _ | refine Old.setNew ?_ _ (by first | omega | (simp only [Heap.next_push, Heap.next_set]; try omega; done)))))

theorem held_clone_nil (h : Heap) (Q : AVal → Heap → Prop) (q : Q .nilslice h) : cl n_slices_Clone_slapi_Held_api_Held_ [.nilslice] h Q := by
  apply slices_Clone_slapi_Held_api_Held__wp
  unfold slices_Clone_slapi_Held_api_Held_
  simp (disch := first | omega | (simp only [Heap.next_push, Heap.next_set]; try omega; done)) [go_sem, -getElem?_pos]
  exact q

theorem task_own_spec (t : ThreadM) (h : Heap) (Q : AVal → Heap → Prop) (q : ∀ h', Old h h' → Q (.agg t.enc) h') : cl n_task_own [.agg t.enc] h Q := by
  apply task_own_wp
  unfold task_own
  simp (disch := first | omega | (simp only [Heap.next_push, Heap.next_set]; try omega; done)) [go_sem, -getElem?_pos, ThreadM.enc]
  apply held_clone_nil
  simp (disch := first | omega | (simp only [Heap.next_push, Heap.next_set]; try omega; done)) [go_sem, -getElem?_pos]
  exact q _ (by (repeat (first | exact Old.refl _ | assumption | refine Old.push ?_ _ | refine Old.setNew ?_ _ (by first | omega | (simp only [Heap.next_push, Heap.next_set]; try omega; done)))))


theorem task_New_spec (id : Int) (t : TaskM) (u p : AVal) (hu : u.one = true) (hp : p.one = true) (h : Heap) (Q : AVal → Heap → Prop) (q : ∀ h', Old h h' → Q (.agg (freshM id ⟨t.cls, t.level, 0⟩ 0).enc) h') :
    cl n_task_New [.int .i64 id, .agg (t.enc u p)] h Q := by
  apply task_New_wp
  unfold task_New
  refine al_box (t.enc u p) rfl (by simp (disch := first | omega | (simp only [Heap.next_push, Heap.next_set]; try omega; done)) [go_sem, -getElem?_pos, TaskM.enc, hu, hp]) ?_
  intro b h1 hb n1 o1 g
  refine al_alloc _ ?_
  intro b2 H hb2 n2 o2 g2
  replace g := o2.keeps g
  unfold TaskM.enc at g
  simp (disch := first | omega | (simp only [Heap.next_push, Heap.next_set]; try omega; done)) [go_sem, -getElem?_pos, g]
  refine task_fresh_spec id ⟨t.cls, t.level, 0⟩ 0 _ _ ?_
  intro h' o'
  have gg2 := o'.keeps g2
  have lt := Heap.get_lt gg2
  simp (disch := first | omega | (simp only [Heap.next_push, Heap.next_set]; try omega; done)) [go_sem, -getElem?_pos, freshM, ThreadM.enc, gg2]
  exact q _ (((o1.trans o2).trans o').setNew _ (by omega))
theorem task_Best_spec (id lv : Int) (p : AVal) (hp : p.one = true) (h : Heap) (Q : AVal → Heap → Prop) (q : ∀ h', Old h h' → Q (.agg (freshM id ⟨0, lv, 0⟩ 1).enc) h') :
    cl n_task_Best [.int .i64 id, .agg [.int .i64 lv, p]] h Q := by
  apply task_Best_wp
  unfold task_Best
  refine al_box [.int .i64 lv, p] rfl (by simp (disch := first | omega | (simp only [Heap.next_push, Heap.next_set]; try omega; done)) [go_sem, -getElem?_pos, hp]) ?_
  intro b h1 hb n1 o1 g
  refine al_alloc _ ?_
  intro b2 H hb2 n2 o2 g2
  replace g := o2.keeps g
  simp (disch := first | omega | (simp only [Heap.next_push, Heap.next_set]; try omega; done)) [go_sem, -getElem?_pos, g]
  refine task_fresh_spec id ⟨0, lv, 0⟩ 1 _ _ ?_
  intro h' o'
  have gg2 := o'.keeps g2
  have lt := Heap.get_lt gg2
  simp (disch := first | omega | (simp only [Heap.next_push, Heap.next_set]; try omega; done)) [go_sem, -getElem?_pos, freshM, ThreadM.enc, gg2]
  exact q _ (((o1.trans o2).trans o').setNew _ (by omega))

theorem ThreadM.enc_length (t : ThreadM) : t.enc.length = 21 := rfl
theorem ThreadM.enc_ones (t : ThreadM) : t.enc.all AVal.one = true := rfl

/-- A thread put behind all others. -/
theorem begin_spec {h : Heap} {kb n : Nat} {c0 c1 thr prg : AVal} {rest csT csP : List AVal} {fpT fpP : List Nat} (g : h.get kb = some (.cells .rw (c0 :: c1 :: thr :: prg :: rest)))
    (rT : OwnRow h 21 thr n csT fpT) (rP : OwnRow h 1 prg n csP fpP) (hT : kb ∉ fpT) (hP : kb ∉ fpP) (hd : ∀ i ∈ fpP, i ∉ fpT) (x : ThreadM) (p : AVal) (hp : p.one = true) (hpc : p.cells = [p]) (hn : n ≤ 1000) (Q : AVal → Heap → Prop)
    (q : ∀ h' thr' prg' a b, But (kb :: (fpT ++ fpP)) h h' → h.next ≤ a → h.next ≤ b → a ≠ b → h'.get kb = some (.cells .rw (c0 :: c1 :: thr' :: prg' :: rest)) →
      OwnRow h' 21 thr' (n + 1) (csT ++ x.enc) [a] → OwnRow h' 1 prg' (n + 1) (csP ++ [p]) [b] → Q (.tuple []) h') : cl n_kern_Kern_begin [.ptr kb 0, .agg x.enc, p] h Q := by
  apply kern_Kern_begin_wp
  unfold kern_Kern_begin
  have lt := Heap.get_lt g
  refine al_box x.enc rfl x.enc_ones ?_
  intro b h1 hb n1 o1 gb
  replace g := o1.keeps g
  have htk : List.take 21 x.enc = x.enc := rfl
  simp (disch := first | omega | (simp only [Heap.next_push, Heap.next_set]; try omega; done)) [go_sem, -getElem?_pos, g, gb, x.enc_length, x.enc_ones, htk]
  refine wro_append_own ((rT.old o1).old (Old.push (Old.refl _) (.cells .rw x.enc))) (m := 1) (new := x.enc) ?_ x.enc_ones (by omega) (by omega) rfl (by omega) (by omega) ?_
  · rw [shown_at (Heap.get_push_self _ _) (by rw [x.enc_length]; decide)]; rfl
  intro v' h4 b4 n4 r4
  have g4 := b4.keeps ((Old.push (Old.refl h1) (.cells .rw x.enc)).keeps g) hT
  have o2 : Old h (h1.push (.cells .rw x.enc)) := o1.push _
  simp only [Heap.next_push] at n4
  simp (disch := first | omega | (simp only [Heap.next_push, Heap.next_set]; try omega; done)) [go_sem, -getElem?_pos, g4, r4.cells, r4.one]
  have B : But (kb :: (fpT ++ fpP)) h h4 := (o2.but _).then b4 (by intro i hi; left; simp [hi])
  have B2 := B.set kb (.cells .rw (c0 :: c1 :: v' :: prg :: rest)) (by simp)
  have nn := o1.next
  have hkb : kb ≠ (h1.push (.cells .rw x.enc)).next := by simp only [Heap.next_push]; omega
  have r4' : OwnRow (h4.set kb (.cells .rw (c0 :: c1 :: v' :: prg :: rest))) 21 v' (n + 1) (csT ++ x.enc) [(h1.push (.cells .rw x.enc)).next] :=
    r4.keep ((But.refl [kb] _).set kb _ (by simp)) (by simpa using Ne.symm hkb)
  have rP4 : OwnRow h4 1 prg n csP fpP := (rP.old o2).keep b4 hd
  have rP4' : OwnRow (h4.set kb (.cells .rw (c0 :: c1 :: v' :: prg :: rest))) 1 prg n csP fpP :=
    rP4.keep ((But.refl [kb] _).set kb _ (by simp)) (by intro i hi; simp; rintro rfl; exact hP hi)
  simp (disch := first | omega | (simp only [Heap.next_push, Heap.next_set]; try omega; done)) [go_sem, -getElem?_pos, hp, hpc]
  generalize hH : h4.set kb (AObj.cells Kind.rw (c0 :: c1 :: v' :: prg :: rest)) = H at *
  have nH : H.next = h4.next := by rw [← hH]; simp
  have gH : H.get kb = some (.cells .rw (c0 :: c1 :: v' :: prg :: rest)) := by rw [← hH]; exact Heap.get_set_self (Heap.get_lt g4)
  refine wro_append_own (rP4'.old (Old.push (Old.refl H) (.cells .rw [p]))) (m := 1) (new := [p]) ?_ (by simp [hp]) (by omega) (by omega) rfl (by omega) (by omega) ?_
  · rw [← nH, shown_at (Heap.get_push_self _ _) (by simp)]; rfl
  intro w h5 b5 n5 r5
  simp only [Heap.next_push] at n5 r5
  have g5 := b5.keeps ((Old.push (Old.refl H) (.cells .rw [p])).keeps gH) hP
  simp (disch := first | omega | (simp only [Heap.next_push, Heap.next_set]; try omega; done)) [go_sem, -getElem?_pos, g5, r5.cells, r5.one]
  simp only [Heap.next_push] at r4'
  have B3 : But (kb :: (fpT ++ fpP)) h (h5.set kb (.cells .rw (c0 :: c1 :: v' :: w :: rest))) :=
    ((B2.thenOld (Old.push (Old.refl H) (.cells .rw [p]))).then b5 (by intro i hi; left; simp [hi])).set kb _ (by simp)
  have r4'' : OwnRow h5 21 v' (n + 1) (csT ++ x.enc) [h1.next + 1] := by
    refine (r4'.old (Old.push (Old.refl H) (.cells .rw [p]))).keep b5 ?_
    intro i hi hm
    have := rP.lt i hm
    simp at hi; omega
  refine q _ v' w (h1.next + 1) (H.next + 1) B3 (by omega) (by omega) (by omega) (Heap.get_set_self (Heap.get_lt g5)) ?_ ?_
  · exact r4''.keep ((But.refl [kb] _).set kb _ (by simp)) (by simp; omega)
  · exact r5.keep ((But.refl [kb] _).set kb _ (by simp)) (by simp; omega)
end Go.AM

open Go Go.AM
namespace Go.AM
/-! Configurations: what may be. -/
/-- A task that came in: its numbers, where its lists lie, and what they are. -/
structure TaskR where
  t : TaskM
  u : AVal
  p : AVal
  uses : List Int
  prog : List OpM
def TaskR.enc (r : TaskR) : List AVal := r.t.enc r.u r.p
structure TaskR.ok (h : Heap) (r : TaskR) : Prop where
  ru : Row h 1 r.u r.uses.length (r.uses.map (.int .i64 ·))
  rp : Row h 9 r.p r.prog.length (r.prog.flatMap OpM.enc)
  cp : CapOk r.p 9
structure EffR where
  lv : Int
  p : AVal
  prog : List OpM
def EffR.enc (r : EffR) : List AVal := [.int .i64 r.lv, r.p]
structure EffR.ok (h : Heap) (r : EffR) : Prop where
  rp : Row h 9 r.p r.prog.length (r.prog.flatMap OpM.enc)
  cp : CapOk r.p 9
structure CfgR where
  v0 : AVal
  v1 : AVal
  v2 : AVal
  v3 : AVal
  tasks : List TaskR
  best : List EffR
  mutexes : List MutexM
  gaps : List Int
  frames : Int
  dog : Int
def CfgR.enc (c : CfgR) : List AVal := [c.v0, c.v1, c.v2, c.v3, .int .i64 c.frames, .int .i64 c.dog]
/-- A configuration that came in. -/
structure CfgR.ok (h : Heap) (c : CfgR) : Prop where
  r0 : Row h 8 c.v0 c.tasks.length (c.tasks.flatMap TaskR.enc)
  t0 : ∀ t ∈ c.tasks, t.ok h
  r1 : Row h 2 c.v1 c.best.length (c.best.flatMap EffR.enc)
  t1 : ∀ t ∈ c.best, t.ok h
  r2 : Row h 2 c.v2 c.mutexes.length (c.mutexes.flatMap MutexM.enc)
  r3 : Row h 1 c.v3 c.gaps.length (c.gaps.map (.int .i64 ·))
theorem TaskR.ok.old {h h' : Heap} {r : TaskR} (k : r.ok h) (o : Old h h') : r.ok h' := ⟨k.ru.old o, k.rp.old o, k.cp⟩
theorem EffR.ok.old {h h' : Heap} {r : EffR} (k : r.ok h) (o : Old h h') : r.ok h' := ⟨k.rp.old o, k.cp⟩
theorem CfgR.ok.old {h h' : Heap} {c : CfgR} (k : c.ok h) (o : Old h h') : c.ok h' := ⟨k.r0.old o, fun t m => (k.t0 t m).old o, k.r1.old o, fun t m => (k.t1 t m).old o, k.r2.old o, k.r3.old o⟩
theorem CfgR.ok.ones {h : Heap} {c : CfgR} (k : c.ok h) : c.enc.all AVal.one = true := by
  simp (disch := first | omega | (simp only [Heap.next_push, Heap.next_set]; try omega; done)) [go_sem, -getElem?_pos, CfgR.enc, k.r0.one, k.r1.one, k.r2.one, k.r3.one]
/-- Small enough that no count goes astray. -/
structure CfgR.small (c : CfgR) : Prop where
  l0 : c.tasks.length ≤ 1000
  l1 : c.best.length ≤ 1000
  l2 : c.mutexes.length ≤ 1000
  l3 : c.gaps.length ≤ 1000
  l4 : ∀ t ∈ c.tasks, t.uses.length ≤ 1000 ∧ t.prog.length ≤ 1000
  l5 : ∀ t ∈ c.best, t.prog.length ≤ 1000

def mayHead (c : CfgR) : Bool := decide (c.tasks.length ≤ 8) && decide (c.best.length ≤ 6) && decide (c.gaps.length ≤ 4) && inB c.frames 8 64 && inB c.dog 1 1099511627776
def mayT (c : CfgR) (r : TaskR) : Bool := mayTaskB c.mutexes.length c.gaps.length r.prog.length r.t r.uses
/-- Of a line with one task at the most. -/
def mayLines (seen : List Int) : List TaskR → Bool
  | [] => true
  | r :: rs => !(decide (0 ≤ r.t.line) && seen.contains r.t.line) && mayLines (r.t.line :: seen) rs
def mayE (e : EffR) : Bool := inB e.lv 0 15 && decide (e.prog.length ≤ 40)
def mayCfg (c : CfgR) : Bool := mayHead c && mayTable c.mutexes && (c.tasks.all (mayT c) && mayLines [] c.tasks) && c.best.all mayE && c.gaps.all fun g => inB g 1 1000

theorem mayMap_1 (g : Int) (h : Heap) (Q : AVal → Heap → Prop) (q : Q (.bool (!inB g 1 1000)) h) : cl n_admit_May_1 [.int .i64 g] h Q := by
  apply admit_May_1_wp
  unfold admit_May_1
  apply within_spec
  simp (disch := first | omega | (simp only [Heap.next_push, Heap.next_set]; try omega; done)) [go_sem, -getElem?_pos]
  exact q

theorem may_head {h : Heap} {c : CfgR} {b : Nat} (k : c.ok h) (s : c.small) (g : h.get b = some (.cells .rw c.enc)) (K : AVal → Heap → Prop) (q : K (.bool (!mayHead c)) h) :
    admit_May_g1 (.bool (decide (8 < (c.tasks.length : Int)))) h (.ptr b 0) fun v19 h20 => admit_May_g2 v19 h20 (.ptr b 0) fun v34 h35 => admit_May_g3 v34 h35 (.ptr b 0) fun v50 h51 => admit_May_g4 v50 h51 (.ptr b 0) K := by
  unfold CfgR.enc at g
  have e0 := s.l0; have e1 := s.l1; have e3 := s.l3
  unfold mayHead at q
  refine admit_May_g1_mono (K := fun v h' => v = .bool (!(decide (c.tasks.length ≤ 8) && decide (c.best.length ≤ 6))) ∧ h' = h) ?_ ?_
  rotate_left
  · unfold admit_May_g1
    by_cases h1 : c.tasks.length ≤ 8
    · have h2 : ¬ (8 < (c.tasks.length : Int)) := by omega
      simp (disch := first | omega | (simp only [Heap.next_push, Heap.next_set]; try omega; done)) [go_sem, -getElem?_pos, h1, h2, g, er_lenRow k.r1]
      by_cases h3 : c.best.length ≤ 6
      · have h4 : ¬ (6 < (c.best.length : Int)) := by omega
        simp [h3]; omega
      · have h4 : (6 < (c.best.length : Int)) := by omega
        simp [h3]; omega
    · have h2 : (8 < (c.tasks.length : Int)) := by omega
      simp (disch := first | omega | (simp only [Heap.next_push, Heap.next_set]; try omega; done)) [go_sem, -getElem?_pos, h1, h2]
  rintro v h' ⟨rfl, rfl⟩
  generalize hA : (decide (c.tasks.length ≤ 8) && decide (c.best.length ≤ 6)) = A at *
  refine admit_May_g2_mono (K := fun v h'' => v = .bool (!(A && decide (c.gaps.length ≤ 4))) ∧ h'' = h') ?_ ?_
  rotate_left
  · unfold admit_May_g2
    cases A
    · simp (disch := first | omega | (simp only [Heap.next_push, Heap.next_set]; try omega; done)) [go_sem, -getElem?_pos]
    · simp (disch := first | omega | (simp only [Heap.next_push, Heap.next_set]; try omega; done)) [go_sem, -getElem?_pos, g, er_lenRow k.r3]
      by_cases h3 : c.gaps.length ≤ 4
      · simp [h3]; omega
      · simp [h3]; omega
  rintro v h'' ⟨rfl, rfl⟩
  generalize hB : (A && decide (c.gaps.length ≤ 4)) = B at *
  refine admit_May_g3_mono (K := fun v h' => v = .bool (!(B && inB c.frames 8 64)) ∧ h' = h'') ?_ ?_
  rotate_left
  · unfold admit_May_g3
    cases B
    · simp (disch := first | omega | (simp only [Heap.next_push, Heap.next_set]; try omega; done)) [go_sem, -getElem?_pos]
    · simp (disch := first | omega | (simp only [Heap.next_push, Heap.next_set]; try omega; done)) [go_sem, -getElem?_pos, g]; apply within_spec; simp (disch := first | omega | (simp only [Heap.next_push, Heap.next_set]; try omega; done)) [go_sem, -getElem?_pos]
  rintro v h' ⟨rfl, rfl⟩
  generalize hC : (B && inB c.frames 8 64) = C at *
  refine admit_May_g4_mono (K := fun v h'' => v = .bool (!(C && inB c.dog 1 1099511627776)) ∧ h'' = h') ?_ ?_
  rotate_left
  · unfold admit_May_g4
    cases C
    · simp (disch := first | omega | (simp only [Heap.next_push, Heap.next_set]; try omega; done)) [go_sem, -getElem?_pos]
    · simp (disch := first | omega | (simp only [Heap.next_push, Heap.next_set]; try omega; done)) [go_sem, -getElem?_pos, g]; apply within_spec; simp (disch := first | omega | (simp only [Heap.next_push, Heap.next_set]; try omega; done)) [go_sem, -getElem?_pos]
  rintro v h'' ⟨rfl, rfl⟩
  exact q

/-- Which lines have been met. -/
def LineSeen (f : Int → Option AVal) (seen : List Int) : Prop := ∀ x, (x ∉ seen ∧ f x = none) ∨ (x ∈ seen ∧ ∃ n : Nat, 0 < n ∧ n ≤ seen.length ∧ f x = some (.int .i64 n))
theorem LineSeen.more {f : Int → Option AVal} {seen : List Int} (k : LineSeen f seen) (x : Int) (n : Nat) (hn : (f x).getD (.int .i64 0) = .int .i64 n) : n ≤ seen.length ∧ (seen.contains x = decide (0 < n)) ∧ LineSeen (updM f x (some (.int .i64 ((n + 1 : Nat) : Int)))) (x :: seen) := by
  have key : n ≤ seen.length ∧ (seen.contains x = decide (0 < n)) := by
    rcases k x with ⟨h1, h2⟩ | ⟨h1, m, h3, h4, h5⟩
    · rw [h2] at hn; simp at hn; exact ⟨by omega, by simp [h1]; omega⟩
    · rw [h5] at hn; simp at hn; have hn : m = n := by omega
      subst hn; exact ⟨h4, by simp [h1, h3]⟩
  refine ⟨key.1, key.2, fun y => ?_⟩
  unfold updM
  by_cases hy : y = x
  · subst hy; right; exact ⟨by simp, n + 1, by omega, by simp; exact key.1, by simp⟩
  · rcases k y with ⟨h1, h2⟩ | ⟨h1, m, h3, h4, h5⟩
    · left; exact ⟨by simp [hy, h1], by rw [if_neg hy]; exact h2⟩
    · right; exact ⟨by simp [h1], m, h3, by simp; omega, by rw [if_neg hy]; exact h5⟩

theorem admit_May_spec {h : Heap} {c : CfgR} (k : c.ok h) (s : c.small) (Q : AVal → Heap → Prop) (q : ∀ h', Old h h' → Q (.bool (mayCfg c)) h') : cl n_admit_May [.agg c.enc] h Q := by
  apply admit_May_wp
  unfold admit_May
  refine al_box c.enc rfl k.ones ?_
  intro b h1 hb n1 o1 g
  have k1 := k.old o1
  have e0 := s.l0; have e1 := s.l1; have e2 := s.l2; have e3 := s.l3
  have g' := g
  unfold CfgR.enc at g'
  simp (disch := first | omega | (simp only [Heap.next_push, Heap.next_set]; try omega; done)) [go_sem, -getElem?_pos, g', er_lenRow k1.r0]
  refine may_head k1 s g _ ?_
  cases hh : mayHead c
  · simp (disch := first | omega | (simp only [Heap.next_push, Heap.next_set]; try omega; done)) [go_sem, -getElem?_pos]
    have := q h1 o1
    unfold mayCfg at this
    rw [hh] at this
    simpa using this
  simp (disch := first | omega | (simp only [Heap.next_push, Heap.next_set]; try omega; done)) [go_sem, -getElem?_pos, g']
  apply rank_New_spec k1.r2 (by omega)
  · intro ht h2 o2
    simp (disch := first | omega | (simp only [Heap.next_push, Heap.next_set]; try omega; done)) [go_sem, -getElem?_pos]
    have := q h2 (o1.trans o2)
    unfold mayCfg at this
    rw [hh, ht] at this
    simpa using this
  intro ht h2 t u o2 _ _ _ _
  have hcfg : mayCfg c = ((c.tasks.all (mayT c) && mayLines [] c.tasks) && (c.best.all mayE && c.gaps.all fun g => inB g 1 1000)) := by
    unfold mayCfg; rw [hh, ht]; simp [Bool.and_assoc]
  have g2 := o2.keeps g'
  have n2 := o2.next
  simp (disch := first | omega | (simp only [Heap.next_push, Heap.next_set]; try omega; done)) [go_sem, -getElem?_pos, g2]
  have oH : Old h1 (h2.push (.map [] 0)) := o2.push _
  have m0 : MapIs (h2.push (.map [] 0)) h2.next fun _ => none := MapIs.empty (Heap.get_push_self _ _)
  have hm : h1.next ≤ h2.next := n2
  generalize hM : h2.next = M at *
  generalize hH : h2.push (.map [] 0) = H at *
  have kH := k1.old oH
  simp (disch := first | omega | (simp only [Heap.next_push, Heap.next_set]; try omega; done)) [go_sem, -getElem?_pos, er_lenRow kH.r0]
  refine lp_ind (fun k d h' => ∃ (i : Nat) (seen : List Int) (f : Int → Option AVal), i ≤ c.tasks.length ∧ k = c.tasks.length - i ∧ d = [.int .i64 i] ∧ Old h1 h' ∧ seen.length = i ∧ LineSeen f seen ∧ MapIs h' M f ∧
    (c.tasks.all (mayT c) && mayLines [] c.tasks) = ((c.tasks.drop i).all (mayT c) && mayLines seen (c.tasks.drop i))) c.tasks.length
    ⟨0, [], _, by omega, rfl, rfl, oH, rfl, fun x => .inl ⟨by simp, rfl⟩, m0, rfl⟩ ?_
  rintro k d z h' again hag ⟨i, seen, f, hi, rfl, rfl, ho, hsl, hls, hmap, hall⟩
  rw [hall] at hcfg
  by_cases hlt : i < c.tasks.length
  · have kk := k1.old ho
    rcases kk.r0 with ⟨_, h0, _⟩ | ⟨id, off, cp, m, vs, ev, gr, hl, hcs⟩
    · omega
    have hx := row_elem (fun _ => rfl : ∀ x : TaskR, x.enc.length = 8) hcs hlt
    have hin := row_in hl hlt
    have kt := kk.t0 _ (List.getElem_mem hlt)
    have st := s.l4 _ (List.getElem_mem hlt)
    generalize hr : c.tasks[i] = r at *
    have hone : r.enc.all AVal.one = true := by simp (disch := first | omega | (simp only [Heap.next_push, Heap.next_set]; try omega; done)) [go_sem, -getElem?_pos, TaskR.enc, TaskM.enc, kt.ru.one, kt.rp.one]
    have hlen : r.enc.length = 8 := rfl
    have htk : List.take 8 r.enc = r.enc := rfl
    have gb := ho.keeps g'
    rw [ev] at gb ⊢
    have lb := Heap.get_lt gb
    have lM := hmap.lt
    simp (disch := first | omega | (simp only [Heap.next_push, Heap.next_set]; try omega; done)) [go_sem, -getElem?_pos, hlt, gr, hx, hin, hlen, hone, htk, gb]
    have oHH : Old h' ((h'.push (.cells .rw [.int .i64 0, .int .i64 0, .int .i64 0, .int .i64 0, .int .i64 0, .int .i64 0, .nilslice, .nilslice])).set h'.next (.cells .rw r.enc)) := by (repeat (first | exact Old.refl _ | assumption | refine Old.push ?_ _ | refine Old.setNew ?_ _ (by first | omega | (simp only [Heap.next_push, Heap.next_set]; try omega; done))))
    have gHH : ((h'.push (.cells .rw [.int .i64 0, .int .i64 0, .int .i64 0, .int .i64 0, .int .i64 0, .int .i64 0, .nilslice, .nilslice])).set h'.next (.cells .rw r.enc)).get h'.next = some (.cells .rw r.enc) := Heap.get_set_self (by simp)
    generalize ((h'.push (.cells .rw [.int .i64 0, .int .i64 0, .int .i64 0, .int .i64 0, .int .i64 0, .int .i64 0, .nilslice, .nilslice])).set h'.next (.cells .rw r.enc)) = HH at *
    have kv := kk.old oHH
    have kt' := kt.old oHH
    rw [← ev]
    refine mayTask_spec kv.r0.one kv.r1.one kv.r2 kv.r3 (by omega) (by omega) r.t kt'.ru kt'.rp (by omega) (by omega) _ ?_
    intro h3 o3
    have g3 := o3.keeps gHH
    have hmap3 := (hmap.old oHH).old o3
    have lg3 := Heap.get_lt g3
    have e4 : mayTaskB c.mutexes.length c.gaps.length r.prog.length r.t r.uses = mayT c r := rfl
    have hdrop : c.tasks.drop i = r :: c.tasks.drop (i + 1) := by rw [← hr]; exact List.drop_eq_getElem_cons hlt
    rw [hdrop] at hcfg hall
    unfold TaskR.enc TaskM.enc at g3
    rw [e4]
    obtain ⟨n, hn⟩ : ∃ n : Nat, (f r.t.line).getD (.int .i64 0) = .int .i64 n := by
      rcases hls r.t.line with ⟨_, h2⟩ | ⟨_, m, _, _, h5⟩
      · exact ⟨0, by rw [h2]; rfl⟩
      · exact ⟨m, by rw [h5]; rfl⟩
    obtain ⟨hn1, hn2, hn3⟩ := hls.more _ _ hn
    have o4 : Old h1 h3 := (ho.trans oHH).trans o3
    simp (disch := first | omega | (simp only [Heap.next_push, Heap.next_set]; try omega; done)) [go_sem, -getElem?_pos]
    refine admit_May_g5_mono (K := fun v h' => v = .bool (!mayT c r || (decide (0 ≤ r.t.line) && decide (0 < n))) ∧ h' = h3) ?_ ?_
    rotate_left
    · unfold admit_May_g5
      cases hb : mayT c r
      · simp (disch := first | omega | (simp only [Heap.next_push, Heap.next_set]; try omega; done)) [go_sem, -getElem?_pos]
      · simp (disch := first | omega | (simp only [Heap.next_push, Heap.next_set]; try omega; done)) [go_sem, -getElem?_pos, g3]
        by_cases hli : 0 ≤ r.t.line
        · simp (disch := first | omega | (simp only [Heap.next_push, Heap.next_set]; try omega; done)) [go_sem, -getElem?_pos, hli, g3, er_lookupM hmap3, hn]
        · simp (disch := first | omega | (simp only [Heap.next_push, Heap.next_set]; try omega; done)) [go_sem, -getElem?_pos, hli]
    rintro v h4 ⟨rfl, rfl⟩
    rw [List.all_cons, mayLines, hn2] at hcfg
    cases hb : (!mayT c r || (decide (0 ≤ r.t.line) && decide (0 < n)))
    · simp (disch := first | omega | (simp only [Heap.next_push, Heap.next_set]; try omega; done)) [go_sem, -getElem?_pos, g3, er_lookupM hmap3, hn, wrapF_i64]
      refine wro_mapM hmap3 r.t.line rfl ?_
      intro o hm5
      simp (disch := first | omega | (simp only [Heap.next_push, Heap.next_set]; try omega; done)) [go_sem, -getElem?_pos, wrapF_i64]
      refine hag (c.tasks.length - (i + 1)) _ _ (by omega) ⟨i + 1, r.t.line :: seen, _, by omega, rfl, by simp, o4.setNew _ (by omega), by simp [hsl], hn3, ?_, ?_⟩
      · simpa using hm5
      · rw [hall, List.all_cons, mayLines, hn2]
        cases h6 : mayT c r
        · rw [h6] at hb; simp at hb
        · rw [h6] at hb; simp only [Bool.not_true, Bool.false_or] at hb; rw [hb]; simp
    · simp (disch := first | omega | (simp only [Heap.next_push, Heap.next_set]; try omega; done)) [go_sem, -getElem?_pos]
      have := q _ (o1.trans o4)
      have e5 : mayCfg c = false := by
        rw [hcfg]
        cases h6 : mayT c r
        · simp
        · rw [h6] at hb; simp only [Bool.not_true, Bool.false_or] at hb; rw [hb]; simp
      rw [e5] at this
      exact this
  · have : i = c.tasks.length := by omega
    subst this
    rw [List.drop_length] at hcfg
    replace hcfg : mayCfg c = (c.best.all mayE && c.gaps.all fun g => inB g 1 1000) := by rw [hcfg]; rfl
    have gb := ho.keeps g'
    have lb := Heap.get_lt gb
    have kk := k1.old ho
    simp (disch := first | omega | (simp only [Heap.next_push, Heap.next_set]; try omega; done)) [go_sem, -getElem?_pos, gb, er_lenRow kk.r1]
    clear hag hall hmap hls hsl hlt
    clear seen f
    refine lp_ind (fun k d h' => ∃ i : Nat, i ≤ c.best.length ∧ k = c.best.length - i ∧ d = [.int .i64 i] ∧ Old h1 h' ∧ c.best.all mayE = (c.best.drop i).all mayE) c.best.length
      ⟨0, by omega, rfl, rfl, ho, rfl⟩ ?_
    rintro k d z h5 again hag ⟨i, hi, rfl, rfl, ho5, hall⟩
    rw [hall] at hcfg
    have kk := k1.old ho5
    have gb := ho5.keeps g'
    have lb := Heap.get_lt gb
    by_cases hlt : i < c.best.length
    · rcases kk.r1 with ⟨_, h0, _⟩ | ⟨id, off, cp, m, vs, ev, gr, hl, hcs⟩
      · omega
      have hx := row_elem (fun _ => rfl : ∀ x : EffR, x.enc.length = 2) hcs hlt
      have hin := row_in hl hlt
      have kt := kk.t1 _ (List.getElem_mem hlt)
      have st := s.l5 _ (List.getElem_mem hlt)
      generalize hr : c.best[i] = r at *
      have hone : r.enc.all AVal.one = true := by simp (disch := first | omega | (simp only [Heap.next_push, Heap.next_set]; try omega; done)) [go_sem, -getElem?_pos, EffR.enc, kt.rp.one]
      have hlen : r.enc.length = 2 := rfl
      have htk : List.take 2 r.enc = r.enc := rfl
      rw [ev]
      simp (disch := first | omega | (simp only [Heap.next_push, Heap.next_set]; try omega; done)) [go_sem, -getElem?_pos, hlt, gr, hx, hin, hlen, hone, htk]
      have oHH : Old h5 ((h5.push (.cells .rw [.int .i64 0, .nilslice])).set h5.next (.cells .rw r.enc)) := by (repeat (first | exact Old.refl _ | assumption | refine Old.push ?_ _ | refine Old.setNew ?_ _ (by first | omega | (simp only [Heap.next_push, Heap.next_set]; try omega; done))))
      have gHH : ((h5.push (.cells .rw [.int .i64 0, .nilslice])).set h5.next (.cells .rw r.enc)).get h5.next = some (.cells .rw r.enc) := Heap.get_set_self (by simp)
      generalize ((h5.push (.cells .rw [.int .i64 0, .nilslice])).set h5.next (.cells .rw r.enc)) = HH at *
      have kt' := kt.old oHH
      simp (disch := first | omega | (simp only [Heap.next_push, Heap.next_set]; try omega; done)) [go_sem, -getElem?_pos, gHH, EffR.enc]
      apply within_spec
      simp (disch := first | omega | (simp only [Heap.next_push, Heap.next_set]; try omega; done)) [go_sem, -getElem?_pos]
      have hdrop : c.best.drop i = r :: c.best.drop (i + 1) := by rw [← hr]; exact List.drop_eq_getElem_cons hlt
      rw [hdrop, List.all_cons] at hcfg hall
      refine admit_May_g6_mono (K := fun v h' => v = .bool (!mayE r) ∧ h' = HH) ?_ ?_
      rotate_left
      · unfold admit_May_g6 mayE
        cases hb : inB r.lv 0 15
        · simp (disch := first | omega | (simp only [Heap.next_push, Heap.next_set]; try omega; done)) [go_sem, -getElem?_pos]
        · simp (disch := first | omega | (simp only [Heap.next_push, Heap.next_set]; try omega; done)) [go_sem, -getElem?_pos, gHH, EffR.enc, er_lenRow kt'.rp]
          by_cases h7 : r.prog.length ≤ 40
          · simp [h7]; omega
          · simp [h7]; omega
      rintro v h4 ⟨rfl, rfl⟩
      have o6 : Old h1 h4 := ho5.trans oHH
      cases hb : mayE r
      · simp (disch := first | omega | (simp only [Heap.next_push, Heap.next_set]; try omega; done)) [go_sem, -getElem?_pos]
        have := q _ (o1.trans o6)
        rw [hcfg, hb] at this
        simpa using this
      · simp (disch := first | omega | (simp only [Heap.next_push, Heap.next_set]; try omega; done)) [go_sem, -getElem?_pos, wrapF_i64]
        refine hag (c.best.length - (i + 1)) _ _ (by omega) ⟨i + 1, by omega, rfl, by simp, o6, ?_⟩
        rw [hall, hb]; rfl
    · have : i = c.best.length := by omega
      subst this
      rw [List.drop_length] at hcfg
      replace hcfg : mayCfg c = c.gaps.all fun g => inB g 1 1000 := by rw [hcfg]; rfl
      simp (disch := first | omega | (simp only [Heap.next_push, Heap.next_set]; try omega; done)) [go_sem, -getElem?_pos, gb]
      refine containsFunc_int (p := fun g => !inB g 1 1000) kk.r3 (by omega) ?_ _ ?_
      · intro x h8 K o8 hk
        simp (disch := first | omega | (simp only [Heap.next_push, Heap.next_set]; try omega; done)) [go_sem, -getElem?_pos]
        apply mayMap_1
        exact hk _ (Old.refl _)
      · intro h8 o8
        simp (disch := first | omega | (simp only [Heap.next_push, Heap.next_set]; try omega; done)) [go_sem, -getElem?_pos]
        have := q _ ((o1.trans ho5).trans o8)
        rw [hcfg] at this
        have e : (!c.gaps.any fun g => !inB g 1 1000) = c.gaps.all fun g => inB g 1 1000 := by
          rw [List.all_eq_not_any_not]
        rw [e]
        exact this
end Go.AM

open Go Go.AM
namespace Go.AM
/-! The kernel, made. -/
theorem Row.beq {h : Heap} {esz n : Nat} {v : AVal} {cs : List AVal} (r : Row h esz v n cs) : AVal.beq v v = true := by
  rcases r with ⟨rfl, _⟩ | ⟨id, off, c, m, vs, rfl, _⟩
  · rfl
  · cases c <;> simp [AVal.beq, Cap.beq]
theorem NewRow.one {h h' : Heap} {esz n : Nat} {v : AVal} {cs : List AVal} (r : NewRow h h' esz v n cs) : v.one = true := by
  rcases r with ⟨rfl, _⟩ | ⟨id, c, _, rfl, _⟩ <;> rfl
theorem NewRow.cells {h h' : Heap} {esz n : Nat} {v : AVal} {cs : List AVal} (r : NewRow h h' esz v n cs) : v.cells = [v] := by
  rcases r with ⟨rfl, _⟩ | ⟨id, c, _, rfl, _⟩ <;> rfl
theorem Row.cells {h : Heap} {esz n : Nat} {v : AVal} {cs : List AVal} (r : Row h esz v n cs) : v.cells = [v] := by
  rcases r with ⟨rfl, _⟩ | ⟨id, off, c, m, vs, rfl, _⟩ <;> rfl

/-- The kernel's block, its three lists of their own. -/
structure KL (h : Heap) (kb n nt : Nat) (rest : List AVal) (fp : List Nat) : Prop where
  ex : ∃ tks thr prg csK csT csP fpK fpT fpP, fp = fpK ++ (fpT ++ fpP) ∧ h.get kb = some (.cells .rw (tks :: .int .i64 0 :: thr :: prg :: rest)) ∧ OwnRow h 8 tks nt csK fpK ∧ OwnRow h 21 thr n csT fpT ∧ OwnRow h 1 prg n csP fpP ∧
    kb ∉ fpK ∧ kb ∉ fpT ∧ kb ∉ fpP ∧ (∀ i ∈ fpT, i ∉ fpK) ∧ (∀ i ∈ fpP, i ∉ fpK) ∧ (∀ i ∈ fpP, i ∉ fpT)
theorem KL.keep {h h' : Heap} {kb n nt : Nat} {rest : List AVal} {fp s : List Nat} (k : KL h kb n nt rest fp) (o : But s h h') (hk : kb ∉ s) (hs : ∀ i ∈ fp, i ∉ s) : KL h' kb n nt rest fp := by
  obtain ⟨tks, thr, prg, csK, csT, csP, fpK, fpT, fpP, rfl, g, rK, rT, rP, r⟩ := k
  exact ⟨tks, thr, prg, csK, csT, csP, fpK, fpT, fpP, rfl, o.keeps g hk, rK.keep o (fun i hi => hs i (by simp [hi])), rT.keep o (fun i hi => hs i (by simp [hi])), rP.keep o (fun i hi => hs i (by simp [hi])), r⟩
theorem KL.old {h h' : Heap} {kb n nt : Nat} {rest : List AVal} {fp : List Nat} (k : KL h kb n nt rest fp) (o : Old h h') : KL h' kb n nt rest fp := k.keep (o.but []) (by simp) (by simp)
theorem KL.lt {h : Heap} {kb n nt : Nat} {rest : List AVal} {fp : List Nat} (k : KL h kb n nt rest fp) : kb < h.next ∧ ∀ i ∈ fp, i < h.next := by
  obtain ⟨tks, thr, prg, csK, csT, csP, fpK, fpT, fpP, rfl, g, rK, rT, rP, r⟩ := k
  refine ⟨Heap.get_lt g, fun i hi => ?_⟩
  simp only [List.mem_append] at hi
  rcases hi with hi | hi | hi
  · exact rK.lt i hi
  · exact rT.lt i hi
  · exact rP.lt i hi
theorem KL.begin {h : Heap} {kb n nt : Nat} {rest : List AVal} {fp : List Nat} (k : KL h kb n nt rest fp) (x : ThreadM) (p : AVal) (hp : p.one = true) (hpc : p.cells = [p]) (hn : n ≤ 1000) (Q : AVal → Heap → Prop)
    (q : ∀ h' fp', But (kb :: fp) h h' → (∀ i ∈ fp', i ∈ fp ∨ h.next ≤ i) → KL h' kb (n + 1) nt rest fp' → Q (.tuple []) h') : cl n_kern_Kern_begin [.ptr kb 0, .agg x.enc, p] h Q := by
  obtain ⟨tks, thr, prg, csK, csT, csP, fpK, fpT, fpP, rfl, g, rK, rT, rP, d1, d2, d3, d4, d5, d6⟩ := k
  refine begin_spec g rT rP d2 d3 d6 x p hp hpc hn _ ?_
  intro h' thr' prg' u v B hu hv huv g' rT' rP'
  have lk := Heap.get_lt g
  refine q h' (fpK ++ ([u] ++ [v])) (B.mono (by intro i hi; simp only [List.mem_cons, List.mem_append] at hi ⊢; rcases hi with h | h | h <;> simp [h])) ?_
    ⟨tks, thr', prg', csK, _, _, fpK, [u], [v], rfl, g', rK.keep B ?_, rT', rP', d1, ?_, ?_, ?_, ?_, ?_⟩
  · intro i hi
    simp only [List.mem_append, List.mem_singleton] at hi
    rcases hi with h | rfl | rfl
    · left; simp [h]
    · right; exact hu
    · right; exact hv
  · intro i hi hm
    simp only [List.mem_cons, List.mem_append] at hm
    rcases hm with rfl | hm | hm
    · exact d1 hi
    · exact d4 i hm hi
    · exact d5 i hm hi
  · simp; omega
  · simp; omega
  · simp only [List.mem_singleton, forall_eq]; intro hm; have := rK.lt u hm; omega
  · simp only [List.mem_singleton, forall_eq]; intro hm; have := rK.lt v hm; omega
  · simp; omega

theorem Sys0.keep {h h' : Heap} {s d dm p pm k : Nat} {ds ps : MapM} {t : List Nat} (S : Sys0 h s d dm p pm ds ps k) (b : But t h h') (hs : s ∉ t) (hd : d ∉ t) (hdm : dm ∉ t) (hp : p ∉ t) (hpm : pm ∉ t) : Sys0 h' s d dm p pm ds ps k := by
  obtain ⟨⟨sa, sb, gs⟩, ⟨da, db, gd⟩, gp, gdm, gpm, ne⟩ := S
  exact ⟨⟨sa, sb, b.keeps gs hs⟩, ⟨da, db, b.keeps gd hd⟩, b.keeps gp hp, b.keeps gdm hdm, b.keeps gpm hpm, ne⟩
set_option maxRecDepth 20000 in
theorem wheel_New_spec (h : Heap) (Q : AVal → Heap → Prop)
    (q1 : ∀ h' w, Old h h' → w = h.next → h'.next = w + 1 → h'.get w = some (.cells .rw (.int .i64 0 :: (List.replicate 256 .nilslice ++ [.int .i64 0]))) → Q (.tuple [.ptr w 0, .int .i64 0]) h') : cl n_wheel_New [.int .i64 0] h Q := by
  apply wheel_New_wp
  unfold wheel_New
  simp (disch := first | omega | (simp only [Heap.next_push, Heap.next_set]; try omega; done)) [go_sem, -getElem?_pos, wheel_New_g1]
  refine q1 _ _ ((Old.refl h).push _) rfl (by simp) ?_
  exact Heap.get_push_self _ _
theorem mayCfg_facts {c : CfgR} (h : mayCfg c = true) : c.tasks.length ≤ 8 ∧ c.best.length ≤ 6 ∧ c.gaps.length ≤ 4 ∧ 8 ≤ c.frames ∧ c.frames ≤ 64 ∧ inB c.dog 1 1099511627776 = true ∧ mayTable c.mutexes = true ∧ (∀ g ∈ c.gaps, inB g 1 1000 = true) := by
  simp only [mayCfg, mayHead, Bool.and_eq_true, decide_eq_true_eq, List.all_eq_true, inB] at h ⊢
  obtain ⟨⟨⟨⟨⟨⟨⟨⟨h1, h2⟩, h3⟩, h4, h5⟩, h6⟩, h7⟩, _⟩, _⟩, h8⟩ := h
  exact ⟨h1, h2, h3, h4, h5, h6, h7, h8⟩
theorem kern_New_spec {h : Heap} {c : CfgR} (k : c.ok h) (s : c.small) (Q : AVal → Heap → Prop) (q0 : mayCfg c = false → ∀ h', Old h h' → Q (.tuple [.nilptr, .int .i64 2]) h')
    (q1 : mayCfg c = true → ∀ h' kb, Old h h' → Q (.tuple [.ptr kb 0, .int .i64 0]) h') : cl n_kern_New [.agg c.enc] h Q := by
  apply kern_New_wp
  unfold kern_New
  refine al_box c.enc rfl k.ones ?_
  intro b h1 hb n1 o1 g
  have k1 := k.old o1
  have e0 := s.l0; have e1 := s.l1; have e2 := s.l2; have e3 := s.l3
  have hlen : c.enc.length = 6 := rfl
  have htk : List.take 6 c.enc = c.enc := rfl
  simp (disch := first | omega | (simp only [Heap.next_push, Heap.next_set]; try omega; done)) [go_sem, -getElem?_pos, g, hlen, htk]
  apply admit_May_spec k1 s
  intro h2 o2
  have g2 := o2.keeps g
  unfold CfgR.enc at g2
  cases hm : mayCfg c
  · simp (disch := first | omega | (simp only [Heap.next_push, Heap.next_set]; try omega; done)) [go_sem, -getElem?_pos]
    exact q0 hm _ (o1.trans o2)
  have k2 := k1.old o2
  obtain ⟨m0, m1, m3, mf, mf', md, mt, mg⟩ := mayCfg_facts hm
  simp (disch := first | omega | (simp only [Heap.next_push, Heap.next_set]; try omega; done)) [go_sem, -getElem?_pos, g2]
  have hb2 := Heap.get_lt g2
  have hrest : ∃ rest : List AVal, rest.length = 26 ∧ rest = [.nilptr, .nilptr, .nilptr, .nilptr, .nilslice, .nilptr, .nilptr, .nilslice, .nilslice, .int .i64 0, .nilslice, .nilslice, .nilslice, .nilslice, .int .i64 0, .int .i64 0, .int .i64 0, .bool false, .int .i64 0, .int .i64 0, .int .i64 0, .int .i64 0, .int .i64 0, .int .i64 0, .int .i64 0, .int .i64 0] := ⟨_, rfl, rfl⟩
  obtain ⟨rest, hrl, hr⟩ := hrest
  rw [← hr]
  have oH : Old h1 (h2.push (.cells .rw (.nilslice :: .int .i64 0 :: .nilslice :: .nilslice :: rest))) := o2.push _
  have KH : KL (h2.push (.cells .rw (.nilslice :: .int .i64 0 :: .nilslice :: .nilslice :: rest))) h2.next 0 0 rest [] :=
    ⟨.nilslice, .nilslice, .nilslice, [], [], [], [], [], [], rfl, Heap.get_push_self _ _, .inl ⟨rfl, rfl, rfl, rfl⟩, .inl ⟨rfl, rfl, rfl, rfl⟩, .inl ⟨rfl, rfl, rfl, rfl⟩, by simp⟩
  have gH := (Old.push (Old.refl h2) (.cells .rw (.nilslice :: .int .i64 0 :: .nilslice :: .nilslice :: rest))).keeps g2
  have nkb : h1.next ≤ h2.next := o2.next
  have gH1 : h1.get b = some (.cells .rw [c.v0, c.v1, c.v2, c.v3, .int .i64 c.frames, .int .i64 c.dog]) := g
  generalize hkb : h2.next = kb at *
  generalize h2.push (.cells .rw (.nilslice :: .int .i64 0 :: .nilslice :: .nilslice :: rest)) = H at *
  have kH := k1.old oH
  simp (disch := first | omega | (simp only [Heap.next_push, Heap.next_set]; try omega; done)) [go_sem, -getElem?_pos, gH, er_lenRow kH.r0]
  refine lp_ind (fun k d h' => ∃ (i : Nat) (fp : List Nat), i ≤ c.tasks.length ∧ k = c.tasks.length - i ∧ d = [.int .i64 i] ∧ Old h1 h' ∧ KL h' kb i i rest fp ∧ ∀ i ∈ fp, h1.next ≤ i) c.tasks.length
    ⟨0, [], by omega, rfl, rfl, oH, KH, by simp⟩ ?_
  rintro k d z h' again hag ⟨i, fp, hi, rfl, rfl, ho, K, hfp⟩
  by_cases hlt : i < c.tasks.length
  · have kk := k1.old ho
    rcases kk.r0 with ⟨_, h0, _⟩ | ⟨id, off, cp, m, vs, ev, gr, hl, hcs⟩
    · omega
    have hx := row_elem (fun _ => rfl : ∀ x : TaskR, x.enc.length = 8) hcs hlt
    have hin := row_in hl hlt
    have kt := kk.t0 _ (List.getElem_mem hlt)
    have st := s.l4 _ (List.getElem_mem hlt)
    generalize hr : c.tasks[i] = r at *
    have hone : r.enc.all AVal.one = true := by simp (disch := first | omega | (simp only [Heap.next_push, Heap.next_set]; try omega; done)) [go_sem, -getElem?_pos, TaskR.enc, TaskM.enc, kt.ru.one, kt.rp.one]
    have hlen : r.enc.length = 8 := rfl
    have htk : List.take 8 r.enc = r.enc := rfl
    rw [ev]
    simp (disch := first | omega | (simp only [Heap.next_push, Heap.next_set]; try omega; done)) [go_sem, -getElem?_pos, hlt, gr, hx, hin, hlen, hone, htk]
    have oT : Old h' ((h'.push (.cells .rw [.int .i64 0, .int .i64 0, .int .i64 0, .int .i64 0, .int .i64 0, .int .i64 0, .nilslice, .nilslice])).set h'.next (.cells .rw r.enc)) := by (repeat (first | exact Old.refl _ | assumption | refine Old.push ?_ _ | refine Old.setNew ?_ _ (by first | omega | (simp only [Heap.next_push, Heap.next_set]; try omega; done))))
    have gT : ((h'.push (.cells .rw [.int .i64 0, .int .i64 0, .int .i64 0, .int .i64 0, .int .i64 0, .int .i64 0, .nilslice, .nilslice])).set h'.next (.cells .rw r.enc)).get h'.next = some (.cells .rw r.enc) := Heap.get_set_self (by simp)
    generalize ((h'.push (.cells .rw [.int .i64 0, .int .i64 0, .int .i64 0, .int .i64 0, .int .i64 0, .int .i64 0, .nilslice, .nilslice])).set h'.next (.cells .rw r.enc)) = HT at *
    simp (disch := first | omega | (simp only [Heap.next_push, Heap.next_set]; try omega; done)) [go_sem, -getElem?_pos, gT, TaskR.enc, TaskM.enc]
    refine clone_slint_int_ (kt.ru.old oT) (by simp [AVal.one]) (by omega) _ ?_
    intro w hC oC rC _
    have gC := oC.keeps gT
    have lC := Heap.get_lt gC
    have KC := (K.old oT).old oC
    obtain ⟨lK, lfp⟩ := K.lt
    have htf : ∀ j ∈ fp, j ≠ h'.next := fun j hj e => by have := lfp j hj; omega
    have hkt : kb ≠ h'.next := by omega
    obtain ⟨tks, thr, prg, csK, csT, csP, fpK, fpT, fpP, rfl, gk, rK, rT, rP, d1, d2, d3, d4, d5, d6⟩ := KC
    simp (disch := first | omega | (simp only [Heap.next_push, Heap.next_set]; try omega; done)) [go_sem, -getElem?_pos, gC, rC.cells, rC.one, kt.rp.one, TaskR.enc, TaskM.enc, gk]
    have o2 : Old h' (hC.set h'.next (.cells .rw [.int .i64 r.t.cls, .int .i64 r.t.level, .int .i64 r.t.period, .int .i64 r.t.deadline, .int .i64 r.t.budget, .int .i64 r.t.line, w, r.p])) := (oT.trans oC).setNew _ (by omega)
    have B2 : But [h'.next] hC (hC.set h'.next (.cells .rw [.int .i64 r.t.cls, .int .i64 r.t.level, .int .i64 r.t.period, .int .i64 r.t.deadline, .int .i64 r.t.budget, .int .i64 r.t.line, w, r.p])) := (But.refl [h'.next] hC).set _ _ (by simp)
    have g2 : (hC.set h'.next (.cells .rw [.int .i64 r.t.cls, .int .i64 r.t.level, .int .i64 r.t.period, .int .i64 r.t.deadline, .int .i64 r.t.budget, .int .i64 r.t.line, w, r.p])).get h'.next = some (.cells .rw [.int .i64 r.t.cls, .int .i64 r.t.level, .int .i64 r.t.period, .int .i64 r.t.deadline, .int .i64 r.t.budget, .int .i64 r.t.line, w, r.p]) := Heap.get_set_self lC
    have n2 : (hC.set h'.next (.cells .rw [.int .i64 r.t.cls, .int .i64 r.t.level, .int .i64 r.t.period, .int .i64 r.t.deadline, .int .i64 r.t.budget, .int .i64 r.t.line, w, r.p])).next = hC.next := by simp
    generalize hC.set h'.next (.cells .rw [.int .i64 r.t.cls, .int .i64 r.t.level, .int .i64 r.t.period, .int .i64 r.t.deadline, .int .i64 r.t.budget, .int .i64 r.t.line, w, r.p]) = H2 at *
    have hmem : ∀ j ∈ fpK, j ∉ [h'.next] := fun j hj => by simpa using htf j (by simp [hj])
    have hmemT : ∀ j ∈ fpT, j ∉ [h'.next] := fun j hj => by simpa using htf j (by simp [hj])
    have hmemP : ∀ j ∈ fpP, j ∉ [h'.next] := fun j hj => by simpa using htf j (by simp [hj])
    have oP : ∀ o, Old H2 (H2.push o) := fun o => Old.push (Old.refl H2) o
    have gk2 := B2.keeps gk (by simpa using hkt)
    refine wro_append_own ((rK.keep B2 hmem).old (oP _)) (m := 1) (new := [.int .i64 r.t.cls, .int .i64 r.t.level, .int .i64 r.t.period, .int .i64 r.t.deadline, .int .i64 r.t.budget, .int .i64 r.t.line, w, r.p]) ?_ (by simp (disch := first | omega | (simp only [Heap.next_push, Heap.next_set]; try omega; done)) [go_sem, -getElem?_pos, rC.one, kt.rp.one]) (by omega) (by omega) rfl (by omega) (by omega) ?_
    · rw [← n2, shown_at (Heap.get_push_self _ _) (by simp)]; rfl
    intro tks' h4 b4 n4 r4
    simp only [Heap.next_push] at n4 r4
    have htK : h'.next ∉ fpK := fun hj => htf _ (by simp [hj]) rfl
    have gk4 := b4.keeps ((oP _).keeps gk2) d1
    have g4 := b4.keeps ((oP _).keeps g2) htK
    have lk4 := Heap.get_lt gk4
    have l4 := Heap.get_lt g4
    simp (disch := first | omega | (simp only [Heap.next_push, Heap.next_set]; try omega; done)) [go_sem, -getElem?_pos, gk4, r4.cells, r4.one, g4, rC.one, kt.rp.one]
    have lfpH : ∀ j ∈ fpT ++ fpP, j < hC.next := fun j hj => by
      simp only [List.mem_append] at hj
      rcases hj with hj | hj
      · exact rT.lt j hj
      · exact rP.lt j hj
    have lkC := Heap.get_lt gk
    have nh' : h1.next ≤ h'.next := ho.next
    have nC : h'.next < hC.next := lC
    have B5 : But (kb :: (fpK ++ (fpT ++ fpP))) H2 (h4.set kb (.cells .rw (tks' :: .int .i64 0 :: thr :: prg :: rest))) :=
      (((oP _).but _).then b4 (by intro j hj; left; simp [hj])).set kb _ (by simp)
    have o5 : Old h1 (h4.set kb (.cells .rw (tks' :: .int .i64 0 :: thr :: prg :: rest))) :=
      (ho.trans o2).then B5 (by intro j hj; rcases List.mem_cons.1 hj with rfl | hj; exact nkb; exact hfp j hj)
    have bk : But [kb] h4 (h4.set kb (.cells .rw (tks' :: .int .i64 0 :: thr :: prg :: rest))) := (But.refl [kb] h4).set kb _ (by simp)
    have K5 : KL (h4.set kb (.cells .rw (tks' :: .int .i64 0 :: thr :: prg :: rest))) kb i (i + 1) rest ([H2.next + 1] ++ (fpT ++ fpP)) := by
      refine ⟨tks', thr, prg, _, csT, csP, _, fpT, fpP, rfl, Heap.get_set_self lk4, r4.keep bk (by simp; omega), (((rT.keep B2 hmemT).old (oP _)).keep b4 d4).keep bk ?_, (((rP.keep B2 hmemP).old (oP _)).keep b4 d5).keep bk ?_, by simp; omega, d2, d3, ?_, ?_, d6⟩
      · intro j hj; simp only [List.mem_singleton]; rintro rfl; exact d2 hj
      · intro j hj; simp only [List.mem_singleton]; rintro rfl; exact d3 hj
      · intro j hj; have := lfpH j (by simp [hj]); simp; omega
      · intro j hj; have := lfpH j (by simp [hj]); simp; omega
    have hfp5 : ∀ j ∈ [H2.next + 1] ++ (fpT ++ fpP), h1.next ≤ j := by
      intro j hj
      simp only [List.mem_append, List.mem_singleton] at hj
      rcases hj with rfl | hj | hj
      · omega
      · exact hfp j (by simp [hj])
      · exact hfp j (by simp [hj])
    have g5 : (h4.set kb (.cells .rw (tks' :: .int .i64 0 :: thr :: prg :: rest))).get h'.next = _ := bk.keeps g4 (by simpa using Ne.symm hkt)
    generalize h4.set kb (.cells .rw (tks' :: .int .i64 0 :: thr :: prg :: rest)) = h5 at *
    have kt1 := k1.t0 r (hr ▸ List.getElem_mem hlt)
    refine task_New_spec i r.t w r.p rC.one kt.rp.one _ _ ?_
    intro h6 o6
    refine prog_Fix_spec ((kt1.rp.old o5).old o6) kt.cp (by omega) _ ?_
    intro h7 v7 fp7 o7 _ r7
    refine KL.begin ((K5.old o6).old o7) _ v7 r7.one r7.cells (by omega) _ ?_
    intro h8 fp8 B8 hf8 K8
    have g6 := o6.keeps g5
    have o7' := (o5.trans o6).trans o7
    simp (disch := first | omega | (simp only [Heap.next_push, Heap.next_set]; try omega; done)) [go_sem, -getElem?_pos, g6, kt.rp.beq, wrapF_i64]
    refine hag (c.tasks.length - (i + 1)) _ _ (by omega) ⟨i + 1, fp8, by omega, rfl, by simp, o7'.then B8 ?_, K8, ?_⟩
    · intro j hj; rcases List.mem_cons.1 hj with rfl | hj
      · exact nkb
      · exact hfp5 j hj
    · intro j hj
      rcases hf8 j hj with hj | hj
      · exact hfp5 j hj
      · have := o7'.next; omega
  · have : i = c.tasks.length := by omega
    subst this
    have gb := ho.keeps gH1
    have lb := Heap.get_lt gb
    have kk := k1.old ho
    simp (disch := first | omega | (simp only [Heap.next_push, Heap.next_set]; try omega; done)) [go_sem, -getElem?_pos, gb, er_lenRow kk.r1]
    clear hag hlt
    refine lp_ind (fun k d h' => ∃ (i : Nat) (fp : List Nat), i ≤ c.best.length ∧ k = c.best.length - i ∧ d = [.int .i64 i] ∧ Old h1 h' ∧ KL h' kb (c.tasks.length + i) c.tasks.length rest fp ∧ ∀ i ∈ fp, h1.next ≤ i) c.best.length
      ⟨0, fp, by omega, rfl, rfl, ho, K, hfp⟩ ?_
    clear ho K hfp gb lb kk h' fp
    rintro k d z h' again hag ⟨i, fp, hi, rfl, rfl, ho, K, hfp⟩
    have gb := ho.keeps gH1
    have lb := Heap.get_lt gb
    have kk := k1.old ho
    by_cases hlt : i < c.best.length
    · rcases kk.r1 with ⟨_, h0, _⟩ | ⟨id, off, cp, m, vs, ev, gr, hl, hcs⟩
      · omega
      have hx := row_elem (fun _ => rfl : ∀ x : EffR, x.enc.length = 2) hcs hlt
      have hin := row_in hl hlt
      have kt := kk.t1 _ (List.getElem_mem hlt)
      have kt1 := k1.t1 _ (List.getElem_mem hlt)
      have st := s.l5 _ (List.getElem_mem hlt)
      generalize hr : c.best[i] = r at *
      have hone : r.enc.all AVal.one = true := by simp (disch := first | omega | (simp only [Heap.next_push, Heap.next_set]; try omega; done)) [go_sem, -getElem?_pos, EffR.enc, kt.rp.one]
      have hlen : r.enc.length = 2 := rfl
      have htk : List.take 2 r.enc = r.enc := rfl
      rw [ev]
      simp (disch := first | omega | (simp only [Heap.next_push, Heap.next_set]; try omega; done)) [go_sem, -getElem?_pos, hlt, gr, hx, hin, hlen, hone, htk, gb]
      have oT : Old h' ((h'.push (.cells .rw [.int .i64 0, .nilslice])).set h'.next (.cells .rw r.enc)) := by (repeat (first | exact Old.refl _ | assumption | refine Old.push ?_ _ | refine Old.setNew ?_ _ (by first | omega | (simp only [Heap.next_push, Heap.next_set]; try omega; done))))
      have gT : ((h'.push (.cells .rw [.int .i64 0, .nilslice])).set h'.next (.cells .rw r.enc)).get h'.next = some (.cells .rw r.enc) := Heap.get_set_self (by simp)
      generalize ((h'.push (.cells .rw [.int .i64 0, .nilslice])).set h'.next (.cells .rw r.enc)) = HT at *
      have gbT := oT.keeps gb
      have kkT := kk.old oT
      simp (disch := first | omega | (simp only [Heap.next_push, Heap.next_set]; try omega; done)) [go_sem, -getElem?_pos, gT, gbT, EffR.enc, er_lenRow kkT.r0, wrapF_i64]
      have e9 : ((c.tasks.length : Int) + (i : Int)) = ((c.tasks.length + i : Nat) : Int) := by simp
      rw [e9]
      refine task_Best_spec _ r.lv r.p kt.rp.one _ _ ?_
      intro h6 o6
      have oH6 := (ho.trans oT).trans o6
      refine prog_Fix_spec (kt1.rp.old oH6) kt.cp (by omega) _ ?_
      intro h7 v7 fp7 o7 _ r7
      refine KL.begin (((K.old oT).old o6).old o7) _ v7 r7.one r7.cells (by omega) _ ?_
      intro h8 fp8 B8 hf8 K8
      have g6 := o6.keeps gT
      have o7' := oH6.trans o7
      simp (disch := first | omega | (simp only [Heap.next_push, Heap.next_set]; try omega; done)) [go_sem, -getElem?_pos, g6, EffR.enc, kt.rp.beq, wrapF_i64]
      refine hag (c.best.length - (i + 1)) _ _ (by omega) ⟨i + 1, fp8, by omega, rfl, by simp, o7'.then B8 ?_, K8, ?_⟩
      · intro j hj; rcases List.mem_cons.1 hj with rfl | hj
        · exact nkb
        · exact hfp j hj
      · intro j hj
        rcases hf8 j hj with hj | hj
        · exact hfp j hj
        · have := o7'.next; omega
    · have : i = c.best.length := by omega
      subst this
      simp (disch := first | omega | (simp only [Heap.next_push, Heap.next_set]; try omega; done)) [go_sem, -getElem?_pos, gb]
      clear hag hlt
      have lfp := K.lt
      obtain ⟨tks, thr, prg, csK, csT, csP, fpK, fpT, fpP, rfl, gk, rK, rT, rP, d1, d2, d3, d4, d5, d6⟩ := K
      subst hr
      have hN : c.tasks.length + c.best.length ≤ 14 := by omega
      generalize c.tasks.length + c.best.length = N at *
      refine rank_New_spec kk.r2 (by omega) _ (fun e => by rw [mt] at e; cases e) ?_
      intro _ h9 t u o9 _ gt9 _ _
      have gk9 := o9.keeps gk
      have lk9 := Heap.get_lt gk9
      simp (disch := first | omega | (simp only [Heap.next_push, Heap.next_set]; try omega; done)) [go_sem, -getElem?_pos, gk9]
      refine locks_New_spec t _ _ ?_
      intro hA l la lb' oA _ _ _ _ _ _ _
      have gkA := oA.keeps (Heap.get_set_self lk9)
      have lkA := Heap.get_lt gkA
      have BA := ((o9.but [kb]).set kb _ (by simp)).thenOld oA
      simp (disch := first | omega | (simp only [Heap.next_push, Heap.next_set]; try omega; done)) [go_sem, -getElem?_pos, gkA]
      refine cond_New_spec _ _ ?_
      intro hB cb ca oB _ _ _ _ _
      have gkB := oB.keeps (Heap.get_set_self lkA)
      have lkB := Heap.get_lt gkB
      have BB := (BA.set kb _ (by simp)).thenOld oB
      simp (disch := first | omega | (simp only [Heap.next_push, Heap.next_set]; try omega; done)) [go_sem, -getElem?_pos, gkB]
      refine wheel_New_spec _ _ ?_
      intro hC wh oC _ _ _
      have gkC := oC.keeps (Heap.get_set_self lkB)
      have lkC := Heap.get_lt gkC
      have BC := (BB.set kb _ (by simp)).thenOld oC
      have oC1 : Old h1 hC := ho.then BC (by simpa using nkb)
      have gbC := oC1.keeps gH1
      have lbC := Heap.get_lt gbC
      have hbk : b ≠ kb := by have := Heap.get_lt gH1; omega
      have kkC := k1.old oC1
      simp (disch := first | omega | (simp only [Heap.next_push, Heap.next_set]; try omega; done)) [go_sem, -getElem?_pos, gkC, gbC, er_lenRow kkC.r3]
      have gk0 : (hC.set kb (.cells .rw [tks, .int .i64 0, thr, prg, .ptr t 0, .ptr l 0, .ptr cb 0, .ptr wh 0, .nilslice, .nilptr, .nilptr, .nilslice, .nilslice, .int .i64 0, .nilslice, .nilslice, .nilslice, .nilslice, .int .i64 0, .int .i64 0, .int .i64 0, .bool false, .int .i64 0, .int .i64 0, .int .i64 0, .int .i64 0, .int .i64 0, .int .i64 0, .int .i64 0, .int .i64 0])).get kb = _ := Heap.get_set_self lkC
      have BK : But [kb] h' (hC.set kb (.cells .rw [tks, .int .i64 0, thr, prg, .ptr t 0, .ptr l 0, .ptr cb 0, .ptr wh 0, .nilslice, .nilptr, .nilptr, .nilslice, .nilslice, .int .i64 0, .nilslice, .nilslice, .nilslice, .nilslice, .int .i64 0, .int .i64 0, .int .i64 0, .bool false, .int .i64 0, .int .i64 0, .int .i64 0, .int .i64 0, .int .i64 0, .int .i64 0, .int .i64 0, .int .i64 0])) := BC.set kb _ (by simp)
      generalize hC.set kb (.cells .rw [tks, .int .i64 0, thr, prg, .ptr t 0, .ptr l 0, .ptr cb 0, .ptr wh 0, .nilslice, .nilptr, .nilptr, .nilslice, .nilslice, .int .i64 0, .nilslice, .nilslice, .nilslice, .nilslice, .int .i64 0, .int .i64 0, .int .i64 0, .bool false, .int .i64 0, .int .i64 0, .int .i64 0, .int .i64 0, .int .i64 0, .int .i64 0, .int .i64 0, .int .i64 0]) = hK at *
      have oK := ho.then BK (by simpa using nkb)
      have rTK := rT.keep BK (by intro j hj; simp only [List.mem_singleton]; rintro rfl; exact d2 hj)
      have lT := rTK.lt
      have nkK : kb < hK.next := Heap.get_lt gk0
      refine lp_ind (fun k d h' => ∃ (i : Nat) (lns : AVal) (cl : List AVal) (fp : List Nat), i ≤ c.gaps.length ∧ k = c.gaps.length - i ∧ d = [.int .i64 i] ∧ But [kb] hK h' ∧
        h'.get kb = some (.cells .rw [tks, .int .i64 0, thr, prg, .ptr t 0, .ptr l 0, .ptr cb 0, .ptr wh 0, lns, .nilptr, .nilptr, .nilslice, .nilslice, .int .i64 0, .nilslice, .nilslice, .nilslice, .nilslice, .int .i64 0, .int .i64 0, .int .i64 0, .bool false, .int .i64 0, .int .i64 0, .int .i64 0, .int .i64 0, .int .i64 0, .int .i64 0, .int .i64 0, .int .i64 0]) ∧
        OwnRow h' 1 lns i cl fp ∧ ∀ i ∈ fp, hK.next ≤ i) c.gaps.length
        ⟨0, .nilslice, [], [], by omega, rfl, rfl, But.refl _ _, gk0, .inl ⟨rfl, rfl, rfl, rfl⟩, by simp⟩ ?_
      rintro k d z h5 again hag ⟨i, lns, cls, fp, hi, rfl, rfl, B5, g5, r5, hfp5⟩
      have o5 := oK.then B5 (by simpa using nkb)
      have kk5 := k1.old o5
      by_cases hlt : i < c.gaps.length
      · rcases kk5.r3 with ⟨_, h0, _⟩ | ⟨id, off, cp, m, vs, ev, gr, hl, hcs⟩
        · omega
        rw [ev]
        have hx : vs[off + i]? = some (.int .i64 c.gaps[i]) := by
          have h9 : (List.map (fun x => AVal.int .i64 x) c.gaps)[i]? = some (.int .i64 c.gaps[i]) := by simp [hlt]
          rw [hcs] at h9
          rw [List.getElem?_take, List.getElem?_drop] at h9
          split at h9
          · exact h9
          · cases h9
        simp (disch := first | omega | (simp only [Heap.next_push, Heap.next_set]; try omega; done)) [go_sem, -getElem?_pos, hlt, gr, hx]
        refine line_New_spec _ _ _ (fun e => by rw [mg _ (List.getElem_mem hlt)] at e; cases e) ?_
        intro _ h6 ln o6 hln n6 _
        have g6 := o6.keeps g5
        have n6' := o6.next
        simp (disch := first | omega | (simp only [Heap.next_push, Heap.next_set]; try omega; done)) [go_sem, -getElem?_pos, g6]
        have oP : Old h6 (h6.push (.cells .rw [.ptr ln 0])) := Old.push (Old.refl h6) _
        have l5 := r5.lt
        have lk5 := Heap.get_lt g5
        have nK5 := B5.next
        have hkf : kb ∉ fp := fun hm => by have := hfp5 kb hm; omega
        refine wro_append_own ((r5.old o6).old oP) (m := 1) (new := [.ptr ln 0]) ?_ rfl (by omega) (by omega) rfl (by omega) (by omega) ?_
        · rw [shown_at (Heap.get_push_self _ _) (by simp)]; rfl
        intro lns' h7 b7 n7 r7
        simp only [Heap.next_push] at n7 r7
        have g7 := b7.keeps (oP.keeps g6) hkf
        have lk7 := Heap.get_lt g7
        simp (disch := first | omega | (simp only [Heap.next_push, Heap.next_set]; try omega; done)) [go_sem, -getElem?_pos, g7, r7.cells, r7.one, wrapF_i64]
        refine hag (c.gaps.length - (i + 1)) _ _ (by omega) ⟨i + 1, lns', _, [h6.next + 1], by omega, rfl, by simp, ?_, Heap.get_set_self lk7, r7.keep ((But.refl [kb] _).set kb _ (by simp)) (by simp; omega), by simp; omega⟩
        exact (((B5.thenOld o6).thenOld oP).then b7 (fun j hj => .inr (hfp5 j hj))).set kb _ (by simp)
      · have : i = c.gaps.length := by omega
        subst this
        have gb5 := o5.keeps gH1
        have lb5 := Heap.get_lt gb5
        simp (disch := first | omega | (simp only [Heap.next_push, Heap.next_set]; try omega; done)) [go_sem, -getElem?_pos, gb5]
        refine dog_New_spec _ _ _ (fun e => by rw [md] at e; cases e) ?_
        intro _ h6 dg o6 _ _ _
        have g6 := o6.keeps g5
        have lk6 := Heap.get_lt g6
        have gb6 := o6.keeps gb5
        have lb6 := Heap.get_lt gb6
        simp (disch := first | omega | (simp only [Heap.next_push, Heap.next_set]; try omega; done)) [go_sem, -getElem?_pos, g6, gb6]
        obtain ⟨fr, hfr⟩ : ∃ fr : Nat, c.frames = fr := ⟨c.frames.toNat, by omega⟩
        rw [hfr]
        refine unix_New_spec fr (by omega) (by omega) _ _ ?_
        intro h7 sy sd sdm sp spm o7 hge S0
        have BB7 := ((B5.thenOld o6).set kb _ (by simp)).thenOld o7
        have g7 := o7.keeps (Heap.get_set_self lk6)
        have lk7 := Heap.get_lt g7
        have n67 := o6.next
        simp only [Heap.next_set] at hge
        have rT6 := rTK.keep ((B5.thenOld o6).mono (t := [kb]) (by simp)) (by intro j hj; simp only [List.mem_singleton]; rintro rfl; exact d2 hj)
        have lT6 := rT6.lt
        have rT7 := rTK.keep BB7 (by intro j hj; simp only [List.mem_singleton]; rintro rfl; exact d2 hj)
        simp (disch := first | omega | (simp only [Heap.next_push, Heap.next_set]; try omega; done)) [go_sem, -getElem?_pos, g7]
        have lk6' : kb < h6.next := lk6
        have S7 : Sys0 (h7.set kb (.cells .rw [tks, .int .i64 0, thr, prg, .ptr t 0, .ptr l 0, .ptr cb 0, .ptr wh 0, lns, .ptr dg 0, .ptr sy 0, .nilslice, .nilslice, .int .i64 0, .nilslice, .nilslice, .nilslice, .nilslice, .int .i64 0, .int .i64 0, .int .i64 0, .bool false, .int .i64 0, .int .i64 0, .int .i64 0, .int .i64 0, .int .i64 0, .int .i64 0, .int .i64 0, .int .i64 0])) sy sd sdm sp spm [] [] 0 := S0.keep ((But.refl [kb] h7).set kb _ (by simp)) (by simp; omega) (by simp; omega) (by simp; omega) (by simp; omega) (by simp; omega)
        have g8 : (h7.set kb (.cells .rw [tks, .int .i64 0, thr, prg, .ptr t 0, .ptr l 0, .ptr cb 0, .ptr wh 0, lns, .ptr dg 0, .ptr sy 0, .nilslice, .nilslice, .int .i64 0, .nilslice, .nilslice, .nilslice, .nilslice, .int .i64 0, .int .i64 0, .int .i64 0, .bool false, .int .i64 0, .int .i64 0, .int .i64 0, .int .i64 0, .int .i64 0, .int .i64 0, .int .i64 0, .int .i64 0])).get kb = _ := Heap.get_set_self lk7
        have B8 : But [kb] hK (h7.set kb (.cells .rw [tks, .int .i64 0, thr, prg, .ptr t 0, .ptr l 0, .ptr cb 0, .ptr wh 0, lns, .ptr dg 0, .ptr sy 0, .nilslice, .nilslice, .int .i64 0, .nilslice, .nilslice, .nilslice, .nilslice, .int .i64 0, .int .i64 0, .int .i64 0, .bool false, .int .i64 0, .int .i64 0, .int .i64 0, .int .i64 0, .int .i64 0, .int .i64 0, .int .i64 0, .int .i64 0])) := BB7.set kb _ (by simp)
        have n8 : (h7.set kb (.cells .rw [tks, .int .i64 0, thr, prg, .ptr t 0, .ptr l 0, .ptr cb 0, .ptr wh 0, lns, .ptr dg 0, .ptr sy 0, .nilslice, .nilslice, .int .i64 0, .nilslice, .nilslice, .nilslice, .nilslice, .int .i64 0, .int .i64 0, .int .i64 0, .bool false, .int .i64 0, .int .i64 0, .int .i64 0, .int .i64 0, .int .i64 0, .int .i64 0, .int .i64 0, .int .i64 0])).next = h7.next := by simp
        generalize h7.set kb (.cells .rw [tks, .int .i64 0, thr, prg, .ptr t 0, .ptr l 0, .ptr cb 0, .ptr wh 0, lns, .ptr dg 0, .ptr sy 0, .nilslice, .nilslice, .int .i64 0, .nilslice, .nilslice, .nilslice, .nilslice, .int .i64 0, .int .i64 0, .int .i64 0, .bool false, .int .i64 0, .int .i64 0, .int .i64 0, .int .i64 0, .int .i64 0, .int .i64 0, .int .i64 0, .int .i64 0]) = h8 at *
        simp (disch := first | omega | (simp only [Heap.next_push, Heap.next_set]; try omega; done)) [go_sem, -getElem?_pos, er_lenRow rT7.row]
        have n78 : h6.next ≤ h7.next := by have := o7.next; simpa using this
        refine lp_ind (fun k d h' => ∃ (i : Nat) (ds ps : MapM), i ≤ N ∧ k = N - i ∧ d = [.int .i64 i] ∧ But [sdm, spm] h8 h' ∧ Sys0 h' sy sd sdm sp spm ds ps i ∧ (∀ e ∈ ds, e.1 < i) ∧ ∀ e ∈ ps, e.1 < i) N
          ⟨0, [], [], by omega, rfl, rfl, But.refl _ _, S7, by simp, by simp⟩ ?_
        rintro k d z h9 again hag ⟨i, ds, ps, hi, rfl, rfl, B9, S9, hds, hps⟩
        have g9 := B9.keeps g8 (by simp; omega)
        by_cases hlt : i < N
        · simp (disch := first | omega | (simp only [Heap.next_push, Heap.next_set]; try omega; done)) [go_sem, -getElem?_pos, hlt, g9]
          refine unix_Start_spec S9 i (by omega) (fun e he => by have := hds e he; omega) (fun e he => by have := hps e he; omega) _ ?_
          intro h10 tt B10 S10
          simp (disch := first | omega | (simp only [Heap.next_push, Heap.next_set]; try omega; done)) [go_sem, -getElem?_pos, wrapF_i64]
          refine hag (N - (i + 1)) _ _ (by omega) ⟨i + 1, _, _, by omega, rfl, by simp, B9.trans B10, S10, ?_, ?_⟩
          · intro e he; rcases List.mem_append.1 he with he | he
            · have := hds e he; omega
            · simp at he; subst he; simp; omega
          · intro e he; rcases List.mem_append.1 he with he | he
            · have := hps e he; omega
            · simp at he; subst he; simp; omega
        · simp (disch := first | omega | (simp only [Heap.next_push, Heap.next_set]; try omega; done)) [go_sem, -getElem?_pos, hlt]
          refine q1 hm _ _ (o1.trans ((oK.then B8 (by simpa using nkb)).then B9 ?_))
          have := oK.next
          have := B5.next
          simp; omega
end Go.AM

open Go Go.AM
namespace Go.AM
/-! Which configurations are too great. -/
theorem row_at {vs cs : List AVal} {a n j : Nat} (hx : (vs.drop a).take n = cs) (hj : j < n) : vs[a + j]? = cs[j]? := by
  rw [← hx, List.getElem?_take, if_pos hj, List.getElem?_drop]

def greatOp (o : OpM) : Bool := decide (600 < o.call.s.length) || decide (600 < o.call.t.length)
def greatOps (l : List OpM) : Bool := decide (60 < l.length) || l.any greatOp
theorem greatOps_spec {h : Heap} {v : AVal} {l : List OpM} (r : Row h 9 v l.length (l.flatMap OpM.enc)) (Q : AVal → Heap → Prop) (q : Q (.bool (greatOps l)) h) : cl n_coxswainlaw0_GreatOps [v] h Q := by
  apply coxswainlaw0_GreatOps_wp
  unfold coxswainlaw0_GreatOps
  simp (disch := first | omega | (simp only [Heap.next_push, Heap.next_set]; try omega; done)) [go_sem, -getElem?_pos, er_lenRow r]
  by_cases h60 : 60 < l.length
  · have : (60 : Int) < l.length := by omega
    simp (disch := first | omega | (simp only [Heap.next_push, Heap.next_set]; try omega; done)) [go_sem, -getElem?_pos, this]
    unfold greatOps at q
    simpa [h60] using q
  have h60' : ¬ (60 : Int) < l.length := by omega
  simp (disch := first | omega | (simp only [Heap.next_push, Heap.next_set]; try omega; done)) [go_sem, -getElem?_pos, h60']
  have q' : Q (.bool (l.any greatOp)) h := by unfold greatOps at q; simpa [h60] using q
  refine lp_ind (fun k d h' => ∃ i : Nat, i ≤ l.length ∧ k = l.length - i ∧ d = [.int .i64 i] ∧ h' = h ∧ l.any greatOp = (l.drop i).any greatOp) l.length
    ⟨0, by omega, rfl, rfl, rfl, rfl⟩ ?_
  rintro k d z h' again hag ⟨i, hi, rfl, rfl, rfl, hall⟩
  by_cases hlt : i < l.length
  · have r2 := r
    rcases r2 with ⟨_, h0, _⟩ | ⟨id, off, c, m, vs, rfl, g, hl, hcs⟩
    · omega
    have hx := row_elem OpM.enc_length hcs hlt
    have hin := row_in hl hlt
    have hdrop : l.drop i = l[i] :: l.drop (i + 1) := List.drop_eq_getElem_cons hlt
    generalize l[i] = o at *
    have h7 : vs[off + i * 9 + 4 + 3]? = some (.str o.call.s) := by rw [Nat.add_assoc (off + i * 9), row_at hx (by omega)]; rfl
    have h8 : vs[off + i * 9 + 4 + 4]? = some (.str o.call.t) := by rw [Nat.add_assoc (off + i * 9), row_at hx (by omega)]; rfl
    simp (disch := first | omega | (simp only [Heap.next_push, Heap.next_set]; try omega; done)) [go_sem, -getElem?_pos, er_lenRow r, hlt, g, h7]
    refine coxswainlaw0_GreatOps_g1_mono (K := fun v h'' => v = .bool (greatOp o) ∧ h'' = h') ?_ ?_
    rotate_left
    · unfold coxswainlaw0_GreatOps_g1 greatOp
      by_cases h1 : 600 < o.call.s.length
      · have h1' : (600 : Int) < o.call.s.length := by omega
        simp (disch := first | omega | (simp only [Heap.next_push, Heap.next_set]; try omega; done)) [go_sem, -getElem?_pos, h1, h1']
      · have h1' : ¬ (600 : Int) < o.call.s.length := by omega
        simp (disch := first | omega | (simp only [Heap.next_push, Heap.next_set]; try omega; done)) [go_sem, -getElem?_pos, h1, h1', g, h8]
        by_cases h2 : 600 < o.call.t.length
        · simp [h2]; omega
        · simp [h2]; omega
    rintro v h'' ⟨rfl, rfl⟩
    rw [hall, hdrop, List.any_cons] at q'
    cases hb : greatOp o
    · simp (disch := first | omega | (simp only [Heap.next_push, Heap.next_set]; try omega; done)) [go_sem, -getElem?_pos, wrapF_i64]
      refine hag (l.length - (i + 1)) _ _ (by omega) ⟨i + 1, by omega, rfl, by simp, rfl, ?_⟩
      rw [hall, hdrop, List.any_cons, hb]; rfl
    · simp (disch := first | omega | (simp only [Heap.next_push, Heap.next_set]; try omega; done)) [go_sem, -getElem?_pos]
      rw [hb] at q'
      exact q'
  · have : i = l.length := by omega
    subst this
    simp (disch := first | omega | (simp only [Heap.next_push, Heap.next_set]; try omega; done)) [go_sem, -getElem?_pos, er_lenRow r]
    rw [hall, List.drop_length] at q'
    exact q'

def greatCfg (c : CfgR) : Bool := decide (12 < c.tasks.length) || decide (12 < c.best.length) || decide (12 < c.mutexes.length) || decide (12 < c.gaps.length) ||
  ((c.tasks.any fun t => decide (12 < t.uses.length) || greatOps t.prog) || c.best.any fun t => greatOps t.prog)
theorem greatCfg_small {c : CfgR} (h : greatCfg c = false) : c.small := by
  simp only [greatCfg, greatOps, Bool.or_eq_false_iff, decide_eq_false_iff_not, List.any_eq_false, Bool.or_eq_true, decide_eq_true_eq, not_or] at h
  obtain ⟨⟨⟨⟨h1, h2⟩, h3⟩, h4⟩, h5, h6⟩ := h
  exact ⟨by omega, by omega, by omega, by omega, fun t ht => by have := h5 t ht; omega, fun t ht => by have := h6 t ht; omega⟩

theorem greatConfig_spec {h : Heap} {c : CfgR} (k : c.ok h) (Q : AVal → Heap → Prop) (q : ∀ h', Old h h' → Q (.bool (greatCfg c)) h') : cl n_coxswainlaw0_GreatConfig [.agg c.enc] h Q := by
  apply coxswainlaw0_GreatConfig_wp
  unfold coxswainlaw0_GreatConfig
  refine al_box c.enc rfl k.ones ?_
  intro b h1 hb n1 o1 g
  have k1 := k.old o1
  unfold CfgR.enc at g
  simp (disch := first | omega | (simp only [Heap.next_push, Heap.next_set]; try omega; done)) [go_sem, -getElem?_pos, g, er_lenRow k1.r0]
  refine coxswainlaw0_GreatConfig_g1_mono (K := fun v h'' => v = .bool (decide (12 < c.tasks.length) || decide (12 < c.best.length)) ∧ h'' = h1) ?_ ?_
  rotate_left
  · unfold coxswainlaw0_GreatConfig_g1
    by_cases h2 : 12 < c.tasks.length
    · have h2' : (12 : Int) < c.tasks.length := by omega
      simp (disch := first | omega | (simp only [Heap.next_push, Heap.next_set]; try omega; done)) [go_sem, -getElem?_pos, h2, h2']
    · have h2' : ¬ (12 : Int) < c.tasks.length := by omega
      simp (disch := first | omega | (simp only [Heap.next_push, Heap.next_set]; try omega; done)) [go_sem, -getElem?_pos, h2, h2', g, er_lenRow k1.r1]
      by_cases h3 : 12 < c.best.length
      · simp [h3]; omega
      · simp [h3]; omega
  rintro v h' ⟨rfl, rfl⟩
  refine coxswainlaw0_GreatConfig_g2_mono (K := fun v h'' => v = .bool (decide (12 < c.tasks.length) || decide (12 < c.best.length) || decide (12 < c.mutexes.length)) ∧ h'' = h') ?_ ?_
  rotate_left
  · unfold coxswainlaw0_GreatConfig_g2
    cases (decide (12 < c.tasks.length) || decide (12 < c.best.length))
    · simp (disch := first | omega | (simp only [Heap.next_push, Heap.next_set]; try omega; done)) [go_sem, -getElem?_pos, g, er_lenRow k1.r2]
      by_cases h3 : 12 < c.mutexes.length
      · simp [h3]; omega
      · simp [h3]; omega
    · simp (disch := first | omega | (simp only [Heap.next_push, Heap.next_set]; try omega; done)) [go_sem, -getElem?_pos]
  rintro v h'' ⟨rfl, rfl⟩
  refine coxswainlaw0_GreatConfig_g3_mono (K := fun v h' => v = .bool (decide (12 < c.tasks.length) || decide (12 < c.best.length) || decide (12 < c.mutexes.length) || decide (12 < c.gaps.length)) ∧ h' = h'') ?_ ?_
  rotate_left
  · unfold coxswainlaw0_GreatConfig_g3
    cases (decide (12 < c.tasks.length) || decide (12 < c.best.length) || decide (12 < c.mutexes.length))
    · simp (disch := first | omega | (simp only [Heap.next_push, Heap.next_set]; try omega; done)) [go_sem, -getElem?_pos, g, er_lenRow k1.r3]
      by_cases h3 : 12 < c.gaps.length
      · simp [h3]; omega
      · simp [h3]; omega
    · simp (disch := first | omega | (simp only [Heap.next_push, Heap.next_set]; try omega; done)) [go_sem, -getElem?_pos]
  rintro v h' ⟨rfl, rfl⟩
  replace q := q h' o1
  unfold greatCfg at q
  cases hb : (decide (12 < c.tasks.length) || decide (12 < c.best.length) || decide (12 < c.mutexes.length) || decide (12 < c.gaps.length))
  case true =>
    rw [hb] at q
    simp (disch := first | omega | (simp only [Heap.next_push, Heap.next_set]; try omega; done)) [go_sem, -getElem?_pos]
    exact q
  rw [hb, Bool.false_or] at q
  have hb' := hb
  simp only [Bool.or_eq_false_iff, decide_eq_false_iff_not] at hb'
  obtain ⟨⟨⟨b0, b1⟩, _⟩, _⟩ := hb'
  simp (disch := first | omega | (simp only [Heap.next_push, Heap.next_set]; try omega; done)) [go_sem, -getElem?_pos]
  refine lp_ind (fun k d h'' => ∃ i : Nat, i ≤ c.tasks.length ∧ k = c.tasks.length - i ∧ d = [.int .i64 i] ∧ h'' = h' ∧
    (c.tasks.any fun t => decide (12 < t.uses.length) || greatOps t.prog) = ((c.tasks.drop i).any fun t => decide (12 < t.uses.length) || greatOps t.prog)) c.tasks.length
    ⟨0, by omega, rfl, rfl, rfl, rfl⟩ ?_
  rintro k d z h5 again hag ⟨i, hi, rfl, rfl, rfl, hall⟩
  rw [hall] at q
  simp (disch := first | omega | (simp only [Heap.next_push, Heap.next_set]; try omega; done)) [go_sem, -getElem?_pos, g, er_lenRow k1.r0]
  by_cases hlt : i < c.tasks.length
  · rcases k1.r0 with ⟨_, h0, _⟩ | ⟨id, off, cp, m, vs, ev, gr, hl, hcs⟩
    · omega
    have hx := row_elem (fun _ => rfl : ∀ x : TaskR, x.enc.length = 8) hcs hlt
    have hin := row_in hl hlt
    have kt := k1.t0 _ (List.getElem_mem hlt)
    have hdrop : c.tasks.drop i = c.tasks[i] :: c.tasks.drop (i + 1) := List.drop_eq_getElem_cons hlt
    generalize c.tasks[i] = r at *
    have h6 : vs[off + i * 8 + 6]? = some r.u := by rw [row_at hx (by omega)]; rfl
    have h7 : vs[off + i * 8 + 7]? = some r.p := by rw [row_at hx (by omega)]; rfl
    simp (disch := first | omega | (simp only [Heap.next_push, Heap.next_set]; try omega; done)) [go_sem, -getElem?_pos, g, hlt, gr, h6, ev, er_lenRow kt.ru]
    refine coxswainlaw0_GreatConfig_g4_mono (K := fun v h'' => v = .bool (decide (12 < r.uses.length) || greatOps r.prog) ∧ h'' = h5) ?_ ?_
    rotate_left
    · unfold coxswainlaw0_GreatConfig_g4
      by_cases h3 : 12 < r.uses.length
      · have h3' : (12 : Int) < r.uses.length := by omega
        simp (disch := first | omega | (simp only [Heap.next_push, Heap.next_set]; try omega; done)) [go_sem, -getElem?_pos, h3, h3']
      · have h3' : ¬ (12 : Int) < r.uses.length := by omega
        simp (disch := first | omega | (simp only [Heap.next_push, Heap.next_set]; try omega; done)) [go_sem, -getElem?_pos, h3, h3', g, ev, hlt, gr, h7]
        refine greatOps_spec kt.rp _ ?_
        simp (disch := first | omega | (simp only [Heap.next_push, Heap.next_set]; try omega; done)) [go_sem, -getElem?_pos, h3']
        intro hh; exact absurd hh h3
    rintro v h'' ⟨rfl, rfl⟩
    rw [hdrop, List.any_cons] at hall q
    cases hb : (decide (12 < r.uses.length) || greatOps r.prog)
    · simp (disch := first | omega | (simp only [Heap.next_push, Heap.next_set]; try omega; done)) [go_sem, -getElem?_pos, wrapF_i64]
      refine hag (c.tasks.length - (i + 1)) _ _ (by omega) ⟨i + 1, by omega, rfl, by simp, rfl, ?_⟩
      rw [hall, hb]; rfl
    · simp (disch := first | omega | (simp only [Heap.next_push, Heap.next_set]; try omega; done)) [go_sem, -getElem?_pos]
      rw [hb] at q
      exact q
  · have : i = c.tasks.length := by omega
    subst this
    rw [List.drop_length] at q
    replace q : Q (.bool (c.best.any fun t => greatOps t.prog)) h5 := q
    simp (disch := first | omega | (simp only [Heap.next_push, Heap.next_set]; try omega; done)) [go_sem, -getElem?_pos, hlt]
    clear hag hall hlt
    refine lp_ind (fun k d h'' => ∃ i : Nat, i ≤ c.best.length ∧ k = c.best.length - i ∧ d = [.int .i64 i] ∧ h'' = h5 ∧
      (c.best.any fun t => greatOps t.prog) = ((c.best.drop i).any fun t => greatOps t.prog)) c.best.length
      ⟨0, by omega, rfl, rfl, rfl, rfl⟩ ?_
    rintro k d z h6 again hag ⟨i, hi, rfl, rfl, rfl, hall⟩
    rw [hall] at q
    simp (disch := first | omega | (simp only [Heap.next_push, Heap.next_set]; try omega; done)) [go_sem, -getElem?_pos, g, er_lenRow k1.r1]
    by_cases hlt : i < c.best.length
    · rcases k1.r1 with ⟨_, h0, _⟩ | ⟨id, off, cp, m, vs, ev, gr, hl, hcs⟩
      · omega
      have hx := row_elem (fun _ => rfl : ∀ x : EffR, x.enc.length = 2) hcs hlt
      have hin := row_in hl hlt
      have kt := k1.t1 _ (List.getElem_mem hlt)
      have hdrop : c.best.drop i = c.best[i] :: c.best.drop (i + 1) := List.drop_eq_getElem_cons hlt
      generalize c.best[i] = r at *
      have h6' : vs[off + i * 2 + 1]? = some r.p := by rw [row_at hx (by omega)]; rfl
      simp (disch := first | omega | (simp only [Heap.next_push, Heap.next_set]; try omega; done)) [go_sem, -getElem?_pos, g, hlt, gr, h6', ev]
      refine greatOps_spec kt.rp _ ?_
      rw [hdrop, List.any_cons] at hall q
      cases hb : greatOps r.prog
      · simp (disch := first | omega | (simp only [Heap.next_push, Heap.next_set]; try omega; done)) [go_sem, -getElem?_pos, wrapF_i64]
        refine hag (c.best.length - (i + 1)) _ _ (by omega) ⟨i + 1, by omega, rfl, by simp, rfl, ?_⟩
        rw [hall, hb]; rfl
      · simp (disch := first | omega | (simp only [Heap.next_push, Heap.next_set]; try omega; done)) [go_sem, -getElem?_pos]
        rw [hb] at q
        exact q
    · have : i = c.best.length := by omega
      subst this
      rw [List.drop_length] at q
      simp (disch := first | omega | (simp only [Heap.next_push, Heap.next_set]; try omega; done)) [go_sem, -getElem?_pos, hlt]
      exact q
end Go.AM

open Go Go.AM
namespace Go.AM
/-! Worlds. -/
theorem cl_own {f : FuncId} {g : List AVal → Heap → Option (AVal × Heap)} {args : List AVal} {h h' : Heap} {v : AVal} {Q : AVal → Heap → Prop} (h1 : ownW f = some g) (h2 : g args h = some (v, h')) (q : Q v h') : cl f args h Q := by
  refine ⟨1, v, h', ?_, q⟩
  show (match ownW f with | some g => g args h | none => _) = _
  rw [h1]; exact h2
theorem awake30_spec (h : Heap) (Q : AVal → Heap → Prop) (q : Q (.bool true) h) : cl n_coxswainlaw30_awake [] h Q := cl_own (by rfl) (by rfl) q
theorem awake29_spec (h : Heap) (Q : AVal → Heap → Prop) (q : Q (.bool true) h) : cl n_coxswainlaw29_awake [] h Q := cl_own (by rfl) (by rfl) q

theorem world_New_spec {h : Heap} {c : CfgR} (k : c.ok h) (s : c.small) (Q : AVal → Heap → Prop) (q0 : mayCfg c = false → ∀ h', Old h h' → Q (.tuple [.nilptr, .int .i64 2]) h')
    (q1 : mayCfg c = true → ∀ h' kb w, Old h h' → h.next ≤ w → h'.get w = some (.cells .rw [.ptr kb 0, .nilslice]) → Q (.tuple [.ptr w 0, .int .i64 0]) h') : cl n_world_New [.agg c.enc] h Q := by
  apply world_New_wp
  unfold world_New
  refine al_box c.enc rfl k.ones ?_
  intro b h1 hb n1 o1 g
  have hlen : c.enc.length = 6 := rfl
  have htk : List.take 6 c.enc = c.enc := rfl
  simp (disch := first | omega | (simp only [Heap.next_push, Heap.next_set]; try omega; done)) [go_sem, -getElem?_pos, g, hlen, htk]
  refine kern_New_spec (k.old o1) s _ ?_ ?_
  · intro hm h2 o2
    simp (disch := first | omega | (simp only [Heap.next_push, Heap.next_set]; try omega; done)) [go_sem, -getElem?_pos]
    exact q0 hm _ (o1.trans o2)
  · intro hm h2 kb o2
    simp (disch := first | omega | (simp only [Heap.next_push, Heap.next_set]; try omega; done)) [go_sem, -getElem?_pos]
    exact q1 hm _ kb _ ((o1.trans o2).push _) ((o1.trans o2).next) (Heap.get_push_self _ _)

theorem play_nil (es t : AVal) (h : Heap) (Q : AVal → Heap → Prop) (q : Q .nilslice h) : cl n_world_World_Play [.nilptr, es, t] h Q := by
  apply world_World_Play_wp
  unfold world_World_Play
  simp (disch := first | omega | (simp only [Heap.next_push, Heap.next_set]; try omega; done)) [go_sem, -getElem?_pos]
  exact q
theorem kern_nil (h : Heap) (Q : AVal → Heap → Prop) (q : Q .nilptr h) : cl n_world_World_Kern [.nilptr] h Q := by
  apply world_World_Kern_wp
  unfold world_World_Kern
  simp (disch := first | omega | (simp only [Heap.next_push, Heap.next_set]; try omega; done)) [go_sem, -getElem?_pos]
  exact q
theorem trace_nil (h : Heap) (Q : AVal → Heap → Prop) (q : Q .nilslice h) : cl n_world_World_Trace [.nilptr] h Q := by
  apply world_World_Trace_wp
  unfold world_World_Trace
  simp (disch := first | omega | (simp only [Heap.next_push, Heap.next_set]; try omega; done)) [go_sem, -getElem?_pos]
  exact q
theorem play_none {h : Heap} {w : Nat} {kv : AVal} (g : h.get w = some (.cells .rw [kv, .nilslice])) (es : AVal) (t : Int) (ht : t ≤ 0) (Q : AVal → Heap → Prop)
    (q : ∀ h', h'.next = h.next → h'.get w = some (.cells .rw [kv, .nilslice]) → Q .nilslice h') : cl n_world_World_Play [.ptr w 0, es, .int .i64 t] h Q := by
  apply world_World_Play_wp
  unfold world_World_Play
  have lt := Heap.get_lt g
  simp (disch := first | omega | (simp only [Heap.next_push, Heap.next_set]; try omega; done)) [go_sem, -getElem?_pos]
  refine lp_ind (fun k d h' => d = [.nilslice, .int .i64 0] ∧ h' = h) 0 ⟨rfl, rfl⟩ ?_
  rintro k d z h' again hag ⟨rfl, rfl⟩
  have h0 : ¬ (0 : Int) < max (min t 4096) 0 := by omega
  have ea : appendTo h' 2 16 .nilslice .nilslice = some (.nilslice, h') := rfl
  simp (disch := first | omega | (simp only [Heap.next_push, Heap.next_set]; try omega; done)) [go_sem, -getElem?_pos, h0, g, ea]
  exact q _ (by simp) (Heap.get_set_self lt)
theorem low_spec (x : Int) (n : Int) (hn : 0 < n) (hn' : n ≤ 1000000) (h : Heap) (Q : AVal → Heap → Prop) (q : ∀ r, 0 ≤ r → r < n → Q (.int .i64 r) h) : cl n_coxswainlaw0_Low [.int .i64 x, .int .i64 n] h Q := by
  apply coxswainlaw0_Low_wp
  unfold coxswainlaw0_Low
  simp (disch := first | omega | (simp only [Heap.next_push, Heap.next_set]; try omega; done)) [go_sem, -getElem?_pos]
  have e1 : wrapF .u64 n = n := by
    rw [wrapF_eq]
    simp only [IntKind.wrap, IntKind.signed, IntKind.bits]
    simp; omega
  have e0 : 0 ≤ wrapF .u64 x := by
    rw [wrapF_eq]
    simp only [IntKind.wrap, IntKind.signed, IntKind.bits]
    simp; omega
  rw [e1]
  generalize wrapF .u64 x = y at *
  have e2 : evalBin h .rem none (.int .u64 y) (.int .u64 n) = some (.int .u64 (y.tmod n)) := by
    have : decide (n = 0) = false := by simp; omega
    simp only [evalBin, intBin, this]
    rfl
  rw [e2]
  have r0 := Int.tmod_nonneg n e0
  have r1 := Int.tmod_lt_of_pos y hn
  simp (disch := first | omega | (simp only [Heap.next_push, Heap.next_set]; try omega; done)) [go_sem, -getElem?_pos, wrapF_i64]
  exact q _ r0 r1
theorem trace_none {h : Heap} {w : Nat} {kv : AVal} (g : h.get w = some (.cells .rw [kv, .nilslice])) (Q : AVal → Heap → Prop)
    (q : Q .nilslice h) : cl n_world_World_Trace [.ptr w 0] h Q := by
  apply world_World_Trace_wp
  unfold world_World_Trace
  simp (disch := first | omega | (simp only [Heap.next_push, Heap.next_set]; try omega; done)) [go_sem, -getElem?_pos, g]
  apply slices_Clone_slapi_Ran_api_Ran__wp
  unfold slices_Clone_slapi_Ran_api_Ran_
  simp (disch := first | omega | (simp only [Heap.next_push, Heap.next_set]; try omega; done)) [go_sem, -getElem?_pos]
  exact q

theorem worldNone_spec {h : Heap} {c : CfgR} (k : c.ok h) (x : Int) (Q : AVal → Heap → Prop) (q : ∀ h', Q (.bool true) h') : cl n_coxswainlaw30_WorldNone [.agg c.enc, .int .i64 x] h Q := by
  apply coxswainlaw30_WorldNone_wp
  unfold coxswainlaw30_WorldNone
  refine al_box c.enc rfl k.ones ?_
  intro b h1 hb n1 o1 g
  have hlen : c.enc.length = 6 := rfl
  have htk : List.take 6 c.enc = c.enc := rfl
  simp (disch := first | omega | (simp only [Heap.next_push, Heap.next_set]; try omega; done)) [go_sem, -getElem?_pos, g, hlen, htk]
  refine greatConfig_spec (k.old o1) _ ?_
  intro h2 o2
  cases hg : greatCfg c
  case true =>
    simp (disch := first | omega | (simp only [Heap.next_push, Heap.next_set]; try omega; done)) [go_sem, -getElem?_pos]
    apply awake30_spec
    exact q _
  have sm := greatCfg_small hg
  have g2 := o2.keeps g
  simp (disch := first | omega | (simp only [Heap.next_push, Heap.next_set]; try omega; done)) [go_sem, -getElem?_pos]
  apply play_nil
  simp (disch := first | omega | (simp only [Heap.next_push, Heap.next_set]; try omega; done)) [go_sem, -getElem?_pos, coxswainlaw30_WorldNone_g1]
  apply kern_nil
  simp (disch := first | omega | (simp only [Heap.next_push, Heap.next_set]; try omega; done)) [go_sem, -getElem?_pos, coxswainlaw30_WorldNone_g2]
  apply trace_nil
  simp (disch := first | omega | (simp only [Heap.next_push, Heap.next_set]; try omega; done)) [go_sem, -getElem?_pos, g2, hlen, htk]
  refine world_New_spec ((k.old o1).old o2) sm _ ?_ ?_
  · intro hm h3 o3
    simp (disch := first | omega | (simp only [Heap.next_push, Heap.next_set]; try omega; done)) [go_sem, -getElem?_pos, coxswainlaw30_WorldNone_g3]
    apply awake30_spec
    exact q _
  · intro hm h3 kb w o3 hw gw
    simp (disch := first | omega | (simp only [Heap.next_push, Heap.next_set]; try omega; done)) [go_sem, -getElem?_pos, coxswainlaw30_WorldNone_g3]
    refine low_spec x 1000 (by omega) (by omega) _ _ ?_
    intro r r0 r1
    have ew : wrapF .i64 (-r) = -r := by rw [wrapF_i64 (by omega) (by omega)]
    simp (disch := first | omega | (simp only [Heap.next_push, Heap.next_set]; try omega; done)) [go_sem, -getElem?_pos, ew]
    refine play_none gw _ (-r) (by omega) _ ?_
    intro h4 _ g4
    simp (disch := first | omega | (simp only [Heap.next_push, Heap.next_set]; try omega; done)) [go_sem, -getElem?_pos, coxswainlaw30_WorldNone_g4]
    refine trace_none g4 _ ?_
    simp (disch := first | omega | (simp only [Heap.next_push, Heap.next_set]; try omega; done)) [go_sem, -getElem?_pos, coxswainlaw30_WorldNone_g5]
    apply awake30_spec
    simp (disch := first | omega | (simp only [Heap.next_push, Heap.next_set]; try omega; done)) [go_sem, -getElem?_pos]
    exact q _
end Go.AM
