import Derived.Test.YtpjdgiiphohjeaaGreatDoorAm16
/-! A drawn statement, in whatever order: as its one order says. -/
namespace Go.AM

theorem Cap.beq_eq (a b : Cap) (h : Cap.beq a b = true) : a = b := by
  cases a <;> cases b <;> simp [Cap.beq] at h
  · rw [h]
  · rw [h]

mutual
theorem AVal.beq_eq : ∀ (a b : AVal), AVal.beq a b = true → a = b
  | .bool a, b, h => by cases b <;> simp_all [AVal.beq]
  | .int k a, b, h => by cases b <;> simp_all [AVal.beq]
  | .str a, b, h => by cases b <;> simp_all [AVal.beq]
  | .ptr a i, b, h => by cases b <;> simp_all [AVal.beq]
  | .nilptr, b, h => by cases b <;> simp_all [AVal.beq]
  | .slice a i n c, b, h => by
    cases b <;> simp only [AVal.beq, Bool.and_eq_true, Bool.false_eq_true] at h
    obtain ⟨⟨⟨h1, h2⟩, h3⟩, h4⟩ := h
    rw [Nat.eq_of_beq_eq_true h1, Nat.eq_of_beq_eq_true h2, Nat.eq_of_beq_eq_true h3, Cap.beq_eq _ _ h4]
  | .nilslice, b, h => by cases b <;> simp_all [AVal.beq]
  | .map a, b, h => by cases b <;> simp_all [AVal.beq]
  | .nilmap, b, h => by cases b <;> simp_all [AVal.beq]
  | .func f x y, b, h => by
    cases b <;> simp only [AVal.beq, Bool.and_eq_true, Bool.false_eq_true] at h
    obtain ⟨⟨h1, h2⟩, h3⟩ := h
    rw [Nat.eq_of_beq_eq_true h1, AVal.beqs_eq _ _ h2, AVal.beqs_eq _ _ h3]
  | .nilfunc, b, h => by cases b <;> simp_all [AVal.beq]
  | .iface t v, b, h => by
    cases b <;> simp only [AVal.beq, Bool.and_eq_true, Bool.false_eq_true] at h
    obtain ⟨h1, h2⟩ := h
    rw [Nat.eq_of_beq_eq_true h1, AVal.beq_eq _ _ h2]
  | .nilIface, b, h => by cases b <;> simp_all [AVal.beq]
  | .agg x, b, h => by
    cases b <;> simp only [AVal.beq, Bool.false_eq_true] at h
    rw [AVal.beqs_eq _ _ h]
  | .tuple x, b, h => by
    cases b <;> simp only [AVal.beq, Bool.false_eq_true] at h
    rw [AVal.beqs_eq _ _ h]
  | .raw v, b, h => by cases b <;> simp [AVal.beq] at h
theorem AVal.beqs_eq : ∀ (a b : List AVal), AVal.beqs a b = true → a = b
  | [], b, h => by cases b <;> simp_all [AVal.beqs]
  | x :: xs, b, h => by
    cases b with
    | nil => simp [AVal.beqs] at h
    | cons y ys =>
      simp only [AVal.beqs, Bool.and_eq_true] at h
      rw [AVal.beq_eq _ _ h.1, AVal.beqs_eq _ _ h.2]
end

theorem HRel.more {φ : Map} {h h' : Heap} {w : World} (r : HRel φ h w) (m : More h h') : HRel φ h' w := by
  refine ⟨fun id L e => ⟨Nat.lt_of_lt_of_le (r.rng id L e).1 m.next, (r.rng id L e).2⟩, ?_, ?_⟩
  · intro id L o e hp
    rw [m.same id (r.rng id L e).1] at hp
    exact r.obj id L o e hp
  · intro i j L M o p ei ej hp hq
    rw [m.same i (r.rng i L ei).1] at hp
    rw [m.same j (r.rng j M ej).1] at hq
    exact r.inj i j L M o p ei ej hp hq

theorem Ext.more {φ φ' : Map} {h h' h'' : Heap} {w w' : World} (x : Ext φ h w φ' h' w') (m : More h' h'') (hφ : ∀ id, h'.next ≤ id → φ' id = none) : Ext φ h w φ' h'' w' where
  os := x.os
  tape := x.tape
  output := x.output
  size := x.size
  next := Nat.le_trans x.next m.next
  old := x.old
  ghost id hid e := (m.same id (Nat.lt_of_lt_of_le hid x.next)).trans (x.ghost id hid e)
  frame := x.frame
  wr b hb := by
    rintro ⟨id, L, o, e, hbl, hg, ho⟩
    refine x.wr b hb ⟨id, L, o, e, hbl, ?_, ho⟩
    rcases Nat.lt_or_ge id h'.next with hlt | hge
    · rw [← m.same id hlt]; exact hg
    · rw [hφ id hge] at e; cases e

/-- A name that waits for its place is given one. -/
theorem Ext.place {φ φ' : Map} {h h' : Heap} {w w' : World} (x : Ext φ h w φ' h' w') {id : Nat} (hid : h.next ≤ id) (o : Obj) (n dr : Nat) :
    Ext φ h w (φ'.put id ⟨w'.heap.size, 0, n⟩) h' { w' with heap := w'.heap.push o, drawn := dr } where
  os := x.os
  tape := x.tape
  output := x.output
  size := by simp only [Array.size_push]; exact Nat.le_succ_of_le x.size
  next := x.next
  old j hj := by unfold Map.put; rw [if_neg (by omega)]; exact x.old j hj
  ghost := x.ghost
  frame b hb hw := by
    simp only []
    rw [Array.getElem?_push, if_neg (by have := x.size; omega)]
    exact x.frame b hb hw
  wr b hb := by
    rintro ⟨j, L, p, e, hbl, hg, hp⟩
    unfold Map.put at e
    by_cases hj : j = id
    · simp [hj] at e; subst e; have := x.size; simp at hbl; omega
    · simp [hj] at e; exact x.wr b hb ⟨j, L, p, e, hbl, hg, hp⟩

/-- A set of operations with what each waits for. -/
def Closed (ops : Array Oper) (S : Nat → Bool) : Prop := ∀ i o, ops[i]? = some o → S i = true → ∀ e ∈ o.after.toList, Region.binds .any e = true → S e.on = true

section
variable {tb : Types} {nt : Nat} {ops : Array Oper} {ds : List DOper} (D : DOk tb nt ops (ancFrom ops.toList 0 .leaf) ds)

/-- Where an operation stands, those that must come ahead stand ahead. -/
theorem Good.split {b : Tr Nat} : ∀ {pre : List DOper} {d : DOper} {suf : List DOper} {past : List Nat} {done : Nat}, Good b (pre ++ d :: suf) past done →
    (∀ j, (bits b d.idx).testBit j = true → done.testBit j = true ∨ ∃ q ∈ pre, q.idx = j) ∧ (done.testBit d.idx = false ∧ ∀ q ∈ pre, q.idx ≠ d.idx) ∧
    (d.op.cls ≠ .pure → (∀ w ∈ past, (bits b d.idx).testBit w = true) ∧ ∀ q ∈ pre, q.isW = true → (bits b d.idx).testBit q.idx = true) ∧
    (d.op.cls = .read → d.chk = later b d.idx ((suf.filter DOper.isW).map (·.idx)) (past.length + cntW pre)) := by
  intro pre
  induction pre with
  | nil =>
    intro d suf past done g
    cases g with
    | cons _ _ _ _ hsub hnew hpast hchk hrest =>
      exact ⟨fun j hj => .inl (hsub j hj), ⟨hnew, by simp⟩, fun hc => ⟨hpast hc, by simp⟩, fun hc => by simpa [cntW] using hchk hc⟩
  | cons q pre ih =>
    intro d suf past done g
    cases g with
    | cons _ _ _ _ hsub hnew hpast hchk hrest =>
      obtain ⟨i1, i2, i3, i4⟩ := ih (by simpa using hrest)
      have hbit : ∀ j, (done ||| 2 ^ q.idx).testBit j = true → done.testBit j = true ∨ q.idx = j := by
        intro j hj
        rw [testBit_or_pow, Bool.or_eq_true] at hj
        exact hj.imp id (by simp)
      refine ⟨fun j hj => ?_, ⟨?_, ?_⟩, fun hc => ⟨?_, ?_⟩, fun hc => ?_⟩
      · rcases i1 j hj with h1 | ⟨x, hx, hxj⟩
        · rcases hbit j h1 with h2 | h2
          · exact .inl h2
          · exact .inr ⟨q, by simp, h2⟩
        · exact .inr ⟨x, by simp [hx], hxj⟩
      · have := i2.1
        rw [testBit_or_pow, Bool.or_eq_false_iff] at this
        exact this.1
      · intro x hx
        cases hx with
        | head =>
          have := i2.1
          rw [testBit_or_pow, Bool.or_eq_false_iff] at this
          simpa using this.2
        | tail _ hx => exact i2.2 x hx
      · intro w hw
        refine (i3 hc).1 w ?_
        split
        · simp [hw]
        · exact hw
      · intro x hx hxW
        cases hx with
        | head => exact (i3 hc).1 q.idx (by rw [if_pos hxW]; simp)
        | tail _ hx => exact (i3 hc).2 x hx hxW
      · rw [i4 hc, cntW_cons q pre]
        congr 1
        by_cases hW : q.isW = true
        · simp [hW, cntW]; try omega
        · simp [hW, cntW]

include D in
/-- All that come ahead of a member are members. -/
theorem anc_mem {S : Nat → Bool} (hS : Closed ops S) : ∀ (n : Nat) (pre : List DOper) (d : DOper) (suf : List DOper), pre.length = n → ds = pre ++ d :: suf → S d.idx = true → ∀ j, (bits (ancFrom ops.toList 0 .leaf) d.idx).testBit j = true → S j = true := by
  intro n
  induction n using Nat.strongRecOn with
  | _ n ih =>
    intro pre d suf hn hds hSd j hj
    obtain ⟨o, d0, ho, _, _⟩ := D.of d (by rw [hds]; simp)
    obtain ⟨e, he, hb, h1⟩ := ancFrom_spec ops.toList 0 .leaf (fun j _ => by simp [bits, Tr.get_leaf]) d.idx o (by simpa using ho) j (by simpa using hj)
    have hSe := hS d.idx o ho hSd e he hb
    rcases h1 with rfl | h1
    · exact hSe
    · -- e.on stands ahead of d
      have hebit : (bits (ancFrom ops.toList 0 .leaf) d.idx).testBit e.on = true := by
        have := ancFrom_edge ops.toList 0 .leaf d.idx o (by simpa using ho) e he hb
        simpa using this
      have hg := D.good
      rw [hds] at hg
      obtain ⟨g1, _⟩ := hg.split
      rcases g1 e.on hebit with h2 | ⟨q, hq, hqe⟩
      · simp at h2
      · obtain ⟨pre1, suf1, rfl⟩ := List.append_of_mem hq
        have := ih pre1.length (by rw [← hn]; simp) pre1 q (suf1 ++ d :: suf) rfl (by rw [hds]; simp) (by rw [hqe]; exact hSe) j (by rw [hqe]; exact h1)
        exact this

theorem mem_split {d : DOper} (h : d ∈ ds) : ∃ pre suf, ds = pre ++ d :: suf := List.append_of_mem h

include D in
theorem idx_inj {d d' : DOper} (h : d ∈ ds) (h' : d' ∈ ds) (he : d.idx = d'.idx) : d = d' := by
  obtain ⟨pre, suf, e⟩ := mem_split h
  have hg := D.good
  rw [e] at hg h'
  obtain ⟨_, g2, _⟩ := hg.split
  rcases List.mem_append.1 h' with h1 | h1
  · exact absurd he.symm (g2.2 d' h1)
  · cases h1 with
    | head => rfl
    | tail _ h1 =>
      obtain ⟨p1, s1, rfl⟩ := mem_split h1
      have hg' : Good (ancFrom ops.toList 0 .leaf) ((pre ++ d :: p1) ++ d' :: s1) [] 0 := by simpa using hg
      obtain ⟨_, g3, _⟩ := hg'.split
      exact absurd he (g3.2 d (by simp))

end
end Go.AM
