import Derived.Test.YtpjdgiiphohjeaaGreatDoorAm13
/-! Statements whose order is drawn: what the turning says of them. -/
namespace Go.AM

/-! ### Reading again in more memory -/
/-- More objects, the elder ones as they were. -/
structure More (h h' : Heap) : Prop where
  next : h.next ≤ h'.next
  same : ∀ id, id < h.next → h'.get id = h.get id

theorem More.refl (h : Heap) : More h h := ⟨Nat.le_refl _, fun _ _ => rfl⟩
theorem More.trans {a b c : Heap} (x : More a b) (y : More b c) : More a c := ⟨Nat.le_trans x.next y.next, fun id h => (y.same id (Nat.lt_of_lt_of_le h x.next)).trans (x.same id h)⟩
theorem More.push (h : Heap) (o : AObj) : More h (h.push o) := ⟨by simp, fun id hid => by rw [Heap.get_push, if_neg (by omega)]⟩
theorem More.get {h h' : Heap} (m : More h h') {id : Nat} {o : AObj} (e : h.get id = some o) : h'.get id = some o := (m.same id (Heap.get_lt e)).trans e

theorem More.cells {h h' : Heap} (m : More h h') {id : Nat} {vs : List AVal} (e : getCells h id = some vs) : getCells h' id = some vs := by
  obtain ⟨k, g⟩ := getCells_spec e
  have := m.get g
  simp [getCells, this]

theorem More.entries {h h' : Heap} (m : More h h') {x : AVal} {es : List (AVal × AVal × Nat)} (e : entriesOf h x = some es) : entriesOf h' x = some es := by
  unfold entriesOf at e ⊢
  split at e
  · exact e
  · rename_i id
    split at e
    · rename_i es' c g; cases e
      have := m.get g
      simp [this]
    · cases e
  · cases e

theorem More.plain {h h' : Heap} (m : More h h') {id : Nat} (e : plainObj h id = true) : plainObj h' id = true := by
  unfold plainObj at e ⊢
  split at e
  · rename_i vs g
    have := m.get g
    simpa [this] using e
  · cases e

theorem More.eqPtr {h h' : Heap} (m : More h h') {a b : AVal} {c : Bool} (e : eqPtr h a b = some c) : AM.eqPtr h' a b = some c := by
  unfold AM.eqPtr at e ⊢
  split at e <;> first | exact e | (cases e; done) | skip
  split at e
  · rename_i hp
    simp only [Bool.and_eq_true] at hp
    simp only [m.plain hp.1, m.plain hp.2, Bool.and_self]
    exact e
  · cases e

theorem More.eqLeaf {h h' : Heap} (m : More h h') {l : Leaf} {a b : AVal} {c : Bool} (e : eqLeaf h l a b = some c) : AM.eqLeaf h' l a b = some c := by
  unfold AM.eqLeaf at e ⊢
  split at e
  · exact e
  · exact e
  · exact e
  · exact m.eqPtr e
  · cases e

theorem More.eqLeaves {h h' : Heap} (m : More h h') {xs ys : List AVal} : ∀ {ls : List (Nat × Leaf)} {c : Bool}, eqLeaves h xs ys ls = some c → AM.eqLeaves h' xs ys ls = some c := by
  intro ls
  induction ls with
  | nil => intro c e; exact e
  | cons p ls ih =>
    intro c e
    obtain ⟨i, l⟩ := p
    simp only [AM.eqLeaves] at e ⊢
    split at e
    · rename_i x y _ _
      cases hl : AM.eqLeaf h l x y with
      | none => simp [hl] at e
      | some q =>
        rw [m.eqLeaf hl]
        rw [hl] at e
        cases q
        · exact e
        · exact ih e
    · cases e

theorem More.eqPlan {h h' : Heap} (m : More h h') {p : Plan} {a b : AVal} {c : Bool} (e : eqPlan h p a b = some c) : AM.eqPlan h' p a b = some c := by
  unfold AM.eqPlan at e ⊢
  split at e <;> first | exact e | (cases e; done) | skip
  · exact m.eqLeaf e
  · split at e
    · exact m.eqLeaves e
    · cases e

theorem More.evalBin {h h' : Heap} (m : More h h') {op : BinOp} {p : Option Plan} {a b c : AVal} (e : evalBin h op p a b = some c) : AM.evalBin h' op p a b = some c := by
  unfold AM.evalBin at e ⊢
  split at e
  · exact e
  · exact e
  · split at e
    · rename_i q
      cases hq : AM.eqPlan h q a b with
      | none => simp [hq] at e
      | some x => rw [hq] at e; simp only [m.eqPlan hq]; exact e
    · rename_i q
      cases hq : AM.eqPlan h q a b with
      | none => simp [hq] at e
      | some x => rw [hq] at e; simp only [m.eqPlan hq]; exact e
    · cases e

theorem evalRead_pure {op : AOp AVal} (hp : op.cls = .pure) (h h' : Heap) : evalRead h op = evalRead h' op := by
  cases op
  case pick c a b => cases c <;> rfl
  case nilCheck x => cases x <;> rfl
  case un o x => cases o <;> cases x <;> rfl
  case conv k x => cases k <;> first | (simp [AOp.cls] at hp; done) | (cases x <;> rfl)
  case sliceStr x lo hi => cases x <;> rfl
  case sliceSl e x lo hi mx =>
    cases x <;> first | rfl | skip
    rename_i c
    cases c <;> first | rfl | (cases mx <;> rfl)
  case sliceArr n e x lo hi mx => cases x <;> rfl
  case fieldAddr o x => cases x <;> rfl
  case field1 o x => cases x <;> rfl
  case fieldN o n x => cases x <;> rfl
  case idxAddrA l e x i => cases x <;> rfl
  case idxAddrS e x i => cases x <;> rfl
  case idxA1 l e x i => cases x <;> rfl
  case idxAN l e x i => cases x <;> rfl
  case idxStr x i => cases x <;> rfl
  case extract x i => cases x <;> rfl
  case len k x => cases k <;> first | (simp [AOp.cls] at hp; done) | (cases x <;> first | rfl | (rename_i v; cases v <;> rfl))
  case cap x => cases x <;> first | rfl | (rename_i c; cases c <;> rfl)
  case minmax m x ys => cases x <;> rfl
  all_goals first | rfl | (simp [AOp.cls] at hp; done)

theorem evalRead_more {h h' : Heap} (m : More h h') {op : AOp AVal} {v : AVal} (e : evalRead h op = some v) : evalRead h' op = some v := by
  by_cases hp : op.cls = .pure
  · rw [← e]; exact evalRead_pure hp h' h
  cases op
  case load1 a =>
    cases a <;> simp only [evalRead, reduceCtorEq] at e ⊢
    split at e
    · rename_i vs hg; simp only [m.cells hg]; exact e
    · cases e
  case loadN n a =>
    cases a <;> simp only [evalRead, reduceCtorEq] at e ⊢
    split at e
    · rename_i vs hg; simp only [m.cells hg]; exact e
    · cases e
  case bin op p x y => exact m.evalBin e
  case conv k x =>
    cases k <;> first | (simp [AOp.cls] at hp; done) | skip
    · cases x <;> simp only [evalRead, reduceCtorEq] at e
    · cases x <;> simp only [evalRead, reduceCtorEq] at e ⊢
      · split at e
        · rename_i vs hg; simp only [m.cells hg]; exact e
        · cases e
      · exact e
  case lookup kk z x i ok =>
    simp only [evalRead] at e ⊢
    split at e
    · rename_i es hes; simp only [m.entries hes]; exact e
    · cases e
  case len k x =>
    cases k <;> first | (simp [AOp.cls] at hp; done) | skip
    simp only [evalRead] at e ⊢
    split at e
    · rename_i es hes; simp only [m.entries hes]; exact e
    · cases e
  all_goals first | (simp [AOp.cls] at hp; done) | (simp only [evalRead, reduceCtorEq] at e)

/-! ### Operands turned -/
theorem travL_map {α β γ : Type} {f : α → Option β} {g : β → γ} {g' : α → γ} (hg : ∀ x y, f x = some y → g y = g' x) : ∀ {xs : List α} {ys : List β}, travL f xs = some ys → ys.map g = xs.map g' := by
  intro xs
  induction xs with
  | nil => intro ys h; simp [travL] at h; subst h; rfl
  | cons x xs ih =>
    intro ys h
    simp only [travL] at h
    split at h
    · rename_i y ys' h1 h2; cases h
      simp [hg _ _ h1, ih h2]
    · cases h

theorem travO_map {α β γ : Type} {f : α → Option β} {g : β → γ} {g' : α → γ} (hg : ∀ x y, f x = some y → g y = g' x) {x : Option α} {y : Option β} (h : travO f x = some y) : y.map g = x.map g' := by
  cases x with
  | none => simp [travO] at h; subst h; rfl
  | some x =>
    simp only [travO] at h
    split at h
    · rename_i z hz; cases h; simp [hg _ _ hz]
    · cases h

theorem travP_map {α β γ : Type} {f : α → Option β} {g : β → γ} {g' : α → γ} (hg : ∀ x y, f x = some y → g y = g' x) : ∀ {xs : List (Nat × Nat × α)} {ys : List (Nat × Nat × β)}, travP f xs = some ys → (ys.map fun p => (p.1, p.2.1, g p.2.2)) = (xs.map fun p => (p.1, p.2.1, g' p.2.2)) := by
  intro xs
  induction xs with
  | nil => intro ys h; simp [travP] at h; subst h; rfl
  | cons x xs ih =>
    obtain ⟨a, b, x⟩ := x
    intro ys h
    simp only [travP] at h
    split at h
    · rename_i y ys' h1 h2; cases h
      simp [hg _ _ h1, ih h2]
    · cases h

theorem ap1_some {α β : Type} {g : α → β} {x : Option α} {z : β} (h : ap1 g x = some z) : ∃ a, x = some a ∧ g a = z := by cases x <;> simp [ap1] at h; exact ⟨_, rfl, h⟩
theorem ap2_some {α β γ : Type} {g : α → β → γ} {x : Option α} {y : Option β} {z : γ} (h : ap2 g x y = some z) : ∃ a b, x = some a ∧ y = some b ∧ g a b = z := by cases x <;> cases y <;> simp [ap2] at h; exact ⟨_, _, rfl, rfl, h⟩
theorem ap3_some {α β γ δ : Type} {g : α → β → γ → δ} {x : Option α} {y : Option β} {u : Option γ} {z : δ} (h : ap3 g x y u = some z) : ∃ a b c, x = some a ∧ y = some b ∧ u = some c ∧ g a b c = z := by
  cases x <;> cases y <;> cases u <;> simp [ap3] at h; exact ⟨_, _, _, rfl, rfl, rfl, h⟩
theorem ap4_some {α β γ δ ε : Type} {g : α → β → γ → δ → ε} {x : Option α} {y : Option β} {u : Option γ} {v : Option δ} {z : ε} (h : ap4 g x y u v = some z) : ∃ a b c d, x = some a ∧ y = some b ∧ u = some c ∧ v = some d ∧ g a b c d = z := by
  cases x <;> cases y <;> cases u <;> cases v <;> simp [ap4] at h; exact ⟨_, _, _, _, rfl, rfl, rfl, rfl, h⟩

theorem trav_map {α β γ : Type} {f : α → Option β} {g : β → γ} {g' : α → γ} (hg : ∀ x y, f x = some y → g y = g' x) {op : AOp α} {op' : AOp β} (h : op.trav f = some op') : op'.map g = op.map g' := by
  cases op <;> simp only [AOp.trav] at h
  all_goals
    first
      | (cases h; rfl)
      | (obtain ⟨a, e1, rfl⟩ := ap1_some h
         first
          | (simp only [AOp.map, hg _ _ e1])
          | (simp only [AOp.map, travP_map hg e1]))
      | (obtain ⟨a, b, e1, e2, rfl⟩ := ap2_some h
         first
          | (simp only [AOp.map, hg _ _ e1, hg _ _ e2])
          | (simp only [AOp.map, travL_map hg e1, travL_map hg e2])
          | (simp only [AOp.map, hg _ _ e1, travL_map hg e2]))
      | (obtain ⟨a, b, c, e1, e2, e3, rfl⟩ := ap3_some h
         first
          | (simp only [AOp.map, hg _ _ e1, hg _ _ e2, hg _ _ e3])
          | (simp only [AOp.map, hg _ _ e1, travO_map hg e2, travO_map hg e3]))
      | (obtain ⟨a, b, c, d, e1, e2, e3, e4, rfl⟩ := ap4_some h
         simp only [AOp.map, hg _ _ e1, travO_map hg e2, travO_map hg e3, travO_map hg e4])

theorem trav_cls {α β : Type} {f : α → Option β} {op : AOp α} {op' : AOp β} (h : op.trav f = some op') : op'.cls = op.cls := by
  cases op <;> simp only [AOp.trav] at h
  case conv k x => obtain ⟨a, e1, rfl⟩ := ap1_some h; cases k <;> rfl
  case len k x => obtain ⟨a, e1, rfl⟩ := ap1_some h; cases k <;> rfl
  all_goals
    first
      | (cases h; rfl)
      | (obtain ⟨a, e1, rfl⟩ := ap1_some h; rfl)
      | (obtain ⟨a, b, e1, e2, rfl⟩ := ap2_some h; rfl)
      | (obtain ⟨a, b, c, e1, e2, e3, rfl⟩ := ap3_some h; rfl)
      | (obtain ⟨a, b, c, d, e1, e2, e3, e4, rfl⟩ := ap4_some h; rfl)

theorem map_cls {α β : Type} (f : α → β) (op : AOp α) : (op.map f).cls = op.cls := by
  cases op
  case conv k x => cases k <;> rfl
  case len k x => cases k <;> rfl
  all_goals rfl

/-! ### Ancestors -/
theorem orEdges_spec (b : Tr Nat) : ∀ (es : List Edge) (s j : Nat), (orEdges b es s).testBit j = true → s.testBit j = true ∨ ∃ e ∈ es, Region.binds .any e = true ∧ (e.on = j ∨ (bits b e.on).testBit j = true) := by
  intro es
  induction es with
  | nil => intro s j h; exact .inl h
  | cons e es ih =>
    intro s j h
    simp only [orEdges] at h
    split at h
    · rename_i hb
      rcases ih _ _ h with h1 | ⟨e', he', h1⟩
      · simp only [Nat.testBit_or, Bool.or_eq_true] at h1
        rcases h1 with (h1 | h1) | h1
        · exact .inl h1
        · right
          refine ⟨e, by simp, hb, .inl ?_⟩
          rw [Nat.testBit_two_pow] at h1
          simpa using h1
        · exact .inr ⟨e, by simp, hb, .inr h1⟩
      · exact .inr ⟨e', by simp [he'], h1⟩
    · rcases ih _ _ h with h1 | ⟨e', he', h1⟩
      · exact .inl h1
      · exact .inr ⟨e', by simp [he'], h1⟩

theorem bits_set (b : Tr Nat) (i v j : Nat) : bits (b.set i v) j = if j = i then v else bits b j := by
  unfold bits
  rw [Tr.get_set]
  by_cases h : j = i <;> simp [h]

/-- What is set later is set elsewhere. -/
theorem ancFrom_keep : ∀ (os : List Oper) (i : Nat) (b : Tr Nat) (j : Nat), j < i → bits (ancFrom os i b) j = bits b j := by
  intro os
  induction os with
  | nil => intro i b j _; rfl
  | cons o os ih =>
    intro i b j hj
    simp only [ancFrom]
    rw [ih _ _ _ (by omega), bits_set, if_neg (by omega)]

theorem ancFrom_spec : ∀ (os : List Oper) (i : Nat) (b : Tr Nat), (∀ j, i ≤ j → bits b j = 0) → ∀ (k : Nat) (o : Oper), os[k]? = some o → ∀ j, (bits (ancFrom os i b) (i + k)).testBit j = true →
    ∃ e ∈ o.after.toList, Region.binds .any e = true ∧ (e.on = j ∨ (bits (ancFrom os i b) e.on).testBit j = true) := by
  intro os
  induction os with
  | nil => intro i b _ k o h; simp at h
  | cons o' os ih =>
    intro i b hz k o ho j hj
    simp only [ancFrom] at hj ⊢
    cases k with
    | zero =>
      simp at ho; subst ho
      rw [ancFrom_keep _ _ _ _ (by omega), bits_set, if_pos (Nat.add_zero i)] at hj
      rcases orEdges_spec b _ _ _ hj with h1 | ⟨e, he, hb, h1⟩
      · simp at h1
      · refine ⟨e, he, hb, h1.imp id fun h2 => ?_⟩
        by_cases hlt : e.on < i
        · rw [ancFrom_keep _ _ _ _ (by omega), bits_set, if_neg (by omega)]; exact h2
        · rw [hz _ (by omega)] at h2; simp at h2
    | succ k =>
      simp only [List.getElem?_cons_succ] at ho
      rw [show i + (k + 1) = (i + 1) + k from by omega] at hj
      refine ih (i + 1) _ ?_ k o ho j hj
      intro j' hj'
      rw [bits_set, if_neg (by omega)]
      exact hz _ (by omega)

theorem orEdges_keep (b : Tr Nat) : ∀ (es : List Edge) (s j : Nat), s.testBit j = true → (orEdges b es s).testBit j = true := by
  intro es
  induction es with
  | nil => intro s j h; exact h
  | cons e es ih =>
    intro s j h
    simp only [orEdges]
    split
    · exact ih _ _ (by simp [Nat.testBit_or, h])
    · exact ih _ _ h

theorem orEdges_has (b : Tr Nat) : ∀ (es : List Edge) (s : Nat) (e : Edge), e ∈ es → Region.binds .any e = true → (orEdges b es s).testBit e.on = true := by
  intro es
  induction es with
  | nil => intro s e h; cases h
  | cons e' es ih =>
    intro s e h hb
    simp only [orEdges]
    cases h with
    | head =>
      rw [hb]
      refine orEdges_keep b es _ _ ?_
      rw [Nat.testBit_or, Nat.testBit_or, Nat.testBit_two_pow]
      simp
    | tail _ h =>
      split
      · exact ih _ e h hb
      · exact ih _ e h hb

theorem ancFrom_edge : ∀ (os : List Oper) (i : Nat) (b : Tr Nat) (k : Nat) (o : Oper), os[k]? = some o → ∀ e ∈ o.after.toList, Region.binds .any e = true → (bits (ancFrom os i b) (i + k)).testBit e.on = true := by
  intro os
  induction os with
  | nil => intro i b k o h; simp at h
  | cons o' os ih =>
    intro i b k o ho e he hb
    simp only [ancFrom]
    cases k with
    | zero =>
      simp at ho; subst ho
      rw [ancFrom_keep _ _ _ _ (by omega), bits_set, if_pos (Nat.add_zero i)]
      exact orEdges_has b _ _ e he hb
    | succ k =>
      simp only [List.getElem?_cons_succ] at ho
      rw [show i + (k + 1) = (i + 1) + k from by omega]
      exact ih (i + 1) _ k o ho e he hb

/-! ### Who gives what an operation finds -/
theorem findT_spec (b : Tr Nat) (i t : Nat) : ∀ (os : List Oper) (k : Nat) (x y : DOpd), findT b i t k os x = some y →
    (y = x ∧ ∀ j o, os[j]? = some o → o.dst = some t → k + j = i ∨ (bits b (k + j)).testBit i = true) ∨
    (∃ m, x = .old m) ∧ ∃ j o, os[j]? = some o ∧ o.dst = some t ∧ (bits b i).testBit (k + j) = true ∧ y = .val (k + j) := by
  intro os
  induction os with
  | nil => intro k x y h; simp [findT] at h; exact .inl ⟨h.symm, by simp⟩
  | cons o os ih =>
    intro k x y h
    have shift : ∀ (P : Nat → Prop), (∀ j, P (k + 1 + j) → P (k + (j + 1))) := fun P j hp => by rwa [show k + (j + 1) = k + 1 + j from by omega]
    have skip : (o.dst = some t → k = i ∨ (bits b k).testBit i = true) → findT b i t (k + 1) os x = some y → 
        (y = x ∧ ∀ j o', (o :: os)[j]? = some o' → o'.dst = some t → k + j = i ∨ (bits b (k + j)).testBit i = true) ∨
        (∃ m, x = .old m) ∧ ∃ j o', (o :: os)[j]? = some o' ∧ o'.dst = some t ∧ (bits b i).testBit (k + j) = true ∧ y = .val (k + j) := by
      intro h0 h1
      rcases ih _ _ _ h1 with ⟨h2, h3⟩ | ⟨h2, j, o', h3, h4, h5, h6⟩
      · refine .inl ⟨h2, fun j o' hj hd => ?_⟩
        cases j with
        | zero => simp at hj; subst hj; simpa using h0 hd
        | succ j => simp at hj; have := h3 j o' hj hd; rwa [show k + (j + 1) = k + 1 + j from by omega]
      · exact .inr ⟨h2, j + 1, o', by simpa using h3, h4, by rwa [show k + (j + 1) = k + 1 + j from by omega], by rw [h6]; congr 1; omega⟩
    simp only [findT] at h
    split at h
    · rename_i hd; exact skip (by rw [hd]; simp) h
    · rename_i d hd
      split at h
      · rename_i hb
        refine skip ?_ h
        intro e; rw [hd] at e; cases e
        rw [Nat.beq_refl] at hb; cases hb
      · rename_i hb
        have hdt := Nat.eq_of_beq_eq_true hb
        subst hdt
        split at h
        · rename_i hor
          refine skip (fun _ => ?_) h
          simp only [Bool.or_eq_true] at hor
          exact hor.imp Nat.eq_of_beq_eq_true id
        · rename_i hor
          split at h
          · rename_i m hbit
            rcases ih _ _ _ h with ⟨h2, h3⟩ | ⟨⟨m', h2⟩, _⟩
            · exact .inr ⟨⟨_, rfl⟩, 0, o, rfl, hd, by simpa using hbit, by simpa using h2⟩
            · cases h2
          · cases h

theorem onlyOne_spec (i t : Nat) : ∀ (os : List Oper) (k : Nat), onlyOne i t k os = true → ∀ j o, os[j]? = some o → o.dst = some t → k + j = i := by
  intro os
  induction os with
  | nil => intro k _ j o h; simp at h
  | cons o' os ih =>
    intro k h j o hj hd
    simp only [onlyOne] at h
    cases j with
    | zero =>
      simp at hj; subst hj
      rw [hd] at h
      simp only [Bool.and_eq_true, Bool.or_eq_true, Nat.beq_refl, Bool.not_true, Bool.false_eq_true, or_false] at h
      exact Nat.eq_of_beq_eq_true h.1
    | succ j =>
      simp at hj
      have h' : onlyOne i t (k + 1) os = true := by
        split at h
        · exact h
        · simp only [Bool.and_eq_true] at h; exact h.2
      have := ih (k + 1) h' j o hj hd
      omega

end Go.AM
