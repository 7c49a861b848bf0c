import Derived.Test.YtpjdgiiphohjeaaGreatDoorAm8
/-! Appending. -/
namespace Go.AM

theorem growBy_le (newLen : Nat) : ∀ (r c : Nat), c ≤ 2 * newLen + 192 → Builtin.growBy newLen r c ≤ 2 * newLen + 192 := by
  intro r
  induction r with
  | zero => intro c h; simpa [Builtin.growBy] using h
  | succ r ih =>
    intro c h
    simp only [Builtin.growBy]
    split
    · exact h
    · refine ih _ ?_; omega

theorem nextslicecap_le {need old : Nat} (h : old < need) : Builtin.nextslicecap need old ≤ 2 * need + 192 := by
  unfold Builtin.nextslicecap
  split
  · omega
  · split
    · omega
    · exact growBy_le need 4 old (by omega)

theorem roomy_spec {n bytes : Nat} (h : roomy n bytes = true) : n * bytes ≤ 35184372088832 ∧ bytes ≤ 1048576 ∧ n ≤ 1099511627776 := by
  unfold roomy at h
  simp only [Bool.and_eq_true] at h
  exact ⟨Nat.le_of_ble_eq_true h.1.1, Nat.le_of_ble_eq_true h.1.2, Nat.le_of_ble_eq_true h.2⟩

theorem roomy_cap {need old bytes : Nat} (h : roomy need bytes = true) (ho : old < need) : ¬ (Builtin.nextslicecap need old * bytes > 2 ^ 48) := by
  obtain ⟨h1, h2, _⟩ := roomy_spec h
  have h3 := nextslicecap_le ho
  have h4 : Builtin.nextslicecap need old * bytes ≤ (2 * need + 192) * bytes := Nat.mul_le_mul_right _ h3
  have h5 : (2 * need + 192) * bytes = 2 * (need * bytes) + 192 * bytes := by rw [Nat.add_mul, Nat.mul_assoc]
  have h6 : (2 : Nat) ^ 48 = 281474976710656 := by decide
  omega

theorem roomy_len {need bytes : Nat} (h : roomy need bytes = true) (p : Prop) : ¬ (((need : Nat) : Int) > IntKind.i64.max ∧ p) := by
  obtain ⟨_, _, h3⟩ := roomy_spec h
  rintro ⟨h4, _⟩
  simp only [IntKind.max, IntKind.signed, IntKind.bits] at h4
  simp at h4
  omega

/-- What an append comes to. -/
inductive Appends (P : Program) (w : World) (elem : TypeId) (base : Option Addr) (sLen sCap need : Nat) (old new z : Array Value) : Value → World → Prop where
  | fits (w' : World) (a : Addr) (hle : need ≤ sCap) (hb : base = some a) (hs : (storeCells a new.toList).run P w = .ok () w') : Appends P w elem base sLen sCap need old new z (.slice base need sCap) w'
  | none (hle : need ≤ sCap) (hb : base = none) : Appends P w elem base sLen sCap need old new z (.slice base need sCap) w
  | grows (c dr : Nat) (hlt : sCap < need) (hc : need ≤ c) : Appends P w elem base sLen sCap need old new z (.slice (some ⟨w.heap.size, 0, none⟩) need c)
      { w with heap := w.heap.push (.cells (old ++ new ++ Builtin.zeroCells z (c - need)) elem), drawn := dr }

section
variable {P : Program} {w : World} {sT xT elem : TypeId} {ei : TypeInfo} {base : Option Addr} {sLen sCap n size : Nat} {x : Value} {xd : TypeDesc}
  (hu : ∀ w, (underlying sT).run P w = .ok (.slice elem) w) (hux : ∀ w, (underlying xT).run P w = .ok xd w) (hs : ∀ w, (sizeOf elem).run P w = .ok size w)
  (hti : ∀ w, (typeInfo elem).run P w = .ok ei w)
include hu hux hs

theorem run_append_fits (hxd : ∀ k, xd = .int k → False) (hl : ∀ w, (Builtin.lenOf x).run P w = .ok n w) {nv : Array Value} (hn : (Builtin.firstCells size n x).run P w = .ok nv w) (hle : sLen + n ≤ sCap) {a : Addr} {w' : World}
    (hst : (storeCells (a.add (sLen * size)) nv.toList).run P w = .ok () w') (type : TypeId) : (Builtin.append_ #[sT, xT] type #[.slice (some a) sLen sCap, x]).run P w = .ok (.slice (some a) (sLen + n) sCap) w' := by
  simp only [Builtin.append_, Sem.run_bind, hu, Result.andThen_ok, hs, hux, Sem.run_pure, List.getElem?_toArray, List.getElem?_cons_zero, List.getElem?_cons_succ, hl, Bool.false_eq_true, if_false, Bool.not_false, if_true, hle, hn, hst]

theorem run_append_nil (hxd : ∀ k, xd = .int k → False) (hl : ∀ w, (Builtin.lenOf x).run P w = .ok 0 w) {nv : Array Value} (hn : (Builtin.firstCells size 0 x).run P w = .ok nv w)
    (type : TypeId) : (Builtin.append_ #[sT, xT] type #[.slice none 0 0, x]).run P w = .ok (.slice none 0 0) w := by
  simp only [Builtin.append_, Sem.run_bind, hu, Result.andThen_ok, hs, hux, Sem.run_pure, List.getElem?_toArray, List.getElem?_cons_zero, List.getElem?_cons_succ, hl, Bool.false_eq_true, if_false, Bool.not_false, if_true, Nat.le_refl, Nat.add_zero, hn]

include hti in
theorem run_append_grows (hxd : ∀ k, xd = .int k → False) (hl : ∀ w, (Builtin.lenOf x).run P w = .ok n w) {nv ov : Array Value} {zv : Value} (hn : ∀ dr, (Builtin.firstCells size n x).run P { w with drawn := dr } = .ok nv { w with drawn := dr })
    (ho : ∀ dr, (Builtin.firstCells size sLen (.slice base sLen sCap)).run P { w with drawn := dr } = .ok ov { w with drawn := dr }) (hzero : ∀ w, (zeroValue elem).run P w = .ok zv w)
    (hlt : sCap < sLen + n) (hr : roomy (sLen + n) ei.bytes = true) (type : TypeId) : ∃ c dr, sLen + n ≤ c ∧ (Builtin.append_ #[sT, xT] type #[.slice base sLen sCap, x]).run P w =
      .ok (.slice (some ⟨w.heap.size, 0, none⟩) (sLen + n) c) { w with heap := w.heap.push (.cells (ov ++ nv ++ Builtin.zeroCells zv.cells (c - (sLen + n))) elem), drawn := dr } := by
  have g1 := roomy_len hr (False ∨ ei.bytes = 0)
  have g2 := roomy_cap hr hlt
  have hf : (Question.appendCap (sLen + n) sCap elem).forced = false := rfl
  refine ⟨Question.cut (.appendCap (sLen + n) sCap elem) (w.tape w.drawn (.appendCap (sLen + n) sCap elem)), w.drawn + 1, Nat.le_add_right _ _, ?_⟩
  simp only [Builtin.append_, Sem.run_bind, hu, Result.andThen_ok, hs, hux, Sem.run_pure, List.getElem?_toArray, List.getElem?_cons_zero, List.getElem?_cons_succ, hl, Bool.false_eq_true, if_false, Bool.not_false, if_true,
    if_neg (Nat.not_le.2 hlt), hti, if_neg g1, if_neg g2, run_choose, hf, run_askRoom, ho, hn, hzero, newRow, run_newObj, Sem.run_ite]

theorem run_appendZ_fits {k : IntKind} (hxd : xd = .int k) {kd : IntKind} (hn31 : n ≤ 2147483648) (hb : ei.bytes * n ≤ 281474976710656) {zv : Value} (hzero : ∀ w, (zeroValue elem).run P w = .ok zv w) (hnz : n * size ≠ 0)
    (hti : ∀ w, (typeInfo elem).run P w = .ok ei w) (hle : sLen + n ≤ sCap) {a : Addr} {w' : World}
    (hst : (storeCells (a.add (sLen * size)) (Builtin.zeroCells zv.cells n).toList).run P w = .ok () w') (type : TypeId) : (Builtin.append_ #[sT, xT] type #[.slice (some a) sLen sCap, .int kd n]).run P w = .ok (.slice (some a) (sLen + n) sCap) w' := by
  subst hxd
  have hw := wrap_small n (by omega)
  have t1 : ¬ ((n : Int) < 0) := by omega
  have t2 : ¬ ((n : Int) * (ei.bytes : Int) > 2 ^ 48) := by
    have h6 : (2 : Int) ^ 48 = 281474976710656 := by decide
    have : ((ei.bytes * n : Nat) : Int) ≤ 281474976710656 := by omega
    rw [Int.natCast_mul, Int.mul_comm] at this
    omega
  simp only [Builtin.append_, Sem.run_bind, hu, Result.andThen_ok, hs, hux, Sem.run_pure, List.getElem?_toArray, List.getElem?_cons_zero, List.getElem?_cons_succ, if_true, asInt, asIntOf, hw, t1, t2, if_false, hti, Int.toNat_natCast, hle,
    Bool.not_true, Bool.false_eq_true, Sem.run_ite, hnz, hzero, hst]

theorem run_appendZ_grows {k : IntKind} (hxd : xd = .int k) {kd : IntKind} (hn31 : n ≤ 2147483648) (hb : ei.bytes * n ≤ 281474976710656) {zv : Value} (hzero : ∀ w, (zeroValue elem).run P w = .ok zv w) (hnz : n * size ≠ 0)
    (hti : ∀ w, (typeInfo elem).run P w = .ok ei w) {ov : Array Value}
    (ho : ∀ dr, (Builtin.firstCells size sLen (.slice base sLen sCap)).run P { w with drawn := dr } = .ok ov { w with drawn := dr })
    (hlt : sCap < sLen + n) (hr : roomy (sLen + n) ei.bytes = true) (type : TypeId) : ∃ c dr, sLen + n ≤ c ∧ (Builtin.append_ #[sT, xT] type #[.slice base sLen sCap, .int kd n]).run P w =
      .ok (.slice (some ⟨w.heap.size, 0, none⟩) (sLen + n) c) { w with heap := w.heap.push (.cells (ov ++ Builtin.zeroCells zv.cells n ++ Builtin.zeroCells zv.cells (c - (sLen + n))) elem), drawn := dr } := by
  subst hxd
  have hw := wrap_small n (by omega)
  have t1 : ¬ ((n : Int) < 0) := by omega
  have t2 : ¬ ((n : Int) * (ei.bytes : Int) > 2 ^ 48) := by
    have h6 : (2 : Int) ^ 48 = 281474976710656 := by decide
    have : ((ei.bytes * n : Nat) : Int) ≤ 281474976710656 := by omega
    rw [Int.natCast_mul, Int.mul_comm] at this
    omega
  have g1 := roomy_len hr (True ∨ ei.bytes = 0)
  have g2 := roomy_cap hr hlt
  have hf : (Question.appendCap (sLen + n) sCap elem).forced = false := rfl
  refine ⟨Question.cut (.appendCap (sLen + n) sCap elem) (w.tape w.drawn (.appendCap (sLen + n) sCap elem)), w.drawn + 1, Nat.le_add_right _ _, ?_⟩
  simp only [Builtin.append_, Sem.run_bind, hu, Result.andThen_ok, hs, hux, Sem.run_pure, List.getElem?_toArray, List.getElem?_cons_zero, List.getElem?_cons_succ, if_true, asInt, asIntOf, hw, t1, t2, if_false, hti, Int.toNat_natCast,
    if_neg (Nat.not_le.2 hlt), if_neg g1, if_neg g2, run_choose, hf, run_askRoom, Bool.not_true, Bool.false_eq_true, Sem.run_ite, hnz, hzero, ho, newRow, run_newObj]

end
end Go.AM
