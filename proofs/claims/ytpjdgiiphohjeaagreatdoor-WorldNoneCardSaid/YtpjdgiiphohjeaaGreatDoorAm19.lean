import Derived.Test.YtpjdgiiphohjeaaGreatDoorAm18
/-! A drawn statement, in whatever order: one step more. -/
namespace Go.AM

theorem DTr.length {call : FuncId → List AVal → Heap → Option (AVal × Heap)} {e vF : Env} {ds : List DOper} {h : Heap} {Hs : List Heap} (t : DTr call e vF ds h Hs) : Hs.length = cntW ds + 1 := by
  induction t with
  | nil h => rfl
  | skipW d ds h Hs hw hW hv t ih => rw [cntW_cons]; simp [cntW, hW] at *; omega
  | skip d ds h Hs hw hW hv t ih => rw [cntW_cons]; simp [cntW, hW] at *; omega
  | read d ds h Hs hw hc hr t ih =>
    have hW : d.isW = false := by rcases hc with hc | hc <;> simp [DOper.isW, hc, Cls.isW]
    rw [cntW_cons]; simp [cntW, hW] at *; omega
  | alloc d ds h Hs obj mk hw hc ha hv t ih =>
    have hW : d.isW = false := by simp [DOper.isW, hc, Cls.isW]
    rw [cntW_cons]; simp [cntW, hW] at *; omega
  | write d ds h h' Hs hw hc hE hn t ih =>
    have hW : d.isW = true := by simp [DOper.isW, hc, Cls.isW]
    rw [cntW_cons]; simp [cntW, hW] at *; omega

theorem later_mem (b : Tr Nat) (i : Nat) : ∀ (ws : List Nat) (j k : Nat), k < ws.length → (∀ l w, l ≤ k → ws[l]? = some w → (bits b w).testBit i = false) → j + k + 1 ∈ later b i ws j := by
  intro ws
  induction ws with
  | nil => intro j k h; simp at h
  | cons w ws ih =>
    intro j k hk hw
    have h0 := hw 0 w (Nat.zero_le _) rfl
    simp only [later, h0]
    cases k with
    | zero => simp
    | succ k =>
      right
      have := ih (j + 1) k (by simpa using hk) fun l w' hl hw' => hw (l + 1) w' (by omega) (by simpa using hw')
      rw [show j + (k + 1) + 1 = j + 1 + k + 1 from by omega]
      exact this

theorem checkOne_spec {hs : List Heap} {p : Past} : ∀ {js : List Nat}, checkOne hs p js = true → ∀ j ∈ js, ∃ h, hs[j]? = some h ∧ evalRead h p.op = some p.v := by
  intro js
  induction js with
  | nil => intro _ j hj; cases hj
  | cons k js ih =>
    intro h j hj
    simp only [checkOne] at h
    split at h
    · rename_i hh hhe
      split at h
      · rename_i v hv
        simp only [Bool.and_eq_true] at h
        cases hj with
        | head => exact ⟨hh, hhe, by rw [hv, AVal.beq_eq _ _ h.1]⟩
        | tail _ hj => exact ih h.2 j hj
      · cases h
    · cases h

/-- The writing operation of a number. -/
theorem nth_write : ∀ (ds : List DOper) (k : Nat), k < cntW ds → ∃ pre d suf, ds = pre ++ d :: suf ∧ d.isW = true ∧ cntW pre = k ∧ ((ds.filter DOper.isW).map (·.idx))[k]? = some d.idx := by
  intro ds
  induction ds with
  | nil => intro k h; simp [cntW] at h
  | cons d ds ih =>
    intro k h
    by_cases hW : d.isW = true
    · cases k with
      | zero => exact ⟨[], d, ds, rfl, hW, rfl, by simp [hW]⟩
      | succ k =>
        rw [cntW_cons] at h
        have h1 : cntW [d] = 1 := by simp [cntW, hW]
        obtain ⟨pre, d', suf, e1, e2, e3, e4⟩ := ih k (by omega)
        exact ⟨d :: pre, d', suf, by rw [e1]; rfl, e2, by rw [cntW_cons, h1, e3, Nat.add_comm], by simpa [hW] using e4⟩
    · have hW' : d.isW = false := by simpa using hW
      rw [cntW_cons] at h
      have h1 : cntW [d] = 0 := by simp [cntW, hW']
      obtain ⟨pre, d', suf, e1, e2, e3, e4⟩ := ih k (by omega)
      exact ⟨d :: pre, d', suf, by rw [e1]; rfl, e2, by rw [cntW_cons, h1, e3, Nat.zero_add], by simpa [hW'] using e4⟩

section
variable {P : Program} {tb : Types} (T : TbOk P tb) {call : FuncId → List AVal → Heap → Option (AVal × Heap)} (C : CallSound P call)
  {nt : Nat} {ops : Array Oper} {ds : List DOper} (D : DOk tb nt ops (ancFrom ops.toList 0 .leaf) ds) {e vF : Env} {h0 : Heap} {Hs : List Heap} (t : DTr call e vF ds h0 Hs)
  (chk : ∀ d ∈ ds, wantedD e vF d.guard = true → (d.op.cls = .pure ∨ d.op.cls = .read) → checkOne Hs ⟨d.rop e vF, look vF (.t d.idx), d.chk⟩ d.chk = true)
  {φ0 : Map} {w0 : World} {S : Nat → Bool} {m : Nat} {H : Heap} {φ : Map} {a : Act} {w : World} (I : Inv P nt ops ds call e vF h0 Hs φ0 w0 S m H φ a w)

/-- One more. -/
def plus (S : Nat → Bool) (i : Nat) : Nat → Bool := fun j => S j || Nat.beq j i

theorem plus_eq (S : Nat → Bool) (i j : Nat) : plus S i j = if j = i then true else S j := by
  unfold plus
  by_cases h : j = i
  · subst h; simp
  · have : Nat.beq j i = false := by rw [Bool.eq_false_iff]; exact fun e => h (Nat.eq_of_beq_eq_true e)
    simp [h, this]

include D I in
theorem Inv.next {i : Nat} {o : Oper} (hm : MayCome ops S i o) {d : DOper} (hd : d ∈ ds) (hdi : d.idx = i) {v : Value} {m' : Nat} {H' : Heap} {φ' : Map} {w' : World} (hle : φ.le φ') (hv : VRel φ' (look vF (.t i)) v)
    (heap' : Hs[m']? = some H') (count' : ∀ pre d suf, ds = pre ++ d :: suf → d.isW = true → (plus S i d.idx = true ↔ cntW pre < m')) (rel' : HRel φ' H' w') (ext' : Ext φ0 h0 w0 φ' H' w')
    (ghost' : ∀ pre d suf, ds = pre ++ d :: suf → wantedD e vF d.guard = true → d.op.cls = .alloc → plus S i d.idx = false → cntW pre ≤ m' →
      φ' (heapAt call e vF pre h0).next = none ∧ ∃ obj mk, evalAlloc (d.rop e vF) = some (obj, mk) ∧ look vF (.t d.idx) = mk (heapAt call e vF pre h0).next ∧ H'.get (heapAt call e vF pre h0).next = some obj) :
    Inv P nt ops ds call e vF h0 Hs φ0 w0 (plus S i) m' H' φ' (a.put o.dst v) w' := by
  obtain ⟨ho, hSi, hedges⟩ := hm
  obtain ⟨od, d0, k1, k2, k3⟩ := D.of d hd
  obtain ⟨ao, c1, _, _, c4, c5, c6⟩ := compDOper_spec k2
  obtain ⟨_, b2, b3, _⟩ := compOper_spec c1
  rw [hdi] at k1 c5 c6
  have : od = o := by rw [k1] at ho; exact Option.some.inj ho
  subst this
  have hdst : d.dst = od.dst := by rw [k3.2.2.1, c4, b2]
  have uniq : ∀ d' ∈ ds, ∀ x, d'.dst = some x → d.dst = some x → d'.idx = i := by
    intro d' hd' x hx hx'
    obtain ⟨od', d0', l1, l2, l3⟩ := D.of d' hd'
    obtain ⟨ao', q1, _, _, q4, _, _⟩ := compDOper_spec l2
    obtain ⟨_, q6, _, _⟩ := compOper_spec q1
    have hone := c6 x (by rw [← c4, ← k3.2.2.1]; exact hx')
    have := onlyOne_spec i x ops.toList 0 hone d'.idx od' (by simpa using l1) (by rw [← q6, ← q4, ← l3.2.2.1]; exact hx)
    omega
  have hput : ∀ x, d.dst ≠ some x → (a.put od.dst v).tmps.getD x undef = a.tmps.getD x undef := by
    intro x hx
    rw [← hdst]
    cases hdd : d.dst with
    | none => rfl
    | some y =>
      have : y ≠ x := by rintro rfl; exact hx hdd
      simp [Act.put, Array.getElem?_setIfInBounds_ne this]
  have hput' : ∀ x, d.dst = some x → (a.put od.dst v).tmps.getD x undef = v := by
    intro x hx
    rw [hdst] at hx
    rw [hx] at b3
    have hlt : x < nt := by simpa [Nat.blt_eq] using b3
    have := I.size
    have hlt' : x < a.tmps.size := by omega
    simp [Act.put, hx, hlt']
  refine ⟨?_, heap', count', rel', ext', ?_, ?_, ?_, ?_, ghost'⟩
  · intro j oj hj hSj ed hed hb
    rw [plus_eq] at hSj ⊢
    split
    · rfl
    · by_cases hji : j = i
      · subst hji
        rw [hj] at k1; cases k1
        exact hedges ed hed hb
      · rw [if_neg hji] at hSj
        exact I.closed j oj hj hSj ed hed hb
  · cases hdd : od.dst <;> simp [Act.put, I.defers]
  · cases hdd : od.dst <;> simp [Act.put] <;> exact I.size
  · intro d' hd' x hx hS'
    by_cases hdx : d.dst = some x
    · have hi := uniq d' hd' x hx hdx
      rw [hput' x hdx, hi]; exact hv
    · rw [hput x hdx]
      rw [plus_eq] at hS'
      by_cases hi : d'.idx = i
      · have : d' = d := idx_inj D hd' hd (by rw [hi, hdi])
        subst this
        exact absurd hx hdx
      · rw [if_neg hi] at hS'
        exact (I.done d' hd' x hx hS').mono hle
  · intro x hx
    have hdx : d.dst ≠ some x := by
      intro e1
      have := hx d hd e1
      rw [plus_eq, if_pos hdi] at this; cases this
    rw [hput x hdx]
    refine (I.rest x fun d' hd' hx' => ?_).mono hle
    have := hx d' hd' hx'
    rw [plus_eq] at this
    split at this
    · cases this
    · exact this

include D I in
theorem count_same {i : Nat} {d : DOper} (hd : d ∈ ds) (hdi : d.idx = i) (hW : d.isW = false) : ∀ pre d' suf, ds = pre ++ d' :: suf → d'.isW = true → (plus S i d'.idx = true ↔ cntW pre < m) := by
  intro pre d' suf hds hW'
  rw [plus_eq, if_neg]
  · exact I.count pre d' suf hds hW'
  · intro hi
    have : d' = d := idx_inj D (by rw [hds]; simp) hd (by rw [hi, hdi])
    subst this
    rw [hW] at hW'; cases hW'

include D I in
/-- The writing operations ahead of one that may come have come. -/
theorem cnt_le {i : Nat} {o : Oper} (hm : MayCome ops S i o) {pre suf : List DOper} {d : DOper} (hds : ds = pre ++ d :: suf) (hdi : d.idx = i) (hc : d.op.cls ≠ .pure) : cntW pre ≤ m := by
  rcases Nat.lt_or_ge m (cntW pre) with h | h
  · obtain ⟨p1, q, s1, e1, e2, e3, _⟩ := nth_write pre m h
    have hg := D.good
    rw [hds] at hg
    obtain ⟨_, _, g3, _⟩ := hg.split
    have hbit := (g3 hc).2 q (by rw [e1]; simp) e2
    rw [hdi] at hbit
    have hS := may_anc D I hm q.idx hbit
    have := (I.count p1 q (s1 ++ d :: suf) (by rw [hds, e1]; simp) e2).1 hS
    omega
  · exact h

include D t I in
theorem cnt_eq {i : Nat} {o : Oper} (hm : MayCome ops S i o) {pre suf : List DOper} {d : DOper} (hds : ds = pre ++ d :: suf) (hdi : d.idx = i) (hW : d.isW = true) : cntW pre = m ∧ H = heapAt call e vF pre h0 := by
  have hc : d.op.cls ≠ .pure := by intro h; simp [DOper.isW, h, Cls.isW] at hW
  have h1 := cnt_le D I hm hds hdi hc
  have h2 : ¬ cntW pre < m := by
    intro h
    have := (I.count pre d suf hds hW).2 h
    rw [hdi, hm.2.1] at this; cases this
  have h3 : cntW pre = m := by omega
  refine ⟨h3, ?_⟩
  have t' : DTr call e vF (pre ++ d :: suf) h0 Hs := by rw [← hds]; exact t
  obtain ⟨t1, _⟩ := t'.at_ pre
  have hH := I.heap
  rw [← h3] at hH
  have hhead : (Hs.drop (cntW pre))[0]? = some H := by simpa using hH
  generalize Hs.drop (cntW pre) = L at t1 hhead
  cases t1 with
  | skipW _ _ _ Hs' hw hW' hv t2 => simpa using hhead.symm
  | skip _ _ _ _ hw hW' hv t2 => rw [hW] at hW'; cases hW'
  | read _ _ _ _ hw hc' hr t2 => rcases hc' with hc' | hc' <;> simp [DOper.isW, hc', Cls.isW] at hW
  | alloc _ _ _ _ obj mk hw hc' ha hv t2 => simp [DOper.isW, hc', Cls.isW] at hW
  | write _ _ _ h' Hs' hw hc' hE hn t2 => simpa using hhead.symm

end
end Go.AM
