import Derived.Test.YtpjdgiiphohjeaaGreatDoorAm17
/-! A drawn statement, in whatever order: the steps. -/
namespace Go.AM

section
variable {P : Program} {tb : Types} (T : TbOk P tb) {call : FuncId → List AVal → Heap → Option (AVal × Heap)} (C : CallSound P call)
  {nt : Nat} {ops : Array Oper} {ds : List DOper} (D : DOk tb nt ops (ancFrom ops.toList 0 .leaf) ds) {e vF : Env} {h0 : Heap} {Hs : List Heap} (t : DTr call e vF ds h0 Hs)
  (chk : ∀ d ∈ ds, wantedD e vF d.guard = true → (d.op.cls = .pure ∨ d.op.cls = .read) → checkOne Hs ⟨d.rop e vF, look vF (.t d.idx), d.chk⟩ d.chk = true)

/-- How things stand when just the operations of S have come, m of them writing. -/
structure Inv (P : Program) (nt : Nat) (ops : Array Oper) (ds : List DOper) (call : FuncId → List AVal → Heap → Option (AVal × Heap)) (e vF : Env) (h0 : Heap) (Hs : List Heap) (φ0 : Map) (w0 : World) (S : Nat → Bool) (m : Nat) (H : Heap) (φ : Map) (a : Act) (w : World) : Prop where
  closed : Closed ops S
  heap : Hs[m]? = some H
  count : ∀ pre d suf, ds = pre ++ d :: suf → d.isW = true → (S d.idx = true ↔ cntW pre < m)
  rel : HRel φ H w
  ext : Ext φ0 h0 w0 φ H w
  defers : a.defers = []
  size : nt ≤ a.tmps.size
  done : ∀ d ∈ ds, ∀ x, d.dst = some x → S d.idx = true → VRel φ (look vF (.t d.idx)) (a.tmps.getD x undef)
  rest : ∀ x, (∀ d ∈ ds, d.dst = some x → S d.idx = false) → VRel φ (look e (.t x)) (a.tmps.getD x undef)
  ghost : ∀ pre d suf, ds = pre ++ d :: suf → wantedD e vF d.guard = true → d.op.cls = .alloc → S d.idx = false → cntW pre ≤ m →
    φ (heapAt call e vF pre h0).next = none ∧ ∃ obj mk, evalAlloc (d.rop e vF) = some (obj, mk) ∧ look vF (.t d.idx) = mk (heapAt call e vF pre h0).next ∧ H.get (heapAt call e vF pre h0).next = some obj

variable {φ0 : Map} {w0 : World} {S : Nat → Bool} {m : Nat} {H : Heap} {φ : Map} {a : Act} {w : World} (I : Inv P nt ops ds call e vF h0 Hs φ0 w0 S m H φ a w)

/-- It may come now. -/
def MayCome (ops : Array Oper) (S : Nat → Bool) (i : Nat) (o : Oper) : Prop := ops[i]? = some o ∧ S i = false ∧ ∀ e ∈ o.after.toList, Region.binds .any e = true → S e.on = true

include D I in
theorem may_anc {i : Nat} {o : Oper} (hm : MayCome ops S i o) : ∀ j, (bits (ancFrom ops.toList 0 .leaf) i).testBit j = true → S j = true := by
  intro j hj
  obtain ⟨ho, _, he⟩ := hm
  obtain ⟨ed, hed, hb, h1⟩ := ancFrom_spec ops.toList 0 .leaf (fun j _ => by simp [bits, Tr.get_leaf]) i o (by simpa using ho) j (by simpa using hj)
  have hS := he ed hed hb
  rcases h1 with rfl | h1
  · exact hS
  · have hbit : (bits (ancFrom ops.toList 0 .leaf) i).testBit ed.on = true := by
      have := ancFrom_edge ops.toList 0 .leaf i o (by simpa using ho) ed hed hb
      simpa using this
    -- the edge's end is an operation of the list
    obtain ⟨d, hd, hdi⟩ := D.all i (by
      rcases Nat.lt_or_ge i ops.size with h | h
      · exact h
      · rw [Array.getElem?_eq_none h] at ho; cases ho)
    obtain ⟨pre, suf, hds⟩ := mem_split hd
    have hg := D.good
    rw [hds] at hg
    obtain ⟨g1, _⟩ := hg.split
    rw [hdi] at g1
    rcases g1 ed.on hbit with h2 | ⟨q, hq, hqe⟩
    · simp at h2
    · obtain ⟨p1, s1, e1⟩ := mem_split (show q ∈ ds from by rw [hds]; simp [hq])
      exact anc_mem D I.closed _ p1 q s1 rfl e1 (by rw [hqe]; exact hS) j (by rw [hqe]; exact h1)

include D I in
/-- What an operation finds in a temporary. -/
theorem opd_rel {i : Nat} {o : Oper} (hm : MayCome ops S i o) {x : Nat} {y : DOpd} (hf : findT (ancFrom ops.toList 0 .leaf) i x 0 ops.toList (.old x) = some y) : VRel φ (lookD e vF y) (a.tmps.getD x undef) := by
  have hS := may_anc D I hm
  have like : ∀ d ∈ ds, ∀ z, d.dst = some z → ∃ od, ops[d.idx]? = some od ∧ od.dst = some z := by
    intro d hd z hz
    obtain ⟨od, d0, h1, h2, h3⟩ := D.of d hd
    obtain ⟨ao, c1, _, _, c4, _, _⟩ := compDOper_spec h2
    obtain ⟨_, c6, _, _⟩ := compOper_spec c1
    exact ⟨od, h1, by rw [← c6, ← c4, ← h3.2.2.1]; exact hz⟩
  rcases findT_spec _ i x ops.toList 0 _ _ hf with ⟨rfl, h2⟩ | ⟨_, j, oj, h3, h4, h5, rfl⟩
  · refine I.rest x fun d hd hx => ?_
    obtain ⟨od, h3, h4⟩ := like d hd x hx
    rcases h2 d.idx od (by simpa using h3) h4 with h5 | h5
    · have : d.idx = i := by omega
      rw [this]; exact hm.2.1
    · cases hSd : S d.idx with
      | false => rfl
      | true =>
        rw [Nat.zero_add] at h5
        obtain ⟨p1, s1, e1⟩ := mem_split hd
        have := anc_mem D I.closed _ p1 d s1 rfl e1 hSd i h5
        rw [hm.2.1] at this; cases this
  · rw [Nat.zero_add] at h5 ⊢
    have hSj := hS j h5
    have hjlt : j < ops.size := by
      have := (List.getElem?_eq_some_iff.1 h3).1; simpa using this
    obtain ⟨d, hd, hdi⟩ := D.all j hjlt
    obtain ⟨od, d0, k1, k2, k3⟩ := D.of d hd
    obtain ⟨ao, c1, _, _, c4, _, _⟩ := compDOper_spec k2
    obtain ⟨_, c6, _, _⟩ := compOper_spec c1
    rw [hdi] at k1
    have : od = oj := by
      have h3' : ops[j]? = some oj := by simpa using h3
      rw [k1] at h3'; exact Option.some.inj h3'
    subst this
    have := I.done d hd x (by rw [k3.2.2.1, c4, c6]; exact h4) (by rw [hdi]; exact hSj)
    simpa [lookD, hdi] using this

/-- Some value that fits. -/
theorem fits_any (D : DOk tb nt ops (ancFrom ops.toList 0 .leaf) ds) (I : Inv P nt ops ds call e vF h0 Hs φ0 w0 S m H φ a w) (x : Nat) : ∃ v, VRel φ v (a.tmps.getD x undef) := by
  by_cases h : ∃ d ∈ ds, d.dst = some x ∧ S d.idx = true
  · obtain ⟨d, hd, h1, h2⟩ := h
    exact ⟨_, I.done d hd x h1 h2⟩
  · refine ⟨_, I.rest x fun d hd h1 => ?_⟩
    cases hS : S d.idx with
    | false => rfl
    | true => exact absurd ⟨d, hd, h1, hS⟩ h

include D I in
/-- The operands of an operation that may come now: as the list has them. -/
theorem rop_rel {i : Nat} {o : Oper} (hm : MayCome ops S i o) {op : AOp Opd} {op' : AOp DOpd} (h : op.trav (opdD ops.toList (ancFrom ops.toList 0 .leaf) i) = some op') : ∃ ρ : Opd → AVal, PRel φ ρ a.eval ∧ op'.map (lookD e vF) = op.map ρ := by
  have any := fits_any D I
  let pick : Nat → AVal := fun x => (any x).choose
  have hpick : ∀ x, VRel φ (pick x) (a.tmps.getD x undef) := fun x => (any x).choose_spec
  let ρ : Opd → AVal := fun y => match opdD ops.toList (ancFrom ops.toList 0 .leaf) i y with
    | some z => lookD e vF z
    | none => match y with
      | .t x => pick x
      | .c v => v
  refine ⟨ρ, ?_, trav_map (fun x y hxy => by simp only [ρ, hxy]) h⟩
  intro x y hxy
  cases x with
  | tmp x =>
    simp [opdOf] at hxy; subst hxy
    show VRel φ (ρ (.t x)) (a.tmps.getD x undef)
    simp only [ρ]
    split
    · rename_i z hz; exact opd_rel D I hm hz
    · exact hpick x
  | const v =>
    simp only [opdOf] at hxy
    split at hxy
    · rename_i b hb; cases hxy
      simp only [ρ, opdD, lookD]
      exact ofConst_rel φ v b hb
    · cases hxy
  | global g => simp [opdOf] at hxy
  | func f => simp [opdOf] at hxy; subst hxy; simp only [ρ, opdD, lookD]; exact .func f [] [] _ _ .nil .nil

include D I in
theorem wanted_drawn {i : Nat} {o : Oper} (hm : MayCome ops S i o) {ao : AOper} (hc : compOper tb nt ops o = some ao) {g : Option (DOpd × Bool)} (hg : guardD ops.toList (ancFrom ops.toList 0 .leaf) i ao.guard = some g) :
    Region.wanted o (yielded ops a.tmps) = wantedD e vF g := by
  obtain ⟨_, _, _, c4⟩ := compOper_spec hc
  rcases c4 with ⟨h1, h2⟩ | ⟨j, b, x, h1, h2, h3⟩
  · rw [h2] at hg
    simp [guardD] at hg; subst hg
    simp [Region.wanted, h1, wantedD]
  · rw [h3] at hg
    simp only [guardD] at hg
    split at hg
    · rename_i y hy; cases hg
      have hv := opd_rel D I hm hy
      simp only [Region.wanted, h1, yielded, h2, Option.bind_some, wantedD]
      cases hx : a.tmps[x]? with
      | none =>
        have : a.tmps.getD x undef = undef := by simp [hx]
        rw [this] at hv
        generalize lookD e vF y = z at hv
        cases z <;> first | rfl | (cases hv)
      | some v =>
        have : a.tmps.getD x undef = v := by simp [hx]
        rw [this] at hv
        generalize lookD e vF y = z at hv
        cases hv with
        | bool c => simp
        | raw v hb =>
          cases v <;> simp
          exact absurd rfl (hb _)
        | _ => simp
    · cases hg

end
end Go.AM
