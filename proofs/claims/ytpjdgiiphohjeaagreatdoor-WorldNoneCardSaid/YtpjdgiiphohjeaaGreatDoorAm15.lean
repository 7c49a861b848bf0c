import Derived.Test.YtpjdgiiphohjeaaGreatDoorAm14
/-! Statements whose order is drawn: the run in one order, and what it says of every order. -/
namespace Go.AM

/-! ### The list, as it was set -/
/-- 'past': writing operations so far; 'done': all so far. -/
inductive Good (b : Tr Nat) : List DOper → List Nat → Nat → Prop where
  | nil (past : List Nat) (done : Nat) : Good b [] past done
  | cons (d : DOper) (ds : List DOper) (past : List Nat) (done : Nat) (hsub : ∀ j, (bits b d.idx).testBit j = true → done.testBit j = true) (hnew : done.testBit d.idx = false)
    (hpast : d.op.cls ≠ .pure → ∀ w ∈ past, (bits b d.idx).testBit w = true) (hchk : d.op.cls = .read → d.chk = later b d.idx ((ds.filter DOper.isW).map (·.idx)) past.length)
    (h : Good b ds (if d.isW then d.idx :: past else past) (done ||| 2 ^ d.idx)) : Good b (d :: ds) past done

/-- Two that differ in what they are held against alone. -/
def DOper.like (d d' : DOper) : Prop := d'.idx = d.idx ∧ d'.guard = d.guard ∧ d'.dst = d.dst ∧ d'.op = d.op

theorem setChk_isW {b : Tr Nat} : ∀ {ds ds' : List DOper} {past ws : List Nat} {done : Nat}, setChk b ds past ws done = some ds' → (ds'.filter DOper.isW).map (·.idx) = (ds.filter DOper.isW).map (·.idx) := by
  intro ds
  induction ds with
  | nil => intro ds' past ws done h; simp [setChk] at h; subst h; rfl
  | cons d ds ih =>
    intro ds' past ws done h
    simp only [setChk] at h
    split at h
    · cases h
    · repeat' split at h
      all_goals first
        | (cases h; done)
        | (rename_i hrest; cases h
           have := ih hrest
           simp only [List.filter_cons, DOper.isW] at this ⊢
           by_cases hw : d.op.cls.isW = true <;> simp [hw, this])

theorem setChk_like {b : Tr Nat} : ∀ {ds ds' : List DOper} {past ws : List Nat} {done : Nat}, setChk b ds past ws done = some ds' → ∀ d' ∈ ds', ∃ d ∈ ds, d.like d' := by
  intro ds
  induction ds with
  | nil => intro ds' past ws done h; simp [setChk] at h; subst h; intro d' hd; cases hd
  | cons d ds ih =>
    intro ds' past ws done h
    simp only [setChk] at h
    split at h
    · cases h
    · repeat' split at h
      all_goals first
        | (cases h; done)
        | (rename_i hrest; cases h
           intro d' hd'
           cases hd' with
           | head => exact ⟨d, by simp, rfl, rfl, rfl, rfl⟩
           | tail _ hd' => obtain ⟨d0, h0, h1⟩ := ih hrest d' hd'; exact ⟨d0, by simp [h0], h1⟩)

theorem setChk_like' {b : Tr Nat} : ∀ {ds ds' : List DOper} {past ws : List Nat} {done : Nat}, setChk b ds past ws done = some ds' → ∀ d ∈ ds, ∃ d' ∈ ds', d.like d' := by
  intro ds
  induction ds with
  | nil => intro ds' past ws done h d hd; cases hd
  | cons d ds ih =>
    intro ds' past ws done h
    simp only [setChk] at h
    split at h
    · cases h
    · repeat' split at h
      all_goals first
        | (cases h; done)
        | (rename_i hrest; cases h
           intro d0 hd'
           cases hd' with
           | head => exact ⟨_, .head _, rfl, rfl, rfl, rfl⟩
           | tail _ hd' => obtain ⟨d1, h0, h1⟩ := ih hrest d0 hd'; exact ⟨d1, .tail _ h0, h1⟩)

theorem testBit_or_pow (done i j : Nat) : (done ||| 2 ^ i).testBit j = (done.testBit j || decide (i = j)) := by
  rw [Nat.testBit_or, Nat.testBit_two_pow]

theorem setChk_good {b : Tr Nat} : ∀ {ds ds' : List DOper} {past ws : List Nat} {done : Nat}, setChk b ds past ws done = some ds' → ws = (ds.filter DOper.isW).map (·.idx) → Good b ds' past done := by
  intro ds
  induction ds with
  | nil => intro ds' past ws done h _; simp [setChk] at h; subst h; exact .nil _ _
  | cons d ds ih =>
    intro ds' past ws done h hws
    simp only [setChk] at h
    split at h
    · cases h
    · rename_i hb
      simp only [Bool.and_eq_true] at hb
      have hsub : ∀ j, (bits b d.idx).testBit j = true → done.testBit j = true := by
        intro j hj
        have e := Nat.eq_of_beq_eq_true hb.1
        rw [← e, Nat.testBit_and, Bool.and_eq_true] at hj
        exact hj.2
      have hnew : done.testBit d.idx = false := by simpa using hb.2
      split at h
      · -- writes
        rename_i hc
        split at h
        · rename_i hp
          split at h
          · rename_i ds1 hrest; cases h
            have hW : d.isW = true := by simp [DOper.isW, hc, Cls.isW]
            refine .cons d ds1 past done hsub hnew (fun _ w hw => List.all_eq_true.1 hp w hw) (by rw [hc]; intro e; cases e) ?_
            rw [if_pos hW]
            refine ih hrest ?_
            rw [hws, List.filter_cons, if_pos hW]; rfl
          · cases h
        · cases h
      · rename_i hc
        split at h
        · rename_i hp
          split at h
          · rename_i ds1 hrest; cases h
            have hW : d.isW = false := by simp [DOper.isW, hc, Cls.isW]
            refine .cons d ds1 past done hsub hnew (fun _ w hw => List.all_eq_true.1 hp w hw) (by rw [hc]; intro e; cases e) ?_
            rw [if_neg (by simp [hW])]
            refine ih hrest ?_
            rw [hws, List.filter_cons, if_neg (by simp [hW])]
          · cases h
        · cases h
      · rename_i hc
        split at h
        · rename_i hp
          split at h
          · rename_i ds1 hrest; cases h
            have hW : d.isW = false := by simp [DOper.isW, hc, Cls.isW]
            have hwe : ws = (ds.filter DOper.isW).map (·.idx) := by rw [hws, List.filter_cons, if_neg (by simp [hW])]
            refine .cons _ ds1 past done hsub hnew (fun _ w hw => List.all_eq_true.1 hp w hw) (fun _ => ?_) ?_
            · show later b d.idx ws past.length = _
              rw [hwe, setChk_isW hrest]
            · have hW' : DOper.isW { d with chk := later b d.idx ws past.length } = false := hW
              rw [if_neg (by simp [hW'])]
              exact ih hrest hwe
          · cases h
        · cases h
      · rename_i hc
        split at h
        · rename_i ds1 hrest; cases h
          have hW : d.isW = false := by simp [DOper.isW, hc, Cls.isW]
          refine .cons d ds1 past done hsub hnew (by rw [hc]; intro e; exact absurd rfl e) (by rw [hc]; intro e; cases e) ?_
          rw [if_neg (by simp [hW])]
          refine ih hrest ?_
          rw [hws, List.filter_cons, if_neg (by simp [hW])]
        · cases h

theorem firstOf_mem {b : Tr Nat} {done : Nat} {w : Bool} : ∀ {ds : List DOper} {d : DOper} {rest : List DOper}, firstOf b done w ds = some (d, rest) → d ∈ ds ∧ ∀ x ∈ rest, x ∈ ds := by
  intro ds
  induction ds with
  | nil => intro d rest h; simp [firstOf] at h
  | cons x ds ih =>
    intro d rest h
    simp only [firstOf] at h
    split at h
    · cases h; exact ⟨by simp, fun y hy => by simp [hy]⟩
    · split at h
      · rename_i y r hr; cases h
        obtain ⟨h1, h2⟩ := ih hr
        refine ⟨by simp [h1], fun z hz => ?_⟩
        cases hz with
        | head => simp
        | tail _ hz => simp [h2 z hz]
      · cases h

theorem sortD_mem {b : Tr Nat} : ∀ {n done : Nat} {ds : List DOper}, ∀ d ∈ sortD b n done ds, d ∈ ds := by
  intro n
  induction n with
  | zero => intro done ds d h; exact h
  | succ n ih =>
    intro done ds d h
    simp only [sortD] at h
    split at h
    · rename_i x rest hf
      obtain ⟨h1, h2⟩ := firstOf_mem hf
      cases h with
      | head => exact h1
      | tail _ h => exact h2 d (ih d h)
    · split at h
      · rename_i x rest hf
        obtain ⟨h1, h2⟩ := firstOf_mem hf
        cases h with
        | head => exact h1
        | tail _ h => exact h2 d (ih d h)
      · exact h

theorem compDOpers_mem {tb : Types} {nt : Nat} {ops : Array Oper} {b : Tr Nat} : ∀ {os : List Oper} {i : Nat} {ds : List DOper}, compDOpers tb nt ops b i os = some ds → ∀ d ∈ ds, ∃ k o, os[k]? = some o ∧ compDOper tb nt ops b (i + k) o = some d := by
  intro os
  induction os with
  | nil => intro i ds h d hd; simp [compDOpers] at h; subst h; cases hd
  | cons o os ih =>
    intro i ds h d hd
    simp only [compDOpers] at h
    split at h
    · rename_i d0 ds0 h1 h2; cases h
      cases hd with
      | head => exact ⟨0, o, rfl, by simpa using h1⟩
      | tail _ hd =>
        obtain ⟨k, o', h3, h4⟩ := ih h2 d hd
        exact ⟨k + 1, o', by simpa using h3, by rwa [show i + (k + 1) = i + 1 + k from by omega]⟩
    · cases h

/-- All that the turning says of a statement whose order is drawn. -/
structure DOk (tb : Types) (nt : Nat) (ops : Array Oper) (b : Tr Nat) (ds : List DOper) : Prop where
  good : Good b ds [] 0
  all : ∀ i, i < ops.size → ∃ d ∈ ds, d.idx = i
  of : ∀ d ∈ ds, ∃ o d0, ops[d.idx]? = some o ∧ compDOper tb nt ops b d.idx o = some d0 ∧ d0.like d

theorem compRegionD_ok {tb : Types} {nt : Nat} {ops : Array Oper} {ds : List DOper} (h : compRegionD tb nt ops = some ds) : DOk tb nt ops (ancFrom ops.toList 0 .leaf) ds := by
  unfold compRegionD at h
  simp only [] at h
  split at h
  · cases h
  · rename_i ds0 hds0
    split at h
    · cases h
    · rename_i hall
      have hmem : ∀ d ∈ sortD (ancFrom ops.toList 0 .leaf) ds0.length 0 ds0, ∃ o, ops[d.idx]? = some o ∧ compDOper tb nt ops (ancFrom ops.toList 0 .leaf) d.idx o = some d := by
        intro d hd
        obtain ⟨k, o, h1, h2⟩ := compDOpers_mem hds0 d (sortD_mem d hd)
        rw [Nat.zero_add] at h2
        have hidx : d.idx = k := by
          unfold compDOper at h2
          split at h2
          · cases h2
          · split at h2
            · cases h2; rfl
            · cases h2
        rw [hidx]
        exact ⟨o, by simpa using h1, h2⟩
      refine ⟨setChk_good h rfl, fun i hi => ?_, fun d hd => ?_⟩
      · have := List.all_eq_true.1 hall i (List.mem_range.2 hi)
        rw [List.any_eq_true] at this
        obtain ⟨d, hd, he⟩ := this
        obtain ⟨d', hd', hl⟩ := setChk_like' h d hd
        exact ⟨d', hd', by rw [hl.1]; exact Nat.eq_of_beq_eq_true he⟩
      · obtain ⟨d0, hd0, hl⟩ := setChk_like h d hd
        obtain ⟨o, h1, h2⟩ := hmem d0 hd0
        rw [hl.1]
        exact ⟨o, d0, h1, h2, hl⟩

end Go.AM
