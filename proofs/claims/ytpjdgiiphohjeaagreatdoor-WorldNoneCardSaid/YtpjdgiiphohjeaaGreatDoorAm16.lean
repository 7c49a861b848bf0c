import Derived.Test.YtpjdgiiphohjeaaGreatDoorAm15
/-! The run of a drawn statement in its one order: a trace. -/
namespace Go.AM

section
variable (call : FuncId → List AVal → Heap → Option (AVal × Heap)) (e vF : Env)

/-- What an operation of the list is, its operands filled in. -/
noncomputable def DOper.rop (d : DOper) : AOp AVal := d.op.map (lookD e vF)

noncomputable def stepH (d : DOper) (h : Heap) : Heap :=
  match wantedD e vF d.guard with
  | false => h
  | true => match d.op.cls with
    | .write => match evalWrite call h (d.rop e vF) with
      | some (_, h') => h'
      | none => h
    | .alloc => match evalAlloc (d.rop e vF) with
      | some (obj, _) => h.push obj
      | none => h
    | _ => h

noncomputable def heapAt : List DOper → Heap → Heap
  | [], h => h
  | d :: ds, h => heapAt ds (stepH call e vF d h)

def cntW (ds : List DOper) : Nat := (ds.filter DOper.isW).length

inductive DTr : List DOper → Heap → List Heap → Prop where
  | nil (h : Heap) : DTr [] h [h]
  | skipW (d : DOper) (ds : List DOper) (h : Heap) (Hs : List Heap) (hw : wantedD e vF d.guard = false) (hW : d.isW = true) (hv : look vF (.t d.idx) = undefA) (t : DTr ds h Hs) : DTr (d :: ds) h (h :: Hs)
  | skip (d : DOper) (ds : List DOper) (h : Heap) (Hs : List Heap) (hw : wantedD e vF d.guard = false) (hW : d.isW = false) (hv : look vF (.t d.idx) = undefA) (t : DTr ds h Hs) : DTr (d :: ds) h Hs
  | read (d : DOper) (ds : List DOper) (h : Heap) (Hs : List Heap) (hw : wantedD e vF d.guard = true) (hc : d.op.cls = .pure ∨ d.op.cls = .read) (hr : evalRead h (d.rop e vF) = some (look vF (.t d.idx))) (t : DTr ds h Hs) : DTr (d :: ds) h Hs
  | alloc (d : DOper) (ds : List DOper) (h : Heap) (Hs : List Heap) (obj : AObj) (mk : Nat → AVal) (hw : wantedD e vF d.guard = true) (hc : d.op.cls = .alloc) (ha : evalAlloc (d.rop e vF) = some (obj, mk)) (hv : look vF (.t d.idx) = mk h.next) (t : DTr ds (h.push obj) Hs) : DTr (d :: ds) h Hs
  | write (d : DOper) (ds : List DOper) (h h' : Heap) (Hs : List Heap) (hw : wantedD e vF d.guard = true) (hc : d.op.cls = .write) (hE : evalWrite call h (d.rop e vF) = some (look vF (.t d.idx), h')) (hn : h.next ≤ h'.next) (t : DTr ds h' Hs) : DTr (d :: ds) h (h :: Hs)

variable {call e vF}

theorem DTr.head {ds : List DOper} {h : Heap} {Hs : List Heap} (t : DTr call e vF ds h Hs) : ∃ H rest, Hs = H :: rest ∧ More h H := by
  induction t with
  | nil h => exact ⟨h, [], rfl, More.refl _⟩
  | skipW d ds h Hs hw hW hv t ih => exact ⟨h, Hs, rfl, More.refl _⟩
  | skip d ds h Hs hw hW hv t ih => exact ih
  | read d ds h Hs hw hc hr t ih => exact ih
  | alloc d ds h Hs obj mk hw hc ha hv t ih => obtain ⟨H, rest, e1, e2⟩ := ih; exact ⟨H, rest, e1, (More.push _ _).trans e2⟩
  | write d ds h h' Hs hw hc hE hn t ih => exact ⟨h, Hs, rfl, More.refl _⟩

theorem DTr.step {d : DOper} {ds : List DOper} {h : Heap} {Hs : List Heap} (t : DTr call e vF (d :: ds) h Hs) : DTr call e vF ds (stepH call e vF d h) (Hs.drop (cntW [d])) ∧ h.next ≤ (stepH call e vF d h).next := by
  cases t with
  | skipW _ _ _ Hs' hw hW hv t => simp only [stepH, hw, cntW, List.filter_cons, hW, if_true, List.filter_nil, List.length_cons, List.length_nil, List.drop_succ_cons, List.drop_zero]; exact ⟨t, Nat.le_refl _⟩
  | skip _ _ _ _ hw hW hv t => simp only [stepH, hw, cntW, List.filter_cons, hW, Bool.false_eq_true, if_false, List.filter_nil, List.length_nil, List.drop_zero]; exact ⟨t, Nat.le_refl _⟩
  | read _ _ _ _ hw hc hr t =>
    have hW : d.isW = false := by rcases hc with hc | hc <;> simp [DOper.isW, hc, Cls.isW]
    have hs : stepH call e vF d h = h := by rcases hc with hc | hc <;> simp [stepH, hw, hc]
    rw [hs]
    simp only [cntW, List.filter_cons, hW, Bool.false_eq_true, if_false, List.filter_nil, List.length_nil, List.drop_zero]
    exact ⟨t, Nat.le_refl _⟩
  | alloc _ _ _ _ obj mk hw hc ha hv t =>
    have hW : d.isW = false := by simp [DOper.isW, hc, Cls.isW]
    have hs : stepH call e vF d h = h.push obj := by simp [stepH, hw, hc, ha]
    rw [hs]
    simp only [cntW, List.filter_cons, hW, Bool.false_eq_true, if_false, List.filter_nil, List.length_nil, List.drop_zero]
    exact ⟨t, by simp⟩
  | write _ _ _ h' Hs' hw hc hE hn t =>
    have hW : d.isW = true := by simp [DOper.isW, hc, Cls.isW]
    have hs : stepH call e vF d h = h' := by simp [stepH, hw, hc, hE]
    rw [hs]
    simp only [cntW, List.filter_cons, hW, if_true, List.filter_nil, List.length_cons, List.length_nil, List.drop_succ_cons, List.drop_zero]
    exact ⟨t, hn⟩

theorem cntW_cons (d : DOper) (ds : List DOper) : cntW (d :: ds) = cntW [d] + cntW ds := by
  simp only [cntW, List.filter_cons, List.filter_nil]
  split <;> simp <;> omega

theorem cntW_append (a b : List DOper) : cntW (a ++ b) = cntW a + cntW b := by simp [cntW]

theorem DTr.at_ : ∀ (pre : List DOper) {suf : List DOper} {h : Heap} {Hs : List Heap}, DTr call e vF (pre ++ suf) h Hs → DTr call e vF suf (heapAt call e vF pre h) (Hs.drop (cntW pre)) ∧ h.next ≤ (heapAt call e vF pre h).next := by
  intro pre
  induction pre with
  | nil => intro suf h Hs t; exact ⟨by simpa [heapAt, cntW] using t, Nat.le_refl _⟩
  | cons d pre ih =>
    intro suf h Hs t
    obtain ⟨t1, n1⟩ := DTr.step (ds := pre ++ suf) (by simpa using t)
    obtain ⟨t2, n2⟩ := ih t1
    rw [List.drop_drop, Nat.add_comm, Nat.add_comm, ← cntW_cons] at t2
    exact ⟨t2, Nat.le_trans n1 n2⟩

theorem heapAt_append (a b : List DOper) (h : Heap) : heapAt call e vF (a ++ b) h = heapAt call e vF b (heapAt call e vF a h) := by
  induction a generalizing h with
  | nil => rfl
  | cons d a ih => simp only [List.cons_append, heapAt, ih]

theorem look_set (vals : Env) (i : Nat) (v : AVal) (j : Nat) : look (vals.set i v) (.t j) = if j = i then v else look vals (.t j) := by
  simp only [look, Tr.get_set]
  by_cases h : j = i <;> simp [h]

/-- Every operation that stands in an operand comes ahead. -/
def OpdOk (b : Tr Nat) (tb : Types) (nt : Nat) (ops : Array Oper) (d : DOper) : Prop := ∃ o d0, ops[d.idx]? = some o ∧ compDOper tb nt ops b d.idx o = some d0 ∧ d0.like d

theorem compDOper_spec {tb : Types} {nt : Nat} {ops : Array Oper} {b : Tr Nat} {i : Nat} {o : Oper} {d0 : DOper} (h : compDOper tb nt ops b i o = some d0) :
    ∃ ao, compOper tb nt ops o = some ao ∧ guardD ops.toList b i ao.guard = some d0.guard ∧ ao.op.trav (opdD ops.toList b i) = some d0.op ∧ d0.dst = ao.dst ∧ d0.idx = i ∧ (∀ t, ao.dst = some t → onlyOne i t 0 ops.toList = true) := by
  unfold compDOper at h
  split at h
  · cases h
  · rename_i ao hao
    split at h
    · rename_i g op hg hop hone; cases h
      refine ⟨ao, hao, hg, hop, rfl, rfl, fun t ht => ?_⟩
      rw [ht] at hone
      simpa using hone
    · cases h

theorem opdD_val {ops : List Oper} {b : Tr Nat} {i : Nat} {x : Opd} {y : DOpd} (h : opdD ops b i x = some y) : ∀ j, y = .val j → (bits b i).testBit j = true := by
  intro j hj
  cases x with
  | c v => simp [opdD] at h; subst h; cases hj
  | t t =>
    simp only [opdD] at h
    rcases findT_spec b i t ops 0 _ _ h with ⟨h1, _⟩ | ⟨_, j', o, _, _, h3, h4⟩
    · rw [h1] at hj; cases hj
    · rw [h4] at hj; cases hj; simpa using h3

theorem lookD_congr {v1 v2 : Env} {ops : List Oper} {b : Tr Nat} {i : Nat} (hv : ∀ j, (bits b i).testBit j = true → look v1 (.t j) = look v2 (.t j)) {x : Opd} {y : DOpd} (h : opdD ops b i x = some y) : lookD e v1 y = lookD e v2 y := by
  cases y with
  | old n => rfl
  | c v => rfl
  | val j => exact hv j (opdD_val h j rfl)

theorem rop_congr {v1 v2 : Env} {ops : List Oper} {b : Tr Nat} {i : Nat} (hv : ∀ j, (bits b i).testBit j = true → look v1 (.t j) = look v2 (.t j)) {op : AOp Opd} {op' : AOp DOpd} (h : op.trav (opdD ops b i) = some op') : op'.map (lookD e v1) = op'.map (lookD e v2) := by
  let g : Env → Opd → AVal := fun v x => match opdD ops b i x with
    | some y => lookD e v y
    | none => undefA
  have e1 : ∀ v, op'.map (lookD e v) = op.map (g v) := fun v => trav_map (fun x y hxy => by simp only [g, hxy]) h
  rw [e1, e1]
  have : g v1 = g v2 := by
    funext x
    simp only [g]
    split
    · rename_i y hy; exact lookD_congr hv hy
    · rfl
  rw [this]

theorem wantedD_congr {v1 v2 : Env} {ops : List Oper} {b : Tr Nat} {i : Nat} (hv : ∀ j, (bits b i).testBit j = true → look v1 (.t j) = look v2 (.t j)) {g : Option (Nat × Bool)} {g' : Option (DOpd × Bool)} (h : guardD ops b i g = some g') : wantedD e v1 g' = wantedD e v2 g' := by
  cases g with
  | none => simp [guardD] at h; subst h; rfl
  | some p =>
    obtain ⟨t, w⟩ := p
    simp only [guardD] at h
    split at h
    · rename_i x hx; cases h
      have : opdD ops b i (.t t) = some x := hx
      simp only [wantedD, lookD_congr hv this]
    · cases h

theorem checkAll_spec {hs : List Heap} : ∀ {ps : List Past}, checkAll hs ps = true → ∀ p ∈ ps, checkOne hs p p.chk = true := by
  intro ps
  induction ps with
  | nil => intro _ p hp; cases hp
  | cons p ps ih =>
    intro hc q hq
    simp only [checkAll, Bool.and_eq_true] at hc
    cases hq with
    | head => exact hc.1
    | tail _ hq => exact ih hc.2 q hq

theorem exec_tr {tb : Types} {nt : Nat} {ops : Array Oper} {b : Tr Nat} {hF : Heap} : ∀ {ds : List DOper} {past : List Nat} {done : Nat}, Good b ds past done → (∀ d ∈ ds, OpdOk b tb nt ops d) → ∀ {vals : Env} {h : Heap} {hs : List Heap} {pst : List Past},
    execD call e ds vals h hs pst = some (vF, hF) → (∀ i, done.testBit i = true → look vF (.t i) = look vals (.t i)) ∧ ∃ Hs, DTr call e vF ds h Hs ∧ Hs.getLast? = some hF ∧
      (∀ p ∈ pst, checkOne (hs ++ Hs) p p.chk = true) ∧ ∀ d ∈ ds, wantedD e vF d.guard = true → (d.op.cls = .pure ∨ d.op.cls = .read) → checkOne (hs ++ Hs) ⟨d.rop e vF, look vF (.t d.idx), d.chk⟩ d.chk = true := by
  intro ds
  induction ds with
  | nil =>
    intro past done _ _ vals h hs pst he
    simp only [execD] at he
    split at he
    · rename_i hc
      cases he
      exact ⟨fun _ _ => rfl, [_], .nil _, rfl, checkAll_spec hc, by simp⟩
    · cases he
  | cons d ds ih =>
    intro past done G O vals h hs pst he
    cases G with
    | cons _ _ _ _ hsub hnew hpast hchk hrest =>
    obtain ⟨o, d0, ho, hd0, hlike⟩ := O d (by simp)
    obtain ⟨ao, hao, hg, hop, hdst, hidx, _⟩ := compDOper_spec hd0
    rw [← hlike.2.1] at hg
    rw [← hlike.2.2.2] at hop
    have O' : ∀ d ∈ ds, OpdOk b tb nt ops d := fun x hx => O x (by simp [hx])
    have keep : ∀ {v : AVal} {vals' : Env}, vals' = vals.set d.idx v → (∀ i, (done ||| 2 ^ d.idx).testBit i = true → look vF (.t i) = look vals' (.t i)) →
        (∀ i, done.testBit i = true → look vF (.t i) = look vals (.t i)) ∧ look vF (.t d.idx) = v := by
      intro v vals' e1 hk
      subst e1
      refine ⟨fun i hi => ?_, ?_⟩
      · have := hk i (by rw [testBit_or_pow, hi]; rfl)
        rw [look_set, if_neg] at this
        · exact this
        · intro e1; subst e1; rw [hnew] at hi; cases hi
      · have := hk d.idx (by rw [testBit_or_pow]; simp)
        rw [look_set, if_pos rfl] at this
        exact this
    have congr_ : (∀ i, done.testBit i = true → look vF (.t i) = look vals (.t i)) → d.op.map (lookD e vals) = d.rop e vF ∧ wantedD e vals d.guard = wantedD e vF d.guard := by
      intro hk
      have hv : ∀ j, (bits b d.idx).testBit j = true → look vals (.t j) = look vF (.t j) := fun j hj => (hk j (hsub j hj)).symm
      exact ⟨rop_congr hv hop, wantedD_congr hv hg⟩
    simp only [execD] at he
    split at he
    · rename_i hw
      split at he
      · rename_i hc
        have hW : d.isW = true := by simp [DOper.isW, hc, Cls.isW]
        rw [if_pos hW] at hrest
        obtain ⟨k, Hs, t, hl, hp, hd⟩ := ih hrest O' he
        obtain ⟨k1, k2⟩ := keep rfl k
        obtain ⟨c1, c2⟩ := congr_ k1
        refine ⟨k1, h :: Hs, .skipW d ds h Hs (by rw [← c2]; exact hw) hW k2 t, by rw [List.getLast?_cons_of_ne_nil (by rintro rfl; simp at hl)]; exact hl, by simpa using hp, ?_⟩
        intro x hx hxw hxc
        cases hx with
        | head => rw [← c2, hw] at hxw; cases hxw
        | tail _ hx => simpa using hd x hx hxw hxc
      · rename_i hc
        have hW : d.isW = false := by
          cases hcc : d.op.cls <;> simp [DOper.isW, hcc, Cls.isW]
          exact hc hcc
        rw [if_neg (by simp [hW])] at hrest
        obtain ⟨k, Hs, t, hl, hp, hd⟩ := ih hrest O' he
        obtain ⟨k1, k2⟩ := keep rfl k
        obtain ⟨c1, c2⟩ := congr_ k1
        refine ⟨k1, Hs, .skip d ds h Hs (by rw [← c2]; exact hw) hW k2 t, hl, hp, ?_⟩
        intro x hx hxw hxc
        cases hx with
        | head => rw [← c2, hw] at hxw; cases hxw
        | tail _ hx => exact hd x hx hxw hxc
    · rename_i hw
      split at he
      · rename_i hc
        have hW : d.isW = true := by simp [DOper.isW, hc, Cls.isW]
        rw [if_pos hW] at hrest
        split at he
        · rename_i v h' hev
          split at he
          · rename_i hn
            obtain ⟨k, Hs, t, hl, hp, hd⟩ := ih hrest O' he
            obtain ⟨k1, k2⟩ := keep rfl k
            obtain ⟨c1, c2⟩ := congr_ k1
            rw [c1, ← k2] at hev
            refine ⟨k1, h :: Hs, .write d ds h h' Hs (by rw [← c2]; exact hw) hc hev (Nat.le_of_ble_eq_true hn) t, by rw [List.getLast?_cons_of_ne_nil (by rintro rfl; simp at hl)]; exact hl, by simpa using hp, ?_⟩
            intro x hx hxw hxc
            cases hx with
            | head => rw [hc] at hxc; rcases hxc with hxc | hxc <;> cases hxc
            | tail _ hx => simpa using hd x hx hxw hxc
          · cases he
        · cases he
      · rename_i hc
        have hW : d.isW = false := by simp [DOper.isW, hc, Cls.isW]
        rw [if_neg (by simp [hW])] at hrest
        split at he
        · rename_i obj mk hev
          obtain ⟨k, Hs, t, hl, hp, hd⟩ := ih hrest O' he
          obtain ⟨k1, k2⟩ := keep rfl k
          obtain ⟨c1, c2⟩ := congr_ k1
          rw [c1] at hev
          refine ⟨k1, Hs, .alloc d ds h Hs obj mk (by rw [← c2]; exact hw) hc hev k2 t, hl, hp, ?_⟩
          intro x hx hxw hxc
          cases hx with
          | head => rw [hc] at hxc; rcases hxc with hxc | hxc <;> cases hxc
          | tail _ hx => exact hd x hx hxw hxc
        · cases he
      · rename_i hc1 hc2
        have hpr : d.op.cls = .pure ∨ d.op.cls = .read := by
          cases hcc : d.op.cls
          · exact .inl rfl
          · exact .inr rfl
          · exact absurd hcc hc2
          · exact absurd hcc hc1
        have hW : d.isW = false := by rcases hpr with hc | hc <;> simp [DOper.isW, hc, Cls.isW]
        rw [if_neg (by simp [hW])] at hrest
        split at he
        · rename_i v hev
          obtain ⟨k, Hs, t, hl, hp, hd⟩ := ih hrest O' he
          obtain ⟨k1, k2⟩ := keep rfl k
          obtain ⟨c1, c2⟩ := congr_ k1
          rw [c1, ← k2] at hev
          refine ⟨k1, Hs, .read d ds h Hs (by rw [← c2]; exact hw) hpr hev t, hl, ?_, ?_⟩
          · intro p hpp
            refine hp p ?_
            split
            · exact hpp
            · exact .tail _ hpp
          · intro x hx hxw hxc
            cases hx with
            | head =>
              cases hchk' : d.chk with
              | nil => rfl
              | cons j js =>
                have := hp ⟨d.op.map (lookD e vals), v, d.chk⟩ (by rw [hchk']; exact .head _)
                rw [c1, ← k2] at this
                rw [← hchk']; exact this
            | tail _ hx => exact hd x hx hxw hxc
        · cases he

end
end Go.AM
