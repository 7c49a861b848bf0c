import Derived.Test.YtpjdgiiphohjeaaGreatDoorAm12
/-! Statements in their one order; calls. -/
namespace Go.AM

/-- Behind a call: a related value, related memory, what was not to be written as it was. -/
def CallOk (φ : Map) (h : Heap) (w : World) (a : AVal) (h' : Heap) : Ending → World → Prop := fun e w' => ∃ v φ', e = .returned v ∧ HRel φ' h' w' ∧ Ext φ h w φ' h' w' ∧ VRel φ' a v

/-- The program has such a function, with a body of its own. -/
def Known (P : Program) (f : FuncId) : Prop := ∃ fn, P.funcs[f]? = some fn ∧ (fn.name == "runtime.NumGoroutine") = false ∧ fn.body.isNone = false

/-- What the small machine says of calls is so. -/
def CallSound (P : Program) (call : FuncId → List AVal → Heap → Option (AVal × Heap)) : Prop :=
  ∀ f args h a h', call f args h = some (a, h') → ∀ φ w (args' : Array Value), HRel φ h w → VRels φ args args'.toList →
    (Known P f ∧ Calls P f args' w (CallOk φ h w a h')) ∨ ∃ v w' φ', (callFunc f args').run P w = .ok (.value v) w' ∧ HRel φ' h' w' ∧ Ext φ h w φ' h' w' ∧ VRel φ' a v

theorem run_callFunc {P : Program} {f : FuncId} (hk : Known P f) (args : Array Value) (w : World) : (callFunc f args).run P w = .ok (.enter f args) w := by
  obtain ⟨fn, h1, h2, h3⟩ := hk
  simp only [callFunc, Sem.run_bind, run_program, Result.andThen_ok, h1, h2, h3, Bool.false_eq_true, if_false, Sem.run_pure]

/-! ### Temporaries -/
structure ERel (φ : Map) (nt : Nat) (e : Env) (a : Act) : Prop where
  defers : a.defers = []
  size : nt ≤ a.tmps.size
  tmp : ∀ t, VRel φ (look e (.t t)) (a.tmps.getD t undef)

theorem ERel.mono {φ ψ : Map} (hle : φ.le ψ) {nt : Nat} {e : Env} {a : Act} (E : ERel φ nt e a) : ERel ψ nt e a := ⟨E.defers, E.size, fun t => (E.tmp t).mono hle⟩

theorem ERel.prel {φ : Map} {nt : Nat} {e : Env} {a : Act} (E : ERel φ nt e a) : PRel φ (look e) a.eval := by
  intro x y h
  cases x with
  | tmp t => simp [opdOf] at h; subst h; exact E.tmp t
  | const v =>
    simp only [opdOf] at h
    split at h
    · rename_i b hb; cases h; exact ofConst_rel φ v b hb
    · cases h
  | global g => simp [opdOf] at h
  | func f => simp [opdOf] at h; subst h; exact .func f [] [] _ _ .nil .nil

theorem look_put (d : Option Nat) (v : AVal) (e : Env) (t : Nat) : look (put d v e) (.t t) = if d = some t then v else look e (.t t) := by
  cases d with
  | none => simp [put]
  | some d =>
    simp only [put, look, Tr.get_set]
    by_cases h : t = d
    · subst h; simp
    · have : ¬ (some d = some t) := by simp; exact fun e => h e.symm
      simp [h, this]

theorem ERel.put {φ : Map} {nt : Nat} {e : Env} {a : Act} (E : ERel φ nt e a) {d : Option Nat} {x : AVal} {v : Value} (hv : VRel φ x v) (hd : d.all (Nat.blt · nt) = true) : ERel φ nt (AM.put d x e) (a.put d v) := by
  cases d with
  | none => exact ⟨E.defers, E.size, E.tmp⟩
  | some d =>
    have hlt : d < nt := by simpa [Nat.blt_eq] using hd
    refine ⟨E.defers, by simpa [Act.put] using E.size, fun t => ?_⟩
    rw [look_put]
    by_cases h : d = t
    · subst h
      have := E.size
      have hlt' : d < a.tmps.size := by omega
      simpa [Act.put, hlt'] using hv
    · have h' : ¬ (some d = some t) := by simpa using h
      rw [if_neg h']
      have : (a.put (some d) v).tmps.getD t undef = a.tmps.getD t undef := by
        simp [Act.put, Array.getElem?_setIfInBounds_ne h]
      rw [this]
      exact E.tmp t

theorem wanted_rel {φ : Map} {nt : Nat} {e : Env} {a : Act} (E : ERel φ nt e a) {ops : Array Oper} {o : Oper} {g : Option (Nat × Bool)}
    (hg : (o.guard = none ∧ g = none) ∨ ∃ j b t, o.guard = some (j, b) ∧ (ops[j]?).bind (·.dst) = some t ∧ g = some (t, b)) : Region.wanted o (yielded ops a.tmps) = wantedA e g := by
  rcases hg with ⟨h1, rfl⟩ | ⟨j, b, t, h1, h2, rfl⟩
  · simp [Region.wanted, h1, wantedA]
  · simp only [Region.wanted, h1, yielded, h2, Option.bind_some, wantedA]
    have hv := E.tmp t
    simp only [look] at hv
    cases ht : e.get t with
    | none =>
      rw [ht] at hv
      simp only [] at hv
      have : ∀ c, a.tmps[t]? ≠ some (.bool c) := by
        intro c hc
        have : a.tmps.getD t undef = .bool c := by simp [hc]
        rw [this] at hv; cases hv
      cases hx : a.tmps[t]? with
      | none => simp
      | some v =>
        cases v <;> simp
        rename_i c
        exact absurd hx (this c)
    | some x =>
      rw [ht] at hv
      simp only [] at hv
      cases hx : a.tmps[t]? with
      | none =>
        have : a.tmps.getD t undef = undef := by simp [hx]
        rw [this] at hv
        cases x <;> first | rfl | (cases hv)
      | some v =>
        have : a.tmps.getD t undef = v := by simp [hx]
        rw [this] at hv
        cases hv with
        | bool c => simp
        | raw v hb =>
          cases v <;> simp
          exact absurd rfl (hb _)
        | _ => simp

theorem compOper_spec {tb : Types} {nt : Nat} {ops : Array Oper} {o : Oper} {ao : AOper} (h : compOper tb nt ops o = some ao) :
    compOp tb o.op = some ao.op ∧ ao.dst = o.dst ∧ o.dst.all (Nat.blt · nt) = true ∧ ((o.guard = none ∧ ao.guard = none) ∨ ∃ j b t, o.guard = some (j, b) ∧ (ops[j]?).bind (·.dst) = some t ∧ ao.guard = some (t, b)) := by
  unfold compOper at h
  cases hop : compOp tb o.op with
  | none => simp only [hop, reduceCtorEq] at h
  | some op =>
    cases hg : o.guard with
    | none =>
      simp only [hop, hg] at h
      split at h
      · rename_i hd; cases h
        exact ⟨rfl, rfl, hd, .inl ⟨rfl, rfl⟩⟩
      · cases h
    | some jb =>
      obtain ⟨j, b⟩ := jb
      simp only [hop, hg] at h
      split at h
      · rename_i t ht hd; cases h
        exact ⟨rfl, rfl, hd, .inr ⟨j, b, t, rfl, ht, rfl⟩⟩
      · cases h

section
variable {P : Program} {tb : Types} (T : TbOk P tb) {call : FuncId → List AVal → Heap → Option (AVal × Heap)} (C : CallSound P call) {φ : Map} {h h' : Heap} {w : World} (r : HRel φ h w)

include T C r in
/-- One operation. -/
theorem oper_sound {o : Oper} {ao : AOp Opd} (hc : compOp tb o.op = some ao) {ρ : Opd → AVal} {a : Act} (H : PRel φ ρ a.eval) {x : AVal} (he : evalOp call h (ao.map ρ) = some (x, h')) {K : Act → World → Prop} {Q : Exit → Act → World → Prop}
    (hK : ∀ v w' φ', HRel φ' h' w' → Ext φ h w φ' h' w' → VRel φ' x v → K (a.put o.dst v) w') : o.wp P a w K Q := by
  unfold evalOp at he
  have read : ∀ y, evalRead h (ao.map ρ) = some y → x = y → h' = h → o.wp P a w K Q := by
    intro y hy e1 e2
    subst e1; subst e2
    obtain ⟨v, h1, h2⟩ := read_sound T r H hc hy o.dst o.type o.pos o.after o.guard
    have h1' : (execOp a.eval o).run P w = .ok (.value v) w := h1
    unfold Oper.wp
    rw [h1', Oper.upon_value]
    exact hK v w φ r (Ext.refl _ _ _) h2
  split at he
  · split at he
    · rename_i y hy; cases he; exact read _ hy rfl rfl
    · cases he
  · split at he
    · rename_i y hy; cases he; exact read _ hy rfl rfl
    · cases he
  · split at he
    · rename_i obj mk hy
      cases he
      obtain ⟨xo, n, dr, v, h1, h2, h3⟩ := alloc_sound T H hc hy o.dst o.type o.pos o.after o.guard
      obtain ⟨r', x'⟩ := lay r h2
      have h1' : (execOp a.eval o).run P w = .ok (.value v) { w with heap := w.heap.push xo, drawn := dr } := h1
      unfold Oper.wp
      rw [h1', Oper.upon_value]
      exact hK v _ _ (r'.drew dr) (x'.trans (Ext.drew _ _ _ _)) (h3 _ _ (x'.le r) (by simp [Map.put]))
    · cases he
  · by_cases hcall : ao.isCall = true
    · cases ao <;> simp only [AOp.isCall, Bool.false_eq_true] at hcall
      rename_i f args
      simp only [AOp.map] at he
      obtain ⟨dst, op, type, pos, after, guard⟩ := o
      cases op <;> simp only [compOp] at hc
      case call c =>
        obtain ⟨callee, cargs, argTypes⟩ := c
        simp only [] at hc
        split at hc
        · rename_i fo opds hx
          split at hc
          · rename_i f' hf
            injection hc with hc
            injection hc with e1 e2
            subst e1; subst e2
            have hv := H _ _ hf
            obtain ⟨uf, huf⟩ : ∃ u, a.eval fo = u := ⟨_, rfl⟩
            rw [huf] at hv
            generalize ρ f' = af at hv he
            cases hv <;> simp only [evalWrite, reduceCtorEq] at he
            rename_i g first captured first' captured' hfirst hcap
            have hargs := H.list _ _ hx
            have hall : VRels φ (first ++ List.map ρ opds ++ captured) (first' ++ cargs.map a.eval ++ captured').toList := by
              simpa using (hfirst.append hargs).append hcap
            have hrun : ∀ w, (execOp a.eval ⟨dst, .call ⟨.value fo, cargs, argTypes⟩, type, pos, after, guard⟩).run P w = (callFunc g (first' ++ cargs.map a.eval ++ captured')).run P w := by
              intro w
              simp only [execOp, resolve, huf, Deferred.ofValue, Sem.run_bind, Sem.run_pure, Result.andThen_ok, invoke]
            rcases C _ _ _ _ _ he φ w _ r hall with ⟨hk, hc'⟩ | ⟨v, w', φ', c1, c2, c3, c4⟩
            · unfold Oper.wp
              rw [hrun, run_callFunc hk, Oper.upon_enter]
              refine hc'.mono fun e w'' hok => ?_
              obtain ⟨v, φ', rfl, k1, k2, k3⟩ := hok
              exact hK v w'' φ' k1 k2 k3
            · unfold Oper.wp
              rw [hrun, c1, Oper.upon_value]
              exact hK v w' φ' c2 c3 c4
          · cases hc
        · unfold compBuiltin at hc
          repeat' split at hc
          all_goals (cases hc; done)
        · cases hc
      case binOp op t x y yt =>
        cases hx : opdOf x <;> cases hy : opdOf y <;> simp only [hx, hy, bind2, reduceCtorEq] at hc
        cases hc
      case convert s d x =>
        cases hx : convOf tb s d <;> cases hy : opdOf x <;> simp only [hx, hy, bind2, reduceCtorEq] at hc
        cases hc
      case makeFunc fn a b =>
        cases fn <;> simp only [reduceCtorEq] at hc
        cases hx : opdsOf a.toList <;> cases hy : opdsOf b.toList <;> simp only [hx, hy, bind2, reduceCtorEq] at hc
        cases hc
      case makeMap t rs =>
        cases rs <;> simp only [reduceCtorEq] at hc
        cases hc
      all_goals
        first
          | (cases hc; done)
          | (repeat' split at hc
             all_goals (cases hc; done))
    · have hcall' : ao.isCall = false := by simpa using hcall
      obtain ⟨nx, v, w', φ', h1, h2, h3, h4, h5⟩ := write_sound T r H hc hcall' he o.dst o.type o.pos o.after o.guard
      have h1' : (execOp a.eval o).run P w = .ok nx w' := h1
      unfold Oper.wp
      rw [h1']
      rcases h2 with rfl | ⟨rfl, rfl⟩
      · rw [Oper.upon_value]; exact hK v w' φ' h3 h4 h5
      · rw [Oper.upon_skip]; exact hK _ w' φ' h3 h4 h5

end
end Go.AM
