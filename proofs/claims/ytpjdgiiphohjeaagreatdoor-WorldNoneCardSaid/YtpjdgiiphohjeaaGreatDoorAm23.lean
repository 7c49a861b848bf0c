import Derived.Test.YtpjdgiiphohjeaaGreatDoorAm22
/-! Calls as the small machine has them. -/
namespace Go.AM

/-! ### What a function leaves -/
section
variable {P : Program} {tb : Types} (T : TbOk P tb)

def resultSem (tmps : Array Value) : ResultVar → Sem Value
  | .tmp t => pure (tmps.getD t undef)
  | .cell a t => do loadVar t (← asAddr (tmps.getD a undef))

theorem results_eq (fn : Func) (tmps : Array Value) : results fn tmps = (do
    let vs ← fn.results.mapM (resultSem tmps)
    pure (if h : vs.size = 1 then vs[0] else .tuple vs)) := by
  unfold results
  congr 1

include T in
theorem result_sound {r : ResultVar} {ar : AResult} (hc : compResult tb r = some ar) {φ : Map} {e : Env} {h : Heap} {w : World} {tmps : Array Value} (E : ∀ t, VRel φ (look e (.t t)) (tmps.getD t undef)) (R : HRel φ h w)
    {x : AVal} (hx : resultOf e h ar = some x) : ∃ v, (resultSem tmps r).run P w = .ok v w ∧ VRel φ x v := by
  cases r with
  | tmp t =>
    simp [compResult] at hc; subst hc
    simp [resultOf] at hx; subst hx
    exact ⟨_, rfl, E t⟩
  | cell a t =>
    simp only [compResult] at hc
    split at hc
    case h_2 => cases hc
    rename_i i hi
    have hv := E a
    obtain ⟨u, hu⟩ : ∃ u, tmps.getD a undef = u := ⟨_, rfl⟩
    rw [hu] at hv
    split at hc
    · rename_i hagg
      cases hc
      simp only [resultOf] at hx
      generalize look e (.t a) = p at hv hx
      cases hv <;> simp only [evalRead, reduceCtorEq] at hx
      rename_i id off L e1
      split at hx
      · rename_i vs hg
        cases hcs : takeAt vs off i.size with
        | none => simp [hcs] at hx
        | some cs =>
          simp [hcs] at hx; subst hx
          obtain ⟨us, h1, h2⟩ := R.run_cells (P := P) e1 hg hcs
          have hia := run_isAgg_tb T hi w
          rw [hagg] at hia
          have hz := run_sizeOf_tb T hi w
          exact ⟨.agg us.toArray, by simp [resultSem, hu, asAddr, loadVar, hia, hz, h2], .agg _ _ (by simpa using h1)⟩
      · cases hx
    · rename_i hagg
      cases hc
      simp only [resultOf] at hx
      generalize look e (.t a) = p at hv hx
      cases hv <;> simp only [evalRead, reduceCtorEq] at hx
      rename_i id off L e1
      split at hx
      · rename_i vs hg
        obtain ⟨v, hv, hr⟩ := R.cell e1 hg hx
        have hia := run_isAgg_tb T hi w
        rw [hagg] at hia
        exact ⟨v, by simp [resultSem, hu, asAddr, loadVar, hia, hv], hr⟩
      · cases hx

include T in
theorem results_list {φ : Map} {e : Env} {h : Heap} {w : World} {tmps : Array Value} (E : ∀ t, VRel φ (look e (.t t)) (tmps.getD t undef)) (R : HRel φ h w) : ∀ {rs : List ResultVar} {ars : List AResult}, compResults tb rs = some ars →
    ∀ {xs : List AVal}, resultsOf e h ars = some xs → ∃ vs, (rs.mapM (resultSem tmps)).run P w = .ok vs w ∧ VRels φ xs vs := by
  intro rs
  induction rs with
  | nil =>
    intro ars hc xs hx
    simp [compResults] at hc; subst hc
    simp [resultsOf] at hx; subst hx
    exact ⟨[], by simp, .nil⟩
  | cons r rs ih =>
    intro ars hc xs hx
    simp only [compResults] at hc
    split at hc
    case h_2 => cases hc
    rename_i ar ars' h1 h2
    cases hc
    simp only [resultsOf] at hx
    split at hx
    case h_2 => cases hx
    rename_i v vs k1 k2
    cases hx
    obtain ⟨u, e1, e2⟩ := result_sound T h1 E R k1
    obtain ⟨us, e3, e4⟩ := ih h2 k2
    exact ⟨u :: us, by simp [List.mapM_cons, e1, e3], .cons _ _ _ _ e2 e4⟩

include T in
theorem results_sound {fn : Func} {ars : List AResult} (hc : compResults tb fn.results.toList = some ars) {φ : Map} {e : Env} {h : Heap} {w : World} {tmps : Array Value} (E : ∀ t, VRel φ (look e (.t t)) (tmps.getD t undef)) (R : HRel φ h w)
    {xs : List AVal} (hx : resultsOf e h ars = some xs) : ∃ v, (results fn tmps).run P w = .ok v w ∧ VRel φ (oneOrTuple xs) v := by
  obtain ⟨vs, h1, h2⟩ := results_list T E R hc hx
  rw [results_eq, Array.mapM_eq_mapM_toList]
  cases h2 with
  | nil => exact ⟨.tuple #[], by simp [h1], .tuple _ _ .nil⟩
  | cons a v as us ha hs =>
    cases hs with
    | nil => exact ⟨v, by simp [h1], ha⟩
    | cons a2 v2 as us ha2 hs => exact ⟨.tuple (v :: v2 :: us).toArray, by simp [h1], .tuple _ _ (.cons _ _ _ _ ha (.cons _ _ _ _ ha2 hs))⟩

/-! ### What a function finds -/
theorem VRels.getD_ {φ : Map} : ∀ {as : List AVal} {vs : List Value}, VRels φ as vs → ∀ i, VRel φ (as.getD i undefA) (vs.getD i undef)
  | _, _, .nil, _ => .tuple _ _ .nil
  | _, _, .cons _ _ _ _ h _, 0 => h
  | _, _, .cons _ _ _ _ _ hs, i + 1 => by simpa using VRels.getD_ hs i

theorem enter_look : ∀ (args : List AVal) (i : Nat) (e : Env) (t : Nat), look (enter args i e) (.t t) = if i ≤ t ∧ t < i + args.length then args.getD (t - i) undefA else look e (.t t) := by
  intro args
  induction args with
  | nil => intro i e t; rw [if_neg (by rw [List.length_nil]; omega)]; rfl
  | cons a args ih =>
    intro i e t
    simp only [enter]
    rw [ih]
    by_cases h1 : i + 1 ≤ t ∧ t < i + 1 + args.length
    · rw [if_pos h1, if_pos (by simp; omega)]
      rw [show t - i = (t - (i + 1)) + 1 from by omega]
      simp
    · rw [if_neg h1, look_set]
      by_cases h2 : t = i
      · subst h2; rw [if_pos rfl, if_pos (by simp)]; simp
      · rw [if_neg h2, if_neg (by simp; omega)]

theorem enter_rel {φ : Map} {args : List AVal} {args' : Array Value} (h : VRels φ args args'.toList) (nt : Nat) :
    ERel φ nt (enter args 0 .leaf) { tmps := args' ++ Array.replicate (nt - args'.size) undef, defers := [] } := by
  refine ⟨rfl, by simp; omega, fun t => ?_⟩
  rw [enter_look]
  have hlen := h.length
  by_cases ht : t < args.length
  · rw [if_pos ⟨by omega, by omega⟩]
    have ht' : t < args'.size := by rw [← Array.length_toList, ← hlen]; exact ht
    have := h.getD_ t
    have e1 : (args' ++ Array.replicate (nt - args'.size) undef).getD t undef = args'.toList.getD t undef := by
      simp [Array.getElem?_append, ht']
    show VRel φ _ ((args' ++ Array.replicate (nt - args'.size) undef).getD t undef)
    rw [e1, Nat.sub_zero]
    exact this
  · rw [if_neg (by omega)]
    have ht' : ¬ t < args'.size := by rw [← Array.length_toList, ← hlen]; exact ht
    have e1 : (args' ++ Array.replicate (nt - args'.size) undef).getD t undef = undef := by
      simp [Array.getElem?_append, ht', Array.getElem?_replicate]
      split <;> simp
    show VRel φ _ ((args' ++ Array.replicate (nt - args'.size) undef).getD t undef)
    rw [e1]
    simp only [look, Tr.get_leaf]
    exact .tuple _ _ .nil

/-! ### A call -/
/-- The table's functions are the program's. -/
def FsOk (P : Program) (tb : Types) (fs : Tr AFunc) : Prop :=
  ∀ f af, fs.get f = some af → ∃ fn, P.funcs[f]? = some fn ∧ compFunc tb fn = some af ∧ (fn.name == "runtime.NumGoroutine") = false

/-- A function by a rule of its own. -/
def OwnSound (P : Program) (own : FuncId → Option (List AVal → Heap → Option (AVal × Heap))) : Prop :=
  ∀ f g, own f = some g → ∀ args h a h', g args h = some (a, h') → ∀ φ w (args' : Array Value), HRel φ h w → VRels φ args args'.toList →
    (Known P f ∧ Calls P f args' w (CallOk φ h w a h')) ∨ ∃ v w' φ', (callFunc f args').run P w = .ok (.value v) w' ∧ HRel φ' h' w' ∧ Ext φ h w φ' h' w' ∧ VRel φ' a v

variable {fs : Tr AFunc} (F : FsOk P tb fs) {own : FuncId → Option (List AVal → Heap → Option (AVal × Heap))} (O : OwnSound P own) (hm : P.follows .mixedOrders = true)

include T F O hm in
theorem callS_sound {r : Rec} (C : CallSound P r.call) (A : AgainSound P tb r.again) : CallSound P (callS fs own r) := by
  intro f args h a h' he φ w args' R V
  unfold callS at he
  split at he
  · rename_i g hg
    exact O f g hg args h a h' he φ w args' R V
  · split at he
    · cases he
    · rename_i af haf
      obtain ⟨fn, h1, h2, h3⟩ := F f af haf
      unfold compFunc at h2
      split at h2
      · cases h2
      rename_i c hbody
      split at h2
      case h_2 => cases h2
      rename_i rs ac hrs hac
      cases h2
      left
      refine ⟨⟨fn, h1, h3, by rw [hbody]; rfl⟩, ?_⟩
      refine calls_of_wp h1 hbody ?_
      have out : ∀ x e1 h1', execS r.call r.again ac (enter args 0 .leaf) h = some (x, e1, h1') → (x = .normal ∨ x = .ret) → (match resultsOf e1 h1' rs with | some vs => some (oneOrTuple vs, h1') | none => none) = some (a, h') →
          c.wp P (bodyPost P fn (CallOk φ h w a h')) { tmps := args' ++ Array.replicate (fn.ntmps - args'.size) undef, defers := [] } w := by
        intro x e1 h1' he1 hx hres
        refine code_sound T C A hm fn.ntmps c ac hac _ h x e1 h1' he1 φ _ w _ (enter_rel V _) R ?_
        intro a' w' φ' E' r' x'
        split at hres
        case h_2 => cases hres
        rename_i vs hvs
        cases hres
        obtain ⟨v, e2, e3⟩ := results_sound T hrs (tmps := a'.tmps) E'.tmp r' hvs
        rcases hx with rfl | rfl
        · exact ⟨E'.defers, v, e2, v, φ', rfl, r', x', e3⟩
        · exact ⟨E'.defers, v, e2, v, φ', rfl, r', x', e3⟩
      simp only [] at he
      split at he
      · rename_i e1 h1' he1; exact out _ _ _ he1 (.inl rfl) he
      · rename_i e1 h1' he1; exact out _ _ _ he1 (.inr rfl) he
      · cases he

include T F O hm in
/-- The small machine is right. -/
theorem run_sound : ∀ n, CallSound P (run fs own n).call ∧ AgainSound P tb (run fs own n).again := by
  intro n
  induction n with
  | zero =>
    refine ⟨?_, ?_⟩
    · intro f args h a h' he; cases he
    · intro nt c ac hc e h x e' h' he; cases he
  | succ n ih =>
    exact ⟨callS_sound T F O hm ih.1 ih.2, again_sound T ih.1 ih.2 hm⟩

end
end Go.AM
