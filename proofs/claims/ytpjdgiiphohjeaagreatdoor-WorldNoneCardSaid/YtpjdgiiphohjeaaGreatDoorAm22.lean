import Derived.Test.YtpjdgiiphohjeaaGreatDoorAm21
/-! Code as the small machine has it. -/
namespace Go.AM

def AExit.real : AExit → Exit
  | .normal => .normal
  | .exit i => .exit i
  | .ret => .ret

/-- A loop's round and what comes behind it. -/
def LoopWp (P : Program) (c : Code) (Q : Exit → Act → World → Prop) (a : Act) (w : World) : Prop :=
  ∀ (b : Frame) (k : List Item) (cs : List Frame), ∃ e a' w', Q e a' w' ∧ Arrives P (lone (b.at a (.code c :: .inLoop c :: k)) cs w) b k cs e a' w'

theorem wp_loop' {P : Program} {c : Code} {Q : Exit → Act → World → Prop} {a : Act} {w : World} (h : LoopWp P c Q a w) : (Code.loop c).wp P Q a w :=
  fun b k cs => let ⟨e, a', w', q, r⟩ := h b k cs; ⟨e, a', w', q, .of_steps (.one step_loop) r⟩

theorem loopWp {P : Program} {c : Code} {Q : Exit → Act → World → Prop} {a : Act} {w : World} (h : c.wp P (Exit.then (LoopWp P c Q) Q) a w) : LoopWp P c Q a w := by
  intro b k cs
  obtain ⟨e, a₁, w₁, hq, harr⟩ := h b (.inLoop c :: k) cs
  cases e with
  | normal =>
    obtain ⟨e₂, a₂, w₂, hq₂, harr₂⟩ := hq b k cs
    exact ⟨e₂, a₂, w₂, hq₂, .of_steps (Steps.trans harr (.one step_inLoop)) harr₂⟩
  | exit id => exact ⟨_, a₁, w₁, hq, .pass (x := .inLoop c) rfl (fun _ _ => .inl (by simp)) harr⟩
  | goto l => exact ⟨_, a₁, w₁, hq, .pass (x := .inLoop c) rfl (fun _ _ => .inl (by simp)) harr⟩
  | ret => exact ⟨_, a₁, w₁, hq, .pass (x := .inLoop c) rfl (fun _ _ => .inl (by simp)) harr⟩
  | panic ch => exact ⟨_, a₁, w₁, hq, .pass (x := .inLoop c) rfl (fun _ _ => .inl (by simp)) harr⟩
  | outgrown => exact ⟨_, a₁, w₁, hq, .pass (x := .inLoop c) rfl (fun _ _ => .inl (by simp)) harr⟩

/-- What is behind. -/
def Behind (P : Program) (φ : Map) (h : Heap) (w : World) (nt : Nat) (x : AExit) (e' : Env) (h' : Heap) (Q : Exit → Act → World → Prop) : Prop :=
  ∀ a' w' φ', ERel φ' nt e' a' → HRel φ' h' w' → Ext φ h w φ' h' w' → Q x.real a' w'

theorem Behind.later {P : Program} {φ φ1 : Map} {h h1 : Heap} {w w1 : World} {nt : Nat} {x : AExit} {e' : Env} {h' : Heap} {Q : Exit → Act → World → Prop} (b : Behind P φ h w nt x e' h' Q) (x1 : Ext φ h w φ1 h1 w1) : Behind P φ1 h1 w1 nt x e' h' Q :=
  fun a' w' φ' E r x' => b a' w' φ' E r (x1.trans x')

/-- A round more of a loop. -/
def AgainSound (P : Program) (tb : Types) (again : ACode → Env → Heap → Option (AExit × Env × Heap)) : Prop :=
  ∀ nt c ac, compCode tb nt c = some ac → ∀ e h x e' h', again (.loop ac) e h = some (x, e', h') → ∀ φ a w Q, ERel φ nt e a → HRel φ h w → Behind P φ h w nt x e' h' Q → LoopWp P c Q a w

section
variable {P : Program} {tb : Types} (T : TbOk P tb) {call : FuncId → List AVal → Heap → Option (AVal × Heap)} (C : CallSound P call)

theorem compOpers_len {nt : Nat} {ops : Array Oper} : ∀ {os : List Oper} {as : List AOper}, compOpers tb nt ops os = some as → as.length = os.length := by
  intro os
  induction os with
  | nil => intro as h; simp [compOpers] at h; subst h; rfl
  | cons o os ih =>
    intro as h
    simp only [compOpers] at h
    split at h
    · rename_i o' os' h1 h2; cases h; simp [ih h2]
    · cases h

include T C in
theorem ops_sound {nt : Nat} {ops : Array Oper} : ∀ {os : List Oper} {as : List AOper} {k : Nat}, (∀ j o, os[j]? = some o → ops[k + j]? = some o) → compOpers tb nt ops os = some as →
    ∀ {e h e' h'}, execOps call as e h = some (e', h') → ∀ {φ a w Q}, ERel φ nt e a → HRel φ h w → Behind P φ h w nt .normal e' h' Q → wpOps P ops Q (List.range' k os.length) a w := by
  intro os
  induction os with
  | nil =>
    intro as k _ hc e h e' h' he φ a w Q E r B
    simp [compOpers] at hc; subst hc
    simp [execOps] at he
    obtain ⟨rfl, rfl⟩ := he
    exact B a w φ E r (Ext.refl _ _ _)
  | cons o os ih =>
    intro as k hk hc e h e' h' he φ a w Q E r B
    simp only [compOpers] at hc
    split at hc
    case h_2 => cases hc
    rename_i ao aos h1 h2
    cases hc
    obtain ⟨b1, b2, b3, b4⟩ := compOper_spec h1
    have hk' : ∀ j o', os[j]? = some o' → ops[k + 1 + j]? = some o' := by
      intro j o' hj
      have := hk (j + 1) o' (by simpa using hj)
      rw [show k + 1 + j = k + (j + 1) from by omega]; exact this
    rw [List.length_cons, List.range'_succ, wpOps_cons]
    unfold wpOp
    have h0 := hk 0 o rfl
    rw [Nat.add_zero] at h0
    rw [h0]
    simp only []
    rw [wanted_rel E b4]
    simp only [execOps] at he
    split at he
    · rename_i hw
      rw [hw]
      simp only [Bool.false_eq_true, if_false]
      rw [b2] at he
      exact ih hk' h2 he (E.put (.tuple _ _ .nil) b3) r B
    · rename_i hw
      rw [hw]
      simp only [if_true]
      left
      split at he
      case h_2 => cases he
      rename_i v h1' hv
      refine oper_sound T C r b1 E.prel hv ?_
      intro v' w' φ' r' x' hvr
      rw [b2] at he
      exact ih hk' h2 he ((E.mono (x'.le r)).put hvr b3) r' (B.later x')

variable {again : ACode → Env → Heap → Option (AExit × Env × Heap)} (A : AgainSound P tb again) (hm : P.follows .mixedOrders = true)

include T C A hm in
theorem code_sound : ∀ (nt : Nat) (c : Code) (ac : ACode), compCode tb nt c = some ac → ∀ e h x e' h', execS call again ac e h = some (x, e', h') →
    ∀ φ a w Q, ERel φ nt e a → HRel φ h w → Behind P φ h w nt x e' h' Q → c.wp P Q a w := by
  intro nt c
  induction c with
  | skip =>
    intro ac hc e h x e' h' he φ a w Q E r B
    simp [compCode] at hc; subst hc
    simp [execS] at he
    obtain ⟨rfl, rfl, rfl⟩ := he
    exact wp_skip (B a w φ E r (Ext.refl _ _ _))
  | region id ops d =>
    intro ac hc e h x e' h' he φ a w Q E r B
    cases d with
    | false =>
      simp only [compCode] at hc
      split at hc
      case h_2 => cases hc
      rename_i as has
      cases hc
      simp only [execS] at he
      split at he
      case h_2 => cases he
      rename_i e1 h1 he1
      cases he
      refine wp_region ?_
      have := ops_sound T C (k := 0) (os := ops.toList) (ops := ops) (fun j o hj => by simpa using hj) has he1 E r B
      rw [Array.length_toList] at this
      rw [List.range_eq_range']
      exact this
    | true =>
      simp only [compCode] at hc
      split at hc
      case h_2 => cases hc
      rename_i ds hds
      cases hc
      simp only [execS] at he
      split at he
      case h_2 => cases he
      rename_i vals h1 he1
      cases he
      exact drawn_sound T C hm hds he1 E r id B
  | seq c1 c2 ih1 ih2 =>
    intro ac hc e h x e' h' he φ a w Q E r B
    simp only [compCode] at hc
    split at hc
    case h_2 => cases hc
    rename_i a1 a2 hc1 hc2
    cases hc
    simp only [execS] at he
    refine wp_seq ?_
    split at he
    · rename_i e1 h1 he1
      refine ih1 a1 hc1 e h _ e1 h1 he1 φ a w _ E r ?_
      intro a' w' φ' E' r' x'
      exact ih2 a2 hc2 e1 h1 x e' h' he φ' a' w' Q E' r' (B.later x')
    · rename_i hne
      refine ih1 a1 hc1 e h x e' h' he φ a w _ E r ?_
      intro a' w' φ' E' r' x'
      have hx : x ≠ .normal := by
        rintro rfl
        exact hne _ _ he
      have := B a' w' φ' E' r' x'
      cases x with
      | normal => exact absurd rfl hx
      | exit i => exact this
      | ret => exact this
  | cond o c1 c2 ih1 ih2 =>
    intro ac hc e h x e' h' he φ a w Q E r B
    simp only [compCode] at hc
    split at hc
    case h_2 => cases hc
    rename_i o' a1 a2 ho hc1 hc2
    cases hc
    simp only [execS] at he
    have hv := E.prel _ _ ho
    split at he
    · rename_i hl
      rw [hl] at hv
      obtain ⟨v, hve⟩ : ∃ v, a.eval o = v := ⟨_, rfl⟩
      rw [hve] at hv; cases hv
      exact wp_cond_true hve (ih1 a1 hc1 e h x e' h' he φ a w Q E r B)
    · rename_i hl
      rw [hl] at hv
      obtain ⟨v, hve⟩ : ∃ v, a.eval o = v := ⟨_, rfl⟩
      rw [hve] at hv; cases hv
      exact wp_cond_false hve (ih2 a2 hc2 e h x e' h' he φ a w Q E r B)
    · cases he
  | block id c ih =>
    intro ac hc e h x e' h' he φ a w Q E r B
    simp only [compCode] at hc
    split at hc
    case h_2 => cases hc
    rename_i a1 hc1
    cases hc
    simp only [execS] at he
    refine wp_block ?_
    split at he
    · rename_i i e1 h1 he1
      split at he
      · rename_i hi
        cases he
        refine ih a1 hc1 e h _ _ _ he1 φ a w _ E r ?_
        intro a' w' φ' E' r' x'
        have := B a' w' φ' E' r' x'
        simp only [AExit.real, Exit.inBlock]
        rw [if_pos (Nat.eq_of_beq_eq_true hi)]
        exact this
      · rename_i hi
        cases he
        refine ih a1 hc1 e h _ _ _ he1 φ a w _ E r ?_
        intro a' w' φ' E' r' x'
        have := B a' w' φ' E' r' x'
        simp only [AExit.real, Exit.inBlock]
        rw [if_neg (fun h => by subst h; rw [Nat.beq_refl] at hi; cases hi)]
        exact this
    · rename_i hne
      refine ih a1 hc1 e h _ _ _ he φ a w _ E r ?_
      intro a' w' φ' E' r' x'
      have := B a' w' φ' E' r' x'
      cases x with
      | normal => exact this
      | exit i => exact absurd he (hne i _ _)
      | ret => exact this
  | loop c ih =>
    intro ac hc e h x e' h' he φ a w Q E r B
    simp only [compCode] at hc
    split at hc
    case h_2 => cases hc
    rename_i a1 hc1
    cases hc
    simp only [execS] at he
    refine wp_loop' (loopWp ?_)
    split at he
    · rename_i e1 h1 he1
      refine ih a1 hc1 e h _ e1 h1 he1 φ a w _ E r ?_
      intro a' w' φ' E' r' x'
      exact A nt c a1 hc1 e1 h1 x e' h' he φ' a' w' Q E' r' (B.later x')
    · rename_i hne
      refine ih a1 hc1 e h x e' h' he φ a w _ E r ?_
      intro a' w' φ' E' r' x'
      have hx : x ≠ .normal := by
        rintro rfl
        exact hne _ _ he
      have := B a' w' φ' E' r' x'
      cases x with
      | normal => exact absurd rfl hx
      | exit i => exact this
      | ret => exact this
  | exit id =>
    intro ac hc e h x e' h' he φ a w Q E r B
    simp [compCode] at hc; subst hc
    simp [execS] at he
    obtain ⟨rfl, rfl, rfl⟩ := he
    exact wp_exit (B a w φ E r (Ext.refl _ _ _))
  | ret =>
    intro ac hc e h x e' h' he φ a w Q E r B
    simp [compCode] at hc; subst hc
    simp [execS] at he
    obtain ⟨rfl, rfl, rfl⟩ := he
    exact wp_ret (B a w φ E r (Ext.refl _ _ _))
  | _ => intro ac hc; simp [compCode] at hc

include T C A hm in
theorem again_sound : AgainSound P tb (fun c e h => execS call again c e h) := by
  intro nt c ac hc e h x e' h' he φ a w Q E r B
  simp only [execS] at he
  refine loopWp ?_
  split at he
  · rename_i e1 h1 he1
    refine code_sound T C A hm nt c ac hc e h _ e1 h1 he1 φ a w _ E r ?_
    intro a' w' φ' E' r' x'
    exact A nt c ac hc e1 h1 x e' h' he φ' a' w' Q E' r' (B.later x')
  · rename_i hne
    refine code_sound T C A hm nt c ac hc e h x e' h' he φ a w _ E r ?_
    intro a' w' φ' E' r' x'
    have hx : x ≠ .normal := by
      rintro rfl
      exact hne _ _ he
    have := B a' w' φ' E' r' x'
    cases x with
    | normal => exact absurd rfl hx
    | exit i => exact this
    | ret => exact this

end
end Go.AM
