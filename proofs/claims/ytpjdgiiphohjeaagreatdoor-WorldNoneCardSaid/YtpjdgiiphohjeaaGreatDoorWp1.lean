import Derived.Test.YtpjdgiiphohjeaaGreatDoorAm3
/-! More fuel does no harm; what a piece of code writes. -/
namespace Go.AM

abbrev CallT := FuncId → List AVal → Heap → Option (AVal × Heap)
abbrev AgainT := ACode → Env → Heap → Option (AExit × Env × Heap)
abbrev OwnT := FuncId → Option (List AVal → Heap → Option (AVal × Heap))

def CLe (c d : CallT) : Prop := ∀ f a h r, c f a h = some r → d f a h = some r
def ALe (c d : AgainT) : Prop := ∀ f a h r, c f a h = some r → d f a h = some r

theorem evalWrite_le {c d : CallT} (hc : CLe c d) (h : Heap) (o : AOp AVal) {r : AVal × Heap} (e : evalWrite c h o = some r) : evalWrite d h o = some r := by
  unfold evalWrite at e ⊢
  split at e <;> first | exact hc _ _ _ _ e | exact e | cases e

theorem evalOp_le {c d : CallT} (hc : CLe c d) (h : Heap) (o : AOp AVal) {r : AVal × Heap} (e : evalOp c h o = some r) : evalOp d h o = some r := by
  unfold evalOp at e ⊢
  split at e
  · exact e
  · exact e
  · exact e
  · exact evalWrite_le hc h o e

theorem execOps_le {c d : CallT} (hc : CLe c d) : ∀ (ops : List AOper) (e : Env) (h : Heap) {r : Env × Heap}, execOps c ops e h = some r → execOps d ops e h = some r := by
  intro ops
  induction ops with
  | nil => intro e h r x; exact x
  | cons o os ih =>
    intro e h r x
    simp only [execOps] at x ⊢
    split at x
    · exact ih _ _ x
    · split at x
      · rename_i v h' hv
        rw [evalOp_le hc _ _ hv]
        exact ih _ _ x
      · cases x

theorem execD_le {c d : CallT} (hc : CLe c d) (e : Env) : ∀ (ops : List DOper) (vals : Env) (h : Heap) (hs : List Heap) (ps : List Past) {r : Env × Heap}, execD c e ops vals h hs ps = some r → execD d e ops vals h hs ps = some r := by
  intro ops
  induction ops with
  | nil => intro vals h hs ps r x; exact x
  | cons o os ih =>
    intro vals h hs ps r x
    simp only [execD] at x ⊢
    split at x
    · split at x
      · exact ih _ _ _ _ x
      · exact ih _ _ _ _ x
    · split at x
      · split at x
        · rename_i v h' hv
          rw [evalWrite_le hc _ _ hv]
          simp only []
          split at x
          · exact ih _ _ _ _ x
          · cases x
        · cases x
      · split at x
        · exact ih _ _ _ _ x
        · cases x
      · split at x
        · exact ih _ _ _ _ x
        · cases x

theorem execS_le {c d : CallT} (hc : CLe c d) {a b : AgainT} (ha : ALe a b) : ∀ (x : ACode) (e : Env) (h : Heap) {r : AExit × Env × Heap}, execS c a x e h = some r → execS d b x e h = some r := by
  intro x
  induction x with
  | skip => intro e h r y; exact y
  | exit i => intro e h r y; exact y
  | ret => intro e h r y; exact y
  | reg ops =>
    intro e h r y
    simp only [execS] at y ⊢
    split at y
    · rename_i e1 h1 hv; rw [execOps_le hc _ _ _ hv]; exact y
    · cases y
  | dreg ops =>
    intro e h r y
    simp only [execS] at y ⊢
    split at y
    · rename_i e1 h1 hv; rw [execD_le hc _ _ _ _ _ _ hv]; exact y
    · cases y
  | seq p q ihp ihq =>
    intro e h r y
    simp only [execS] at y ⊢
    split at y
    · rename_i e1 h1 hv; rw [ihp _ _ hv]; exact ihq _ _ y
    · rename_i hne
      rw [ihp _ _ y]
      split
      · rename_i e1 h1 hv; cases hv; exact absurd y (hne _ _)
      · rfl
  | cond v p q ihp ihq =>
    intro e h r y
    simp only [execS] at y ⊢
    split at y
    · exact ihp _ _ y
    · exact ihq _ _ y
    · cases y
  | block id p ihp =>
    intro e h r y
    simp only [execS] at y ⊢
    split at y
    · rename_i i e1 h1 hv; rw [ihp _ _ hv]; exact y
    · rename_i hne
      rw [ihp _ _ y]
      split
      · rename_i i e1 h1 hv; cases hv; exact absurd y (hne _ _ _)
      · rfl
  | loop p ihp =>
    intro e h r y
    simp only [execS] at y ⊢
    split at y
    · rename_i e1 h1 hv; rw [ihp _ _ hv]; exact ha _ _ _ _ y
    · rename_i hne
      rw [ihp _ _ y]
      split
      · rename_i e1 h1 hv; cases hv; exact absurd y (hne _ _)
      · rfl

theorem callS_le {fs : Tr AFunc} {own : OwnT} {r s : Rec} (hc : CLe r.call s.call) (ha : ALe r.again s.again) : CLe (callS fs own r) (callS fs own s) := by
  intro f args h v x
  unfold callS at x ⊢
  split at x
  · exact x
  · split at x
    · cases x
    · simp only [] at x ⊢
      split at x
      · rename_i e1 h1 hv; rw [execS_le hc ha _ _ _ hv]; exact x
      · rename_i e1 h1 hv; rw [execS_le hc ha _ _ _ hv]; exact x
      · cases x

theorem run_le (fs : Tr AFunc) (own : OwnT) : ∀ n, CLe (run fs own n).call (run fs own (n + 1)).call ∧ ALe (run fs own n).again (run fs own (n + 1)).again := by
  intro n
  induction n with
  | zero => exact ⟨fun _ _ _ _ x => (by cases x), fun _ _ _ _ x => (by cases x)⟩
  | succ n ih => exact ⟨callS_le ih.1 ih.2, fun c e h r x => execS_le ih.1 ih.2 c e h x⟩

theorem run_mono (fs : Tr AFunc) (own : OwnT) {n m : Nat} (hnm : n ≤ m) : CLe (run fs own n).call (run fs own m).call ∧ ALe (run fs own n).again (run fs own m).again := by
  induction hnm with
  | refl => exact ⟨fun _ _ _ _ x => x, fun _ _ _ _ x => x⟩
  | step _ ih => exact ⟨fun f a h r x => (run_le fs own _).1 f a h r (ih.1 f a h r x), fun f a h r x => (run_le fs own _).2 f a h r (ih.2 f a h r x)⟩

/-! ### What is written -/
def dstsOf : List AOper → List Nat
  | [] => []
  | o :: os => match o.dst with
    | some d => d :: dstsOf os
    | none => dstsOf os
def dstsD : List DOper → List Nat
  | [] => []
  | o :: os => match o.dst with
    | some d => d :: dstsD os
    | none => dstsD os
def written : ACode → List Nat
  | .skip | .exit _ | .ret => []
  | .reg ops => dstsOf ops
  | .dreg ops => dstsD ops
  | .seq a b => written a ++ written b
  | .cond _ a b => written a ++ written b
  | .block _ a => written a
  | .loop a => written a

noncomputable def env (e : Env) (t : Nat) : AVal := look e (.t t)

theorem env_set (e : Env) (d : Nat) (v : AVal) (t : Nat) : env (e.set d v) t = if t = d then v else env e t := by
  have h1 : ∀ e : Env, env e t = match e.get t with
    | some v => v
    | none => undefA := fun _ => rfl
  rw [h1, h1, Tr.get_set]
  by_cases h : t = d <;> simp [h]

theorem env_put (e : Env) (d : Option Nat) (v : AVal) (t : Nat) (h : ∀ x, d = some x → t ≠ x) : env (put d v e) t = env e t := by
  cases d with
  | none => rfl
  | some d => simp only [put]; rw [env_set, if_neg (h d rfl)]

theorem execOps_written {c : CallT} : ∀ (ops : List AOper) (e : Env) (h : Heap) {e' : Env} {h' : Heap}, execOps c ops e h = some (e', h') → ∀ t, t ∉ dstsOf ops → env e' t = env e t := by
  intro ops
  induction ops with
  | nil => intro e h e' h' x t _; cases x; rfl
  | cons o os ih =>
    intro e h e' h' x t ht
    have h1 : t ∉ dstsOf os := by
      intro hm; apply ht; simp only [dstsOf]; split
      · exact List.mem_cons_of_mem _ hm
      · exact hm
    have h2 : ∀ x, o.dst = some x → t ≠ x := by
      intro y hy e1; apply ht; simp only [dstsOf, hy]; subst e1; exact List.mem_cons_self
    simp only [execOps] at x
    split at x
    · rw [ih _ _ x t h1, env_put _ _ _ _ h2]
    · split at x
      · rw [ih _ _ x t h1, env_put _ _ _ _ h2]
      · cases x

theorem putAll_written (vals : Env) : ∀ (ops : List DOper) (e : Env) (t : Nat), t ∉ dstsD ops → env (putAll vals ops e) t = env e t := by
  intro ops
  induction ops with
  | nil => intro e t _; rfl
  | cons o os ih =>
    intro e t ht
    have h1 : t ∉ dstsD os := by
      intro hm; apply ht; simp only [dstsD]; split
      · exact List.mem_cons_of_mem _ hm
      · exact hm
    have h2 : ∀ x, o.dst = some x → t ≠ x := by
      intro y hy e1; apply ht; simp only [dstsD, hy]; subst e1; exact List.mem_cons_self
    simp only [putAll]
    rw [ih _ t h1, env_put _ _ _ _ h2]

def WritesOnly (a : AgainT) : Prop := ∀ c e h x e' h', a c e h = some (x, e', h') → ∀ t, t ∉ written c → env e' t = env e t

theorem execS_written {c : CallT} {a : AgainT} (ha : WritesOnly a) : WritesOnly (execS c a) := by
  intro x
  induction x with
  | skip => intro e h y e' h' he t _; cases he; rfl
  | exit i => intro e h y e' h' he t _; cases he; rfl
  | ret => intro e h y e' h' he t _; cases he; rfl
  | reg ops =>
    intro e h y e' h' he t ht
    simp only [execS] at he
    split at he
    · rename_i e1 h1 hv; cases he; exact execOps_written _ _ _ hv t ht
    · cases he
  | dreg ops =>
    intro e h y e' h' he t ht
    simp only [execS] at he
    split at he
    · cases he; exact putAll_written _ _ _ t ht
    · cases he
  | seq p q ihp ihq =>
    intro e h y e' h' he t ht
    simp only [written, List.mem_append, not_or] at ht
    simp only [execS] at he
    split at he
    · rename_i e1 h1 hv; rw [ihq _ _ _ _ _ he t ht.2, ihp _ _ _ _ _ hv t ht.1]
    · exact ihp _ _ _ _ _ he t ht.1
  | cond v p q ihp ihq =>
    intro e h y e' h' he t ht
    simp only [written, List.mem_append, not_or] at ht
    simp only [execS] at he
    split at he
    · exact ihp _ _ _ _ _ he t ht.1
    · exact ihq _ _ _ _ _ he t ht.2
    · cases he
  | block id p ihp =>
    intro e h y e' h' he t ht
    simp only [execS] at he
    split at he
    · rename_i i e1 h1 hv
      split at he
      · cases he; exact ihp _ _ _ _ _ hv t ht
      · cases he; exact ihp _ _ _ _ _ hv t ht
    · exact ihp _ _ _ _ _ he t ht
  | loop p ihp =>
    intro e h y e' h' he t ht
    simp only [execS] at he
    split at he
    · rename_i e1 h1 hv; rw [ha _ _ _ _ _ _ he t ht, ihp _ _ _ _ _ hv t ht]
    · exact ihp _ _ _ _ _ he t ht

theorem run_written (fs : Tr AFunc) (own : OwnT) : ∀ n, WritesOnly (run fs own n).again := by
  intro n
  induction n with
  | zero => intro c e h x e' h' he; cases he
  | succ n ih => exact execS_written ih

end Go.AM

/-! What a piece of code comes to, said without the machine: 'wpS' is read off the code; it is right (wpF_sound). -/
namespace Go.AM

/-! ### Names only grow -/
def OwnUp (own : OwnT) : Prop := ∀ f g, own f = some g → ∀ args h v h', g args h = some (v, h') → h.next ≤ h'.next
def CUp (c : CallT) : Prop := ∀ f args h v h', c f args h = some (v, h') → h.next ≤ h'.next
def AUp (a : AgainT) : Prop := ∀ c e h x e' h', a c e h = some (x, e', h') → h.next ≤ h'.next

theorem putAt_next {h h' : Heap} {id off : Nat} {new : List AVal} (e : putAt h id off new = some h') : h'.next = h.next := by
  unfold putAt at e
  split at e
  · split at e
    · cases e; rfl
    · cases e
  · split at e
    · cases e; rfl
    · cases e
  · cases e

theorem appendCells_next {h h' : Heap} {esz bytes n : Nat} {s v : AVal} {new : List AVal} (e : appendCells h esz bytes s n new = some (v, h')) : h.next ≤ h'.next := by
  unfold appendCells at e
  split at e
  · split at e
    · cases e; exact Nat.le_refl _
    · split at e
      · cases e; show h.next ≤ h.next + 1; exact Nat.le_succ _
      · cases e
  · split at e
    · split at e
      · rename_i hp; cases e; rw [putAt_next hp]; exact Nat.le_refl _
      · cases e
    · split at e
      · split at e
        · cases e; show h.next ≤ h.next + 1; exact Nat.le_succ _
        · cases e
      · cases e
  · split at e
    · split at e
      · split at e
        · rename_i hp; cases e; rw [putAt_next hp]; exact Nat.le_refl _
        · cases e
      · split at e
        · cases e; show h.next ≤ h.next + 1; exact Nat.le_succ _
        · cases e
    · cases e
  · cases e

theorem evalWrite_next {c : CallT} (hc : CUp c) {h h' : Heap} {o : AOp AVal} {v : AVal} (e : evalWrite c h o = some (v, h')) : h.next ≤ h'.next := by
  unfold evalWrite at e
  split at e
  · cases hp : putAt h _ _ _ with
    | none => rw [hp] at e; cases e
    | some h1 => rw [hp] at e; cases e; rw [putAt_next hp]; exact Nat.le_refl _
  · split at e
    · cases hp : putAt h _ _ _ with
      | none => rw [hp] at e; cases e
      | some h1 => rw [hp] at e; cases e; rw [putAt_next hp]; exact Nat.le_refl _
    · cases e
  · split at e
    · split at e
      · cases e; exact Nat.le_refl _
      · cases e; exact Nat.le_refl _
      · cases e
    · cases e
  · unfold appendTo at e
    split at e
    · cases e
    · split at e
      · cases e
      · exact appendCells_next e
  · split at e
    · split at e
      · exact appendCells_next e
      · cases e
    · cases e
  · split at e
    · split at e
      · cases e; exact Nat.le_refl _
      · cases e
    · split at e
      · simp only [] at e
        split at e
        · split at e
          · rename_i hp; cases e; rw [putAt_next hp]; exact Nat.le_refl _
          · cases e
        · cases e
      · cases e
    · cases e
  · split at e
    · split at e
      · cases e; exact Nat.le_refl _
      · cases e; exact Nat.le_refl _
      · cases e
    · cases e
  · split at e
    · cases e; exact Nat.le_refl _
    · cases hp : putAt h _ _ _ with
      | none => rw [hp] at e; cases e
      | some h1 => rw [hp] at e; cases e; rw [putAt_next hp]; exact Nat.le_refl _
  · cases e; exact Nat.le_refl _
  · exact hc _ _ _ _ _ e
  · cases e

theorem evalOp_next {c : CallT} (hc : CUp c) {h h' : Heap} {o : AOp AVal} {v : AVal} (e : evalOp c h o = some (v, h')) : h.next ≤ h'.next := by
  unfold evalOp at e
  split at e
  · split at e <;> cases e; exact Nat.le_refl _
  · split at e <;> cases e; exact Nat.le_refl _
  · split at e
    · cases e; simp
    · cases e
  · exact evalWrite_next hc e

theorem execOps_next {c : CallT} (hc : CUp c) : ∀ (ops : List AOper) (e : Env) (h : Heap) {e' : Env} {h' : Heap}, execOps c ops e h = some (e', h') → h.next ≤ h'.next := by
  intro ops
  induction ops with
  | nil => intro e h e' h' x; cases x; exact Nat.le_refl _
  | cons o os ih =>
    intro e h e' h' x
    simp only [execOps] at x
    split at x
    · exact ih _ _ x
    · split at x
      · rename_i v h1 hv; exact Nat.le_trans (evalOp_next hc hv) (ih _ _ x)
      · cases x

theorem execD_next {c : CallT} (hc : CUp c) (e : Env) : ∀ (ops : List DOper) (vals : Env) (h : Heap) (hs : List Heap) (ps : List Past) {e' : Env} {h' : Heap}, execD c e ops vals h hs ps = some (e', h') → h.next ≤ h'.next := by
  intro ops
  induction ops with
  | nil => intro vals h hs ps e' h' x; simp only [execD] at x; split at x <;> cases x; exact Nat.le_refl _
  | cons o os ih =>
    intro vals h hs ps e' h' x
    simp only [execD] at x
    split at x
    · split at x
      · exact ih _ _ _ _ x
      · exact ih _ _ _ _ x
    · split at x
      · split at x
        · rename_i v h1 hv
          split at x
          · exact Nat.le_trans (evalWrite_next hc hv) (ih _ _ _ _ x)
          · cases x
        · cases x
      · split at x
        · exact Nat.le_trans (by simp) (ih _ _ _ _ x)
        · cases x
      · split at x
        · exact ih _ _ _ _ x
        · cases x

theorem execS_next {c : CallT} (hc : CUp c) {a : AgainT} (ha : AUp a) : AUp (execS c a) := by
  intro x
  induction x with
  | skip => intro e h y e' h' he; cases he; exact Nat.le_refl _
  | exit i => intro e h y e' h' he; cases he; exact Nat.le_refl _
  | ret => intro e h y e' h' he; cases he; exact Nat.le_refl _
  | reg ops =>
    intro e h y e' h' he
    simp only [execS] at he
    split at he
    · rename_i e1 h1 hv; cases he; exact execOps_next hc _ _ _ hv
    · cases he
  | dreg ops =>
    intro e h y e' h' he
    simp only [execS] at he
    split at he
    · rename_i e1 h1 hv; cases he; exact execD_next hc _ _ _ _ _ _ hv
    · cases he
  | seq p q ihp ihq =>
    intro e h y e' h' he
    simp only [execS] at he
    split at he
    · rename_i e1 h1 hv; exact Nat.le_trans (ihp _ _ _ _ _ hv) (ihq _ _ _ _ _ he)
    · exact ihp _ _ _ _ _ he
  | cond v p q ihp ihq =>
    intro e h y e' h' he
    simp only [execS] at he
    split at he
    · exact ihp _ _ _ _ _ he
    · exact ihq _ _ _ _ _ he
    · cases he
  | block id p ihp =>
    intro e h y e' h' he
    simp only [execS] at he
    split at he
    · rename_i i e1 h1 hv
      split at he
      · cases he; exact ihp _ _ _ _ _ hv
      · cases he; exact ihp _ _ _ _ _ hv
    · exact ihp _ _ _ _ _ he
  | loop p ihp =>
    intro e h y e' h' he
    simp only [execS] at he
    split at he
    · rename_i e1 h1 hv; exact Nat.le_trans (ihp _ _ _ _ _ hv) (ha _ _ _ _ _ _ he)
    · exact ihp _ _ _ _ _ he

theorem run_next (fs : Tr AFunc) {own : OwnT} (ho : OwnUp own) : ∀ n, CUp (run fs own n).call ∧ AUp (run fs own n).again := by
  intro n
  induction n with
  | zero => exact ⟨fun _ _ _ _ _ x => (by cases x), fun _ _ _ _ _ _ x => (by cases x)⟩
  | succ n ih =>
    refine ⟨?_, fun c e h x e' h' he => execS_next ih.1 ih.2 c e h x e' h' he⟩
    intro f args h v h' he
    have he' : callS fs own (run fs own n) f args h = some (v, h') := he
    unfold callS at he'
    split at he'
    · rename_i g hg; exact ho f g hg _ _ _ _ he'
    · split at he'
      · cases he'
      · simp only [] at he'
        split at he'
        · rename_i e1 h1 hv
          split at he' <;> cases he'
          exact execS_next ih.1 ih.2 _ _ _ _ _ _ hv
        · rename_i e1 h1 hv
          split at he' <;> cases he'
          exact execS_next ih.1 ih.2 _ _ _ _ _ _ hv
        · cases he'

/-! ### The words -/
abbrev EnvF := Nat → AVal
abbrev ClT := FuncId → List AVal → Heap → (AVal → Heap → Prop) → Prop

def noCall : CallT := fun _ _ _ => none
/-- An operation that reads. -/
def rd (h : Heap) (o : AOp AVal) (K : AVal → Prop) : Prop := ∃ v, evalRead h o = some v ∧ K v
/-- One that lays something. -/
def al (h : Heap) (o : AOp AVal) (K : AVal → Heap → Prop) : Prop := ∃ obj mk, evalAlloc o = some (obj, mk) ∧ K (mk h.next) (h.push obj)
/-- One that writes. -/
def wr (h : Heap) (o : AOp AVal) (K : AVal → Heap → Prop) : Prop := ∃ v h', evalWrite noCall h o = some (v, h') ∧ K v h'
def isB (v : AVal) (b : Bool) : Bool := match v with
  | .bool c => c == b
  | _ => false
/-- An if. -/
def br (v : AVal) (A B : Prop) : Prop := match v with
  | .bool true => A
  | .bool false => B
  | _ => False
/-- A call of a function's value. -/
def cv (cl : ClT) (f : AVal) (args : List AVal) (h : Heap) (K : AVal → Heap → Prop) : Prop := match f with
  | .func g first captured => cl g (first ++ args ++ captured) h K
  | _ => False
/-- Under a guard. -/
def gw (v : AVal) (b : Bool) (A : (AVal → Heap → Prop) → Prop) (h : Heap) (K : AVal → Heap → Prop) : Prop := (isB v b = true → A K) ∧ (isB v b = false → K undefA h)
def gp (v : AVal) (b : Bool) (A : (AVal → Heap → List Past → Prop) → Prop) (h : Heap) (ps : List Past) (K : AVal → Heap → List Past → Prop) : Prop := (isB v b = true → A K) ∧ (isB v b = false → K undefA h ps)
def ck (hs : List Heap) (ps : List Past) (A : Prop) : Prop := checkAll hs ps = true ∧ A
/-- A loop: what holds at its head, and a number that goes down. -/
def lp (d0 : List AVal) (h : Heap) (body : List AVal → (Nat → AVal) → Heap → (List AVal → Heap → Prop) → Prop) : Prop :=
  ∃ J : Nat → List AVal → Heap → Prop, (∃ k, J k d0 h) ∧ ∀ k d z h, J k d h → body d z h (fun d' h' => ∃ k', k' < k ∧ J k' d' h')

def opd (E : EnvF) : Opd → AVal
  | .t n => E n
  | .c v => v
def upd (d : Option Nat) (v : AVal) (E : EnvF) : EnvF := match d with
  | none => E
  | some d => fun t => match Nat.beq t d with
    | true => v
    | false => E t
def opdF (E vals : EnvF) : DOpd → AVal
  | .old n => E n
  | .val i => vals i
  | .c v => v

def wpOp (cl : ClT) (h : Heap) (o : AOp AVal) (K : AVal → Heap → Prop) : Prop := match o with
  | .mov x => K x h
  | .call f args => cv cl f args h K
  | o => match o.cls with
    | .pure | .read => rd h o fun v => K v h
    | .alloc => al h o K
    | .write => wr h o K

def wpO (cl : ClT) : List AOper → EnvF → Heap → (EnvF → Heap → Prop) → Prop
  | [], E, h, Q => Q E h
  | o :: os, E, h, Q => match o.guard with
    | none => wpOp cl h (o.op.map (opd E)) fun v h => wpO cl os (upd o.dst v E) h Q
    | some (t, b) => gw (E t) b (fun K => wpOp cl h (o.op.map (opd E)) K) h fun v h => wpO cl os (upd o.dst v E) h Q

/-- One of a statement whose order is drawn; 'hs': memory ahead of each writing one. -/
def wpDop (cl : ClT) (h : Heap) (o : AOp AVal) (chk : List Nat) (ps : List Past) (K : AVal → Heap → List Past → Prop) : Prop := match o with
  | .mov x => match chk with
    | [] => K x h ps
    | _ :: _ => False
  | .call f args => cv cl f args h fun v h' => K v h' ps
  | o => match o.cls with
    | .pure | .read => rd h o fun v => K v h (match chk with
      | [] => ps
      | _ :: _ => ⟨o, v, chk⟩ :: ps)
    | .alloc => al h o fun v h' => K v h' ps
    | .write => wr h o fun v h' => K v h' ps

def wpD (cl : ClT) (E : EnvF) : List DOper → EnvF → Heap → List Heap → List Past → (EnvF → Heap → Prop) → Prop
  | [], vals, h, hs, ps, Q => ck (hs ++ [h]) ps (Q vals h)
  | o :: os, vals, h, hs, ps, Q => match o.guard with
    | none => wpDop cl h (o.op.map (opdF E vals)) o.chk ps fun v h' ps' => wpD cl E os (upd (some o.idx) v vals) h' (match o.op.cls with
      | .write => hs ++ [h]
      | _ => hs) ps' Q
    | some (x, b) => gp (opdF E vals x) b (fun K => wpDop cl h (o.op.map (opdF E vals)) o.chk ps K) h ps fun v h' ps' => wpD cl E os (upd (some o.idx) v vals) h' (match o.op.cls with
      | .write => hs ++ [h]
      | _ => hs) ps' Q

def putAllF (vals : EnvF) : List DOper → EnvF → EnvF
  | [], E => E
  | o :: os, E => putAllF vals os (upd o.dst (vals o.idx) E)

def idxF : List Nat → Nat → Nat → Option Nat
  | [], _, _ => none
  | c :: cs, t, i => match Nat.beq c t with
    | true => some i
    | false => idxF cs t (i + 1)
def memF : List Nat → Nat → Bool
  | [], _ => false
  | c :: cs, t => match Nat.beq c t with
    | true => true
    | false => memF cs t
def selF (ws : List Nat) : List Nat → List Nat
  | [] => []
  | c :: cs => match memF ws c with
    | true => c :: selF ws cs
    | false => selF ws cs
def mapF (E : EnvF) : List Nat → List AVal
  | [] => []
  | c :: cs => E c :: mapF E cs
def over (cs : List Nat) (d : List AVal) (ws : List Nat) (z : Nat → AVal) (E : EnvF) : EnvF := fun t => match idxF cs t 0 with
  | some i => d.getD i undefA
  | none => match memF ws t with
    | true => z t
    | false => E t

/-- 'vs': the temporaries that a loop may carry on. -/
def wpS (cl : ClT) (vs : List Nat) : ACode → EnvF → Heap → (AExit → EnvF → Heap → Prop) → Prop
  | .skip, E, h, Q => Q .normal E h
  | .reg ops, E, h, Q => wpO cl ops E h (Q .normal)
  | .dreg ops, E, h, Q => wpD cl E ops (fun _ => undefA) h [] [] fun vals h => Q .normal (putAllF vals ops E) h
  | .seq a b, E, h, Q => wpS cl vs a E h fun x E h => match x with
    | .normal => wpS cl vs b E h Q
    | x => Q x E h
  | .cond c a b, E, h, Q => br (opd E c) (wpS cl vs a E h Q) (wpS cl vs b E h Q)
  | .block id a, E, h, Q => wpS cl vs a E h fun x E h => match x with
    | .exit i => match Nat.beq i id with
      | true => Q .normal E h
      | false => Q (.exit i) E h
    | x => Q x E h
  | .loop a, E, h, Q => lp (mapF E (selF (written a) vs)) h fun d z h again => wpS cl vs a (over (selF (written a) vs) d (written a) z E) h fun x E h => match x with
    | .normal => again (mapF E (selF (written a) vs)) h
    | x => Q x E h
  | .exit id, E, h, Q => Q (.exit id) E h
  | .ret, E, h, Q => Q .ret E h

def wpRes (E : EnvF) (h : Heap) : AResult → (AVal → Prop) → Prop
  | .tmp t, K => K (E t)
  | .cell t, K => rd h (.load1 (E t)) K
  | .cells t n, K => rd h (.loadN n (E t)) K
def wpRs (E : EnvF) (h : Heap) : List AResult → (List AVal → Prop) → Prop
  | [], K => K []
  | r :: rs, K => wpRes E h r fun v => wpRs E h rs fun vs => K (v :: vs)
def envOf (args : List AVal) : EnvF := fun t => args.getD t undefA

def wpF (cl : ClT) (vs : List Nat) (fn : AFunc) (args : List AVal) (h : Heap) (Q : AVal → Heap → Prop) : Prop :=
  wpS cl vs fn.body (envOf args) h fun x E h => match x with
    | .exit _ => False
    | _ => wpRs E h fn.results fun vs => Q (oneOrTuple vs) h
/-- Of a function that is turned on the way. -/
def wpG (cl : ClT) (vs : List Nat) (fn : Option AFunc) (args : List AVal) (h : Heap) (Q : AVal → Heap → Prop) : Prop := match fn with
  | some fn => wpF cl vs fn args h Q
  | none => False

/-- A call comes to something of which K holds. -/
def WC (fs : Tr AFunc) (own : OwnT) : ClT := fun f args h K => ∃ n v h', (run fs own n).call f args h = some (v, h') ∧ K v h'

theorem WC.mono {fs : Tr AFunc} {own : OwnT} {f : FuncId} {args : List AVal} {h : Heap} {K L : AVal → Heap → Prop} (hw : WC fs own f args h K) (hk : ∀ v h', K v h' → L v h') : WC fs own f args h L := by
  obtain ⟨n, v, h', e, k⟩ := hw
  exact ⟨n, v, h', e, hk _ _ k⟩

/-! ### It is right -/
section
variable (fs : Tr AFunc) (own : OwnT) (ho : OwnUp own)

theorem opd_look {e : Env} {E : EnvF} (he : ∀ t, env e t = E t) : look e = opd E := by
  funext o
  cases o with
  | t n => exact he n
  | c v => rfl

theorem upd_put {e : Env} {E : EnvF} (he : ∀ t, env e t = E t) (d : Option Nat) (v : AVal) (t : Nat) : env (put d v e) t = upd d v E t := by
  cases d with
  | none => exact he t
  | some d =>
    simp only [put, upd]
    rw [env_set]
    by_cases h : t = d
    · have : Nat.beq t d = true := by simpa using h
      simp [h]
    · have : Nat.beq t d = false := by rw [Bool.eq_false_iff]; intro x; exact h (Nat.eq_of_beq_eq_true x)
      simp [h, this, he]

theorem wanted_isB {e : Env} {E : EnvF} (he : ∀ t, env e t = E t) (t : Nat) (b : Bool) : wantedA e (some (t, b)) = isB (E t) b := by
  have h1 : env e t = match e.get t with
    | some v => v
    | none => undefA := rfl
  have h2 : wantedA e (some (t, b)) = match e.get t with
    | some (.bool c) => c == b
    | _ => false := rfl
  rw [← he t, h1, h2]
  cases e.get t with
  | none => rfl
  | some v => cases v <;> rfl

theorem wanted_isBD {e vals : Env} {E V : EnvF} (x : DOpd) (b : Bool) (hx : lookD e vals x = opdF E V x) : wantedD e vals (some (x, b)) = isB (opdF E V x) b := by
  have h2 : wantedD e vals (some (x, b)) = match lookD e vals x with
    | .bool c => c == b
    | _ => false := rfl
  rw [← hx, h2]
  cases lookD e vals x <;> rfl

theorem evalWrite_noCall (c : CallT) (h : Heap) (o : AOp AVal) {r : AVal × Heap} (e : evalWrite noCall h o = some r) : evalWrite c h o = some r :=
  evalWrite_le (fun _ _ _ _ x => by cases x) h o e

theorem wpOp_sound {h : Heap} {o : AOp AVal} {K : AVal → Heap → Prop} (w : wpOp (WC fs own) h o K) : ∃ n v h', evalOp (run fs own n).call h o = some (v, h') ∧ K v h' := by
  unfold wpOp at w
  split at w
  · rename_i x; exact ⟨0, x, h, rfl, w⟩
  · rename_i f args
    unfold cv at w
    split at w
    · obtain ⟨n, v, h', e, k⟩ := w; exact ⟨n, v, h', e, k⟩
    · cases w
  · split at w
    · rename_i hcl; obtain ⟨v, e, k⟩ := w
      exact ⟨0, v, h, by unfold evalOp; rw [hcl]; simp only [e], k⟩
    · rename_i hcl; obtain ⟨v, e, k⟩ := w
      exact ⟨0, v, h, by unfold evalOp; rw [hcl]; simp only [e], k⟩
    · rename_i hcl; obtain ⟨obj, mk, e, k⟩ := w
      exact ⟨0, _, _, by unfold evalOp; rw [hcl]; simp only [e], k⟩
    · rename_i hcl; obtain ⟨v, h', e, k⟩ := w
      exact ⟨0, v, h', by unfold evalOp; rw [hcl]; exact evalWrite_noCall _ _ _ e, k⟩

theorem wpO_sound : ∀ (ops : List AOper) (E : EnvF) (h : Heap) (Q : EnvF → Heap → Prop), wpO (WC fs own) ops E h Q → ∀ e, (∀ t, env e t = E t) → ∃ n e' h', execOps (run fs own n).call ops e h = some (e', h') ∧ Q (env e') h' := by
  intro ops
  induction ops with
  | nil => intro E h Q w e he; exact ⟨0, e, h, rfl, by rw [show env e = E from funext he]; exact w⟩
  | cons o os ih =>
    intro E h Q w e he
    have go : ∀ v h1, (wpO (WC fs own) os (upd o.dst v E) h1 Q) → wantedA e o.guard = true → (∃ n, evalOp (run fs own n).call h (o.op.map (look e)) = some (v, h1)) → ∃ n e' h', execOps (run fs own n).call (o :: os) e h = some (e', h') ∧ Q (env e') h' := by
      intro v h1 hw hg ⟨n, hv⟩
      obtain ⟨m, e', h', hx, hq⟩ := ih _ _ _ hw (put o.dst v e) (upd_put he o.dst v)
      refine ⟨max n m, e', h', ?_, hq⟩
      simp only [execOps, hg]
      rw [evalOp_le (run_mono fs own (Nat.le_max_left n m)).1 _ _ hv]
      exact execOps_le (run_mono fs own (Nat.le_max_right n m)).1 _ _ _ hx
    simp only [wpO] at w
    split at w
    · rename_i hg
      obtain ⟨n, v, h1, hv, k⟩ := wpOp_sound fs own w
      exact go v h1 k (by rw [hg]; rfl) ⟨n, by rw [opd_look he]; exact hv⟩
    · rename_i t b hg
      obtain ⟨w1, w2⟩ := w
      cases hb : isB (E t) b with
      | true =>
        obtain ⟨n, v, h1, hv, k⟩ := wpOp_sound fs own (w1 hb)
        exact go v h1 k (by rw [hg, wanted_isB he]; exact hb) ⟨n, by rw [opd_look he]; exact hv⟩
      | false =>
        obtain ⟨m, e', h', hx, hq⟩ := ih _ _ _ (w2 hb) (put o.dst undefA e) (upd_put he o.dst undefA)
        refine ⟨m, e', h', ?_, hq⟩
        simp only [execOps]
        rw [hg, wanted_isB he, hb]
        exact hx

theorem AOp.map_cls {α β : Type} (f : α → β) (o : AOp α) : (o.map f).cls = o.cls := by
  cases o <;> first | rfl | (rename_i c x; cases c <;> rfl) | (rename_i k x; cases k <;> rfl)


theorem upd_set {e : Env} {E : EnvF} (he : ∀ t, env e t = E t) (d : Nat) (v : AVal) (t : Nat) : env (e.set d v) t = upd (some d) v E t := upd_put he (some d) v t

theorem lookD_opdF {e vals : Env} {E V : EnvF} (he : ∀ t, env e t = E t) (hv : ∀ t, env vals t = V t) : lookD e vals = opdF E V := by
  funext o
  cases o with
  | old n => exact he n
  | val i => exact hv i
  | c v => rfl

include ho in
theorem wpD_sound : ∀ (ops : List DOper) (E V : EnvF) (h : Heap) (hs : List Heap) (ps : List Past) (Q : EnvF → Heap → Prop), wpD (WC fs own) E ops V h hs ps Q → ∀ e vals, (∀ t, env e t = E t) → (∀ t, env vals t = V t) →
    ∃ n vals' h', execD (run fs own n).call e ops vals h hs ps = some (vals', h') ∧ Q (env vals') h' := by
  intro ops
  induction ops with
  | nil =>
    intro E V h hs ps Q w e vals he hv
    obtain ⟨w1, w2⟩ := w
    refine ⟨0, vals, h, ?_, by rw [show env vals = V from funext hv]; exact w2⟩
    simp only [execD, w1]
  | cons o os ih =>
    intro E V h hs ps Q w e vals he hv
    have hmap : o.op.map (lookD e vals) = o.op.map (opdF E V) := by rw [lookD_opdF he hv]
    -- the operation is done
    have go : wpDop (WC fs own) h (o.op.map (opdF E V)) o.chk ps (fun v h' ps' => wpD (WC fs own) E os (upd (some o.idx) v V) h' (match o.op.cls with
      | .write => hs ++ [h]
      | _ => hs) ps' Q) → wantedD e vals o.guard = true → ∃ n vals' h', execD (run fs own n).call e (o :: os) vals h hs ps = some (vals', h') ∧ Q (env vals') h' := by
      intro w hg
      have hcls := AOp.map_cls (opdF E V) o.op
      have rdcase : ∀ v, evalRead h (o.op.map (opdF E V)) = some v → (o.op.cls = .read ∨ o.op.cls = .pure) → wpD (WC fs own) E os (upd (some o.idx) v V) h hs (match o.chk with
          | [] => ps
          | _ :: _ => ⟨o.op.map (opdF E V), v, o.chk⟩ :: ps) Q → ∃ n vals' h', execD (run fs own n).call e (o :: os) vals h hs ps = some (vals', h') ∧ Q (env vals') h' := by
        intro v hr hc k
        obtain ⟨n, vals', h', hx, hq⟩ := ih _ _ _ _ _ _ k e (vals.set o.idx v) he (upd_set hv _ _)
        refine ⟨n, vals', h', ?_, hq⟩
        simp only [execD, hg]
        rw [hmap]
        rcases hc with hc | hc <;> (simp only [hc, hr]; exact hx)
      have alcase : ∀ obj mk, evalAlloc (o.op.map (opdF E V)) = some (obj, mk) → o.op.cls = .alloc → wpD (WC fs own) E os (upd (some o.idx) (mk h.next) V) (h.push obj) hs ps Q → ∃ n vals' h', execD (run fs own n).call e (o :: os) vals h hs ps = some (vals', h') ∧ Q (env vals') h' := by
        intro obj mk hr hc k
        obtain ⟨n, vals', h', hx, hq⟩ := ih _ _ _ _ _ _ k e (vals.set o.idx (mk h.next)) he (upd_set hv _ _)
        refine ⟨n, vals', h', ?_, hq⟩
        simp only [execD, hg]
        rw [hmap]
        simp only [hc, hr]
        exact hx
      have wrcase : ∀ n v h1, evalWrite (run fs own n).call h (o.op.map (opdF E V)) = some (v, h1) → o.op.cls = .write → wpD (WC fs own) E os (upd (some o.idx) v V) h1 (hs ++ [h]) ps Q → ∃ n vals' h', execD (run fs own n).call e (o :: os) vals h hs ps = some (vals', h') ∧ Q (env vals') h' := by
        intro n v h1 hr hc k
        obtain ⟨m, vals', h', hx, hq⟩ := ih _ _ _ _ _ _ k e (vals.set o.idx v) he (upd_set hv _ _)
        refine ⟨max n m, vals', h', ?_, hq⟩
        have hle : Nat.ble h.next h1.next = true := by simpa using evalWrite_next (run_next fs ho n).1 hr
        simp only [execD, hg]
        rw [hmap]
        simp only [hc]
        rw [evalWrite_le (run_mono fs own (Nat.le_max_left n m)).1 _ _ hr]
        simp only [hle]
        exact execD_le (run_mono fs own (Nat.le_max_right n m)).1 _ _ _ _ _ _ hx
      unfold wpDop at w
      split at w
      · rename_i x hx
        split at w
        · rename_i hchk
          have hc : o.op.cls = .pure := by rw [← hcls, hx]; rfl
          refine rdcase x (by rw [hx]; rfl) (.inr hc) ?_
          rw [hchk]
          simpa only [hc] using w
        · cases w
      · rename_i f args hx
        unfold cv at w
        split at w
        · obtain ⟨n, v, h', hr, k⟩ := w
          have hc : o.op.cls = .write := by rw [← hcls, hx]; rfl
          refine wrcase n v h' (by rw [hx]; exact hr) hc ?_
          simpa only [hc] using k
        · cases w
      · split at w
        · rename_i hcl
          rw [hcls] at hcl
          obtain ⟨v, hr, k⟩ := w
          refine rdcase v hr (.inr hcl) ?_
          simpa only [hcl] using k
        · rename_i hcl
          rw [hcls] at hcl
          obtain ⟨v, hr, k⟩ := w
          refine rdcase v hr (.inl hcl) ?_
          simpa only [hcl] using k
        · rename_i hcl
          rw [hcls] at hcl
          obtain ⟨obj, mk, hr, k⟩ := w
          refine alcase obj mk hr hcl ?_
          simpa only [hcl] using k
        · rename_i hcl
          rw [hcls] at hcl
          obtain ⟨v, h', hr, k⟩ := w
          refine wrcase 0 v h' (evalWrite_noCall _ _ _ hr) hcl ?_
          simpa only [hcl] using k
    simp only [wpD] at w
    split at w
    · rename_i hg
      exact go w (by rw [hg]; rfl)
    · rename_i x b hg
      obtain ⟨w1, w2⟩ := w
      have hxv : lookD e vals x = opdF E V x := by rw [lookD_opdF he hv]
      cases hb : isB (opdF E V x) b with
      | true => exact go (w1 hb) (by rw [hg, wanted_isBD x b hxv]; exact hb)
      | false =>
        obtain ⟨n, vals', h', hx, hq⟩ := ih _ _ _ _ _ _ (w2 hb) e (vals.set o.idx undefA) he (upd_set hv _ _)
        refine ⟨n, vals', h', ?_, hq⟩
        simp only [execD]
        rw [hg, wanted_isBD x b hxv, hb]
        simp only []
        cases hc : o.op.cls <;> (simp only [hc] at hx; simp only []; exact hx)

theorem putAllF_env {vals : Env} {V : EnvF} (hv : ∀ t, env vals t = V t) : ∀ (ops : List DOper) (e : Env) (E : EnvF), (∀ t, env e t = E t) → ∀ t, env (putAll vals ops e) t = putAllF V ops E t := by
  intro ops
  induction ops with
  | nil => intro e E he t; exact he t
  | cons o os ih =>
    intro e E he t
    simp only [putAll, putAllF]
    refine ih _ _ (fun u => ?_) t
    rw [show look vals (.t o.idx) = V o.idx from hv _]
    exact upd_put he _ _ u

theorem idxF_some : ∀ (cs : List Nat) (t i j : Nat), idxF cs t i = some j → ∃ m, j = i + m ∧ cs[m]? = some t := by
  intro cs
  induction cs with
  | nil => intro t i j h; cases h
  | cons c cs ih =>
    intro t i j h
    simp only [idxF] at h
    split at h
    · rename_i hb
      cases h
      exact ⟨0, rfl, by rw [Nat.eq_of_beq_eq_true hb]; rfl⟩
    · obtain ⟨m, rfl, hm⟩ := ih _ _ _ h
      exact ⟨m + 1, by omega, by simpa using hm⟩

theorem mapF_get (E : EnvF) : ∀ (cs : List Nat) (m t : Nat), cs[m]? = some t → (mapF E cs).getD m undefA = E t := by
  intro cs
  induction cs with
  | nil => intro m t h; simp at h
  | cons c cs ih =>
    intro m t h
    cases m with
    | zero => simp at h; subst h; rfl
    | succ m => simp at h; simpa [mapF] using ih m t h

theorem memF_iff : ∀ (cs : List Nat) (t : Nat), memF cs t = true ↔ t ∈ cs := by
  intro cs
  induction cs with
  | nil => intro t; simp [memF]
  | cons c cs ih =>
    intro t
    simp only [memF]
    split
    · rename_i hb
      have := Nat.eq_of_beq_eq_true hb
      simp [this]
    · rename_i hb
      have h1 : c ≠ t := fun x => by rw [x] at hb; simp at hb
      rw [ih]
      simp [Ne.symm h1]

theorem selF_mem (ws : List Nat) : ∀ (cs : List Nat) (t : Nat), t ∈ selF ws cs → t ∈ ws := by
  intro cs
  induction cs with
  | nil => intro t h; cases h
  | cons c cs ih =>
    intro t h
    simp only [selF] at h
    split at h
    · rename_i hb
      rcases List.mem_cons.1 h with rfl | h
      · exact (memF_iff _ _).1 hb
      · exact ih t h
    · exact ih t h

/-- The temporaries at a loop's head. -/
theorem over_env {cs ws : List Nat} {e : Env} {E : EnvF} (hE : ∀ t, t ∉ ws → env e t = E t) (t : Nat) : env e t = over cs (mapF (env e) cs) ws (env e) E t := by
  unfold over
  split
  · rename_i i hi
    obtain ⟨m, rfl, hm⟩ := idxF_some _ _ _ _ hi
    rw [Nat.zero_add, mapF_get _ _ _ _ hm]
  · split
    · rfl
    · rename_i hb
      refine hE t fun x => ?_
      rw [(memF_iff _ _).2 x] at hb
      cases hb

include ho in
theorem wpS_sound (vs : List Nat) : ∀ (c : ACode) (E : EnvF) (h : Heap) (Q : AExit → EnvF → Heap → Prop), wpS (WC fs own) vs c E h Q → ∀ e, (∀ t, env e t = E t) →
    ∃ n x e' h', execS (run fs own n).call (run fs own n).again c e h = some (x, e', h') ∧ Q x (env e') h' := by
  intro c
  induction c with
  | skip => intro E h Q w e he; exact ⟨0, .normal, e, h, rfl, by rw [show env e = E from funext he]; exact w⟩
  | exit id => intro E h Q w e he; exact ⟨0, .exit id, e, h, rfl, by rw [show env e = E from funext he]; exact w⟩
  | ret => intro E h Q w e he; exact ⟨0, .ret, e, h, rfl, by rw [show env e = E from funext he]; exact w⟩
  | reg ops =>
    intro E h Q w e he
    obtain ⟨n, e', h', hx, hq⟩ := wpO_sound fs own ops E h _ w e he
    exact ⟨n, .normal, e', h', by simp only [execS, hx], hq⟩
  | dreg ops =>
    intro E h Q w e he
    obtain ⟨n, vals', h', hx, hq⟩ := wpD_sound fs own ho ops E (fun _ => undefA) h [] [] _ w e .leaf he (fun t => by show look .leaf (.t t) = _; simp [look, Tr.get_leaf])
    refine ⟨n, .normal, putAll vals' ops e, h', by simp only [execS, hx], ?_⟩
    rw [show env (putAll vals' ops e) = putAllF (env vals') ops E from funext (putAllF_env (fun _ => rfl) ops e E he)]
    exact hq
  | seq a b iha ihb =>
    intro E h Q w e he
    obtain ⟨n, x, e1, h1, hx, hq⟩ := iha E h _ w e he
    cases x with
    | normal =>
      obtain ⟨m, y, e2, h2, hy, hq2⟩ := ihb _ _ _ hq e1 (fun _ => rfl)
      refine ⟨max n m, y, e2, h2, ?_, hq2⟩
      have k1 := run_mono fs own (Nat.le_max_left n m)
      have k2 := run_mono fs own (Nat.le_max_right n m)
      simp only [execS]
      rw [execS_le k1.1 k1.2 _ _ _ hx]
      exact execS_le k2.1 k2.2 _ _ _ hy
    | exit i => exact ⟨n, .exit i, e1, h1, by simp only [execS, hx], hq⟩
    | ret => exact ⟨n, .ret, e1, h1, by simp only [execS, hx], hq⟩
  | cond v a b iha ihb =>
    intro E h Q w e he
    simp only [wpS] at w
    rw [← opd_look he] at w
    unfold br at w
    split at w
    · rename_i hv
      obtain ⟨n, x, e1, h1, hx, hq⟩ := iha E h _ w e he
      exact ⟨n, x, e1, h1, by simp only [execS, hv, hx], hq⟩
    · rename_i hv
      obtain ⟨n, x, e1, h1, hx, hq⟩ := ihb E h _ w e he
      exact ⟨n, x, e1, h1, by simp only [execS, hv, hx], hq⟩
    · cases w
  | block id a iha =>
    intro E h Q w e he
    obtain ⟨n, x, e1, h1, hx, hq⟩ := iha E h _ w e he
    cases x with
    | normal => exact ⟨n, .normal, e1, h1, by simp only [execS, hx], hq⟩
    | ret => exact ⟨n, .ret, e1, h1, by simp only [execS, hx], hq⟩
    | exit i =>
      simp only [] at hq
      split at hq
      · rename_i hb; exact ⟨n, .normal, e1, h1, by simp only [execS, hx, hb], hq⟩
      · rename_i hb; exact ⟨n, .exit i, e1, h1, by simp only [execS, hx, hb], hq⟩
  | loop a iha =>
    intro E h Q w e he
    obtain ⟨J, ⟨k0, hk0⟩, hbody⟩ := w
    have main : ∀ k e h, J k (mapF (env e) (selF (written a) vs)) h → (∀ t, t ∉ written a → env e t = E t) → ∃ n x e' h', execS (run fs own n).call (run fs own n).again (.loop a) e h = some (x, e', h') ∧ Q x (env e') h' := by
      intro k
      induction k using Nat.strongRecOn with
      | _ k ih =>
        intro e h hj hE
        obtain ⟨n, x, e1, h1, hx, hq⟩ := iha _ _ _ (hbody k _ (env e) h hj) e (over_env hE)
        cases x with
        | normal =>
          obtain ⟨k', hk', hj'⟩ := hq
          have hw : ∀ t, t ∉ written a → env e1 t = env e t := execS_written (run_written fs own n) a e h _ e1 h1 hx
          obtain ⟨m, y, e2, h2, hy, hq2⟩ := ih k' hk' e1 h1 hj' (fun t ht => (hw t ht).trans (hE t ht))
          refine ⟨max n (m + 1), y, e2, h2, ?_, hq2⟩
          have k1 := run_mono fs own (Nat.le_max_left n (m + 1))
          have k2 := run_mono fs own (Nat.le_max_right n (m + 1))
          simp only [execS]
          rw [execS_le k1.1 k1.2 _ _ _ hx]
          exact k2.2 _ _ _ _ hy
        | exit i => exact ⟨n, .exit i, e1, h1, by simp only [execS, hx], hq⟩
        | ret => exact ⟨n, .ret, e1, h1, by simp only [execS, hx], hq⟩
    have e1 : mapF E (selF (written a) vs) = mapF (env e) (selF (written a) vs) := by rw [show env e = E from funext he]
    exact main k0 e h (by rw [← e1]; exact hk0) (fun t _ => he t)

theorem wpRs_sound (e : Env) (h : Heap) : ∀ (rs : List AResult) (K : List AVal → Prop), wpRs (env e) h rs K → ∃ vs, resultsOf e h rs = some vs ∧ K vs := by
  intro rs
  induction rs with
  | nil => intro K w; exact ⟨[], rfl, w⟩
  | cons r rs ih =>
    intro K w
    simp only [wpRs] at w
    have : ∃ v, resultOf e h r = some v ∧ wpRs (env e) h rs fun vs => K (v :: vs) := by
      cases r with
      | tmp t => exact ⟨_, rfl, w⟩
      | cell t => obtain ⟨v, e1, k⟩ := w; exact ⟨v, e1, k⟩
      | cells t n => obtain ⟨v, e1, k⟩ := w; exact ⟨v, e1, k⟩
    obtain ⟨v, hv, k⟩ := this
    obtain ⟨vs, h1, h2⟩ := ih _ k
    exact ⟨v :: vs, by simp only [resultsOf, hv, h1], h2⟩

theorem enter_env : ∀ (args : List AVal) (t : Nat), env (enter args 0 .leaf) t = envOf args t := by
  have : ∀ (args : List AVal) (i : Nat) (e : Env) (t : Nat), env (enter args i e) t = if i ≤ t ∧ t < i + args.length then args.getD (t - i) undefA else env e t := by
    intro args
    induction args with
    | nil => intro i e t; rw [if_neg (by rw [List.length_nil]; omega)]; rfl
    | cons a args ih =>
      intro i e t
      simp only [enter]
      rw [ih]
      by_cases h1 : i + 1 ≤ t ∧ t < i + 1 + args.length
      · rw [if_pos h1, if_pos (by simp; omega)]
        rw [show t - i = (t - (i + 1)) + 1 from by omega]
        simp
      · rw [if_neg h1, env_set]
        by_cases h2 : t = i
        · subst h2; rw [if_pos rfl, if_pos (by simp)]; simp
        · rw [if_neg h2, if_neg (by simp; omega)]
  intro args t
  rw [this]
  unfold envOf
  by_cases h : t < args.length
  · rw [if_pos ⟨by omega, by omega⟩]; simp
  · rw [if_neg (by omega)]
    show look .leaf (.t t) = _
    simp [look, Tr.get_leaf, List.getD, List.getElem?_eq_none (Nat.le_of_not_lt h)]

include ho in
/-- What the words say of a function's code holds of its call. -/
theorem wpF_sound (vs : List Nat) {f : FuncId} {fn : AFunc} (hown : own f = none) (hget : fs.get f = some fn) {args : List AVal} {h : Heap} {Q : AVal → Heap → Prop} (w : wpF (WC fs own) vs fn args h Q) : WC fs own f args h Q := by
  obtain ⟨n, x, e', h', hx, hq⟩ := wpS_sound fs own ho vs fn.body _ h _ w (enter args 0 .leaf) (enter_env args)
  have : wpRs (env e') h' fn.results (fun vs => Q (oneOrTuple vs) h') ∧ (x = .normal ∨ x = .ret) := by
    cases x with
    | normal => exact ⟨hq, .inl rfl⟩
    | ret => exact ⟨hq, .inr rfl⟩
    | exit i => cases hq
  obtain ⟨hr, hxx⟩ := this
  obtain ⟨us, h1, h2⟩ := wpRs_sound e' h' fn.results _ hr
  refine ⟨n + 1, oneOrTuple us, h', ?_, h2⟩
  show callS fs own (run fs own n) f args h = _
  unfold callS
  rw [hown]
  simp only [hget]
  rw [hx]
  rcases hxx with rfl | rfl <;> simp only [h1]

theorem wc_own {f : FuncId} {g : List AVal → Heap → Option (AVal × Heap)} (hown : own f = some g) {args : List AVal} {h h' : Heap} {v : AVal} {Q : AVal → Heap → Prop} (e : g args h = some (v, h')) (q : Q v h') : WC fs own f args h Q :=
  ⟨1, v, h', by show callS fs own _ f args h = _; unfold callS; rw [hown]; exact e, q⟩

end
end Go.AM
