import Derived.Test.YtpjdgiiphohjeaaGreatDoorAm20
/-! A drawn statement: whole. -/
namespace Go.AM

theorem count_set {l : List Bool} : ∀ {i : Nat}, l[i]? = some false → (l.set i true).count false + 1 = l.count false := by
  induction l with
  | nil => intro i h; simp at h
  | cons x l ih =>
    intro i h
    cases i with
    | zero => simp at h; subst h; simp
    | succ i =>
      have := ih (by simpa using h)
      cases x <;> simp [List.count_cons] <;> omega

theorem mem_ready' {ops : Array Oper} {listed : Array Bool} {i : Nat} (h : i ∈ Region.ready .any ops listed) :
    i < ops.size ∧ listed.getD i true = false ∧ ∃ o, ops[i]? = some o ∧ ∀ e ∈ o.after.toList, Region.binds .any e = true → listed.getD e.on false = true := by
  unfold Region.ready at h
  rw [List.mem_filter, List.mem_range, Bool.and_eq_true] at h
  obtain ⟨h1, h2, h3⟩ := h
  refine ⟨h1, by simpa using h2, ?_⟩
  cases ho : ops[i]? with
  | none => rw [Array.getElem?_eq_none_iff] at ho; omega
  | some o =>
    rw [ho] at h3
    simp only [Option.map_some, Option.getD_some, Array.all_eq_true_iff_forall_mem] at h3
    refine ⟨o, rfl, fun e he hb => ?_⟩
    have := h3 e (by simpa using he)
    rw [hb] at this
    simpa using this

theorem ready_mem {ops : Array Oper} {listed : Array Bool} {i : Nat} {o : Oper} (h1 : i < ops.size) (h2 : listed.getD i true = false) (ho : ops[i]? = some o) (h3 : ∀ e ∈ o.after.toList, Region.binds .any e = true → listed.getD e.on false = true) : i ∈ Region.ready .any ops listed := by
  unfold Region.ready
  rw [List.mem_filter, List.mem_range, Bool.and_eq_true]
  refine ⟨h1, by simp [h2], ?_⟩
  rw [ho]
  simp only [Option.map_some, Option.getD_some, Array.all_eq_true_iff_forall_mem]
  intro e he
  cases hb : Region.binds .any e with
  | false => rfl
  | true => simpa using h3 e (by simpa using he) hb

theorem putAll_spec (vals : Env) (t : Nat) : ∀ (ds : List DOper) (e : Env), (∃ d ∈ ds, d.dst = some t ∧ look (putAll vals ds e) (.t t) = look vals (.t d.idx)) ∨ ((∀ d ∈ ds, d.dst ≠ some t) ∧ look (putAll vals ds e) (.t t) = look e (.t t)) := by
  intro ds
  induction ds with
  | nil => intro e; exact .inr ⟨by simp, rfl⟩
  | cons d ds ih =>
    intro e
    simp only [putAll]
    rcases ih (put d.dst (look vals (.t d.idx)) e) with ⟨d', h1, h2, h3⟩ | ⟨h1, h2⟩
    · exact .inl ⟨d', by simp [h1], h2, h3⟩
    · rw [look_put] at h2
      by_cases hd : d.dst = some t
      · rw [if_pos hd] at h2
        exact .inl ⟨d, by simp, hd, h2⟩
      · rw [if_neg hd] at h2
        exact .inr ⟨by simpa [hd] using h1, h2⟩

section
variable {P : Program} {tb : Types} (T : TbOk P tb) {call : FuncId → List AVal → Heap → Option (AVal × Heap)} (C : CallSound P call)
  {nt : Nat} {ops : Array Oper} {ds : List DOper} (D : DOk tb nt ops (ancFrom ops.toList 0 .leaf) ds) {e vF : Env} {h0 : Heap} {Hs : List Heap} (t : DTr call e vF ds h0 Hs)
  (chk : ∀ d ∈ ds, wantedD e vF d.guard = true → (d.op.cls = .pure ∨ d.op.cls = .read) → checkOne Hs ⟨d.rop e vF, look vF (.t d.idx), d.chk⟩ d.chk = true)
  {φ0 : Map} {w0 : World}

include D in
/-- Where none may come, all have come. -/
theorem ready_nil {listed : Array Bool} (hsz : listed.size = ops.size) (h : Region.ready .any ops listed = []) : ∀ d ∈ ds, listed.getD d.idx false = true := by
  have key : ∀ (suf pre : List DOper), ds = pre ++ suf → (∀ q ∈ pre, listed.getD q.idx false = true) → ∀ d ∈ suf, listed.getD d.idx false = true := by
    intro suf
    induction suf with
    | nil => intro pre _ _ d hd; cases hd
    | cons x suf ih =>
      intro pre hds' ih'
      have hx : listed.getD x.idx false = true := by
        have hd : x ∈ ds := by rw [hds']; simp
        obtain ⟨o, d0, h1, _, _⟩ := D.of x hd
        have hlt : x.idx < ops.size := (Array.getElem?_eq_some_iff.1 h1).1
        cases hl : listed.getD x.idx false with
        | true => rfl
        | false =>
          exfalso
          have hl' : listed.getD x.idx true = false := by
            have hlt' : x.idx < listed.size := by omega
            simp only [Array.getD, hlt', dif_pos] at hl ⊢
            exact hl
          have hg := D.good
          rw [hds'] at hg
          obtain ⟨g1, _⟩ := hg.split
          have : x.idx ∈ Region.ready .any ops listed := ready_mem hlt hl' h1 fun ed hed hb => by
            have hbit := ancFrom_edge ops.toList 0 .leaf x.idx o (by simpa using h1) ed hed hb
            rw [Nat.zero_add] at hbit
            rcases g1 ed.on hbit with h2 | ⟨q, hq, hqe⟩
            · simp at h2
            · rw [← hqe]; exact ih' q hq
          rw [h] at this; cases this
      intro d hd
      rcases List.mem_cons.1 hd with rfl | hd
      · exact hx
      · refine ih (pre ++ [x]) (by rw [hds']; simp) ?_ d hd
        intro q hq
        rcases List.mem_append.1 hq with hq | hq
        · exact ih' q hq
        · have : q = x := by simpa using hq
          rw [this]; exact hx
  exact key ds [] (by simp) (by simp)

include T C D t chk in
theorem any_sound {hF : Heap} (hlast : Hs.getLast? = some hF) {Q : Exit → Act → World → Prop}
    (hQ : ∀ a' w' φ', ERel φ' nt (putAll vF ds e) a' → HRel φ' hF w' → Ext φ0 h0 w0 φ' hF w' → Q .normal a' w') :
    ∀ (fuel : Nat) (listed : Array Bool) (a : Act) (w : World) (m : Nat) (H : Heap) (φ : Map), listed.size = ops.size → listed.toList.count false ≤ fuel →
      Inv P nt ops ds call e vF h0 Hs φ0 w0 (fun j => listed.getD j false) m H φ a w → wpAny P .any ops Q fuel listed a w := by
  have done : ∀ (listed : Array Bool) (a : Act) (w : World) (m : Nat) (H : Heap) (φ : Map), (∀ d ∈ ds, listed.getD d.idx false = true) → Inv P nt ops ds call e vF h0 Hs φ0 w0 (fun j => listed.getD j false) m H φ a w → Q .normal a w := by
    intro listed a w m H φ hall I
    have hlen := t.length
    have hmlt : m < Hs.length := (List.getElem?_eq_some_iff.1 I.heap).1
    have hm : m = cntW ds := by
      rcases Nat.lt_or_ge m (cntW ds) with h | h
      · exfalso
        obtain ⟨p1, q, s1, e1, e2, e3, _⟩ := nth_write ds m h
        have := (I.count p1 q s1 e1 e2).1 (hall q (by rw [e1]; simp))
        omega
      · omega
    have hH : H = hF := by
      have h1 := I.heap
      rw [List.getLast?_eq_getElem?, show Hs.length - 1 = m from by omega, h1] at hlast
      exact Option.some.inj hlast
    subst hH
    refine hQ a w φ ⟨I.defers, I.size, fun x => ?_⟩ I.rel I.ext
    rcases putAll_spec vF x ds e with ⟨d, h1, h2, h3⟩ | ⟨h1, h2⟩
    · rw [h3]; exact I.done d h1 x h2 (hall d h1)
    · rw [h2]; exact I.rest x fun d hd hx => absurd hx (h1 d hd)
  intro fuel
  induction fuel with
  | zero =>
    intro listed a w m H φ hsz hc I
    have hr : Region.ready .any ops listed = [] := by
      rw [List.eq_nil_iff_forall_not_mem]
      intro i hi
      obtain ⟨h1, h2, _⟩ := mem_ready' hi
      have hlt : i < listed.size := by omega
      have : false ∈ listed.toList := by
        rw [List.mem_iff_getElem?]
        refine ⟨i, ?_⟩
        simp only [Array.getD, hlt, dif_pos] at h2
        simp [hlt]
        simpa using h2
      have := List.count_pos_iff.2 this
      omega
    exact ⟨hr, done listed a w m H φ (ready_nil D hsz hr) I⟩
  | succ fuel ih =>
    intro listed a w m H φ hsz hc I
    refine ⟨fun hr => done listed a w m H φ (ready_nil D hsz hr) I, fun i hi => ?_⟩
    obtain ⟨h1, h2, o, h3, h4⟩ := mem_ready' hi
    have hlt : i < listed.size := by omega
    have h2' : listed.getD i false = false := by
      simp only [Array.getD, hlt, dif_pos] at h2 ⊢
      exact h2
    refine step_sound T C D t chk I (i := i) (o := o) ⟨h3, h2', h4⟩ ?_
    rintro a' w' ⟨m', H', φ', I'⟩
    have hS : plus (fun j => listed.getD j false) i = fun j => (listed.setIfInBounds i true).getD j false := by
      funext j
      rw [plus_eq]
      by_cases hj : j = i
      · subst hj; simp [hlt]
      · rw [if_neg hj]
        simp [Array.getElem?_setIfInBounds_ne (Ne.symm hj)]
    rw [hS] at I'
    refine ih _ a' w' m' H' φ' (by simpa using hsz) ?_ I'
    have hf : listed.toList[i]? = some false := by
      simp only [Array.getD, hlt, dif_pos] at h2
      simp [hlt]
      simpa using h2
    have := count_set hf
    rw [Array.toList_setIfInBounds]
    omega

end

section
variable {P : Program} {tb : Types} (T : TbOk P tb) {call : FuncId → List AVal → Heap → Option (AVal × Heap)} (C : CallSound P call) (hm : P.follows .mixedOrders = true)

include T C hm in
/-- A drawn statement comes to what its one order comes to. -/
theorem drawn_sound {nt : Nat} {ops : Array Oper} {ds : List DOper} (hc : compRegionD tb nt ops = some ds) {e vF : Env} {h hF : Heap} (he : execD call e ds .leaf h [] [] = some (vF, hF))
    {φ : Map} {a : Act} {w : World} (E : ERel φ nt e a) (r : HRel φ h w) {Q : Exit → Act → World → Prop} (id : Nat)
    (hQ : ∀ a' w' φ', ERel φ' nt (putAll vF ds e) a' → HRel φ' hF w' → Ext φ h w φ' hF w' → Q .normal a' w') : (Code.region id ops true).wp P Q a w := by
  have D := compRegionD_ok hc
  obtain ⟨_, Hs, t, hlast, _, chk⟩ := exec_tr (b := ancFrom ops.toList 0 .leaf) (tb := tb) (nt := nt) (ops := ops) D.good D.of he
  rw [List.nil_append] at chk
  obtain ⟨H, rest, e1, e2⟩ := t.head
  refine wp_region_any hm (any_sound T C D t chk (φ0 := φ) (w0 := w) hlast hQ ops.size _ a _ 0 H φ (by simp) (by simp) ?_)
  have hfalse : ∀ j, (Array.replicate ops.size false).getD j false = false := by
    intro j; simp [Array.getD]
  refine ⟨?_, by rw [e1]; rfl, ?_, (r.drew _).more e2, (Ext.drew φ h w _).more e2 fun id hid => r.none_next hid, E.defers, E.size, ?_, ?_, ?_⟩
  · intro i o _ hS; simp only [hfalse] at hS; cases hS
  · intro pre d suf _ _
    simp only [hfalse]
    constructor
    · intro h; cases h
    · intro h; omega
  · intro d _ x _ hS; simp only [hfalse] at hS; cases hS
  · intro x _; exact E.tmp x
  · intro pre d suf hds hw hc _ hcnt
    rw [hds] at t
    obtain ⟨t1, n1⟩ := t.at_ pre
    refine ⟨r.none_next n1, ?_⟩
    rw [show cntW pre = 0 from by omega, List.drop_zero] at t1
    cases t1 with
    | skipW _ _ _ _ hw' _ _ _ => rw [hw] at hw'; cases hw'
    | skip _ _ _ _ hw' _ _ _ => rw [hw] at hw'; cases hw'
    | read _ _ _ _ _ hc' _ _ => rw [hc] at hc'; rcases hc' with hc' | hc' <;> cases hc'
    | write _ _ _ _ _ _ hc' _ _ _ => rw [hc] at hc'; cases hc'
    | alloc _ _ _ _ obj mk _ _ ha hv t2 =>
      obtain ⟨H1, rest', e3, e4⟩ := t2.head
      rw [e1] at e3; cases e3
      exact ⟨obj, mk, ha, hv, e4.get (by rw [Heap.get_push, if_pos rfl])⟩

end
end Go.AM
