import Derived.Test.YtpjdgiiphohjeaaGreatDoorAm19
/-! A drawn statement, in whatever order: all its steps. -/
namespace Go.AM

section
variable {P : Program} {tb : Types} (T : TbOk P tb) {call : FuncId → List AVal → Heap → Option (AVal × Heap)} (C : CallSound P call)
  {nt : Nat} {ops : Array Oper} {ds : List DOper} (D : DOk tb nt ops (ancFrom ops.toList 0 .leaf) ds) {e vF : Env} {h0 : Heap} {Hs : List Heap} (t : DTr call e vF ds h0 Hs)
  (chk : ∀ d ∈ ds, wantedD e vF d.guard = true → (d.op.cls = .pure ∨ d.op.cls = .read) → checkOne Hs ⟨d.rop e vF, look vF (.t d.idx), d.chk⟩ d.chk = true)
  {φ0 : Map} {w0 : World} {S : Nat → Bool} {m : Nat} {H : Heap} {φ : Map} {a : Act} {w : World} (I : Inv P nt ops ds call e vF h0 Hs φ0 w0 S m H φ a w)

/-- Behind a step all stands as it should. -/
def StepOk (P : Program) (nt : Nat) (ops : Array Oper) (ds : List DOper) (call : FuncId → List AVal → Heap → Option (AVal × Heap)) (e vF : Env) (h0 : Heap) (Hs : List Heap) (φ0 : Map) (w0 : World) (S : Nat → Bool) (a : Act) (w : World) : Prop :=
  ∃ m H φ, Inv P nt ops ds call e vF h0 Hs φ0 w0 S m H φ a w

include D t I in
/-- The names that wait, behind a writing operation. -/
theorem ghosts_W {i : Nat} {o : Oper} (hm : MayCome ops S i o) {pre suf : List DOper} {d : DOper} (hds : ds = pre ++ d :: suf) (hdi : d.idx = i) (hW : d.isW = true) {post H' : Heap} {φ' : Map} {w' : World} {Hs' : List Heap}
    (t' : DTr call e vF suf post (H' :: Hs')) (hstep : stepH call e vF d (heapAt call e vF pre h0) = post) (hnext : H.next ≤ post.next) (hold : ∀ id, id < H.next → φ' id = φ id) (hgh : ∀ id, id < H.next → φ id = none → post.get id = H.get id) (r' : HRel φ' post w') :
    ∀ pre1 d1 suf1, ds = pre1 ++ d1 :: suf1 → wantedD e vF d1.guard = true → d1.op.cls = .alloc → plus S i d1.idx = false → cntW pre1 ≤ m + 1 →
      φ' (heapAt call e vF pre1 h0).next = none ∧ ∃ obj mk, evalAlloc (d1.rop e vF) = some (obj, mk) ∧ look vF (.t d1.idx) = mk (heapAt call e vF pre1 h0).next ∧ H'.get (heapAt call e vF pre1 h0).next = some obj := by
  intro pre1 d1 suf1 hds1 hw1 hc1 hS1 hcnt
  obtain ⟨hcm, hH⟩ := cnt_eq D t I hm hds hdi hW
  have hS1' : S d1.idx = false := by
    rw [plus_eq] at hS1
    split at hS1
    · cases hS1
    · exact hS1
  have hmore : More post H' := by
    obtain ⟨H1, rest, e1, e2⟩ := t'.head
    cases e1; exact e2
  rcases Nat.lt_or_ge m (cntW pre1) with hgt | hle
  · -- it stands behind d, no other writing operation between
    have hcnt1 : cntW pre1 = m + 1 := by omega
    -- d is in pre1
    have hin : ∃ mid, pre1 = pre ++ d :: mid := by
      have hcmp : pre ++ d :: suf = pre1 ++ d1 :: suf1 := by rw [← hds, ← hds1]
      rcases List.append_eq_append_iff.1 hcmp with ⟨as, h1, h2⟩ | ⟨as, h1, h2⟩
      · cases as with
        | nil => rw [List.append_nil] at h1; subst h1; omega
        | cons x as => cases h2; exact ⟨as, h1⟩
      · exfalso
        rw [h1, cntW_append] at hcm
        omega
    obtain ⟨mid, rfl⟩ := hin
    have hsuf : suf = mid ++ d1 :: suf1 := by
      rw [hds1] at hds
      simpa using hds.symm
    have hmidW : cntW mid = 0 := by
      rw [cntW_append, cntW_cons] at hcnt1
      have : cntW [d] = 1 := by simp [cntW, hW]
      omega
    have hheap : heapAt call e vF (pre ++ d :: mid) h0 = heapAt call e vF mid post := by
      rw [heapAt_append]; simp only [heapAt]; rw [hstep]
    rw [hheap]
    rw [hsuf] at t'
    obtain ⟨t2, n2⟩ := t'.at_ mid
    rw [hmidW, List.drop_zero] at t2
    have hge : post.next ≤ (heapAt call e vF mid post).next := n2
    refine ⟨r'.none_next hge, ?_⟩
    cases t2 with
    | skipW _ _ _ _ hw _ _ _ => rw [hw] at hw1; cases hw1
    | skip _ _ _ _ hw _ _ _ => rw [hw] at hw1; cases hw1
    | read _ _ _ _ _ hc _ _ => rw [hc1] at hc; rcases hc with hc | hc <;> cases hc
    | write _ _ _ _ _ _ hc _ _ _ => rw [hc1] at hc; cases hc
    | alloc _ _ _ _ obj mk hw hc ha hv t3 =>
      obtain ⟨H1, rest, e1, e2⟩ := t3.head
      cases e1
      exact ⟨obj, mk, ha, hv, e2.get (by rw [Heap.get_push, if_pos rfl])⟩
  · obtain ⟨g1, obj, mk, g2, g3, g4⟩ := I.ghost pre1 d1 suf1 hds1 hw1 hc1 hS1' hle
    have hlt := Heap.get_lt g4
    refine ⟨by rw [hold _ hlt]; exact g1, obj, mk, g2, g3, ?_⟩
    rw [hmore.same _ (Nat.lt_of_lt_of_le hlt hnext), hgh _ hlt g1]
    exact g4

include I in
/-- Behind an operation that does not write. -/
theorem ghosts_same {i : Nat} : ∀ pre1 d1 suf1, ds = pre1 ++ d1 :: suf1 → wantedD e vF d1.guard = true → d1.op.cls = .alloc → plus S i d1.idx = false → cntW pre1 ≤ m →
      φ (heapAt call e vF pre1 h0).next = none ∧ ∃ obj mk, evalAlloc (d1.rop e vF) = some (obj, mk) ∧ look vF (.t d1.idx) = mk (heapAt call e vF pre1 h0).next ∧ H.get (heapAt call e vF pre1 h0).next = some obj := by
  intro pre1 d1 suf1 hds1 hw1 hc1 hS1 hcnt
  refine I.ghost pre1 d1 suf1 hds1 hw1 hc1 ?_ hcnt
  rw [plus_eq] at hS1
  split at hS1
  · cases hS1
  · exact hS1

include D t I in
/-- The number of writing operations, behind one. -/
theorem count_W {i : Nat} {o : Oper} (hm : MayCome ops S i o) {pre suf : List DOper} {d : DOper} (hds : ds = pre ++ d :: suf) (hdi : d.idx = i) (hW : d.isW = true) : ∀ pre1 d1 suf1, ds = pre1 ++ d1 :: suf1 → d1.isW = true → (plus S i d1.idx = true ↔ cntW pre1 < m + 1) := by
  intro pre1 d1 suf1 hds1 hW1
  obtain ⟨hcm, _⟩ := cnt_eq D t I hm hds hdi hW
  rw [plus_eq]
  by_cases hi : d1.idx = i
  · rw [if_pos hi]
    have hdd : d1 = d := idx_inj D (by rw [hds1]; simp) (by rw [hds]; simp) (by rw [hi, hdi])
    subst hdd
    have : cntW pre1 = cntW pre := by
      have hcmp : pre ++ d1 :: suf = pre1 ++ d1 :: suf1 := by rw [← hds, ← hds1]
      have key : ∀ (p q : List DOper) (x : DOper) (s r : List DOper), ds = p ++ x :: s → ds = (p ++ x :: q) ++ x :: r → False := by
        intro p q x s r _ h2
        have hg := D.good
        rw [h2] at hg
        obtain ⟨_, g2, _⟩ := hg.split
        exact g2.2 x (by simp) rfl
      rcases List.append_eq_append_iff.1 hcmp with ⟨as, h1, h2⟩ | ⟨as, h1, h2⟩
      · cases as with
        | nil => rw [h1, List.append_nil]
        | cons x as =>
          cases h2
          exact (key pre as d1 _ suf1 hds (by rw [hds1, h1])).elim
      · cases as with
        | nil => rw [h1, List.append_nil]
        | cons x as =>
          cases h2
          exact (key pre1 as d1 _ suf hds1 (by rw [hds, h1])).elim
    constructor
    · intro _; omega
    · intro _; rfl
  · rw [if_neg hi]
    have h1 := I.count pre1 d1 suf1 hds1 hW1
    rw [h1]
    constructor
    · intro h; omega
    · intro h
      rcases Nat.lt_or_ge (cntW pre1) m with h2 | h2
      · exact h2
      · exfalso
        have h3 : cntW pre1 = cntW pre := by omega
        -- two writing operations of one number are one
        have hcmp : pre ++ d :: suf = pre1 ++ d1 :: suf1 := by rw [← hds, ← hds1]
        rcases List.append_eq_append_iff.1 hcmp with ⟨as, g1, g2⟩ | ⟨as, g1, g2⟩
        · cases as with
          | nil => cases g2; exact hi hdi
          | cons x as =>
            cases g2
            rw [g1, cntW_append, cntW_cons] at h3
            have : cntW [d] = 1 := by simp [cntW, hW]
            omega
        · cases as with
          | nil => cases g2; exact hi hdi
          | cons x as =>
            cases g2
            rw [g1, cntW_append, cntW_cons] at h3
            have : cntW [d1] = 1 := by simp [cntW, hW1]
            omega

include T C D t chk I in
theorem step_sound {i : Nat} {o : Oper} (hm : MayCome ops S i o) {K : Act → World → Prop} {Q : Exit → Act → World → Prop} (hK : ∀ a' w', StepOk P nt ops ds call e vF h0 Hs φ0 w0 (plus S i) a' w' → K a' w') : wpOp P ops Q i K a w := by
  have ho := hm.1
  have hilt : i < ops.size := by
    rcases Nat.lt_or_ge i ops.size with h | h
    · exact h
    · rw [Array.getElem?_eq_none h] at ho; cases ho
  obtain ⟨d, hd, hdi⟩ := D.all i hilt
  obtain ⟨pre, suf, hds⟩ := mem_split hd
  obtain ⟨od, d0, k1, k2, k3⟩ := D.of d hd
  obtain ⟨ao, c1, c2, c3, c4, c5, c6⟩ := compDOper_spec k2
  obtain ⟨b1, b2, b3, b4⟩ := compOper_spec c1
  rw [hdi] at k1 c2 c3
  have : od = o := by rw [k1] at ho; exact Option.some.inj ho
  subst this
  rw [← k3.2.1] at c2
  rw [← k3.2.2.2] at c3
  have hwant := wanted_drawn D I hm c1 c2
  obtain ⟨ρ, R, hrop⟩ := rop_rel D I hm c3
  have hrop' : d.rop e vF = ao.op.map ρ := hrop
  have hcls : d.op.cls = ao.op.cls := trav_cls c3
  have t0 : DTr call e vF (pre ++ d :: suf) h0 Hs := by rw [← hds]; exact t
  obtain ⟨t1, hn1⟩ := t0.at_ pre
  unfold wpOp
  rw [ho]
  simp only []
  have lookat : ∀ (H1 : Heap) (L : List Heap), Hs.drop (cntW pre) = heapAt call e vF pre h0 :: H1 :: L → cntW pre = m → Hs[m + 1]? = some H1 := by
    intro H1 L h1 h2
    have : (Hs.drop (cntW pre))[1]? = some H1 := by rw [h1]; rfl
    rw [List.getElem?_drop, h2] at this
    exact this
  cases hw : wantedD e vF d.guard with
  | false =>
    rw [hwant, hw]
    simp only [Bool.false_eq_true, if_false]
    refine hK _ _ ?_
    generalize hL : Hs.drop (cntW pre) = L at t1
    cases t1 with
    | skipW _ _ _ Hs' hw' hW hv t2 =>
      obtain ⟨hcm, hH⟩ := cnt_eq D t I hm hds hdi hW
      obtain ⟨H1, rest, e1, e2⟩ := t2.head
      subst e1
      have hst : stepH call e vF d (heapAt call e vF pre h0) = heapAt call e vF pre h0 := by simp [stepH, hw]
      rw [hdi] at hv
      refine ⟨m + 1, H1, φ, I.next D hm hd hdi (Map.le_refl _) (by rw [hv]; exact .tuple _ _ .nil) (lookat _ _ hL hcm) (count_W D t I hm hds hdi hW) (I.rel.more (by rw [hH]; exact e2)) (I.ext.more (by rw [hH]; exact e2) fun id h => I.rel.none_next h) ?_⟩
      exact ghosts_W D t I hm hds hdi hW t2 hst (by rw [hH]; exact Nat.le_refl _) (fun _ _ => rfl) (fun _ _ _ => by rw [hH]) (by rw [← hH]; exact I.rel)
    | skip _ _ _ _ hw' hW hv t2 =>
      rw [hdi] at hv
      exact ⟨m, H, φ, I.next D hm hd hdi (Map.le_refl _) (by rw [hv]; exact .tuple _ _ .nil) I.heap (count_same D I hd hdi hW) I.rel I.ext (ghosts_same I)⟩
    | read _ _ _ _ hw' _ _ _ => rw [hw] at hw'; cases hw'
    | alloc _ _ _ _ _ _ hw' _ _ _ _ => rw [hw] at hw'; cases hw'
    | write _ _ _ _ _ hw' _ _ _ _ => rw [hw] at hw'; cases hw'
  | true =>
    rw [hwant, hw]
    simp only [if_true]
    left
    generalize hL : Hs.drop (cntW pre) = L at t1
    cases t1 with
    | skipW _ _ _ _ hw' _ _ _ => rw [hw] at hw'; cases hw'
    | skip _ _ _ _ hw' _ _ _ => rw [hw] at hw'; cases hw'
    | read _ _ _ _ _ hc hr t2 =>
      have hW : d.isW = false := by rcases hc with hc | hc <;> simp [DOper.isW, hc, Cls.isW]
      have hread : evalRead H (d.rop e vF) = some (look vF (.t d.idx)) := by
        rcases hc with hc | hc
        · rw [← hr]; exact evalRead_pure (by rw [DOper.rop, map_cls]; exact hc) _ _
        · have hle := cnt_le D I hm hds hdi (by rw [hc]; intro h; cases h)
          rcases Nat.eq_or_lt_of_le hle with heq | hlt
          · obtain ⟨H1, rest, e1, e2⟩ := t2.head
            have : H = H1 := by
              have h1 : (Hs.drop (cntW pre))[0]? = some H := by rw [List.getElem?_drop, Nat.add_zero, heq]; exact I.heap
              rw [hL, e1] at h1; simpa using h1.symm
            subst this
            exact evalRead_more e2 hr
          · -- it was held against this moment
            have hg := D.good
            rw [hds] at hg
            obtain ⟨_, _, _, g4⟩ := hg.split
            have hchk := g4 hc
            simp only [List.length_nil, Nat.zero_add] at hchk
            have hmem : m ∈ d.chk := by
              rw [hchk]
              have hlen := t.length
              have hmlt : m < Hs.length := (List.getElem?_eq_some_iff.1 I.heap).1
              have htot : cntW ds = cntW pre + cntW suf := by
                rw [hds, cntW_append, cntW_cons]
                have : cntW [d] = 0 := by simp [cntW, hW]
                omega
              have := later_mem (ancFrom ops.toList 0 .leaf) d.idx ((suf.filter DOper.isW).map (·.idx)) (cntW pre) (m - cntW pre - 1) (by simp only [List.length_map]; show _ < cntW suf; omega) ?_
              · rw [show cntW pre + (m - cntW pre - 1) + 1 = m from by omega] at this; exact this
              · intro l x hl hx
                have hlW : l < cntW suf := by omega
                obtain ⟨p1, q, s1, e1, e2, e3, e4⟩ := nth_write suf l hlW
                rw [e4] at hx; cases hx
                have hq : ds = (pre ++ d :: p1) ++ q :: s1 := by rw [hds, e1]; simp
                have hcq : cntW (pre ++ d :: p1) < m := by
                  rw [cntW_append, cntW_cons]
                  have : cntW [d] = 0 := by simp [cntW, hW]
                  omega
                have hSq := (I.count _ q s1 hq e2).2 hcq
                cases hb : (bits (ancFrom ops.toList 0 .leaf) q.idx).testBit d.idx with
                | false => rfl
                | true =>
                  have := anc_mem D I.closed _ _ q s1 rfl hq hSq d.idx hb
                  rw [hdi, hm.2.1] at this; cases this
            obtain ⟨hh, hhe, hev⟩ := checkOne_spec (chk d hd hw (.inr hc)) m hmem
            rw [I.heap] at hhe; cases hhe
            exact hev
      rw [hrop'] at hread
      obtain ⟨v, h1, h2⟩ := read_sound T I.rel R b1 hread od.dst od.type od.pos od.after od.guard
      have h1' : (execOp a.eval od).run P w = .ok (.value v) w := h1
      unfold Oper.wp
      rw [h1', Oper.upon_value]
      refine hK _ _ ⟨m, H, φ, I.next D hm hd hdi (Map.le_refl _) (by rw [← hdi]; exact h2) I.heap (count_same D I hd hdi hW) I.rel I.ext (ghosts_same I)⟩
    | alloc _ _ _ _ obj mk _ hc ha hv t2 =>
      have hW : d.isW = false := by simp [DOper.isW, hc, Cls.isW]
      have hle := cnt_le D I hm hds hdi (by rw [hc]; intro h; cases h)
      obtain ⟨g1, obj', mk', g2, g3, g4⟩ := I.ghost pre d suf hds hw hc (by rw [hdi]; exact hm.2.1) hle
      rw [hrop'] at g2
      obtain ⟨x, n, dr, v, h1, h2, h3⟩ := alloc_sound T R b1 g2 od.dst od.type od.pos od.after od.guard (w := w) (φ := φ)
      have h1' : (execOp a.eval od).run P w = .ok (.value v) { w with heap := w.heap.push x, drawn := dr } := h1
      unfold Oper.wp
      rw [h1', Oper.upon_value]
      have hr' := (lay_ghost I.rel g4 g1 h2).drew dr
      have hle' : φ.le (φ.put (heapAt call e vF pre h0).next ⟨w.heap.size, 0, n⟩) := Map.le_put g1
      have hval := h3 _ (heapAt call e vF pre h0).next hle' (by simp [Map.put])
      rw [← g3, hdi] at hval
      refine hK _ _ ⟨m, H, _, I.next D hm hd hdi hle' hval I.heap (count_same D I hd hdi hW) hr' (I.ext.place hn1 x n dr) ?_⟩
      intro pre1 d1 suf1 hds1 hw1 hc1 hS1 hcnt
      obtain ⟨q1, q2⟩ := ghosts_same I pre1 d1 suf1 hds1 hw1 hc1 hS1 hcnt
      refine ⟨?_, q2⟩
      unfold Map.put
      rw [if_neg]
      · exact q1
      · -- two names are two
        intro heq
        have hne : d1 ≠ d := by
          rintro rfl
          rw [plus_eq, if_pos hdi] at hS1; cases hS1
        have mono : ∀ (p : List DOper) (x : DOper) (q : List DOper) (y : DOper) (s : List DOper), ds = (p ++ x :: q) ++ y :: s → wantedD e vF x.guard = true → x.op.cls = .alloc →
            (heapAt call e vF p h0).next < (heapAt call e vF (p ++ x :: q) h0).next := by
          intro p x q y s hpq hwx hcx
          have tt : DTr call e vF (p ++ (x :: (q ++ y :: s))) h0 Hs := by rw [show p ++ (x :: (q ++ y :: s)) = ds from by rw [hpq]; simp]; exact t
          obtain ⟨ta, _⟩ := tt.at_ p
          generalize Hs.drop (cntW p) = L2 at ta
          cases ta with
          | skipW _ _ _ _ hwx' _ _ _ => rw [hwx] at hwx'; cases hwx'
          | skip _ _ _ _ hwx' _ _ _ => rw [hwx] at hwx'; cases hwx'
          | read _ _ _ _ _ hcx' _ _ => rw [hcx] at hcx'; rcases hcx' with hcx' | hcx' <;> cases hcx'
          | write _ _ _ _ _ _ hcx' _ _ _ => rw [hcx] at hcx'; cases hcx'
          | alloc _ _ _ _ obj2 mk2 _ _ ha2 hv2 tb2 =>
            obtain ⟨_, hnn⟩ := tb2.at_ q
            rw [heapAt_append]
            simp only [heapAt]
            have hs : stepH call e vF x (heapAt call e vF p h0) = (heapAt call e vF p h0).push obj2 := by simp [stepH, hwx, hcx, ha2]
            rw [hs]
            simp only [Heap.next_push] at hnn
            omega
        have hcmp : pre ++ d :: suf = pre1 ++ d1 :: suf1 := by rw [← hds, ← hds1]
        rcases List.append_eq_append_iff.1 hcmp with ⟨as, u1, u2⟩ | ⟨as, u1, u2⟩
        · cases as with
          | nil => cases u2; exact hne rfl
          | cons z as =>
            cases u2
            have := mono pre d as d1 suf1 (by rw [hds1, u1]) hw hc
            rw [← u1] at this
            omega
        · cases as with
          | nil => cases u2; exact hne rfl
          | cons z as =>
            cases u2
            have := mono pre1 d1 as d suf (by rw [hds, u1]) hw1 hc1
            rw [← u1] at this
            omega
    | write _ _ _ h' Hs' _ hc hE hn t2 =>
      have hW : d.isW = true := by simp [DOper.isW, hc, Cls.isW]
      obtain ⟨hcm, hH⟩ := cnt_eq D t I hm hds hdi hW
      obtain ⟨H1, rest, e1, e2⟩ := t2.head
      subst e1
      have hst : stepH call e vF d (heapAt call e vF pre h0) = h' := by simp [stepH, hw, hc, hE]
      have hev : evalOp call H (ao.op.map ρ) = some (look vF (.t d.idx), h') := by
        unfold evalOp
        rw [map_cls, ← hcls, hc, ← hrop', hH]
        exact hE
      refine oper_sound T C I.rel b1 R hev ?_
      intro v w' φ' r' x' hv
      refine hK _ _ ⟨m + 1, H1, φ', I.next D hm hd hdi (x'.le I.rel) (by rw [← hdi]; exact hv) (lookat _ _ hL hcm) (count_W D t I hm hds hdi hW) (r'.more e2) ((I.ext.trans x').more e2 fun id h => r'.none_next h) ?_⟩
      exact ghosts_W D t I hm hds hdi hW t2 hst x'.next x'.old x'.ghost r'

end
end Go.AM
