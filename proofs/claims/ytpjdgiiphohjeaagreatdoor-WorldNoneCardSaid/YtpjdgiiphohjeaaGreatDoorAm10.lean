import Derived.Test.YtpjdgiiphohjeaaGreatDoorAm9
/-! Operations that write. -/
namespace Go.AM

/-- What a writing operation comes to. -/
def Does (P : Program) (φ : Map) (h : Heap) (w : World) (s : Sem Value) (a : AVal) (h' : Heap) : Prop :=
  ∃ v w' φ', s.run P w = .ok v w' ∧ HRel φ' h' w' ∧ Ext φ h w φ' h' w' ∧ VRel φ' a v

theorem putCells_get (vs new : List AVal) (off : Nat) (hb : off + new.length ≤ vs.length) (i : Nat) :
    (putCells vs new off)[i]? = if off ≤ i ∧ i < off + new.length then new[i - off]? else vs[i]? := by
  unfold putCells
  by_cases h1 : i < off
  · rw [if_neg (by omega), List.append_assoc, List.getElem?_append_left (by simp; omega), List.getElem?_take, if_pos h1]
  · by_cases h2 : i < off + new.length
    · rw [if_pos (by omega), List.getElem?_append_left (by simp; omega), List.getElem?_append_right (by simp; omega)]
      simp
      congr 1
      omega
    · rw [if_neg (by omega), List.getElem?_append_right (by simp; omega), List.getElem?_drop]
      simp
      congr 1
      omega

theorem putCells_length (vs new : List AVal) (off : Nat) (hb : off + new.length ≤ vs.length) : (putCells vs new off).length = vs.length := by
  simp [putCells]; omega

theorem VRels.mem {φ : Map} {as : List AVal} {vs : List Value} (h : VRels φ as vs) (p : AVal → Bool) (hp : as.all p = true) : ∀ v ∈ vs, ∃ a, p a = true ∧ VRel φ a v := by
  induction as generalizing vs with
  | nil => cases h; intro v hv; cases hv
  | cons a as ih =>
    cases h with
    | cons _ u _ us ha hs =>
      simp only [List.all_cons, Bool.and_eq_true] at hp
      intro v hv
      cases hv with
      | head => exact ⟨a, hp.1, ha⟩
      | tail _ hv => exact ih hs hp.2 v hv

theorem putAt_spec {h h' : Heap} {id off : Nat} {new : List AVal} (hp : putAt h id off new = some h') : ∃ m vs, (m = .rw ∨ m = .sb) ∧ h.get id = some (.cells m vs) ∧ off + new.length ≤ vs.length ∧ new.all AVal.one = true ∧ h' = h.set id (.cells m (putCells vs new off)) := by
  unfold putAt at hp
  split at hp
  · rename_i vs hg
    split at hp
    · rename_i hb; cases hp
      simp only [Bool.and_eq_true] at hb
      exact ⟨.rw, vs, .inl rfl, hg, Nat.le_of_ble_eq_true hb.1, hb.2, rfl⟩
    · cases hp
  · rename_i vs hg
    split at hp
    · rename_i hb; cases hp
      simp only [Bool.and_eq_true] at hb
      exact ⟨.sb, vs, .inr rfl, hg, Nat.le_of_ble_eq_true hb.1, hb.2, rfl⟩
    · cases hp
  · cases hp

theorem putAt_sound {P : Program} {φ : Map} {h h' : Heap} {w : World} (r : HRel φ h w) {id off : Nat} {L : Loc} {new : List AVal} {us : List Value} (e : φ id = some L) (hp : putAt h id off new = some h') (hv : VRels φ new us) :
    ∃ w', (storeCells (L.at_ off) us).run P w = .ok () w' ∧ HRel φ h' w' ∧ Ext φ h w φ h' w' := by
  obtain ⟨m, vs, hm, hg, hb, hone, rfl⟩ := putAt_spec hp
  obtain ⟨c, el, fz, h1, h2, h3, h4, h5⟩ := r.obj id L _ e hg
  have hl := hv.length
  have hfz : ∀ j, j < c.size → (fz.1 ≤ j && j < fz.2) = false := by
    intro j hj
    rcases hm with rfl | rfl
    · simp only [frozenAs] at h4; subst h4; simp
    · simp only [frozenAs] at h4
      rcases h4 with h4 | h4 <;> subst h4 <;> simp
      omega
  have hones : ∀ v ∈ us, one' v = true := by
    intro v hv'
    obtain ⟨a, ha, hr⟩ := hv.mem AVal.one hone v hv'
    exact one_of hr ha
  obtain ⟨w', hrun, a1, a2, a3, a4, a5, a6⟩ := run_storeCells (P := P) L.block (L.shift + off) el fz us w 0 c h1 hfz (by omega) hones
  have hopen : (AObj.cells m vs).open_ = true := by rcases hm with rfl | rfl <;> rfl
  have hsz := setRange_size c (L.shift + off + 0) us
  refine ⟨w', hrun, rewrite_obj r e hg hopen a1 a2 a3 a4 a5 a6 ?_⟩
  refine ⟨_, el, fz, rfl, by rw [hsz, h2], by rw [putCells_length _ _ _ hb]; exact h3, by rw [hsz]; exact h4, ?_⟩
  intro i a ha
  rw [putCells_get _ _ _ hb] at ha
  rw [setRange_get _ _ _ (by omega)]
  by_cases hi : off ≤ i ∧ i < off + new.length
  · rw [if_pos hi] at ha
    rw [if_pos (by omega)]
    obtain ⟨v, hv1, hv2⟩ := hv.get ha
    exact ⟨v, by rw [← hv1]; congr 1; omega, hv2⟩
  · rw [if_neg hi] at ha
    rw [if_neg (by omega)]
    exact h5 i a ha

/-- The cells that a slice or a string shows, read by the model. -/
theorem shown_sound {P : Program} {φ : Map} {h : Heap} {w : World} (r : HRel φ h w) {esz n : Nat} {x : AVal} {xv : Value} {cs : List AVal} (hx : VRel φ x xv) (e : shown h esz x = some (n, cs)) :
    cs.length = n * esz ∧ (∀ w, (Builtin.lenOf xv).run P w = .ok n w) ∧ ∀ m, m ≤ n → ∃ us : List Value, VRels φ (cs.take (m * esz)) us ∧ ∀ dr, (Builtin.firstCells esz m xv).run P { w with drawn := dr } = .ok us.toArray { w with drawn := dr } := by
  have slice : ∀ (id off len : Nat) (cap : Cap) (c : Nat) (L : Loc) (ad : Addr), x = .slice id off len cap → xv = .slice (some ad) len c → φ id = some L → len ≤ c → (c ≠ 0 → ad = L.at_ off) →
      cs.length = n * esz ∧ (∀ w, (Builtin.lenOf xv).run P w = .ok n w) ∧ ∀ m, m ≤ n → ∃ us : List Value, VRels φ (cs.take (m * esz)) us ∧ ∀ dr, (Builtin.firstCells esz m xv).run P { w with drawn := dr } = .ok us.toArray { w with drawn := dr } := by
    intro id off len cap c L ad e1 e2 hL hl hadr
    subst e1; subst e2
    simp only [shown] at e
    split at e
    · rename_i vs hg
      split at e
      · rename_i ds hd
        cases e
        have hlen := takeAt_length hd
        refine ⟨hlen, fun w => by simp [Builtin.lenOf], fun m hm => ?_⟩
        have hme : m * esz ≤ n * esz := Nat.mul_le_mul_right _ hm
        have hd' : takeAt vs off (m * esz) = some (cs.take (m * esz)) := by
          obtain ⟨h1, h2⟩ := takeAt_spec hd
          have : Nat.ble (off + m * esz) vs.length = true := Nat.ble_eq_true_of_le (by omega)
          simp only [takeAt, this]
          subst h2
          rw [List.take_take, Nat.min_eq_left hme]
        have key : ∀ dr, ∃ us : List Value, VRels φ (cs.take (m * esz)) us ∧ us.length = m * esz ∧ ∀ (j : Nat) (v : Value), us[j]? = some v → World.cell? { w with drawn := dr } (L.at_ (off + j)) = some v :=
          fun dr => (r.drew dr).cells hL hg hd'
        obtain ⟨us, h1, h2, h3⟩ := r.cells hL hg hd'
        refine ⟨us, h1, fun dr => ?_⟩
        simp only [Builtin.firstCells]
        by_cases h0 : c = 0
        · have hm0 : m = 0 := by omega
          subst hm0
          have : us = [] := by cases us with
            | nil => rfl
            | cons => simp at h2
          subst this
          simp [loadCells, loadCellsFrom]
        · rw [hadr h0]
          exact run_loadCells h2 fun j v hv => by rw [add_at]; exact h3 j v hv
      · cases e
    · cases e
  cases hx with
  | exact id off len c L ad hL hl hadr => exact slice id off len _ c L ad rfl rfl hL hl hadr
  | upto id off len e' c L ad hL hl hadr hs => exact slice id off len _ c L ad rfl rfl hL hl hadr
  | nilslice =>
    simp only [shown] at e
    cases e
    exact ⟨by simp, fun w => by simp [Builtin.lenOf], fun m hm => ⟨[], by simp; exact .nil, fun dr => by simp [Builtin.firstCells]⟩⟩
  | str b =>
    simp only [shown] at e
    split at e
    case h_2 => cases e
    rename_i hb1
    cases e
    have he' := Nat.eq_of_beq_eq_true hb1
    subst he'
    refine ⟨by simp, fun w => by simp [Builtin.lenOf], fun m hm => ⟨(b.data.toList.take m).map fun q => .int .u8 q.toNat, ?_, fun dr => ?_⟩⟩
    · refine VRels.of_get (by simp) fun i a ha => ?_
      simp only [Nat.mul_one, List.getElem?_take, List.getElem?_map] at ha
      split at ha
      · rename_i him
        simp only [Option.map_eq_some_iff] at ha
        obtain ⟨q, hq, rfl⟩ := ha
        exact ⟨.int .u8 q.toNat, by simp [him, hq], .int _ _⟩
      · cases ha
    · simp only [Builtin.firstCells, Sem.run_pure]
      congr 1
      apply Array.ext'
      simp only [Array.toList_map, ByteArray.data_extract, Array.toList_extract]
      rw [List.extract_eq_take_drop]
      simp
  | _ => simp only [shown, reduceCtorEq] at e


/-- A block that bears no living name is given a new one. -/
theorem alias_obj {φ : Map} {h : Heap} {w : World} (r : HRel φ h w) {b s n : Nat} {o : AObj} (hb : b < w.heap.size) (hfree : ∀ j M p, φ j = some M → h.get j = some p → p.alive = true → M.block ≠ b) (ho : ORel φ ⟨b, s, n⟩ o w.heap[b]?) :
    HRel (φ.put h.next ⟨b, s, n⟩) (h.push o) w := by
  have hle : φ.le (φ.put h.next ⟨b, s, n⟩) := Map.le_put (r.none_next (Nat.le_refl _))
  have cases_ : ∀ j L, (φ.put h.next ⟨b, s, n⟩) j = some L → (j = h.next ∧ L = ⟨b, s, n⟩) ∨ (j < h.next ∧ φ j = some L) := by
    intro j L e
    unfold Map.put at e
    by_cases hj : j = h.next
    · simp [hj] at e; exact .inl ⟨hj, e.symm⟩
    · simp [hj] at e; exact .inr ⟨(r.rng j L e).1, e⟩
  refine ⟨?_, ?_, ?_⟩
  · intro j L e
    rcases cases_ j L e with ⟨rfl, rfl⟩ | ⟨hj, e'⟩
    · exact ⟨by simp, hb⟩
    · exact ⟨by simp; omega, (r.rng j L e').2⟩
  · intro j L p e hp
    rw [Heap.get_push] at hp
    rcases cases_ j L e with ⟨rfl, rfl⟩ | ⟨hj, e'⟩
    · simp at hp; subst hp; exact ho.mono hle
    · rw [if_neg (by omega)] at hp; exact (r.obj j L p e' hp).mono hle
  · intro i j L M p q ei ej hp hq ap aq hbl
    rw [Heap.get_push] at hp hq
    rcases cases_ i L ei with ⟨rfl, rfl⟩ | ⟨hi, ei'⟩
    · rcases cases_ j M ej with ⟨rfl, rfl⟩ | ⟨hj, ej'⟩
      · rfl
      · rw [if_neg (by omega)] at hq
        exact absurd hbl.symm (hfree j M q ej' hq aq)
    · rw [if_neg (by omega)] at hp
      rcases cases_ j M ej with ⟨rfl, rfl⟩ | ⟨hj, ej'⟩
      · exact absurd hbl (hfree i L p ei' hp ap)
      · rw [if_neg (by omega)] at hq
        exact r.inj i j L M p q ei' ej' hp hq ap aq hbl

/-- An array that grew in place: a new name for its block, the elder one let go. -/
theorem regrow {φ : Map} {h : Heap} {w w' : World} (r : HRel φ h w) {id : Nat} {L : Loc} {o o' : AObj} {x : Obj} {s n : Nat} (e : φ id = some L) (g : h.get id = some o) (ho : o.open_ = true)
    (hos : w'.os = w.os) (htape : w'.tape = w.tape) (hout : w'.output = w.output) (hsize : w'.heap.size = w.heap.size)
    (hsame : ∀ b, b ≠ L.block → w'.heap[b]? = w.heap[b]?) (hx : w'.heap[L.block]? = some x) (hr : ORel φ ⟨L.block, s, n⟩ o' (some x)) (ho' : o'.open_ = true) :
    HRel (φ.put h.next ⟨L.block, s, n⟩) ((h.set id .dead).push o') w' ∧ Ext φ h w (φ.put h.next ⟨L.block, s, n⟩) ((h.set id .dead).push o') w' := by
  have halive : o.alive = true := by cases o <;> simp_all [AObj.open_, AObj.alive]
  obtain ⟨r2, x2⟩ := rewrite_obj (o' := .dead) r e g ho hos htape hout hsize hsame hx trivial
  have hget : ∀ j, (h.set id .dead).get j = if j = id then some .dead else h.get j := by
    intro j
    rw [Heap.get_set]
    by_cases hj : j = id
    · subst hj; simp [Heap.get_lt g]
    · simp [hj]
  have hbl : L.block < w'.heap.size := by rw [hsize]; exact (r.rng id L e).2
  have r3 := alias_obj (s := s) (n := n) (o := o') r2 hbl (by
    intro j M p ej hp ap hb
    rw [hget] at hp
    by_cases hj : j = id
    · subst hj; simp at hp; subst hp; simp [AObj.alive] at ap
    · simp [hj] at hp
      exact hj (r.inj j id M L p o ej e hp g ap halive hb)) (by rw [hx]; exact hr)
  refine ⟨r3, ⟨hos, htape, hout, by omega, by simp, ?_, ?_, ?_, ?_⟩⟩
  · intro j hj; unfold Map.put; rw [if_neg (by omega)]
  · intro j hj ej
    rw [Heap.get_push, Heap.next_set, if_neg (by omega), hget, if_neg]
    intro hji; subst hji; rw [e] at ej; cases ej
  · intro b _ hw
    refine hsame b fun hb => hw ⟨id, L, o, e, hb.symm, g, ho⟩
  · rintro b hb ⟨j, M, p, ej, rfl, hp, hop⟩
    unfold Map.put at ej
    by_cases hj : j = h.next
    · simp [hj] at ej; subst ej
      exact ⟨id, L, o, e, rfl, g, ho⟩
    · simp [hj] at ej
      rw [Heap.get_push, Heap.next_set, if_neg hj, hget] at hp
      by_cases hji : j = id
      · subst hji; simp at hp; subst hp; simp [AObj.open_] at hop
      · simp [hji] at hp; exact ⟨j, M, p, ej, rfl, hp, hop⟩

theorem zeroCells_size (z : Array Value) (n : Nat) : (Builtin.zeroCells z n).size = n * z.size := by simp [Builtin.zeroCells]

/-- The array that an append lays. -/
theorem laid_grown {φ : Map} {h : Heap} {w : World} (r : HRel φ h w) {esz n c dr : Nat} {elem : TypeId} {old new : List AVal} {ov nv : Array Value} {z : Array Value} (ho : VRels φ old ov.toList) (hn : VRels φ new nv.toList)
    (hlen : (old ++ new).length = n * esz) (hz : z.size = esz) (hc : n ≤ c) :
    let w' : World := { w with heap := w.heap.push (.cells (ov ++ nv ++ Builtin.zeroCells z (c - n)) elem), drawn := dr }
    ∃ φ', HRel φ' (h.push (.cells .rw (old ++ new))) w' ∧ Ext φ h w φ' (h.push (.cells .rw (old ++ new))) w' ∧ VRel φ' (.slice h.next 0 n (.upto esz)) (.slice (some ⟨w.heap.size, 0, none⟩) n c) := by
  intro w'
  have l1 := ho.length
  have l2 := hn.length
  simp only [Array.length_toList] at l1 l2
  simp only [List.length_append] at hlen
  have hsz : (ov ++ nv ++ Builtin.zeroCells z (c - n)).size = c * esz := by
    simp only [Array.size_append, zeroCells_size, hz, Nat.sub_mul]
    have : n * esz ≤ c * esz := Nat.mul_le_mul_right _ hc
    omega
  have hobj : ORel φ ⟨w.heap.size, 0, c * esz⟩ (.cells .rw (old ++ new)) (some (.cells (ov ++ nv ++ Builtin.zeroCells z (c - n)) elem)) := by
    refine ⟨_, elem, (0, 0), rfl, hsz, ?_, rfl, fun i a ha => ?_⟩
    · simp only [List.length_append, Nat.zero_add]
      have : n * esz ≤ c * esz := Nat.mul_le_mul_right _ hc
      omega
    · obtain ⟨v, hv, hr⟩ := (ho.append hn).get ha
      refine ⟨v, ?_, hr⟩
      have hlt := (List.getElem?_eq_some_iff.1 hv).1
      simp only [List.length_append, Array.length_toList] at hlt
      rw [Nat.zero_add, Array.getElem?_append_left (by simpa using hlt), ← hv]
      simp [← Array.getElem?_toList]
  obtain ⟨r1, x1⟩ := lay r hobj
  exact ⟨_, r1.drew dr, x1.trans (Ext.drew _ _ _ _), .upto h.next 0 n esz c ⟨w.heap.size, 0, c * esz⟩ _ (by simp [Map.put]) hc (fun _ => rfl) (by simp)⟩

end Go.AM
