import Derived.Test.YtpjdgiiphohjeaaGreatDoorAm10
/-! Appending, copying, maps: what the small machine does, the model does. -/
namespace Go.AM

theorem appendCells_sound {P : Program} {φ : Map} {h h' : Heap} {w : World} (r : HRel φ h w) {esz bytes n : Nat} {s a : AVal} {sv : Value} {new : List AVal} {nv z : Array Value} {elem : TypeId} (hs : VRel φ s sv)
    (he : appendCells h esz bytes s n new = some (a, h')) (hlen : new.length = n * esz) (hone : new.all AVal.one = true) (hn : VRels φ new nv.toList) (hz : z.size = esz) (S : Sem Value)
    (Af : ∀ ad len c w', sv = .slice (some ad) len c → len + n ≤ c → (storeCells (ad.add (len * esz)) nv.toList).run P w = .ok () w' → S.run P w = .ok (.slice (some ad) (len + n) c) w')
    (An : sv = .slice none 0 0 → n = 0 → S.run P w = .ok (.slice none 0 0) w)
    (Ag : ∀ base len c ov, sv = .slice base len c → (∀ dr, (Builtin.firstCells esz len (.slice base len c)).run P { w with drawn := dr } = .ok ov { w with drawn := dr }) → c < len + n → roomy (len + n) bytes = true →
      ∃ c' dr, len + n ≤ c' ∧ S.run P w = .ok (.slice (some ⟨w.heap.size, 0, none⟩) (len + n) c') { w with heap := w.heap.push (.cells (ov ++ nv ++ Builtin.zeroCells z (c' - (len + n))) elem), drawn := dr }) :
    Does P φ h w S a h' := by
  -- in place
  have place : ∀ (id off len c : Nat) (cap : Cap) (L : Loc) (ad : Addr) (h1 : Heap), sv = .slice (some ad) len c → φ id = some L → (c ≠ 0 → ad = L.at_ off) → len + n ≤ c → putAt h id (off + len * esz) new = some h1 →
      VRel φ (.slice id off (len + n) cap) (.slice (some ad) (len + n) c) → Does P φ h w S (.slice id off (len + n) cap) h1 := by
    intro id off len c cap L ad h1 e1 hL hadr hle hp hv
    obtain ⟨w', hrun, r', x'⟩ := putAt_sound (P := P) r hL hp hn
    by_cases h0 : c = 0
    · have hn0 : n = 0 := by omega
      have : nv.toList = [] := by
        have := hn.length
        rw [hlen, hn0] at this
        cases hnv : nv.toList with
        | nil => rfl
        | cons => rw [hnv] at this; simp at this
      have hrun' : (storeCells (ad.add (len * esz)) nv.toList).run P w = .ok () w' := by
        rw [this] at hrun ⊢
        exact hrun
      exact ⟨_, w', φ, Af ad len c w' e1 hle hrun', r', x', hv⟩
    · have had := hadr h0
      refine ⟨_, w', φ, Af ad len c w' e1 hle (by rw [had, add_at]; exact hrun), r', x', hv⟩
  -- a new array
  have new_ : ∀ (h1 : Heap) (base : Option Addr) (len c : Nat) (old : List AVal) (ov : Array Value), HRel φ h1 w → Ext φ h w φ h1 w → sv = .slice base len c → VRels φ old ov.toList → old.length = len * esz →
      (∀ dr, (Builtin.firstCells esz len (.slice base len c)).run P { w with drawn := dr } = .ok ov { w with drawn := dr }) → c < len + n → roomy (len + n) bytes = true →
      Does P φ h w S (.slice h1.next 0 (len + n) (.upto esz)) (h1.push (.cells .rw (old ++ new))) := by
    intro h1 base len c old ov r1 x1 e1 ho hol hf hlt hroom
    obtain ⟨c', dr, hc', hrun⟩ := Ag base len c ov e1 hf hlt hroom
    obtain ⟨φ', r2, x2, v2⟩ := laid_grown (dr := dr) (elem := elem) r1 ho hn (by simp [hol, hlen, Nat.add_mul]) hz hc'
    exact ⟨_, _, φ', hrun, r2, x1.trans x2, v2⟩
  cases hs with
  | nilslice =>
    simp only [appendCells] at he
    split at he
    · rename_i h0; cases he
      have hn0 := Nat.eq_of_beq_eq_true h0
      exact ⟨_, w, φ, An rfl hn0, r, Ext.refl _ _ _, .nilslice⟩
    · rename_i h0
      have hn0 := Nat.ne_of_beq_eq_false h0
      split at he
      · rename_i hroom
        cases he
        have := new_ h none 0 0 [] #[] r (Ext.refl _ _ _) rfl .nil (by simp) (fun dr => by simp [Builtin.firstCells]) (by omega) (by simpa using hroom)
        simpa [grow] using this
      · cases he
  | exact id off len c L ad hL hl hadr =>
    simp only [appendCells] at he
    split at he
    · rename_i hle
      have hle' := Nat.le_of_ble_eq_true hle
      split at he
      · rename_i h1 hp; cases he
        exact place id off len c _ L ad h' rfl hL hadr hle' hp (.exact id off _ c L ad hL hle' hadr)
      · cases he
    · rename_i hle
      have hlt : c < len + n := by
        rcases Nat.lt_or_ge c (len + n) with h1 | h1
        · exact h1
        · rw [Nat.ble_eq_true_of_le h1] at hle; cases hle
      split at he
      · rename_i vs hg hroom
        split at he
        · rename_i old hold; cases he
          have hsh : shown h esz (.slice id off len (.exact c)) = some (len, old) := by simp only [shown, hg, hold]
          obtain ⟨s1, _, s3⟩ := shown_sound (P := P) r (.exact id off len c L ad hL hl hadr) hsh
          obtain ⟨us, u1, u2⟩ := s3 len (Nat.le_refl _)
          rw [← s1, List.take_length] at u1
          exact new_ h (some ad) len c old us.toArray r (Ext.refl _ _ _) rfl (by simpa using u1) s1 u2 hlt hroom
        · cases he
      · cases he
  | upto id off len e c L ad hL hl hadr hsz =>
    simp only [appendCells] at he
    split at he
    · rename_i vs hbe hg
      simp only [Bool.and_eq_true] at hbe
      have hee := Nat.eq_of_beq_eq_true hbe.1
      have hpos : 0 < esz := by simpa [Nat.blt_eq] using hbe.2
      subst hee
      obtain ⟨cc, el, fz, o1, o2, o3, o4, o5⟩ := r.obj id L _ hL hg
      have hgc : getCells h id = some vs := by simp [getCells, hg]
      split at he
      · rename_i hle
        have hle' := Nat.le_of_ble_eq_true hle
        have hcn : len + n ≤ c := by
          have : (len + n) * e ≤ c * e := by omega
          exact Nat.le_of_mul_le_mul_right this hpos
        split at he
        · rename_i h1 hp; cases he
          exact place id off len c _ L ad h' rfl hL hadr hcn hp (.upto id off _ e c L ad hL hcn hadr hsz)
        · cases he
      · rename_i hle
        have hgt : vs.length < off + (len + n) * e := by
          rcases Nat.lt_or_ge vs.length (off + (len + n) * e) with h1 | h1
          · exact h1
          · rw [Nat.ble_eq_true_of_le h1] at hle; cases hle
        split at he
        · rename_i old hold hroom; cases he
          have hsh : shown h e (.slice id off len (.upto e)) = some (len, old) := by simp only [shown, hgc, hold]
          obtain ⟨s1, _, s3⟩ := shown_sound (P := P) r (.upto id off len e c L ad hL hl hadr hsz) hsh
          obtain ⟨us, u1, u2⟩ := s3 len (Nat.le_refl _)
          rw [← s1, List.take_length] at u1
          have hto := takeAt_spec hold
          have hnpos : 0 < n := by
            rcases Nat.eq_zero_or_pos n with h0 | h0
            · subst h0; simp at hgt; omega
            · exact h0
          by_cases hcn : len + n ≤ c
          · -- it grew in place
            have had := hadr (by omega)
            have hln := hn.length
            simp only [Array.length_toList] at hln
            have hce : (len + n) * e ≤ c * e := Nat.mul_le_mul_right _ hcn
            have hadd : (len + n) * e = len * e + n * e := Nat.add_mul _ _ _
            have hfz : ∀ j, j < cc.size → (fz.1 ≤ j && j < fz.2) = false := by
              intro j hj; simp only [frozenAs] at o4; subst o4; simp
            have hlen' : nv.toList.length = n * e := by rw [← hlen]; exact hln.symm
            have hones : ∀ v ∈ nv.toList, one' v = true := by
              intro v hv
              obtain ⟨a, ha, hr⟩ := hn.mem AVal.one hone v hv
              exact one_of hr ha
            obtain ⟨w', hrun, a1, a2, a3, a4, a5, a6⟩ := run_storeCells (P := P) L.block (L.shift + (off + len * e)) el fz nv.toList w 0 cc o1 hfz (by omega) hones
            have hlo := u1.length
            simp only [frozenAs] at o4
            subst o4
            have hobj : ORel φ ⟨L.block, L.shift + off, L.size⟩ (.cells .rw (old ++ new)) (some (.cells (setRange cc (L.shift + (off + len * e) + 0) nv.toList) el (0, 0))) := by
              refine ⟨_, el, (0, 0), rfl, by rw [setRange_size, o2], ?_, rfl, ?_⟩
              · simp only [List.length_append, s1, hlen]; omega
              · intro i b hb
                show ∃ v, (setRange cc (L.shift + (off + len * e) + 0) nv.toList)[(L.shift + off) + i]? = some v ∧ VRel φ b v
                rw [setRange_get _ _ _ (by omega)]
                by_cases hi : i < old.length
                · rw [List.getElem?_append_left hi] at hb
                  rw [if_neg (by omega)]
                  have := takeAt_get hold hb
                  obtain ⟨v, hv, hr⟩ := o5 _ _ this
                  exact ⟨v, by rw [← hv]; congr 1; omega, hr⟩
                · rw [List.getElem?_append_right (by omega)] at hb
                  have hin := (List.getElem?_eq_some_iff.1 hb).1
                  rw [if_pos (by omega)]
                  obtain ⟨v, hv, hr⟩ := hn.get hb
                  refine ⟨v, ?_, hr⟩
                  rw [← hv]; congr 1; omega
            obtain ⟨r1, x1⟩ := regrow r hL hg rfl a1 a2 a3 a4 a5 a6 hobj rfl
            refine ⟨_, w', _, Af ad len c w' rfl hcn (by rw [had, add_at]; exact hrun), r1, x1, ?_⟩
            refine .upto _ 0 (len + n) e c ⟨L.block, L.shift + off, L.size⟩ ad (by simp [Map.put]) hcn ?_ (by omega)
            intro _; rw [had]; simp [Loc.at_]
          · obtain ⟨r1, x1⟩ := kill_obj r hL hg rfl
            exact new_ (h.set id .dead) (some ad) len c old us.toArray r1 x1 rfl (by simpa using u1) s1 u2 (by omega) hroom
        · cases he
    · cases he
  | _ => simp only [appendCells, reduceCtorEq] at he


section
variable {P : Program} {tb : Types} (T : TbOk P tb) {φ : Map} {h h' : Heap} {w : World} (r : HRel φ h w)

include T r in
theorem append_sound {sT xT e : TypeId} {i j ei : TInfo} {z : List AVal} (hi : tb.get sT = some i) (hj : tb.get xT = some j) (hd : i.desc = .slice e) (hjd : (∃ e', j.desc = .slice e') ∨ j.desc = .string) (hei : tb.get e = some ei) (hz : zerosOf ei = some z)
    {s x a : AVal} {sv xv : Value} (hs : VRel φ s sv) (hx : VRel φ x xv) (he : appendTo h ei.size ei.bytes s x = some (a, h')) (type : TypeId) :
    Does P φ h w (Builtin.append_ #[sT, xT] type #[sv, xv]) a h' := by
  unfold appendTo at he
  split at he
  · cases he
  · rename_i n new hsh
    split at he
    · cases he
    · rename_i hone
      obtain ⟨s1, s2, s3⟩ := shown_sound (P := P) r hx hsh
      obtain ⟨us, u1, u2⟩ := s3 n (Nat.le_refl _)
      rw [← s1, List.take_length] at u1
      obtain ⟨zv, hzv, hzl, _, hzr⟩ := zerosOf_spec hz
      have hu : ∀ w, (underlying sT).run P w = .ok (.slice e) w := fun w => by rw [← hd]; exact run_underlying_tb T hi w
      have hux : ∀ w, (underlying xT).run P w = .ok j.desc w := fun w => run_underlying_tb T hj w
      have hsz : ∀ w, (sizeOf e).run P w = .ok ei.size w := fun w => run_sizeOf_tb T hei w
      have hxd : ∀ k, j.desc = .int k → False := by intro k hk; rcases hjd with ⟨e', h'⟩ | h' <;> rw [h'] at hk <;> cases hk
      have hzero : ∀ w, (zeroValue e).run P w = .ok zv w := fun w => run_zeroValue_tb T hei w hzv
      obtain ⟨ti, hti, _, hby, _⟩ := run_typeInfo_tb T hei
      have hzsz : zv.cells.size = ei.size := by
        have := (hzr φ).length
        simp only [Array.length_toList] at this
        omega
      refine appendCells_sound (elem := e) (z := zv.cells) r hs he s1 hone (nv := us.toArray) (by simpa using u1) hzsz _ ?_ ?_ ?_
      · intro ad len c w' e1 hle hst
        subst e1
        exact run_append_fits hu hux hsz hxd s2 (by simpa using u2 w.drawn) hle hst type
      · intro e1 hn0
        subst e1; subst hn0
        exact run_append_nil hu hux hsz hxd s2 (by simpa using u2 w.drawn) type
      · intro base len c ov e1 hf hlt hroom
        subst e1
        rw [← hby] at hroom
        exact run_append_grows hu hux hsz hti hxd s2 u2 hf hzero hlt hroom type

include T r in
theorem appendZ_sound {sT xT e : TypeId} {i j ei : TInfo} {z : List AVal} {k : IntKind} (hi : tb.get sT = some i) (hj : tb.get xT = some j) (hd : i.desc = .slice e) (hjd : j.desc = .int k) (hei : tb.get e = some ei) (hz : zerosOf ei = some z) (hpos : ei.size ≠ 0)
    {s a : AVal} {n : Nat} {sv : Value} {kd : IntKind} (hs : VRel φ s sv) (hn : n ≤ 2147483648) (hn0 : 0 < n) (hb : ei.bytes * n ≤ 281474976710656) (he : appendCells h z.length ei.bytes s n (reps z n) = some (a, h')) (type : TypeId) :
    Does P φ h w (Builtin.append_ #[sT, xT] type #[sv, .int kd n]) a h' := by
  obtain ⟨zv, hzv, hzl, hzo, hzr⟩ := zerosOf_spec hz
  have hu : ∀ w, (underlying sT).run P w = .ok (.slice e) w := fun w => by rw [← hd]; exact run_underlying_tb T hi w
  have hux : ∀ w, (underlying xT).run P w = .ok j.desc w := fun w => run_underlying_tb T hj w
  have hsz : ∀ w, (sizeOf e).run P w = .ok ei.size w := fun w => run_sizeOf_tb T hei w
  have hzero : ∀ w, (zeroValue e).run P w = .ok zv w := fun w => run_zeroValue_tb T hei w hzv
  obtain ⟨ti, hti, _, hby, _⟩ := run_typeInfo_tb T hei
  have hzsz : zv.cells.size = ei.size := by
    have := (hzr φ).length
    simp only [Array.length_toList] at this
    omega
  have hnz : n * ei.size ≠ 0 := Nat.mul_ne_zero (by omega) hpos
  rw [hzl] at he
  have hrel := reps_rel (hzr φ) (by omega) n
  have hone : (reps z n).all AVal.one = true := by
    clear he hrel hnz hb hn0 hn
    induction n with
    | zero => rfl
    | succ n ih => simp only [reps, List.all_append, hzo, ih, Bool.and_self]
  refine appendCells_sound (elem := e) (z := zv.cells) r hs he (by simp [reps_length, hzl]) hone (nv := Builtin.zeroCells zv.cells n) ?_ hzsz _ ?_ ?_ ?_
  · rw [hzl, ← hzsz] at hrel; exact hrel
  · intro ad len c w' e1 hle hst
    subst e1
    exact run_appendZ_fits hu hux hsz hjd hn (by rw [hby]; exact hb) hzero hnz hti hle hst type
  · intro e1 h0; omega
  · intro base len c ov e1 hf hlt hroom
    subst e1
    rw [← hby] at hroom
    exact run_appendZ_grows hu hux hsz hjd hn (by rw [hby]; exact hb) hzero hnz hti hf hlt hroom type

/-! ### Copy -/
include T r in
theorem copy_sound {sT : TypeId} {e : TypeId} {i ei : TInfo} (hi : tb.get sT = some i) (hd : i.desc = .slice e) (hei : tb.get e = some ei) {d s a : AVal} {dv sv : Value} (hdr : VRel φ d dv) (hs : VRel φ s sv)
    {call : FuncId → List AVal → Heap → Option (AVal × Heap)} (he : evalWrite call h (.copy ei.size d s) = some (a, h')) (rest : List TypeId) (type : TypeId) : Does P φ h w (Builtin.copy_ ⟨sT :: rest⟩ type #[dv, sv]) a h' := by
  have hu := run_underlying_tb T hi w
  rw [hd] at hu
  have hsz := run_sizeOf_tb T hei w
  simp only [evalWrite] at he
  have slice : ∀ (id off dlen : Nat) (cap : Cap) (c : Nat) (L : Loc) (ad : Addr), d = .slice id off dlen cap → dv = .slice (some ad) dlen c → φ id = some L → dlen ≤ c → (c ≠ 0 → ad = L.at_ off) → Does P φ h w (Builtin.copy_ ⟨sT :: rest⟩ type #[dv, sv]) a h' := by
    intro id off dlen cap c L ad e1 e2 hL hl hadr
    subst e1; subst e2
    simp only [] at he
    split at he
    · rename_i n cs hsh
      obtain ⟨s1, s2, s3⟩ := shown_sound (P := P) r hs hsh
      split at he
      · rename_i ds hds
        split at he
        · rename_i h1 hp; cases he
          obtain ⟨us, u1, u2⟩ := s3 (Nat.min n dlen) (Nat.min_le_left _ _)
          have hds' : ds = cs.take (Nat.min n dlen * ei.size) := by
            have := (takeAt_spec hds).2
            simpa using this
          rw [← hds'] at u1
          obtain ⟨w', hrun, r', x'⟩ := putAt_sound (P := P) r hL hp u1
          have hfc := u2 w.drawn
          have hst : (storeCells ad us).run P w = .ok () w' := by
            by_cases h0 : c = 0
            · have hd0 : dlen = 0 := by omega
              have : us = [] := by
                have h1 := u1.length
                have h2 := takeAt_length hds
                subst hd0
                have h3 : Nat.min n 0 = 0 := Nat.min_zero n
                rw [h3, Nat.zero_mul] at h2
                cases us with
                | nil => rfl
                | cons => simp at h1; omega
              rw [this] at hrun ⊢
              exact hrun
            · rw [hadr h0]; exact hrun
          refine ⟨.int .i64 (Nat.min n dlen), w', φ, ?_, r', x', .int _ _⟩
          simp only [Builtin.copy_, Sem.run_bind, hu, Result.andThen_ok, hsz, s2, List.getElem?_toArray, List.getElem?_cons_zero, List.getElem?_cons_succ]
          have hfc' : (Builtin.firstCells ei.size (Nat.min n dlen) sv).run P w = .ok us.toArray w := hfc
          simp only [hfc', Result.andThen_ok, hst, goInt, Sem.run_pure]
        · cases he
      · cases he
    · cases he
  cases hdr with
  | exact id off len c L ad hL hl hadr => exact slice id off len _ c L ad rfl rfl hL hl hadr
  | upto id off len e' c L ad hL hl hadr hs' => exact slice id off len _ c L ad rfl rfl hL hl hadr
  | nilslice =>
    simp only [] at he
    split at he
    · rename_i q hsh
      cases he
      obtain ⟨n, cs⟩ := q
      obtain ⟨s1, s2, s3⟩ := shown_sound (P := P) r hs hsh
      obtain ⟨us, u1, u2⟩ := s3 0 (Nat.zero_le _)
      have hfc := u2 w.drawn
      have h3 : Nat.min n 0 = 0 := Nat.min_zero n
      have hfc' : (Builtin.firstCells ei.size (Nat.min n 0) sv).run P w = .ok us.toArray w := by rw [h3]; exact hfc
      refine ⟨.int .i64 0, w, φ, ?_, r, Ext.refl _ _ _, .int _ _⟩
      simp only [Builtin.copy_, Sem.run_bind, hu, Result.andThen_ok, hsz, s2, List.getElem?_toArray, List.getElem?_cons_zero, List.getElem?_cons_succ, hfc', goInt, Sem.run_pure]
      simp
    · cases he
  | _ => simp only [reduceCtorEq] at he

end
end Go.AM
