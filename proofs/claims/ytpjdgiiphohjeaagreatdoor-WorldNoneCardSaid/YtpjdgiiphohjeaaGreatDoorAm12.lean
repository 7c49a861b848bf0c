import Derived.Test.YtpjdgiiphohjeaaGreatDoorAm11
/-! Maps written; all writing operations but calls. -/
namespace Go.AM

theorem MRels.set {φ : Map} {es : List (AVal × AVal × Nat)} {fs : List MapEntry} (h : MRels φ es fs) {i : Nat} {v : AVal} {k u : Value} {k' : AVal} {e : MapEntry} (hv : VRel φ v u) (hk : VRel φ k' k) (hi : fs[i]? = some e) (he : ∃ v0 b, es[i]? = some (k', v0, b)) :
    MRels φ (mapSet es i v) (fs.modify i fun e => { e with key := k, val := u }) := by
  induction h generalizing i with
  | nil => simp at hi
  | cons k1 v1 b1 e1 es fs hk1 hv1 hb1 h ih =>
    obtain ⟨v0, b, he⟩ := he
    cases i with
    | zero =>
      simp at he hi
      obtain ⟨rfl, rfl, rfl⟩ := he
      subst hi
      simp only [mapSet, List.modify_zero_cons]
      exact .cons _ _ _ _ _ _ hk hv hb1 h
    | succ i =>
      simp only [List.getElem?_cons_succ] at he hi
      simp only [mapSet, List.modify_succ_cons]
      exact .cons _ _ _ _ _ _ hk1 hv1 hb1 (ih hi ⟨v0, b, he⟩)

theorem MRels.push {φ : Map} {es : List (AVal × AVal × Nat)} {fs : List MapEntry} (h : MRels φ es fs) {k v : AVal} {k' v' : Value} (b : Nat) (hk : VRel φ k k') (hv : VRel φ v v') : MRels φ (es ++ [(k, v, b)]) (fs ++ [⟨k', v', b⟩]) := by
  induction h with
  | nil => exact .cons _ _ _ _ _ _ hk hv rfl .nil
  | cons k1 v1 b1 e1 es fs hk1 hv1 hb1 h ih => exact .cons _ _ _ _ _ _ hk1 hv1 hb1 ih

theorem MRels.erase {φ : Map} {es : List (AVal × AVal × Nat)} {fs : List MapEntry} (h : MRels φ es fs) (i : Nat) : MRels φ (es.eraseIdx i) (fs.eraseIdx i) := by
  induction h generalizing i with
  | nil => simp; exact .nil
  | cons k1 v1 b1 e1 es fs hk1 hv1 hb1 h ih =>
    cases i with
    | zero => simpa using h
    | succ i => simp only [List.eraseIdx_cons_succ]; exact .cons _ _ _ _ _ _ hk1 hv1 hb1 (ih i)

theorem keyStays {P : Program} {w : World} {kk : Leaf} {φ : Map} {k : AVal} {x : Value} (hx : VRel φ k x) (hs : sameKey kk k k = some true) : (Instr.keyThatStays x x).run P w = .ok x w := by
  have key : ∀ n, Instr.sameBits n x x = true := by
    intro n
    unfold sameKey at hs
    split at hs <;> first | (cases hs; done) | skip
    · cases hx; cases n <;> simp [Instr.sameBits]
    · cases hx
      have : ∀ q : ByteArray, (q == q) = true := fun q => by rw [bytes_beq]; simp
      cases n <;> simp [Instr.sameBits, this]
    · cases hx; cases n <;> simp [Instr.sameBits]
  unfold Instr.keyThatStays
  rw [if_pos (key _)]
  rfl

theorem findEntry_self {kk : Leaf} {k : AVal} : ∀ {es : List (AVal × AVal × Nat)} {i j : Nat} {v : AVal}, findEntry kk k es i = some (some (j, v)) → sameKey kk k k = some true := by
  intro es
  induction es with
  | nil => intro i j v h; simp [findEntry] at h
  | cons e es ih =>
    intro i j v h
    obtain ⟨k', v', b⟩ := e
    simp only [findEntry] at h
    split at h
    · rename_i hs
      unfold sameKey at hs ⊢
      split at hs <;> first | (cases hs; done) | skip
      · simp
      · simp
      · simp
    · exact ih h
    · cases h

/-- A map's block is written. -/
theorem setMap {P : Program} {φ : Map} {h : Heap} {w : World} (r : HRel φ h w) {id : Nat} {L : Loc} {es es' : List (AVal × AVal × Nat)} {c c' : Nat} {fs fs' : Array MapEntry} (e : φ id = some L) (g : h.get id = some (.map es c))
    (hb : w.heap[L.block]? = some (.map fs c)) (hm : MRels φ es' fs'.toList) : ∃ w', (setObj L.block (.map fs' c')).run P w = .ok () w' ∧ HRel φ (h.set id (.map es' c')) w' ∧ Ext φ h w φ (h.set id (.map es' c')) w' := by
  have hlt := (r.rng id L e).2
  refine ⟨{ w with heap := w.heap.setIfInBounds L.block (.map fs' c') }, by simp [setObj, Sem.run, hb], ?_⟩
  refine rewrite_obj r e g rfl rfl rfl rfl (by simp) ?_ (x := .map fs' c') (by simp [hlt]) ⟨fs', rfl, hm⟩
  intro b hbn
  exact Array.getElem?_setIfInBounds_ne (fun h => hbn h.symm)

section
variable {P : Program} {tb : Types} (T : TbOk P tb) {φ : Map} {h h' : Heap} {w : World} (r : HRel φ h w)

include T r in
theorem mapUpdate_sound {t kt e : TypeId} {ti ki : TInfo} {kk : Leaf} (ht : tb.get t = some ti) (hd : ti.desc = .map kt e) (hki : tb.get kt = some ki) (hk : keyDesc kk ki.desc) {m k v a : AVal} {mv kv vv : Value} (hm : VRel φ m mv) (hkv : VRel φ k kv) (hv : VRel φ v vv)
    {call : FuncId → List AVal → Heap → Option (AVal × Heap)} (he : evalWrite call h (.mapUpdate kk m k v) = some (a, h')) : ∃ w', (Instr.mapUpdate t mv kv vv).run P w = .ok () w' ∧ HRel φ h' w' ∧ Ext φ h w φ h' w' ∧ a = undefA := by
  have hu := run_underlying_tb T ht w
  rw [hd] at hu
  have huk := run_underlying_tb T hki w
  have hck := run_checkKey (P := P) hk huk kv false
  cases hm <;> simp only [evalWrite, reduceCtorEq] at he
  rename_i id L hL
  split at he
  · rename_i es clock hg
    obtain ⟨fs, hb, hmr⟩ := r.obj id L _ hL hg
    have hgo : (getObj L.block).run P w = .ok (.map fs clock) w := by simp [getObj, Sem.run, hb]
    split at he
    · rename_i j v0 hone hfe
      cases he
      rcases findEntry_sound hk hkv hmr hfe with ⟨h0, _⟩ | ⟨j2, v2, u, h0, h1, h2, h3, ⟨e0, h4, h5, h6⟩, ⟨b0, h7⟩⟩
      · cases h0
      · cases h0
        simp only [Nat.sub_zero, Array.getElem?_toList] at h4 h7
        have hm' := hmr.set (v := v) (u := vv) (k := kv) (k' := k) hv hkv (i := j) (e := e0) (by simpa using h4) ⟨_, _, h7⟩
        obtain ⟨w', w1, w2, w3⟩ := setMap (P := P) (c' := clock) (fs' := fs.modify j fun e => { e with key := kv, val := vv }) r hL hg hb (by simpa using hm')
        refine ⟨w', ?_, w2, w3, rfl⟩
        have hst := keyStays (P := P) (w := w) hkv (findEntry_self hfe)
        have hold : ((fs[j]?).map (·.key)).getD kv = kv := by rw [h4]; simp [h5]
        simp only [Instr.mapUpdate, Sem.run_bind, hu, Result.andThen_ok, hgo, hck, Instr.findKey, huk, h1, Sem.run_pure, hold, hst, w1]
    · rename_i hone hfe
      cases he
      rcases findEntry_sound hk hkv hmr hfe with ⟨_, h1⟩ | ⟨j2, v2, u, h0, _⟩
      · have hm' := hmr.push clock hkv hv
        obtain ⟨w', w1, w2, w3⟩ := setMap (P := P) (c' := clock + 1) (fs' := fs.push ⟨kv, vv, clock⟩) r hL hg hb (by simpa using hm')
        refine ⟨w', ?_, w2, w3, rfl⟩
        simp only [Instr.mapUpdate, Sem.run_bind, hu, Result.andThen_ok, hgo, hck, Instr.findKey, huk, h1, Sem.run_pure, w1]
      · cases h0
    · cases he
  · cases he

include T r in
theorem delete_sound {t kt e : TypeId} {ti ki : TInfo} {kk : Leaf} (ht : tb.get t = some ti) (hd : ti.desc = .map kt e) (hki : tb.get kt = some ki) (hk : keyDesc kk ki.desc) {m k a : AVal} {mv kv : Value} (hm : VRel φ m mv) (hkv : VRel φ k kv)
    {call : FuncId → List AVal → Heap → Option (AVal × Heap)} (he : evalWrite call h (.delete kk m k) = some (a, h')) (rest : List TypeId) (type : TypeId) : Does P φ h w (Builtin.delete_ ⟨t :: rest⟩ type #[mv, kv]) a h' := by
  have hu := run_underlying_tb T ht w
  rw [hd] at hu
  have huk := run_underlying_tb T hki w
  cases hm <;> simp only [evalWrite, reduceCtorEq] at he
  rename_i id L hL
  split at he
  · rename_i es clock hg
    obtain ⟨fs, hb, hmr⟩ := r.obj id L _ hL hg
    have hck := run_checkKey (P := P) hk huk kv fs.isEmpty
    have hgo : (getObj L.block).run P w = .ok (.map fs clock) w := by simp [getObj, Sem.run, hb]
    split at he
    · rename_i j v0 hfe
      cases he
      rcases findEntry_sound hk hkv hmr hfe with ⟨h0, _⟩ | ⟨j2, v2, u, h0, h1, _⟩
      · cases h0
      · cases h0
        have hm' := hmr.erase j
        obtain ⟨w', w1, w2, w3⟩ := setMap (P := P) (c' := clock) (fs' := fs.eraseIdxIfInBounds j) r hL hg hb (by simpa using hm')
        refine ⟨.tuple #[], w', φ, ?_, w2, w3, .tuple _ _ .nil⟩
        simp only [Builtin.delete_, Sem.run_bind, hu, Result.andThen_ok, hgo, hck, Instr.findKey, huk, h1, Sem.run_pure, w1, List.getElem?_toArray, List.getElem?_cons_zero, List.getElem?_cons_succ]
    · rename_i hfe
      cases he
      rcases findEntry_sound hk hkv hmr hfe with ⟨_, h1⟩ | ⟨j2, v2, u, h0, _⟩
      · obtain ⟨w', w1, w2, w3⟩ := setMap (P := P) (c' := clock) (fs' := fs) r hL hg hb hmr
        refine ⟨.tuple #[], w', φ, ?_, w2, w3, .tuple _ _ .nil⟩
        simp only [Builtin.delete_, Sem.run_bind, hu, Result.andThen_ok, hgo, hck, Instr.findKey, huk, h1, Sem.run_pure, w1, List.getElem?_toArray, List.getElem?_cons_zero, List.getElem?_cons_succ]
      · cases h0
    · cases he
  · cases he

include T r in
theorem clear_sound {t e : TypeId} {ti ei : TInfo} {z : List AVal} (ht : tb.get t = some ti) (hd : ti.desc = .slice e) (hei : tb.get e = some ei) (hz : zerosOf ei = some z) (hpos : ei.size ≠ 0) {x a : AVal} {xv : Value} (hx : VRel φ x xv)
    {call : FuncId → List AVal → Heap → Option (AVal × Heap)} (he : evalWrite call h (.clear z x) = some (a, h')) (type : TypeId) : Does P φ h w (Builtin.clear_ #[t] type #[xv]) a h' := by
  have hu := run_underlying_tb T ht w
  rw [hd] at hu
  obtain ⟨zv, hzv, hzl, hzo, hzr⟩ := zerosOf_spec hz
  have hzero := run_zeroValue_tb T hei w hzv
  have slice : ∀ (id off n : Nat) (cap : Cap) (c : Nat) (L : Loc) (ad : Addr), x = .slice id off n cap → xv = .slice (some ad) n c → φ id = some L → n ≤ c → (c ≠ 0 → ad = L.at_ off) → Does P φ h w (Builtin.clear_ #[t] type #[xv]) a h' := by
    intro id off n cap c L ad e1 e2 hL hl hadr
    subst e1; subst e2
    simp only [evalWrite] at he
    split at he
    · rename_i h0
      have h0' := Nat.eq_of_beq_eq_true h0
      subst h0'
      cases he
      exact ⟨.tuple #[], w, φ, by simp [Builtin.clear_, hu], r, Ext.refl _ _ _, .tuple _ _ .nil⟩
    · rename_i h0
      have h0' := Nat.ne_of_beq_eq_false h0
      cases hp : putAt h id off (reps z n) with
      | none => simp [hp] at he
      | some h1 =>
        simp [hp] at he
        obtain ⟨rfl, rfl⟩ := he
        have hrel := reps_rel (hzr φ) (by omega) n
        have hzsz : zv.cells.size = ei.size := by
          have := (hzr φ).length
          simp only [Array.length_toList] at this
          omega
        rw [hzl, ← hzsz] at hrel
        obtain ⟨w', hrun, r', x'⟩ := putAt_sound (P := P) r hL hp hrel
        have had := hadr (by omega)
        subst had
        refine ⟨.tuple #[], w', φ, ?_, r', x', .tuple _ _ .nil⟩
        have hrun' : (storeCells (L.at_ off) (Builtin.zeroCells zv.cells n).toList).run P w = .ok () w' := hrun
        cases n with
        | zero => exact absurd rfl h0'
        | succ n => simp [Builtin.clear_, hu, hzero, hrun']
  cases hx with
  | exact id off len c L ad hL hl hadr => exact slice id off len _ c L ad rfl rfl hL hl hadr
  | upto id off len e' c L ad hL hl hadr hs => exact slice id off len _ c L ad rfl rfl hL hl hadr
  | nilslice =>
    simp only [evalWrite] at he
    cases he
    exact ⟨.tuple #[], w, φ, by simp [Builtin.clear_, hu], r, Ext.refl _ _ _, .tuple _ _ .nil⟩
  | _ => simp only [evalWrite, reduceCtorEq] at he

/-- What a writing operation that is no call comes to. -/
def Works (P : Program) (φ : Map) (h : Heap) (w : World) (ρ' : Operand → Value) (op : Op) (a : AVal) (h' : Heap) : Prop :=
  ∀ dst type pos after guard, ∃ nx v w' φ', (execOp ρ' ⟨dst, op, type, pos, after, guard⟩).run P w = .ok nx w' ∧ (nx = .value v ∨ nx = .skip ∧ v = undef) ∧ HRel φ' h' w' ∧ Ext φ h w φ' h' w' ∧ VRel φ' a v

theorem works_value {ρ' : Operand → Value} {op : Op} {a : AVal} (hd : ∀ dst type pos after guard, ∃ S : Sem Value, Does P φ h w S a h' ∧ execOp ρ' ⟨dst, op, type, pos, after, guard⟩ = (do pure (Next.value (← S)))) : Works P φ h w ρ' op a h' := by
  intro dst type pos after guard
  obtain ⟨S, ⟨v, w', φ', h1, h2, h3, h4⟩, hS⟩ := hd dst type pos after guard
  exact ⟨.value v, v, w', φ', by rw [hS]; simp [h1], .inl rfl, h2, h3, h4⟩

theorem works_skip {ρ' : Operand → Value} {op : Op} {a : AVal} (hd : ∀ dst type pos after guard, ∃ (S : Sem Unit) (w' : World), S.run P w = .ok () w' ∧ HRel φ h' w' ∧ Ext φ h w φ h' w' ∧ execOp ρ' ⟨dst, op, type, pos, after, guard⟩ = (do S; pure Next.skip)) (ha : a = undefA) : Works P φ h w ρ' op a h' := by
  intro dst type pos after guard
  obtain ⟨S, w', h1, h2, h3, hS⟩ := hd dst type pos after guard
  subst ha
  exact ⟨.skip, undef, w', φ, by rw [hS]; simp [h1], .inr ⟨rfl, rfl⟩, h2, h3, .tuple _ _ .nil⟩

theorem opds_cons {xs : List Operand} {y : Opd} {ys : List Opd} (h : opdsOf xs = some (y :: ys)) : ∃ u us, xs = u :: us ∧ opdOf u = some y ∧ opdsOf us = some ys := by
  cases xs with
  | nil => simp [opdsOf] at h
  | cons x xs =>
    simp only [opdsOf] at h
    split at h
    · rename_i y' ys' h1 h2
      cases h
      exact ⟨x, xs, rfl, h1, h2⟩
    · cases h

/-- Is it a call? -/
def AOp.isCall {α : Type} : AOp α → Bool
  | .call .. => true
  | _ => false

variable {ρ : Opd → AVal} {ρ' : Operand → Value} (H : PRel φ ρ ρ')

include T r H in
theorem builtin_write_sound {b : Builtin} {args : Array Operand} {argTypes : Array TypeId} {opds : List Opd} {ao : AOp Opd} (hx : opdsOf args.toList = some opds) (hc : compBuiltin tb b argTypes.toList opds = some ao)
    {call : FuncId → List AVal → Heap → Option (AVal × Heap)} {a : AVal} (he : evalWrite call h (ao.map ρ) = some (a, h')) (type : TypeId) (consts : Array Bool) :
    ∃ S : Sem Value, Does P φ h w S a h' ∧ builtin b argTypes type consts (args.map ρ') = (do pure (Next.value (← S))) := by
  obtain ⟨argTypes⟩ := argTypes
  obtain ⟨args⟩ := args
  unfold compBuiltin at hc
  simp only [] at hx hc
  split at hc
  · repeat' split at hc
    all_goals first
      | (cases hc; done)
      | (cases hc; simp only [AOp.map, evalWrite, reduceCtorEq] at he)
  · repeat' split at hc
    all_goals first
      | (cases hc; done)
      | (cases hc; simp only [AOp.map, evalWrite, reduceCtorEq] at he)
  · -- append
    rename_i t u s x
    split at hc
    · rename_i i j hi hj
      obtain ⟨s', x', rfl, hs', hx'⟩ := opds_two hx
      split at hc
      · rename_i e e' hd hjd
        split at hc
        · rename_i ei hei
          split at hc
          · rename_i z hz; cases hc
            simp only [AOp.map, evalWrite] at he
            refine ⟨_, append_sound T r hi hj hd (.inl ⟨_, hjd⟩) hei hz (H _ _ hs') (H _ _ hx') he type, by simp only [builtin, List.map_toArray, List.map_cons, List.map_nil]⟩
          · cases hc
        · cases hc
      · rename_i e hd hjd
        split at hc
        · rename_i ei hei
          split at hc
          · rename_i z hz; cases hc
            simp only [AOp.map, evalWrite] at he
            refine ⟨_, append_sound T r hi hj hd (.inr hjd) hei hz (H _ _ hs') (H _ _ hx') he type, by simp only [builtin, List.map_toArray, List.map_cons, List.map_nil]⟩
          · cases hc
        · cases hc
      · rename_i e k hd hjd
        split at hc
        · rename_i ei hei
          split at hc
          · rename_i z hz hpos; cases hc
            simp only [AOp.map, evalWrite] at he
            split at he
            · rename_i n hn
              split at he
              · rename_i hb
                simp only [Bool.and_eq_true] at hb
                obtain ⟨kd, _, e2, hle⟩ := asNat_spec (H _ _ hx') hn
                have := appendZ_sound T r hi hj hd hjd hei hz (Nat.ne_of_beq_eq_false hpos) (kd := kd) (H _ _ hs') hle (by simpa [Nat.blt_eq] using hb.1) (Nat.le_of_ble_eq_true hb.2) he type
                refine ⟨_, this, ?_⟩
                simp only [builtin, List.map_toArray, List.map_cons, List.map_nil, e2]
              · cases he
            · cases he
          · cases hc
        · cases hc
      · cases hc
    · cases hc
  · -- copy
    rename_i t rest d s
    split at hc
    · rename_i i hi
      obtain ⟨d', s', rfl, hd', hs'⟩ := opds_two hx
      split at hc
      · rename_i e hd
        split at hc
        · rename_i ei hei; cases hc
          simp only [AOp.map] at he
          refine ⟨_, copy_sound T r hi hd hei (H _ _ hd') (H _ _ hs') he rest type, by simp only [builtin, List.map_toArray, List.map_cons, List.map_nil]⟩
        · cases hc
      · cases hc
    · cases hc
  · -- delete
    rename_i t rest m k
    split at hc
    · rename_i i hi
      obtain ⟨m', k', rfl, hm', hk'⟩ := opds_two hx
      split at hc
      · rename_i kt e hd
        split at hc
        · rename_i ki hki
          split at hc
          · cases hc
          · rename_i kk hne hkk; cases hc
            simp only [AOp.map] at he
            refine ⟨_, delete_sound T r hi hd hki (keyDesc_of hkk fun hp => hne hp) (H _ _ hm') (H _ _ hk') he rest type, by simp only [builtin, List.map_toArray, List.map_cons, List.map_nil]⟩
          · cases hc
        · cases hc
      · cases hc
    · cases hc
  · -- clear
    rename_i t x
    split at hc
    · rename_i i hi
      obtain ⟨x', rfl, hx'⟩ := opds_one hx
      split at hc
      · rename_i e hd
        split at hc
        · rename_i ei hei
          split at hc
          · rename_i z hz hpos; cases hc
            simp only [AOp.map] at he
            exact ⟨_, clear_sound T r hi hd hei hz (Nat.ne_of_beq_eq_false hpos) (H _ _ hx') he type, by simp only [builtin, List.map_toArray, List.map_cons, List.map_nil]⟩
          · cases hc
        · cases hc
      · cases hc
    · cases hc
  · cases hc; simp only [AOp.map, evalWrite, reduceCtorEq] at he
  · cases hc; simp only [AOp.map, evalWrite, reduceCtorEq] at he
  · cases hc

include T r H in
theorem write_sound {op : Op} {ao : AOp Opd} (hc : compOp tb op = some ao) (hcall : ao.isCall = false) {call : FuncId → List AVal → Heap → Option (AVal × Heap)} {a : AVal} (he : evalWrite call h (ao.map ρ) = some (a, h')) : Works P φ h w ρ' op a h' := by
  cases op <;> simp only [compOp] at hc
  case store t x y =>
    split at hc
    · rename_i i x' y' ht hx hy
      cases hc
      have hz := run_sizeOf_tb T ht w
      simp only [AOp.map] at he
      have hv := H _ _ hx
      obtain ⟨ux, hux⟩ : ∃ u, ρ' x = u := ⟨_, rfl⟩
      rw [hux] at hv
      generalize ρ x' = ax at hv he
      cases hv <;> simp only [evalWrite, reduceCtorEq] at he
      rename_i id off L hL
      split at he
      · rename_i hlen
        cases hp : putAt h id off (ρ y').cells with
        | none => simp [hp] at he
        | some h1 =>
          simp [hp] at he
          obtain ⟨rfl, rfl⟩ := he
          obtain ⟨m, vs, _, _, _, hone, _⟩ := putAt_spec hp
          have hrel := cells_rel (H _ _ hy) hone
          obtain ⟨w', hrun, r', x'⟩ := putAt_sound (P := P) r hL hp hrel
          refine works_skip (fun dst type pos after guard => ⟨Instr.storeAt t (ρ' x) (ρ' y), w', ?_, r', x', rfl⟩) rfl
          have hl := hrel.length
          simp only [Array.length_toList] at hl
          have hsz : (ρ' y).cells.size = i.size := by have := Nat.eq_of_beq_eq_true hlen; omega
          simp only [Instr.storeAt, hux, Instr.sureAddr, Sem.run_bind, Sem.run_pure, Result.andThen_ok, storeVar, hz, hsz, ne_eq, not_true_eq_false, if_false]
          exact hrun
      · cases he
    · cases hc
  case mapUpdate t m k v =>
    split at hc
    · rename_i ti m' k' v' ht hm hk hv
      split at hc
      · rename_i kt e hd
        split at hc
        · rename_i ki hki
          split at hc
          · cases hc
          · rename_i kk hne hkk; cases hc
            simp only [AOp.map] at he
            obtain ⟨w', h1, h2, h3, h4⟩ := mapUpdate_sound T r ht hd hki (keyDesc_of hkk fun hp => hne hp) (H _ _ hm) (H _ _ hk) (H _ _ hv) he
            exact works_skip (fun dst type pos after guard => ⟨_, w', h1, h2, h3, rfl⟩) h4
          · cases hc
        · cases hc
      · cases hc
    · cases hc
  case insert t m k v =>
    split at hc
    · rename_i ti m' k' v' ht hm hk hv
      split at hc
      · rename_i kt e hd
        split at hc
        · rename_i ki hki
          split at hc
          · cases hc
          · rename_i kk hne hkk; cases hc
            simp only [AOp.map] at he
            obtain ⟨w', h1, h2, h3, h4⟩ := mapUpdate_sound T r ht hd hki (keyDesc_of hkk fun hp => hne hp) (H _ _ hm) (H _ _ hk) (H _ _ hv) he
            exact works_skip (fun dst type pos after guard => ⟨_, w', h1, h2, h3, rfl⟩) h4
          · cases hc
        · cases hc
      · cases hc
    · cases hc
  case binOp op t x y yt =>
    cases hx : opdOf x <;> cases hy : opdOf y <;> simp only [hx, hy, bind2, reduceCtorEq] at hc
    cases hc; simp only [AOp.map, evalWrite, reduceCtorEq] at he
  case convert s d x =>
    cases hx : convOf tb s d <;> cases hy : opdOf x <;> simp only [hx, hy, bind2, reduceCtorEq] at hc
    cases hc; simp only [AOp.map, evalWrite, reduceCtorEq] at he
  case makeFunc fn a b =>
    cases fn <;> simp only [reduceCtorEq] at hc
    cases hx : opdsOf a.toList <;> cases hy : opdsOf b.toList <;> simp only [hx, hy, bind2, reduceCtorEq] at hc
    cases hc; simp only [AOp.map, evalWrite, reduceCtorEq] at he
  case makeMap t rs =>
    cases rs <;> simp only [reduceCtorEq] at hc
    cases hc; simp only [AOp.map, evalWrite, reduceCtorEq] at he
  case call c =>
    obtain ⟨callee, args, argTypes⟩ := c
    simp only [] at hc
    split at hc
    · split at hc
      · cases hc; simp [AOp.isCall] at hcall
      · cases hc
    · rename_i b opds hx
      refine works_value fun dst type pos after guard => ?_
      obtain ⟨S, h1, h2⟩ := builtin_write_sound T r H hx hc he type (args.map fun | .const _ => true | _ => false)
      refine ⟨S, h1, ?_⟩
      simp only [execOp, resolve]
      exact h2
    · cases hc
  all_goals
    first
      | (cases hc; done)
      | (repeat' split at hc
         all_goals first
           | (cases hc; done)
           | (cases hc; simp only [AOp.map, evalWrite, reduceCtorEq] at he))

end
end Go.AM
