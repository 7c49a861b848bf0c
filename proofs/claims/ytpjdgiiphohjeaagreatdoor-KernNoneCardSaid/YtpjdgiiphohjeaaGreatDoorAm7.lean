import Derived.Test.YtpjdgiiphohjeaaGreatDoorAm6
/-! Reading operations, all of them. -/
namespace Go.AM

theorem gives_value {P : Program} {φ : Map} {w : World} {s : Sem Value} {a : AVal} (h : Gives P φ w s a) : ∃ v, (do pure (Next.value (← s)) : Sem Next).run P w = .ok (.value v) w ∧ VRel φ a v := by
  obtain ⟨v, h1, h2⟩ := h
  exact ⟨v, by simp [h1], h2⟩

theorem parts_struct {tb : Types} {φ : Map} {ρ : Opd → AVal} {ρ' : Operand → Value} (H : PRel φ ρ ρ') {fs : List Field} {place : Nat → Option (Nat × Nat)} (hp : ∀ (i : Nat) (f : Field) (fi : TInfo), fs[i]? = some f → tb.get f.type = some fi → place i = some (f.offset, fi.size)) :
    ∀ (ps : List (Nat × Operand)) (qs : List (Nat × Nat × Opd)), placesOf tb fs ps = some qs → PartsRel φ place (qs.map fun p => (p.1, p.2.1, ρ p.2.2)) (ps.map fun p => (p.1, ρ' p.2)) := by
  intro ps
  induction ps with
  | nil => intro qs h; simp [placesOf] at h; subst h; exact .nil
  | cons p ps ih =>
    obtain ⟨i, x⟩ := p
    intro qs h
    simp only [placesOf] at h
    split at h
    · rename_i f x' qs' hf hx hqs
      split at h
      · rename_i fi hfi
        cases h
        exact .cons _ _ _ _ _ _ _ (hp i f fi hf hfi) (H _ _ hx) (ih _ hqs)
      · cases h
    · cases h

theorem parts_rows {φ : Map} {ρ : Opd → AVal} {ρ' : Operand → Value} (H : PRel φ ρ ρ') (size : Nat) :
    ∀ (ps : List (Nat × Operand)) (qs : List (Nat × Nat × Opd)), rowsOf size ps = some qs → PartsRel φ (fun i => some (i * size, size)) (qs.map fun p => (p.1, p.2.1, ρ p.2.2)) (ps.map fun p => (p.1, ρ' p.2)) := by
  intro ps
  induction ps with
  | nil => intro qs h; simp [rowsOf] at h; subst h; exact .nil
  | cons p ps ih =>
    obtain ⟨i, x⟩ := p
    intro qs h
    simp only [rowsOf] at h
    split at h
    · rename_i x' qs' hx hqs
      cases h
      exact .cons _ _ _ _ _ _ _ rfl (H _ _ hx) (ih _ hqs)
    · cases h

theorem run_mapM_sizes {P : Program} {tb : Types} (T : TbOk P tb) (w : World) : ∀ (fs : List Field), fieldsKnown tb fs = true →
    ∃ ps : List (Nat × Nat), (fs.mapM fun f => (do pure (f.offset, ← sizeOf f.type) : Sem (Nat × Nat))).run P w = .ok ps w ∧ ∀ (i : Nat) (f : Field) (fi : TInfo), fs[i]? = some f → tb.get f.type = some fi → ps[i]? = some (f.offset, fi.size) := by
  intro fs
  induction fs with
  | nil => intro _; exact ⟨[], by simp, by simp⟩
  | cons f fs ih =>
    intro h
    simp only [fieldsKnown] at h
    split at h
    · rename_i fi hfi
      obtain ⟨ps, h1, h2⟩ := ih h
      refine ⟨(f.offset, fi.size) :: ps, ?_, ?_⟩
      · rw [List.mapM_cons]
        simp only [Sem.run_bind, run_sizeOf_tb T hfi, Result.andThen_ok, Sem.run_pure, h1]
      · intro i g gi hg hgi
        cases i with
        | zero => simp at hg; subst hg; rw [hfi] at hgi; cases hgi; rfl
        | succ i => simp at hg; simpa using h2 i g gi hg hgi
    · cases h

section
variable {P : Program} {tb : Types} (T : TbOk P tb) {φ : Map} {h : Heap} {w : World} (r : HRel φ h w) {ρ : Opd → AVal} {ρ' : Operand → Value} (H : PRel φ ρ ρ')

include T H in
theorem build_struct_sound {t : TypeId} {i : TInfo} {z : List AVal} {fs : Array Field} {ps : Array (Nat × Operand)} {qs : List (Nat × Nat × Opd)} (ht : tb.get t = some i) (hz : zerosOf i = some z) (hd : i.desc = .struct fs) (hk : fieldsKnown tb fs.toList = true)
    (hp : placesOf tb fs.toList ps.toList = some qs) {b : AVal} (he : evalRead h (.build z (qs.map fun p => (p.1, p.2.1, ρ p.2.2))) = some b) : Gives P φ w (Instr.build t (ps.map fun (i, x) => (i, ρ' x))) b := by
  have hu := run_underlying_tb T ht w
  rw [hd] at hu
  obtain ⟨zv, hzv, _, _, hzr⟩ := zerosOf_spec hz
  have hzero := run_zeroValue_tb T ht w hzv
  obtain ⟨pl, hm, hpl⟩ := run_mapM_sizes T w fs.toList hk
  simp only [evalRead] at he
  cases hf : fillAll z (qs.map fun p => (p.1, p.2.1, ρ p.2.2)) with
  | none => simp [hf] at he
  | some cs =>
    simp [hf] at he; subst he
    have hparts := parts_struct (place := fun i => pl.toArray[i]?) H (fun i f fi h1 h2 => by simpa using hpl i f fi h1 h2) ps.toList qs hp
    obtain ⟨us, e1, e2, e3⟩ := fill_sound hparts (hzr φ) hf
    refine ⟨.agg us, ?_, .agg _ _ e2⟩
    have hm' : (fs.mapM fun f => (do pure (f.offset, ← sizeOf f.type) : Sem (Nat × Nat))).run P w = .ok pl.toArray w := by
      rw [Array.mapM_eq_mapM_toList]
      simp only [Sem.run_map, hm, Result.andThen_ok]
    have hparts' : (ps.map fun (i, x) => (i, ρ' x)).toList = ps.toList.map fun p => (p.1, ρ' p.2) := by simp
    simp only [Instr.build, Sem.run_bind, hzero, Result.andThen_ok, hu, hm', hparts', e1, Sem.run_pure]

include T H in
theorem build_array_sound {t e : TypeId} {n : Nat} {i ei : TInfo} {z : List AVal} {ps : Array (Nat × Operand)} {qs : List (Nat × Nat × Opd)} (ht : tb.get t = some i) (hz : zerosOf i = some z) (hd : i.desc = .array n e) (hei : tb.get e = some ei)
    (hp : rowsOf ei.size ps.toList = some qs) {b : AVal} (he : evalRead h (.build z (qs.map fun p => (p.1, p.2.1, ρ p.2.2))) = some b) : Gives P φ w (Instr.build t (ps.map fun (i, x) => (i, ρ' x))) b := by
  have hu := run_underlying_tb T ht w
  rw [hd] at hu
  have hs := run_sizeOf_tb T hei w
  obtain ⟨zv, hzv, _, _, hzr⟩ := zerosOf_spec hz
  have hzero := run_zeroValue_tb T ht w hzv
  simp only [evalRead] at he
  cases hf : fillAll z (qs.map fun p => (p.1, p.2.1, ρ p.2.2)) with
  | none => simp [hf] at he
  | some cs =>
    simp [hf] at he; subst he
    have hparts := parts_rows H ei.size ps.toList qs hp
    obtain ⟨us, e1, e2, e3⟩ := fill_sound hparts (hzr φ) hf
    refine ⟨.agg us, ?_, .agg _ _ e2⟩
    have hparts' : (ps.map fun (i, x) => (i, ρ' x)).toList = ps.toList.map fun p => (p.1, ρ' p.2) := by simp
    simp only [Instr.build, Sem.run_bind, hzero, Result.andThen_ok, hu, hs, hparts', e1, Sem.run_pure]

/-- A call of a builtin, as the model resolves it. -/
theorem run_builtin_call (b : Builtin) (args : Array Operand) (argTypes : Array TypeId) (type : TypeId) :
    ((do let d ← resolve ρ' ⟨.builtin b, args, argTypes⟩ type; invoke d.target d.args : Sem Next).run P w) =
      (builtin b argTypes type (args.map fun | .const _ => true | _ => false) (args.map ρ')).run P w := by
  simp only [resolve, invoke, Sem.run_bind, Sem.run_pure, Result.andThen_ok]
  rfl

theorem opds_one {xs : List Operand} {y : Opd} (h : opdsOf xs = some [y]) : ∃ x, xs = [x] ∧ opdOf x = some y := by
  cases xs with
  | nil => simp [opdsOf] at h
  | cons x xs =>
    simp only [opdsOf] at h
    split at h
    · rename_i y' ys h1 h2
      cases h
      cases xs with
      | nil => exact ⟨x, rfl, h1⟩
      | cons z zs =>
        simp only [opdsOf] at h2
        split at h2 <;> cases h2
    · cases h

theorem opds_two {xs : List Operand} {y z : Opd} (h : opdsOf xs = some [y, z]) : ∃ u v, xs = [u, v] ∧ opdOf u = some y ∧ opdOf v = some z := by
  cases xs with
  | nil => simp [opdsOf] at h
  | cons x xs =>
    simp only [opdsOf] at h
    split at h
    · rename_i y' ys h1 h2
      cases h
      obtain ⟨v, rfl, h3⟩ := opds_one h2
      exact ⟨x, v, rfl, h1, h3⟩
    · cases h

include T r H in
theorem builtin_read_sound {b : Builtin} {args : Array Operand} {argTypes : Array TypeId} {opds : List Opd} {ao : AOp Opd} (hx : opdsOf args.toList = some opds) (hc : compBuiltin tb b argTypes.toList opds = some ao) {a : AVal} (he : evalRead h (ao.map ρ) = some a)
    (type : TypeId) (consts : Array Bool) : ∃ v, (builtin b argTypes type consts (args.map ρ')).run P w = .ok (.value v) w ∧ VRel φ a v := by
  unfold compBuiltin at hc
  obtain ⟨argTypes⟩ := argTypes
  obtain ⟨args⟩ := args
  simp only [] at hx hc
  split at hc
  · -- len
    rename_i t x
    split at hc
    · rename_i i ht
      have hu := run_underlying_tb T ht w
      obtain ⟨x', rfl, hx'⟩ := opds_one hx
      have hv := H _ _ hx'
      split at hc
      · rename_i hd
        cases hc
        rw [hd] at hu
        simp only [AOp.map] at he
        obtain ⟨ux, hux⟩ : ∃ u, ρ' x' = u := ⟨_, rfl⟩
        rw [hux] at hv
        generalize ρ x = ax at hv he
        cases hv <;> simp only [evalRead, reduceCtorEq] at he
        rename_i s
        cases he
        exact ⟨.int .i64 s.size, by simp [builtin, Builtin.len_, hu, hux, goInt], by simpa using VRel.int (φ := φ) .i64 s.size⟩
      · rename_i n e hd
        cases hc
        rw [hd] at hu
        simp only [AOp.map, evalRead] at he
        cases he
        exact ⟨.int .i64 n, by simp [builtin, Builtin.len_, hu, goInt], .int _ _⟩
      · rename_i ar hd
        rw [hd] at hu
        split at hc
        · rename_i ai hai
          have hua := run_underlying_tb T hai w
          split at hc
          · rename_i n e hda
            cases hc
            rw [hda] at hua
            simp only [AOp.map, evalRead] at he
            cases he
            exact ⟨.int .i64 n, by simp [builtin, Builtin.len_, hu, hua, goInt], .int _ _⟩
          · cases hc
        · cases hc
      · rename_i e hd
        cases hc
        rw [hd] at hu
        simp only [AOp.map] at he
        obtain ⟨ux, hux⟩ : ∃ u, ρ' x' = u := ⟨_, rfl⟩
        rw [hux] at hv
        generalize ρ x = ax at hv he
        cases hv
        case raw =>
          cases ux <;> simp only [evalRead, reduceCtorEq] at he
          cases he
          exact ⟨.int .i64 _, by simp [builtin, Builtin.len_, hu, hux, goInt], .int _ _⟩
        all_goals
          simp only [evalRead, reduceCtorEq] at he
        all_goals cases he
        all_goals exact ⟨.int .i64 _, by simp [builtin, Builtin.len_, hu, hux, goInt], .int _ _⟩
      · rename_i k e hd
        cases hc
        rw [hd] at hu
        simp only [AOp.map, evalRead] at he
        split at he
        · rename_i es hes
          cases he
          rcases entriesOf_sound (P := P) r hv hes with ⟨h0, rfl⟩ | ⟨bl, fs, clock, h0, hg, hmr⟩
          · exact ⟨.int .i64 0, by simp [builtin, Builtin.len_, hu, goInt, h0], by simpa using VRel.int (φ := φ) .i64 0⟩
          · have := hmr.length
            exact ⟨.int .i64 fs.size, by simp [builtin, Builtin.len_, hu, goInt, h0, hg], by rw [this]; simpa using VRel.int (φ := φ) .i64 fs.size⟩
        · cases he
      · cases hc
    · cases hc
  · -- cap
    rename_i t x
    split at hc
    · rename_i i ht
      have hu := run_underlying_tb T ht w
      obtain ⟨x', rfl, hx'⟩ := opds_one hx
      have hv := H _ _ hx'
      split at hc
      · rename_i e hd
        cases hc
        rw [hd] at hu
        simp only [AOp.map] at he
        obtain ⟨ux, hux⟩ : ∃ u, ρ' x' = u := ⟨_, rfl⟩
        rw [hux] at hv
        generalize ρ x = ax at hv he
        cases hv <;> simp only [evalRead, reduceCtorEq] at he <;> cases he
        all_goals exact ⟨.int .i64 _, by simp [builtin, Builtin.cap_, hu, hux, goInt], .int _ _⟩
      · cases hc
    · cases hc
  · -- append
    repeat' split at hc
    all_goals first
      | (cases hc; done)
      | (cases hc; simp only [AOp.map, evalRead, reduceCtorEq] at he)
  · repeat' split at hc
    all_goals first
      | (cases hc; done)
      | (cases hc; simp only [AOp.map, evalRead, reduceCtorEq] at he)
  · repeat' split at hc
    all_goals first
      | (cases hc; done)
      | (cases hc; simp only [AOp.map, evalRead, reduceCtorEq] at he)
  · repeat' split at hc
    all_goals first
      | (cases hc; done)
      | (cases hc; simp only [AOp.map, evalRead, reduceCtorEq] at he)
  · -- max
    rename_i x ys
    cases hc
    simp only [AOp.map] at he
    cases args with
    | nil => simp [opdsOf] at hx
    | cons x' xs =>
      simp only [opdsOf] at hx
      split at hx
      · rename_i y0 ys0 h1 h2
        cases hx
        have hv := H _ _ h1
        have hvs := H.list _ _ h2
        obtain ⟨ux, hux⟩ : ∃ u, ρ' x' = u := ⟨_, rfl⟩
        rw [hux] at hv
        generalize ρ x = ax at hv he
        cases hv <;> simp only [evalRead, reduceCtorEq] at he
        rename_i k n
        cases hf : foldMM true k n (ys.map ρ) with
        | none => simp [hf] at he
        | some q =>
          simp [hf] at he; subst he
          have := foldMM_sound (P := P) (w := w) hvs hf
          simp only [if_true] at this
          refine ⟨.int k q, ?_, .int _ _⟩
          simp [builtin, Builtin.max_, hux, this]
      · cases hx
  · rename_i x ys
    cases hc
    simp only [AOp.map] at he
    cases args with
    | nil => simp [opdsOf] at hx
    | cons x' xs =>
      simp only [opdsOf] at hx
      split at hx
      · rename_i y0 ys0 h1 h2
        cases hx
        have hv := H _ _ h1
        have hvs := H.list _ _ h2
        obtain ⟨ux, hux⟩ : ∃ u, ρ' x' = u := ⟨_, rfl⟩
        rw [hux] at hv
        generalize ρ x = ax at hv he
        cases hv <;> simp only [evalRead, reduceCtorEq] at he
        rename_i k n
        cases hf : foldMM false k n (ys.map ρ) with
        | none => simp [hf] at he
        | some q =>
          simp [hf] at he; subst he
          have := foldMM_sound (P := P) (w := w) hvs hf
          simp only [Bool.false_eq_true, if_false] at this
          refine ⟨.int k q, ?_, .int _ _⟩
          simp [builtin, Builtin.min_, hux, this]
      · cases hx
  · cases hc

/-- What a reading operation of the small machine gives, the model's operation gives, and memory stays as it is. -/
def Reads (P : Program) (φ : Map) (w : World) (ρ' : Operand → Value) (op : Op) (a : AVal) : Prop :=
  ∀ dst type pos after guard, ∃ v, (execOp ρ' ⟨dst, op, type, pos, after, guard⟩).run P w = .ok (.value v) w ∧ VRel φ a v

include T r H in
theorem read_sound {op : Op} {ao : AOp Opd} (hc : compOp tb op = some ao) {a : AVal} (he : evalRead h (ao.map ρ) = some a) : Reads P φ w ρ' op a := by
  intro dst type pos after guard
  cases op <;> simp only [compOp] at hc
  case move x =>
    split at hc
    · rename_i y hy; cases hc
      simp only [AOp.map, evalRead] at he; cases he
      exact ⟨_, rfl, H _ _ hy⟩
    · cases hc
  case assign x =>
    split at hc
    · rename_i y hy; cases hc
      simp only [AOp.map, evalRead] at he; cases he
      exact ⟨_, rfl, H _ _ hy⟩
    · cases hc
  case pick c x y =>
    split at hc
    · rename_i c' x' y' h1 h2 h3; cases hc
      have := pick_sound (P := P) (w := w) (H _ _ h1) (H _ _ h2) (H _ _ h3) he
      obtain ⟨v, e1, e2⟩ := this
      refine ⟨v, ?_, e2⟩
      simp only [Sem.run_bind] at e1
      simp only [execOp, Sem.run_bind]
      cases hx : (asBool (ρ' c)).run P w with
      | ok q w' => rw [hx] at e1; simp only [Result.andThen_ok, Sem.run_pure, Result.ok.injEq] at e1 ⊢; exact ⟨by rw [e1.1], e1.2⟩
      | halt q w' => rw [hx] at e1; simp at e1
    · cases hc
  case alloc e =>
    repeat' split at hc
    all_goals first
      | (cases hc; done)
      | (cases hc; simp only [AOp.map, evalRead, reduceCtorEq] at he)
  case box e x =>
    repeat' split at hc
    all_goals first
      | (cases hc; done)
      | (cases hc; simp only [AOp.map, evalRead, reduceCtorEq] at he)
  case build t ps =>
    split at hc
    · rename_i i ht
      split at hc
      · rename_i z fs hz hd
        split at hc
        · rename_i qs hk hp; cases hc
          exact gives_value (build_struct_sound T H ht hz hd hk hp he)
        · cases hc
      · rename_i z n e hz hd
        split at hc
        · rename_i ei hei
          split at hc
          · rename_i qs hp; cases hc
            exact gives_value (build_array_sound T H ht hz hd hei hp he)
          · cases hc
        · cases hc
      · cases hc
    · cases hc
  case buildSlice t n ps =>
    repeat' split at hc
    all_goals first
      | (cases hc; done)
      | (cases hc; simp only [AOp.map, evalRead, reduceCtorEq] at he)
  case insert t m k v =>
    repeat' split at hc
    all_goals first
      | (cases hc; done)
      | (cases hc; simp only [AOp.map, evalRead, reduceCtorEq] at he)
  case load t x =>
    split at hc
    · rename_i i y ht hy
      split at hc
      · rename_i hagg; cases hc
        exact gives_value (loadN_sound T r ht hagg (H _ _ hy) he)
      · rename_i hagg; cases hc
        exact gives_value (load1_sound T r ht hagg (H _ _ hy) he)
    · cases hc
  case store t x y =>
    repeat' split at hc
    all_goals first
      | (cases hc; done)
      | (cases hc; simp only [AOp.map, evalRead, reduceCtorEq] at he)
  case ready => cases hc
  case waits => cases hc
  case nilCheck x =>
    split at hc
    · rename_i y hy; cases hc
      have hv := H _ _ hy
      obtain ⟨e1, e2⟩ := nilCheck_sound hv he
      refine ⟨ρ' x, ?_, e1 ▸ hv⟩
      rcases e2 with ⟨p, e2⟩ | ⟨f, c, d, e2⟩ <;> simp [execOp, e2]
    · cases hc
  case binOp op t x y yt =>
    cases hx : opdOf x with
    | none => simp [hx, bind2] at hc
    | some x' =>
      cases hy : opdOf y with
      | none => simp [hx, hy, bind2] at hc
      | some y' =>
        simp only [hx, hy, bind2] at hc
        cases hc
        simp only [AOp.map, evalRead] at he
        obtain ⟨z, e1, e2⟩ := evalBin_sound (t := t) T r (fun q hq => by cases op <;> first | (cases hq; done) | exact hq) (H _ _ hx) (H _ _ hy) he x y
        exact gives_value ⟨z, e1, e2⟩
  case unOp op t x =>
    split at hc
    · rename_i y hy; cases hc
      exact gives_value (un_sound (H _ _ hy) he)
    · cases hc
  case convert s d x =>
    cases hk : convOf tb s d with
    | none => simp [hk, bind2] at hc
    | some k =>
      cases hx : opdOf x with
      | none => simp [hk, hx, bind2] at hc
      | some y =>
        simp only [hk, hx, bind2] at hc
        cases hc
        exact gives_value (conv_sound T r hk (H _ _ hx) he)
  case sliceToArrayPointer => cases hc
  case makeInterface t x =>
    split at hc
    · rename_i i y ht hy
      split at hc
      · cases hc
      · rename_i hne; cases hc
        exact gives_value (mkIface_sound T ht (fun ms e => hne ms e) (H _ _ hy) he)
    · cases hc
  case makeFunc fn first captured =>
    cases fn <;> simp only [reduceCtorEq] at hc
    rename_i f
    cases h1 : opdsOf first.toList with
    | none => simp [h1, bind2] at hc
    | some a1 =>
      cases h2 : opdsOf captured.toList with
      | none => simp [h1, h2, bind2] at hc
      | some a2 =>
        simp only [h1, h2, bind2] at hc
        cases hc
        simp only [AOp.map, evalRead] at he
        cases he
        refine ⟨.func (.func f) (first.map ρ') (captured.map ρ'), by simp [execOp, Instr.makeFunc], .func _ _ _ _ _ ?_ ?_⟩
        · simpa using H.list _ _ h1
        · simpa using H.list _ _ h2
  case makeMap t rs =>
    cases rs <;> simp only [reduceCtorEq] at hc
    cases hc; simp only [AOp.map, evalRead, reduceCtorEq] at he
  case makeChan => cases hc
  case makeSlice t l c =>
    repeat' split at hc
    all_goals first
      | (cases hc; done)
      | (cases hc; simp only [AOp.map, evalRead, reduceCtorEq] at he)
  case slice t x lo hi mx =>
    split at hc
    · rename_i i x' lo' hi' mx' ht hx hlo hhi hmx
      split at hc
      · cases hc
      · rename_i hm
        have hm' : (hi.map ρ').isSome || (mx.map ρ').isNone := by simpa using hm
        split at hc
        · rename_i hd
          split at hc
          · cases hc
            exact gives_value (sliceStr_sound T ht hd (H _ _ hx) (H.opt _ _ hlo) (H.opt _ _ hhi) he)
          · cases hc
        · rename_i e hd
          split at hc
          · rename_i ei hei; cases hc
            exact gives_value (sliceSl_sound T ht hd hei (H _ _ hx) (H.opt _ _ hlo) (H.opt _ _ hhi) (H.opt _ _ hmx) hm' he)
          · cases hc
        · rename_i n e hd
          split at hc
          · rename_i ei hei; cases hc
            exact gives_value (sliceArr_sound T ht hd hei (H _ _ hx) (H.opt _ _ hlo) (H.opt _ _ hhi) (H.opt _ _ hmx) hm' he)
          · cases hc
        · cases hc
    · cases hc
  case fieldAddr t x f =>
    split at hc
    · rename_i i y ht hy
      split at hc
      · rename_i fs hd
        split at hc
        · rename_i fd hf
          split at hc
          · rename_i fi hfi
            split at hc
            · cases hc
            · rename_i hs; cases hc
              exact gives_value (fieldAddr_sound T ht hd hf hfi (Nat.ne_of_beq_eq_false hs) (H _ _ hy) he)
          · cases hc
        · cases hc
      · cases hc
    · cases hc
  case field t x f =>
    split at hc
    · rename_i i y ht hy
      split at hc
      · rename_i fs hd
        split at hc
        · rename_i fd hf
          split at hc
          · rename_i fi hfi
            split at hc
            · rename_i hagg; cases hc
              exact gives_value (fieldN_sound T ht hd hf hfi hagg (H _ _ hy) he)
            · rename_i hagg; cases hc
              exact gives_value (field1_sound T ht hd hf hfi hagg (H _ _ hy) he)
          · cases hc
        · cases hc
      · cases hc
    · cases hc
  case indexAddr t x ix =>
    split at hc
    · rename_i ti x' i' ht hx hi
      split at hc
      · rename_i n e hd
        split at hc
        · rename_i ei hei; cases hc
          exact gives_value (idxAddrA_sound T ht hd hei (H _ _ hx) (H _ _ hi) he)
        · cases hc
      · rename_i e hd
        split at hc
        · rename_i ei hei; cases hc
          exact gives_value (idxAddrS_sound T ht hd hei (H _ _ hx) (H _ _ hi) he)
        · cases hc
      · cases hc
    · cases hc
  case index t x ix =>
    split at hc
    · rename_i ti x' i' ht hx hi
      split at hc
      · rename_i n e hd
        split at hc
        · rename_i ei hei
          split at hc
          · rename_i hagg; cases hc
            exact gives_value (idxAN_sound T ht hd hei hagg (H _ _ hx) (H _ _ hi) he)
          · rename_i hagg
            split at hc
            · rename_i hs; cases hc
              exact gives_value (idxA1_sound T ht hd hei hagg (Nat.eq_of_beq_eq_true hs) (H _ _ hx) (H _ _ hi) he)
            · cases hc
        · cases hc
      · rename_i hd; cases hc
        exact gives_value (idxStr_sound T ht hd (H _ _ hx) (H _ _ hi) he)
      · cases hc
    · cases hc
  case lookup t x ix ok =>
    split at hc
    · rename_i ti x' i' ht hx hi
      split at hc
      · rename_i kt e hd
        split at hc
        · rename_i ki ei hki hei
          split at hc
          · cases hc
          · rename_i kk z hne hkk hz
            split at hc
            · rename_i za hza; cases hc
              exact gives_value (lookup_sound T r ht hd hki hei (keyDesc_of hkk fun hp => hne hp) hz (ofConst_rel φ _ _ hza) (H _ _ hx) (H _ _ hi) he)
            · cases hc
          · cases hc
        · cases hc
      · cases hc
    · cases hc
  case mapUpdate t m k v =>
    repeat' split at hc
    all_goals first
      | (cases hc; done)
      | (cases hc; simp only [AOp.map, evalRead, reduceCtorEq] at he)
  case mapEntry => cases hc
  case entryStore => cases hc
  case range => cases hc
  case next => cases hc
  case entry => cases hc
  case typeAssert => cases hc
  case extract x i =>
    split at hc
    · rename_i y hy; cases hc
      exact gives_value (extract_sound (H _ _ hy) he)
    · cases hc
  case call c =>
    obtain ⟨callee, args, argTypes⟩ := c
    simp only [] at hc
    split at hc
    · split at hc
      · cases hc; simp only [AOp.map, evalRead, reduceCtorEq] at he
      · cases hc
    · rename_i b opds hx
      have := builtin_read_sound T r H hx hc he type (args.map fun | .const _ => true | _ => false)
      obtain ⟨v, e1, e2⟩ := this
      exact ⟨v, (run_builtin_call b args argTypes type).trans e1, e2⟩
    · cases hc
  case go => cases hc
  case defer => cases hc
  case panic => cases hc
  case send => cases hc
  case recv => cases hc
  case select => cases hc

end
end Go.AM
