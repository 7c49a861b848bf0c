import Derived.Test.YtpjdgiiphohjeaaGreatDoorAm5
/-! Operations that lay a new object. -/
namespace Go.AM

/-- What a laying operation comes to: a block behind all others. -/
def Lays (P : Program) (φ : Map) (w : World) (ρ' : Operand → Value) (op : Op) (o : AObj) (mk : Nat → AVal) : Prop :=
  ∀ dst type pos after guard, ∃ x n dr v, (execOp ρ' ⟨dst, op, type, pos, after, guard⟩).run P w = .ok (.value v) { w with heap := w.heap.push x, drawn := dr } ∧
    ORel φ ⟨w.heap.size, 0, n⟩ o (some x) ∧ ∀ (ψ : Map) (id : Nat), φ.le ψ → ψ id = some ⟨w.heap.size, 0, n⟩ → VRel ψ (mk id) v

theorem orel_new {φ : Map} {b : Nat} {vs : List AVal} {c : Array Value} {e : TypeId} (h : VRels φ vs c.toList) : ORel φ ⟨b, 0, c.size⟩ (.cells .rw vs) (some (.cells c e)) := by
  have hl := h.length
  simp only [Array.length_toList] at hl
  refine ⟨c, e, (0, 0), rfl, rfl, by simp [hl], rfl, fun i a ha => ?_⟩
  obtain ⟨v, hv, hr⟩ := h.get ha
  simp only [Array.getElem?_toList] at hv
  exact ⟨v, by simpa using hv, hr⟩

theorem wrap_small (n : Nat) (h : n < 9223372036854775808) : IntKind.i64.wrap (n : Int) = n := by
  rw [← wrapF_eq]
  have hb : Nat.blt n 9223372036854775808 = true := by simpa [Nat.blt_eq] using h
  show wrapF .i64 (Int.ofNat n) = Int.ofNat n
  simp only [wrapF, hb]

theorem reps_length (z : List AVal) (n : Nat) : (reps z n).length = n * z.length := by
  induction n with
  | zero => simp [reps]
  | succ n ih => simp [reps, ih, Nat.add_mul, Nat.add_comm]

theorem reps_get (z : List AVal) : ∀ (n j : Nat), j < n * z.length → (reps z n)[j]? = z[j % z.length]? := by
  intro n
  induction n with
  | zero => intro j h; simp at h
  | succ n ih =>
    intro j h
    simp only [reps]
    by_cases hj : j < z.length
    · rw [List.getElem?_append_left hj, Nat.mod_eq_of_lt hj]
    · rw [List.getElem?_append_right (by omega), ih _ (by rw [Nat.succ_mul] at h; omega)]
      congr 1
      exact (Nat.mod_eq_sub_mod (by omega)).symm

theorem reps_rel {φ : Map} {z : List AVal} {zv : Array Value} (h : VRels φ z zv.toList) (hpos : 0 < z.length) (n : Nat) : VRels φ (reps z n) ((Array.range (n * z.length)).map fun j => zv[j % zv.size]!).toList := by
  have hl := h.length
  simp only [Array.length_toList] at hl
  refine VRels.of_get (by simp [reps_length]) fun i a ha => ?_
  have hi : i < n * z.length := by
    have := (List.getElem?_eq_some_iff.1 ha).1
    rwa [reps_length] at this
  rw [reps_get z n i hi] at ha
  obtain ⟨v, hv, hr⟩ := h.get ha
  simp only [Array.getElem?_toList] at hv
  refine ⟨v, ?_, hr⟩
  rw [hl] at hv
  have hlt : i % zv.size < zv.size := by rw [← hl]; exact Nat.mod_lt _ hpos
  have hv' : zv[i % zv.size] = v := by
    rw [Array.getElem?_eq_getElem hlt] at hv; exact Option.some.inj hv
  simp [hi, hlt, hv']

theorem lays_value {P : Program} {w w' : World} {s : Sem Value} {v : Value} (h : s.run P w = .ok v w') : (do pure (Next.value (← s)) : Sem Next).run P w = .ok (.value v) w' := by simp [h]

theorem modify_push {α : Type} (a : Array α) (x : α) (f : α → α) : (a.push x).modify a.size f = a.push (f x) := by
  apply Array.ext_getElem?
  intro i
  rw [Array.getElem?_modify]
  by_cases h : a.size = i
  · subst h; simp
  · rw [if_neg h]
    rw [Array.getElem?_push, Array.getElem?_push, if_neg (fun e => h e.symm), if_neg (fun e => h e.symm)]

theorem run_stringToBytes {P : Program} (w : World) (e : TypeId) (s : ByteArray) : ∃ c dr, s.size ≤ c ∧ (Conv.stringToBytes e s).run P w =
    .ok (.slice (some ⟨w.heap.size, 0, none⟩) s.size c) { w with heap := w.heap.push (.cells ((s.data.map fun b => Value.int .u8 b.toNat) ++ Array.replicate (c - s.size) (.int .u8 0)) e (c, c + 1)), drawn := dr } := by
  refine ⟨s.size + (w.tape w.drawn (.appendCap s.size 0 e)) % (2 ^ 63 - s.size), w.drawn + 1, by omega, ?_⟩
  have hf : (Question.appendCap s.size 0 e).forced = false := rfl
  generalize hcap : s.size + (w.tape w.drawn (.appendCap s.size 0 e)) % (2 ^ 63 - s.size) = c
  have hcut : Question.cut (.appendCap s.size 0 e) (w.tape w.drawn (.appendCap s.size 0 e)) = c := hcap
  have hsz : (s.data.map fun b => Value.int .u8 b.toNat).size + (c - s.size) = c := by
    have : s.data.size = s.size := rfl
    simp [this]; omega
  simp only [Conv.stringToBytes, Sem.run_bind, run_choose, hf, Bool.false_eq_true, if_false, hcut, Result.andThen_ok, newRow, run_newObj, Sem.run_pure, markStringish, run_shape]
  have hsh : ∀ o : Array Value, World.shape? { w with heap := w.heap.push (.cells o e), drawn := w.drawn + 1 } w.heap.size = some (e, o.size) := by
    intro o; simp [World.shape?]
  simp only [hsh, run_freeze, Result.andThen_ok]
  congr 1
  unfold World.freeze
  rw [if_neg (by decide)]
  simp only [modify_push]
  simp only [Array.size_append, Array.size_replicate, hsz]
  simp

section
variable {P : Program} {tb : Types} (T : TbOk P tb) {φ : Map} {w : World} {ρ : Opd → AVal} {ρ' : Operand → Value} (H : PRel φ ρ ρ')

include T H in
theorem alloc_sound {op : Op} {ao : AOp Opd} (hc : compOp tb op = some ao) {o : AObj} {mk : Nat → AVal} (he : evalAlloc (ao.map ρ) = some (o, mk)) : Lays P φ w ρ' op o mk := by
  intro dst type pos after guard
  cases op <;> simp only [compOp] at hc
  case alloc e =>
    split at hc
    · rename_i i ht
      split at hc
      · rename_i z hz; cases hc
        simp only [AOp.map, evalAlloc] at he
        cases he
        obtain ⟨zv, hzv, _, _, hzr⟩ := zerosOf_spec hz
        have hzero := run_zeroValue_tb T ht w hzv
        refine ⟨.cells zv.cells e, zv.cells.size, w.drawn, .pointer (some ⟨w.heap.size, 0, none⟩), ?_, orel_new (hzr φ), fun ψ id _ hid => by simpa [Loc.at_] using VRel.ptr (φ := ψ) id 0 _ hid⟩
        simp [execOp, Instr.alloc, hzero, newVar, newRow]
      · cases hc
    · cases hc
  case box e x =>
    split at hc
    · rename_i y hy; cases hc
      simp only [AOp.map, evalAlloc] at he
      split at he
      · rename_i hone; cases he
        have hv := cells_rel (H _ _ hy) hone
        refine ⟨.cells (ρ' x).cells e, (ρ' x).cells.size, w.drawn, .pointer (some ⟨w.heap.size, 0, none⟩), ?_, orel_new hv, fun ψ id _ hid => by simpa [Loc.at_] using VRel.ptr (φ := ψ) id 0 _ hid⟩
        simp [execOp, Instr.box, newVar, newRow]
      · cases he
    · cases hc
  case buildSlice t n ps =>
    split at hc
    · rename_i i ht
      split at hc
      · rename_i e hd
        split at hc
        · rename_i ei hei
          split at hc
          · rename_i z qs hz hq hroom hpos; cases hc
            simp only [AOp.map, evalAlloc] at he
            split at he
            · rename_i cs hf; cases he
              have hu := run_underlying_tb T ht w
              rw [hd] at hu
              have hs := run_sizeOf_tb T hei w
              obtain ⟨zv, hzv, hzl, _, hzr⟩ := zerosOf_spec hz
              have hzero := run_zeroValue_tb T hei w hzv
              have hpos' : 0 < z.length := by have := Nat.ne_of_beq_eq_false hpos; omega
              have hroom' := Nat.le_of_ble_eq_true hroom
              have hbase := reps_rel (hzr φ) hpos' n
              rw [hzl] at hbase
              obtain ⟨us, e1, e2, e3⟩ := fill_sound (parts_rows H ei.size ps.toList qs hq) hbase hf
              refine ⟨.cells us e, us.size, w.drawn, .slice (some ⟨w.heap.size, 0, none⟩) n n, ?_, orel_new e2, fun ψ id _ hid => .exact id 0 n n _ _ hid (Nat.le_refl _) fun _ => rfl⟩
              have hparts' : (ps.map fun (i, x) => (i, ρ' x)).toList = ps.toList.map fun p => (p.1, ρ' p.2) := by simp
              by_cases h0 : n * ei.size = 0
              · have hempty : ((Array.range (n * ei.size)).map fun j => zv.cells[j % zv.cells.size]!) = ((Array.range (n * ei.size)).map fun j => (#[] : Array Value)[j % (#[] : Array Value).size]!) := by simp [h0]
                have hz0 : ∀ f : Nat → Value, (Array.range 0).map f = #[] := by simp
                rw [hempty, h0, hz0] at e1
                have hnot : ¬ (0 > 2 ^ 24) := by decide
                simp only [execOp, Instr.buildSlice, Sem.run_bind, hu, Result.andThen_ok, hs, Sem.run_ite, h0, if_neg hnot, if_true, Sem.run_pure, hparts', hz0, e1, newRow, run_newObj]
              · simp only [execOp, Instr.buildSlice, Sem.run_bind, hu, Result.andThen_ok, hs, Sem.run_ite, if_neg (Nat.not_lt.2 hroom'), if_neg h0, hzero, Sem.run_pure, hparts', e1, newRow, run_newObj]
            · cases he
          · cases hc
        · cases hc
      · cases hc
    · cases hc
  case makeMap t rs =>
    cases rs <;> simp only [reduceCtorEq] at hc
    cases hc
    simp only [AOp.map, evalAlloc] at he
    cases he
    exact ⟨.map #[] 0, 0, w.drawn, .map (some w.heap.size), by simp [execOp, Instr.makeMap], ⟨#[], rfl, .nil⟩, fun ψ id _ hid => .map id _ hid⟩
  case makeSlice t l c =>
    split at hc
    · rename_i i l' c' ht hl hcc
      split at hc
      · rename_i e hd
        split at hc
        · rename_i ei hei
          split at hc
          · rename_i z hz hpos; cases hc
            simp only [AOp.map, evalAlloc] at he
            split at he
            · rename_i cn hcn
              split at he
              · rename_i ln hln
                split at he
                · rename_i hroom; cases he
                  have hu := run_underlying_tb T ht w
                  rw [hd] at hu
                  have hs := run_sizeOf_tb T hei w
                  obtain ⟨ti, hti, _, hby, _⟩ := run_typeInfo_tb T hei
                  obtain ⟨zv, hzv, hzl, _, hzr⟩ := zerosOf_spec hz
                  have hzero := run_zeroValue_tb T hei w hzv
                  have hpos' : 0 < z.length := by have := Nat.ne_of_beq_eq_false hpos; omega
                  have hroom' := Nat.le_of_ble_eq_true hroom
                  obtain ⟨k1, _, ec, hc2⟩ := asNat_spec (H _ _ hcc) hcn
                  obtain ⟨k2, _, el, hl1⟩ := asNat_spec (H _ _ hl) hln
                  have hbase := reps_rel (hzr φ) hpos' cn
                  rw [hzl] at hbase
                  have hbc : (ti.bytes : Int) * (cn : Int) ≤ 140737488355328 := by
                    rw [hby]
                    have : ((cn * ei.bytes : Nat) : Int) ≤ 140737488355328 := by omega
                    rw [Int.natCast_mul] at this
                    rw [Int.mul_comm]; exact this
                  refine ⟨.cells ((Array.range (cn * ei.size)).map fun j => zv.cells[j % zv.cells.size]!) e, _, w.drawn, .slice (some ⟨w.heap.size, 0, none⟩) ln cn, ?_, orel_new hbase,
                    fun ψ id _ hid => .exact id 0 ln cn _ _ hid hl1 fun _ => rfl⟩
                  have w1 := wrap_small cn (by omega)
                  have w2 := wrap_small ln (by omega)
                  have hlc : (ti.bytes : Int) * (ln : Int) ≤ 140737488355328 := Int.le_trans (Int.mul_le_mul_of_nonneg_left (by omega) (by omega)) hbc
                  have t1 : ¬ ((cn : Int) < 0) := by omega
                  have t2 : ¬ ((ln : Int) < 0) := by omega
                  have t3 : ¬ ((ln : Int) > (cn : Int)) := by omega
                  have t4 : ¬ ((ti.bytes : Int) * (cn : Int) > 2 ^ 48) := by
                    have : (2 : Int) ^ 48 = 281474976710656 := by decide
                    omega
                  simp only [execOp, Instr.makeSlice, Sem.run_bind, hu, Result.andThen_ok, el, ec, asInt, asIntOf, Sem.run_pure, hti, w1, w2, t1, t2, t3, t4, decide_false, Bool.or_false, Bool.false_eq_true, if_false, Sem.run_ite, run_askRoom, Int.toNat_natCast, hs]
                  by_cases h0 : cn * ei.size = 0
                  · have hz0 : ∀ f : Nat → Value, (Array.range 0).map f = #[] := by simp
                    simp only [h0, if_true, Sem.run_pure, Result.andThen_ok, hz0, newRow, Sem.run_bind, run_newObj]
                  · simp only [if_neg h0, hzero, Sem.run_pure, Result.andThen_ok, newRow, Sem.run_bind, run_newObj]
                · cases he
              · cases he
            · cases he
          · cases hc
        · cases hc
      · cases hc
    · cases hc
  case convert s d x =>
    cases hk : convOf tb s d with
    | none => simp [hk, bind2] at hc
    | some k =>
      cases hx : opdOf x with
      | none => simp [hk, hx, bind2] at hc
      | some y =>
        simp only [hk, hx, bind2] at hc
        cases hc
        simp only [AOp.map] at he
        have hv := H _ _ hx
        obtain ⟨ux, hux⟩ : ∃ u, ρ' x = u := ⟨_, rfl⟩
        rw [hux] at hv
        generalize ρ y = ay at hv he
        cases k <;> cases hv <;> simp only [evalAlloc, reduceCtorEq] at he
        rename_i b
        cases he
        unfold convOf at hk
        split at hk
        · rename_i si di hs hd
          have us := run_underlying_tb T hs w
          have ud := run_underlying_tb T hd w
          split at hk
          · cases hk
          · cases hk
          · rename_i e e1 e2
            rw [e1] at us; rw [e2] at ud
            split at hk
            · rename_i ei hei
              have ue := run_underlying_tb T hei w
              split at hk
              · rename_i e3
                rw [e3] at ue
                obtain ⟨c, dr, h1, h2⟩ := run_stringToBytes (P := P) w e b
                refine ⟨.cells ((b.data.map fun b => Value.int .u8 b.toNat) ++ Array.replicate (c - b.size) (.int .u8 0)) e (c, c + 1), c, dr, .slice (some ⟨w.heap.size, 0, none⟩) b.size c, ?_, ?_, fun ψ id _ hid => ?_⟩
                · exact lays_value (by simp only [convert, Sem.run_bind, us, ud, hux, Result.andThen_ok, ue]; exact h2)
                · have hsz : b.data.size = b.size := rfl
                  refine ⟨_, e, (c, c + 1), rfl, by simp [hsz]; omega, by simp [hsz]; omega, .inr (by simp [hsz]; omega), fun i a ha => ?_⟩
                  simp only [List.getElem?_map, Option.map_eq_some_iff] at ha
                  obtain ⟨q, hq, rfl⟩ := ha
                  simp only [Array.getElem?_toList] at hq
                  have hlt := (Array.getElem?_eq_some_iff.1 hq).1
                  refine ⟨.int .u8 q.toNat, ?_, .int _ _⟩
                  rw [Nat.zero_add, Array.getElem?_append_left (by simpa using hlt)]
                  simp [hq]
                · have : b.data.toList.length = b.size := by simp
                  rw [this]
                  exact .upto id 0 b.size 1 c _ _ hid h1 (fun _ => rfl) (by simp)
              · cases hk
            · cases hk
          · split at hk
            · split at hk <;> cases hk
            · cases hk
          · cases hk
        · cases hk
  case binOp op t x y yt =>
    cases hx : opdOf x <;> cases hy : opdOf y <;> simp only [hx, hy, bind2, reduceCtorEq] at hc
    cases hc; simp only [AOp.map, evalAlloc, reduceCtorEq] at he
  case makeFunc fn a b =>
    cases fn <;> simp only [reduceCtorEq] at hc
    cases hx : opdsOf a.toList <;> cases hy : opdsOf b.toList <;> simp only [hx, hy, bind2, reduceCtorEq] at hc
    cases hc; simp only [AOp.map, evalAlloc, reduceCtorEq] at he
  case call c =>
    obtain ⟨callee, args, argTypes⟩ := c
    simp only [] at hc
    split at hc
    · split at hc
      · cases hc; simp only [AOp.map, evalAlloc, reduceCtorEq] at he
      · cases hc
    · unfold compBuiltin at hc
      repeat' split at hc
      all_goals first
        | (cases hc; done)
        | (cases hc; simp only [AOp.map, evalAlloc, reduceCtorEq] at he)
    · cases hc
  all_goals
    first
      | (cases hc; done)
      | (repeat' split at hc
         all_goals first
           | (cases hc; done)
           | (cases hc; simp only [AOp.map, evalAlloc, reduceCtorEq] at he))

end
end Go.AM
