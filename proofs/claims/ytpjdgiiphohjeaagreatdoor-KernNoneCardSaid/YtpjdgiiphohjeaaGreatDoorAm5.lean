import Derived.Test.YtpjdgiiphohjeaaGreatDoorAm4
/-! Comparisons. -/
namespace Go.AM

theorem beq_off (L : Loc) (i j : Nat) : (L.at_ i == L.at_ j) = Nat.beq i j := by
  by_cases h : i = j
  · subst h; simp
  · have h1 : Nat.beq i j = false := by rw [Bool.eq_false_iff]; exact fun e => h (Nat.eq_of_beq_eq_true e)
    rw [h1, beq_eq_false_iff_ne]
    intro e
    simp only [Loc.at_, Addr.mk.injEq] at e
    omega

theorem bytes_beq (x y : ByteArray) : (x == y) = (x.data.toList == y.data.toList) := by
  have e : (x == y) = (x.data == y.data) := rfl
  rw [e, Bool.eq_iff_iff]
  simp

theorem plainObj_spec {φ : Map} {h : Heap} {w : World} (r : HRel φ h w) {id : Nat} {L : Loc} (e : φ id = some L) (hp : plainObj h id = true) :
    ∃ vs c el, h.get id = some (.cells .rw vs) ∧ w.heap[L.block]? = some (.cells c el (0, 0)) := by
  unfold plainObj at hp
  split at hp
  · rename_i vs g
    obtain ⟨c, el, fz, h1, _, _, h4, _⟩ := r.obj id L _ e g
    simp only [frozenAs] at h4
    subst h4
    exact ⟨vs, c, el, g, h1⟩
  · cases hp

theorem run_sameAddr {P : Program} {φ : Map} {h : Heap} {w : World} (r : HRel φ h w) {a b i j : Nat} {L M : Loc} (ea : φ a = some L) (eb : φ b = some M) (pa : plainObj h a = true) (pb : plainObj h b = true) :
    (sameAddr (L.at_ i) (M.at_ j)).run P w = .ok (Nat.beq a b && Nat.beq i j) w := by
  obtain ⟨us, c, el, ga, ha⟩ := plainObj_spec r ea pa
  obtain ⟨vs, d, el', gb, hb⟩ := plainObj_spec r eb pb
  by_cases hblk : L.block = M.block
  · have hab : a = b := r.inj a b L M _ _ ea eb ga gb rfl rfl hblk
    subst hab
    rw [ea] at eb; cases eb
    have : Nat.beq a a = true := Nat.beq_refl a
    simp [sameAddr, Loc.at_, this]
    have := beq_off L i j
    simpa [Loc.at_] using this
  · have hab : a ≠ b := by rintro rfl; rw [ea] at eb; cases eb; exact hblk rfl
    have hab' : Nat.beq a b = false := by rw [Bool.eq_false_iff]; exact fun e => hab (Nat.eq_of_beq_eq_true e)
    have f1 : ∀ n, w.frozen? ⟨L.block, n, none⟩ = false := fun n => by simp [World.frozen?, ha]
    have f2 : ∀ n, w.frozen? ⟨M.block, n, none⟩ = false := fun n => by simp [World.frozen?, hb]
    have s1 : w.shape? L.block = some (el, c.size) := by simp [World.shape?, ha]
    have s2 : w.shape? M.block = some (el', d.size) := by simp [World.shape?, hb]
    simp [sameAddr, Loc.at_, hblk, hab', f1, f2, s1, s2, noView, viewAt, mayBeOne, stringish]

theorem eqPtr_sound {P : Program} {tb : Types} (T : TbOk P tb) {φ : Map} {h : Heap} {w : World} (r : HRel φ h w) {t e : TypeId} {i ei : TInfo} (ht : tb.get t = some i) (hd : i.desc = .pointer e) (he : tb.get e = some ei) (hs : ei.size ≠ 0)
    {a b : AVal} {u v : Value} (ha : VRel φ a u) (hb : VRel φ b v) {c : Bool} (hc : eqPtr h a b = some c) (d : Nat) : (Op.equalIn (d + 1) t u v).run P w = .ok c w := by
  have hu := run_underlying_tb T ht w
  have hz := run_sizeOf_tb T he w
  rw [hd] at hu
  unfold eqPtr at hc
  split at hc
  · cases ha; cases hb; cases hc; simp [Op.equalIn, hu]
  · cases ha; cases hb; cases hc; simp [Op.equalIn, hu]
  · cases ha; cases hb; cases hc; simp [Op.equalIn, hu]
  · split at hc
    · rename_i hp
      cases hc
      simp only [Bool.and_eq_true] at hp
      cases ha with
      | ptr _ _ L eL =>
        cases hb with
        | ptr _ _ M eM =>
          simp [Op.equalIn, hu, hz, hs, run_sameAddr r eL eM hp.1 hp.2]
    · cases hc
  · cases hc

theorem eqLeaf_sound {P : Program} {tb : Types} (T : TbOk P tb) {φ : Map} {h : Heap} {w : World} (r : HRel φ h w) {t : TypeId} {i : TInfo} (ht : tb.get t = some i) {l : Leaf}
    (hl : (∃ e ei, l = .ptr ∧ i.desc = .pointer e ∧ tb.get e = some ei ∧ ei.size ≠ 0) ∨ (l = .bool ∧ i.desc = .bool) ∨ (l = .int ∧ ∃ k, i.desc = .int k) ∨ (l = .str ∧ i.desc = .string))
    {a b : AVal} {u v : Value} (ha : VRel φ a u) (hb : VRel φ b v) {c : Bool} (hc : eqLeaf h l a b = some c) (d : Nat) : (Op.equalIn (d + 1) t u v).run P w = .ok c w := by
  have hu := run_underlying_tb T ht w
  rcases hl with ⟨e, ei, rfl, hd, he, hs⟩ | ⟨rfl, hd⟩ | ⟨rfl, k, hd⟩ | ⟨rfl, hd⟩
  · exact eqPtr_sound T r ht hd he hs ha hb hc d
  · rw [hd] at hu
    unfold eqLeaf at hc
    split at hc <;> try (first | cases hc; done | contradiction)
    all_goals (cases ha; cases hb; cases hc; simp [Op.equalIn, hu])
  · rw [hd] at hu
    unfold eqLeaf at hc
    split at hc <;> try (first | cases hc; done | contradiction)
    split at hc
    · rename_i hk
      cases ha; cases hb; cases hc
      have hk' := of_decide_eq_true hk
      subst hk'
      simp [Op.equalIn, hu]
      rfl
    · cases hc
  · rw [hd] at hu
    unfold eqLeaf at hc
    split at hc <;> try (first | cases hc; done | contradiction)
    cases ha; cases hb; cases hc
    simp [Op.equalIn, hu, bytes_beq]


theorem eqLeaves_append (h : Heap) (X Y : List AVal) (a b : List (Nat × Leaf)) : eqLeaves h X Y (a ++ b) = match eqLeaves h X Y a with
    | some true => eqLeaves h X Y b
    | r => r := by
  induction a with
  | nil => rfl
  | cons p a ih =>
    obtain ⟨i, l⟩ := p
    simp only [List.cons_append, eqLeaves]
    split
    · split
      · exact ih
      · rfl
      · rfl
    · rfl

/-- A part of some cells, as a value of a type. -/
def subV (i : TInfo) (off : Nat) (U : Array Value) : Value :=
  match isAggD i.desc with
  | true => .agg (U.extract off (off + i.size))
  | false => U.getD off undef

/-- The fields' comparisons, one by one. -/
def fieldBody (d : Nat) (xs ys : Array Value) : Field → Option Bool × Unit → Sem (ForInStep (Option Bool × Unit)) := fun f _ =>
  if f.name ≠ "_" then do
    let __do_lift ← part f.type xs f.offset
    let __do_lift_1 ← part f.type ys f.offset
    let __do_lift ← Op.equalIn d f.type __do_lift __do_lift_1
    if (!__do_lift) = true then pure (ForInStep.done (some false, ()))
      else pure (ForInStep.yield (none, ()))
  else pure (ForInStep.yield (none, ()))

inductive FieldsGive (P : Program) (d : Nat) (w : World) (xs ys : Array Value) : List Field → Bool → Prop where
  | nil : FieldsGive P d w xs ys [] true
  | no (f : Field) (fs : List Field) (x y : Value) (hn : f.name ≠ "_") (hx : (part f.type xs f.offset).run P w = .ok x w) (hy : (part f.type ys f.offset).run P w = .ok y w)
    (he : (Op.equalIn d f.type x y).run P w = .ok false w) : FieldsGive P d w xs ys (f :: fs) false
  | yes (f : Field) (fs : List Field) (x y : Value) (c : Bool) (hn : f.name ≠ "_") (hx : (part f.type xs f.offset).run P w = .ok x w) (hy : (part f.type ys f.offset).run P w = .ok y w)
    (he : (Op.equalIn d f.type x y).run P w = .ok true w) (h : FieldsGive P d w xs ys fs c) : FieldsGive P d w xs ys (f :: fs) c

theorem run_fields {P : Program} {d : Nat} {w : World} {xs ys : Array Value} {fs : List Field} {c : Bool} (h : FieldsGive P d w xs ys fs c) :
    (forIn fs ((none : Option Bool), ()) (fieldBody d xs ys)).run P w = .ok (if c then none else some false, ()) w := by
  induction h with
  | nil => simp
  | no f fs x y hn hx hy he => simp [fieldBody, hn, hx, hy, he]
  | yes f fs x y c hn hx hy he h ih =>
    rw [List.forIn_cons]
    simp only [fieldBody, ne_eq, hn, not_false_eq_true, if_true, Sem.run_bind, hx, hy, he, Result.andThen_ok, Bool.not_true, Bool.false_eq_true, if_false, Sem.run_pure]
    exact ih

theorem run_equalIn_struct {P : Program} {w : World} {t : TypeId} {fs : Array Field} (hu : (underlying t).run P w = .ok (.struct fs) w) (hh : P.stoodInHeld t = false) {xs ys : Array Value} {d : Nat} {c : Bool}
    (h : FieldsGive P d w xs ys fs.toList c) : (Op.equalIn (d + 1) t (.agg xs) (.agg ys)).run P w = .ok c w := by
  have hf := run_fields h
  rw [Array.forIn_toList] at hf
  simp only [Op.equalIn, Sem.run_bind, hu, Result.andThen_ok, run_program, hh, Bool.false_eq_true, if_false]
  change ((forIn fs ((none : Option Bool), ()) (fieldBody d xs ys)).run P w).andThen _ = _
  rw [hf]
  cases c <;> simp


/-- The elements' comparisons, one by one. -/
def elemBody (d : Nat) (e : TypeId) (n : Nat) (xs ys : Array Value) : Nat → Option Bool × Unit → Sem (ForInStep (Option Bool × Unit)) := fun i _ => do
  let __do_lift ← part e xs (i * n)
  let __do_lift_1 ← part e ys (i * n)
  let __do_lift ← Op.equalIn d e __do_lift __do_lift_1
  if (!__do_lift) = true then pure (ForInStep.done (some false, ())) else pure (ForInStep.yield (none, ()))

inductive ElemsGive (P : Program) (d : Nat) (e : TypeId) (n : Nat) (w : World) (xs ys : Array Value) : Nat → Nat → Bool → Prop where
  | nil (k : Nat) : ElemsGive P d e n w xs ys k 0 true
  | no (k m : Nat) (x y : Value) (hx : (part e xs (k * n)).run P w = .ok x w) (hy : (part e ys (k * n)).run P w = .ok y w)
    (he : (Op.equalIn d e x y).run P w = .ok false w) : ElemsGive P d e n w xs ys k (m + 1) false
  | yes (k m : Nat) (x y : Value) (c : Bool) (hx : (part e xs (k * n)).run P w = .ok x w) (hy : (part e ys (k * n)).run P w = .ok y w)
    (he : (Op.equalIn d e x y).run P w = .ok true w) (h : ElemsGive P d e n w xs ys (k + 1) m c) : ElemsGive P d e n w xs ys k (m + 1) c

theorem run_elems {P : Program} {d : Nat} {e : TypeId} {n : Nat} {w : World} {xs ys : Array Value} {k m : Nat} {c : Bool} (h : ElemsGive P d e n w xs ys k m c) :
    (forIn (List.range' k m) ((none : Option Bool), ()) (elemBody d e n xs ys)).run P w = .ok (if c then none else some false, ()) w := by
  induction h with
  | nil k => simp
  | no k m x y hx hy he => simp [List.range'_succ, elemBody, hx, hy, he]
  | yes k m x y c hx hy he h ih =>
    rw [List.range'_succ, List.forIn_cons]
    simp only [elemBody, Sem.run_bind, hx, hy, he, Result.andThen_ok, Bool.not_true, Bool.false_eq_true, if_false, Sem.run_pure]
    exact ih

theorem run_equalIn_array {P : Program} {w : World} {t e : TypeId} {len n : Nat} (hu : (underlying t).run P w = .ok (.array len e) w) (hs : (sizeOf e).run P w = .ok n w) {xs ys : Array Value} {d : Nat} {c : Bool}
    (h : ElemsGive P d e n w xs ys 0 len c) : (Op.equalIn (d + 1) t (.agg xs) (.agg ys)).run P w = .ok c w := by
  have hf := run_elems h
  simp only [Op.equalIn, Sem.run_bind, hu, Result.andThen_ok, hs]
  change ((forIn [:len] ((none : Option Bool), ()) (elemBody d e n xs ys)).run P w).andThen _ = _
  rw [Std.Legacy.Range.forIn_eq_forIn_range']
  simp only [Std.Legacy.Range.size, Nat.sub_zero, Nat.add_sub_cancel, Nat.div_one]
  rw [hf]
  cases c <;> simp

section leaves
variable {P : Program} {tb : Types} (T : TbOk P tb) {φ : Map} {h : Heap} {w : World} (r : HRel φ h w) {X Y : List AVal} {U V : Array Value} (hX : VRels φ X U.toList) (hY : VRels φ Y V.toList)
include T

theorem run_part {t : TypeId} {i : TInfo} (ht : tb.get t = some i) (s : Nat) (off o : Nat) (hb : o + i.size ≤ s) (h1 : isAggD i.desc = false → i.size = 1) (hU : off + s ≤ U.size) :
    (part t (U.extract off (off + s)) o).run P w = .ok (subV i (off + o) U) w := by
  have ha := run_isAgg_tb T ht w
  have hz := run_sizeOf_tb T ht w
  cases hagg : isAggD i.desc with
  | true =>
    rw [hagg] at ha
    simp only [part, Sem.run_bind, ha, Result.andThen_ok, if_true, hz, Sem.run_pure, subV, hagg]
    congr 2
    rw [Array.extract_extract]
    congr 1
    omega
  | false =>
    rw [hagg] at ha
    have := h1 hagg
    have hlt : off + o < U.size := by omega
    have : (U.extract off (off + s))[o]? = some U[off + o] := by
      rw [Array.getElem?_extract]
      rw [if_pos (by omega)]
      exact Array.getElem?_eq_getElem hlt
    simp [part, ha, this, subV, hagg, hlt]

omit T in
theorem leaves_one {n : Nat} {t : TypeId} {i : TInfo} {off : Nat} {ls : List (Nat × Leaf)} (ht : tb.get t = some i) (hl : leavesOf tb n t off = some ls) : isAggD i.desc = false → i.size = 1 := by
  intro ha
  cases n with
  | zero => simp [leavesOf] at hl
  | succ n =>
    simp only [leavesOf, ht] at hl
    split at hl
    · rename_i fs e; simp [e, isAggD] at ha
    · rename_i n e' e; simp [e, isAggD] at ha
    all_goals
      repeat' split at hl
      all_goals first
        | (cases hl; done)
        | (rename_i hb; exact Nat.eq_of_beq_eq_true hb)

end leaves

theorem run_equalIn_leaf {P : Program} {tb : Types} (T : TbOk P tb) {φ : Map} {h : Heap} {w : World} (r : HRel φ h w) {X Y : List AVal} {U V : Array Value} (hX : VRels φ X U.toList) (hY : VRels φ Y V.toList)
    {t : TypeId} {i : TInfo} (ht : tb.get t = some i) {l : Leaf}
    (hl : (∃ e ei, l = .ptr ∧ i.desc = .pointer e ∧ tb.get e = some ei ∧ ei.size ≠ 0) ∨ (l = .bool ∧ i.desc = .bool) ∨ (l = .int ∧ ∃ k, i.desc = .int k) ∨ (l = .str ∧ i.desc = .string))
    {off : Nat} {c : Bool} (he : eqLeaves h X Y [(off, l)] = some c) (d : Nat) : (Op.equalIn (d + 1) t (subV i off U) (subV i off V)).run P w = .ok c w := by
  have ha : isAggD i.desc = false := by rcases hl with ⟨_, _, _, hd, _⟩ | ⟨_, hd⟩ | ⟨_, _, hd⟩ | ⟨_, hd⟩ <;> rw [hd] <;> rfl
  simp only [eqLeaves] at he
  split at he
  · rename_i x y ex ey
    obtain ⟨u, hu, ru⟩ := hX.get ex
    obtain ⟨v, hv, rv⟩ := hY.get ey
    have eu : subV i off U = u := by
      have : U[off]? = some u := by simpa using hu
      simp [subV, ha, this]
    have ev : subV i off V = v := by
      have : V[off]? = some v := by simpa using hv
      simp [subV, ha, this]
    rw [eu, ev]
    refine eqLeaf_sound T r ht hl ru rv ?_ d
    split at he <;> simp_all
  · cases he

theorem leaves_sound {P : Program} {tb : Types} (T : TbOk P tb) {φ : Map} {h : Heap} {w : World} (r : HRel φ h w) {X Y : List AVal} {U V : Array Value} (hX : VRels φ X U.toList) (hY : VRels φ Y V.toList) :
    ∀ (n : Nat) (t : TypeId) (i : TInfo) (off : Nat) (ls : List (Nat × Leaf)) (c : Bool), tb.get t = some i → leavesOf tb n t off = some ls → eqLeaves h X Y ls = some c → off + i.size ≤ U.size → off + i.size ≤ V.size →
      ∀ d, (Op.equalIn (n + d) t (subV i off U) (subV i off V)).run P w = .ok c w := by
  intro n
  induction n with
  | zero => intro t i off ls c _ hl; simp [leavesOf] at hl
  | succ n ih =>
    intro t i off ls c ht hl he bU bV d
    have hu := run_underlying_tb T ht w
    rw [show n + 1 + d = (n + d) + 1 from by omega]
    simp only [leavesOf, ht] at hl
    split at hl
    · -- a struct
      rename_i fs hd
      rw [hd] at hu
      split at hl
      · cases hl
      · rename_i hheld
        have hh := (T t i ht).2.2.1
        rw [hheld] at hh
        have e1 : ∀ U : Array Value, subV i off U = .agg (U.extract off (off + i.size)) := fun U => by simp [subV, hd, isAggD]
        rw [e1, e1]
        refine run_equalIn_struct hu hh ?_
        generalize fs.toList = fl at hl
        clear hd hu
        induction fl generalizing ls c with
        | nil => simp [fieldLeaves] at hl; subst hl; simp [eqLeaves] at he; subst he; exact .nil
        | cons f fl ihf =>
          simp only [fieldLeaves] at hl
          split at hl
          · cases hl
          · rename_i fi hfi
            split at hl
            · rename_i a b hn hb ha hrest
              cases hl
              have hn' : f.name ≠ "_" := by simpa using hn
              have hb' := Nat.le_of_ble_eq_true hb
              have p1 := run_part (P := P) (w := w) T hfi i.size off f.offset hb' (leaves_one hfi ha) bU
              have p2 := run_part (P := P) (w := w) T hfi i.size off f.offset hb' (leaves_one hfi ha) bV
              rw [eqLeaves_append] at he
              split at he
              · rename_i hea
                exact .yes f fl _ _ c hn' p1 p2 (ih f.type fi _ _ _ hfi ha hea (by omega) (by omega) d) (ihf _ _ he hrest)
              · rename_i x hx
                cases c with
                | true => exact absurd he hx
                | false => exact .no f fl _ _ hn' p1 p2 (ih f.type fi _ _ _ hfi ha he (by omega) (by omega) d)
            · cases hl
    · -- an array
      rename_i k e hd
      rw [hd] at hu
      split at hl
      · rename_i ei hei
        split at hl
        · rename_i hsz
          have hsz' := Nat.eq_of_beq_eq_true hsz
          have e1 : ∀ U : Array Value, subV i off U = .agg (U.extract off (off + i.size)) := fun U => by simp [subV, hd, isAggD]
          rw [e1, e1]
          have hsize := run_sizeOf_tb T hei w
          refine run_equalIn_array hu hsize ?_
          have key : ∀ (m j : Nat) (ls : List (Nat × Leaf)) (c : Bool), j + m = k → arrayLeaves (leavesOf tb n) e ei.size m (off + j * ei.size) = some ls → eqLeaves h X Y ls = some c →
              ElemsGive P (n + d) e ei.size w (U.extract off (off + i.size)) (V.extract off (off + i.size)) j m c := by
            intro m
            induction m with
            | zero => intro j ls c _ hl he; simp [arrayLeaves] at hl; subst hl; simp [eqLeaves] at he; subst he; exact .nil j
            | succ m ihm =>
              intro j ls c hj hl he
              simp only [arrayLeaves] at hl
              split at hl
              · rename_i a b ha hrest
                cases hl
                have hbound : j * ei.size + ei.size ≤ i.size := by
                  rw [hsz']
                  have : (j + 1) * ei.size ≤ k * ei.size := Nat.mul_le_mul_right _ (by omega)
                  rw [Nat.add_mul] at this; omega
                have p1 := run_part (P := P) (w := w) T hei i.size off (j * ei.size) hbound (leaves_one hei ha) bU
                have p2 := run_part (P := P) (w := w) T hei i.size off (j * ei.size) hbound (leaves_one hei ha) bV
                have hnext : off + j * ei.size + ei.size = off + (j + 1) * ei.size := by rw [Nat.add_mul]; omega
                rw [hnext] at hrest
                rw [eqLeaves_append] at he
                split at he
                · rename_i hea
                  exact .yes j m _ _ c p1 p2 (ih e ei _ _ _ hei ha hea (by omega) (by omega) d) (ihm (j + 1) _ _ (by omega) hrest he)
                · rename_i x hx
                  cases c with
                  | true => exact absurd he hx
                  | false => exact .no j m _ _ p1 p2 (ih e ei _ _ _ hei ha he (by omega) (by omega) d)
              · cases hl
          exact key k 0 ls c (by omega) (by simpa using hl) he
        · cases hl
      · cases hl
    · rename_i e hd
      split at hl
      · rename_i ei hei
        split at hl
        · cases hl
        · rename_i hsz
          split at hl
          · cases hl
            exact run_equalIn_leaf T r hX hY ht (.inl ⟨e, ei, rfl, hd, hei, Nat.ne_of_beq_eq_false hsz⟩) he _
          · cases hl
      · cases hl
    · rename_i hd
      split at hl
      · cases hl; exact run_equalIn_leaf T r hX hY ht (.inr (.inl ⟨rfl, hd⟩)) he _
      · cases hl
    · rename_i k hd
      split at hl
      · cases hl; exact run_equalIn_leaf T r hX hY ht (.inr (.inr (.inl ⟨rfl, k, hd⟩))) he _
      · cases hl
    · rename_i hd
      split at hl
      · cases hl; exact run_equalIn_leaf T r hX hY ht (.inr (.inr (.inr ⟨rfl, hd⟩))) he _
      · cases hl
    · cases hl


/-! ### '==' as the small machine has it -/
theorem equal_of {P : Program} {w : World} {t : TypeId} {u v : Value} {x : Result Bool} (h : ∀ d, (Op.equalIn (d + 1) t u v).run P w = x) : (Op.equal t u v).run P w = x := h 9999

theorem eqPlan_sound {P : Program} {tb : Types} (T : TbOk P tb) {φ : Map} {h : Heap} {w : World} (r : HRel φ h w) {t : TypeId} {p : Plan} (hp : planOf tb t = some p) {a b : AVal} {u v : Value} (ha : VRel φ a u) (hb : VRel φ b v) {c : Bool}
    (hc : eqPlan h p a b = some c) : (Op.equal t u v).run P w = .ok c w ∧ (∀ x y op, (eqGuard op t x y u v).run P w = .ok () w) := by
  unfold planOf at hp
  split at hp
  · cases hp
  · rename_i i ht
    have hu := run_underlying_tb T ht w
    have agg : ∀ n ls, p = .agg n ls → isAggD i.desc = true → n = i.size → i.eqg = false → leavesOf tb 100 t 0 = some ls → (Op.equal t u v).run P w = .ok c w ∧ (∀ x y op, (eqGuard op t x y u v).run P w = .ok () w) := by
      intro n ls hpe hagg hn heq hl
      subst hpe; subst hn
      unfold eqPlan at hc
      split at hc <;> try (first | contradiction | (rename_i e; cases e; done))
      rename_i ls' X Y e1
      cases e1
      split at hc
      · rename_i hlen
        simp only [Bool.and_eq_true] at hlen
        have l1 := Nat.eq_of_beq_eq_true hlen.1
        have l2 := Nat.eq_of_beq_eq_true hlen.2
        cases ha with
        | agg _ U hU =>
          cases hb with
          | agg _ V hV =>
            have sU : U.size = i.size := by have := hU.length; simp at this; omega
            have sV : V.size = i.size := by have := hV.length; simp at this; omega
            have := leaves_sound T r hU hV 100 t i 0 ls c ht hl hc (by omega) (by omega) 9900
            have eU : ∀ U : Array Value, U.size = i.size → subV i 0 U = .agg U := fun U hs => by simp [subV, hagg, hs.symm]
            rw [eU U sU, eU V sV] at this
            refine ⟨this, ?_⟩
            intro x y op
            have hg := (T t i ht).2.2.2
            rw [heq] at hg
            cases op <;> simp [eqGuard, hg]
      · cases hc
    have guard : (∀ U V, u = .agg U → v = .agg V → False) → (u = .nilIface → v = .nilIface → False) → ∀ x y op, (eqGuard op t x y u v).run P w = .ok () w := by
      intro h1 h2 x y op
      have key : ∀ op, (op = .eql ∨ op = .neq) → (eqGuard op t x y u v).run P w = .ok () w := by
        rintro op (rfl | rfl)
        all_goals
          clear ha hb
          revert h1 h2
          cases u <;> cases v <;> intro h1 h2 <;> first | rfl | exact (h2 rfl rfl).elim | exact (h1 _ _ rfl rfl).elim
      cases op <;> first | exact key _ (.inl rfl) | exact key _ (.inr rfl) | rfl
    have leaf : ∀ l, p = .leaf l → ((∃ e ei, l = .ptr ∧ i.desc = .pointer e ∧ tb.get e = some ei ∧ ei.size ≠ 0) ∨ (l = .bool ∧ i.desc = .bool) ∨ (l = .int ∧ ∃ k, i.desc = .int k) ∨ (l = .str ∧ i.desc = .string)) →
        (Op.equal t u v).run P w = .ok c w ∧ (∀ x y op, (eqGuard op t x y u v).run P w = .ok () w) := by
      intro l hpe hl
      subst hpe
      simp only [eqPlan] at hc
      refine ⟨eqLeaf_sound T r ht hl ha hb hc 9999, guard ?_ ?_⟩
      · rintro U V rfl rfl
        cases ha <;> (cases l <;> simp [eqLeaf, eqPtr] at hc)
      · rintro rfl rfl
        cases ha <;> (cases l <;> simp [eqLeaf, eqPtr] at hc)
    split at hp
    · rename_i fs hd
      split at hp
      · rename_i ls heq hl; cases hp
        exact agg _ _ rfl (by rw [hd]; rfl) rfl heq hl
      · cases hp
    · rename_i n e hd
      split at hp
      · rename_i ls heq hl; cases hp
        exact agg _ _ rfl (by rw [hd]; rfl) rfl heq hl
      · cases hp
    · rename_i ms hd
      cases hp
      rw [hd] at hu
      unfold eqPlan at hc
      split at hc <;> try (first | contradiction | (rename_i e; cases e; done))
      all_goals
        cases ha; cases hb; cases hc
        refine ⟨equal_of fun d => by simp [Op.equalIn, hu], guard (by simp) (by simp)⟩
    · rename_i e hd
      cases hp
      rw [hd] at hu
      unfold eqPlan at hc
      split at hc <;> try (first | contradiction | (rename_i e; cases e; done))
      all_goals
        cases ha <;> cases hb <;> cases hc
        all_goals refine ⟨equal_of fun d => by simp [Op.equalIn, hu], guard (by simp) (by simp)⟩
    · rename_i k e hd
      cases hp
      rw [hd] at hu
      unfold eqPlan at hc
      split at hc <;> try (first | contradiction | (rename_i e; cases e; done))
      all_goals
        cases ha <;> cases hb <;> cases hc
        all_goals refine ⟨equal_of fun d => by simp [Op.equalIn, hu], guard (by simp) (by simp)⟩
    · rename_i ps rs vd hd
      cases hp
      rw [hd] at hu
      unfold eqPlan at hc
      split at hc <;> try (first | contradiction | (rename_i e; cases e; done))
      all_goals
        cases ha <;> cases hb <;> cases hc
        all_goals refine ⟨equal_of fun d => by simp [Op.equalIn, hu], guard (by simp) (by simp)⟩
    · rename_i e hd
      split at hp
      · rename_i ei hei
        split at hp
        · cases hp
        · rename_i hsz; cases hp
          exact leaf _ rfl (.inl ⟨e, ei, rfl, hd, hei, Nat.ne_of_beq_eq_false hsz⟩)
      · cases hp
    · rename_i x _ _ _ _ _ _ _
      split at hp
      · rename_i l hl; cases hp
        refine leaf l rfl ?_
        unfold leafOf at hl
        split at hl <;> first | (cases hl; done) | skip
        · rename_i hd; cases hl; exact .inr (.inl ⟨rfl, hd⟩)
        · rename_i k hd; cases hl; exact .inr (.inr (.inl ⟨rfl, k, hd⟩))
        · rename_i hd; cases hl; exact .inr (.inr (.inr ⟨rfl, hd⟩))
        · rename_i hd; exact (‹∀ (e : TypeId), i.desc = TypeDesc.pointer e → False› _ hd).elim
      · cases hp

/-- No number, no text, nothing that is not known. -/
def AVal.plain : AVal → Bool
  | .int _ _ | .str _ | .raw _ | .tuple _ => false
  | _ => true

theorem eqPlan_plain {h : Heap} {p : Plan} {a b : AVal} {c : Bool} (hc : eqPlan h p a b = some c) (h1 : ∀ k m l n, a = .int k m → b = .int l n → False) (h2 : ∀ m n, a = .str m → b = .str n → False) : a.plain = true ∧ b.plain = true := by
  unfold eqPlan at hc
  split at hc <;> try (first | exact ⟨rfl, rfl⟩ | (cases hc; done))
  unfold eqLeaf at hc
  split at hc <;> try (first | exact ⟨rfl, rfl⟩ | (cases hc; done))
  · exact (h1 _ _ _ _ rfl rfl).elim
  · exact (h2 _ _ rfl rfl).elim
  · unfold eqPtr at hc
    split at hc <;> first | exact ⟨rfl, rfl⟩ | (cases hc; done)

theorem binOp_plain {φ : Map} {a b : AVal} {u v : Value} (ha : VRel φ a u) (hb : VRel φ b v) (h1 : a.plain = true) (h2 : b.plain = true) (t : TypeId) :
    binOp .eql t u v = (do pure (.bool (← Op.equal t u v))) ∧ binOp .neq t u v = (do pure (.bool (!(← Op.equal t u v)))) := by
  cases ha <;> simp only [AVal.plain, Bool.false_eq_true] at h1 <;> cases hb <;> simp only [AVal.plain, Bool.false_eq_true] at h2 <;> exact ⟨rfl, rfl⟩

theorem evalBin_sound {P : Program} {tb : Types} (T : TbOk P tb) {φ : Map} {h : Heap} {w : World} (r : HRel φ h w) {t : TypeId} {op : BinOp} {p : Option Plan}
    (hp : ∀ q, p = some q → planOf tb t = some q) {a b : AVal} {u v : Value} (ha : VRel φ a u) (hb : VRel φ b v) {c : AVal} (hc : evalBin h op p a b = some c) (x y : Operand) :
    ∃ z, (do eqGuard op t x y u v; binOp op t u v : Sem Value).run P w = .ok z w ∧ VRel φ c z := by
  unfold evalBin at hc
  split at hc
  · rename_i k m l n
    cases ha; cases hb
    have hg : (eqGuard op t x y (.int k m) (.int l n)).run P w = .ok () w := by cases op <;> rfl
    split at hc
    · obtain ⟨z, h1, h2⟩ := intShift_sound (P := P) (w := w) (t := t) (l := l) (.inl rfl) hc φ
      exact ⟨z, by simp only [Sem.run_bind, hg, Result.andThen_ok, h1], h2⟩
    · obtain ⟨z, h1, h2⟩ := intShift_sound (P := P) (w := w) (t := t) (l := l) (.inr rfl) hc φ
      exact ⟨z, by simp only [Sem.run_bind, hg, Result.andThen_ok, h1], h2⟩
    · split at hc
      · rename_i hk
        have hk' := of_decide_eq_true hk; subst hk'
        obtain ⟨z, h1, h2⟩ := intBin_sound (P := P) (w := w) (t := t) hc φ
        exact ⟨z, by simp only [Sem.run_bind, hg, Result.andThen_ok, h1], h2⟩
      · cases hc
  · cases ha; cases hb
    rename_i m n
    have hg : (eqGuard op t x y (.string m) (.string n)).run P w = .ok () w := by cases op <;> rfl
    obtain ⟨z, h1, h2⟩ := strBin_sound (P := P) (w := w) (t := t) hc φ
    exact ⟨z, by simp only [Sem.run_bind, hg, Result.andThen_ok, h1], h2⟩
  · rename_i hni hns
    have hni' : ∀ k m l n, a = .int k m → b = .int l n → False := hni
    have hns' : ∀ m n, a = .str m → b = .str n → False := hns
    split at hc
    · rename_i q
      cases he : eqPlan h q a b with
      | none => simp [he] at hc
      | some e =>
        simp [he] at hc; subst hc
        obtain ⟨h1, h2⟩ := eqPlan_sound T r (hp q rfl) ha hb he
        obtain ⟨p1, p2⟩ := eqPlan_plain he hni' hns'
        exact ⟨.bool e, by simp [h2, (binOp_plain ha hb p1 p2 t).1, h1], .bool e⟩
    · rename_i q
      cases he : eqPlan h q a b with
      | none => simp [he] at hc
      | some e =>
        simp [he] at hc; subst hc
        obtain ⟨h1, h2⟩ := eqPlan_sound T r (hp q rfl) ha hb he
        obtain ⟨p1, p2⟩ := eqPlan_plain he hni' hns'
        exact ⟨.bool (!e), by simp [h2, (binOp_plain ha hb p1 p2 t).2, h1], .bool (!e)⟩
    · cases hc

end Go.AM
