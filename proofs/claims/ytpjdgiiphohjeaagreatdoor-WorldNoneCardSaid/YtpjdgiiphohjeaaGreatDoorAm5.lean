import Derived.Test.YtpjdgiiphohjeaaGreatDoorAm4
/-! Comparisons. -/
namespace Go.AM

theorem beq_off (L : Loc) (i j : Nat) : (L.at_ i == L.at_ j) = Nat.beq i j := by
  by_cases h : i = j
  · subst h; simp
  · have h1 : Nat.beq i j = false := by rw [Bool.eq_false_iff]; exact fun e => h (Nat.eq_of_beq_eq_true e)
    rw [h1, beq_eq_false_iff_ne]
    intro e
    simp only [Loc.at_, Addr.mk.injEq] at e
    omega

theorem bytes_beq (x y : ByteArray) : (x == y) = (x.data.toList == y.data.toList) := by
  have e : (x == y) = (x.data == y.data) := rfl
  rw [e, Bool.eq_iff_iff]
  simp

theorem plainObj_spec {φ : Map} {h : Heap} {w : World} (r : HRel φ h w) {id : Nat} {L : Loc} (e : φ id = some L) (hp : plainObj h id = true) :
    ∃ vs c el, h.get id = some (.cells .rw vs) ∧ w.heap[L.block]? = some (.cells c el (0, 0)) := by
  unfold plainObj at hp
  split at hp
  · rename_i vs g
    obtain ⟨c, el, fz, h1, _, _, h4, _⟩ := r.obj id L _ e g
    simp only [frozenAs] at h4
    subst h4
    exact ⟨vs, c, el, g, h1⟩
  · cases hp

theorem run_sameAddr {P : Program} {φ : Map} {h : Heap} {w : World} (r : HRel φ h w) {a b i j : Nat} {L M : Loc} (ea : φ a = some L) (eb : φ b = some M) (pa : plainObj h a = true) (pb : plainObj h b = true) :
    (sameAddr (L.at_ i) (M.at_ j)).run P w = .ok (Nat.beq a b && Nat.beq i j) w := by
  obtain ⟨us, c, el, ga, ha⟩ := plainObj_spec r ea pa
  obtain ⟨vs, d, el', gb, hb⟩ := plainObj_spec r eb pb
  by_cases hblk : L.block = M.block
  · have hab : a = b := r.inj a b L M _ _ ea eb ga gb rfl rfl hblk
    subst hab
    rw [ea] at eb; cases eb
    have : Nat.beq a a = true := Nat.beq_refl a
    simp [sameAddr, Loc.at_, this]
    have := beq_off L i j
    simpa [Loc.at_] using this
  · have hab : a ≠ b := by rintro rfl; rw [ea] at eb; cases eb; exact hblk rfl
    have hab' : Nat.beq a b = false := by rw [Bool.eq_false_iff]; exact fun e => hab (Nat.eq_of_beq_eq_true e)
    have f1 : ∀ n, w.frozen? ⟨L.block, n, none⟩ = false := fun n => by simp [World.frozen?, ha]
    have f2 : ∀ n, w.frozen? ⟨M.block, n, none⟩ = false := fun n => by simp [World.frozen?, hb]
    have s1 : w.shape? L.block = some (el, c.size) := by simp [World.shape?, ha]
    have s2 : w.shape? M.block = some (el', d.size) := by simp [World.shape?, hb]
    simp [sameAddr, Loc.at_, hblk, hab', f1, f2, s1, s2, noView, viewAt, mayBeOne, stringish]

theorem eqPtr_sound {P : Program} {tb : Types} (T : TbOk P tb) {φ : Map} {h : Heap} {w : World} (r : HRel φ h w) {t e : TypeId} {i ei : TInfo} (ht : tb.get t = some i) (hd : i.desc = .pointer e) (he : tb.get e = some ei) (hs : ei.size ≠ 0)
    {a b : AVal} {u v : Value} (ha : VRel φ a u) (hb : VRel φ b v) {c : Bool} (hc : eqPtr h a b = some c) (d : Nat) : (Op.equalIn (d + 1) t u v).run P w = .ok c w := by
  have hu := run_underlying_tb T ht w
  have hz := run_sizeOf_tb T he w
  rw [hd] at hu
  unfold eqPtr at hc
  split at hc
  · cases ha; cases hb; cases hc; simp [Op.equalIn, hu]
  · cases ha; cases hb; cases hc; simp [Op.equalIn, hu]
  · cases ha; cases hb; cases hc; simp [Op.equalIn, hu]
  · split at hc
    · rename_i hp
      cases hc
      simp only [Bool.and_eq_true] at hp
      cases ha with
      | ptr _ _ L eL =>
        cases hb with
        | ptr _ _ M eM =>
          simp [Op.equalIn, hu, hz, hs, run_sameAddr r eL eM hp.1 hp.2]
    · cases hc
  · cases hc

theorem eqLeaf_sound {P : Program} {tb : Types} (T : TbOk P tb) {φ : Map} {h : Heap} {w : World} (r : HRel φ h w) {t : TypeId} {i : TInfo} (ht : tb.get t = some i) {l : Leaf}
    (hl : (∃ e ei, l = .ptr ∧ i.desc = .pointer e ∧ tb.get e = some ei ∧ ei.size ≠ 0) ∨ (l = .bool ∧ i.desc = .bool) ∨ (l = .int ∧ ∃ k, i.desc = .int k) ∨ (l = .str ∧ i.desc = .string))
    {a b : AVal} {u v : Value} (ha : VRel φ a u) (hb : VRel φ b v) {c : Bool} (hc : eqLeaf h l a b = some c) (d : Nat) : (Op.equalIn (d + 1) t u v).run P w = .ok c w := by
  have hu := run_underlying_tb T ht w
  rcases hl with ⟨e, ei, rfl, hd, he, hs⟩ | ⟨rfl, hd⟩ | ⟨rfl, k, hd⟩ | ⟨rfl, hd⟩
  · exact eqPtr_sound T r ht hd he hs ha hb hc d
  · rw [hd] at hu
    unfold eqLeaf at hc
    split at hc <;> try (first | cases hc; done | contradiction)
    all_goals (cases ha; cases hb; cases hc; simp [Op.equalIn, hu])
  · rw [hd] at hu
    unfold eqLeaf at hc
    split at hc <;> try (first | cases hc; done | contradiction)
    split at hc
    · rename_i hk
      cases ha; cases hb; cases hc
      have hk' := of_decide_eq_true hk
      subst hk'
      simp [Op.equalIn, hu]
      rfl
    · cases hc
  · rw [hd] at hu
    unfold eqLeaf at hc
    split at hc <;> try (first | cases hc; done | contradiction)
    cases ha; cases hb; cases hc
    simp [Op.equalIn, hu, bytes_beq]


theorem eqLeaves_append (h : Heap) (X Y : List AVal) (a b : List (Nat × Leaf)) : eqLeaves h X Y (a ++ b) = match eqLeaves h X Y a with
    | some true => eqLeaves h X Y b
    | r => r := by
  induction a with
  | nil => rfl
  | cons p a ih =>
    obtain ⟨i, l⟩ := p
    simp only [List.cons_append, eqLeaves]
    split
    · split
      · exact ih
      · rfl
      · rfl
    · rfl

/-- A part of some cells, as a value of a type. -/
def subV (i : TInfo) (off : Nat) (U : Array Value) : Value :=
  match isAggD i.desc with
  | true => .agg (U.extract off (off + i.size))
  | false => U.getD off undef

/-- The fields' comparisons, one by one. -/
def fieldBody (d : Nat) (xs ys : Array Value) : Field → Option Bool × Unit → Sem (ForInStep (Option Bool × Unit)) := fun f _ =>
  if f.name ≠ "_" then do
    let __do_lift ← part f.type xs f.offset
    let __do_lift_1 ← part f.type ys f.offset
    let __do_lift ← Op.equalIn d f.type __do_lift __do_lift_1
    if (!__do_lift) = true then pure (ForInStep.done (some false, ()))
      else pure (ForInStep.yield (none, ()))
  else pure (ForInStep.yield (none, ()))

inductive FieldsGive (P : Program) (d : Nat) (w : World) (xs ys : Array Value) : List Field → Bool → Prop where
  | nil : FieldsGive P d w xs ys [] true
  | no (f : Field) (fs : List Field) (x y : Value) (hn : f.name ≠ "_") (hx : (part f.type xs f.offset).run P w = .ok x w) (hy : (part f.type ys f.offset).run P w = .ok y w)
    (he : (Op.equalIn d f.type x y).run P w = .ok false w) : FieldsGive P d w xs ys (f :: fs) false
  | yes (f : Field) (fs : List Field) (x y : Value) (c : Bool) (hn : f.name ≠ "_") (hx : (part f.type xs f.offset).run P w = .ok x w) (hy : (part f.type ys f.offset).run P w = .ok y w)
    (he : (Op.equalIn d f.type x y).run P w = .ok true w) (h : FieldsGive P d w xs ys fs c) : FieldsGive P d w xs ys (f :: fs) c

theorem run_fields {P : Program} {d : Nat} {w : World} {xs ys : Array Value} {fs : List Field} {c : Bool} (h : FieldsGive P d w xs ys fs c) :
    (forIn fs ((none : Option Bool), ()) (fieldBody d xs ys)).run P w = .ok (if c then none else some false, ()) w := by
  induction h with
  | nil => simp
  | no f fs x y hn hx hy he => simp [fieldBody, hn, hx, hy, he]
  | yes f fs x y c hn hx hy he h ih =>
    rw [List.forIn_cons]
    simp only [fieldBody, ne_eq, hn, not_false_eq_true, if_true, Sem.run_bind, hx, hy, he, Result.andThen_ok, Bool.not_true, Bool.false_eq_true, if_false, Sem.run_pure]
    exact ih

theorem run_equalIn_struct {P : Program} {w : World} {t : TypeId} {fs : Array Field} (hu : (underlying t).run P w = .ok (.struct fs) w) (hh : P.stoodInHeld t = false) {xs ys : Array Value} {d : Nat} {c : Bool}
    (h : FieldsGive P d w xs ys fs.toList c) : (Op.equalIn (d + 1) t (.agg xs) (.agg ys)).run P w = .ok c w := by
  have hf := run_fields h
  rw [Array.forIn_toList] at hf
  simp only [Op.equalIn, Sem.run_bind, hu, Result.andThen_ok, run_program, hh, Bool.false_eq_true, if_false]
  change ((forIn fs ((none : Option Bool), ()) (fieldBody d xs ys)).run P w).andThen _ = _
  rw [hf]
  cases c <;> simp


/-- The elements' comparisons, one by one. -/
def elemBody (d : Nat) (e : TypeId) (n : Nat) (xs ys : Array Value) : Nat → Option Bool × Unit → Sem (ForInStep (Option Bool × Unit)) := fun i _ => do
  let __do_lift ← part e xs (i * n)
  let __do_lift_1 ← part e ys (i * n)
  let __do_lift ← Op.equalIn d e __do_lift __do_lift_1
  if (!__do_lift) = true then pure (ForInStep.done (some false, ())) else pure (ForInStep.yield (none, ()))

inductive ElemsGive (P : Program) (d : Nat) (e : TypeId) (n : Nat) (w : World) (xs ys : Array Value) : Nat → Nat → Bool → Prop where
  | nil (k : Nat) : ElemsGive P d e n w xs ys k 0 true
  | no (k m : Nat) (x y : Value) (hx : (part e xs (k * n)).run P w = .ok x w) (hy : (part e ys (k * n)).run P w = .ok y w)
    (he : (Op.equalIn d e x y).run P w = .ok false w) : ElemsGive P d e n w xs ys k (m + 1) false
  | yes (k m : Nat) (x y : Value) (c : Bool) (hx : (part e xs (k * n)).run P w = .ok x w) (hy : (part e ys (k * n)).run P w = .ok y w)
    (he : (Op.equalIn d e x y).run P w = .ok true w) (h : ElemsGive P d e n w xs ys (k + 1) m c) : ElemsGive P d e n w xs ys k (m + 1) c

theorem run_elems {P : Program} {d : Nat} {e : TypeId} {n : Nat} {w : World} {xs ys : Array Value} {k m : Nat} {c : Bool} (h : ElemsGive P d e n w xs ys k m c) :
    (forIn (List.range' k m) ((none : Option Bool), ()) (elemBody d e n xs ys)).run P w = .ok (if c then none else some false, ()) w := by
  induction h with
  | nil k => simp
  | no k m x y hx hy he => simp [List.range'_succ, elemBody, hx, hy, he]
  | yes k m x y c hx hy he h ih =>
    rw [List.range'_succ, List.forIn_cons]
    simp only [elemBody, Sem.run_bind, hx, hy, he, Result.andThen_ok, Bool.not_true, Bool.false_eq_true, if_false, Sem.run_pure]
    exact ih

theorem run_equalIn_array {P : Program} {w : World} {t e : TypeId} {len n : Nat} (hu : (underlying t).run P w = .ok (.array len e) w) (hs : (sizeOf e).run P w = .ok n w) {xs ys : Array Value} {d : Nat} {c : Bool}
    (h : ElemsGive P d e n w xs ys 0 len c) : (Op.equalIn (d + 1) t (.agg xs) (.agg ys)).run P w = .ok c w := by
  have hf := run_elems h
  simp only [Op.equalIn, Sem.run_bind, hu, Result.andThen_ok, hs]
  change ((forIn [:len] ((none : Option Bool), ()) (elemBody d e n xs ys)).run P w).andThen _ = _
  rw [Std.Legacy.Range.forIn_eq_forIn_range']
  simp only [Std.Legacy.Range.size, Nat.sub_zero, Nat.add_sub_cancel, Nat.div_one]
  rw [hf]
  cases c <;> simp

section leaves
variable {P : Program} {tb : Types} (T : TbOk P tb) {φ : Map} {h : Heap} {w : World} (r : HRel φ h w) {X Y : List AVal} {U V : Array Value} (hX : VRels φ X U.toList) (hY : VRels φ Y V.toList)
include T

theorem run_part {t : TypeId} {i : TInfo} (ht : tb.get t = some i) (s : Nat) (off o : Nat) (hb : o + i.size ≤ s) (h1 : isAggD i.desc = false → i.size = 1) (hU : off + s ≤ U.size) :
    (part t (U.extract off (off + s)) o).run P w = .ok (subV i (off + o) U) w := by
  have ha := run_isAgg_tb T ht w
  have hz := run_sizeOf_tb T ht w
  cases hagg : isAggD i.desc with
  | true =>
    rw [hagg] at ha
    simp only [part, Sem.run_bind, ha, Result.andThen_ok, if_true, hz, Sem.run_pure, subV, hagg]
    congr 2
    rw [Array.extract_extract]
    congr 1
    omega
  | false =>
    rw [hagg] at ha
    have := h1 hagg
    have hlt : off + o < U.size := by omega
    have : (U.extract off (off + s))[o]? = some U[off + o] := by
      rw [Array.getElem?_extract]
      rw [if_pos (by omega)]
      exact Array.getElem?_eq_getElem hlt
    simp [part, ha, this, subV, hagg, hlt]

omit T in
theorem leaves_one {n : Nat} {t : TypeId} {i : TInfo} {off : Nat} {ls : List (Nat × Leaf)} (ht : tb.get t = some i) (hl : leavesOf tb n t off = some ls) : isAggD i.desc = false → i.size = 1 := by
  intro ha
  cases n with
  | zero => simp [leavesOf] at hl
  | succ n =>
    simp only [leavesOf, ht] at hl
    split at hl
    · rename_i fs e; simp [e, isAggD] at ha
    · rename_i n e' e; simp [e, isAggD] at ha
    all_goals
      repeat' split at hl
      all_goals first
        | (cases hl; done)
        | (rename_i hb; exact Nat.eq_of_beq_eq_true hb)

end leaves

theorem run_equalIn_leaf {P : Program} {tb : Types} (T : TbOk P tb) {φ : Map} {h : Heap} {w : World} (r : HRel φ h w) {X Y : List AVal} {U V : Array Value} (hX : VRels φ X U.toList) (hY : VRels φ Y V.toList)
    {t : TypeId} {i : TInfo} (ht : tb.get t = some i) {l : Leaf}
    (hl : (∃ e ei, l = .ptr ∧ i.desc = .pointer e ∧ tb.get e = some ei ∧ ei.size ≠ 0) ∨ (l = .bool ∧ i.desc = .bool) ∨ (l = .int ∧ ∃ k, i.desc = .int k) ∨ (l = .str ∧ i.desc = .string))
    {off : Nat} {c : Bool} (he : eqLeaves h X Y [(off, l)] = some c) (d : Nat) : (Op.equalIn (d + 1) t (subV i off U) (subV i off V)).run P w = .ok c w := by
  have ha : isAggD i.desc = false := by rcases hl with ⟨_, _, _, hd, _⟩ | ⟨_, hd⟩ | ⟨_, _, hd⟩ | ⟨_, hd⟩ <;> rw [hd] <;> rfl
  simp only [eqLeaves] at he
  split at he
  · rename_i x y ex ey
    obtain ⟨u, hu, ru⟩ := hX.get ex
    obtain ⟨v, hv, rv⟩ := hY.get ey
    have eu : subV i off U = u := by
      have : U[off]? = some u := by simpa using hu
      simp [subV, ha, this]
    have ev : subV i off V = v := by
      have : V[off]? = some v := by simpa using hv
      simp [subV, ha, this]
    rw [eu, ev]
    refine eqLeaf_sound T r ht hl ru rv ?_ d
    split at he <;> simp_all
  · cases he

theorem leaves_sound {P : Program} {tb : Types} (T : TbOk P tb) {φ : Map} {h : Heap} {w : World} (r : HRel φ h w) {X Y : List AVal} {U V : Array Value} (hX : VRels φ X U.toList) (hY : VRels φ Y V.toList) :
    ∀ (n : Nat) (t : TypeId) (i : TInfo) (off : Nat) (ls : List (Nat × Leaf)) (c : Bool), tb.get t = some i → leavesOf tb n t off = some ls → eqLeaves h X Y ls = some c → off + i.size ≤ U.size → off + i.size ≤ V.size →
      ∀ d, (Op.equalIn (n + d) t (subV i off U) (subV i off V)).run P w = .ok c w := by
  intro n
  induction n with
  | zero => intro t i off ls c _ hl; simp [leavesOf] at hl
  | succ n ih =>
    intro t i off ls c ht hl he bU bV d
    have hu := run_underlying_tb T ht w
    rw [show n + 1 + d = (n + d) + 1 from by omega]
    simp only [leavesOf, ht] at hl
    split at hl
    · -- a struct
      rename_i fs hd
      rw [hd] at hu
      split at hl
      · cases hl
      · rename_i hheld
        have hh := (T t i ht).2.2.1
        rw [hheld] at hh
        have e1 : ∀ U : Array Value, subV i off U = .agg (U.extract off (off + i.size)) := fun U => by simp [subV, hd, isAggD]
        rw [e1, e1]
        refine run_equalIn_struct hu hh ?_
        generalize fs.toList = fl at hl
        clear hd hu
        induction fl generalizing ls c with
        | nil => simp [fieldLeaves] at hl; subst hl; simp [eqLeaves] at he; subst he; exact .nil
        | cons f fl ihf =>
          simp only [fieldLeaves] at hl
          split at hl
          · cases hl
          · rename_i fi hfi
            split at hl
            · rename_i a b hn hb ha hrest
              cases hl
              have hn' : f.name ≠ "_" := by simpa using hn
              have hb' := Nat.le_of_ble_eq_true hb
              have p1 := run_part (P := P) (w := w) T hfi i.size off f.offset hb' (leaves_one hfi ha) bU
              have p2 := run_part (P := P) (w := w) T hfi i.size off f.offset hb' (leaves_one hfi ha) bV
              rw [eqLeaves_append] at he
              split at he
              · rename_i hea
                exact .yes f fl _ _ c hn' p1 p2 (ih f.type fi _ _ _ hfi ha hea (by omega) (by omega) d) (ihf _ _ he hrest)
              · rename_i x hx
                cases c with
                | true => exact absurd he hx
                | false => exact .no f fl _ _ hn' p1 p2 (ih f.type fi _ _ _ hfi ha he (by omega) (by omega) d)
            · cases hl
    · -- an array
      rename_i k e hd
      rw [hd] at hu
      split at hl
      · rename_i ei hei
        split at hl
        · rename_i hsz
          have hsz' := Nat.eq_of_beq_eq_true hsz
          have e1 : ∀ U : Array Value, subV i off U = .agg (U.extract off (off + i.size)) := fun U => by simp [subV, hd, isAggD]
          rw [e1, e1]
          have hsize := run_sizeOf_tb T hei w
          refine run_equalIn_array hu hsize ?_
          have key : ∀ (m j : Nat) (ls : List (Nat × Leaf)) (c : Bool), j + m = k → arrayLeaves (leavesOf tb n) e ei.size m (off + j * ei.size) = some ls → eqLeaves h X Y ls = some c →
              ElemsGive P (n + d) e ei.size w (U.extract off (off + i.size)) (V.extract off (off + i.size)) j m c := by
            intro m
            induction m with
            | zero => intro j ls c _ hl he; simp [arrayLeaves] at hl; subst hl; simp [eqLeaves] at he; subst he; exact .nil j
            | succ m ihm =>
              intro j ls c hj hl he
              simp only [arrayLeaves] at hl
              split at hl
              · rename_i a b ha hrest
                cases hl
                have hbound : j * ei.size + ei.size ≤ i.size := by
                  rw [hsz']
                  have : (j + 1) * ei.size ≤ k * ei.size := Nat.mul_le_mul_right _ (by omega)
                  rw [Nat.add_mul] at this; omega
                have p1 := run_part (P := P) (w := w) T hei i.size off (j * ei.size) hbound (leaves_one hei ha) bU
                have p2 := run_part (P := P) (w := w) T hei i.size off (j * ei.size) hbound (leaves_one hei ha) bV
                have hnext : off + j * ei.size + ei.size = off + (j + 1) * ei.size := by rw [Nat.add_mul]; omega
                rw [hnext] at hrest
                rw [eqLeaves_append] at he
                split at he
                · rename_i hea
                  exact .yes j m _ _ c p1 p2 (ih e ei _ _ _ hei ha hea (by omega) (by omega) d) (ihm (j + 1) _ _ (by omega) hrest he)
                · rename_i x hx
                  cases c with
                  | true => exact absurd he hx
                  | false => exact .no j m _ _ p1 p2 (ih e ei _ _ _ hei ha he (by omega) (by omega) d)
              · cases hl
          exact key k 0 ls c (by omega) (by simpa using hl) he
        · cases hl
      · cases hl
    · rename_i e hd
      split at hl
      · rename_i ei hei
        split at hl
        · cases hl
        · rename_i hsz
          split at hl
          · cases hl
            exact run_equalIn_leaf T r hX hY ht (.inl ⟨e, ei, rfl, hd, hei, Nat.ne_of_beq_eq_false hsz⟩) he _
          · cases hl
      · cases hl
    · rename_i hd
      split at hl
      · cases hl; exact run_equalIn_leaf T r hX hY ht (.inr (.inl ⟨rfl, hd⟩)) he _
      · cases hl
    · rename_i k hd
      split at hl
      · cases hl; exact run_equalIn_leaf T r hX hY ht (.inr (.inr (.inl ⟨rfl, k, hd⟩))) he _
      · cases hl
    · rename_i hd
      split at hl
      · cases hl; exact run_equalIn_leaf T r hX hY ht (.inr (.inr (.inr ⟨rfl, hd⟩))) he _
      · cases hl
    · cases hl


/-! ### '==' as the small machine has it -/
theorem equal_of {P : Program} {w : World} {t : TypeId} {u v : Value} {x : Result Bool} (h : ∀ d, (Op.equalIn (d + 1) t u v).run P w = x) : (Op.equal t u v).run P w = x := h 9999

theorem eqPlan_sound {P : Program} {tb : Types} (T : TbOk P tb) {φ : Map} {h : Heap} {w : World} (r : HRel φ h w) {t : TypeId} {p : Plan} (hp : planOf tb t = some p) {a b : AVal} {u v : Value} (ha : VRel φ a u) (hb : VRel φ b v) {c : Bool}
    (hc : eqPlan h p a b = some c) : (Op.equal t u v).run P w = .ok c w ∧ (∀ x y op, (eqGuard op t x y u v).run P w = .ok () w) := by
  unfold planOf at hp
  split at hp
  · cases hp
  · rename_i i ht
    have hu := run_underlying_tb T ht w
    have agg : ∀ n ls, p = .agg n ls → isAggD i.desc = true → n = i.size → i.eqg = false → leavesOf tb 100 t 0 = some ls → (Op.equal t u v).run P w = .ok c w ∧ (∀ x y op, (eqGuard op t x y u v).run P w = .ok () w) := by
      intro n ls hpe hagg hn heq hl
      subst hpe; subst hn
      unfold eqPlan at hc
      split at hc <;> try (first | contradiction | (rename_i e; cases e; done))
      rename_i ls' X Y e1
      cases e1
      split at hc
      · rename_i hlen
        simp only [Bool.and_eq_true] at hlen
        have l1 := Nat.eq_of_beq_eq_true hlen.1
        have l2 := Nat.eq_of_beq_eq_true hlen.2
        cases ha with
        | agg _ U hU =>
          cases hb with
          | agg _ V hV =>
            have sU : U.size = i.size := by have := hU.length; simp at this; omega
            have sV : V.size = i.size := by have := hV.length; simp at this; omega
            have := leaves_sound T r hU hV 100 t i 0 ls c ht hl hc (by omega) (by omega) 9900
            have eU : ∀ U : Array Value, U.size = i.size → subV i 0 U = .agg U := fun U hs => by simp [subV, hagg, hs.symm]
            rw [eU U sU, eU V sV] at this
            refine ⟨this, ?_⟩
            intro x y op
            have hg := (T t i ht).2.2.2
            rw [heq] at hg
            cases op <;> simp [eqGuard, hg]
      · cases hc
    have guard : (∀ U V, u = .agg U → v = .agg V → False) → (u = .nilIface → v = .nilIface → False) → ∀ x y op, (eqGuard op t x y u v).run P w = .ok () w := by
      intro h1 h2 x y op
      have key : ∀ op, (op = .eql ∨ op = .neq) → (eqGuard op t x y u v).run P w = .ok () w := by
        rintro op (rfl | rfl)
        all_goals
          clear ha hb
          revert h1 h2
          cases u <;> cases v <;> intro h1 h2 <;> first | rfl | exact (h2 rfl rfl).elim | exact (h1 _ _ rfl rfl).elim
      cases op <;> first | exact key _ (.inl rfl) | exact key _ (.inr rfl) | rfl
    have leaf : ∀ l, p = .leaf l → ((∃ e ei, l = .ptr ∧ i.desc = .pointer e ∧ tb.get e = some ei ∧ ei.size ≠ 0) ∨ (l = .bool ∧ i.desc = .bool) ∨ (l = .int ∧ ∃ k, i.desc = .int k) ∨ (l = .str ∧ i.desc = .string)) →
        (Op.equal t u v).run P w = .ok c w ∧ (∀ x y op, (eqGuard op t x y u v).run P w = .ok () w) := by
      intro l hpe hl
      subst hpe
      simp only [eqPlan] at hc
      refine ⟨eqLeaf_sound T r ht hl ha hb hc 9999, guard ?_ ?_⟩
      · rintro U V rfl rfl
        cases ha <;> (cases l <;> simp [eqLeaf, eqPtr] at hc)
      · rintro rfl rfl
        cases ha <;> (cases l <;> simp [eqLeaf, eqPtr] at hc)
    split at hp
    · rename_i fs hd
      split at hp
      · rename_i ls heq hl; cases hp
        exact agg _ _ rfl (by rw [hd]; rfl) rfl heq hl
      · cases hp
    · rename_i n e hd
      split at hp
      · rename_i ls heq hl; cases hp
        exact agg _ _ rfl (by rw [hd]; rfl) rfl heq hl
      · cases hp
    · rename_i ms hd
      cases hp
      rw [hd] at hu
      unfold eqPlan at hc
      split at hc <;> try (first | contradiction | (rename_i e; cases e; done))
      all_goals
        cases ha; cases hb; cases hc
        refine ⟨equal_of fun d => by simp [Op.equalIn, hu], guard (by simp) (by simp)⟩
    · rename_i e hd
      cases hp
      rw [hd] at hu
      unfold eqPlan at hc
      split at hc <;> try (first | contradiction | (rename_i e; cases e; done))
      all_goals
        cases ha <;> cases hb <;> cases hc
        all_goals refine ⟨equal_of fun d => by simp [Op.equalIn, hu], guard (by simp) (by simp)⟩
    · rename_i k e hd
      cases hp
      rw [hd] at hu
      unfold eqPlan at hc
      split at hc <;> try (first | contradiction | (rename_i e; cases e; done))
      all_goals
        cases ha <;> cases hb <;> cases hc
        all_goals refine ⟨equal_of fun d => by simp [Op.equalIn, hu], guard (by simp) (by simp)⟩
    · rename_i ps rs vd hd
      cases hp
      rw [hd] at hu
      unfold eqPlan at hc
      split at hc <;> try (first | contradiction | (rename_i e; cases e; done))
      all_goals
        cases ha <;> cases hb <;> cases hc
        all_goals refine ⟨equal_of fun d => by simp [Op.equalIn, hu], guard (by simp) (by simp)⟩
    · rename_i e hd
      split at hp
      · rename_i ei hei
        split at hp
        · cases hp
        · rename_i hsz; cases hp
          exact leaf _ rfl (.inl ⟨e, ei, rfl, hd, hei, Nat.ne_of_beq_eq_false hsz⟩)
      · cases hp
    · rename_i x _ _ _ _ _ _ _
      split at hp
      · rename_i l hl; cases hp
        refine leaf l rfl ?_
        unfold leafOf at hl
        split at hl <;> first | (cases hl; done) | skip
        · rename_i hd; cases hl; exact .inr (.inl ⟨rfl, hd⟩)
        · rename_i k hd; cases hl; exact .inr (.inr (.inl ⟨rfl, k, hd⟩))
        · rename_i hd; cases hl; exact .inr (.inr (.inr ⟨rfl, hd⟩))
        · rename_i hd; exact (‹∀ (e : TypeId), i.desc = TypeDesc.pointer e → False› _ hd).elim
      · cases hp

/-- No number, no text, nothing that is not known. -/
def AVal.plain : AVal → Bool
  | .int _ _ | .str _ | .raw _ | .tuple _ => false
  | _ => true

theorem eqPlan_plain {h : Heap} {p : Plan} {a b : AVal} {c : Bool} (hc : eqPlan h p a b = some c) (h1 : ∀ k m l n, a = .int k m → b = .int l n → False) (h2 : ∀ m n, a = .str m → b = .str n → False) : a.plain = true ∧ b.plain = true := by
  unfold eqPlan at hc
  split at hc <;> try (first | exact ⟨rfl, rfl⟩ | (cases hc; done))
  unfold eqLeaf at hc
  split at hc <;> try (first | exact ⟨rfl, rfl⟩ | (cases hc; done))
  · exact (h1 _ _ _ _ rfl rfl).elim
  · exact (h2 _ _ rfl rfl).elim
  · unfold eqPtr at hc
    split at hc <;> first | exact ⟨rfl, rfl⟩ | (cases hc; done)

theorem binOp_plain {φ : Map} {a b : AVal} {u v : Value} (ha : VRel φ a u) (hb : VRel φ b v) (h1 : a.plain = true) (h2 : b.plain = true) (t : TypeId) :
    binOp .eql t u v = (do pure (.bool (← Op.equal t u v))) ∧ binOp .neq t u v = (do pure (.bool (!(← Op.equal t u v)))) := by
  cases ha <;> simp only [AVal.plain, Bool.false_eq_true] at h1 <;> cases hb <;> simp only [AVal.plain, Bool.false_eq_true] at h2 <;> exact ⟨rfl, rfl⟩

theorem evalBin_sound {P : Program} {tb : Types} (T : TbOk P tb) {φ : Map} {h : Heap} {w : World} (r : HRel φ h w) {t : TypeId} {op : BinOp} {p : Option Plan}
    (hp : ∀ q, p = some q → planOf tb t = some q) {a b : AVal} {u v : Value} (ha : VRel φ a u) (hb : VRel φ b v) {c : AVal} (hc : evalBin h op p a b = some c) (x y : Operand) :
    ∃ z, (do eqGuard op t x y u v; binOp op t u v : Sem Value).run P w = .ok z w ∧ VRel φ c z := by
  unfold evalBin at hc
  split at hc
  · rename_i k m l n
    cases ha; cases hb
    have hg : (eqGuard op t x y (.int k m) (.int l n)).run P w = .ok () w := by cases op <;> rfl
    split at hc
    · obtain ⟨z, h1, h2⟩ := intShift_sound (P := P) (w := w) (t := t) (l := l) (.inl rfl) hc φ
      exact ⟨z, by simp only [Sem.run_bind, hg, Result.andThen_ok, h1], h2⟩
    · obtain ⟨z, h1, h2⟩ := intShift_sound (P := P) (w := w) (t := t) (l := l) (.inr rfl) hc φ
      exact ⟨z, by simp only [Sem.run_bind, hg, Result.andThen_ok, h1], h2⟩
    · split at hc
      · rename_i hk
        have hk' := of_decide_eq_true hk; subst hk'
        obtain ⟨z, h1, h2⟩ := intBin_sound (P := P) (w := w) (t := t) hc φ
        exact ⟨z, by simp only [Sem.run_bind, hg, Result.andThen_ok, h1], h2⟩
      · cases hc
  · cases ha; cases hb
    rename_i m n
    have hg : (eqGuard op t x y (.string m) (.string n)).run P w = .ok () w := by cases op <;> rfl
    obtain ⟨z, h1, h2⟩ := strBin_sound (P := P) (w := w) (t := t) hc φ
    exact ⟨z, by simp only [Sem.run_bind, hg, Result.andThen_ok, h1], h2⟩
  · rename_i hni hns
    have hni' : ∀ k m l n, a = .int k m → b = .int l n → False := hni
    have hns' : ∀ m n, a = .str m → b = .str n → False := hns
    split at hc
    · rename_i q
      cases he : eqPlan h q a b with
      | none => simp [he] at hc
      | some e =>
        simp [he] at hc; subst hc
        obtain ⟨h1, h2⟩ := eqPlan_sound T r (hp q rfl) ha hb he
        obtain ⟨p1, p2⟩ := eqPlan_plain he hni' hns'
        exact ⟨.bool e, by simp [h2, (binOp_plain ha hb p1 p2 t).1, h1], .bool e⟩
    · rename_i q
      cases he : eqPlan h q a b with
      | none => simp [he] at hc
      | some e =>
        simp [he] at hc; subst hc
        obtain ⟨h1, h2⟩ := eqPlan_sound T r (hp q rfl) ha hb he
        obtain ⟨p1, p2⟩ := eqPlan_plain he hni' hns'
        exact ⟨.bool (!e), by simp [h2, (binOp_plain ha hb p1 p2 t).2, h1], .bool (!e)⟩
    · cases hc

end Go.AM

/-! What a reading operation gives. -/
namespace Go.AM

/-- A resolved operation's two sides. -/
def Gives (P : Program) (φ : Map) (w : World) (s : Sem Value) (a : AVal) : Prop := ∃ v, s.run P w = .ok v w ∧ VRel φ a v

/-! ### Parts laid into cells -/
theorem foldl_setRange (off : Nat) : ∀ (l : List Value) (k : Nat) (c : Array Value), (l.zipIdx k).foldl (fun cs (p : Value × Nat) => cs.setIfInBounds (off + p.2) p.1) c = setRange c (off + k) l := by
  intro l
  induction l with
  | nil => intro k c; rfl
  | cons v l ih => intro k c; simp only [List.zipIdx_cons, List.foldl_cons, ih, setRange]; rfl

theorem fold_eq (off : Nat) (vs us : Array Value) : vs.zipIdx.foldl (fun cs (c, j) => cs.setIfInBounds (off + j) c) us = setRange us off vs.toList := by
  rw [← Array.foldl_toList]
  have := foldl_setRange off vs.toList 0 us
  simpa using this

theorem VRels.put {φ : Map} {cs ds : List AVal} {us : Array Value} {vs : List Value} {off : Nat} (hc : VRels φ cs us.toList) (hd : VRels φ ds vs) (hb : off + ds.length ≤ cs.length) :
    VRels φ (cs.take off ++ ds ++ cs.drop (off + ds.length)) (setRange us off vs).toList := by
  have l1 := hc.length
  have l2 := hd.length
  simp only [Array.length_toList] at l1
  have : (setRange us off vs).toList = us.toList.take off ++ vs ++ us.toList.drop (off + vs.length) := by
    apply List.ext_getElem?
    intro j
    rw [Array.getElem?_toList, setRange_get _ _ _ (by omega)]
    by_cases h1 : j < off
    · rw [if_neg (by omega), List.append_assoc, List.getElem?_append_left (by simp; omega), List.getElem?_take, if_pos h1]; simp
    · by_cases h2 : j < off + vs.length
      · rw [if_pos (by omega), List.getElem?_append_left (by simp; omega), List.getElem?_append_right (by simp; omega)]
        simp
        congr 1
        omega
      · rw [if_neg (by omega), List.getElem?_append_right (by simp; omega), List.getElem?_drop]
        simp
        congr 1
        omega
  rw [this, ← l2]
  exact ((hc.take off).append hd).append (hc.drop _)

theorem fillOne_spec {φ : Map} {cs cs' : List AVal} {us : Array Value} {off size : Nat} {a : AVal} {v : Value} (hc : VRels φ cs us.toList) (ha : VRel φ a v) (h : fillOne cs off size a = some cs') :
    v.cells.size = size ∧ off + v.cells.size ≤ us.size ∧ VRels φ cs' (setRange us off v.cells.toList).toList ∧ (setRange us off v.cells.toList).size = us.size := by
  unfold fillOne at h
  split at h
  · rename_i hb
    cases h
    simp only [Bool.and_eq_true] at hb
    have e1 := Nat.eq_of_beq_eq_true hb.1.1
    have e2 := Nat.le_of_ble_eq_true hb.1.2
    have hd := cells_rel ha hb.2
    have l1 := hc.length
    have l2 := hd.length
    simp only [Array.length_toList] at l1 l2
    refine ⟨by omega, by omega, ?_, setRange_size _ _ _⟩
    rw [← e1]
    rw [← e1] at e2
    exact VRels.put hc hd e2
  · cases h

/-- Both sides of a literal's parts. -/
inductive PartsRel (φ : Map) (place : Nat → Option (Nat × Nat)) : List (Nat × Nat × AVal) → List (Nat × Value) → Prop where
  | nil : PartsRel φ place [] []
  | cons (off size i : Nat) (a : AVal) (v : Value) (ps : List (Nat × Nat × AVal)) (qs : List (Nat × Value)) (hp : place i = some (off, size)) (h : VRel φ a v) (hs : PartsRel φ place ps qs) :
    PartsRel φ place ((off, size, a) :: ps) ((i, v) :: qs)

theorem fill_sound {φ : Map} {place : Nat → Option (Nat × Nat)} {ps : List (Nat × Nat × AVal)} {qs : List (Nat × Value)} (hp : PartsRel φ place ps qs) : ∀ {cs cs' : List AVal} {us : Array Value}, VRels φ cs us.toList → fillAll cs ps = some cs' →
    ∃ us', Instr.fill place us qs = some us' ∧ VRels φ cs' us'.toList ∧ us'.size = us.size := by
  induction hp with
  | nil => intro cs cs' us hc h; simp [fillAll] at h; subst h; exact ⟨us, rfl, hc, rfl⟩
  | cons off size i a v ps qs hp h hs ih =>
    intro cs cs' us hc hf
    simp only [fillAll] at hf
    split at hf
    · rename_i ds hd
      obtain ⟨h1, h2, h3, h4⟩ := fillOne_spec hc h hd
      obtain ⟨us', e1, e2, e3⟩ := ih h3 hf
      refine ⟨us', ?_, e2, by omega⟩
      rw [← e1]
      simp only [Instr.fill, hp]
      rw [if_neg (by simp [h1]; omega)]
      rw [fold_eq]
    · cases hf

section
variable {P : Program} {tb : Types} (T : TbOk P tb) {φ : Map} {h : Heap} {w : World} (r : HRel φ h w)

include T r in
theorem load1_sound {t : TypeId} {i : TInfo} (ht : tb.get t = some i) (hagg : isAggD i.desc = false) {a b : AVal} {u : Value} (ha : VRel φ a u) (he : evalRead h (.load1 a) = some b) :
    Gives P φ w (Instr.loadAt t u) b := by
  cases ha <;> simp only [evalRead, reduceCtorEq] at he
  rename_i id off L e
  split at he
  · rename_i vs hg
    obtain ⟨v, hv, hr⟩ := r.cell e hg he
    have hi := run_isAgg_tb T ht w
    rw [hagg] at hi
    exact ⟨v, by simp [Instr.loadAt, Instr.sureAddr, loadVar, hi, hv], hr⟩
  · cases he

include T r in
theorem loadN_sound {t : TypeId} {i : TInfo} (ht : tb.get t = some i) (hagg : isAggD i.desc = true) {a b : AVal} {u : Value} (ha : VRel φ a u) (he : evalRead h (.loadN i.size a) = some b) :
    Gives P φ w (Instr.loadAt t u) b := by
  cases ha <;> simp only [evalRead, reduceCtorEq] at he
  rename_i id off L e
  split at he
  · rename_i vs hg
    cases hc : takeAt vs off i.size with
    | none => simp [hc] at he
    | some cs =>
      simp [hc] at he; subst he
      obtain ⟨us, h1, h2⟩ := r.run_cells (P := P) e hg hc
      have hi := run_isAgg_tb T ht w
      rw [hagg] at hi
      have hz := run_sizeOf_tb T ht w
      exact ⟨.agg us.toArray, by simp [Instr.loadAt, Instr.sureAddr, loadVar, hi, hz, h2], .agg _ _ (by simpa using h1)⟩
  · cases he

theorem pick_sound {a b c d : AVal} {x y z : Value} (hc : VRel φ c x) (ha : VRel φ a y) (hb : VRel φ b z) (he : evalRead h (.pick c a b) = some d) :
    Gives P φ w (do pure (if ← asBool x then y else z)) d := by
  cases hc <;> simp only [evalRead, reduceCtorEq] at he
  rename_i q
  cases q <;> cases he
  · exact ⟨z, by simp [asBool], hb⟩
  · exact ⟨y, by simp [asBool], ha⟩

theorem nilCheck_sound {a b : AVal} {x : Value} (ha : VRel φ a x) (he : evalRead h (.nilCheck a) = some b) : a = b ∧ ((∃ p, x = .pointer (some p)) ∨ ∃ f c d, x = .func (.func f) c d) := by
  cases ha <;> simp only [evalRead, reduceCtorEq] at he
  · cases he; exact ⟨rfl, .inl ⟨_, rfl⟩⟩
  · cases he; exact ⟨rfl, .inr ⟨_, _, _, rfl⟩⟩

theorem un_sound {op : UnOp} {a b : AVal} {x : Value} (ha : VRel φ a x) (he : evalRead h (.un op a) = some b) : Gives P φ w (Op.unary op x) b := by
  cases ha <;> cases op <;> simp only [evalRead, reduceCtorEq] at he
  · cases he; exact ⟨_, by simp [Op.unary], .bool _⟩
  · cases he
    rename_i k n
    exact ⟨.int k (k.wrap (0 - n)), by simp [Op.unary, Op.intArith], by rw [wrapF_eq]; exact .int _ _⟩

theorem mkIface_sound {t : TypeId} {i : TInfo} (T : TbOk P tb) (ht : tb.get t = some i) (hi : ∀ ms, i.desc ≠ .interface ms) {a b : AVal} {x : Value} (ha : VRel φ a x) (he : evalRead h (.mkIface t a) = some b) :
    Gives P φ w (Instr.makeInterface t x) b := by
  simp only [evalRead] at he
  cases he
  refine ⟨.iface t x, ?_, .iface t a x ha⟩
  have hu := run_underlying_tb T ht w
  simp only [Instr.makeInterface, Sem.run_bind, hu, Result.andThen_ok]
  rfl

theorem bytes_loop {P : Program} {φ : Map} {w : World} : ∀ (bs : List AVal) (us : List Value) (l : List UInt8) (acc : ByteArray), VRels φ bs us → bytesOf bs = some l →
    (forIn us acc fun c __s => (match c with
            | Value.int IntKind.u8 n => pure (ForInStep.yield (__s.push (UInt8.ofNat n.toNat)))
            | _ => do
              stuck "bytesToString: byte expected"
              pure (ForInStep.yield __s) : Sem (ForInStep ByteArray))).run P w = .ok ⟨acc.data ++ l.toArray⟩ w := by
  intro bs
  induction bs with
  | nil => intro us l acc h e; cases h; simp [bytesOf] at e; subst e; simp
  | cons b bs ih =>
    intro us l acc h e
    cases h with
    | cons _ v _ vs hb hs =>
      cases hb <;> first | (simp only [bytesOf, reduceCtorEq] at e; done) | skip
      rename_i k n
      cases k <;> simp only [bytesOf, reduceCtorEq] at e
      cases hl : bytesOf bs with
      | none => simp [hl] at e
      | some l' =>
        simp [hl] at e; subst e
        have := ih vs l' (acc.push (UInt8.ofNat n.toNat)) hs hl
        rw [List.forIn_cons]
        exact Eq.trans this (by simp)

theorem conv_sound {s d : TypeId} {k : AConv} (T : TbOk P tb) (r : HRel φ h w) (hk : convOf tb s d = some k) {a b : AVal} {x : Value} (ha : VRel φ a x) (he : evalRead h (.conv k a) = some b) :
    Gives P φ w (convert s d x) b := by
  unfold convOf at hk
  split at hk
  · rename_i si di hs hd
    have us := run_underlying_tb T hs w
    have ud := run_underlying_tb T hd w
    split at hk
    · rename_i k1 k2 e1 e2
      cases hk
      rw [e1] at us; rw [e2] at ud
      cases ha <;> simp only [evalRead, reduceCtorEq] at he
      rename_i kk n
      cases he
      exact ⟨.int k2 (k2.wrap n), by simp [convert, us, ud, Conv.intToInt], by rw [wrapF_eq]; exact .int _ _⟩
    · rename_i e1 e2
      cases hk
      rw [e1] at us; rw [e2] at ud
      cases ha <;> simp only [evalRead, reduceCtorEq] at he
      rename_i b'
      cases he
      exact ⟨.string b', by simp [convert, us, ud], .str b'⟩
    · rename_i e e1 e2
      split at hk
      · split at hk
        · cases hk; cases ha <;> simp only [evalRead, reduceCtorEq] at he
        · cases hk
      · cases hk
    · rename_i e e1 e2
      split at hk
      · rename_i ei hei
        have ue := run_underlying_tb T hei w
        split at hk
        · rename_i e3
          cases hk
          rw [e1] at us; rw [e2] at ud; rw [e3] at ue
          cases ha <;> simp only [evalRead, reduceCtorEq] at he
          · rename_i id off len c L a hL hl ha
            split at he
            · rename_i vs hg
              split at he
              · rename_i cs hc
                cases hb : bytesOf cs with
                | none => simp [hb] at he
                | some l =>
                  simp [hb] at he; subst he
                  obtain ⟨us', h1, h2⟩ := r.run_cells (P := P) hL hg hc
                  have hrun : (loadCells a len).run P w = .ok us'.toArray w := by
                    by_cases h0 : c = 0
                    · have : len = 0 := by omega
                      subst this
                      have e0 := takeAt_length hc
                      have e1 := h1.length
                      have : us' = [] := by cases us' with
                        | nil => rfl
                        | cons => simp at e1; omega
                      subst this; rfl
                    · rw [ha h0]; exact h2
                  have hloop := bytes_loop (P := P) (w := w) cs us' l .empty h1 hb
                  refine ⟨.string ⟨l.toArray⟩, ?_, by have := VRel.str (φ := φ) ⟨l.toArray⟩; simpa using this⟩
                  simp only [convert, Sem.run_bind, us, ud, ue, Result.andThen_ok, Conv.bytesToString, hrun]
                  rw [← Array.forIn_toList]
                  exact Eq.trans (congrArg (fun r : Result ByteArray => r.andThen fun a w' => Sem.run P (pure (Value.string a)) w') hloop) (by simp)
              · cases he
            · cases he
          · rename_i id off len e' c L a hL hl ha hs'
            split at he
            · rename_i vs hg
              split at he
              · rename_i cs hc
                cases hb : bytesOf cs with
                | none => simp [hb] at he
                | some l =>
                  simp [hb] at he; subst he
                  obtain ⟨us', h1, h2⟩ := r.run_cells (P := P) hL hg hc
                  have hrun : (loadCells a len).run P w = .ok us'.toArray w := by
                    by_cases h0 : c = 0
                    · have : len = 0 := by omega
                      subst this
                      have e0 := takeAt_length hc
                      have e1 := h1.length
                      have : us' = [] := by cases us' with
                        | nil => rfl
                        | cons => simp at e1; omega
                      subst this; rfl
                    · rw [ha h0]; exact h2
                  have hloop := bytes_loop (P := P) (w := w) cs us' l .empty h1 hb
                  refine ⟨.string ⟨l.toArray⟩, ?_, by have := VRel.str (φ := φ) ⟨l.toArray⟩; simpa using this⟩
                  simp only [convert, Sem.run_bind, us, ud, ue, Result.andThen_ok, Conv.bytesToString, hrun]
                  rw [← Array.forIn_toList]
                  exact Eq.trans (congrArg (fun r : Result ByteArray => r.andThen fun a w' => Sem.run P (pure (Value.string a)) w') hloop) (by simp)
              · cases he
            · cases he
          · cases he
            exact ⟨.string .empty, by simp [convert, us, ud, ue, Conv.bytesToString], by have := VRel.str (φ := φ) .empty; simpa using this⟩
        · cases hk
      · cases hk
    · cases hk
  · cases hk

/-! ### Slicing -/
theorem bound_sound {P : Program} {φ : Map} {w : World} {x : Option AVal} {x' : Option Value} {m n d : Nat} (h : ORelV φ x x') (e : boundOr x m d = some n) (hd : x' = none → d ≤ m) :
    n ≤ m ∧ (∀ v, x' = some v → ∀ code, (Instr.sliceBound v m code).run P w = .ok n w) ∧ (x' = none → n = d) := by
  cases h with
  | none => simp [boundOr] at e; subst e; exact ⟨hd rfl, by simp, fun _ => rfl⟩
  | some a v h =>
    simp only [boundOr] at e
    obtain ⟨_, _, _, hle⟩ := asNat_spec h e
    refine ⟨hle, ?_, by simp⟩
    rintro u hu code
    cases hu
    exact run_sliceBound h e code

theorem run_sliceBounds {P : Program} {φ : Map} {w : World} {lo hi mx : Option AVal} {lo' hi' mx' : Option Value} (hlo : ORelV φ lo lo') (hhi : ORelV φ hi hi') (hmx : ORelV φ mx mx') (hm : hi'.isSome || mx'.isNone) {isSlice : Bool}
    {len cap len' cap' m hh l : Nat} (e1 : boundOr mx cap cap = some m) (e2 : boundOr hi m len = some hh) (e3 : boundOr lo hh 0 = some l) (h1 : hi' = none → len ≤ m)
    (hc : cap' = cap ∨ (mx' = none ∧ cap ≤ cap')) (hl : len' = len) :
    (Instr.sliceBounds isSlice len' cap' lo' hi' mx').run P w = .ok (l, hh, if mx'.isNone then cap' else m) w ∧ l ≤ hh ∧ hh ≤ m ∧ m ≤ cap' := by
  subst hl
  obtain ⟨m1, m2, m3⟩ := bound_sound (P := P) (w := w) hmx e1 (fun _ => Nat.le_refl _)
  obtain ⟨h1', h2, h3⟩ := bound_sound (P := P) (w := w) hhi e2 h1
  obtain ⟨l1, l2, l3⟩ := bound_sound (P := P) (w := w) hlo e3 (fun _ => Nat.zero_le _)
  have hmc : m ≤ cap' := by omega
  refine ⟨?_, l1, h1', hmc⟩
  cases hmx with
  | none =>
    have em : m = cap := m3 rfl
    subst em
    cases hhi with
    | none =>
      have eh := h3 rfl
      subst eh
      cases hlo with
      | none => have el := l3 rfl; subst el; simp [Instr.sliceBounds]
      | some a v _ => simp [Instr.sliceBounds, l2 v rfl]
    | some a v hv =>
      have hb : ∀ code, (Instr.sliceBound v cap' code).run P w = .ok hh w := by
        intro code
        have e2' : asNat a m = some hh := e2
        refine run_sliceBound hv ?_ code
        obtain ⟨k, rfl, _, hle⟩ := asNat_spec hv e2'
        have : Nat.ble hh cap' = true := Nat.ble_eq_true_of_le (by omega)
        have h0 : asNat (.int k (Int.ofNat hh)) cap' = some hh := by simp only [asNat, this]
        exact h0
      cases hlo with
      | none => have el := l3 rfl; subst el; simp [Instr.sliceBounds, hb]
      | some a v _ => simp [Instr.sliceBounds, l2 v rfl, hb]
  | some b u hu =>
    have ec : cap' = cap := by rcases hc with hc | ⟨hc, _⟩
                               · exact hc
                               · cases hc
    subst ec
    have hb := m2 u rfl
    cases hhi with
    | none => simp at hm
    | some a v hv =>
      have hb2 := h2 v rfl
      cases hlo with
      | none => have el := l3 rfl; subst el; simp [Instr.sliceBounds, hb, hb2]
      | some a v _ => simp [Instr.sliceBounds, l2 v rfl, hb, hb2]

theorem extract_toList (b : ByteArray) (l h : Nat) : (b.extract l h).data.toList = (b.data.toList.take h).drop l := by
  rw [ByteArray.data_extract, Array.toList_extract, List.drop_take]

include T in
theorem sliceStr_sound {t : TypeId} {i : TInfo} (ht : tb.get t = some i) (hd : i.desc = .string) {a b : AVal} {x : Value} {lo hi : Option AVal} {lo' hi' : Option Value} (ha : VRel φ a x) (hlo : ORelV φ lo lo') (hhi : ORelV φ hi hi')
    (he : evalRead h (.sliceStr a lo hi) = some b) : Gives P φ w (Instr.sliceAt t x lo' hi' none) b := by
  cases ha <;> simp only [evalRead, reduceCtorEq] at he
  rename_i s
  split at he
  · rename_i hh e2
    split at he
    · rename_i l e3
      cases he
      have hu := run_underlying_tb T ht w
      rw [hd] at hu
      obtain ⟨h1, h2, h3, h4⟩ := run_sliceBounds (P := P) (w := w) (isSlice := false) hlo hhi .none (by simp) (cap := s.size) (len := s.size) (cap' := s.size) (len' := s.size) rfl e2 e3 (fun _ => by omega) (.inl rfl) rfl
      refine ⟨.string (s.extract l hh), ?_, ?_⟩
      · simp [Instr.sliceAt, hu, Instr.slice, h1]
      · rw [← extract_toList]; exact .str _
    · cases he
  · cases he

theorem add_at (L : Loc) (off n : Nat) : (L.at_ off).add n = L.at_ (off + n) := Loc.at_add L off n

include T in
theorem sliceSl_sound {t e : TypeId} {i ei : TInfo} (ht : tb.get t = some i) (hd : i.desc = .slice e) (hei : tb.get e = some ei) {a b : AVal} {x : Value} {lo hi mx : Option AVal} {lo' hi' mx' : Option Value} (ha : VRel φ a x)
    (hlo : ORelV φ lo lo') (hhi : ORelV φ hi hi') (hmx : ORelV φ mx mx') (hm : hi'.isSome || mx'.isNone) (he : evalRead h (.sliceSl ei.size a lo hi mx) = some b) : Gives P φ w (Instr.sliceAt t x lo' hi' mx') b := by
  have hu := run_underlying_tb T ht w
  rw [hd] at hu
  have hz := run_sizeOf_tb T hei w
  cases ha with
  | exact id off len c L ad hL hl hadr =>
    simp only [evalRead] at he
    split at he
    · rename_i m e1
      split at he
      · rename_i hh e2
        split at he
        · rename_i l e3
          cases he
          have hnone : hi' = none → len ≤ m := by
            intro e0
            rw [e0] at hm
            cases hmx with
            | none => simp only [boundOr] at e1; cases e1; exact hl
            | some => simp at hm
          obtain ⟨h1, h2, h3, h4⟩ := run_sliceBounds (P := P) (w := w) (isSlice := true) hlo hhi hmx hm (cap' := c) (len' := len) e1 e2 e3 hnone (.inl rfl) rfl
          have hmm : (if mx'.isNone then c else m) = m := by
            cases hmx with
            | none => simp only [boundOr] at e1; cases e1; simp
            | some => simp
          rw [hmm] at h1
          refine ⟨.slice (some (if m = l then ad else ad.add (l * ei.size))) (hh - l) (m - l), ?_, ?_⟩
          · simp [Instr.sliceAt, hu, Instr.slice, h1, hz]
            split <;> rfl
          · refine .exact _ _ _ _ L _ hL (by omega) ?_
            intro h0
            rw [if_neg (by omega), hadr (by omega), add_at]
        · cases he
      · cases he
    · cases he
  | upto id off len e' c L ad hL hl hadr hs =>
    cases hmx with
    | none =>
      simp only [evalRead] at he
      split at he
      · rename_i hh e2
        split at he
        · rename_i l e3 hbeq
          cases he
          have hesz := Nat.eq_of_beq_eq_true hbeq
          subst hesz
          obtain ⟨h1, h2, h3, h4⟩ := run_sliceBounds (P := P) (w := w) (isSlice := true) hlo hhi .none hm (cap := len) (cap' := c) (len' := len) rfl e2 e3 (fun _ => Nat.le_refl _) (.inr ⟨rfl, hl⟩) rfl
          simp only [Option.isNone_none, if_true] at h1
          refine ⟨.slice (some (if c = l then ad else ad.add (l * ei.size))) (hh - l) (c - l), ?_, ?_⟩
          · simp [Instr.sliceAt, hu, Instr.slice, h1, hz]
            split <;> rfl
          · refine .upto _ _ _ _ _ L _ hL (by omega) ?_ ?_
            · intro h0
              rw [if_neg (by omega), hadr (by omega), add_at]
            · have hlc : l ≤ c := by omega
              have : (c - l) * ei.size = c * ei.size - l * ei.size := Nat.sub_mul _ _ _
              have h5 : l * ei.size ≤ c * ei.size := Nat.mul_le_mul_right _ hlc
              omega
        · cases he
      · cases he
    | some mv u hu' =>
      simp only [evalRead] at he
      split at he
      · rename_i m e1
        split at he
        · rename_i hh e2
          split at he
          · rename_i l e3
            cases he
            have hle : m ≤ len := (asNat_spec hu' e1).choose_spec.2.2
            have e1' : boundOr (some mv) c c = some m := by
              obtain ⟨k, rfl, _, _⟩ := asNat_spec hu' e1
              have : Nat.ble m c = true := Nat.ble_eq_true_of_le (by omega)
              show asNat (.int k (Int.ofNat m)) c = some m
              simp only [asNat, this]
            have hnone : hi' = none → len ≤ m := by intro e0; rw [e0] at hm; simp at hm
            obtain ⟨h1, h2, h3, h4⟩ := run_sliceBounds (P := P) (w := w) (isSlice := true) hlo hhi (.some mv u hu') hm (cap' := c) (len' := len) e1' e2 e3 hnone (.inl rfl) rfl
            simp only [Option.isNone_some, Bool.false_eq_true, if_false] at h1
            refine ⟨.slice (some (if m = l then ad else ad.add (l * ei.size))) (hh - l) (m - l), ?_, ?_⟩
            · simp [Instr.sliceAt, hu, Instr.slice, h1, hz]
              split <;> rfl
            · refine .exact _ _ _ _ L _ hL (by omega) ?_
              intro h0
              rw [if_neg (by omega), hadr (by omega), add_at]
          · cases he
        · cases he
      · cases he
  | nilslice =>
    simp only [evalRead] at he
    split at he
    · rename_i m e1
      split at he
      · rename_i hh e2
        split at he
        · rename_i l e3
          cases he
          obtain ⟨h1, h2, h3, h4⟩ := run_sliceBounds (P := P) (w := w) (isSlice := true) hlo hhi hmx hm (cap' := 0) (len' := 0) e1 e2 e3 (fun _ => Nat.zero_le _) (.inl rfl) rfl
          have hm0 : m = 0 := by omega
          have hl0 : l = 0 := by omega
          have hh0 : hh = 0 := by omega
          subst hm0; subst hl0; subst hh0
          simp only [ite_self] at h1
          exact ⟨.slice none 0 0, by simp [Instr.sliceAt, hu, Instr.slice, h1, hz], .nilslice⟩
        · cases he
      · cases he
    · cases he
  | _ => simp only [evalRead, reduceCtorEq] at he

include T in
theorem sliceArr_sound {t e : TypeId} {i ei : TInfo} {n : Nat} (ht : tb.get t = some i) (hd : i.desc = .array n e) (hei : tb.get e = some ei) {a b : AVal} {x : Value} {lo hi mx : Option AVal} {lo' hi' mx' : Option Value} (ha : VRel φ a x)
    (hlo : ORelV φ lo lo') (hhi : ORelV φ hi hi') (hmx : ORelV φ mx mx') (hm : hi'.isSome || mx'.isNone) (he : evalRead h (.sliceArr n ei.size a lo hi mx) = some b) : Gives P φ w (Instr.sliceAt t x lo' hi' mx') b := by
  have hu := run_underlying_tb T ht w
  rw [hd] at hu
  have hz := run_sizeOf_tb T hei w
  cases ha <;> simp only [evalRead, reduceCtorEq] at he
  rename_i id off L hL
  split at he
  · rename_i m e1
    split at he
    · rename_i hh e2
      split at he
      · rename_i l e3
        cases he
        have hnone : hi' = none → n ≤ m := by
          intro e0
          rw [e0] at hm
          cases hmx with
          | none => simp only [boundOr] at e1; cases e1; exact Nat.le_refl _
          | some => simp at hm
        obtain ⟨h1, h2, h3, h4⟩ := run_sliceBounds (P := P) (w := w) (isSlice := false) hlo hhi hmx hm (cap' := n) (len' := n) e1 e2 e3 hnone (.inl rfl) rfl
        have hmm : (if mx'.isNone then n else m) = m := by
          cases hmx with
          | none => simp only [boundOr] at e1; cases e1; simp
          | some => simp
        rw [hmm] at h1
        refine ⟨.slice (some (if m = l then L.at_ off else (L.at_ off).add (l * ei.size))) (hh - l) (m - l), ?_, ?_⟩
        · simp [Instr.sliceAt, Instr.sureAddr, hu, h1, hz]
        · refine .exact _ _ _ _ L _ hL (by omega) ?_
          intro h0
          rw [if_neg (by omega), add_at]
      · cases he
    · cases he
  · cases he

/-! ### Fields, elements -/
include T in
theorem fieldAddr_sound {t : TypeId} {i fi : TInfo} {fs : Array Field} {f : Nat} {fd : Field} (ht : tb.get t = some i) (hd : i.desc = .struct fs) (hf : fs[f]? = some fd) (hfi : tb.get fd.type = some fi) (hs : fi.size ≠ 0)
    {a b : AVal} {x : Value} (ha : VRel φ a x) (he : evalRead h (.fieldAddr fd.offset a) = some b) : Gives P φ w (Instr.fieldAt t x f) b := by
  have hu := run_underlying_tb T ht w
  rw [hd] at hu
  have hz := run_sizeOf_tb T hfi w
  cases ha <;> simp only [evalRead, reduceCtorEq] at he
  rename_i id off L hL
  cases he
  exact ⟨.pointer (some (L.at_ (off + fd.offset))), by simp [Instr.fieldAt, Instr.sureAddr, hu, hf, fieldPlace, hz, hs, add_at], .ptr _ _ L hL⟩

include T in
theorem field1_sound {t : TypeId} {i fi : TInfo} {fs : Array Field} {f : Nat} {fd : Field} (ht : tb.get t = some i) (hd : i.desc = .struct fs) (hf : fs[f]? = some fd) (hfi : tb.get fd.type = some fi) (hagg : isAggD fi.desc = false)
    {a b : AVal} {x : Value} (ha : VRel φ a x) (he : evalRead h (.field1 fd.offset a) = some b) : Gives P φ w (Instr.field t x f) b := by
  have hu := run_underlying_tb T ht w
  rw [hd] at hu
  have hg := run_isAgg_tb T hfi w
  rw [hagg] at hg
  cases ha <;> simp only [evalRead, reduceCtorEq] at he
  rename_i as c hc
  obtain ⟨v, hv, hr⟩ := hc.get he
  exact ⟨v, by simp only [Array.getElem?_toList] at hv; simp [Instr.field, hu, hf, asAgg, part, hg, hv], hr⟩

theorem extract_rel {φ : Map} {as cs : List AVal} {c : Array Value} {off n : Nat} (hc : VRels φ as c.toList) (e : takeAt as off n = some cs) : VRels φ cs (c.extract off (off + n)).toList := by
  obtain ⟨h1, rfl⟩ := takeAt_spec e
  rw [Array.toList_extract]
  have : off + n - off = n := by omega
  rw [List.extract_eq_take_drop]
  rw [this]
  exact (hc.drop off).take n

include T in
theorem fieldN_sound {t : TypeId} {i fi : TInfo} {fs : Array Field} {f : Nat} {fd : Field} (ht : tb.get t = some i) (hd : i.desc = .struct fs) (hf : fs[f]? = some fd) (hfi : tb.get fd.type = some fi) (hagg : isAggD fi.desc = true)
    {a b : AVal} {x : Value} (ha : VRel φ a x) (he : evalRead h (.fieldN fd.offset fi.size a) = some b) : Gives P φ w (Instr.field t x f) b := by
  have hu := run_underlying_tb T ht w
  rw [hd] at hu
  have hg := run_isAgg_tb T hfi w
  have hz := run_sizeOf_tb T hfi w
  rw [hagg] at hg
  cases ha <;> simp only [evalRead, reduceCtorEq] at he
  rename_i as c hc
  cases ht' : takeAt as fd.offset fi.size with
  | none => simp [ht'] at he
  | some cs =>
    simp [ht'] at he; subst he
    exact ⟨.agg (c.extract fd.offset (fd.offset + fi.size)), by simp [Instr.field, hu, hf, asAgg, part, hg, hz], .agg _ _ (extract_rel hc ht')⟩

theorem idx_sound {φ : Map} {i : AVal} {j : Value} (hi : VRel φ i j) {len k : Nat} (e : asNat i len = some k) (hb : Nat.blt k len = true) : ∃ kd, j = .int kd k ∧ k < len := by
  obtain ⟨kd, _, rfl, _⟩ := asNat_spec hi e
  exact ⟨kd, rfl, by simpa [Nat.blt_eq] using hb⟩

include T in
theorem idxAddrA_sound {t e : TypeId} {ti ei : TInfo} {n : Nat} (ht : tb.get t = some ti) (hd : ti.desc = .array n e) (hei : tb.get e = some ei) {a b i : AVal} {x j : Value} (ha : VRel φ a x) (hi : VRel φ i j)
    (he : evalRead h (.idxAddrA n ei.size a i) = some b) : Gives P φ w (Instr.indexAt t x j) b := by
  have hu := run_underlying_tb T ht w
  rw [hd] at hu
  have hz := run_sizeOf_tb T hei w
  cases ha <;> simp only [evalRead, reduceCtorEq] at he
  rename_i id off L hL
  split at he
  · rename_i k ek
    split at he
    · rename_i hb
      cases he
      obtain ⟨kd, rfl, hlt⟩ := idx_sound hi ek hb
      refine ⟨.pointer (some (L.at_ (off + k * ei.size))), ?_, .ptr _ _ L hL⟩
      have h0 : (0 : Int) ≤ (k : Int) ∧ (k : Int) < (n : Int) := by omega
      simp [Instr.indexAt, asIntOf, Instr.sureAddr, hu, hz, add_at, hlt]
    · cases he
  · cases he

include T in
theorem idxAddrS_sound {t e : TypeId} {ti ei : TInfo} (ht : tb.get t = some ti) (hd : ti.desc = .slice e) (hei : tb.get e = some ei) {a b i : AVal} {x j : Value} (ha : VRel φ a x) (hi : VRel φ i j)
    (he : evalRead h (.idxAddrS ei.size a i) = some b) : Gives P φ w (Instr.indexAt t x j) b := by
  have hu := run_underlying_tb T ht w
  rw [hd] at hu
  have hz := run_sizeOf_tb T hei w
  cases ha with
  | exact id off len c L ad hL hl hadr =>
    simp only [evalRead] at he
    split at he
    · rename_i k ek
      split at he
      · rename_i hb
        cases he
        obtain ⟨kd, rfl, hlt⟩ := idx_sound hi ek hb
        have hadr' := hadr (by omega)
        subst hadr'
        exact ⟨.pointer (some (L.at_ (off + k * ei.size))), by simp [Instr.indexAt, asIntOf, hu, hz, add_at, hlt], .ptr _ _ L hL⟩
      · cases he
    · cases he
  | upto id off len e' c L ad hL hl hadr hs =>
    simp only [evalRead] at he
    split at he
    · rename_i k ek
      split at he
      · rename_i hb
        cases he
        obtain ⟨kd, rfl, hlt⟩ := idx_sound hi ek hb
        have hadr' := hadr (by omega)
        subst hadr'
        exact ⟨.pointer (some (L.at_ (off + k * ei.size))), by simp [Instr.indexAt, asIntOf, hu, hz, add_at, hlt], .ptr _ _ L hL⟩
      · cases he
    · cases he
  | _ => simp only [evalRead, reduceCtorEq] at he

include T in
theorem idxA1_sound {t e : TypeId} {ti ei : TInfo} {n : Nat} (ht : tb.get t = some ti) (hd : ti.desc = .array n e) (hei : tb.get e = some ei) (hagg : isAggD ei.desc = false) (hs : ei.size = 1) {a b i : AVal} {x j : Value} (ha : VRel φ a x) (hi : VRel φ i j)
    (he : evalRead h (.idxA1 n 1 a i) = some b) : Gives P φ w (Instr.index t x j) b := by
  have hu := run_underlying_tb T ht w
  rw [hd] at hu
  have hz := run_sizeOf_tb T hei w
  have hg := run_isAgg_tb T hei w
  rw [hagg] at hg
  rw [hs] at hz
  cases ha <;> simp only [evalRead, reduceCtorEq] at he
  rename_i as c hc
  split at he
  · rename_i k ek
    split at he
    · rename_i hb
      obtain ⟨kd, rfl, hlt⟩ := idx_sound hi ek hb
      obtain ⟨v, hv, hr⟩ := hc.get he
      simp only [Array.getElem?_toList, Nat.mul_one] at hv
      exact ⟨v, by simp [Instr.index, asIntOf, hu, hz, hlt, part, hg, hv], hr⟩
    · cases he
  · cases he

include T in
theorem idxAN_sound {t e : TypeId} {ti ei : TInfo} {n : Nat} (ht : tb.get t = some ti) (hd : ti.desc = .array n e) (hei : tb.get e = some ei) (hagg : isAggD ei.desc = true) {a b i : AVal} {x j : Value} (ha : VRel φ a x) (hi : VRel φ i j)
    (he : evalRead h (.idxAN n ei.size a i) = some b) : Gives P φ w (Instr.index t x j) b := by
  have hu := run_underlying_tb T ht w
  rw [hd] at hu
  have hz := run_sizeOf_tb T hei w
  have hg := run_isAgg_tb T hei w
  rw [hagg] at hg
  cases ha <;> simp only [evalRead, reduceCtorEq] at he
  rename_i as c hc
  split at he
  · rename_i k ek
    split at he
    · rename_i hb
      obtain ⟨kd, rfl, hlt⟩ := idx_sound hi ek hb
      cases ht' : takeAt as (k * ei.size) ei.size with
      | none => simp [ht'] at he
      | some cs =>
        simp [ht'] at he; subst he
        exact ⟨.agg (c.extract (k * ei.size) (k * ei.size + ei.size)), by simp [Instr.index, asIntOf, hu, hz, hlt, part, hg], .agg _ _ (extract_rel hc ht')⟩
    · cases he
  · cases he

include T in
theorem idxStr_sound {t : TypeId} {ti : TInfo} (ht : tb.get t = some ti) (hd : ti.desc = .string) {a b i : AVal} {x j : Value} (ha : VRel φ a x) (hi : VRel φ i j)
    (he : evalRead h (.idxStr a i) = some b) : Gives P φ w (Instr.index t x j) b := by
  have hu := run_underlying_tb T ht w
  rw [hd] at hu
  cases ha <;> simp only [evalRead, reduceCtorEq] at he
  rename_i s
  split at he
  · rename_i k ek
    obtain ⟨kd, _, rfl, hle⟩ := asNat_spec hi ek
    split at he
    · rename_i q hq
      cases he
      have hq' : s[k]? = some q := by
        simp only [Array.getElem?_toList] at hq
        obtain ⟨h1, h2⟩ := Array.getElem?_eq_some_iff.1 hq
        have h3 : k < s.size := h1
        rw [getElem?_pos s k h3]
        exact congrArg some h2
      exact ⟨.int .u8 q.toNat, by simp [Instr.index, asIntOf, hu, hq'], .int _ _⟩
    · cases he
  · cases he

/-! ### Maps -/
theorem entriesOf_sound {P : Program} (r : HRel φ h w) {m : AVal} {x : Value} (hm : VRel φ m x) {es : List (AVal × AVal × Nat)} (e : entriesOf h m = some es) :
    (x = .map none ∧ es = []) ∨ ∃ b fs clock, x = .map (some b) ∧ (getObj b).run P w = .ok (.map fs clock) w ∧ MRels φ es fs.toList := by
  cases hm <;> simp only [entriesOf, reduceCtorEq] at e
  · rename_i id L hL
    split at e
    · rename_i es' clock hg
      cases e
      obtain ⟨fs, h1, h2⟩ := r.obj id L _ hL hg
      exact .inr ⟨L.block, fs, clock, rfl, by simp [getObj, Sem.run, h1], h2⟩
    · cases e
  · cases e; exact .inl ⟨rfl, rfl⟩

def keyDesc (kk : Leaf) (d : TypeDesc) : Prop := (kk = .bool ∧ d = .bool) ∨ (kk = .int ∧ ∃ k, d = .int k) ∨ (kk = .str ∧ d = .string)

theorem keyDesc_of {d : TypeDesc} {kk : Leaf} (h : leafOf d = some kk) (hp : kk ≠ .ptr) : keyDesc kk d := by
  unfold leafOf at h
  split at h <;> cases h
  · exact .inl ⟨rfl, rfl⟩
  · exact .inr (.inl ⟨rfl, _, rfl⟩)
  · exact .inr (.inr ⟨rfl, rfl⟩)
  · exact absurd rfl hp

theorem sameKey_sound {kk : Leaf} {d : TypeDesc} (hk : keyDesc kk d) {a b : AVal} {x y : Value} (ha : VRel φ a x) (hb : VRel φ b y) {c : Bool} (e : sameKey kk a b = some c) :
    Instr.sameNow d x y = some c ∧ (c = true → a = b ∧ x = y) := by
  rcases hk with ⟨rfl, rfl⟩ | ⟨rfl, k, rfl⟩ | ⟨rfl, rfl⟩
  all_goals
    unfold sameKey at e
    split at e <;> first | (cases e; done) | contradiction | skip
  · cases ha; cases hb; cases e
    refine ⟨rfl, fun h => ?_⟩
    simp at h; subst h; exact ⟨rfl, rfl⟩
  · split at e
    · rename_i hkk
      cases ha; cases hb; cases e
      have hkk' := of_decide_eq_true hkk
      subst hkk'
      refine ⟨by simp [Instr.sameNow]; rfl, fun h => ?_⟩
      have := of_decide_eq_true h
      subst this; exact ⟨rfl, rfl⟩
    · cases e
  · cases ha; cases hb; cases e
    rename_i s1 s2
    refine ⟨by simp [Instr.sameNow, bytes_beq], fun h => ?_⟩
    rw [← bytes_beq] at h
    have : s1 = s2 := by
      have e : (s1 == s2) = (s1.data == s2.data) := rfl
      rw [e] at h
      simp at h
      cases s1; cases s2; simp_all
    subst this; exact ⟨rfl, rfl⟩

theorem findEntry_sound {kk : Leaf} {d : TypeDesc} (hk : keyDesc kk d) {k : AVal} {x : Value} (hx : VRel φ k x) : ∀ {es : List (AVal × AVal × Nat)} {fs : List MapEntry} {i : Nat}, MRels φ es fs → ∀ {res}, findEntry kk k es i = some res →
    (res = none ∧ Instr.findNow d x fs i = some none) ∨ ∃ j v u, res = some (j, v) ∧ Instr.findNow d x fs i = some (some (j, u)) ∧ VRel φ v u ∧ i ≤ j ∧ (∃ e : MapEntry, fs[j - i]? = some e ∧ e.key = x ∧ e.val = u) ∧ (∃ b, es[j - i]? = some (k, v, b)) := by
  intro es fs i hm
  induction hm generalizing i with
  | nil => intro res e; simp [findEntry] at e; subst e; exact .inl ⟨rfl, rfl⟩
  | cons k' v b e es fs hk' hv hb hm ih =>
    intro res he
    simp only [findEntry] at he
    split at he
    · rename_i hs
      cases he
      obtain ⟨h1, h2⟩ := sameKey_sound hk hx hk' hs
      obtain ⟨rfl, h3⟩ := h2 rfl
      exact .inr ⟨i, v, e.val, rfl, by simp [Instr.findNow, h1], hv, Nat.le_refl _, ⟨e, by simp, h3.symm, rfl⟩, ⟨b, by simp⟩⟩
    · rename_i hs
      obtain ⟨h1, h2⟩ := sameKey_sound hk hx hk' hs
      rcases ih he with ⟨rfl, h3⟩ | ⟨j, v', u, rfl, h3, h4, h5, ⟨e', he', h6⟩, ⟨b', hb'⟩⟩
      · exact .inl ⟨rfl, by simp [Instr.findNow, h1, h3]⟩
      · refine .inr ⟨j, v', u, rfl, by simp [Instr.findNow, h1, h3], h4, by omega, ⟨e', ?_, h6⟩, ⟨b', ?_⟩⟩
        · rw [show j - i = (j - (i + 1)) + 1 from by omega]; simpa using he'
        · rw [show j - i = (j - (i + 1)) + 1 from by omega]; simpa using hb'
    · cases he

theorem run_checkKey {P : Program} {kk : Leaf} {d : TypeDesc} (hk : keyDesc kk d) {t : TypeId} (hu : (underlying t).run P w = .ok d w) (x : Value) (b : Bool) : (Instr.checkKey b 10000 t x).run P w = .ok () w := by
  have key : ∀ n, (Instr.checkKey b (n + 1) t x).run P w = .ok () w := by
    intro n
    rcases hk with ⟨_, rfl⟩ | ⟨_, k, rfl⟩ | ⟨_, rfl⟩ <;> simp [Instr.checkKey, hu]
  exact key 9999

include T r in
theorem lookup_sound {t kt e : TypeId} {ti ki ei : TInfo} {kk : Leaf} {zv : Value} {z : AVal} (ht : tb.get t = some ti) (hd : ti.desc = .map kt e) (hki : tb.get kt = some ki) (hei : tb.get e = some ei) (hk : keyDesc kk ki.desc) (hz : ei.zero = some zv)
    (hzr : VRel φ z zv) {m i b : AVal} {x j : Value} (hm : VRel φ m x) (hi : VRel φ i j) {ok : Bool} (he : evalRead h (.lookup kk z m i ok) = some b) : Gives P φ w (Instr.lookup t x j ok) b := by
  have hu := run_underlying_tb T ht w
  rw [hd] at hu
  have huk := run_underlying_tb T hki w
  have hzv := run_zeroValue_tb T hei w hz
  simp only [evalRead] at he
  split at he
  · rename_i es hes
    rcases entriesOf_sound (P := P) r hm hes with ⟨rfl, rfl⟩ | ⟨bl, fs, clock, rfl, hg, hmr⟩
    · simp only [findEntry] at he
      cases he
      have hck := run_checkKey (P := P) hk huk j (#[] : Array MapEntry).isEmpty
      cases ok
      · exact ⟨zv, by simp at hck; simp [Instr.lookup, hu, hck, Instr.findKey, huk, Instr.findNow, hzv], hzr⟩
      · exact ⟨.tuple #[zv, .bool false], by simp at hck; simp [Instr.lookup, hu, hck, Instr.findKey, huk, Instr.findNow, hzv], .tuple _ _ (.cons _ _ _ _ hzr (.cons _ _ _ _ (.bool _) .nil))⟩
    · have hck := run_checkKey (P := P) hk huk j fs.isEmpty
      split at he
      · rename_i j' v hfe
        rcases findEntry_sound hk hi hmr hfe with ⟨h0, _⟩ | ⟨j2, v2, u, h0, h1, h2, _⟩
        · cases h0
        · cases h0
          cases he
          cases ok
          · exact ⟨u, by simp [Instr.lookup, hu, hg, hck, Instr.findKey, huk, h1], h2⟩
          · exact ⟨.tuple #[u, .bool true], by simp [Instr.lookup, hu, hg, hck, Instr.findKey, huk, h1], .tuple _ _ (.cons _ _ _ _ h2 (.cons _ _ _ _ (.bool _) .nil))⟩
      · rename_i hfe
        rcases findEntry_sound hk hi hmr hfe with ⟨_, h1⟩ | ⟨j2, v2, u, h0, _⟩
        · cases he
          cases ok
          · exact ⟨zv, by simp [Instr.lookup, hu, hg, hck, Instr.findKey, huk, h1, hzv], hzr⟩
          · exact ⟨.tuple #[zv, .bool false], by simp [Instr.lookup, hu, hg, hck, Instr.findKey, huk, h1, hzv], .tuple _ _ (.cons _ _ _ _ hzr (.cons _ _ _ _ (.bool _) .nil))⟩
        · cases h0
      · cases he
  · cases he

theorem MRels.length {es : List (AVal × AVal × Nat)} {fs : List MapEntry} (h : MRels φ es fs) : es.length = fs.length := by
  induction h <;> simp_all

theorem extract_sound {a b : AVal} {x : Value} {i : Nat} (ha : VRel φ a x) (he : evalRead h (.extract a i) = some b) : Gives P φ w (Instr.extract x i) b := by
  cases ha <;> simp only [evalRead, reduceCtorEq] at he
  rename_i as c hc
  obtain ⟨v, hv, hr⟩ := hc.get he
  simp only [Array.getElem?_toList] at hv
  exact ⟨v, by simp [Instr.extract, hv], hr⟩

theorem foldMM_sound {mx : Bool} {k : IntKind} : ∀ {ys : List AVal} {vs : List Value} {a n : Int}, VRels φ ys vs → foldMM mx k a ys = some n →
    (vs.foldlM (if mx then Builtin.max2 else Builtin.min2) (.int k a)).run P w = .ok (.int k n) w := by
  intro ys
  induction ys with
  | nil => intro vs a n h e; cases h; simp [foldMM] at e; subst e; simp
  | cons y ys ih =>
    intro vs a n h e
    cases h with
    | cons _ v _ vs hy hs =>
      cases hy <;> first | (simp only [foldMM, reduceCtorEq] at e; done) | skip
      rename_i l b
      simp only [foldMM] at e
      split at e
      · have := ih hs e
        rw [List.foldlM_cons, Sem.run_bind]
        cases mx
        · simp only [Bool.false_eq_true, if_false] at this ⊢
          simp only [Builtin.min2, Sem.run_pure, Result.andThen_ok]
          exact this
        · simp only [if_true] at this ⊢
          simp only [Builtin.max2, Sem.run_pure, Result.andThen_ok, gt_iff_lt]
          exact this
      · cases e

end
end Go.AM

/-! Reading operations, all of them. -/
namespace Go.AM

theorem gives_value {P : Program} {φ : Map} {w : World} {s : Sem Value} {a : AVal} (h : Gives P φ w s a) : ∃ v, (do pure (Next.value (← s)) : Sem Next).run P w = .ok (.value v) w ∧ VRel φ a v := by
  obtain ⟨v, h1, h2⟩ := h
  exact ⟨v, by simp [h1], h2⟩

theorem parts_struct {tb : Types} {φ : Map} {ρ : Opd → AVal} {ρ' : Operand → Value} (H : PRel φ ρ ρ') {fs : List Field} {place : Nat → Option (Nat × Nat)} (hp : ∀ (i : Nat) (f : Field) (fi : TInfo), fs[i]? = some f → tb.get f.type = some fi → place i = some (f.offset, fi.size)) :
    ∀ (ps : List (Nat × Operand)) (qs : List (Nat × Nat × Opd)), placesOf tb fs ps = some qs → PartsRel φ place (qs.map fun p => (p.1, p.2.1, ρ p.2.2)) (ps.map fun p => (p.1, ρ' p.2)) := by
  intro ps
  induction ps with
  | nil => intro qs h; simp [placesOf] at h; subst h; exact .nil
  | cons p ps ih =>
    obtain ⟨i, x⟩ := p
    intro qs h
    simp only [placesOf] at h
    split at h
    · rename_i f x' qs' hf hx hqs
      split at h
      · rename_i fi hfi
        cases h
        exact .cons _ _ _ _ _ _ _ (hp i f fi hf hfi) (H _ _ hx) (ih _ hqs)
      · cases h
    · cases h

theorem parts_rows {φ : Map} {ρ : Opd → AVal} {ρ' : Operand → Value} (H : PRel φ ρ ρ') (size : Nat) :
    ∀ (ps : List (Nat × Operand)) (qs : List (Nat × Nat × Opd)), rowsOf size ps = some qs → PartsRel φ (fun i => some (i * size, size)) (qs.map fun p => (p.1, p.2.1, ρ p.2.2)) (ps.map fun p => (p.1, ρ' p.2)) := by
  intro ps
  induction ps with
  | nil => intro qs h; simp [rowsOf] at h; subst h; exact .nil
  | cons p ps ih =>
    obtain ⟨i, x⟩ := p
    intro qs h
    simp only [rowsOf] at h
    split at h
    · rename_i x' qs' hx hqs
      cases h
      exact .cons _ _ _ _ _ _ _ rfl (H _ _ hx) (ih _ hqs)
    · cases h

theorem run_mapM_sizes {P : Program} {tb : Types} (T : TbOk P tb) (w : World) : ∀ (fs : List Field), fieldsKnown tb fs = true →
    ∃ ps : List (Nat × Nat), (fs.mapM fun f => (do pure (f.offset, ← sizeOf f.type) : Sem (Nat × Nat))).run P w = .ok ps w ∧ ∀ (i : Nat) (f : Field) (fi : TInfo), fs[i]? = some f → tb.get f.type = some fi → ps[i]? = some (f.offset, fi.size) := by
  intro fs
  induction fs with
  | nil => intro _; exact ⟨[], by simp, by simp⟩
  | cons f fs ih =>
    intro h
    simp only [fieldsKnown] at h
    split at h
    · rename_i fi hfi
      obtain ⟨ps, h1, h2⟩ := ih h
      refine ⟨(f.offset, fi.size) :: ps, ?_, ?_⟩
      · rw [List.mapM_cons]
        simp only [Sem.run_bind, run_sizeOf_tb T hfi, Result.andThen_ok, Sem.run_pure, h1]
      · intro i g gi hg hgi
        cases i with
        | zero => simp at hg; subst hg; rw [hfi] at hgi; cases hgi; rfl
        | succ i => simp at hg; simpa using h2 i g gi hg hgi
    · cases h

section
variable {P : Program} {tb : Types} (T : TbOk P tb) {φ : Map} {h : Heap} {w : World} (r : HRel φ h w) {ρ : Opd → AVal} {ρ' : Operand → Value} (H : PRel φ ρ ρ')

include T H in
theorem build_struct_sound {t : TypeId} {i : TInfo} {z : List AVal} {fs : Array Field} {ps : Array (Nat × Operand)} {qs : List (Nat × Nat × Opd)} (ht : tb.get t = some i) (hz : zerosOf i = some z) (hd : i.desc = .struct fs) (hk : fieldsKnown tb fs.toList = true)
    (hp : placesOf tb fs.toList ps.toList = some qs) {b : AVal} (he : evalRead h (.build z (qs.map fun p => (p.1, p.2.1, ρ p.2.2))) = some b) : Gives P φ w (Instr.build t (ps.map fun (i, x) => (i, ρ' x))) b := by
  have hu := run_underlying_tb T ht w
  rw [hd] at hu
  obtain ⟨zv, hzv, _, _, hzr⟩ := zerosOf_spec hz
  have hzero := run_zeroValue_tb T ht w hzv
  obtain ⟨pl, hm, hpl⟩ := run_mapM_sizes T w fs.toList hk
  simp only [evalRead] at he
  cases hf : fillAll z (qs.map fun p => (p.1, p.2.1, ρ p.2.2)) with
  | none => simp [hf] at he
  | some cs =>
    simp [hf] at he; subst he
    have hparts := parts_struct (place := fun i => pl.toArray[i]?) H (fun i f fi h1 h2 => by simpa using hpl i f fi h1 h2) ps.toList qs hp
    obtain ⟨us, e1, e2, e3⟩ := fill_sound hparts (hzr φ) hf
    refine ⟨.agg us, ?_, .agg _ _ e2⟩
    have hm' : (fs.mapM fun f => (do pure (f.offset, ← sizeOf f.type) : Sem (Nat × Nat))).run P w = .ok pl.toArray w := by
      rw [Array.mapM_eq_mapM_toList]
      simp only [Sem.run_map, hm, Result.andThen_ok]
    have hparts' : (ps.map fun (i, x) => (i, ρ' x)).toList = ps.toList.map fun p => (p.1, ρ' p.2) := by simp
    simp only [Instr.build, Sem.run_bind, hzero, Result.andThen_ok, hu, hm', hparts', e1, Sem.run_pure]

include T H in
theorem build_array_sound {t e : TypeId} {n : Nat} {i ei : TInfo} {z : List AVal} {ps : Array (Nat × Operand)} {qs : List (Nat × Nat × Opd)} (ht : tb.get t = some i) (hz : zerosOf i = some z) (hd : i.desc = .array n e) (hei : tb.get e = some ei)
    (hp : rowsOf ei.size ps.toList = some qs) {b : AVal} (he : evalRead h (.build z (qs.map fun p => (p.1, p.2.1, ρ p.2.2))) = some b) : Gives P φ w (Instr.build t (ps.map fun (i, x) => (i, ρ' x))) b := by
  have hu := run_underlying_tb T ht w
  rw [hd] at hu
  have hs := run_sizeOf_tb T hei w
  obtain ⟨zv, hzv, _, _, hzr⟩ := zerosOf_spec hz
  have hzero := run_zeroValue_tb T ht w hzv
  simp only [evalRead] at he
  cases hf : fillAll z (qs.map fun p => (p.1, p.2.1, ρ p.2.2)) with
  | none => simp [hf] at he
  | some cs =>
    simp [hf] at he; subst he
    have hparts := parts_rows H ei.size ps.toList qs hp
    obtain ⟨us, e1, e2, e3⟩ := fill_sound hparts (hzr φ) hf
    refine ⟨.agg us, ?_, .agg _ _ e2⟩
    have hparts' : (ps.map fun (i, x) => (i, ρ' x)).toList = ps.toList.map fun p => (p.1, ρ' p.2) := by simp
    simp only [Instr.build, Sem.run_bind, hzero, Result.andThen_ok, hu, hs, hparts', e1, Sem.run_pure]

/-- A call of a builtin, as the model resolves it. -/
theorem run_builtin_call (b : Builtin) (args : Array Operand) (argTypes : Array TypeId) (type : TypeId) :
    ((do let d ← resolve ρ' ⟨.builtin b, args, argTypes⟩ type; invoke d.target d.args : Sem Next).run P w) =
      (builtin b argTypes type (args.map fun | .const _ => true | _ => false) (args.map ρ')).run P w := by
  simp only [resolve, invoke, Sem.run_bind, Sem.run_pure, Result.andThen_ok]
  rfl

theorem opds_one {xs : List Operand} {y : Opd} (h : opdsOf xs = some [y]) : ∃ x, xs = [x] ∧ opdOf x = some y := by
  cases xs with
  | nil => simp [opdsOf] at h
  | cons x xs =>
    simp only [opdsOf] at h
    split at h
    · rename_i y' ys h1 h2
      cases h
      cases xs with
      | nil => exact ⟨x, rfl, h1⟩
      | cons z zs =>
        simp only [opdsOf] at h2
        split at h2 <;> cases h2
    · cases h

theorem opds_two {xs : List Operand} {y z : Opd} (h : opdsOf xs = some [y, z]) : ∃ u v, xs = [u, v] ∧ opdOf u = some y ∧ opdOf v = some z := by
  cases xs with
  | nil => simp [opdsOf] at h
  | cons x xs =>
    simp only [opdsOf] at h
    split at h
    · rename_i y' ys h1 h2
      cases h
      obtain ⟨v, rfl, h3⟩ := opds_one h2
      exact ⟨x, v, rfl, h1, h3⟩
    · cases h

include T r H in
theorem builtin_read_sound {b : Builtin} {args : Array Operand} {argTypes : Array TypeId} {opds : List Opd} {ao : AOp Opd} (hx : opdsOf args.toList = some opds) (hc : compBuiltin tb b argTypes.toList opds = some ao) {a : AVal} (he : evalRead h (ao.map ρ) = some a)
    (type : TypeId) (consts : Array Bool) : ∃ v, (builtin b argTypes type consts (args.map ρ')).run P w = .ok (.value v) w ∧ VRel φ a v := by
  unfold compBuiltin at hc
  obtain ⟨argTypes⟩ := argTypes
  obtain ⟨args⟩ := args
  simp only [] at hx hc
  split at hc
  · -- len
    rename_i t x
    split at hc
    · rename_i i ht
      have hu := run_underlying_tb T ht w
      obtain ⟨x', rfl, hx'⟩ := opds_one hx
      have hv := H _ _ hx'
      split at hc
      · rename_i hd
        cases hc
        rw [hd] at hu
        simp only [AOp.map] at he
        obtain ⟨ux, hux⟩ : ∃ u, ρ' x' = u := ⟨_, rfl⟩
        rw [hux] at hv
        generalize ρ x = ax at hv he
        cases hv <;> simp only [evalRead, reduceCtorEq] at he
        rename_i s
        cases he
        exact ⟨.int .i64 s.size, by simp [builtin, Builtin.len_, hu, hux, goInt], by simpa using VRel.int (φ := φ) .i64 s.size⟩
      · rename_i n e hd
        cases hc
        rw [hd] at hu
        simp only [AOp.map, evalRead] at he
        cases he
        exact ⟨.int .i64 n, by simp [builtin, Builtin.len_, hu, goInt], .int _ _⟩
      · rename_i ar hd
        rw [hd] at hu
        split at hc
        · rename_i ai hai
          have hua := run_underlying_tb T hai w
          split at hc
          · rename_i n e hda
            cases hc
            rw [hda] at hua
            simp only [AOp.map, evalRead] at he
            cases he
            exact ⟨.int .i64 n, by simp [builtin, Builtin.len_, hu, hua, goInt], .int _ _⟩
          · cases hc
        · cases hc
      · rename_i e hd
        cases hc
        rw [hd] at hu
        simp only [AOp.map] at he
        obtain ⟨ux, hux⟩ : ∃ u, ρ' x' = u := ⟨_, rfl⟩
        rw [hux] at hv
        generalize ρ x = ax at hv he
        cases hv
        case raw =>
          cases ux <;> simp only [evalRead, reduceCtorEq] at he
          cases he
          exact ⟨.int .i64 _, by simp [builtin, Builtin.len_, hu, hux, goInt], .int _ _⟩
        all_goals
          simp only [evalRead, reduceCtorEq] at he
        all_goals cases he
        all_goals exact ⟨.int .i64 _, by simp [builtin, Builtin.len_, hu, hux, goInt], .int _ _⟩
      · rename_i k e hd
        cases hc
        rw [hd] at hu
        simp only [AOp.map, evalRead] at he
        split at he
        · rename_i es hes
          cases he
          rcases entriesOf_sound (P := P) r hv hes with ⟨h0, rfl⟩ | ⟨bl, fs, clock, h0, hg, hmr⟩
          · exact ⟨.int .i64 0, by simp [builtin, Builtin.len_, hu, goInt, h0], by simpa using VRel.int (φ := φ) .i64 0⟩
          · have := hmr.length
            exact ⟨.int .i64 fs.size, by simp [builtin, Builtin.len_, hu, goInt, h0, hg], by rw [this]; simpa using VRel.int (φ := φ) .i64 fs.size⟩
        · cases he
      · cases hc
    · cases hc
  · -- cap
    rename_i t x
    split at hc
    · rename_i i ht
      have hu := run_underlying_tb T ht w
      obtain ⟨x', rfl, hx'⟩ := opds_one hx
      have hv := H _ _ hx'
      split at hc
      · rename_i e hd
        cases hc
        rw [hd] at hu
        simp only [AOp.map] at he
        obtain ⟨ux, hux⟩ : ∃ u, ρ' x' = u := ⟨_, rfl⟩
        rw [hux] at hv
        generalize ρ x = ax at hv he
        cases hv <;> simp only [evalRead, reduceCtorEq] at he <;> cases he
        all_goals exact ⟨.int .i64 _, by simp [builtin, Builtin.cap_, hu, hux, goInt], .int _ _⟩
      · cases hc
    · cases hc
  · -- append
    repeat' split at hc
    all_goals first
      | (cases hc; done)
      | (cases hc; simp only [AOp.map, evalRead, reduceCtorEq] at he)
  · repeat' split at hc
    all_goals first
      | (cases hc; done)
      | (cases hc; simp only [AOp.map, evalRead, reduceCtorEq] at he)
  · repeat' split at hc
    all_goals first
      | (cases hc; done)
      | (cases hc; simp only [AOp.map, evalRead, reduceCtorEq] at he)
  · repeat' split at hc
    all_goals first
      | (cases hc; done)
      | (cases hc; simp only [AOp.map, evalRead, reduceCtorEq] at he)
  · -- max
    rename_i x ys
    cases hc
    simp only [AOp.map] at he
    cases args with
    | nil => simp [opdsOf] at hx
    | cons x' xs =>
      simp only [opdsOf] at hx
      split at hx
      · rename_i y0 ys0 h1 h2
        cases hx
        have hv := H _ _ h1
        have hvs := H.list _ _ h2
        obtain ⟨ux, hux⟩ : ∃ u, ρ' x' = u := ⟨_, rfl⟩
        rw [hux] at hv
        generalize ρ x = ax at hv he
        cases hv <;> simp only [evalRead, reduceCtorEq] at he
        rename_i k n
        cases hf : foldMM true k n (ys.map ρ) with
        | none => simp [hf] at he
        | some q =>
          simp [hf] at he; subst he
          have := foldMM_sound (P := P) (w := w) hvs hf
          simp only [if_true] at this
          refine ⟨.int k q, ?_, .int _ _⟩
          simp [builtin, Builtin.max_, hux, this]
      · cases hx
  · rename_i x ys
    cases hc
    simp only [AOp.map] at he
    cases args with
    | nil => simp [opdsOf] at hx
    | cons x' xs =>
      simp only [opdsOf] at hx
      split at hx
      · rename_i y0 ys0 h1 h2
        cases hx
        have hv := H _ _ h1
        have hvs := H.list _ _ h2
        obtain ⟨ux, hux⟩ : ∃ u, ρ' x' = u := ⟨_, rfl⟩
        rw [hux] at hv
        generalize ρ x = ax at hv he
        cases hv <;> simp only [evalRead, reduceCtorEq] at he
        rename_i k n
        cases hf : foldMM false k n (ys.map ρ) with
        | none => simp [hf] at he
        | some q =>
          simp [hf] at he; subst he
          have := foldMM_sound (P := P) (w := w) hvs hf
          simp only [Bool.false_eq_true, if_false] at this
          refine ⟨.int k q, ?_, .int _ _⟩
          simp [builtin, Builtin.min_, hux, this]
      · cases hx
  · cases hc

/-- What a reading operation of the small machine gives, the model's operation gives, and memory stays as it is. -/
def Reads (P : Program) (φ : Map) (w : World) (ρ' : Operand → Value) (op : Op) (a : AVal) : Prop :=
  ∀ dst type pos after guard, ∃ v, (execOp ρ' ⟨dst, op, type, pos, after, guard⟩).run P w = .ok (.value v) w ∧ VRel φ a v

include T r H in
theorem read_sound {op : Op} {ao : AOp Opd} (hc : compOp tb op = some ao) {a : AVal} (he : evalRead h (ao.map ρ) = some a) : Reads P φ w ρ' op a := by
  intro dst type pos after guard
  cases op <;> simp only [compOp] at hc
  case move x =>
    split at hc
    · rename_i y hy; cases hc
      simp only [AOp.map, evalRead] at he; cases he
      exact ⟨_, rfl, H _ _ hy⟩
    · cases hc
  case assign x =>
    split at hc
    · rename_i y hy; cases hc
      simp only [AOp.map, evalRead] at he; cases he
      exact ⟨_, rfl, H _ _ hy⟩
    · cases hc
  case pick c x y =>
    split at hc
    · rename_i c' x' y' h1 h2 h3; cases hc
      have := pick_sound (P := P) (w := w) (H _ _ h1) (H _ _ h2) (H _ _ h3) he
      obtain ⟨v, e1, e2⟩ := this
      refine ⟨v, ?_, e2⟩
      simp only [Sem.run_bind] at e1
      simp only [execOp, Sem.run_bind]
      cases hx : (asBool (ρ' c)).run P w with
      | ok q w' => rw [hx] at e1; simp only [Result.andThen_ok, Sem.run_pure, Result.ok.injEq] at e1 ⊢; exact ⟨by rw [e1.1], e1.2⟩
      | halt q w' => rw [hx] at e1; simp at e1
    · cases hc
  case alloc e =>
    repeat' split at hc
    all_goals first
      | (cases hc; done)
      | (cases hc; simp only [AOp.map, evalRead, reduceCtorEq] at he)
  case box e x =>
    repeat' split at hc
    all_goals first
      | (cases hc; done)
      | (cases hc; simp only [AOp.map, evalRead, reduceCtorEq] at he)
  case build t ps =>
    split at hc
    · rename_i i ht
      split at hc
      · rename_i z fs hz hd
        split at hc
        · rename_i qs hk hp; cases hc
          exact gives_value (build_struct_sound T H ht hz hd hk hp he)
        · cases hc
      · rename_i z n e hz hd
        split at hc
        · rename_i ei hei
          split at hc
          · rename_i qs hp; cases hc
            exact gives_value (build_array_sound T H ht hz hd hei hp he)
          · cases hc
        · cases hc
      · cases hc
    · cases hc
  case buildSlice t n ps =>
    repeat' split at hc
    all_goals first
      | (cases hc; done)
      | (cases hc; simp only [AOp.map, evalRead, reduceCtorEq] at he)
  case insert t m k v =>
    repeat' split at hc
    all_goals first
      | (cases hc; done)
      | (cases hc; simp only [AOp.map, evalRead, reduceCtorEq] at he)
  case load t x =>
    split at hc
    · rename_i i y ht hy
      split at hc
      · rename_i hagg; cases hc
        exact gives_value (loadN_sound T r ht hagg (H _ _ hy) he)
      · rename_i hagg; cases hc
        exact gives_value (load1_sound T r ht hagg (H _ _ hy) he)
    · cases hc
  case store t x y =>
    repeat' split at hc
    all_goals first
      | (cases hc; done)
      | (cases hc; simp only [AOp.map, evalRead, reduceCtorEq] at he)
  case ready => cases hc
  case waits => cases hc
  case nilCheck x =>
    split at hc
    · rename_i y hy; cases hc
      have hv := H _ _ hy
      obtain ⟨e1, e2⟩ := nilCheck_sound hv he
      refine ⟨ρ' x, ?_, e1 ▸ hv⟩
      rcases e2 with ⟨p, e2⟩ | ⟨f, c, d, e2⟩ <;> simp [execOp, e2]
    · cases hc
  case binOp op t x y yt =>
    cases hx : opdOf x with
    | none => simp [hx, bind2] at hc
    | some x' =>
      cases hy : opdOf y with
      | none => simp [hx, hy, bind2] at hc
      | some y' =>
        simp only [hx, hy, bind2] at hc
        cases hc
        simp only [AOp.map, evalRead] at he
        obtain ⟨z, e1, e2⟩ := evalBin_sound (t := t) T r (fun q hq => by cases op <;> first | (cases hq; done) | exact hq) (H _ _ hx) (H _ _ hy) he x y
        exact gives_value ⟨z, e1, e2⟩
  case unOp op t x =>
    split at hc
    · rename_i y hy; cases hc
      exact gives_value (un_sound (H _ _ hy) he)
    · cases hc
  case convert s d x =>
    cases hk : convOf tb s d with
    | none => simp [hk, bind2] at hc
    | some k =>
      cases hx : opdOf x with
      | none => simp [hk, hx, bind2] at hc
      | some y =>
        simp only [hk, hx, bind2] at hc
        cases hc
        exact gives_value (conv_sound T r hk (H _ _ hx) he)
  case sliceToArrayPointer => cases hc
  case makeInterface t x =>
    split at hc
    · rename_i i y ht hy
      split at hc
      · cases hc
      · rename_i hne; cases hc
        exact gives_value (mkIface_sound T ht (fun ms e => hne ms e) (H _ _ hy) he)
    · cases hc
  case makeFunc fn first captured =>
    cases fn <;> simp only [reduceCtorEq] at hc
    rename_i f
    cases h1 : opdsOf first.toList with
    | none => simp [h1, bind2] at hc
    | some a1 =>
      cases h2 : opdsOf captured.toList with
      | none => simp [h1, h2, bind2] at hc
      | some a2 =>
        simp only [h1, h2, bind2] at hc
        cases hc
        simp only [AOp.map, evalRead] at he
        cases he
        refine ⟨.func (.func f) (first.map ρ') (captured.map ρ'), by simp [execOp, Instr.makeFunc], .func _ _ _ _ _ ?_ ?_⟩
        · simpa using H.list _ _ h1
        · simpa using H.list _ _ h2
  case makeMap t rs =>
    cases rs <;> simp only [reduceCtorEq] at hc
    cases hc; simp only [AOp.map, evalRead, reduceCtorEq] at he
  case makeChan => cases hc
  case makeSlice t l c =>
    repeat' split at hc
    all_goals first
      | (cases hc; done)
      | (cases hc; simp only [AOp.map, evalRead, reduceCtorEq] at he)
  case slice t x lo hi mx =>
    split at hc
    · rename_i i x' lo' hi' mx' ht hx hlo hhi hmx
      split at hc
      · cases hc
      · rename_i hm
        have hm' : (hi.map ρ').isSome || (mx.map ρ').isNone := by simpa using hm
        split at hc
        · rename_i hd
          split at hc
          · cases hc
            exact gives_value (sliceStr_sound T ht hd (H _ _ hx) (H.opt _ _ hlo) (H.opt _ _ hhi) he)
          · cases hc
        · rename_i e hd
          split at hc
          · rename_i ei hei; cases hc
            exact gives_value (sliceSl_sound T ht hd hei (H _ _ hx) (H.opt _ _ hlo) (H.opt _ _ hhi) (H.opt _ _ hmx) hm' he)
          · cases hc
        · rename_i n e hd
          split at hc
          · rename_i ei hei; cases hc
            exact gives_value (sliceArr_sound T ht hd hei (H _ _ hx) (H.opt _ _ hlo) (H.opt _ _ hhi) (H.opt _ _ hmx) hm' he)
          · cases hc
        · cases hc
    · cases hc
  case fieldAddr t x f =>
    split at hc
    · rename_i i y ht hy
      split at hc
      · rename_i fs hd
        split at hc
        · rename_i fd hf
          split at hc
          · rename_i fi hfi
            split at hc
            · cases hc
            · rename_i hs; cases hc
              exact gives_value (fieldAddr_sound T ht hd hf hfi (Nat.ne_of_beq_eq_false hs) (H _ _ hy) he)
          · cases hc
        · cases hc
      · cases hc
    · cases hc
  case field t x f =>
    split at hc
    · rename_i i y ht hy
      split at hc
      · rename_i fs hd
        split at hc
        · rename_i fd hf
          split at hc
          · rename_i fi hfi
            split at hc
            · rename_i hagg; cases hc
              exact gives_value (fieldN_sound T ht hd hf hfi hagg (H _ _ hy) he)
            · rename_i hagg; cases hc
              exact gives_value (field1_sound T ht hd hf hfi hagg (H _ _ hy) he)
          · cases hc
        · cases hc
      · cases hc
    · cases hc
  case indexAddr t x ix =>
    split at hc
    · rename_i ti x' i' ht hx hi
      split at hc
      · rename_i n e hd
        split at hc
        · rename_i ei hei; cases hc
          exact gives_value (idxAddrA_sound T ht hd hei (H _ _ hx) (H _ _ hi) he)
        · cases hc
      · rename_i e hd
        split at hc
        · rename_i ei hei; cases hc
          exact gives_value (idxAddrS_sound T ht hd hei (H _ _ hx) (H _ _ hi) he)
        · cases hc
      · cases hc
    · cases hc
  case index t x ix =>
    split at hc
    · rename_i ti x' i' ht hx hi
      split at hc
      · rename_i n e hd
        split at hc
        · rename_i ei hei
          split at hc
          · rename_i hagg; cases hc
            exact gives_value (idxAN_sound T ht hd hei hagg (H _ _ hx) (H _ _ hi) he)
          · rename_i hagg
            split at hc
            · rename_i hs; cases hc
              exact gives_value (idxA1_sound T ht hd hei hagg (Nat.eq_of_beq_eq_true hs) (H _ _ hx) (H _ _ hi) he)
            · cases hc
        · cases hc
      · rename_i hd; cases hc
        exact gives_value (idxStr_sound T ht hd (H _ _ hx) (H _ _ hi) he)
      · cases hc
    · cases hc
  case lookup t x ix ok =>
    split at hc
    · rename_i ti x' i' ht hx hi
      split at hc
      · rename_i kt e hd
        split at hc
        · rename_i ki ei hki hei
          split at hc
          · cases hc
          · rename_i kk z hne hkk hz
            split at hc
            · rename_i za hza; cases hc
              exact gives_value (lookup_sound T r ht hd hki hei (keyDesc_of hkk fun hp => hne hp) hz (ofConst_rel φ _ _ hza) (H _ _ hx) (H _ _ hi) he)
            · cases hc
          · cases hc
        · cases hc
      · cases hc
    · cases hc
  case mapUpdate t m k v =>
    repeat' split at hc
    all_goals first
      | (cases hc; done)
      | (cases hc; simp only [AOp.map, evalRead, reduceCtorEq] at he)
  case mapEntry => cases hc
  case entryStore => cases hc
  case range => cases hc
  case next => cases hc
  case entry => cases hc
  case typeAssert => cases hc
  case extract x i =>
    split at hc
    · rename_i y hy; cases hc
      exact gives_value (extract_sound (H _ _ hy) he)
    · cases hc
  case call c =>
    obtain ⟨callee, args, argTypes⟩ := c
    simp only [] at hc
    split at hc
    · split at hc
      · cases hc; simp only [AOp.map, evalRead, reduceCtorEq] at he
      · cases hc
    · rename_i b opds hx
      have := builtin_read_sound T r H hx hc he type (args.map fun | .const _ => true | _ => false)
      obtain ⟨v, e1, e2⟩ := this
      exact ⟨v, (run_builtin_call b args argTypes type).trans e1, e2⟩
    · cases hc
  case go => cases hc
  case defer => cases hc
  case panic => cases hc
  case send => cases hc
  case recv => cases hc
  case select => cases hc

end
end Go.AM
