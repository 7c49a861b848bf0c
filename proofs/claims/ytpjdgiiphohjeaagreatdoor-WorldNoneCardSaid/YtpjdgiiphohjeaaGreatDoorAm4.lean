import Derived.Test.YtpjdgiiphohjeaaGreatDoorAm3
import Derived.Laws.Strings
/-! What a reading operation of the small machine gives, the model's operation gives. -/
namespace Go.AM

/-- The table says what the program's types are. -/
def TbOk (P : Program) (tb : Types) : Prop := ∀ t i, tb.get t = some i → P.underlying t = some i.desc ∧
  (∃ ti, P.info? t = some ti ∧ ti.size = i.size ∧ ti.bytes = i.bytes ∧ ti.zero = i.zero) ∧ P.stoodInHeld t = i.held ∧ P.eqGuardType P.depth t = i.eqg

theorem typesFrom_ok (P : Program) : ∀ n, TbOk P (typesFrom P n) := by
  intro n
  induction n with
  | zero => intro t i h; simp [typesFrom, Tr.get_leaf] at h
  | succ n ih =>
    intro t i h
    simp only [typesFrom] at h
    split at h
    · rename_i d ti h1 h2
      rw [Tr.get_set] at h
      split at h
      · rename_i e; subst e; cases h
        exact ⟨h1, ⟨ti, h2, rfl, rfl, rfl⟩, rfl, rfl⟩
      · exact ih t i h
    · exact ih t i h

section types
variable {P : Program} {tb : Types} (T : TbOk P tb) {t : TypeId} {i : TInfo} (h : tb.get t = some i) (w : World)
include T h
theorem run_underlying_tb : (underlying t).run P w = .ok i.desc w := by
  have := (T t i h).1
  simp [underlying, this]
theorem run_typeInfo_tb : ∃ ti, (∀ w, (typeInfo t).run P w = .ok ti w) ∧ ti.size = i.size ∧ ti.bytes = i.bytes ∧ ti.zero = i.zero := by
  obtain ⟨ti, h1, h2⟩ := (T t i h).2.1
  exact ⟨ti, fun w => by simp [typeInfo, h1], h2⟩
theorem run_sizeOf_tb : (sizeOf t).run P w = .ok i.size w := by
  obtain ⟨ti, h1, h2, _⟩ := run_typeInfo_tb T h
  simp [sizeOf, h1, h2]
theorem run_isAgg_tb : (isAgg t).run P w = .ok (isAggD i.desc) w := by
  have := run_underlying_tb T h w
  simp only [isAgg, Sem.run_bind, this, Result.andThen_ok]
  cases i.desc <;> simp [isAggD]
theorem run_zeroValue_tb {z : Value} (hz : i.zero = some z) : (zeroValue t).run P w = .ok z w := by
  obtain ⟨ti, h1, _, _, h4⟩ := run_typeInfo_tb T h
  simp [zeroValue, h1, h4, hz]
end types

/-! ### Constants -/
mutual
theorem ofConst_rel (φ : Map) : ∀ (v : Value) (a : AVal), ofConst v = some a → VRel φ a v
  | .bool b, a, h => by simp [ofConst] at h; subst h; exact .bool b
  | .int k n, a, h => by simp [ofConst] at h; subst h; exact .int k n
  | .string s, a, h => by simp [ofConst] at h; subst h; exact .str s
  | .pointer none, a, h => by simp [ofConst] at h; subst h; exact .nilptr
  | .pointer (some _), a, h => by simp [ofConst] at h
  | .slice none 0 0, a, h => by simp [ofConst] at h; subst h; exact .nilslice
  | .slice none (n + 1) c, a, h => by simp [ofConst] at h
  | .slice none 0 (c + 1), a, h => by simp [ofConst] at h
  | .slice (some _) _ _, a, h => by simp [ofConst] at h
  | .map none, a, h => by simp [ofConst] at h; subst h; exact .nilmap
  | .map (some _), a, h => by simp [ofConst] at h
  | .nilFunc, a, h => by simp [ofConst] at h; subst h; exact .nilfunc
  | .nilIface, a, h => by simp [ofConst] at h; subst h; exact .nilIface
  | .func fn x y, a, h => by
    obtain ⟨x⟩ := x; obtain ⟨y⟩ := y
    cases fn <;> cases x <;> cases y <;> simp [ofConst] at h
    subst h; exact .func _ _ _ _ _ .nil .nil
  | .iface t v, a, h => by
    simp only [ofConst] at h
    split at h
    · rename_i b hb; cases h; exact .iface t b v (ofConst_rel φ v b hb)
    · cases h
  | .agg ⟨cs⟩, a, h => by
    simp only [ofConst] at h
    split at h
    · rename_i b hb; cases h; exact .agg b _ (ofConsts_rel φ cs b hb)
    · cases h
  | .tuple ⟨cs⟩, a, h => by
    cases cs <;> simp [ofConst] at h
    subst h; exact .tuple _ _ .nil
  | .float .., a, h => by simp [ofConst] at h
  | .complex .., a, h => by simp [ofConst] at h
  | .chan .., a, h => by simp [ofConst] at h
theorem ofConsts_rel (φ : Map) : ∀ (vs : List Value) (as : List AVal), ofConsts vs = some as → VRels φ as vs
  | [], as, h => by simp [ofConsts] at h; subst h; exact .nil
  | v :: vs, as, h => by
    simp only [ofConsts] at h
    split at h
    · rename_i b bs hb hbs; cases h; exact .cons b v bs vs (ofConst_rel φ v b hb) (ofConsts_rel φ vs bs hbs)
    · cases h
end

theorem cells_rel {φ : Map} {a : AVal} {v : Value} (h : VRel φ a v) (hr : a.cells.all AVal.one = true) : VRels φ a.cells v.cells.toList := by
  cases h with
  | agg a c h => exact h
  | raw v => simp [AVal.cells, AVal.one] at hr
  | tuple a c h => simp [AVal.cells, AVal.one] at hr
  | _ => exact .cons _ _ _ _ (by constructor <;> assumption) .nil

theorem zerosOf_spec {i : TInfo} {z : List AVal} (h : zerosOf i = some z) : ∃ v, i.zero = some v ∧ z.length = i.size ∧ z.all AVal.one = true ∧ ∀ φ, VRels φ z v.cells.toList := by
  unfold zerosOf at h
  split at h
  · rename_i v hv
    split at h
    · rename_i a ha
      split at h
      · rename_i hb
        cases h
        simp only [Bool.and_eq_true] at hb
        exact ⟨v, hv, Nat.eq_of_beq_eq_true hb.1, hb.2, fun φ => cells_rel (ofConst_rel φ v a ha) hb.2⟩
      · cases h
    · cases h
  · cases h

/-! ### Operands -/
/-- What the small machine finds in an operand is what the model finds. -/
def PRel (φ : Map) (ρ : Opd → AVal) (ρ' : Operand → Value) : Prop := ∀ x y, opdOf x = some y → VRel φ (ρ y) (ρ' x)

theorem PRel.list {φ : Map} {ρ : Opd → AVal} {ρ' : Operand → Value} (H : PRel φ ρ ρ') : ∀ (xs : List Operand) (ys : List Opd), opdsOf xs = some ys → VRels φ (ys.map ρ) (xs.map ρ')
  | [], ys, h => by simp [opdsOf] at h; subst h; exact .nil
  | x :: xs, ys, h => by
    simp only [opdsOf] at h
    split at h
    · rename_i y ys' hy hys; cases h
      exact .cons _ _ _ _ (H x y hy) (PRel.list H xs ys' hys)
    · cases h

/-- Both sides of an operand that may be missing. -/
inductive ORelV (φ : Map) : Option AVal → Option Value → Prop where
  | none : ORelV φ none none
  | some (a : AVal) (v : Value) (h : VRel φ a v) : ORelV φ (some a) (some v)

theorem PRel.opt {φ : Map} {ρ : Opd → AVal} {ρ' : Operand → Value} (H : PRel φ ρ ρ') (x : Option Operand) (y : Option Opd) (h : optOf x = some y) : ORelV φ (y.map ρ) (x.map ρ') := by
  cases x with
  | none => simp [optOf] at h; subst h; exact .none
  | some x =>
    simp only [optOf] at h
    split at h
    · rename_i z hz; cases h; exact .some _ _ (H x z hz)
    · cases h

/-! ### Numbers -/
theorem wrapF_eq (k : IntKind) (n : Int) : wrapF k n = k.wrap n := by
  unfold wrapF
  split
  · split
    · split
      · rename_i m _ hm
        have hm' : m < 9223372036854775808 := by simpa [Nat.blt_eq] using hm
        simp only [IntKind.wrap, IntKind.bits, IntKind.signed, Int.ofNat_eq_natCast]
        have h1 : ((m : Int) % (2 ^ 64 : Int)) = m := Int.emod_eq_of_lt (by omega) (by omega)
        simp only [h1]
        simp
        omega
      · rfl
    · split
      · rename_i m _ hm
        have hm' : m < 9223372036854775808 := by simpa [Nat.blt_eq] using hm
        simp only [IntKind.wrap, IntKind.bits, IntKind.signed]
        have h1 : (Int.negSucc m % (2 ^ 64 : Int)) = 2 ^ 64 - 1 - m := by
          rw [Int.negSucc_eq]
          omega
        simp only [h1]
        rw [if_pos (by simp; omega)]
        rw [Int.negSucc_eq]; omega
      · rfl
  · rfl

theorem asNat_spec {φ : Map} {a : AVal} {v : Value} {m n : Nat} (h : VRel φ a v) (e : asNat a m = some n) : ∃ k, a = .int k n ∧ v = .int k n ∧ n ≤ m := by
  unfold asNat at e
  split at e
  · rename_i k n'
    split at e
    · rename_i hb; cases e
      cases h
      exact ⟨k, rfl, rfl, Nat.le_of_ble_eq_true hb⟩
    · cases e
  · cases e

theorem run_sliceBound {P : Program} {w : World} {φ : Map} {a : AVal} {v : Value} {m n : Nat} (h : VRel φ a v) (e : asNat a m = some n) (code : BoundsCode) :
    (Instr.sliceBound v m code).run P w = .ok n w := by
  obtain ⟨k, _, rfl, hle⟩ := asNat_spec h e
  simp [Instr.sliceBound, asIntOf, hle]

theorem intBin_sound {P : Program} {w : World} {t : TypeId} {op : BinOp} {k : IntKind} {x y : Int} {a : AVal} (h : intBin op k x y = some a) (φ : Map) :
    ∃ v, (binOp op t (.int k x) (.int k y)).run P w = .ok v w ∧ VRel φ a v := by
  cases op <;> simp only [intBin] at h
  case quo =>
    split at h
    · cases h
    · rename_i hy; cases h
      have hy' : ¬ y = 0 := by simpa using hy
      exact ⟨.int k (k.wrap (x.tdiv y)), by simp [binOp, Op.intDiv, hy'], by rw [wrapF_eq]; exact .int _ _⟩
  case rem =>
    split at h
    · cases h
    · rename_i hy; cases h
      have hy' : ¬ y = 0 := by simpa using hy
      exact ⟨_, by simp [binOp, Op.intDiv, hy'], .int _ _⟩
  case shl => cases h
  case shr => cases h
  all_goals
    cases h
    first
      | exact ⟨.int k (k.wrap _), by simp only [binOp, ne_eq, not_true_eq_false, if_false, Op.intArith]; rfl, by rw [wrapF_eq]; exact .int _ _⟩
      | exact ⟨.int k (k.wrap _), by simp only [binOp, ne_eq, not_true_eq_false, if_false, Op.intBits]; rfl, .int _ _⟩
      | exact ⟨.bool _, by simp only [binOp, ne_eq, not_true_eq_false, if_false, Op.intCmp]; rfl, .bool _⟩

theorem intShift_sound {P : Program} {w : World} {t : TypeId} {op : BinOp} {k l : IntKind} {x y : Int} {a : AVal} (hop : op = .shl ∨ op = .shr) (h : intShift op k x y = some a) (φ : Map) :
    ∃ v, (binOp op t (.int k x) (.int l y)).run P w = .ok v w ∧ VRel φ a v := by
  unfold intShift at h
  split at h
  · cases h
  · rename_i hy
    have hy' : ¬ y < 0 := by simpa using hy
    rcases hop with rfl | rfl <;> cases h
    · exact ⟨_, by simp [binOp, Op.shift, hy'], .int _ _⟩
    · exact ⟨_, by simp [binOp, Op.shift, hy'], .int _ _⟩

theorem strBin_sound {P : Program} {w : World} {t : TypeId} {op : BinOp} {x y : ByteArray} {a : AVal} (h : strBin op x.data.toList y.data.toList = some a) (φ : Map) :
    ∃ v, (binOp op t (.string x) (.string y)).run P w = .ok v w ∧ VRel φ a v := by
  cases op <;> simp only [strBin] at h
  case add =>
    split at h
    · rename_i hb; cases h
      have hb' : x.size + y.size < 9223372036854775808 := by simpa [Nat.blt_eq] using hb
      refine ⟨.string (x ++ y), ?_, ?_⟩
      · have : ¬ (((x.size + y.size : Nat) : Int) > IntKind.i64.max) := by
          simp only [IntKind.max, IntKind.signed, IntKind.bits]; simp; omega
        simp only [binOp, Op.stringOp, this, if_false]; rfl
      · have : x.data.toList ++ y.data.toList = (x ++ y).data.toList := by simp
        rw [this]; exact .str _
    · cases h
  all_goals first
    | (cases h; done)
    | (cases h; exact ⟨.bool _, by simp only [binOp, Op.stringOp, ByteArray.toList_eq]; rfl, .bool _⟩)

end Go.AM
