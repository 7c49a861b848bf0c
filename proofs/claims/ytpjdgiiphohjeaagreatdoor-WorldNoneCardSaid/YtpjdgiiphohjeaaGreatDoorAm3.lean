import Derived.Test.YtpjdgiiphohjeaaGreatDoorAm2
import Derived.Laws.Sem
/-! How the small machine's values and memory stand to the model's. -/
namespace Go.AM

/-! ### Finite maps -/
namespace Tr
variable {α : Type}
theorem get_leaf (n : Nat) : (Tr.leaf : Tr α).get n = none := by cases n <;> rfl
theorem get_zero (t : Tr α) : t.get 0 = t.val := by cases t <;> rfl
theorem get_succ (t : Tr α) (n : Nat) : t.get (n + 1) = match Nat.beq (n % 2) 0 with
    | true => t.left.get (n / 2)
    | false => t.right.get (n / 2) := by
  cases t with
  | leaf => simp only [left, right, get_leaf]; split <;> rfl
  | node v l r =>
    show Bool.rec (motive := fun _ => Option α) (r.get (n / 2)) (l.get (n / 2)) (Nat.beq (n % 2) 0) = _
    cases Nat.beq (n % 2) 0 <;> rfl
theorem put_zero (x : α) (n : Nat) (t : Tr α) : put x 0 n t = t := rfl
theorem put_succ_zero (x : α) (f : Nat) (t : Tr α) : put x (f + 1) 0 t = .node (some x) t.left t.right := rfl
theorem put_succ_succ (x : α) (f n : Nat) (t : Tr α) : put x (f + 1) (n + 1) t = match Nat.beq (n % 2) 0 with
    | true => .node t.val (put x f (n / 2) t.left) t.right
    | false => .node t.val t.left (put x f (n / 2) t.right) := by
  show Bool.rec (motive := fun _ => Tr α) (.node t.val t.left (put x f (n / 2) t.right)) (.node t.val (put x f (n / 2) t.left) t.right) (Nat.beq (n % 2) 0) = _
  cases Nat.beq (n % 2) 0 <;> rfl
theorem get_put (x : α) : ∀ (f n : Nat) (t : Tr α) (j : Nat), n < f → (put x f n t).get j = if j = n then some x else t.get j := by
  intro f
  induction f with
  | zero => intro n t j h; omega
  | succ f ih =>
    intro n t j h
    cases n with
    | zero =>
      cases j with
      | zero => simp [put_succ_zero, get_zero, val]
      | succ j => simp only [put_succ_succ, put_succ_zero]; rw [get_succ, get_succ t]; simp [left, right]
    | succ n =>
      have hn : n / 2 < f := by omega
      cases j with
      | zero => simp only [put_succ_succ, put_succ_zero]; split <;> simp [get_zero, val]
      | succ j =>
        simp only [put_succ_succ, put_succ_zero]
        cases hb : Nat.beq (n % 2) 0 with
        | true =>
          have hb' : n % 2 = 0 := Nat.eq_of_beq_eq_true hb
          simp only []
          rw [get_succ, get_succ t]
          simp only [left, right]
          cases hj : Nat.beq (j % 2) 0 with
          | true =>
            have hj' : j % 2 = 0 := Nat.eq_of_beq_eq_true hj
            simp only []
            rw [ih _ _ _ hn]
            by_cases e : j = n
            · subst e; simp
            · have e' : j / 2 ≠ n / 2 := by omega
              simp [e, e']
          | false =>
            have hj' : j % 2 ≠ 0 := Nat.ne_of_beq_eq_false hj
            have e : j ≠ n := by intro e; subst e; exact hj' hb'
            simp [e]
        | false =>
          have hb' : n % 2 ≠ 0 := Nat.ne_of_beq_eq_false hb
          simp only []
          rw [get_succ, get_succ t]
          simp only [left, right]
          cases hj : Nat.beq (j % 2) 0 with
          | true =>
            have hj' : j % 2 = 0 := Nat.eq_of_beq_eq_true hj
            have e : j ≠ n := by intro e; subst e; exact hb' hj'
            simp [e]
          | false =>
            have hj' : j % 2 ≠ 0 := Nat.ne_of_beq_eq_false hj
            simp only []
            rw [ih _ _ _ hn]
            by_cases e : j = n
            · subst e; simp
            · have e' : j / 2 ≠ n / 2 := by omega
              simp [e, e']
theorem get_set (t : Tr α) (n : Nat) (x : α) (j : Nat) : (t.set n x).get j = if j = n then some x else t.get j :=
  get_put x (n + 1) n t j (by omega)
end Tr

namespace Heap
theorem get_eq (h : Heap) (id : Nat) : h.get id = if id < h.next then h.tr.get id else none := by
  unfold get
  by_cases hlt : id < h.next
  · have : Nat.blt id h.next = true := by simpa [Nat.blt_eq] using hlt
    simp [this, hlt]
  · have : Nat.blt id h.next = false := by
      rw [Bool.eq_false_iff]; intro e; exact hlt (by simpa [Nat.blt_eq] using e)
    simp [this, hlt]
theorem get_lt {h : Heap} {id : Nat} {o : AObj} (e : h.get id = some o) : id < h.next := by
  rw [get_eq] at e
  by_cases hlt : id < h.next
  · exact hlt
  · simp [hlt] at e
theorem get_set (h : Heap) (id : Nat) (o : AObj) (j : Nat) : (h.set id o).get j = if j = id ∧ j < h.next then some o else h.get j := by
  rw [get_eq, get_eq]
  simp only [set, Tr.get_set]
  by_cases e : j = id
  · subst e; by_cases hl : j < h.next <;> simp [hl]
  · simp [e]
theorem get_push (h : Heap) (o : AObj) (j : Nat) : (h.push o).get j = if j = h.next then some o else h.get j := by
  rw [get_eq, get_eq]
  simp only [push, Tr.get_set]
  by_cases e : j = h.next
  · subst e; simp
  · have : (j < h.next + 1) ↔ (j < h.next) := by omega
    simp [e, this]
@[simp] theorem next_set (h : Heap) (id : Nat) (o : AObj) : (h.set id o).next = h.next := rfl
@[simp] theorem next_push (h : Heap) (o : AObj) : (h.push o).next = h.next + 1 := rfl
theorem get_empty (j : Nat) : Heap.empty.get j = none := by rw [get_eq]; simp [empty]
end Heap

/-! ### Values -/
structure Loc where
  block : Nat
  shift : Nat
  size : Nat

abbrev Map := Nat → Option Loc

def Loc.at_ (L : Loc) (off : Nat) : Addr := ⟨L.block, L.shift + off, none⟩

mutual
inductive VRel (φ : Map) : AVal → Value → Prop where
  | bool (b : Bool) : VRel φ (.bool b) (.bool b)
  | int (k : IntKind) (n : Int) : VRel φ (.int k n) (.int k n)
  | str (b : ByteArray) : VRel φ (.str b.data.toList) (.string b)
  | ptr (id off : Nat) (L : Loc) (h : φ id = some L) : VRel φ (.ptr id off) (.pointer (some (L.at_ off)))
  | nilptr : VRel φ .nilptr (.pointer none)
  | exact (id off len c : Nat) (L : Loc) (a : Addr) (h : φ id = some L) (hl : len ≤ c) (ha : c ≠ 0 → a = L.at_ off) : VRel φ (.slice id off len (.exact c)) (.slice (some a) len c)
  | upto (id off len e c : Nat) (L : Loc) (a : Addr) (h : φ id = some L) (hl : len ≤ c) (ha : c ≠ 0 → a = L.at_ off) (hs : L.shift + off + c * e = L.size) : VRel φ (.slice id off len (.upto e)) (.slice (some a) len c)
  | nilslice : VRel φ .nilslice (.slice none 0 0)
  | map (id : Nat) (L : Loc) (h : φ id = some L) : VRel φ (.map id) (.map (some L.block))
  | nilmap : VRel φ .nilmap (.map none)
  | func (f : FuncId) (a b : List AVal) (c d : Array Value) (h : VRels φ a c.toList) (h' : VRels φ b d.toList) : VRel φ (.func f a b) (.func (.func f) c d)
  | nilfunc : VRel φ .nilfunc .nilFunc
  | iface (t : TypeId) (a : AVal) (v : Value) (h : VRel φ a v) : VRel φ (.iface t a) (.iface t v)
  | nilIface : VRel φ .nilIface .nilIface
  | agg (a : List AVal) (c : Array Value) (h : VRels φ a c.toList) : VRel φ (.agg a) (.agg c)
  | tuple (a : List AVal) (c : Array Value) (h : VRels φ a c.toList) : VRel φ (.tuple a) (.tuple c)
  | raw (v : Value) (hb : ∀ b, v ≠ .bool b) : VRel φ (.raw v) v
inductive VRels (φ : Map) : List AVal → List Value → Prop where
  | nil : VRels φ [] []
  | cons (a : AVal) (v : Value) (as : List AVal) (vs : List Value) (h : VRel φ a v) (hs : VRels φ as vs) : VRels φ (a :: as) (v :: vs)
end

def Map.le (φ ψ : Map) : Prop := ∀ id L, φ id = some L → ψ id = some L

theorem Map.le_refl (φ : Map) : φ.le φ := fun _ _ h => h
theorem Map.le_trans {φ ψ χ : Map} (h : φ.le ψ) (h' : ψ.le χ) : φ.le χ := fun _ _ e => h' _ _ (h _ _ e)

mutual
theorem VRel.mono {φ ψ : Map} (hle : φ.le ψ) : ∀ {a : AVal} {v : Value}, VRel φ a v → VRel ψ a v
  | _, _, .bool b => .bool b
  | _, _, .int k n => .int k n
  | _, _, .str b => .str b
  | _, _, .ptr id off L h => .ptr id off L (hle _ _ h)
  | _, _, .nilptr => .nilptr
  | _, _, .exact id off len c L a h hl ha => .exact id off len c L a (hle _ _ h) hl ha
  | _, _, .upto id off len e c L a h hl ha hs => .upto id off len e c L a (hle _ _ h) hl ha hs
  | _, _, .nilslice => .nilslice
  | _, _, .map id L h => .map id L (hle _ _ h)
  | _, _, .nilmap => .nilmap
  | _, _, .func f a b c d h h' => .func f a b c d (VRels.mono hle h) (VRels.mono hle h')
  | _, _, .nilfunc => .nilfunc
  | _, _, .iface t a v h => .iface t a v (VRel.mono hle h)
  | _, _, .nilIface => .nilIface
  | _, _, .agg a c h => .agg a c (VRels.mono hle h)
  | _, _, .tuple a c h => .tuple a c (VRels.mono hle h)
  | _, _, .raw v hb => .raw v hb
theorem VRels.mono {φ ψ : Map} (hle : φ.le ψ) : ∀ {a : List AVal} {v : List Value}, VRels φ a v → VRels ψ a v
  | _, _, .nil => .nil
  | _, _, .cons a v as vs h hs => .cons a v as vs (VRel.mono hle h) (VRels.mono hle hs)
end

namespace VRels
variable {φ : Map}
theorem length {as : List AVal} : ∀ {vs : List Value}, VRels φ as vs → as.length = vs.length := by
  induction as with
  | nil => intro vs h; cases h; rfl
  | cons a as ih => intro vs h; cases h with | cons _ v _ vs h hs => simp [ih hs]
theorem append {as bs : List AVal} {vs ws : List Value} (h : VRels φ as vs) (h' : VRels φ bs ws) : VRels φ (as ++ bs) (vs ++ ws) := by
  induction as generalizing vs with
  | nil => cases h; exact h'
  | cons a as ih => cases h with | cons _ v _ vs h hs => exact .cons _ _ _ _ h (ih hs)
theorem take {as : List AVal} {vs : List Value} (h : VRels φ as vs) (n : Nat) : VRels φ (as.take n) (vs.take n) := by
  induction as generalizing vs n with
  | nil => cases h; simp; exact .nil
  | cons a as ih =>
    cases h with
    | cons _ v _ vs h hs =>
      cases n with
      | zero => simp; exact .nil
      | succ n => simp only [List.take_succ_cons]; exact .cons _ _ _ _ h (ih hs n)
theorem drop {as : List AVal} {vs : List Value} (h : VRels φ as vs) (n : Nat) : VRels φ (as.drop n) (vs.drop n) := by
  induction as generalizing vs n with
  | nil => cases h; simp; exact .nil
  | cons a as ih =>
    cases h with
    | cons _ v _ vs h hs =>
      cases n with
      | zero => simp; exact .cons _ _ _ _ h hs
      | succ n => simp only [List.drop_succ_cons]; exact ih hs n
theorem get {as : List AVal} {vs : List Value} (h : VRels φ as vs) {i : Nat} {a : AVal} (e : as[i]? = some a) : ∃ v, vs[i]? = some v ∧ VRel φ a v := by
  induction as generalizing vs i with
  | nil => simp at e
  | cons b as ih =>
    cases h with
    | cons _ v _ vs h hs =>
      cases i with
      | zero => simp at e; subst e; exact ⟨v, rfl, h⟩
      | succ i => simp at e; obtain ⟨u, hu, hr⟩ := ih hs e; exact ⟨u, by simpa using hu, hr⟩
theorem of_get {as : List AVal} {vs : List Value} (hl : as.length = vs.length) (h : ∀ (i : Nat) (a : AVal), as[i]? = some a → ∃ v, vs[i]? = some v ∧ VRel φ a v) : VRels φ as vs := by
  induction as generalizing vs with
  | nil => cases vs with
    | nil => exact .nil
    | cons => simp at hl
  | cons a as ih =>
    cases vs with
    | nil => simp at hl
    | cons v vs =>
      obtain ⟨u, hu, hr⟩ := h 0 a rfl
      simp at hu; subst hu
      exact .cons _ _ _ _ hr (ih (by simpa using hl) fun i b e => by simpa using h (i + 1) b (by simpa using e))
end VRels

/-! ### Memory -/
def AObj.alive : AObj → Bool
  | .dead => false
  | _ => true

def AObj.open_ : AObj → Bool
  | .cells .ro _ | .dead => false
  | _ => true

inductive MRels (φ : Map) : List (AVal × AVal × Nat) → List MapEntry → Prop where
  | nil : MRels φ [] []
  | cons (k v : AVal) (b : Nat) (e : MapEntry) (es : List (AVal × AVal × Nat)) (fs : List MapEntry) (hk : VRel φ k e.key) (hv : VRel φ v e.val) (hb : e.born = b) (h : MRels φ es fs) : MRels φ ((k, v, b) :: es) (e :: fs)

def frozenAs (m : Kind) (n : Nat) (fz : Nat × Nat) : Prop :=
  match m with
  | .ro => True
  | .rw => fz = (0, 0)
  | .sb => fz = (0, 0) ∨ fz = (n, n + 1)

def ORel (φ : Map) (L : Loc) (o : AObj) (x : Option Obj) : Prop :=
  match o with
  | .cells m vs => ∃ c elem fz, x = some (.cells c elem fz) ∧ c.size = L.size ∧ L.shift + vs.length ≤ L.size ∧ frozenAs m c.size fz ∧ ∀ (i : Nat) (a : AVal), vs[i]? = some a → ∃ v, c[L.shift + i]? = some v ∧ VRel φ a v
  | .map es clock => ∃ fs, x = some (.map fs clock) ∧ MRels φ es fs.toList
  | .iter _ _ _ _ => False
  | .dead => True

def Writes (φ : Map) (h : Heap) (b : Nat) : Prop := ∃ id L o, φ id = some L ∧ L.block = b ∧ h.get id = some o ∧ o.open_ = true

structure HRel (φ : Map) (h : Heap) (w : World) : Prop where
  rng : ∀ id L, φ id = some L → id < h.next ∧ L.block < w.heap.size
  obj : ∀ id L o, φ id = some L → h.get id = some o → ORel φ L o w.heap[L.block]?
  inj : ∀ i j L M o p, φ i = some L → φ j = some M → h.get i = some o → h.get j = some p → o.alive = true → p.alive = true → L.block = M.block → i = j

/-- From (φ, h, w) to (φ', h', w'): names keep their places, what has no place yet stays as it is, what may not be written stays as it is. -/
structure Ext (φ : Map) (h : Heap) (w : World) (φ' : Map) (h' : Heap) (w' : World) : Prop where
  os : w'.os = w.os
  tape : w'.tape = w.tape
  output : w'.output = w.output
  size : w.heap.size ≤ w'.heap.size
  next : h.next ≤ h'.next
  old : ∀ id, id < h.next → φ' id = φ id
  ghost : ∀ id, id < h.next → φ id = none → h'.get id = h.get id
  frame : ∀ b, b < w.heap.size → ¬ Writes φ h b → w'.heap[b]? = w.heap[b]?
  wr : ∀ b, b < w.heap.size → Writes φ' h' b → Writes φ h b

theorem Ext.refl (φ : Map) (h : Heap) (w : World) : Ext φ h w φ h w :=
  ⟨rfl, rfl, rfl, Nat.le_refl _, Nat.le_refl _, fun _ _ => rfl, fun _ _ _ => rfl, fun _ _ _ => rfl, fun _ _ x => x⟩

theorem Ext.trans {φ φ' φ'' : Map} {h h' h'' : Heap} {w w' w'' : World} (a : Ext φ h w φ' h' w') (b : Ext φ' h' w' φ'' h'' w'') : Ext φ h w φ'' h'' w'' where
  os := b.os.trans a.os
  tape := b.tape.trans a.tape
  output := b.output.trans a.output
  size := Nat.le_trans a.size b.size
  next := Nat.le_trans a.next b.next
  old id hid := (b.old id (Nat.lt_of_lt_of_le hid a.next)).trans (a.old id hid)
  ghost id hid e := (b.ghost id (Nat.lt_of_lt_of_le hid a.next) ((a.old id hid).trans e)).trans (a.ghost id hid e)
  frame c hc hw := (b.frame c (Nat.lt_of_lt_of_le hc a.size) fun x => hw (a.wr c hc x)).trans (a.frame c hc hw)
  wr c hc x := a.wr c hc (b.wr c (Nat.lt_of_lt_of_le hc a.size) x)

theorem Ext.le {φ φ' : Map} {h h' : Heap} {w w' : World} (a : Ext φ h w φ' h' w') (r : HRel φ h w) : φ.le φ' :=
  fun id L e => (a.old id (r.rng id L e).1).trans e

theorem MRels.mono {φ ψ : Map} (hle : φ.le ψ) {es : List (AVal × AVal × Nat)} {fs : List MapEntry} (h : MRels φ es fs) : MRels ψ es fs := by
  induction h with
  | nil => exact .nil
  | cons k v b e es fs hk hv hb _ ih => exact .cons k v b e es fs (hk.mono hle) (hv.mono hle) hb ih

theorem ORel.mono {φ ψ : Map} (hle : φ.le ψ) {L : Loc} {o : AObj} {x : Option Obj} (h : ORel φ L o x) : ORel ψ L o x := by
  cases o with
  | cells m vs =>
    obtain ⟨c, e, fz, h1, h2, h3, h4, h5⟩ := h
    exact ⟨c, e, fz, h1, h2, h3, h4, fun i a e => let ⟨v, hv, hr⟩ := h5 i a e; ⟨v, hv, hr.mono hle⟩⟩
  | map es clock =>
    obtain ⟨fs, h1, h2⟩ := h
    exact ⟨fs, h1, h2.mono hle⟩
  | iter => exact h
  | dead => exact h

/-- A draw alone. -/
theorem HRel.drew {φ : Map} {h : Heap} {w : World} (r : HRel φ h w) (n : Nat) : HRel φ h { w with drawn := n } := ⟨r.rng, r.obj, r.inj⟩
theorem Ext.drew (φ : Map) (h : Heap) (w : World) (n : Nat) : Ext φ h w φ h { w with drawn := n } :=
  ⟨rfl, rfl, rfl, Nat.le_refl _, Nat.le_refl _, fun _ _ => rfl, fun _ _ _ => rfl, fun _ _ _ => rfl, fun _ _ x => x⟩

/-! ### A new object -/
def Map.put (φ : Map) (id : Nat) (L : Loc) : Map := fun j => if j = id then some L else φ j

theorem Map.le_put {φ : Map} {id : Nat} {L : Loc} (h : φ id = none) : φ.le (φ.put id L) := by
  intro j M e
  unfold Map.put
  by_cases hj : j = id
  · subst hj; rw [h] at e; cases e
  · simp [hj, e]

theorem HRel.none_next {φ : Map} {h : Heap} {w : World} (r : HRel φ h w) {id : Nat} (hid : h.next ≤ id) : φ id = none := by
  cases e : φ id with
  | none => rfl
  | some L => have := (r.rng id L e).1; omega

/-- A name that has its object, and no place yet, is given the place of a block that is laid now. -/
theorem lay_ghost {φ : Map} {h : Heap} {w : World} (r : HRel φ h w) {id : Nat} {o : AObj} (hid : h.get id = some o) (hφ : φ id = none) {x : Obj} {n : Nat}
    (ho : ORel φ ⟨w.heap.size, 0, n⟩ o (some x)) :
    HRel (φ.put id ⟨w.heap.size, 0, n⟩) h { w with heap := w.heap.push x } := by
  have hle : φ.le (φ.put id ⟨w.heap.size, 0, n⟩) := Map.le_put hφ
  have hget : ∀ b, b < w.heap.size → (w.heap.push x)[b]? = w.heap[b]? := fun b hb => by rw [Array.getElem?_push, if_neg (by omega)]
  have cases_ : ∀ j L, (φ.put id ⟨w.heap.size, 0, n⟩) j = some L → (j = id ∧ L = ⟨w.heap.size, 0, n⟩) ∨ (j ≠ id ∧ φ j = some L ∧ L.block < w.heap.size) := by
    intro j L e
    unfold Map.put at e
    by_cases hj : j = id
    · simp [hj] at e; exact .inl ⟨hj, e.symm⟩
    · simp [hj] at e; exact .inr ⟨hj, e, (r.rng j L e).2⟩
  refine ⟨?_, ?_, ?_⟩
  · intro j L e
    rcases cases_ j L e with ⟨rfl, rfl⟩ | ⟨_, e', hb⟩
    · exact ⟨Heap.get_lt hid, by simp⟩
    · exact ⟨(r.rng j L e').1, by simp; omega⟩
  · intro j L p e hp
    rcases cases_ j L e with ⟨rfl, rfl⟩ | ⟨_, e', hb⟩
    · rw [hid] at hp; cases hp
      simp only [Array.getElem?_push_size]
      exact ho.mono hle
    · simp only [hget _ hb]
      exact (r.obj j L p e' hp).mono hle
  · intro i j L M p q ei ej hp hq ap aq hb
    rcases cases_ i L ei with ⟨rfl, rfl⟩ | ⟨hi, ei', hbi⟩
    · rcases cases_ j M ej with ⟨rfl, rfl⟩ | ⟨hj, ej', hbj⟩
      · rfl
      · simp at hb; omega
    · rcases cases_ j M ej with ⟨rfl, rfl⟩ | ⟨hj, ej', hbj⟩
      · simp at hb; omega
      · exact r.inj i j L M p q ei' ej' hp hq ap aq hb

theorem Ext.lay_ghost {φ : Map} {h : Heap} {w : World} {h0 : Heap} (_hn : h0.next ≤ h.next) {id : Nat} (hid : h0.next ≤ id) {x : Obj} {n : Nat}
    (hsame : ∀ j, j < h0.next → h.get j = h0.get j) (hr0 : ∀ j L, φ j = some L → h0.next ≤ j → w.heap.size ≤ L.block) :
    Ext φ h0 w (φ.put id ⟨w.heap.size, 0, n⟩) h { w with heap := w.heap.push x } where
  os := rfl
  tape := rfl
  output := rfl
  size := by simp
  next := _hn
  old j hj := by unfold Map.put; rw [if_neg (by omega)]
  ghost j hj _ := hsame j hj
  frame b hb _ := by simp only; rw [Array.getElem?_push, if_neg (by omega)]
  wr b hb := by
    rintro ⟨j, L, o, e, rfl, hg, ho⟩
    unfold Map.put at e
    by_cases hj : j = id
    · simp [hj] at e; subst e; simp at hb
    · simp [hj] at e
      by_cases hlt : j < h0.next
      · exact ⟨j, L, o, e, rfl, by rw [← hsame j hlt]; exact hg, ho⟩
      · have := hr0 j L e (by omega); omega

/-- A new object and its block. -/
theorem lay {φ : Map} {h : Heap} {w : World} (r : HRel φ h w) {o : AObj} {x : Obj} {n : Nat} (ho : ORel φ ⟨w.heap.size, 0, n⟩ o (some x)) :
    HRel (φ.put h.next ⟨w.heap.size, 0, n⟩) (h.push o) { w with heap := w.heap.push x } ∧
    Ext φ h w (φ.put h.next ⟨w.heap.size, 0, n⟩) (h.push o) { w with heap := w.heap.push x } := by
  have r' : HRel φ (h.push o) w := by
    refine ⟨fun id L e => ⟨by have := (r.rng id L e).1; simp; omega, (r.rng id L e).2⟩, ?_, ?_⟩
    · intro id L p e hp
      have hlt := (r.rng id L e).1
      rw [Heap.get_push, if_neg (by omega)] at hp
      exact r.obj id L p e hp
    · intro i j L M p q ei ej hp hq
      have hi := (r.rng i L ei).1
      have hj := (r.rng j M ej).1
      rw [Heap.get_push, if_neg (by omega)] at hp hq
      exact r.inj i j L M p q ei ej hp hq
  refine ⟨lay_ghost r' (by rw [Heap.get_push, if_pos rfl]) (r.none_next (Nat.le_refl _)) ho, ?_⟩
  refine Ext.lay_ghost (by simp) (Nat.le_refl _) ?_ ?_
  · intro j hj; rw [Heap.get_push, if_neg (by omega)]
  · intro j L e hj; have := (r.rng j L e).1; omega


/-! ### An object is written, or let go -/
theorem rewrite_obj {φ : Map} {h : Heap} {w w' : World} (r : HRel φ h w) {id : Nat} {L : Loc} {o o' : AObj} {x : Obj} (e : φ id = some L) (g : h.get id = some o) (ho : o.open_ = true)
    (hos : w'.os = w.os) (htape : w'.tape = w.tape) (hout : w'.output = w.output) (hsize : w'.heap.size = w.heap.size)
    (hsame : ∀ b, b ≠ L.block → w'.heap[b]? = w.heap[b]?) (hx : w'.heap[L.block]? = some x) (hr : ORel φ L o' (some x)) :
    HRel φ (h.set id o') w' ∧ Ext φ h w φ (h.set id o') w' := by
  have halive : o.alive = true := by cases o <;> simp_all [AObj.open_, AObj.alive]
  have hget : ∀ j, (h.set id o').get j = if j = id then some o' else h.get j := by
    intro j
    rw [Heap.get_set]
    by_cases hj : j = id
    · subst hj; simp [Heap.get_lt g]
    · simp [hj]
  refine ⟨⟨?_, ?_, ?_⟩, ⟨hos, htape, hout, by omega, by simp, fun _ _ => rfl, ?_, ?_, ?_⟩⟩
  · intro j M ej; exact ⟨(r.rng j M ej).1, by rw [hsize]; exact (r.rng j M ej).2⟩
  · intro j M p ej hp
    rw [hget] at hp
    by_cases hj : j = id
    · subst hj
      rw [e] at ej; cases ej
      simp at hp; subst hp
      rw [hx]; exact hr
    · simp [hj] at hp
      cases hp' : p.alive with
      | false => cases p <;> simp_all [AObj.alive, ORel]
      | true =>
        have : M.block ≠ L.block := fun hb => hj (r.inj j id M L p o ej e hp g hp' halive hb)
        rw [hsame _ this]
        exact r.obj j M p ej hp
  · intro i j M N p q ei ej hp hq ap aq hb
    rw [hget] at hp hq
    by_cases hi : i = id
    · subst hi
      by_cases hj : j = i
      · exact hj.symm
      · simp [hj] at hq
        exact r.inj i j M N o q ei ej g hq halive aq hb
    · simp [hi] at hp
      by_cases hj : j = id
      · subst hj
        exact r.inj i j M N p o ei ej hp g ap halive hb
      · simp [hj] at hq
        exact r.inj i j M N p q ei ej hp hq ap aq hb
  · intro j _ ej
    rw [hget, if_neg]
    intro hj; subst hj; rw [e] at ej; cases ej
  · intro b _ hw
    refine hsame b fun hb => hw ⟨id, L, o, e, hb.symm, g, ho⟩
  · rintro b _ ⟨j, M, p, ej, rfl, hp, hop⟩
    rw [hget] at hp
    by_cases hj : j = id
    · subst hj
      rw [e] at ej; cases ej
      exact ⟨j, L, o, e, rfl, g, ho⟩
    · simp [hj] at hp
      exact ⟨j, M, p, ej, rfl, hp, hop⟩

/-- A name is let go. -/
theorem kill_obj {φ : Map} {h : Heap} {w : World} (r : HRel φ h w) {id : Nat} {L : Loc} {o : AObj} (e : φ id = some L) (g : h.get id = some o) (ho : o.open_ = true) :
    HRel φ (h.set id .dead) w ∧ Ext φ h w φ (h.set id .dead) w := by
  have hb := (r.rng id L e).2
  exact rewrite_obj r e g ho rfl rfl rfl rfl (fun _ _ => rfl) (x := w.heap[L.block]) (Array.getElem?_eq_getElem hb) trivial

/-! ### Reading cells -/
theorem Loc.at_add (L : Loc) (off n : Nat) : (L.at_ off).add n = L.at_ (off + n) := by
  unfold Addr.add Loc.at_
  by_cases h : n = 0
  · simp [h]
  · simp [h, Nat.add_assoc]

theorem getCells_spec {h : Heap} {id : Nat} {vs : List AVal} (g : getCells h id = some vs) : ∃ m, h.get id = some (.cells m vs) := by
  unfold getCells at g
  split at g
  · rename_i m us e; cases g; exact ⟨m, e⟩
  · cases g

theorem HRel.cell {φ : Map} {h : Heap} {w : World} (r : HRel φ h w) {id : Nat} {L : Loc} {vs : List AVal} (e : φ id = some L) (g : getCells h id = some vs) {off : Nat} {a : AVal}
    (ha : vs[off]? = some a) : ∃ v, w.cell? (L.at_ off) = some v ∧ VRel φ a v := by
  obtain ⟨m, g⟩ := getCells_spec g
  obtain ⟨c, el, fz, h1, _, _, _, h5⟩ := r.obj id L _ e g
  obtain ⟨v, hv, hr⟩ := h5 off a ha
  exact ⟨v, by simp [World.cell?, Loc.at_, h1, hv], hr⟩

theorem run_load_cell {P : Program} {w : World} {a : Addr} {v : Value} (h : w.cell? a = some v) : (load a).run P w = .ok v w := by
  simp [load, Sem.run, h]

theorem run_loadCellsFrom {P : Program} {w : World} {a : Addr} : ∀ (n i : Nat) (acc : Array Value) (vs : List Value), vs.length = n → (∀ (j : Nat) (v : Value), vs[j]? = some v → w.cell? (a.add (i + j)) = some v) →
    (loadCellsFrom a i n acc).run P w = .ok (acc ++ vs.toArray) w := by
  intro n
  induction n with
  | zero => intro i acc vs hl _; cases vs <;> simp_all [loadCellsFrom, Sem.run, pure]
  | succ n ih =>
    intro i acc vs hl hc
    cases vs with
    | nil => simp at hl
    | cons v vs =>
      have h0 : w.cell? (a.add i) = some v := by simpa using hc 0 v rfl
      have := ih (i + 1) (acc.push v) vs (by simpa using hl) fun j u hu => by
        have := hc (j + 1) u (by simpa using hu)
        rw [show i + 1 + j = i + (j + 1) from by omega]; exact this
      simp only [loadCellsFrom, load, bind, Sem.bind, Sem.run, h0]
      rw [this]
      simp

theorem run_loadCells {P : Program} {w : World} {a : Addr} {n : Nat} {vs : List Value} (hl : vs.length = n) (hc : ∀ (j : Nat) (v : Value), vs[j]? = some v → w.cell? (a.add j) = some v) :
    (loadCells a n).run P w = .ok vs.toArray w := by
  have := run_loadCellsFrom (P := P) (w := w) (a := a) n 0 #[] vs hl fun j v hv => by simpa using hc j v hv
  simpa [loadCells] using this

theorem takeAt_spec {vs cs : List AVal} {off n : Nat} (h : takeAt vs off n = some cs) : off + n ≤ vs.length ∧ cs = (vs.drop off).take n := by
  unfold takeAt at h
  split at h
  · rename_i hb; cases h; exact ⟨Nat.le_of_ble_eq_true hb, rfl⟩
  · cases h

theorem takeAt_length {vs cs : List AVal} {off n : Nat} (h : takeAt vs off n = some cs) : cs.length = n := by
  obtain ⟨h1, rfl⟩ := takeAt_spec h
  simp; omega

theorem takeAt_get {vs cs : List AVal} {off n : Nat} (h : takeAt vs off n = some cs) {j : Nat} {a : AVal} (e : cs[j]? = some a) : vs[off + j]? = some a := by
  obtain ⟨h1, rfl⟩ := takeAt_spec h
  rw [List.getElem?_take] at e
  split at e
  · simpa using e
  · cases e

/-- Some cells of an object, as the model reads them. -/
theorem HRel.cells {φ : Map} {h : Heap} {w : World} (r : HRel φ h w) {id : Nat} {L : Loc} {vs cs : List AVal} (e : φ id = some L) (g : getCells h id = some vs) {off n : Nat}
    (hc : takeAt vs off n = some cs) : ∃ us : List Value, VRels φ cs us ∧ us.length = n ∧ ∀ (j : Nat) (v : Value), us[j]? = some v → w.cell? (L.at_ (off + j)) = some v := by
  have hlen := takeAt_length hc
  have key : ∀ j : Nat, j < n → ∃ v, w.cell? (L.at_ (off + j)) = some v ∧ ∃ a, cs[j]? = some a ∧ VRel φ a v := by
    intro j hj
    have hj' : j < cs.length := by omega
    have ha : cs[j]? = some cs[j] := List.getElem?_eq_getElem hj'
    obtain ⟨v, hv, hr⟩ := r.cell e g (takeAt_get hc ha)
    exact ⟨v, hv, _, ha, hr⟩
  refine ⟨(List.range n).map fun j => (w.cell? (L.at_ (off + j))).getD undef, ?_, by simp, ?_⟩
  · refine VRels.of_get (by simp [hlen]) ?_
    intro j a ha
    have hj : j < n := by
      have := (List.getElem?_eq_some_iff.1 ha).1; omega
    obtain ⟨v, hv, a', ha', hr⟩ := key j hj
    rw [ha] at ha'; cases ha'
    exact ⟨v, by simp [hj, hv], hr⟩
  · intro j v hv
    have hj : j < n := by
      have := (List.getElem?_eq_some_iff.1 hv).1; simpa using this
    obtain ⟨u, hu, _⟩ := key j hj
    simp [hj, hu] at hv
    subst hv; exact hu

theorem HRel.run_cells {P : Program} {φ : Map} {h : Heap} {w : World} (r : HRel φ h w) {id : Nat} {L : Loc} {vs cs : List AVal} (e : φ id = some L) (g : getCells h id = some vs) {off n : Nat}
    (hc : takeAt vs off n = some cs) : ∃ us : List Value, VRels φ cs us ∧ (loadCells (L.at_ off) n).run P w = .ok us.toArray w := by
  obtain ⟨us, h1, h2, h3⟩ := r.cells e g hc
  exact ⟨us, h1, run_loadCells h2 fun j v hv => by rw [Loc.at_add]; exact h3 j v hv⟩

/-! ### Writing cells -/
def setRange (c : Array Value) (k : Nat) : List Value → Array Value
  | [] => c
  | v :: vs => setRange (c.setIfInBounds k v) (k + 1) vs

theorem setRange_size (c : Array Value) (k : Nat) (vs : List Value) : (setRange c k vs).size = c.size := by
  induction vs generalizing c k with
  | nil => rfl
  | cons v vs ih => simp [setRange, ih]

theorem setRange_get (c : Array Value) (k : Nat) (vs : List Value) (hk : k + vs.length ≤ c.size) (j : Nat) :
    (setRange c k vs)[j]? = if k ≤ j ∧ j < k + vs.length then vs[j - k]? else c[j]? := by
  induction vs generalizing c k with
  | nil => simp [setRange]; intro h1 h2; omega
  | cons v vs ih =>
    simp only [List.length_cons] at hk
    simp only [setRange, List.length_cons]
    rw [ih _ _ (by simp; omega)]
    by_cases h1 : k + 1 ≤ j ∧ j < k + 1 + vs.length
    · have h2 : k ≤ j ∧ j < k + (vs.length + 1) := by omega
      rw [if_pos h1, if_pos h2]
      rw [show j - k = (j - (k + 1)) + 1 from by omega]
      simp
    · rw [if_neg h1]
      by_cases h3 : j = k
      · subst h3
        rw [if_pos (by omega)]
        have hjs : j < c.size := by omega
        simp [hjs]
      · rw [if_neg (by omega), Array.getElem?_setIfInBounds_ne (by omega)]

def one' : Value → Bool
  | .agg _ | .tuple _ => false
  | _ => true

theorem one_of {φ : Map} {a : AVal} {v : Value} (h : VRel φ a v) (ha : a.one = true) : one' v = true := by
  cases h <;> simp_all [AVal.one, one']

theorem run_store_one {P : Program} {w : World} {a : Addr} {v u : Value} (hv : one' v = true) (hc : w.cell? a = some u) (hf : w.frozen? a = false) :
    (Go.store a v).run P w = .ok () (w.setCell a v) := by
  cases v <;> simp_all [Go.store, Sem.run, one']

theorem setCell_block {w : World} {b k : Nat} {c : Array Value} {el : TypeId} {fz : Nat × Nat} (h : w.heap[b]? = some (.cells c el fz)) (v : Value) :
    (w.setCell ⟨b, k, none⟩ v).heap[b]? = some (.cells (c.setIfInBounds k v) el fz) := by
  simp [World.setCell, Array.getElem?_modify, h]

theorem setCell_other {w : World} {b k b' : Nat} (v : Value) (h : b' ≠ b) : (w.setCell ⟨b, k, none⟩ v).heap[b']? = w.heap[b']? := by
  simp only [World.setCell, Array.getElem?_modify]
  rw [if_neg (by simpa using fun e => h e.symm)]

theorem run_storeCells {P : Program} (b k : Nat) (el : TypeId) (fz : Nat × Nat) : ∀ (vs : List Value) (w : World) (i : Nat) (c : Array Value), w.heap[b]? = some (.cells c el fz) →
    (∀ j, j < c.size → (fz.1 ≤ j && j < fz.2) = false) → k + i + vs.length ≤ c.size → (∀ v ∈ vs, one' v = true) →
    ∃ w', (storeCells ⟨b, k, none⟩ vs i).run P w = .ok () w' ∧ w'.os = w.os ∧ w'.tape = w.tape ∧ w'.output = w.output ∧ w'.heap.size = w.heap.size ∧ (∀ b', b' ≠ b → w'.heap[b']? = w.heap[b']?) ∧
      w'.heap[b]? = some (.cells (setRange c (k + i) vs) el fz) := by
  intro vs
  induction vs with
  | nil => intro w i c h _ _ _; exact ⟨w, rfl, rfl, rfl, rfl, rfl, fun _ _ => rfl, h⟩
  | cons v vs ih =>
    intro w i c h hfz hk h1
    simp only [List.length_cons] at hk
    have hadd : (⟨b, k, none⟩ : Addr).add i = ⟨b, k + i, none⟩ := by
      unfold Addr.add; by_cases h0 : i = 0 <;> simp [h0]
    have hc : w.cell? ⟨b, k + i, none⟩ = some c[k + i] := by simp [World.cell?, h]
    have hf : w.frozen? ⟨b, k + i, none⟩ = false := by simpa [World.frozen?, h] using hfz (k + i) (by omega)
    have hrun := run_store_one (P := P) (h1 v (by simp)) hc hf
    obtain ⟨w', hr, a1, a2, a3, a4, a5, a6⟩ := ih (w.setCell ⟨b, k + i, none⟩ v) (i + 1) (c.setIfInBounds (k + i) v) (setCell_block h v) (by simpa using hfz) (by simp; omega) fun u hu => h1 u (by simp [hu])
    refine ⟨w', ?_, a1, a2, a3, by rw [a4]; simp [World.setCell], fun b' hb => (a5 b' hb).trans (setCell_other v hb), ?_⟩
    · simp only [storeCells, hadd, bind]
      rw [Sem.run_bind', hrun]; exact hr
    · rw [a6]; simp [setRange, Nat.add_assoc]

end Go.AM
