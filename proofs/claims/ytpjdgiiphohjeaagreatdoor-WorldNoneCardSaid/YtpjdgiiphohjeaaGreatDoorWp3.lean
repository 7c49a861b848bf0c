import Derived.Test.YtpjdgiiphohjeaaGreatDoorWpm
import Derived.Test.YtpjdgiiphohjeaaGreatDoorAm4
import Derived.IntWalk
import Derived.Laws.Sem
/-! Rules for the walk by simp: what each operation comes to. -/
namespace Go.AM

/-- What is read is there. -/
def rdo (o : Option AVal) (K : AVal → Prop) : Prop := ∃ v, o = some v ∧ K v
def alo (o : Option (AObj × (Nat → AVal))) (h : Heap) (K : AVal → Heap → Prop) : Prop := ∃ x, o = some x ∧ K (x.2 h.next) (h.push x.1)
def wro (o : Option (AVal × Heap)) (K : AVal → Heap → Prop) : Prop := ∃ x, o = some x ∧ K x.1 x.2

@[go_sem] theorem rd_rdo (h : Heap) (o : AOp AVal) (K : AVal → Prop) : rd h o K = rdo (evalRead h o) K := rfl
@[go_sem] theorem al_alo (h : Heap) (o : AOp AVal) (K : AVal → Heap → Prop) : al h o K = alo (evalAlloc o) h K := by
  unfold al alo
  apply propext
  constructor
  · rintro ⟨obj, mk, e, k⟩; exact ⟨(obj, mk), e, k⟩
  · rintro ⟨⟨obj, mk⟩, e, k⟩; exact ⟨obj, mk, e, k⟩
@[go_sem] theorem wr_wro (h : Heap) (o : AOp AVal) (K : AVal → Heap → Prop) : wr h o K = wro (evalWrite noCall h o) K := by
  unfold wr wro
  apply propext
  constructor
  · rintro ⟨v, h', e, k⟩; exact ⟨(v, h'), e, k⟩
  · rintro ⟨⟨v, h'⟩, e, k⟩; exact ⟨v, h', e, k⟩

@[congr] theorem rd_congr {h : Heap} {o o' : AOp AVal} {K : AVal → Prop} (e : o = o') {u : Unit} (_t : tokA = u) : rd h o K = rd h o' K := by rw [e]
@[congr] theorem rdo_congr {o o' : Option AVal} {K : AVal → Prop} (e : o = o') {u : Unit} (_t : tokA = u) : rdo o K = rdo o' K := by rw [e]
@[congr] theorem al_congr {h : Heap} {o o' : AOp AVal} {K : AVal → Heap → Prop} (e : o = o') {u : Unit} (_t : tokA = u) : al h o K = al h o' K := by rw [e]
@[congr] theorem alo_congr {o o' : Option (AObj × (Nat → AVal))} {h : Heap} {K : AVal → Heap → Prop} (e : o = o') {u : Unit} (_t : tokA = u) : alo o h K = alo o' h K := by rw [e]
@[congr] theorem wr_congr {h : Heap} {o o' : AOp AVal} {K : AVal → Heap → Prop} (e : o = o') {u : Unit} (_t : tokA = u) : wr h o K = wr h o' K := by rw [e]
@[congr] theorem wro_congr {o o' : Option (AVal × Heap)} {K : AVal → Heap → Prop} (e : o = o') {u : Unit} (_t : tokA = u) : wro o K = wro o' K := by rw [e]
@[congr] theorem br_congr {v v' : AVal} {A B : Prop} (e : v = v') {u : Unit} (_t : tokA = u) : br v A B = br v' A B := by rw [e]
@[congr] theorem cv_congr {cl : ClT} {f f' : AVal} {args : List AVal} {h : Heap} {K : AVal → Heap → Prop} (e : f = f') {u : Unit} (_t : tokA = u) : cv cl f args h K = cv cl f' args h K := by rw [e]
@[congr] theorem gw_congr {v v' : AVal} {b : Bool} {A : (AVal → Heap → Prop) → Prop} {h : Heap} {K : AVal → Heap → Prop} (e : v = v') {u : Unit} (_t : tokA = u) : gw v b A h K = gw v' b A h K := by rw [e]
@[congr] theorem gp_congr {v v' : AVal} {b : Bool} {A : (AVal → Heap → List Past → Prop) → Prop} {h : Heap} {ps : List Past} {K : AVal → Heap → List Past → Prop} (e : v = v') {u : Unit} (_t : tokA = u) : gp v b A h ps K = gp v' b A h ps K := by rw [e]
@[congr] theorem ck_congr {hs hs' : List Heap} {ps ps' : List Past} {A : Prop} (e : hs = hs') (e' : ps = ps') {u : Unit} (_t : tokA = u) : ck hs ps A = ck hs' ps' A := by rw [e, e']
@[congr] theorem lp_congr {d0 : List AVal} {h : Heap} {b : List AVal → (Nat → AVal) → Heap → (List AVal → Heap → Prop) → Prop} {u : Unit} (_t : tokA = u) : lp d0 h b = lp d0 h b := rfl

@[go_sem] theorem rdo_some (v : AVal) (K : AVal → Prop) : rdo (some v) K = K v := by
  unfold rdo; apply propext; constructor
  · rintro ⟨u, e, k⟩; cases e; exact k
  · intro k; exact ⟨v, rfl, k⟩
@[go_sem] theorem alo_some (o : AObj) (f : Nat → AVal) (h : Heap) (K : AVal → Heap → Prop) : alo (some (o, f)) h K = K (f h.next) (h.push o) := by
  unfold alo; apply propext; constructor
  · rintro ⟨u, e, k⟩; cases e; exact k
  · intro k; exact ⟨_, rfl, k⟩
@[go_sem] theorem wro_some (v : AVal) (h : Heap) (K : AVal → Heap → Prop) : wro (some (v, h)) K = K v h := by
  unfold wro; apply propext; constructor
  · rintro ⟨u, e, k⟩; cases e; exact k
  · intro k; exact ⟨_, rfl, k⟩
@[go_sem] theorem br_true (A B : Prop) : br (.bool true) A B = A := rfl
@[go_sem] theorem br_false (A B : Prop) : br (.bool false) A B = B := rfl
theorem br_bool (b : Bool) (A B : Prop) : br (.bool b) A B = ((b = true → A) ∧ (b = false → B)) := by
  cases b <;> simp [br]
@[go_sem] theorem cv_func (cl : ClT) (g : FuncId) (a b : List AVal) (args : List AVal) (h : Heap) (K : AVal → Heap → Prop) : cv cl (.func g a b) args h K = cl g (a ++ args ++ b) h K := rfl
theorem gw_bool (c b : Bool) (A : (AVal → Heap → Prop) → Prop) (h : Heap) (K : AVal → Heap → Prop) : gw (.bool c) b A h K = (((c == b) = true → A K) ∧ ((c == b) = false → K undefA h)) := rfl
@[go_sem] theorem gw_tt (A : (AVal → Heap → Prop) → Prop) (h : Heap) (K : AVal → Heap → Prop) : gw (.bool true) true A h K = A K := by simp [gw_bool]
@[go_sem] theorem gw_ff (A : (AVal → Heap → Prop) → Prop) (h : Heap) (K : AVal → Heap → Prop) : gw (.bool false) false A h K = A K := by simp [gw_bool]
@[go_sem] theorem gw_tf (A : (AVal → Heap → Prop) → Prop) (h : Heap) (K : AVal → Heap → Prop) : gw (.bool true) false A h K = K undefA h := by simp [gw_bool]
@[go_sem] theorem gw_ft (A : (AVal → Heap → Prop) → Prop) (h : Heap) (K : AVal → Heap → Prop) : gw (.bool false) true A h K = K undefA h := by simp [gw_bool]
@[go_sem] theorem gw_undef (b : Bool) (A : (AVal → Heap → Prop) → Prop) (h : Heap) (K : AVal → Heap → Prop) : gw undefA b A h K = K undefA h := by simp [gw, isB]
theorem gp_bool (c b : Bool) (A : (AVal → Heap → List Past → Prop) → Prop) (h : Heap) (ps : List Past) (K : AVal → Heap → List Past → Prop) : gp (.bool c) b A h ps K = (((c == b) = true → A K) ∧ ((c == b) = false → K undefA h ps)) := rfl
@[go_sem] theorem gp_tt (A : (AVal → Heap → List Past → Prop) → Prop) (h : Heap) (ps : List Past) (K : AVal → Heap → List Past → Prop) : gp (.bool true) true A h ps K = A K := by simp [gp_bool]
@[go_sem] theorem gp_ff (A : (AVal → Heap → List Past → Prop) → Prop) (h : Heap) (ps : List Past) (K : AVal → Heap → List Past → Prop) : gp (.bool false) false A h ps K = A K := by simp [gp_bool]
@[go_sem] theorem gp_tf (A : (AVal → Heap → List Past → Prop) → Prop) (h : Heap) (ps : List Past) (K : AVal → Heap → List Past → Prop) : gp (.bool true) false A h ps K = K undefA h ps := by simp [gp_bool]
@[go_sem] theorem gp_ft (A : (AVal → Heap → List Past → Prop) → Prop) (h : Heap) (ps : List Past) (K : AVal → Heap → List Past → Prop) : gp (.bool false) true A h ps K = K undefA h ps := by simp [gp_bool]
@[go_sem] theorem gp_undef (b : Bool) (A : (AVal → Heap → List Past → Prop) → Prop) (h : Heap) (ps : List Past) (K : AVal → Heap → List Past → Prop) : gp undefA b A h ps K = K undefA h ps := by simp [gp, isB]
@[go_sem] theorem ck_nil (hs : List Heap) (A : Prop) : ck hs [] A = A := by simp [ck, checkAll]

/-! ### Memory -/
namespace Heap
@[go_sem] theorem get_push_lt {h : Heap} {o : AObj} {j : Nat} (e : j < h.next) : (h.push o).get j = h.get j := by rw [get_push, if_neg (by omega)]
@[go_sem] theorem get_push_self (h : Heap) (o : AObj) : (h.push o).get h.next = some o := by rw [get_push, if_pos rfl]
@[go_sem] theorem get_push_at {h : Heap} {o : AObj} {j : Nat} (e : j ≤ h.next) (e' : h.next ≤ j) : (h.push o).get j = some o := by rw [get_push, if_pos (by omega)]
@[go_sem] theorem get_set_self {h : Heap} {id : Nat} {o : AObj} (e : id < h.next) : (h.set id o).get id = some o := by rw [get_set, if_pos ⟨rfl, e⟩]
@[go_sem] theorem get_set_ne {h : Heap} {id j : Nat} {o : AObj} (e : j ≠ id) : (h.set id o).get j = h.get j := by rw [get_set, if_neg (fun x => e x.1)]
end Heap

/-- Old blocks are as they were. -/
structure Old (h h' : Heap) : Prop where
  next : h.next ≤ h'.next
  get : ∀ id, id < h.next → h'.get id = h.get id
theorem Old.refl (h : Heap) : Old h h := ⟨Nat.le_refl _, fun _ _ => rfl⟩
theorem Old.trans {h h' h'' : Heap} (a : Old h h') (b : Old h' h'') : Old h h'' := ⟨Nat.le_trans a.next b.next, fun id x => (b.get id (Nat.lt_of_lt_of_le x a.next)).trans (a.get id x)⟩
theorem Old.push {h h' : Heap} (a : Old h h') (o : AObj) : Old h (h'.push o) := ⟨Nat.le_trans a.next (Nat.le_succ _), fun id x => (Heap.get_push_lt (Nat.lt_of_lt_of_le x a.next)).trans (a.get id x)⟩
/-- But for some of them. -/
structure But (s : List Nat) (h h' : Heap) : Prop where
  next : h.next ≤ h'.next
  get : ∀ id, id < h.next → id ∉ s → h'.get id = h.get id
theorem But.refl (s : List Nat) (h : Heap) : But s h h := ⟨Nat.le_refl _, fun _ _ _ => rfl⟩
theorem But.trans {s : List Nat} {h h' h'' : Heap} (a : But s h h') (b : But s h' h'') : But s h h'' := ⟨Nat.le_trans a.next b.next, fun id x y => (b.get id (Nat.lt_of_lt_of_le x a.next) y).trans (a.get id x y)⟩
theorem Old.but {h h' : Heap} (a : Old h h') (s : List Nat) : But s h h' := ⟨a.next, fun id x _ => a.get id x⟩
theorem But.mono {s t : List Nat} {h h' : Heap} (a : But s h h') (hs : ∀ x ∈ s, x ∈ t) : But t h h' := ⟨a.next, fun id x y => a.get id x fun z => y (hs id z)⟩
theorem But.push {s : List Nat} {h h' : Heap} (a : But s h h') (o : AObj) : But s h (h'.push o) := ⟨Nat.le_trans a.next (Nat.le_succ _), fun id x y => (Heap.get_push_lt (Nat.lt_of_lt_of_le x a.next)).trans (a.get id x y)⟩
theorem But.set {s : List Nat} {h h' : Heap} (a : But s h h') (id : Nat) (o : AObj) (hid : id ∈ s) : But s h (h'.set id o) := ⟨a.next, fun j x y => (Heap.get_set_ne (fun e => y (by rw [e]; exact hid))).trans (a.get j x y)⟩
theorem But.nil {h h' : Heap} (a : But [] h h') : Old h h' := ⟨a.next, fun id x => a.get id x (by simp)⟩

/-! ### Reading -/
section
variable (h : Heap)
@[go_sem] theorem er_load1 (id off : Nat) : evalRead h (.load1 (.ptr id off)) = match getCells h id with
    | some vs => vs[off]?
    | none => none := rfl
@[go_sem] theorem er_loadN (n id off : Nat) : evalRead h (.loadN n (.ptr id off)) = match getCells h id with
    | some vs => (takeAt vs off n).map .agg
    | none => none := rfl
@[go_sem] theorem er_pickT (a b : AVal) : evalRead h (.pick (.bool true) a b) = some a := rfl
@[go_sem] theorem er_pickF (a b : AVal) : evalRead h (.pick (.bool false) a b) = some b := rfl
@[go_sem] theorem er_build (z : List AVal) (ps : List (Nat × Nat × AVal)) : evalRead h (.build z ps) = (fillAll z ps).map .agg := rfl
@[go_sem] theorem er_nilCheck (a b : Nat) : evalRead h (.nilCheck (.ptr a b)) = some (.ptr a b) := rfl
@[go_sem] theorem er_nilCheckF (f : FuncId) (a b : List AVal) : evalRead h (.nilCheck (.func f a b)) = some (.func f a b) := rfl
@[go_sem] theorem er_bin (op : BinOp) (p : Option Plan) (x y : AVal) : evalRead h (.bin op p x y) = evalBin h op p x y := rfl
@[go_sem] theorem er_not (b : Bool) : evalRead h (.un .not (.bool b)) = some (.bool (!b)) := rfl
@[go_sem] theorem er_neg (k : IntKind) (n : Int) : evalRead h (.un .neg (.int k n)) = some (.int k (wrapF k (0 - n))) := rfl
@[go_sem] theorem er_conv (k l : IntKind) (n : Int) : evalRead h (.conv (.int k) (.int l n)) = some (.int k (wrapF k n)) := rfl
@[go_sem] theorem er_convSame (s : List UInt8) : evalRead h (.conv .same (.str s)) = some (.str s) := rfl
@[go_sem] theorem er_ofBytesNil : evalRead h (.conv .ofBytes .nilslice) = some (.str []) := rfl
@[go_sem] theorem er_mkIface (t : TypeId) (x : AVal) : evalRead h (.mkIface t x) = some (.iface t x) := rfl
@[go_sem] theorem er_mkFunc (f : FuncId) (a b : List AVal) : evalRead h (.mkFunc f a b) = some (.func f a b) := rfl
@[go_sem] theorem er_fieldAddr (o id off : Nat) : evalRead h (.fieldAddr o (.ptr id off)) = some (.ptr id (off + o)) := rfl
@[go_sem] theorem er_field1 (o : Nat) (cs : List AVal) : evalRead h (.field1 o (.agg cs)) = cs[o]? := rfl
@[go_sem] theorem er_fieldN (o n : Nat) (cs : List AVal) : evalRead h (.fieldN o n (.agg cs)) = (takeAt cs o n).map .agg := rfl
@[go_sem] theorem er_extract (vs : List AVal) (i : Nat) : evalRead h (.extract (.tuple vs) i) = vs[i]? := rfl
@[go_sem] theorem er_lenConst (n : Nat) (x : AVal) : evalRead h (.len (.const n) x) = some (.int .i64 n) := rfl
@[go_sem] theorem er_lenStr (s : List UInt8) : evalRead h (.len .str (.str s)) = some (.int .i64 s.length) := rfl
@[go_sem] theorem er_lenSlice (a b n : Nat) (c : Cap) : evalRead h (.len .slice (.slice a b n c)) = some (.int .i64 n) := rfl
@[go_sem] theorem er_lenNil : evalRead h (.len .slice .nilslice) = some (.int .i64 0) := rfl
@[go_sem] theorem er_lenMap (m : AVal) : evalRead h (.len .map m) = match entriesOf h m with
    | some es => some (.int .i64 es.length)
    | none => none := rfl
theorem er_idxAddrS (esz a b n : Nat) (c : Cap) (k : IntKind) (i : Nat) (hi : i < n) : evalRead h (.idxAddrS esz (.slice a b n c) (.int k (i : Int))) = some (.ptr a (b + i * esz)) := by
  have h1 : asNat (.int k (i : Int)) n = some i := by
    have : Nat.ble i n = true := by simp; omega
    show (match Nat.ble i n with | true => some i | false => none) = _
    rw [this]
  have h2 : Nat.blt i n = true := by simpa [Nat.blt_eq] using hi
  simp only [evalRead, h1, h2]
theorem er_lookup (kk : Leaf) (z m k : AVal) (ok : Bool) : evalRead h (.lookup kk z m k ok) = match entriesOf h m with
    | some es => match findEntry kk k es 0 with
      | some (some (_, v)) => some (match ok with | true => .tuple [v, .bool true] | false => v)
      | some none => some (match ok with | true => .tuple [z, .bool false] | false => z)
      | none => none
    | none => none := rfl
@[go_sem] theorem getCells_eq (id : Nat) : getCells h id = match h.get id with
    | some (.cells _ vs) => some vs
    | _ => none := rfl
@[go_sem] theorem entriesOf_nil : entriesOf h .nilmap = some [] := rfl
@[go_sem] theorem entriesOf_map (id : Nat) : entriesOf h (.map id) = match h.get id with
    | some (.map es _) => some es
    | _ => none := rfl

/-! comparisons -/
@[go_sem] theorem eb_sl_nil (a b c : Nat) (d : Cap) : evalBin h .eql (some .slice) (.slice a b c d) .nilslice = some (.bool false) := rfl
@[go_sem] theorem eb_nilsl_nil : evalBin h .eql (some .slice) .nilslice .nilslice = some (.bool true) := rfl
@[go_sem] theorem nb_sl_nil (a b c : Nat) (d : Cap) : evalBin h .neq (some .slice) (.slice a b c d) .nilslice = some (.bool true) := rfl
@[go_sem] theorem nb_nilsl_nil : evalBin h .neq (some .slice) .nilslice .nilslice = some (.bool false) := rfl
@[go_sem] theorem eb_fn_nil (f : FuncId) (a b : List AVal) : evalBin h .eql (some .func) (.func f a b) .nilfunc = some (.bool false) := rfl
@[go_sem] theorem eb_nilfn_nil : evalBin h .eql (some .func) .nilfunc .nilfunc = some (.bool true) := rfl
@[go_sem] theorem nb_fn_nil (f : FuncId) (a b : List AVal) : evalBin h .neq (some .func) (.func f a b) .nilfunc = some (.bool true) := rfl
@[go_sem] theorem eb_nil_ptr (a b : Nat) : evalBin h .eql (some (.leaf .ptr)) .nilptr (.ptr a b) = some (.bool false) := rfl

@[go_sem] theorem eb_ptr_nil (a b : Nat) : evalBin h .eql (some (.leaf .ptr)) (.ptr a b) .nilptr = some (.bool false) := rfl
@[go_sem] theorem eb_nil_nil : evalBin h .eql (some (.leaf .ptr)) .nilptr .nilptr = some (.bool true) := rfl
@[go_sem] theorem nb_ptr_nil (a b : Nat) : evalBin h .neq (some (.leaf .ptr)) (.ptr a b) .nilptr = some (.bool true) := rfl
@[go_sem] theorem nb_nil_nil : evalBin h .neq (some (.leaf .ptr)) .nilptr .nilptr = some (.bool false) := rfl
@[go_sem] theorem eb_int (k : IntKind) (a b : Int) (p : Option Plan) : evalBin h .eql p (.int k a) (.int k b) = some (.bool (decide (a = b))) := by simp [evalBin, intBin]
@[go_sem] theorem nb_int (k : IntKind) (a b : Int) (p : Option Plan) : evalBin h .neq p (.int k a) (.int k b) = some (.bool (!decide (a = b))) := by simp [evalBin, intBin]
@[go_sem] theorem lb_int (k : IntKind) (a b : Int) (p : Option Plan) : evalBin h .lss p (.int k a) (.int k b) = some (.bool (decide (a < b))) := by simp [evalBin, intBin]
@[go_sem] theorem leb_int (k : IntKind) (a b : Int) (p : Option Plan) : evalBin h .leq p (.int k a) (.int k b) = some (.bool (decide (a ≤ b))) := by simp [evalBin, intBin]
@[go_sem] theorem gb_int (k : IntKind) (a b : Int) (p : Option Plan) : evalBin h .gtr p (.int k a) (.int k b) = some (.bool (decide (b < a))) := by simp [evalBin, intBin]
@[go_sem] theorem geb_int (k : IntKind) (a b : Int) (p : Option Plan) : evalBin h .geq p (.int k a) (.int k b) = some (.bool (decide (b ≤ a))) := by simp [evalBin, intBin]
@[go_sem] theorem addb_int (k : IntKind) (a b : Int) (p : Option Plan) : evalBin h .add p (.int k a) (.int k b) = some (.int k (wrapF k (a + b))) := by simp [evalBin, intBin]
@[go_sem] theorem subb_int (k : IntKind) (a b : Int) (p : Option Plan) : evalBin h .sub p (.int k a) (.int k b) = some (.int k (wrapF k (a - b))) := by simp [evalBin, intBin]
@[go_sem] theorem mulb_int (k : IntKind) (a b : Int) (p : Option Plan) : evalBin h .mul p (.int k a) (.int k b) = some (.int k (wrapF k (a * b))) := by simp [evalBin, intBin]
end

/-- A number that fits. -/
theorem wrapF_i64 {n : Int} (h1 : -9223372036854775808 ≤ n) (h2 : n < 9223372036854775808) : wrapF .i64 n = n := by
  rw [wrapF_eq, IntKind.wrap_i64]
  omega

attribute [go_sem] Heap.next_set Heap.next_push
@[go_sem] theorem lt_succ_of {a b : Nat} (h : a < b) : (a < b + 1) = True := by simp; omega
@[go_sem] theorem lt_succ_self' (a : Nat) : (a < a + 1) = True := by simp
@[go_sem] theorem eq_of_lt {a b : Nat} (h : a < b) : (a = b) = False := by simp; omega
@[go_sem] theorem eq_of_gt {a b : Nat} (h : b < a) : (a = b) = False := by simp; omega

/-! ### Writing -/
@[go_sem] theorem ea_alloc (vs : List AVal) : evalAlloc (.alloc vs) = some (.cells .rw vs, fun id => .ptr id 0) := rfl
@[go_sem] theorem ea_mkMap : evalAlloc AOp.mkMap = some (.map [] 0, fun id => .map id) := rfl
@[go_sem] theorem ea_box (x : AVal) : evalAlloc (.box x) = match x.cells.all AVal.one with
    | true => some (.cells .rw x.cells, fun id => .ptr id 0)
    | false => none := rfl
@[go_sem] theorem ea_buildSlice (z : List AVal) (n : Nat) (ps : List (Nat × Nat × AVal)) : evalAlloc (.buildSlice z n ps) = match fillAll (reps z n) ps with
    | some cs => some (.cells .rw cs, fun id => .slice id 0 n (.exact n))
    | none => none := rfl
@[go_sem] theorem fillAll_nil (cs : List AVal) : fillAll cs [] = some cs := rfl
@[go_sem] theorem fillAll_cons (cs : List AVal) (a b : Nat) (v : AVal) (ps : List (Nat × Nat × AVal)) : fillAll cs ((a, b, v) :: ps) = match fillOne cs a b v with
    | some cs => fillAll cs ps
    | none => none := rfl
@[go_sem] theorem fillOne_eq (cells : List AVal) (off size : Nat) (v : AVal) : fillOne cells off size v = match Nat.beq v.cells.length size && Nat.ble (off + size) cells.length && v.cells.all AVal.one with
    | true => some (cells.take off ++ v.cells ++ cells.drop (off + size))
    | false => none := rfl
@[go_sem] theorem reps_zero (z : List AVal) : reps z 0 = [] := rfl
@[go_sem] theorem reps_one (z : List AVal) : reps z 1 = z := by simp [reps]
@[go_sem] theorem reps_two (z : List AVal) : reps z 2 = z ++ z := by simp [reps]
@[go_sem] theorem takeAt_eq (vs : List AVal) (off n : Nat) : takeAt vs off n = match Nat.ble (off + n) vs.length with
    | true => some ((vs.drop off).take n)
    | false => none := rfl
@[go_sem] theorem putAt_eq (h : Heap) (id off : Nat) (new : List AVal) : putAt h id off new = match h.get id with
    | some (.cells .rw vs) => match Nat.ble (off + new.length) vs.length && new.all AVal.one with
      | true => some (h.set id (.cells .rw (putCells vs new off)))
      | false => none
    | some (.cells .sb vs) => match Nat.ble (off + new.length) vs.length && new.all AVal.one with
      | true => some (h.set id (.cells .sb (putCells vs new off)))
      | false => none
    | _ => none := rfl
@[go_sem] theorem putCells_eq (vs new : List AVal) (off : Nat) : putCells vs new off = vs.take off ++ new ++ vs.drop (off + new.length) := rfl
@[go_sem] theorem cells_agg (cs : List AVal) : (AVal.agg cs).cells = cs := rfl
@[go_sem] theorem cells_int (k : IntKind) (n : Int) : (AVal.int k n).cells = [.int k n] := rfl
@[go_sem] theorem cells_bool (b : Bool) : (AVal.bool b).cells = [.bool b] := rfl
@[go_sem] theorem cells_str (b : List UInt8) : (AVal.str b).cells = [.str b] := rfl
@[go_sem] theorem cells_ptr (a b : Nat) : (AVal.ptr a b).cells = [.ptr a b] := rfl
@[go_sem] theorem cells_nilptr : AVal.nilptr.cells = [.nilptr] := rfl
@[go_sem] theorem cells_slice (a b c : Nat) (d : Cap) : (AVal.slice a b c d).cells = [.slice a b c d] := rfl
@[go_sem] theorem cells_nilslice : AVal.nilslice.cells = [.nilslice] := rfl
@[go_sem] theorem cells_map (a : Nat) : (AVal.map a).cells = [.map a] := rfl
@[go_sem] theorem cells_func (f : FuncId) (a b : List AVal) : (AVal.func f a b).cells = [.func f a b] := rfl
@[go_sem] theorem one_int (k : IntKind) (n : Int) : AVal.one (.int k n) = true := rfl
@[go_sem] theorem one_bool (b : Bool) : AVal.one (.bool b) = true := rfl
@[go_sem] theorem one_str (b : List UInt8) : AVal.one (.str b) = true := rfl
@[go_sem] theorem one_ptr (a b : Nat) : AVal.one (.ptr a b) = true := rfl
@[go_sem] theorem one_nilptr : AVal.one .nilptr = true := rfl
@[go_sem] theorem one_slice (a b c : Nat) (d : Cap) : AVal.one (.slice a b c d) = true := rfl
@[go_sem] theorem one_nilslice : AVal.one .nilslice = true := rfl
@[go_sem] theorem one_map (a : Nat) : AVal.one (.map a) = true := rfl
@[go_sem] theorem one_func (f : FuncId) (a b : List AVal) : AVal.one (.func f a b) = true := rfl
attribute [go_sem] List.all_cons List.all_nil Bool.and_true Bool.true_and

theorem takeAt_ok {vs : List AVal} {off n : Nat} (h : off + n ≤ vs.length) : takeAt vs off n = some ((vs.drop off).take n) := by
  have : Nat.ble (off + n) vs.length = true := by simpa using h
  simp only [takeAt, this]
theorem putCells_one {vs : List AVal} {x : AVal} {off : Nat} (h : off < vs.length) : putCells vs [x] off = vs.set off x := by
  unfold putCells
  rw [List.set_eq_take_append_cons_drop]; simp [h]
@[go_sem] theorem ble_dec (a b : Nat) : Nat.ble a b = decide (a ≤ b) := by rw [Bool.eq_iff_iff]; simp
@[go_sem] theorem blt_dec (a b : Nat) : Nat.blt a b = decide (a < b) := by rw [Bool.eq_iff_iff]; simp [Nat.blt_eq]
@[go_sem] theorem beq_dec (a b : Nat) : Nat.beq a b = decide (a = b) := by rw [Bool.eq_iff_iff]; simp
@[go_sem] theorem ew_storeN (c : CallT) (h : Heap) (n id off : Nat) (x : AVal) : evalWrite c h (.storeN n (.ptr id off) x) = match Nat.beq x.cells.length n with
    | true => (putAt h id off x.cells).map fun h => (undefA, h)
    | false => none := rfl
theorem ew_mapUpdate (c : CallT) (h : Heap) (kk : Leaf) (id : Nat) (k v : AVal) : evalWrite c h (.mapUpdate kk (.map id) k v) = match h.get id with
    | some (.map es clock) => match k.one && v.cells.all AVal.one, findEntry kk k es 0 with
      | true, some (some (i, _)) => some (undefA, h.set id (.map (mapSet es i v) clock))
      | true, some none => some (undefA, h.set id (.map (es ++ [(k, v, clock)]) (clock + 1)))
      | _, _ => none
    | _ => none := rfl
@[go_sem] theorem ew_append (c : CallT) (h : Heap) (esz bytes : Nat) (s x : AVal) : evalWrite c h (.append esz bytes s x) = appendTo h esz bytes s x := rfl
theorem ew_delete (c : CallT) (h : Heap) (kk : Leaf) (id : Nat) (k : AVal) : evalWrite c h (.delete kk (.map id) k) = match h.get id with
    | some (.map es clock) => match findEntry kk k es 0 with
      | some (some (i, _)) => some (undefA, h.set id (.map (es.eraseIdx i) clock))
      | some none => some (undefA, h.set id (.map es clock))
      | none => none
    | _ => none := rfl
attribute [go_sem] decide_true decide_false Bool.not_true Bool.not_false
attribute [go_sem] Option.map_some Option.map_none List.length_cons List.length_nil

theorem putAt_rw {h : Heap} {id off : Nat} {vs new : List AVal} (g : h.get id = some (.cells .rw vs)) (hl : off + new.length ≤ vs.length) (ho : new.all AVal.one = true) :
    putAt h id off new = some (h.set id (.cells .rw (putCells vs new off))) := by
  have : (Nat.ble (off + new.length) vs.length && new.all AVal.one) = true := by simp [ho]; omega
  simp only [putAt, g, this]

end Go.AM
