import Derived.Test.YtpjdgiiphohjeaaGreatDoorWp3
import Derived.Test.YtpjdgiiphohjeaaGreatDoorSeatW
import Derived.Test.YtpjdgiiphohjeaaGreatDoorW1
/-! Beginnings of the walks: numbers, slices, loops. -/
namespace Go.AM
open Go

@[congr] theorem cl_congr {f : FuncId} {args args' : List AVal} {h : Heap} {K : AVal → Heap → Prop} (e : args = args') {u : Unit} (_t : tokA = u) : cl f args h K = cl f args' h K := by rw [e]
@[go_sem] theorem er_idx (esz : Nat) (h : Heap) (a b n : Nat) (c : Cap) (k : IntKind) (x : Int) (h0 : 0 ≤ x) (h1 : x < n) : evalRead h (.idxAddrS esz (.slice a b n c) (.int k x)) = some (.ptr a (b + x.toNat * esz)) := by
  obtain ⟨i, rfl⟩ := Int.eq_ofNat_of_zero_le h0
  rw [er_idxAddrS _ _ _ _ _ _ _ _ (by omega)]
  simp
attribute [go_sem] List.getD_cons_zero List.getD_cons_succ List.getElem?_cons_zero List.getElem?_cons_succ
@[go_sem] theorem er_max (h : Heap) (k : IntKind) (a b : Int) : evalRead h (.minmax true (.int k a) [.int k b]) = some (.int k (max a b)) := by
  have : (if a < b then b else a) = max a b := by omega
  simp [evalRead, foldMM, this]
@[go_sem] theorem er_min (h : Heap) (k : IntKind) (a b : Int) : evalRead h (.minmax false (.int k a) [.int k b]) = some (.int k (min a b)) := by
  have : (if b < a then b else a) = min a b := by omega
  simp [evalRead, foldMM, this]

theorem lp_intro {d0 : List AVal} {h : Heap} {body : List AVal → (Nat → AVal) → Heap → (List AVal → Heap → Prop) → Prop} (J : Nat → List AVal → Heap → Prop) (k0 : Nat) (h0 : J k0 d0 h)
    (step : ∀ k d z h', J k d h' → body d z h' (fun d' h'' => ∃ k', k' < k ∧ J k' d' h'')) : lp d0 h body := ⟨J, ⟨k0, h0⟩, step⟩

theorem lp_ind {d0 : List AVal} {h : Heap} {body : List AVal → (Nat → AVal) → Heap → (List AVal → Heap → Prop) → Prop} (J : Nat → List AVal → Heap → Prop) (k0 : Nat) (h0 : J k0 d0 h)
    (step : ∀ (k : Nat) (d : List AVal) (z : Nat → AVal) (h' : Heap) (again : List AVal → Heap → Prop), (∀ (k' : Nat) (_d : List AVal) (_h : Heap), k' < k → J k' _d _h → again _d _h) → J k d h' → body d z h' again) : lp d0 h body :=
  ⟨J, ⟨k0, h0⟩, fun k d z h' hj => step k d z h' _ (fun k' _ _ hk hj => ⟨k', hk, hj⟩) hj⟩

/-- Numbers kept within 0 .. 2^40. -/
def clipM (x : Int) : Int := min (max x 0) 1099511627776
def addM (a b : Int) : Int := clipM (clipM a + clipM b)
theorem clipM_lo (x : Int) : 0 ≤ clipM x := by unfold clipM; omega
theorem clipM_hi (x : Int) : clipM x ≤ 1099511627776 := by unfold clipM; omega
theorem clipM_id {x : Int} (h : 0 ≤ x) (h' : x ≤ 1099511627776) : clipM x = x := by unfold clipM; omega
theorem addM_id {a b : Int} (h : 0 ≤ a) (h' : 0 ≤ b) (h'' : a + b ≤ 1099511627776) : addM a b = a + b := by unfold addM clipM; omega

theorem Old.setNew {h h' : Heap} (a : Old h h') {id : Nat} (o : AObj) (hid : h.next ≤ id) : Old h (h'.set id o) := ⟨a.next, fun j x => (Heap.get_set_ne (by omega)).trans (a.get j x)⟩
theorem But.setNew {s : List Nat} {h h' : Heap} (a : But s h h') {id : Nat} (o : AObj) (hid : h.next ≤ id) : But s h (h'.set id o) := ⟨a.next, fun j x y => (Heap.get_set_ne (by omega)).trans (a.get j x y)⟩
theorem Old.lt {h h' : Heap} (a : Old h h') {id : Nat} (x : id < h.next) : id < h'.next := Nat.lt_of_lt_of_le x a.next
theorem Old.keeps {h h' : Heap} (a : Old h h') {id : Nat} {o : AObj} (g : h.get id = some o) : h'.get id = some o := (a.get id (Heap.get_lt g)).trans g

/-! ### Slices -/
@[go_sem] theorem shown_nil (h : Heap) (esz : Nat) : shown h esz .nilslice = some (0, []) := rfl
theorem shown_at {h : Heap} {id off n esz : Nat} {c : Cap} {m : Kind} {vs : List AVal} (g : h.get id = some (.cells m vs)) (hl : off + n * esz ≤ vs.length) : shown h esz (.slice id off n c) = some (n, (vs.drop off).take (n * esz)) := by
  have h1 : getCells h id = some vs := by simp only [getCells, g]
  simp only [shown, h1, takeAt_ok hl]

theorem appendTo_eq {h : Heap} {esz bytes n : Nat} {s x : AVal} {new : List AVal} (e : shown h esz x = some (n, new)) (ho : new.all AVal.one = true) : appendTo h esz bytes s x = appendCells h esz bytes s n new := by
  simp only [appendTo, e, ho]

theorem roomy_ok {n bytes : Nat} (h1 : n ≤ 1048576) (h2 : bytes ≤ 65536) : roomy n bytes = true := by
  have h3 : n * bytes ≤ 1048576 * 65536 := Nat.mul_le_mul h1 h2
  simp only [roomy, Bool.and_eq_true]
  refine ⟨⟨?_, ?_⟩, ?_⟩ <;> simp <;> omega
theorem roomy_one {bytes : Nat} (h2 : bytes ≤ 65536) : roomy 1 bytes = true := roomy_ok (by omega) h2

/-- A slice shows so many elements, their cells. -/
def Row (h : Heap) (esz : Nat) (v : AVal) (n : Nat) (cs : List AVal) : Prop :=
  (v = .nilslice ∧ n = 0 ∧ cs = []) ∨ ∃ id off c m vs, v = .slice id off n c ∧ h.get id = some (.cells m vs) ∧ off + n * esz ≤ vs.length ∧ cs = (vs.drop off).take (n * esz)
theorem Row.old {h h' : Heap} {esz n : Nat} {v : AVal} {cs : List AVal} (r : Row h esz v n cs) (o : Old h h') : Row h' esz v n cs := by
  rcases r with r | ⟨id, off, c, m, vs, e1, g, e2, e3⟩
  · exact .inl r
  · exact .inr ⟨id, off, c, m, vs, e1, o.keeps g, e2, e3⟩
theorem Row.shown {h : Heap} {esz n : Nat} {v : AVal} {cs : List AVal} (r : Row h esz v n cs) : AM.shown h esz v = some (n, cs) := by
  rcases r with ⟨rfl, rfl, rfl⟩ | ⟨id, off, c, m, vs, rfl, g, hl, rfl⟩
  · rfl
  · exact shown_at g hl
theorem row_cell {vs : List AVal} {off k j : Nat} (hj : j < k) : vs[off + j]? = ((vs.drop off).take k)[j]? := by
  rw [List.getElem?_take_of_lt hj, List.getElem?_drop]
theorem row_cells {vs : List AVal} {off k j n : Nat} (hj : j + n ≤ k) : (vs.drop (off + j)).take n = (((vs.drop off).take k).drop j).take n := by
  rw [List.drop_take, List.drop_drop, List.take_take, Nat.min_eq_left (by omega)]
theorem Row.length {h : Heap} {esz n : Nat} {v : AVal} {cs : List AVal} (r : Row h esz v n cs) : cs.length = n * esz := by
  rcases r with ⟨rfl, rfl, rfl⟩ | ⟨id, off, c, m, vs, rfl, g, hl, rfl⟩
  · simp
  · simp; omega
theorem Row.one {h : Heap} {esz n : Nat} {v : AVal} {cs : List AVal} (r : Row h esz v n cs) : v.one = true := by
  rcases r with ⟨rfl, rfl, rfl⟩ | ⟨id, off, c, m, vs, rfl, g, hl, rfl⟩ <;> rfl
theorem er_lenRow {h : Heap} {esz n : Nat} {v : AVal} {cs : List AVal} {h' : Heap} (r : Row h' esz v n cs) : evalRead h (.len .slice v) = some (.int .i64 n) := by
  rcases r with ⟨rfl, rfl, rfl⟩ | ⟨id, off, c, m, vs, rfl, g, hl, rfl⟩ <;> rfl

/-- A box is laid: named, and known by its facts alone. -/
theorem al_box {h : Heap} {x : AVal} {K : AVal → Heap → Prop} (cs : List AVal) (hx : x.cells = cs) (ho : cs.all AVal.one = true)
    (k : ∀ b h1, b = h.next → h1.next = b + 1 → Old h h1 → h1.get b = some (.cells .rw cs) → K (.ptr b 0) h1) : al h (.box x) K := by
  rw [al_alo, ea_box, hx, ho]
  simp only []
  rw [alo_some]
  exact k _ _ rfl rfl ((Old.refl h).push _) (Heap.get_push_self _ _)
theorem al_alloc {h : Heap} {K : AVal → Heap → Prop} (cs : List AVal) (k : ∀ b h1, b = h.next → h1.next = b + 1 → Old h h1 → h1.get b = some (.cells .rw cs) → K (.ptr b 0) h1) : al h (.alloc cs) K := by
  rw [al_alo, ea_alloc, alo_some]
  exact k _ _ rfl rfl ((Old.refl h).push _) (Heap.get_push_self _ _)
/-- A box is written over. -/
theorem wr_box {h : Heap} {b n : Nat} {x : AVal} {K : AVal → Heap → Prop} {cs : List AVal} (xs : List AVal) (g : h.get b = some (.cells .rw cs)) (hn : cs.length = n) (hx : x.cells = xs) (hl : xs.length = n) (ho : xs.all AVal.one = true)
    (k : ∀ h1, h1.next = h.next → But [b] h h1 → h1.get b = some (.cells .rw xs) → K undefA h1) : wr h (.storeN n (.ptr b 0) x) K := by
  rw [wr_wro]
  have h1 : evalWrite noCall h (.storeN n (.ptr b 0) x) = some (undefA, h.set b (.cells .rw xs)) := by
    rw [ew_storeN, hx, hl]
    have : Nat.beq n n = true := by simp
    simp only [this]
    rw [putAt_rw g (by omega) ho]
    have : putCells cs xs 0 = xs := by simp [putCells, hl, ← hn]
    rw [this]
    rfl
  rw [h1, wro_some]
  exact k _ rfl ((But.refl [b] h).set b _ (by simp)) (Heap.get_set_self (Heap.get_lt g))

/-- A slice of a new block that shows some cells, or none. -/
def NewRow (h h' : Heap) (esz : Nat) (v : AVal) (n : Nat) (cs : List AVal) : Prop :=
  (v = .nilslice ∧ n = 0 ∧ cs = []) ∨ ∃ id c, h.next ≤ id ∧ v = .slice id 0 n c ∧ h'.get id = some (.cells .rw cs) ∧ (c = .upto esz ∨ (n = 0 ∧ c = .exact 0)) ∧ cs.length = n * esz

theorem NewRow.shown {h h' : Heap} {esz n : Nat} {v : AVal} {cs : List AVal} (r : NewRow h h' esz v n cs) : AM.shown h' esz v = some (n, cs) := by
  rcases r with ⟨rfl, rfl, rfl⟩ | ⟨id, c, _, rfl, g, _, hl⟩
  · rfl
  · rw [shown_at g (by omega)]
    simp [← hl]
@[go_sem] theorem asNat_int {k : IntKind} {x : Int} {most : Nat} (h0 : 0 ≤ x) (h1 : x ≤ most) : asNat (.int k x) most = some x.toNat := by
  obtain ⟨i, rfl⟩ := Int.eq_ofNat_of_zero_le h0
  have : Nat.ble i most = true := by rw [ble_dec]; simp; omega
  show (match Nat.ble i most with | true => some i | false => none) = _
  rw [this]
  rfl
@[go_sem] theorem ea_mkSlice (bytes : Nat) (z : List AVal) (l c : AVal) : evalAlloc (.mkSlice bytes z l c) = match asNat c 2147483648 with
    | some c => match asNat l c with
      | some l => match Nat.ble (c * bytes) 140737488355328 with
        | true => some (.cells .rw (reps z c), fun id => .slice id 0 l (.exact c))
        | false => none
      | none => none
    | none => none := rfl
@[go_sem] theorem findEntry_nil (kk : Leaf) (k : AVal) (i : Nat) : findEntry kk k [] i = some none := rfl
@[go_sem] theorem er_idxA (h : Heap) (len esz a b : Nat) (k : IntKind) (x : Int) (h0 : 0 ≤ x) (h1 : x < len) : evalRead h (.idxAddrA len esz (.ptr a b) (.int k x)) = some (.ptr a (b + x.toNat * esz)) := by
  have h2 : asNat (.int k x) len = some x.toNat := asNat_int h0 (by omega)
  have h3 : Nat.blt x.toNat len = true := by rw [blt_dec]; simp; omega
  simp only [evalRead, h2, h3]

/-! ### Checks of drawn statements -/
@[go_sem] theorem ck_cons (hs : List Heap) (p : Past) (ps : List Past) (A : Prop) : ck hs (p :: ps) A = (checkOne hs p p.chk = true ∧ ck hs ps A) := by
  simp only [ck, checkAll, Bool.and_eq_true, and_assoc]
@[go_sem] theorem checkOne_nil (hs : List Heap) (p : Past) : checkOne hs p [] = true := rfl
@[go_sem] theorem checkOne_cons (hs : List Heap) (p : Past) (j : Nat) (js : List Nat) : checkOne hs p (j :: js) = match hs[j]? with
    | some h => match evalRead h p.op with
      | some v => AVal.beq v p.v && checkOne hs p js
      | none => false
    | none => false := rfl
@[go_sem] theorem beq_int (k : IntKind) (a : Int) : AVal.beq (.int k a) (.int k a) = true := by simp [AVal.beq]
@[go_sem] theorem beq_bool (b : Bool) : AVal.beq (.bool b) (.bool b) = true := by simp [AVal.beq]
@[go_sem] theorem beq_str (b : List UInt8) : AVal.beq (.str b) (.str b) = true := by simp [AVal.beq]
@[go_sem] theorem beq_ptr (a b : Nat) : AVal.beq (.ptr a b) (.ptr a b) = true := by simp [AVal.beq]
@[go_sem] theorem beq_nilptr : AVal.beq .nilptr .nilptr = true := rfl
@[go_sem] theorem beq_nilslice : AVal.beq .nilslice .nilslice = true := rfl
@[go_sem] theorem beq_map (a : Nat) : AVal.beq (.map a) (.map a) = true := by simp [AVal.beq]
@[go_sem] theorem beq_slice (a b c : Nat) (d : Cap) : AVal.beq (.slice a b c d) (.slice a b c d) = true := by
  cases d <;> simp [AVal.beq, Cap.beq]
@[go_sem] theorem beq_agg (a b : List AVal) : AVal.beq (.agg a) (.agg b) = AVal.beqs a b := by simp [AVal.beq]
@[go_sem] theorem beqs_nil : AVal.beqs [] [] = true := rfl
@[go_sem] theorem beqs_cons (x y : AVal) (xs ys : List AVal) : AVal.beqs (x :: xs) (y :: ys) = (AVal.beq x y && AVal.beqs xs ys) := by simp [AVal.beqs]

/-! ### Rows that are one's own -/
def OwnRow (h : Heap) (esz : Nat) (v : AVal) (n : Nat) (cs : List AVal) (fp : List Nat) : Prop :=
  (v = .nilslice ∧ n = 0 ∧ cs = [] ∧ fp = []) ∨ ∃ id, v = .slice id 0 n (.upto esz) ∧ fp = [id] ∧ h.get id = some (.cells .rw cs) ∧ cs.length = n * esz
theorem OwnRow.row {h : Heap} {esz n : Nat} {v : AVal} {cs : List AVal} {fp : List Nat} (r : OwnRow h esz v n cs fp) : Row h esz v n cs := by
  rcases r with ⟨rfl, rfl, rfl, rfl⟩ | ⟨id, rfl, rfl, g, hl⟩
  · exact .inl ⟨rfl, rfl, rfl⟩
  · exact .inr ⟨id, 0, _, _, cs, rfl, g, by omega, by simp [← hl]⟩
theorem OwnRow.keep {h h' : Heap} {esz n : Nat} {v : AVal} {cs : List AVal} {fp s : List Nat} (r : OwnRow h esz v n cs fp) (b : But s h h') (hd : ∀ i ∈ fp, i ∉ s) : OwnRow h' esz v n cs fp := by
  rcases r with r | ⟨id, rfl, rfl, g, hl⟩
  · exact .inl r
  · exact .inr ⟨id, rfl, rfl, (b.get id (Heap.get_lt g) (hd id (by simp))).trans g, hl⟩
theorem OwnRow.lt {h : Heap} {esz n : Nat} {v : AVal} {cs : List AVal} {fp : List Nat} (r : OwnRow h esz v n cs fp) : ∀ i ∈ fp, i < h.next := by
  rcases r with ⟨rfl, rfl, rfl, rfl⟩ | ⟨id, rfl, rfl, g, hl⟩
  · simp
  · intro i hi; simp at hi; subst hi; exact Heap.get_lt g

theorem OwnRow.old {h h' : Heap} {esz n : Nat} {v : AVal} {cs : List AVal} {fp : List Nat} (r : OwnRow h esz v n cs fp) (o : Old h h') : OwnRow h' esz v n cs fp := r.keep (o.but []) (by simp)
theorem OwnRow.one {h : Heap} {esz n : Nat} {v : AVal} {cs : List AVal} {fp : List Nat} (r : OwnRow h esz v n cs fp) : v.one = true := r.row.one
theorem OwnRow.cells {h : Heap} {esz n : Nat} {v : AVal} {cs : List AVal} {fp : List Nat} (r : OwnRow h esz v n cs fp) : v.cells = [v] := by
  rcases r with ⟨rfl, _⟩ | ⟨id, rfl, _⟩ <;> rfl
theorem Old.then {h h1 h2 : Heap} {fp : List Nat} (o : Old h h1) (b : But fp h1 h2) (hf : ∀ i ∈ fp, h.next ≤ i) : Old h h2 :=
  ⟨Nat.le_trans o.next b.next, fun j hj => (b.get j (Nat.lt_of_lt_of_le hj o.next) fun hm => by have := hf j hm; omega).trans (o.get j hj)⟩

/-- append to a row of one's own: a new row. -/
theorem wro_append_own {h : Heap} {esz bytes n m : Nat} {v x : AVal} {cs new : List AVal} {fp : List Nat} {K : AVal → Heap → Prop} (r : OwnRow h esz v n cs fp) (hs : shown h esz x = some (m, new)) (ho : new.all AVal.one = true) (hm : 0 < m) (he : 0 < esz) (hl : new.length = m * esz)
    (hn : n + m ≤ 1048576) (hb : bytes ≤ 65536) (k : ∀ v' h', But fp h h' → h'.next = h.next + 1 → OwnRow h' esz v' (n + m) (cs ++ new) [h.next] → K v' h') : wro (appendTo h esz bytes v x) K := by
  rw [appendTo_eq hs ho]
  rcases r with ⟨rfl, rfl, rfl, rfl⟩ | ⟨id, rfl, rfl, g, hcs⟩
  · have h0 : Nat.beq m 0 = false := by rw [beq_dec]; simp; omega
    simp only [appendCells, h0, roomy_ok (show m ≤ 1048576 by omega) hb]
    rw [wro_some]
    refine k _ _ ((But.refl _ _).push _) rfl (.inr ⟨h.next, by simp [grow], rfl, ?_, by simpa using hl⟩)
    exact Heap.get_push_self _ _
  · have h1 : (Nat.beq esz esz && Nat.blt 0 esz) = true := by rw [beq_dec, blt_dec]; simp [he]
    have h2 : Nat.ble (0 + (n + m) * esz) cs.length = false := by
      rw [ble_dec]
      have : 0 < m * esz := Nat.mul_pos hm he
      simp [hcs, Nat.add_mul]; omega
    have h3 : takeAt cs 0 (n * esz) = some cs := by rw [takeAt_ok (by omega)]; simp [← hcs]
    simp only [appendCells, h1, g, h2, h3, roomy_ok hn hb]
    rw [wro_some]
    refine k _ _ (((But.refl _ _).set id _ (by simp)).push _) (by simp [grow]) (.inr ⟨h.next, rfl, rfl, ?_, ?_⟩)
    · exact Heap.get_push_self _ _
    · rw [List.length_append, hcs, hl, Nat.add_mul]

/-! ### Maps over numbers -/
abbrev MapM := List (Int × AVal × Nat)
def encM (es : MapM) : List (AVal × AVal × Nat) := es.map fun e => (.int .i64 e.1, e.2.1, e.2.2)
/-- Where a key stands, and its value. -/
def findI (x : Int) : MapM → Nat → Option (Nat × AVal)
  | [], _ => none
  | (k, v, _) :: es, i => if x = k then some (i, v) else findI x es (i + 1)
theorem findEntry_enc (x : Int) : ∀ (es : MapM) (i : Nat), findEntry .int (.int .i64 x) (encM es) i = some (findI x es i) := by
  intro es
  induction es with
  | nil => intro i; rfl
  | cons e es ih =>
    obtain ⟨k, v, b⟩ := e
    intro i
    by_cases h : x = k
    · subst h; simp [encM, findEntry, sameKey, findI]
    · have := ih (i + 1)
      simp only [encM] at this
      simp [encM, findEntry, sameKey, findI, h, this]
theorem findI_none {x : Int} : ∀ {es : MapM} (i : Nat), (∀ e ∈ es, e.1 ≠ x) → findI x es i = none := by
  intro es
  induction es with
  | nil => intro i _; rfl
  | cons e es ih =>
    obtain ⟨k, v, b⟩ := e
    intro i h
    rw [findI, if_neg (fun e => h (k, v, b) (by simp) e.symm)]
    exact ih (i + 1) fun e he => h e (List.mem_cons_of_mem _ he)
theorem encM_snoc (es : MapM) (x : Int) (v : AVal) (b : Nat) : encM es ++ [(.int .i64 x, v, b)] = encM (es ++ [(x, v, b)]) := by simp [encM]

/-! ### Lists of structs -/
theorem flat_length {α : Type} {enc : α → List AVal} {n : Nat} (hl : ∀ x, (enc x).length = n) : ∀ xs : List α, (xs.flatMap enc).length = xs.length * n := by
  intro xs
  induction xs with
  | nil => simp
  | cons x xs ih => rw [List.flatMap_cons, List.length_append, ih, hl, List.length_cons, Nat.succ_mul]; omega
theorem flat_elem {α : Type} {enc : α → List AVal} {n : Nat} (hl : ∀ x, (enc x).length = n) : ∀ (xs : List α) (i : Nat) (hi : i < xs.length), ((xs.flatMap enc).drop (i * n)).take n = enc xs[i] := by
  intro xs
  induction xs with
  | nil => intro i hi; simp at hi
  | cons x xs ih =>
    intro i hi
    cases i with
    | zero => simp [List.flatMap_cons, ← hl x]
    | succ i =>
      rw [List.flatMap_cons, Nat.succ_mul, Nat.add_comm (i * n) n, ← List.drop_drop]
      have : (enc x ++ xs.flatMap enc).drop n = xs.flatMap enc := by rw [← hl x, List.drop_left]
      rw [this]
      simpa using ih i (by simpa using hi)
/-- An element of a row of structs. -/
theorem row_elem {α : Type} {enc : α → List AVal} {n : Nat} (hl : ∀ x, (enc x).length = n) {xs : List α} {vs : List AVal} {off : Nat} (hcs : xs.flatMap enc = (vs.drop off).take (xs.length * n)) {i : Nat} (hi : i < xs.length) :
    (vs.drop (off + i * n)).take n = enc xs[i] := by
  rw [← flat_elem hl xs i hi, hcs]
  have : i * n + n ≤ xs.length * n := by rw [← Nat.succ_mul]; exact Nat.mul_le_mul_right n hi
  exact row_cells this
theorem row_in {n k len off i : Nat} (h : off + k * n ≤ len) (hi : i < k) : off + i * n + n ≤ len := by
  have : i * n + n ≤ k * n := by rw [← Nat.succ_mul]; exact Nat.mul_le_mul_right n hi
  omega

/-- append of a row to nothing. -/
theorem wro_append_nil {h : Heap} {esz bytes n : Nat} {x : AVal} {cs : List AVal} {K : AVal → Heap → Prop} (hs : shown h esz x = some (n, cs)) (ho : cs.all AVal.one = true) (hn : n ≤ 1048576) (hb : bytes ≤ 65536)
    (k : ∀ v h', Old h h' → h.next ≤ h'.next → NewRow h h' esz v n cs → K v h') (hl : cs.length = n * esz) : wro (appendTo h esz bytes .nilslice x) K := by
  rw [appendTo_eq hs ho]
  unfold appendCells
  by_cases h0 : n = 0
  · subst h0
    have : cs = [] := List.eq_nil_of_length_eq_zero (by omega)
    subst this
    simp only [go_sem]
    exact k _ _ (Old.refl _) (Nat.le_refl _) (.inl ⟨rfl, rfl, rfl⟩)
  · have : Nat.beq n 0 = false := by rw [beq_dec]; simpa using h0
    simp only [this, roomy_ok hn hb]
    rw [wro_some]
    refine k _ _ ((Old.refl h).push _) (by simp [grow]) (.inr ⟨h.next, .upto esz, Nat.le_refl _, rfl, ?_, .inl rfl, hl⟩)
    exact Heap.get_push_self _ _

/-- slices.Clone, as it is of every type: append to a new empty slice. -/
theorem wro_append_empty {h : Heap} {esz bytes n b : Nat} {x : AVal} {cs : List AVal} {K : AVal → Heap → Prop} (g : h.get b = some (.cells .rw [])) (hs : shown h esz x = some (n, cs)) (ho : cs.all AVal.one = true) (hn : n ≤ 1048576) (hb : bytes ≤ 65536) (hl : cs.length = n * esz)
    (k : ∀ v h', But [b] h h' → (n = 0 ∧ v = .slice b 0 0 (.exact 0) ∧ h'.get b = some (.cells .rw []) ∨ n ≠ 0 ∧ v = .slice h.next 0 n (.upto esz) ∧ h'.get h.next = some (.cells .rw cs)) → K v h') : wro (appendTo h esz bytes (.slice b 0 0 (.exact 0)) x) K := by
  rw [appendTo_eq hs ho]
  unfold appendCells
  by_cases h0 : n = 0
  · subst h0
    have : cs = [] := List.eq_nil_of_length_eq_zero (by omega)
    subst this
    simp only [go_sem, Nat.zero_mul, Nat.add_zero, g]
    simp only [Nat.le_refl, decide_true]
    rw [wro_some]
    refine k _ _ ((But.refl _ _).set b _ (by simp)) (.inl ⟨rfl, rfl, ?_⟩)
    exact Heap.get_set_self (Heap.get_lt g)
  · have h1 : Nat.ble n 0 = false := by rw [ble_dec]; simp; omega
    have h2 : getCells h b = some [] := by simp only [getCells, g]
    have h3 : takeAt ([] : List AVal) 0 (0 * esz) = some [] := by simp [takeAt]
    simp only [h1, h2, Nat.zero_add, roomy_ok hn hb, h3]
    rw [wro_some]
    refine k _ _ ((But.refl _ _).push _) (.inr ⟨h0, rfl, ?_⟩)
    exact Heap.get_push_self _ _
/-- What is known of a row's room. -/
def CapOk (v : AVal) (esz : Nat) : Prop := ∀ id off n c, v = .slice id off n c → (∀ k, c = .exact k → n ≤ k) ∧ ∀ e, c = .upto e → e = esz
theorem er_cut {h : Heap} {v : AVal} {n esz k : Nat} {cs : List AVal} (r : Row h esz v n cs) (hc : CapOk v esz) (hk : k ≤ n) :
    ∃ v', evalRead h (.sliceSl esz v none (some (.int .i64 k)) none) = some v' ∧ Row h esz v' k (cs.take (k * esz)) ∧ CapOk v' esz := by
  have hi : ∀ m, k ≤ m → boundOr (some (AVal.int .i64 (k : Int))) m n = some k := fun m h => by
    simp only [boundOr]
    rw [asNat_int (by omega) (by omega)]; simp
  have hlo : ∀ m, boundOr none m 0 = some 0 := fun _ => rfl
  rcases r with ⟨rfl, rfl, rfl⟩ | ⟨id, off, c, m, vs, rfl, g, hl, rfl⟩
  · have : k = 0 := by omega
    subst this
    exact ⟨.nilslice, rfl, .inl ⟨rfl, rfl, by simp⟩, fun _ _ _ _ e => by cases e⟩
  · have hk' : k * esz ≤ n * esz := Nat.mul_le_mul_right _ hk
    obtain ⟨h1, h2⟩ := hc _ _ _ _ rfl
    cases c with
    | exact cap =>
      have := h1 cap rfl
      refine ⟨.slice id (off + 0 * esz) (k - 0) (.exact (cap - 0)), ?_, .inr ⟨id, off, .exact cap, m, vs, by simp, g, by omega, ?_⟩, fun i o c c' e => ?_⟩
      · have e1 : boundOr none cap cap = some cap := rfl
        simp only [evalRead, e1, hi cap (by omega), hlo]
      · rw [List.take_take, Nat.min_eq_left hk']
      · cases e; exact ⟨fun k' e => by cases e; omega, fun _ e => by cases e⟩
    | upto e =>
      cases h2 e rfl
      refine ⟨.slice id (off + 0 * esz) (k - 0) (.upto esz), ?_, .inr ⟨id, off, .upto esz, m, vs, by simp, g, by omega, ?_⟩, fun i o c c' e => ?_⟩
      · simp only [evalRead, hi n hk, hlo, beq_dec]; simp
      · rw [List.take_take, Nat.min_eq_left hk']
      · cases e
        refine ⟨fun k' e => ?_, fun _ e => ?_⟩
        · cases e
        · cases e; rfl
theorem But.keeps {s : List Nat} {h h' : Heap} (b : But s h h') {id : Nat} {o : AObj} (g : h.get id = some o) (hi : id ∉ s) : h'.get id = some o := (b.get id (Heap.get_lt g) hi).trans g
theorem But.then {t s : List Nat} {h h1 h2 : Heap} (a : But t h h1) (b : But s h1 h2) (hs : ∀ i ∈ s, i ∈ t ∨ h.next ≤ i) : But t h h2 :=
  ⟨Nat.le_trans a.next b.next, fun j hj hjt => (b.get j (Nat.lt_of_lt_of_le hj a.next) fun hm => by rcases hs j hm with h1 | h1; exact hjt h1; omega).trans (a.get j hj hjt)⟩
theorem But.thenOld {t : List Nat} {h h1 h2 : Heap} (a : But t h h1) (b : Old h1 h2) : But t h h2 := a.then (b.but []) (by simp)
theorem OwnRow.one_cell {h : Heap} {esz n : Nat} {v : AVal} {cs : List AVal} {fp : List Nat} (r : OwnRow h esz v n cs fp) : v.cells.length = 1 := by rw [r.cells]; rfl
end Go.AM

open Go Go.AM
namespace Go.AM
/-! Maps over numbers, as functions. -/
def MapIs (h : Heap) (id : Nat) (f : Int → Option AVal) : Prop :=
  ∃ es k, h.get id = some (.map (encM es) k) ∧ (es.map (·.1)).Nodup ∧ ∀ x i, (findI x es i).map Prod.snd = f x
def updM (f : Int → Option AVal) (x : Int) (v : Option AVal) : Int → Option AVal := fun y => if y = x then v else f y

theorem MapIs.lt {h : Heap} {id : Nat} {f : Int → Option AVal} (m : MapIs h id f) : id < h.next := by
  obtain ⟨es, k, g, _⟩ := m; exact Heap.get_lt g
theorem MapIs.keep {h h' : Heap} {id : Nat} {f : Int → Option AVal} {s : List Nat} (m : MapIs h id f) (b : But s h h') (hi : id ∉ s) : MapIs h' id f := by
  obtain ⟨es, k, g, r⟩ := m; exact ⟨es, k, b.keeps g hi, r⟩
theorem MapIs.old {h h' : Heap} {id : Nat} {f : Int → Option AVal} (m : MapIs h id f) (o : Old h h') : MapIs h' id f := m.keep (o.but []) (by simp)
theorem MapIs.empty {h : Heap} {id k : Nat} (g : h.get id = some (.map [] k)) : MapIs h id fun _ => none := ⟨[], k, g, by simp, fun _ _ => rfl⟩

theorem er_lookupM {h : Heap} {id : Nat} {f : Int → Option AVal} (m : MapIs h id f) (z : AVal) (x : Int) : evalRead h (.lookup .int z (.map id) (.int .i64 x) false) = some ((f x).getD z) := by
  obtain ⟨es, k, g, _, e⟩ := m
  rw [er_lookup, entriesOf_map, g]
  simp only [findEntry_enc]
  rw [← e x 0]
  cases findI x es 0 with
  | none => rfl
  | some p => rfl
theorem er_lookupOkM {h : Heap} {id : Nat} {f : Int → Option AVal} (m : MapIs h id f) (z : AVal) (x : Int) : evalRead h (.lookup .int z (.map id) (.int .i64 x) true) = some (.tuple [(f x).getD z, .bool (f x).isSome]) := by
  obtain ⟨es, k, g, _, e⟩ := m
  rw [er_lookup, entriesOf_map, g]
  simp only [findEntry_enc]
  rw [← e x 0]
  cases findI x es 0 with
  | none => rfl
  | some p => rfl

theorem findI_some {x : Int} {w : AVal} : ∀ {es : MapM} {i j : Nat}, findI x es i = some (j, w) → i ≤ j ∧ ∃ b, es[j - i]? = some (x, w, b) := by
  intro es
  induction es with
  | nil => intro i j h; cases h
  | cons e es ih =>
    obtain ⟨k, v, b⟩ := e
    intro i j h
    rw [findI] at h
    by_cases hx : x = k
    · rw [if_pos hx] at h; cases h; subst hx; exact ⟨by omega, b, by simp⟩
    · rw [if_neg hx] at h
      obtain ⟨h1, b', h2⟩ := ih h
      refine ⟨by omega, b', ?_⟩
      obtain ⟨d, rfl⟩ : ∃ d, j = i + 1 + d := ⟨j - (i + 1), by omega⟩
      have e1 : i + 1 + d - i = d + 1 := by omega
      have e2 : i + 1 + d - (i + 1) = d := by omega
      rw [e1]; rw [e2] at h2; simpa using h2
theorem findI_set {x : Int} {w v : AVal} : ∀ {es : MapM} {i j : Nat}, findI x es i = some (j, w) → ∃ es', mapSet (encM es) (j - i) v = encM es' ∧ es'.map (·.1) = es.map (·.1) ∧
    ∀ y i', (findI y es' i').map Prod.snd = if y = x then some v else (findI y es i').map Prod.snd := by
  intro es
  induction es with
  | nil => intro i j h; cases h
  | cons e es ih =>
    obtain ⟨k, u, b⟩ := e
    intro i j h
    rw [findI] at h
    by_cases hx : x = k
    · rw [if_pos hx] at h; cases h; subst hx
      refine ⟨(x, v, b) :: es, by simp [encM, mapSet], by simp, fun y i' => ?_⟩
      rw [findI, findI]
      by_cases hy : y = x
      · simp [hy]
      · simp [hy]
    · rw [if_neg hx] at h
      obtain ⟨es', h1, h2, h3⟩ := ih h
      have hle := (findI_some h).1
      refine ⟨(k, u, b) :: es', ?_, by simp [h2], fun y i' => ?_⟩
      · have e1 : j - i = (j - (i + 1)) + 1 := by omega
        rw [e1]
        show _ :: mapSet (encM es) (j - (i + 1)) v = _
        rw [h1]; rfl
      · rw [findI, findI]
        by_cases hy : y = k
        · have : y ≠ x := fun e => hx (e ▸ hy)
          simp [hy, this]; intro e; exact absurd e.symm hx
        · rw [if_neg hy, if_neg hy]; exact h3 y (i' + 1)
theorem findI_snoc {x : Int} {v : AVal} {b : Nat} : ∀ {es : MapM} {i : Nat}, findI x es i = none → ∀ y i', (findI y (es ++ [(x, v, b)]) i').map Prod.snd = if y = x then some v else (findI y es i').map Prod.snd := by
  intro es
  induction es with
  | nil => intro i _ y i'; by_cases hy : y = x <;> simp [findI, hy]
  | cons e es ih =>
    obtain ⟨k, u, b'⟩ := e
    intro i h y i'
    rw [findI] at h
    by_cases hx : x = k
    · rw [if_pos hx] at h; cases h
    · rw [if_neg hx] at h
      rw [List.cons_append, findI, findI]
      by_cases hy : y = k
      · have : y ≠ x := fun e => hx (e ▸ hy)
        rw [if_pos hy, if_pos hy, if_neg this]
      · rw [if_neg hy, if_neg hy]; exact ih h y (i' + 1)
theorem findI_none_mem {x : Int} : ∀ {es : MapM} {i : Nat}, findI x es i = none → x ∉ es.map (·.1) := by
  intro es
  induction es with
  | nil => intro i _; simp
  | cons e es ih =>
    obtain ⟨k, u, b'⟩ := e
    intro i h
    rw [findI] at h
    by_cases hx : x = k
    · rw [if_pos hx] at h; cases h
    · rw [if_neg hx] at h; simp only [List.map_cons, List.mem_cons, not_or]; exact ⟨hx, ih h⟩

theorem ew_mapM {c : CallT} {h : Heap} {id : Nat} {f : Int → Option AVal} (m : MapIs h id f) (x : Int) {v : AVal} (ho : v.cells.all AVal.one = true) :
    ∃ o, evalWrite c h (.mapUpdate .int (.map id) (.int .i64 x) v) = some (undefA, h.set id o) ∧ MapIs (h.set id o) id (updM f x (some v)) := by
  obtain ⟨es, k, g, nd, e⟩ := m
  rw [ew_mapUpdate, g]
  have h1 : ((AVal.int .i64 x).one && v.cells.all AVal.one) = true := by rw [ho]; rfl
  simp only [h1, findEntry_enc]
  cases hf : findI x es 0 with
  | none =>
    refine ⟨_, rfl, ?_⟩
    rw [encM_snoc]
    refine ⟨_, _, Heap.get_set_self (Heap.get_lt g), ?_, fun y i => ?_⟩
    · rw [List.map_append]
      refine List.nodup_append.2 ⟨nd, by simp, ?_⟩
      intro a ha b hb hab
      simp at hb
      exact findI_none_mem hf (hb ▸ hab ▸ ha)
    · rw [findI_snoc hf, e]; rfl
  | some p =>
    obtain ⟨j, w⟩ := p
    obtain ⟨es', h2, h3, h4⟩ := findI_set (v := v) hf
    refine ⟨_, rfl, ?_⟩
    rw [Nat.sub_zero] at h2
    rw [h2]
    refine ⟨_, _, Heap.get_set_self (Heap.get_lt g), by rw [h3]; exact nd, fun y i => ?_⟩
    rw [h4, e]; rfl
theorem wro_mapM {c : CallT} {h : Heap} {id : Nat} {f : Int → Option AVal} (m : MapIs h id f) (x : Int) {v : AVal} (ho : v.cells.all AVal.one = true) {K : AVal → Heap → Prop}
    (k : ∀ o, MapIs (h.set id o) id (updM f x (some v)) → K undefA (h.set id o)) : wro (evalWrite c h (.mapUpdate .int (.map id) (.int .i64 x) v)) K := by
  obtain ⟨o, e, m'⟩ := ew_mapM (c := c) m x ho
  rw [e, wro_some]; exact k o m'
end Go.AM

open Go Go.AM
namespace Go.AM
/-! What may be declared. -/
def inB (x a b : Int) : Bool := decide (a ≤ x) && decide (x ≤ b)
theorem within_spec (x a b : Int) (h : Heap) (Q : AVal → Heap → Prop) (q : Q (.bool (inB x a b)) h) : cl n_admit_within [.int .i64 x, .int .i64 a, .int .i64 b] h Q := by
  apply admit_within_wp
  unfold admit_within
  unfold inB at q
  by_cases h1 : a ≤ x
  · simp (disch := first | omega | (simp only [Heap.next_push, Heap.next_set]; try omega; done)) [go_sem, -getElem?_pos, h1, admit_within_g1]
    simpa [h1] using q
  · simp (disch := first | omega | (simp only [Heap.next_push, Heap.next_set]; try omega; done)) [go_sem, -getElem?_pos, h1, admit_within_g1]
    simpa [h1] using q

/-- The first that a test takes. -/
def idxI (p : Int → Bool) : List Int → Nat → Option Nat
  | [], _ => none
  | x :: xs, i => if p x then some i else idxI p xs (i + 1)

theorem indexFunc_int {h : Heap} {v fv : AVal} {xs : List Int} {p : Int → Bool} (r : Row h 1 v xs.length (xs.map (.int .i64 ·))) (hn : xs.length ≤ 1000000)
    (hf : ∀ x h1 K, Old h h1 → (∀ h2, Old h1 h2 → K (.bool (p x)) h2) → cv cl fv [.int .i64 x] h1 K) (Q : AVal → Heap → Prop)
    (q : ∀ h', Old h h' → Q (.int .i64 (match idxI p xs 0 with | some i => (i : Int) | none => -1)) h') : cl n_slices_IndexFunc_slint_int_ [v, fv] h Q := by
  apply slices_IndexFunc_slint_int__wp
  unfold slices_IndexFunc_slint_int_
  simp (disch := first | omega | (simp only [Heap.next_push, Heap.next_set]; try omega; done)) [go_sem, -getElem?_pos, er_lenRow r]
  refine lp_ind (fun k d h' => ∃ i : Nat, i ≤ xs.length ∧ k = xs.length - i ∧ Old h h' ∧ d = [.int .i64 i] ∧ idxI p xs 0 = idxI p (xs.drop i) i) xs.length ⟨0, by omega, rfl, Old.refl _, rfl, rfl⟩ ?_
  rintro k d z h' again hag ⟨i, hi, rfl, ho, rfl, hidx⟩
  by_cases hlt : i < xs.length
  · have r' := r.old ho
    rcases r' with ⟨_, h0, _⟩ | ⟨id, off, c, m, vs, rfl, g, hl, hcs⟩
    · omega
    have hx : vs[off + i]? = some (.int .i64 xs[i]) := by
      rw [row_cell (k := xs.length * 1) (by omega), ← hcs]; simp [hlt]
    simp (disch := first | omega | (simp only [Heap.next_push, Heap.next_set]; try omega; done)) [go_sem, -getElem?_pos, hlt, g, hx]
    apply hf _ _ _ ho
    intro h2 ho2
    rw [br_bool]
    have hd : xs.drop i = xs[i] :: xs.drop (i + 1) := (List.drop_eq_getElem_cons hlt)
    refine ⟨fun hp => ?_, fun hp => ?_⟩
    · have := q h2 (ho.trans ho2)
      rw [hidx, hd, idxI, if_pos hp] at this
      exact this
    · simp (disch := first | omega | (simp only [Heap.next_push, Heap.next_set]; try omega; done)) [go_sem, -getElem?_pos, wrapF_i64]
      refine hag (xs.length - (i + 1)) _ _ (by omega) ⟨i + 1, by omega, rfl, ho.trans ho2, by simp, ?_⟩
      rw [hidx, hd, idxI, if_neg (by simp [hp])]
  · have : i = xs.length := by omega
    subst this
    simp (disch := first | omega | (simp only [Heap.next_push, Heap.next_set]; try omega; done)) [go_sem, -getElem?_pos]
    have := q h' ho
    rw [hidx] at this
    simpa [idxI] using this

theorem containsFunc_int {h : Heap} {v fv : AVal} {xs : List Int} {p : Int → Bool} (r : Row h 1 v xs.length (xs.map (.int .i64 ·))) (hn : xs.length ≤ 1000000)
    (hf : ∀ x h1 K, Old h h1 → (∀ h2, Old h1 h2 → K (.bool (p x)) h2) → cv cl fv [.int .i64 x] h1 K) (Q : AVal → Heap → Prop)
    (q : ∀ h', Old h h' → Q (.bool (xs.any p)) h') : cl n_slices_ContainsFunc_slint_int_ [v, fv] h Q := by
  apply slices_ContainsFunc_slint_int__wp
  unfold slices_ContainsFunc_slint_int_
  apply indexFunc_int r hn hf
  intro h' ho
  have key : ∀ (xs : List Int) (i : Nat), xs.any p = (idxI p xs i).isSome := by
    intro xs
    induction xs with
    | nil => intro i; rfl
    | cons x xs ih => intro i; rw [List.any_cons, idxI]; by_cases hp : p x <;> simp [hp, ih (i + 1)]
  have hk := key xs 0
  cases hidx : idxI p xs 0 with
  | none => simp (disch := first | omega | (simp only [Heap.next_push, Heap.next_set]; try omega; done)) [go_sem, -getElem?_pos]; have := q h' ho; rw [hk, hidx] at this; simpa using this
  | some i => simp (disch := first | omega | (simp only [Heap.next_push, Heap.next_set]; try omega; done)) [go_sem, -getElem?_pos]; have := q h' ho; rw [hk, hidx] at this; simpa using this
/-- A task that is declared, but for its lists. -/
structure TaskM where
  cls : Int
  level : Int
  period : Int
  deadline : Int
  budget : Int
  line : Int
def TaskM.enc (t : TaskM) (u p : AVal) : List AVal := [.int .i64 t.cls, .int .i64 t.level, .int .i64 t.period, .int .i64 t.deadline, .int .i64 t.budget, .int .i64 t.line, u, p]

def mayClass (t : TaskM) : Bool := (decide (t.cls = 2) && inB t.level 0 63) || (decide (t.cls = 1) && decide (t.level = 0))
def maySpan (t : TaskM) : Bool := (inB t.period 1 1000000 && inB t.deadline 1 t.period) && inB t.budget 1 t.deadline
def mayUses (nm : Nat) (uses : List Int) : Bool := decide (uses.length ≤ 6) && !uses.any fun m => !inB m 0 ((nm : Int) - 1)
def mayTaskB (nm ng np : Nat) (t : TaskM) (uses : List Int) : Bool := mayClass t && maySpan t && mayUses nm uses && inB t.line (-1) ((ng : Int) - 1) && decide (np ≤ 40)

theorem mayTask_1_spec {h : Heap} {bx : Nat} {v0 v1 v2 v3 v4 v5 : AVal} {m : Kind} {nm : Nat} {cm : List AVal} (g : h.get bx = some (.cells m [v0, v1, v2, v3, v4, v5])) (r : Row h 2 v2 nm cm) (hn : nm ≤ 1000000) (x : Int) (Q : AVal → Heap → Prop)
    (q : Q (.bool (!inB x 0 ((nm : Int) - 1))) h) : cl n_admit_mayTask_1 [.int .i64 x, .ptr bx 0] h Q := by
  apply admit_mayTask_1_wp
  unfold admit_mayTask_1
  simp (disch := first | omega | (simp only [Heap.next_push, Heap.next_set]; try omega; done)) [go_sem, -getElem?_pos, g, er_lenRow r, wrapF_i64]
  apply within_spec
  simp (disch := first | omega | (simp only [Heap.next_push, Heap.next_set]; try omega; done)) [go_sem, -getElem?_pos]
  exact q

theorem mayTask_spec {h : Heap} {v0 v1 v2 v3 : AVal} {fr dg : Int} {nm ng np : Nat} {cm cg cp : List AVal} (o0 : v0.one = true) (o1 : v1.one = true) (r2 : Row h 2 v2 nm cm) (r3 : Row h 1 v3 ng cg) (hnm : nm ≤ 1000000) (hng : ng ≤ 1000000)
    (t : TaskM) {u p : AVal} {uses : List Int} (ru : Row h 1 u uses.length (uses.map (.int .i64 ·))) (rp : Row h 9 p np cp) (hu : uses.length ≤ 1000000) (hp : np ≤ 1000000) (Q : AVal → Heap → Prop)
    (q : ∀ h', Old h h' → Q (.bool (mayTaskB nm ng np t uses)) h') : cl n_admit_mayTask [.agg [v0, v1, v2, v3, .int .i64 fr, .int .i64 dg], .agg (t.enc u p)] h Q := by
  apply admit_mayTask_wp
  unfold admit_mayTask
  refine al_box [v0, v1, v2, v3, .int .i64 fr, .int .i64 dg] rfl (by simp (disch := first | omega | (simp only [Heap.next_push, Heap.next_set]; try omega; done)) [go_sem, -getElem?_pos, o0, o1, r2.one, r3.one]) ?_
  intro bc h1 hbc hn1 ho1 gc
  refine al_box (t.enc u p) rfl (by simp (disch := first | omega | (simp only [Heap.next_push, Heap.next_set]; try omega; done)) [go_sem, -getElem?_pos, TaskM.enc, ru.one, rp.one]) ?_
  intro bt H hbt hn2 ho2 gt
  unfold TaskM.enc at gt
  have oH : Old h H := ho1.trans ho2
  replace gc := ho2.keeps gc
  simp (disch := first | omega | (simp only [Heap.next_push, Heap.next_set]; try omega; done)) [go_sem, -getElem?_pos, gt]
  refine admit_mayTask_g1_mono (K := fun v h' => v = .bool (decide (t.cls = 2) && inB t.level 0 63) ∧ h' = H) ?_ ?_
  rotate_left
  · unfold admit_mayTask_g1
    by_cases h1 : t.cls = 2
    · simp (disch := first | omega | (simp only [Heap.next_push, Heap.next_set]; try omega; done)) [go_sem, -getElem?_pos, h1, gt]; apply within_spec; simp (disch := first | omega | (simp only [Heap.next_push, Heap.next_set]; try omega; done)) [go_sem, -getElem?_pos, h1]
    · simp (disch := first | omega | (simp only [Heap.next_push, Heap.next_set]; try omega; done)) [go_sem, -getElem?_pos, h1]
  rintro v hh ⟨rfl, rfl⟩
  refine admit_mayTask_g2_mono (K := fun v h' => v = .bool (mayClass t) ∧ h' = hh) ?_ ?_
  rotate_left
  · unfold admit_mayTask_g2 mayClass
    cases hb : (decide (t.cls = 2) && inB t.level 0 63)
    · by_cases h1 : t.cls = 1
      · simp (disch := first | omega | (simp only [Heap.next_push, Heap.next_set]; try omega; done)) [go_sem, -getElem?_pos, h1, gt, hb]
      · simp (disch := first | omega | (simp only [Heap.next_push, Heap.next_set]; try omega; done)) [go_sem, -getElem?_pos, h1, gt, hb]
    · simp (disch := first | omega | (simp only [Heap.next_push, Heap.next_set]; try omega; done)) [go_sem, -getElem?_pos, hb]
  rintro v hh ⟨rfl, rfl⟩
  simp (disch := first | omega | (simp only [Heap.next_push, Heap.next_set]; try omega; done)) [go_sem, -getElem?_pos, gt]
  apply within_spec
  refine admit_mayTask_g3_mono (K := fun v h' => v = .bool (inB t.period 1 1000000 && inB t.deadline 1 t.period) ∧ h' = hh) ?_ ?_
  rotate_left
  · unfold admit_mayTask_g3
    cases hb : inB t.period 1 1000000
    · simp (disch := first | omega | (simp only [Heap.next_push, Heap.next_set]; try omega; done)) [go_sem, -getElem?_pos, hb]
    · simp (disch := first | omega | (simp only [Heap.next_push, Heap.next_set]; try omega; done)) [go_sem, -getElem?_pos, hb, gt]; apply within_spec; simp (disch := first | omega | (simp only [Heap.next_push, Heap.next_set]; try omega; done)) [go_sem, -getElem?_pos]
  rintro v hh ⟨rfl, rfl⟩
  refine admit_mayTask_g4_mono (K := fun v h' => v = .bool (maySpan t) ∧ h' = hh) ?_ ?_
  rotate_left
  · unfold admit_mayTask_g4 maySpan
    cases hb : (inB t.period 1 1000000 && inB t.deadline 1 t.period)
    · simp (disch := first | omega | (simp only [Heap.next_push, Heap.next_set]; try omega; done)) [go_sem, -getElem?_pos, hb]
    · simp (disch := first | omega | (simp only [Heap.next_push, Heap.next_set]; try omega; done)) [go_sem, -getElem?_pos, hb, gt]; apply within_spec; simp (disch := first | omega | (simp only [Heap.next_push, Heap.next_set]; try omega; done)) [go_sem, -getElem?_pos]
  rintro v hh ⟨rfl, rfl⟩
  simp (disch := first | omega | (simp only [Heap.next_push, Heap.next_set]; try omega; done)) [go_sem, -getElem?_pos, gt, er_lenRow ru]
  refine admit_mayTask_g5_mono (K := fun v h' => v = .bool (mayUses nm uses) ∧ Old hh h') ?_ ?_
  rotate_left
  · unfold admit_mayTask_g5 mayUses
    by_cases h1 : (uses.length : Int) ≤ 6
    · have h1' : uses.length ≤ 6 := by omega
      simp (disch := first | omega | (simp only [Heap.next_push, Heap.next_set]; try omega; done)) [go_sem, -getElem?_pos, h1, gt]
      apply containsFunc_int (p := fun m => !inB m 0 ((nm : Int) - 1)) (ru.old oH) hu
      · intro x h1 K o1 hk
        simp (disch := first | omega | (simp only [Heap.next_push, Heap.next_set]; try omega; done)) [go_sem, -getElem?_pos]
        exact mayTask_1_spec (o1.keeps gc) ((r2.old oH).old o1) hnm x K (hk h1 (Old.refl _))
      · intro h' ho
        simp (disch := first | omega | (simp only [Heap.next_push, Heap.next_set]; try omega; done)) [go_sem, -getElem?_pos, h1, h1']
        exact ho
    · have h1' : ¬ uses.length ≤ 6 := by omega
      simp (disch := first | omega | (simp only [Heap.next_push, Heap.next_set]; try omega; done)) [go_sem, -getElem?_pos, h1, h1']
      exact Old.refl _
  rintro v h2 ⟨rfl, o2⟩
  refine admit_mayTask_g6_mono (K := fun v h' => v = .bool (mayClass t && maySpan t) ∧ h' = h2) ?_ ?_
  rotate_left
  · unfold admit_mayTask_g6
    cases hb : mayClass t <;> simp (disch := first | omega | (simp only [Heap.next_push, Heap.next_set]; try omega; done)) [go_sem, -getElem?_pos]
  rintro v h3 ⟨rfl, rfl⟩
  refine admit_mayTask_g7_mono (K := fun v h' => v = .bool (mayClass t && maySpan t && mayUses nm uses) ∧ h' = h3) ?_ ?_
  rotate_left
  · unfold admit_mayTask_g7
    cases hb : (mayClass t && maySpan t) <;> simp (disch := first | omega | (simp only [Heap.next_push, Heap.next_set]; try omega; done)) [go_sem, -getElem?_pos]
  rintro v h4 ⟨rfl, rfl⟩
  refine admit_mayTask_g8_mono (K := fun v h' => v = .bool (mayClass t && maySpan t && mayUses nm uses && inB t.line (-1) ((ng : Int) - 1)) ∧ h' = h4) ?_ ?_
  rotate_left
  · unfold admit_mayTask_g8
    cases hb : (mayClass t && maySpan t && mayUses nm uses)
    · simp (disch := first | omega | (simp only [Heap.next_push, Heap.next_set]; try omega; done)) [go_sem, -getElem?_pos]
    · simp (disch := first | omega | (simp only [Heap.next_push, Heap.next_set]; try omega; done)) [go_sem, -getElem?_pos, o2.keeps gc, o2.keeps gt, er_lenRow r3, wrapF_i64]; apply within_spec; simp (disch := first | omega | (simp only [Heap.next_push, Heap.next_set]; try omega; done)) [go_sem, -getElem?_pos]
  rintro v h5 ⟨rfl, rfl⟩
  refine admit_mayTask_g9_mono (K := fun v h' => v = .bool (mayTaskB nm ng np t uses) ∧ h' = h5) ?_ ?_
  rotate_left
  · unfold admit_mayTask_g9 mayTaskB
    cases hb : (mayClass t && maySpan t && mayUses nm uses && inB t.line (-1) ((ng : Int) - 1))
    · simp (disch := first | omega | (simp only [Heap.next_push, Heap.next_set]; try omega; done)) [go_sem, -getElem?_pos]
    · simp (disch := first | omega | (simp only [Heap.next_push, Heap.next_set]; try omega; done)) [go_sem, -getElem?_pos, o2.keeps gt, er_lenRow rp]
      by_cases h1 : np ≤ 40
      · have : (np : Int) ≤ 40 := by omega
        simp [h1, this]
      · have : ¬ (np : Int) ≤ 40 := by omega
        simp [h1, this]
  rintro v h6 ⟨rfl, rfl⟩
  exact q _ (oH.trans o2)
end Go.AM

open Go Go.AM
namespace Go.AM
/-! Copies of slices; the mutexes that are declared. -/

theorem clone_slapi_Mutex_api_Mutex_ {h : Heap} {v : AVal} {n : Nat} {cs : List AVal} (r : Row h 2 v n cs) (ho : cs.all AVal.one = true) (hn : n ≤ 1048576) (Q : AVal → Heap → Prop)
    (q : ∀ v' h', Old h h' → NewRow h h' 2 v' n cs → (v' = .nilslice ↔ v = .nilslice) → Q v' h') : cl n_slices_Clone_slapi_Mutex_api_Mutex_ [v] h Q := by
  apply slices_Clone_slapi_Mutex_api_Mutex__wp
  unfold slices_Clone_slapi_Mutex_api_Mutex_
  have r0 := r
  rcases r with ⟨rfl, rfl, rfl⟩ | ⟨id, off, c, m, vs, rfl, g, hl, hcs⟩
  · simp (disch := first | omega | (simp only [Heap.next_push, Heap.next_set]; try omega; done)) [go_sem, -getElem?_pos]
    exact q _ _ (Old.refl _) (.inl ⟨rfl, rfl, rfl⟩) (by simp)
  · simp (disch := first | omega | (simp only [Heap.next_push, Heap.next_set]; try omega; done)) [go_sem, -getElem?_pos]
    have o1 : Old h (h.push (.cells .rw [])) := (Old.refl h).push _
    refine wro_append_empty (Heap.get_push_self _ _) (r0.old o1).shown ho hn (by omega) r0.length ?_
    intro v' h' hb hv
    have o2 : Old h h' := ⟨Nat.le_trans (Nat.le_succ _) hb.next, fun j hj => (hb.get j (Nat.lt_succ_of_lt hj) (by simp [Nat.ne_of_lt hj])).trans (o1.get j hj)⟩
    rcases hv with ⟨h0, rfl, g2⟩ | ⟨h0, rfl, g2⟩
    · have : cs = [] := List.eq_nil_of_length_eq_zero (by rw [r0.length, h0, Nat.zero_mul])
      subst this
      subst h0
      exact q _ _ o2 (.inr ⟨_, _, Nat.le_refl _, rfl, g2, .inr ⟨rfl, rfl⟩, by simp⟩) (by simp)
    · exact q _ _ o2 (.inr ⟨_, _, by simp, rfl, g2, .inl rfl, r0.length⟩) (by simp)

theorem clone_slint_int_ {h : Heap} {v : AVal} {n : Nat} {cs : List AVal} (r : Row h 1 v n cs) (ho : cs.all AVal.one = true) (hn : n ≤ 1048576) (Q : AVal → Heap → Prop)
    (q : ∀ v' h', Old h h' → NewRow h h' 1 v' n cs → (v' = .nilslice ↔ v = .nilslice) → Q v' h') : cl n_slices_Clone_slint_int_ [v] h Q := by
  apply slices_Clone_slint_int__wp
  unfold slices_Clone_slint_int_
  have r0 := r
  rcases r with ⟨rfl, rfl, rfl⟩ | ⟨id, off, c, m, vs, rfl, g, hl, hcs⟩
  · simp (disch := first | omega | (simp only [Heap.next_push, Heap.next_set]; try omega; done)) [go_sem, -getElem?_pos]
    exact q _ _ (Old.refl _) (.inl ⟨rfl, rfl, rfl⟩) (by simp)
  · simp (disch := first | omega | (simp only [Heap.next_push, Heap.next_set]; try omega; done)) [go_sem, -getElem?_pos]
    have o1 : Old h (h.push (.cells .rw [])) := (Old.refl h).push _
    refine wro_append_empty (Heap.get_push_self _ _) (r0.old o1).shown ho hn (by omega) r0.length ?_
    intro v' h' hb hv
    have o2 : Old h h' := ⟨Nat.le_trans (Nat.le_succ _) hb.next, fun j hj => (hb.get j (Nat.lt_succ_of_lt hj) (by simp [Nat.ne_of_lt hj])).trans (o1.get j hj)⟩
    rcases hv with ⟨h0, rfl, g2⟩ | ⟨h0, rfl, g2⟩
    · have : cs = [] := List.eq_nil_of_length_eq_zero (by rw [r0.length, h0, Nat.zero_mul])
      subst this
      subst h0
      exact q _ _ o2 (.inr ⟨_, _, Nat.le_refl _, rfl, g2, .inr ⟨rfl, rfl⟩, by simp⟩) (by simp)
    · exact q _ _ o2 (.inr ⟨_, _, by simp, rfl, g2, .inl rfl, r0.length⟩) (by simp)

structure MutexM where
  rank : Int
  limit : Int
def MutexM.enc (m : MutexM) : List AVal := [.int .i64 m.rank, .int .i64 m.limit]
theorem MutexM.enc_length (m : MutexM) : m.enc.length = 2 := rfl
def mayMutex (m : MutexM) : Bool := inB m.rank 1 100 && inB m.limit 1 1000

theorem rank_may_spec (m : MutexM) (h : Heap) (Q : AVal → Heap → Prop) (q : ∀ h', Old h h' → Q (.bool (mayMutex m)) h') : cl n_rank_may [.agg m.enc] h Q := by
  apply rank_may_wp
  unfold rank_may
  refine al_box m.enc rfl (by simp (disch := first | omega | (simp only [Heap.next_push, Heap.next_set]; try omega; done)) [go_sem, -getElem?_pos, MutexM.enc]) ?_
  intro b H hb hn ho g
  unfold MutexM.enc at g
  simp (disch := first | omega | (simp only [Heap.next_push, Heap.next_set]; try omega; done)) [go_sem, -getElem?_pos, g]
  refine rank_may_g1_mono (K := fun v h' => v = .bool (inB m.rank 1 100) ∧ h' = H) ?_ ?_
  rotate_left
  · unfold rank_may_g1 inB
    by_cases h1 : 1 ≤ m.rank <;> simp (disch := first | omega | (simp only [Heap.next_push, Heap.next_set]; try omega; done)) [go_sem, -getElem?_pos, h1, g]
  rintro v hh ⟨rfl, rfl⟩
  refine rank_may_g2_mono (K := fun v h' => v = .bool (inB m.rank 1 100 && decide (1 ≤ m.limit)) ∧ h' = hh) ?_ ?_
  rotate_left
  · unfold rank_may_g2
    cases hb : inB m.rank 1 100 <;> simp (disch := first | omega | (simp only [Heap.next_push, Heap.next_set]; try omega; done)) [go_sem, -getElem?_pos, g]
  rintro v hh ⟨rfl, rfl⟩
  refine rank_may_g3_mono (K := fun v h' => v = .bool (mayMutex m) ∧ h' = hh) ?_ ?_
  rotate_left
  · unfold rank_may_g3 mayMutex
    have e : (inB m.rank 1 100 && inB m.limit 1 1000) = ((inB m.rank 1 100 && decide (1 ≤ m.limit)) && decide (m.limit ≤ 1000)) := by rw [Bool.and_assoc]; rfl
    rw [e]
    cases hb : (inB m.rank 1 100 && decide (1 ≤ m.limit)) <;> simp (disch := first | omega | (simp only [Heap.next_push, Heap.next_set]; try omega; done)) [go_sem, -getElem?_pos, g]
  rintro v hh ⟨rfl, rfl⟩
  exact q _ ho

theorem rank_New_1_spec (m : MutexM) (h : Heap) (Q : AVal → Heap → Prop) (q : ∀ h', Old h h' → Q (.bool (!mayMutex m)) h') : cl n_rank_New_1 [.agg m.enc] h Q := by
  apply rank_New_1_wp
  unfold rank_New_1
  refine al_box m.enc rfl (by simp (disch := first | omega | (simp only [Heap.next_push, Heap.next_set]; try omega; done)) [go_sem, -getElem?_pos, MutexM.enc]) ?_
  intro b H hb hn ho g
  unfold MutexM.enc at g
  simp (disch := first | omega | (simp only [Heap.next_push, Heap.next_set]; try omega; done)) [go_sem, -getElem?_pos, g]
  apply rank_may_spec m
  intro h' ho'
  simp (disch := first | omega | (simp only [Heap.next_push, Heap.next_set]; try omega; done)) [go_sem, -getElem?_pos]
  exact q _ (ho.trans ho')

/-- The first of some that a test takes. -/
def idxF' {α : Type} (p : α → Bool) : List α → Nat → Option Nat
  | [], _ => none
  | x :: xs, i => if p x then some i else idxF' p xs (i + 1)
theorem any_idx {α : Type} (p : α → Bool) : ∀ (xs : List α) (i : Nat), xs.any p = (idxF' p xs i).isSome := by
  intro xs
  induction xs with
  | nil => intro i; rfl
  | cons x xs ih => intro i; rw [List.any_cons, idxF']; by_cases hp : p x <;> simp [hp, ih (i + 1)]

theorem indexFunc_mutex {h : Heap} {v fv : AVal} {xs : List MutexM} {p : MutexM → Bool} (r : Row h 2 v xs.length (xs.flatMap MutexM.enc)) (hn : xs.length ≤ 1000000)
    (hf : ∀ x h1 K, Old h h1 → (∀ h2, Old h1 h2 → K (.bool (p x)) h2) → cv cl fv [.agg (MutexM.enc x)] h1 K) (Q : AVal → Heap → Prop)
    (q : ∀ h', Old h h' → Q (.int .i64 (match idxF' p xs 0 with | some i => (i : Int) | none => -1)) h') : cl n_slices_IndexFunc_slapi_Mutex_api_Mutex_ [v, fv] h Q := by
  apply slices_IndexFunc_slapi_Mutex_api_Mutex__wp
  unfold slices_IndexFunc_slapi_Mutex_api_Mutex_
  simp (disch := first | omega | (simp only [Heap.next_push, Heap.next_set]; try omega; done)) [go_sem, -getElem?_pos, er_lenRow r]
  refine lp_ind (fun k d h' => ∃ i : Nat, i ≤ xs.length ∧ k = xs.length - i ∧ Old h h' ∧ d = [.int .i64 i] ∧ idxF' p xs 0 = idxF' p (xs.drop i) i) xs.length ⟨0, by omega, rfl, Old.refl _, rfl, rfl⟩ ?_
  rintro k d z h' again hag ⟨i, hi, rfl, ho, rfl, hidx⟩
  by_cases hlt : i < xs.length
  · have r' := r.old ho
    rcases r' with ⟨_, h0, _⟩ | ⟨id, off, c, m, vs, rfl, g, hl, hcs⟩
    · omega
    have hx := row_elem MutexM.enc_length hcs hlt
    have hin := row_in hl hlt
    simp (disch := first | omega | (simp only [Heap.next_push, Heap.next_set]; try omega; done)) [go_sem, -getElem?_pos, hlt, g, hx, hin]
    apply hf _ _ _ ho
    intro h2 ho2
    rw [br_bool]
    have hd : xs.drop i = xs[i] :: xs.drop (i + 1) := (List.drop_eq_getElem_cons hlt)
    refine ⟨fun hp => ?_, fun hp => ?_⟩
    · have := q h2 (ho.trans ho2)
      rw [hidx, hd, idxF', if_pos hp] at this
      exact this
    · simp (disch := first | omega | (simp only [Heap.next_push, Heap.next_set]; try omega; done)) [go_sem, -getElem?_pos, wrapF_i64]
      refine hag (xs.length - (i + 1)) _ _ (by omega) ⟨i + 1, by omega, rfl, ho.trans ho2, by simp, ?_⟩
      rw [hidx, hd, idxF', if_neg (by simp [hp])]
  · have : i = xs.length := by omega
    subst this
    simp (disch := first | omega | (simp only [Heap.next_push, Heap.next_set]; try omega; done)) [go_sem, -getElem?_pos]
    have := q h' ho
    rw [hidx] at this
    simpa [idxF'] using this

theorem containsFunc_mutex {h : Heap} {v fv : AVal} {xs : List MutexM} {p : MutexM → Bool} (r : Row h 2 v xs.length (xs.flatMap MutexM.enc)) (hn : xs.length ≤ 1000000)
    (hf : ∀ x h1 K, Old h h1 → (∀ h2, Old h1 h2 → K (.bool (p x)) h2) → cv cl fv [.agg (MutexM.enc x)] h1 K) (Q : AVal → Heap → Prop)
    (q : ∀ h', Old h h' → Q (.bool (xs.any p)) h') : cl n_slices_ContainsFunc_slapi_Mutex_api_Mutex_ [v, fv] h Q := by
  apply slices_ContainsFunc_slapi_Mutex_api_Mutex__wp
  unfold slices_ContainsFunc_slapi_Mutex_api_Mutex_
  apply indexFunc_mutex r hn hf
  intro h' ho
  have hk := any_idx p xs 0
  cases hidx : idxF' p xs 0 with
  | none => simp (disch := first | omega | (simp only [Heap.next_push, Heap.next_set]; try omega; done)) [go_sem, -getElem?_pos]; have := q h' ho; rw [hk, hidx] at this; simpa using this
  | some i => simp (disch := first | omega | (simp only [Heap.next_push, Heap.next_set]; try omega; done)) [go_sem, -getElem?_pos]; have := q h' ho; rw [hk, hidx] at this; simpa using this

theorem mutex_ones (xs : List MutexM) : (xs.flatMap MutexM.enc).all AVal.one = true := by
  rw [List.all_eq_true]
  intro x hx
  obtain ⟨m, _, hm⟩ := List.mem_flatMap.1 hx
  simp only [MutexM.enc, List.mem_cons, List.not_mem_nil, or_false] at hm
  rcases hm with rfl | rfl <;> rfl

def mayTable (ms : List MutexM) : Bool := decide (ms.length ≤ 6) && ms.all mayMutex

/-- A table: its box, and its row. -/
theorem rank_New_spec {h : Heap} {v : AVal} {ms : List MutexM} (r : Row h 2 v ms.length (ms.flatMap MutexM.enc)) (hn : ms.length ≤ 1000000) (Q : AVal → Heap → Prop)
    (q0 : mayTable ms = false → ∀ h', Old h h' → Q (.tuple [.nilptr, .int .i64 2]) h')
    (q1 : mayTable ms = true → ∀ h' t u, Old h h' → h.next ≤ t → h'.get t = some (.cells .rw [u]) → NewRow h h' 2 u ms.length (ms.flatMap MutexM.enc) → (∀ i o c, u = .slice i 0 o c → i ≠ t) → Q (.tuple [.ptr t 0, .int .i64 0]) h') : cl n_rank_New [v] h Q := by
  apply rank_New_wp
  unfold rank_New
  simp (disch := first | omega | (simp only [Heap.next_push, Heap.next_set]; try omega; done)) [go_sem, -getElem?_pos, er_lenRow r]
  refine rank_New_g1_mono (K := fun v h' => v = .bool (!mayTable ms) ∧ Old h h') ?_ ?_
  rotate_left
  · unfold rank_New_g1 mayTable
    by_cases h1 : 6 < ms.length
    · have h2 : (6 : Int) < ms.length := by omega
      have h3 : ¬ ms.length ≤ 6 := by omega
      simp (disch := first | omega | (simp only [Heap.next_push, Heap.next_set]; try omega; done)) [go_sem, -getElem?_pos, h2, h3]
      exact Old.refl _
    · have h2 : ¬ (6 : Int) < ms.length := by omega
      have h3 : ms.length ≤ 6 := by omega
      simp (disch := first | omega | (simp only [Heap.next_push, Heap.next_set]; try omega; done)) [go_sem, -getElem?_pos, h2]
      apply containsFunc_mutex (p := fun m => !mayMutex m) r hn
      · intro x h1 K ho hk
        simp (disch := first | omega | (simp only [Heap.next_push, Heap.next_set]; try omega; done)) [go_sem, -getElem?_pos]
        exact rank_New_1_spec x _ _ hk
      · intro h' ho
        simp (disch := first | omega | (simp only [Heap.next_push, Heap.next_set]; try omega; done)) [go_sem, -getElem?_pos, h2, h3]
        refine ⟨?_, ho⟩
        rw [List.all_eq_not_any_not]; simp
  rintro v' h1 ⟨rfl, o1⟩
  cases hm : mayTable ms
  · simp (disch := first | omega | (simp only [Heap.next_push, Heap.next_set]; try omega; done)) [go_sem, -getElem?_pos]
    exact q0 hm _ o1
  · simp (disch := first | omega | (simp only [Heap.next_push, Heap.next_set]; try omega; done)) [go_sem, -getElem?_pos]
    apply clone_slapi_Mutex_api_Mutex_ (r.old o1) (mutex_ones ms) (by omega)
    intro u h2 o2 hu _
    have hu1 : u.one = true := by rcases hu with ⟨rfl, _⟩ | ⟨_, _, _, rfl, _⟩ <;> rfl
    have hu2 : u.cells = [u] := by rcases hu with ⟨rfl, _⟩ | ⟨_, _, _, rfl, _⟩ <;> rfl
    simp (disch := first | omega | (simp only [Heap.next_push, Heap.next_set]; try omega; done)) [go_sem, -getElem?_pos, hu1, hu2]
    refine q1 hm _ _ _ ((o1.trans o2).push _) (Nat.le_trans o1.next o2.next) (Heap.get_push_self _ _) ?_ ?_
    · rcases hu with ⟨rfl, e1, e2⟩ | ⟨id, c, hid, rfl, g, hc, hl⟩
      · exact .inl ⟨rfl, e1, e2⟩
      · exact .inr ⟨id, c, Nat.le_trans o1.next hid, rfl, by rw [Heap.get_push_lt (Heap.get_lt g)]; exact g, hc, hl⟩
    · rintro i o c rfl
      rcases hu with ⟨e, _⟩ | ⟨id, c', hid, e, g, _⟩
      · cases e
      · cases e; have := Heap.get_lt g; omega
end Go.AM

open Go Go.AM
namespace Go.AM
/-! What New makes. -/

theorem line_New_spec (g : Int) (h : Heap) (Q : AVal → Heap → Prop) (q0 : inB g 1 1000 = false → Q (.tuple [.nilptr, .int .i64 2]) h)
    (q1 : inB g 1 1000 = true → ∀ h' l, Old h h' → l = h.next → h'.next = l + 1 → h'.get l = some (.cells .rw [.int .i64 g, .int .i64 0, .int .i64 0, .bool false, .bool false]) → Q (.tuple [.ptr l 0, .int .i64 0]) h') : cl n_line_New [.int .i64 g] h Q := by
  apply line_New_wp
  unfold line_New
  simp (disch := first | omega | (simp only [Heap.next_push, Heap.next_set]; try omega; done)) [go_sem, -getElem?_pos, line_New_g1]
  unfold inB at q0 q1
  by_cases h1 : g < 1
  · have : ¬ 1 ≤ g := by omega
    simp (disch := first | omega | (simp only [Heap.next_push, Heap.next_set]; try omega; done)) [go_sem, -getElem?_pos, h1]
    exact q0 (by simp [this])
  · have h1' : 1 ≤ g := by omega
    by_cases h2 : 1000 < g
    · have : ¬ g ≤ 1000 := by omega
      simp (disch := first | omega | (simp only [Heap.next_push, Heap.next_set]; try omega; done)) [go_sem, -getElem?_pos, h1, h2]
      exact q0 (by simp [this])
    · have h2' : g ≤ 1000 := by omega
      simp (disch := first | omega | (simp only [Heap.next_push, Heap.next_set]; try omega; done)) [go_sem, -getElem?_pos, h1, h2]
      refine q1 (by simp [h1', h2']) _ _ (by (repeat (first | exact Old.refl _ | assumption | refine Old.push ?_ _ | refine Old.setNew ?_ _ (by first | omega | (simp only [Heap.next_push, Heap.next_set]; try omega; done))))) rfl rfl ?_
      simp (disch := first | omega | (simp only [Heap.next_push, Heap.next_set]; try omega; done)) [go_sem, -getElem?_pos]

theorem dog_New_spec (g : Int) (h : Heap) (Q : AVal → Heap → Prop) (q0 : inB g 1 1099511627776 = false → Q (.tuple [.nilptr, .int .i64 2]) h)
    (q1 : inB g 1 1099511627776 = true → ∀ h' l, Old h h' → l = h.next → h'.next = l + 1 → h'.get l = some (.cells .rw [.int .i64 g, .int .i64 0, .nilslice]) → Q (.tuple [.ptr l 0, .int .i64 0]) h') : cl n_dog_New [.int .i64 g] h Q := by
  apply dog_New_wp
  unfold dog_New
  simp (disch := first | omega | (simp only [Heap.next_push, Heap.next_set]; try omega; done)) [go_sem, -getElem?_pos, dog_New_g1]
  unfold inB at q0 q1
  by_cases h1 : g < 1
  · have : ¬ 1 ≤ g := by omega
    simp (disch := first | omega | (simp only [Heap.next_push, Heap.next_set]; try omega; done)) [go_sem, -getElem?_pos, h1]
    exact q0 (by simp [this])
  · have h1' : 1 ≤ g := by omega
    by_cases h2 : 1099511627776 < g
    · have : ¬ g ≤ 1099511627776 := by omega
      simp (disch := first | omega | (simp only [Heap.next_push, Heap.next_set]; try omega; done)) [go_sem, -getElem?_pos, h1, h2]
      exact q0 (by simp [this])
    · have h2' : g ≤ 1099511627776 := by omega
      simp (disch := first | omega | (simp only [Heap.next_push, Heap.next_set]; try omega; done)) [go_sem, -getElem?_pos, h1, h2]
      refine q1 (by simp [h1', h2']) _ _ (by (repeat (first | exact Old.refl _ | assumption | refine Old.push ?_ _ | refine Old.setNew ?_ _ (by first | omega | (simp only [Heap.next_push, Heap.next_set]; try omega; done))))) rfl rfl ?_
      simp (disch := first | omega | (simp only [Heap.next_push, Heap.next_set]; try omega; done)) [go_sem, -getElem?_pos]

theorem cond_New_spec (h : Heap) (Q : AVal → Heap → Prop)
    (q1 : ∀ h' c a, Old h h' → a = h.next → c = h.next + 1 → h'.next = h.next + 2 → h'.get a = some (.cells .rw [.nilslice, .nilslice, .nilslice, .nilslice]) → h'.get c = some (.cells .rw [.slice a 0 4 (.exact 4)]) → Q (.tuple [.ptr c 0, .int .i64 0]) h') : cl n_cond_New [.int .i64 4] h Q := by
  apply cond_New_wp
  unfold cond_New
  simp (disch := first | omega | (simp only [Heap.next_push, Heap.next_set]; try omega; done)) [go_sem, -getElem?_pos, cond_New_g1]
  refine q1 _ _ _ (by (repeat (first | exact Old.refl _ | assumption | refine Old.push ?_ _ | refine Old.setNew ?_ _ (by first | omega | (simp only [Heap.next_push, Heap.next_set]; try omega; done))))) rfl rfl rfl ?_ ?_ <;> simp (disch := first | omega | (simp only [Heap.next_push, Heap.next_set]; try omega; done)) [go_sem, -getElem?_pos, reps]

theorem locks_New_spec (t : Nat) (h : Heap) (Q : AVal → Heap → Prop)
    (q1 : ∀ h' l a b, Old h h' → a = h.next → b = h.next + 1 → l = h.next + 2 → h'.next = h.next + 3 → h'.get a = some (.map [] 0) → h'.get b = some (.map [] 0) → h'.get l = some (.cells .rw [.ptr t 0, .map a, .map b]) → Q (.ptr l 0) h') : cl n_locks_New [.ptr t 0] h Q := by
  apply locks_New_wp
  unfold locks_New
  simp (disch := first | omega | (simp only [Heap.next_push, Heap.next_set]; try omega; done)) [go_sem, -getElem?_pos]
  refine q1 _ _ _ _ (by (repeat (first | exact Old.refl _ | assumption | refine Old.push ?_ _ | refine Old.setNew ?_ _ (by first | omega | (simp only [Heap.next_push, Heap.next_set]; try omega; done))))) rfl rfl rfl rfl ?_ ?_ ?_ <;> simp (disch := first | omega | (simp only [Heap.next_push, Heap.next_set]; try omega; done)) [go_sem, -getElem?_pos]

theorem proc_New_spec (h : Heap) (Q : AVal → Heap → Prop)
    (q1 : ∀ h' p m, Old h h' → m = h.next → p = h.next + 1 → h'.next = h.next + 2 → h'.get m = some (.map [] 0) → h'.get p = some (.cells .rw [.map m]) → Q (.ptr p 0) h') : cl n_proc_New [] h Q := by
  apply proc_New_wp
  unfold proc_New
  simp (disch := first | omega | (simp only [Heap.next_push, Heap.next_set]; try omega; done)) [go_sem, -getElem?_pos]
  refine q1 _ _ _ (by (repeat (first | exact Old.refl _ | assumption | refine Old.push ?_ _ | refine Old.setNew ?_ _ (by first | omega | (simp only [Heap.next_push, Heap.next_set]; try omega; done))))) rfl rfl rfl ?_ ?_ <;> simp (disch := first | omega | (simp only [Heap.next_push, Heap.next_set]; try omega; done)) [go_sem, -getElem?_pos]

theorem fd_New_spec (v p : AVal) (hv : v.one = true) (hv' : v.cells = [v]) (hp : p.one = true) (hp' : p.cells = [p]) (h : Heap) (Q : AVal → Heap → Prop)
    (q1 : ∀ h' d m, Old h h' → m = h.next → d = h.next + 1 → h'.next = h.next + 2 → h'.get m = some (.map [] 0) → h'.get d = some (.cells .rw [v, p, .map m]) → Q (.ptr d 0) h') : cl n_fd_New [v, p] h Q := by
  apply fd_New_wp
  unfold fd_New
  simp (disch := first | omega | (simp only [Heap.next_push, Heap.next_set]; try omega; done)) [go_sem, -getElem?_pos, hv, hv', hp, hp']
  refine q1 _ _ _ (by (repeat (first | exact Old.refl _ | assumption | refine Old.push ?_ _ | refine Old.setNew ?_ _ (by first | omega | (simp only [Heap.next_push, Heap.next_set]; try omega; done))))) rfl rfl rfl ?_ ?_ <;> simp (disch := first | omega | (simp only [Heap.next_push, Heap.next_set]; try omega; done)) [go_sem, -getElem?_pos]

theorem pipe_New_spec (s : Nat) (h : Heap) (Q : AVal → Heap → Prop)
    (q1 : ∀ h' p, Old h h' → p = h.next → h'.next = h.next + 1 → h'.get p = some (.cells .rw [.ptr s 0, .nilptr, .nilptr, .nilptr, .nilptr]) → Q (.ptr p 0) h') : cl n_pipe_New [.ptr s 0] h Q := by
  apply pipe_New_wp
  unfold pipe_New
  simp (disch := first | omega | (simp only [Heap.next_push, Heap.next_set]; try omega; done)) [go_sem, -getElem?_pos]
  refine q1 _ _ (by (repeat (first | exact Old.refl _ | assumption | refine Old.push ?_ _ | refine Old.setNew ?_ _ (by first | omega | (simp only [Heap.next_push, Heap.next_set]; try omega; done))))) rfl rfl ?_
  simp (disch := first | omega | (simp only [Heap.next_push, Heap.next_set]; try omega; done)) [go_sem, -getElem?_pos]

theorem slab_New_spec (f : Nat) (h : Heap) (Q : AVal → Heap → Prop)
    (q1 : ∀ h' s m, Old h h' → m = h.next → s = h.next + 1 → h'.next = h.next + 2 → h'.get m = some (.map [] 0) → h'.get s = some (.cells .rw [.func n_frames_Frames_Take [.ptr f 0] [], .func n_frames_Frames_Give [.ptr f 0] [], .map m]) → Q (.ptr s 0) h') : cl n_slab_New [.ptr f 0] h Q := by
  apply slab_New_wp
  unfold slab_New
  simp (disch := first | omega | (simp only [Heap.next_push, Heap.next_set]; try omega; done)) [go_sem, -getElem?_pos]
  refine q1 _ _ _ (by (repeat (first | exact Old.refl _ | assumption | refine Old.push ?_ _ | refine Old.setNew ?_ _ (by first | omega | (simp only [Heap.next_push, Heap.next_set]; try omega; done))))) rfl rfl rfl ?_ ?_ <;> simp (disch := first | omega | (simp only [Heap.next_push, Heap.next_set]; try omega; done)) [go_sem, -getElem?_pos]

theorem store_New_spec (f : Nat) (h : Heap) (Q : AVal → Heap → Prop)
    (q1 : ∀ h' s m, Old h h' → m = h.next → s = h.next + 1 → h'.next = h.next + 2 → h'.get m = some (.map [] 0) → h'.get s = some (.cells .rw [.ptr f 0, .map m]) → Q (.ptr s 0) h') : cl n_store_New [.ptr f 0] h Q := by
  apply store_New_wp
  unfold store_New
  simp (disch := first | omega | (simp only [Heap.next_push, Heap.next_set]; try omega; done)) [go_sem, -getElem?_pos]
  refine q1 _ _ _ (by (repeat (first | exact Old.refl _ | assumption | refine Old.push ?_ _ | refine Old.setNew ?_ _ (by first | omega | (simp only [Heap.next_push, Heap.next_set]; try omega; done))))) rfl rfl rfl ?_ ?_ <;> simp (disch := first | omega | (simp only [Heap.next_push, Heap.next_set]; try omega; done)) [go_sem, -getElem?_pos]

theorem inode_New_spec (s : Nat) (h : Heap) (Q : AVal → Heap → Prop)
    (q1 : ∀ h' t n, Old h h' → t = h.next → n = h.next + 1 → h'.next = h.next + 2 → h'.get t = some (.cells .rw [.ptr s 0, .ptr n 0, .nilptr, .nilptr, .nilptr, .nilptr, .nilptr, .nilptr, .nilptr, .nilptr, .nilptr, .nilptr, .nilptr, .nilptr, .nilptr, .nilptr, .nilptr]) →
      h'.get n = some (.cells .rw [.bool true, .int .i64 0, .int .i64 0, .nilslice]) → Q (.ptr t 0) h') : cl n_inode_New [.ptr s 0] h Q := by
  apply inode_New_wp
  unfold inode_New
  simp (disch := first | omega | (simp only [Heap.next_push, Heap.next_set]; try omega; done)) [go_sem, -getElem?_pos]
  refine q1 _ _ _ (by (repeat (first | exact Old.refl _ | assumption | refine Old.push ?_ _ | refine Old.setNew ?_ _ (by first | omega | (simp only [Heap.next_push, Heap.next_set]; try omega; done))))) rfl rfl rfl ?_ ?_ <;> simp (disch := first | omega | (simp only [Heap.next_push, Heap.next_set]; try omega; done)) [go_sem, -getElem?_pos]
end Go.AM

open Go Go.AM
namespace Go.AM
/-! The system: frames, files, descriptors, processes: made, and begun. -/

theorem frames_New_spec (n : Nat) (hn : 1 ≤ n) (hn' : n ≤ 64) (h : Heap) (Q : AVal → Heap → Prop)
    (q1 : ∀ h' f a b, Old h h' → a = h.next → b = h.next + 1 → f = h.next + 2 → h'.next = h.next + 3 → h'.get a = some (.cells .rw (reps (List.replicate 64 (.int .u8 0)) n)) → h'.get b = some (.cells .rw (reps [.int .i64 0] n)) →
      h'.get f = some (.cells .rw [.slice a 0 n (.exact n), .slice b 0 n (.exact n), .nilslice, .int .i64 0]) → Q (.tuple [.ptr f 0, .int .i64 0]) h') : cl n_frames_New [.int .i64 n] h Q := by
  apply frames_New_wp
  unfold frames_New
  have h1 : ¬ (n : Int) < 1 := by omega
  have h2 : ¬ (64 : Int) < n := by omega
  have h3 : n * 64 ≤ 140737488355328 := by omega
  have h4 : n * 8 ≤ 140737488355328 := by omega
  simp (disch := first | omega | (simp only [Heap.next_push, Heap.next_set]; try omega; done)) [go_sem, -getElem?_pos, frames_New_g1, h1, h2, h3, h4]
  refine q1 _ _ _ _ (by (repeat (first | exact Old.refl _ | assumption | refine Old.push ?_ _ | refine Old.setNew ?_ _ (by first | omega | (simp only [Heap.next_push, Heap.next_set]; try omega; done))))) rfl rfl rfl rfl ?_ ?_ ?_ <;> simp (disch := first | omega | (simp only [Heap.next_push, Heap.next_set]; try omega; done)) [go_sem, -getElem?_pos, List.replicate]

/-- What a new system has, as far as beginning processes goes. -/
structure Sys0 (h : Heap) (s d dm p pm : Nat) (ds ps : MapM) (k : Nat) : Prop where
  gs : ∃ a b, h.get s = some (.cells .rw [a, b, .ptr d 0, .ptr p 0])
  gd : ∃ a b, h.get d = some (.cells .rw [a, b, .map dm])
  gp : h.get p = some (.cells .rw [.map pm])
  gdm : h.get dm = some (.map (encM ds) k)
  gpm : h.get pm = some (.map (encM ps) k)
  ne : s ≠ dm ∧ s ≠ pm ∧ d ≠ dm ∧ d ≠ pm ∧ p ≠ dm ∧ p ≠ pm ∧ dm ≠ pm

theorem vfs_New_spec (f : Nat) (h : Heap) (Q : AVal → Heap → Prop) (q1 : ∀ h' v, Old h h' → h.next ≤ v → (∃ a b, h'.get v = some (.cells .rw [.ptr a 0, .ptr b 0])) → Q (.ptr v 0) h') : cl n_vfs_New [.ptr f 0] h Q := by
  apply vfs_New_wp
  unfold vfs_New
  apply store_New_spec
  intro h1 s m o1 _ _ n1 _ _
  apply inode_New_spec
  intro h2 t n o2 _ _ n2 _ _
  simp (disch := first | omega | (simp only [Heap.next_push, Heap.next_set]; try omega; done)) [go_sem, -getElem?_pos]
  refine q1 _ _ ((o1.trans o2).push _) ((o1.trans o2).next) ⟨s, t, Heap.get_push_self _ _⟩

theorem unix_New_spec (n : Nat) (hn : 1 ≤ n) (hn' : n ≤ 64) (h : Heap) (Q : AVal → Heap → Prop)
    (q1 : ∀ h' s d dm p pm, Old h h' → h.next ≤ s ∧ h.next ≤ d ∧ h.next ≤ dm ∧ h.next ≤ p ∧ h.next ≤ pm → Sys0 h' s d dm p pm [] [] 0 → Q (.tuple [.ptr s 0, .int .i64 0]) h') : cl n_unix_New [.int .i64 n] h Q := by
  apply unix_New_wp
  unfold unix_New
  apply frames_New_spec n hn hn'
  intro h1 f a b o1 _ _ e1 n1 _ _ _
  simp (disch := first | omega | (simp only [Heap.next_push, Heap.next_set]; try omega; done)) [go_sem, -getElem?_pos]
  apply vfs_New_spec
  intro h2 v o2 hv _
  have n2 := o2.next
  apply slab_New_spec
  intro h3 sl m o3 _ _ n3 _ _
  apply pipe_New_spec
  intro h4 pp o4 _ n4 _
  refine fd_New_spec (.ptr v 0) (.ptr pp 0) rfl rfl rfl rfl _ _ ?_
  intro h5 d dm o5 e5 e5' n5 g5 g5'
  apply proc_New_spec
  intro h6 p pm o6 e6 e6' n6 g6 g6'
  have n4' := o4.next
  have n3' := o3.next
  simp (disch := first | omega | (simp only [Heap.next_push, Heap.next_set]; try omega; done)) [go_sem, -getElem?_pos]
  have o := ((((o1.trans o2).trans o3).trans o4).trans o5).trans o6
  refine q1 _ _ d dm p pm (o.push _) ?_ ⟨⟨.ptr f 0, .ptr v 0, Heap.get_push_self _ _⟩, ⟨.ptr v 0, .ptr pp 0, ?_⟩, ?_, ?_, ?_, ?_⟩
  · omega
  · rw [Heap.get_push_lt (by omega)]; exact o6.keeps g5'
  · rw [Heap.get_push_lt (by omega)]; exact g6'
  · rw [Heap.get_push_lt (by omega)]; exact o6.keeps g5
  · rw [Heap.get_push_lt (by omega)]; exact g6
  · omega

theorem proc_Start_spec {h : Heap} {p pm : Nat} {ps : MapM} {k : Nat} (gp : h.get p = some (.cells .rw [.map pm])) (gpm : h.get pm = some (.map (encM ps) k)) (x : Int) (hx : 0 ≤ x) (hf : ∀ e ∈ ps, e.1 ≠ x) (Q : AVal → Heap → Prop)
    (q1 : ∀ h', But [pm] h h' → h'.get pm = some (.map (encM (ps ++ [(x, .agg [.int .i64 (-1), .int .i64 0, .bool false], k)])) (k + 1)) → Q (.int .i64 0) h') : cl n_proc_Procs_Start [.ptr p 0, .int .i64 x, .int .i64 (-1)] h Q := by
  have hx' : ¬ x < 0 := by omega
  have hp := Heap.get_lt gp
  have hpm := Heap.get_lt gpm
  have hff := findI_none (es := ps) 0 hf
  apply proc_Procs_Start_wp
  unfold proc_Procs_Start
  simp (disch := first | omega | (simp only [Heap.next_push, Heap.next_set]; try omega; done)) [go_sem, -getElem?_pos, er_lookup, ew_mapUpdate, gp, gpm, findEntry_enc, hff, hx', proc_Procs_Start_g1]
  refine q1 _ (by (repeat (first | exact But.refl _ _ | assumption | refine But.push ?_ _ | refine But.setNew ?_ _ (by first | omega | (simp only [Heap.next_push, Heap.next_set]; omega)) | refine But.set ?_ _ _ (by simp)))) ?_
  simp (disch := first | omega | (simp only [Heap.next_push, Heap.next_set]; try omega; done)) [go_sem, -getElem?_pos, encM_snoc]

theorem fd_Start_spec {h : Heap} {d dm : Nat} {a b : AVal} {ds : MapM} {k : Nat} (gd : h.get d = some (.cells .rw [a, b, .map dm])) (gdm : h.get dm = some (.map (encM ds) k)) (x : Int) (hx : 0 ≤ x) (hf : ∀ e ∈ ds, e.1 ≠ x) (Q : AVal → Heap → Prop)
    (q1 : ∀ h' t, But [dm] h h' → t = h.next → h'.get t = some (.cells .rw [.nilptr, .nilptr, .nilptr, .nilptr, .nilptr, .nilptr, .nilptr, .nilptr]) → h'.get dm = some (.map (encM (ds ++ [(x, .ptr t 0, k)])) (k + 1)) → Q (.int .i64 0) h') : cl n_fd_Fds_Start [.ptr d 0, .int .i64 x] h Q := by
  have hx' : ¬ x < 0 := by omega
  have hp := Heap.get_lt gd
  have hpm := Heap.get_lt gdm
  have hff := findI_none (es := ds) 0 hf
  apply fd_Fds_Start_wp
  unfold fd_Fds_Start
  simp (disch := first | omega | (simp only [Heap.next_push, Heap.next_set]; try omega; done)) [go_sem, -getElem?_pos, er_lookup, ew_mapUpdate, gd, gdm, findEntry_enc, hff, hx']
  refine q1 _ _ (by (repeat (first | exact But.refl _ _ | assumption | refine But.push ?_ _ | refine But.setNew ?_ _ (by first | omega | (simp only [Heap.next_push, Heap.next_set]; omega)) | refine But.set ?_ _ _ (by simp)))) rfl ?_ ?_
  · simp (disch := first | omega | (simp only [Heap.next_push, Heap.next_set]; try omega; done)) [go_sem, -getElem?_pos]
  · simp (disch := first | omega | (simp only [Heap.next_push, Heap.next_set]; try omega; done)) [go_sem, -getElem?_pos, encM_snoc]

/-- A process is begun. -/
theorem unix_Start_spec {h : Heap} {s d dm p pm : Nat} {ds ps : MapM} {k : Nat} (H : Sys0 h s d dm p pm ds ps k) (x : Int) (hx : 0 ≤ x) (h1 : ∀ e ∈ ds, e.1 ≠ x) (h2 : ∀ e ∈ ps, e.1 ≠ x) (Q : AVal → Heap → Prop)
    (q1 : ∀ h' t, But [dm, pm] h h' → Sys0 h' s d dm p pm (ds ++ [(x, .ptr t 0, k)]) (ps ++ [(x, .agg [.int .i64 (-1), .int .i64 0, .bool false], k)]) (k + 1) → Q (.int .i64 0) h') : cl n_unix_System_Start [.ptr s 0, .int .i64 x] h Q := by
  obtain ⟨⟨sa, sb, gs⟩, ⟨da, db, gd⟩, gp, gdm, gpm, ne⟩ := H
  apply unix_System_Start_wp
  unfold unix_System_Start
  simp (disch := first | omega | (simp only [Heap.next_push, Heap.next_set]; try omega; done)) [go_sem, -getElem?_pos, gs]
  apply proc_Start_spec gp gpm x hx h2
  intro h' b1 g1
  have k1 : ∀ {id o}, h.get id = some o → id ≠ pm → h'.get id = some o := fun {id o} g hne => (b1.get id (Heap.get_lt g) (by simpa using hne)).trans g
  have gs' := k1 gs ne.2.1
  have gd' := k1 gd ne.2.2.2.1
  have gdm' := k1 gdm ne.2.2.2.2.2.2
  have gp' := k1 gp ne.2.2.2.2.2.1
  simp (disch := first | omega | (simp only [Heap.next_push, Heap.next_set]; try omega; done)) [go_sem, -getElem?_pos, gs']
  apply fd_Start_spec gd' gdm' x hx h1
  intro h'' t b2 e2 g2 g2'
  have k2 : ∀ {id o}, h'.get id = some o → id ≠ dm → h''.get id = some o := fun {id o} g hne => (b2.get id (Heap.get_lt g) (by simpa using hne)).trans g
  refine q1 h'' t ((b1.mono (by simp)).trans (b2.mono (by simp))) ⟨⟨_, _, k2 gs' ne.1⟩, ⟨_, _, k2 gd' ne.2.2.1⟩, k2 gp' ne.2.2.2.2.1, g2', k2 g1 (Ne.symm ne.2.2.2.2.2.2), ne⟩
end Go.AM
