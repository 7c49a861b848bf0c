import Derived.Test.YtpjdgiiphohjeaaGreatDoorAm26
import Derived.Test.YtpjdgiiphohjeaaGreatDoorWp3
import Derived.Test.YtpjdgiiphohjeaaGreatDoorQ2
import Derived.ChangeArms
import Derived.WideShapes
import Derived.Test.YtpjdgiiphohjeaaGreatDoorSeatTb
/-! What came in: each block of the world under its own number, to be read alone. -/
namespace Go.AM
open Go Go.RowKit

/-- Of which blocks something is known. -/
def mirF (w : World) : Map := fun i => match w.heap[i]? with
  | some (.cells c _ _) => some ⟨i, 0, c.size⟩
  | _ => none

/-- A value asv it came in. -/
noncomputable def conv (w : World) (v : Value) : AVal := match v with
  | .bool b => .bool b
  | .int k n => .int k n
  | .string s => .str s.data.toList
  | .pointer none => .nilptr
  | .slice none 0 0 => .nilslice
  | .slice (some a) len cap => match mirF w a.block, a.spot, Nat.ble len cap with
    | some _, none, true => .slice a.block a.off len (.exact cap)
    | _, _, _ => .raw v
  | v => .raw v

theorem conv_rel (w : World) (v : Value) : VRel (mirF w) (conv w v) v := by
  unfold conv
  split
  · exact .bool _
  · exact .int _ _
  · exact .str _
  · exact .nilptr
  · exact .nilslice
  · rename_i a len cap
    split
    · rename_i L hL hs hle
      have hb : L.block = a.block ∧ L.shift = 0 := by
        unfold mirF at hL
        split at hL <;> cases hL
        exact ⟨rfl, rfl⟩
      refine .exact _ _ _ _ L _ hL (by simpa using hle) (fun _ => ?_)
      obtain ⟨b, o, s⟩ := a
      simp only at hs hb
      subst hs
      simp [AM.Loc.at_, hb.1, hb.2]
    · exact .raw _ (fun b h => by cases h)
  · rename_i h1 h2 h3 h4 h5 h6
    exact .raw _ (fun b h => h1 b h)

noncomputable def mirTr (w : World) : Nat → Tr AObj
  | 0 => .leaf
  | n + 1 => match w.heap[n]? with
    | some (.cells c _ _) => (mirTr w n).set n (.cells .ro (c.toList.map (conv w)))
    | _ => mirTr w n
noncomputable def mir (w : World) : Heap := ⟨w.heap.size, mirTr w w.heap.size⟩

theorem mirTr_get (w : World) : ∀ (n i : Nat), (mirTr w n).get i = if i < n then (match w.heap[i]? with
    | some (.cells c _ _) => some (.cells .ro (c.toList.map (conv w)))
    | _ => none) else none := by
  intro n
  induction n with
  | zero => intro i; rw [if_neg (by omega)]; exact Tr.get_leaf i
  | succ n ih =>
    intro i
    simp only [mirTr]
    by_cases hi : i = n
    · subst hi
      rw [if_pos (by omega)]
      split
      · rename_i c _ _ hc
        rw [Tr.get_set, if_pos rfl]
      · rename_i hc
        rw [ih, if_neg (by omega)]
    · have : (match w.heap[n]? with
        | some (.cells c _ _) => (mirTr w n).set n (.cells .ro (c.toList.map (conv w)))
        | _ => mirTr w n).get i = (mirTr w n).get i := by
        split
        · rw [Tr.get_set, if_neg hi]
        · rfl
      rw [this, ih]
      by_cases h1 : i < n
      · rw [if_pos h1, if_pos (by omega)]
      · rw [if_neg h1, if_neg (by omega)]

theorem mir_get (w : World) (i : Nat) : (mir w).get i = match w.heap[i]? with
    | some (.cells c _ _) => some (.cells .ro (c.toList.map (conv w)))
    | _ => none := by
  rw [Heap.get_eq]
  show (if i < w.heap.size then (mirTr w w.heap.size).get i else none) = _
  by_cases h : i < w.heap.size
  · rw [if_pos h, mirTr_get, if_pos h]
  · rw [if_neg h, Array.getElem?_eq_none (by omega)]

theorem mir_rel (w : World) : HRel (mirF w) (mir w) w := by
  have key : ∀ i L, mirF w i = some L → ∃ c e f, w.heap[i]? = some (.cells c e f) ∧ L = ⟨i, 0, c.size⟩ := by
    intro i L h
    unfold mirF at h
    split at h
    · rename_i c e f hc
      cases h
      exact ⟨c, e, f, hc, rfl⟩
    · cases h
  refine ⟨?_, ?_, ?_⟩
  · intro i L h
    obtain ⟨c, e, f, hc, rfl⟩ := key i L h
    have := (Array.getElem?_eq_some_iff.1 hc).1
    exact ⟨this, this⟩
  · intro i L o h g
    obtain ⟨c, e, f, hc, rfl⟩ := key i L h
    rw [mir_get, hc] at g
    cases g
    refine ⟨c, e, f, hc, rfl, by simp, trivial, fun j a ha => ?_⟩
    rw [List.getElem?_map] at ha
    cases hv : c.toList[j]? with
    | none => rw [hv] at ha; cases ha
    | some v =>
      rw [hv] at ha
      cases ha
      exact ⟨v, by simpa using hv, conv_rel w v⟩
  · intro i j L M o p hi hj _ _ _ _ hb
    obtain ⟨c, e, f, _, rfl⟩ := key i L hi
    obtain ⟨c', e', f', _, rfl⟩ := key j M hj
    exact hb

/-- Nothing that came in is written. -/
theorem mir_writes (w : World) (b : Nat) : ¬ Writes (mirF w) (mir w) b := by
  rintro ⟨i, L, o, _, _, g, ho⟩
  rw [mir_get] at g
  split at g <;> cases g
  cases ho

theorem below_of_mir {w w' : World} {φ' : Map} {h' : Heap} (x : Ext (mirF w) (mir w) w φ' h' w') : Below w.heap.size w w' where
  os := x.os
  tape := x.tape
  output := x.output
  size := x.size
  block k hk := x.frame k hk (mir_writes w k)

/-- A call of a function that the table has. -/
theorem opened {P : Program} {tb : Types} (T : TbOk P tb) {fs : Tr AFunc} (F : FsOk P tb fs) {own : OwnT} (O : OwnSound P own) (hm : P.follows .mixedOrders = true)
    {n : Nat} {f : FuncId} {args : List AVal} {h h' : Heap} {a : AVal} (he : (run fs own n).call f args h = some (a, h')) (hk : own f = none) {φ : Map} {w : World} {args' : Array Value} (R : HRel φ h w) (V : VRels φ args args'.toList) :
    Calls P f args' w (CallOk φ h w a h') := by
  cases n with
  | zero => cases he
  | succ n =>
    have S := run_sound T F O hm n
    have he' : callS fs own (run fs own n) f args h = some (a, h') := he
    rcases callS_sound T F O hm S.1 S.2 f args h a h' he' φ w args' R V with ⟨_, hc⟩ | ⟨v, w', φ', c1, _⟩
    · exact hc
    · exfalso
      unfold callS at he'
      rw [hk] at he'
      simp only [] at he'
      split at he'
      · cases he'
      · rename_i af haf
        obtain ⟨fn, h1, h2, h3⟩ := F f af haf
        have hb : fn.body.isNone = false := by
          unfold compFunc at h2
          split at h2
          · cases h2
          · rename_i c hc; rw [hc]; rfl
        rw [run_callFunc ⟨fn, h1, h3, hb⟩] at c1
        cases c1

theorem conv_rels (w : World) : ∀ args : List Value, VRels (mirF w) (args.map (conv w)) args
  | [] => .nil
  | a :: asv => .cons _ _ _ _ (conv_rel w a) (conv_rels w asv)

/-- A call that the small machine answers true, from what came in. -/
theorem open_true {P : Program} {tb : Types} (T : TbOk P tb) {fs : Tr AFunc} (F : FsOk P tb fs) {own : OwnT} (O : OwnSound P own) (hm : P.follows .mixedOrders = true) {f : FuncId} (hk : own f = none) (w : World) (asv : List AVal) (args : Array Value)
    (V : VRels (mirF w) asv args.toList) (hw : WC fs own f asv (mir w) fun v _ => v = .bool true) : Calls P f args w fun e w' => e = .returned (.bool true) ∧ Below w.heap.size w w' := by
  obtain ⟨n, v, h', he, rfl⟩ := hw
  refine (opened T F O hm he hk (mir_rel w) V).mono fun e w' hok => ?_
  obtain ⟨v, φ', rfl, _, x, hv⟩ := hok
  cases hv
  exact ⟨rfl, below_of_mir x⟩
end Go.AM

/-! What came in, read: rows. (As Mir, but an empty slice lies in a block that is chosen.) -/
namespace Go.AM
open Go Go.RowKit

noncomputable def convE (w : World) (e : Nat) (v : Value) : AVal := match v with
  | .slice (some a) 0 0 => .slice e 0 0 (.exact 0)
  | v => conv w v

theorem convE_rel {w : World} {e : Nat} {L : Loc} (he : mirF w e = some L) (v : Value) : VRel (mirF w) (convE w e v) v := by
  unfold convE
  split
  · exact .exact e 0 0 0 L _ he (Nat.le_refl _) (fun h => absurd rfl h)
  · exact conv_rel w _

noncomputable def mirTrE (w : World) (e : Nat) : Nat → Tr AObj
  | 0 => .leaf
  | n + 1 => match w.heap[n]? with
    | some (.cells c _ _) => (mirTrE w e n).set n (.cells .ro (c.toList.map (convE w e)))
    | _ => mirTrE w e n
noncomputable def mirE (w : World) (e : Nat) : Heap := ⟨w.heap.size, mirTrE w e w.heap.size⟩

theorem mirTrE_get (w : World) (e : Nat) : ∀ (n i : Nat), (mirTrE w e n).get i = if i < n then (match w.heap[i]? with
    | some (.cells c _ _) => some (.cells .ro (c.toList.map (convE w e)))
    | _ => none) else none := by
  intro n
  induction n with
  | zero => intro i; rw [if_neg (by omega)]; exact Tr.get_leaf i
  | succ n ih =>
    intro i
    simp only [mirTrE]
    by_cases hi : i = n
    · subst hi
      rw [if_pos (by omega)]
      split
      · rename_i c _ _ hc
        rw [Tr.get_set, if_pos rfl]
      · rename_i hc
        rw [ih, if_neg (by omega)]
    · have : (match w.heap[n]? with
        | some (.cells c _ _) => (mirTrE w e n).set n (.cells .ro (c.toList.map (convE w e)))
        | _ => mirTrE w e n).get i = (mirTrE w e n).get i := by
        split
        · rw [Tr.get_set, if_neg hi]
        · rfl
      rw [this, ih]
      by_cases h1 : i < n
      · rw [if_pos h1, if_pos (by omega)]
      · rw [if_neg h1, if_neg (by omega)]

theorem mirE_get (w : World) (e : Nat) (i : Nat) : (mirE w e).get i = match w.heap[i]? with
    | some (.cells c _ _) => some (.cells .ro (c.toList.map (convE w e)))
    | _ => none := by
  rw [Heap.get_eq]
  show (if i < w.heap.size then (mirTrE w e w.heap.size).get i else none) = _
  by_cases h : i < w.heap.size
  · rw [if_pos h, mirTrE_get, if_pos h]
  · rw [if_neg h, Array.getElem?_eq_none (by omega)]

theorem mirE_rel {w : World} {e : Nat} {L0 : Loc} (he : mirF w e = some L0) : HRel (mirF w) (mirE w e) w := by
  have key : ∀ i L, mirF w i = some L → ∃ c e f, w.heap[i]? = some (.cells c e f) ∧ L = ⟨i, 0, c.size⟩ := by
    intro i L h
    unfold mirF at h
    split at h
    · rename_i c e f hc
      cases h
      exact ⟨c, e, f, hc, rfl⟩
    · cases h
  refine ⟨?_, ?_, ?_⟩
  · intro i L h
    obtain ⟨c, e, f, hc, rfl⟩ := key i L h
    have := (Array.getElem?_eq_some_iff.1 hc).1
    exact ⟨this, this⟩
  · intro i L o h g
    obtain ⟨c, e, f, hc, rfl⟩ := key i L h
    rw [mirE_get, hc] at g
    cases g
    refine ⟨c, _, f, hc, rfl, by simp, trivial, fun j a ha => ?_⟩
    rw [List.getElem?_map] at ha
    cases hv : c.toList[j]? with
    | none => rw [hv] at ha; cases ha
    | some v =>
      rw [hv] at ha
      cases ha
      exact ⟨v, by simpa using hv, convE_rel he v⟩
  · intro i j L M o p hi hj _ _ _ _ hb
    obtain ⟨c, e, f, _, rfl⟩ := key i L hi
    obtain ⟨c', e', f', _, rfl⟩ := key j M hj
    exact hb

theorem mirE_writes (w : World) (e b : Nat) : ¬ Writes (mirF w) (mirE w e) b := by
  rintro ⟨i, L, o, _, _, g, ho⟩
  rw [mirE_get] at g
  split at g <;> cases g
  cases ho
theorem below_of_mirE {w w' : World} {e : Nat} {φ' : Map} {h' : Heap} (x : Ext (mirF w) (mirE w e) w φ' h' w') : Below w.heap.size w w' where
  os := x.os
  tape := x.tape
  output := x.output
  size := x.size
  block k hk := x.frame k hk (mirE_writes w e k)
theorem open_trueE {P : Program} {tb : Types} (T : TbOk P tb) {fs : Tr AFunc} (F : FsOk P tb fs) {own : OwnT} (O : OwnSound P own) (hm : P.follows .mixedOrders = true) {f : FuncId} (hk : own f = none) {w : World} {e : Nat} {L0 : Loc} (he0 : mirF w e = some L0) (asv : List AVal) (args : Array Value)
    (V : VRels (mirF w) asv args.toList) (hw : WC fs own f asv (mirE w e) fun v _ => v = .bool true) : Calls P f args w fun e w' => e = .returned (.bool true) ∧ Below w.heap.size w w' := by
  obtain ⟨n, v, h', he, rfl⟩ := hw
  refine (opened T F O hm he hk (mirE_rel he0) V).mono fun e w' hok => ?_
  obtain ⟨v, φ', rfl, _, x, hv⟩ := hok
  cases hv
  exact ⟨rfl, below_of_mirE x⟩

theorem list_choose {α : Type} {p : Nat → α → Prop} : ∀ n, (∀ i, i < n → ∃ r, p i r) → ∃ xs : List α, xs.length = n ∧ ∀ i (h : i < xs.length), p i xs[i] := by
  intro n
  induction n with
  | zero => intro _; exact ⟨[], rfl, fun i h => absurd h (by simp)⟩
  | succ n ih =>
    intro h
    obtain ⟨xs, hl, hx⟩ := ih fun i hi => h i (by omega)
    obtain ⟨r, hr⟩ := h n (by omega)
    refine ⟨xs ++ [r], by simp [hl], fun i hi => ?_⟩
    by_cases hin : i < xs.length
    · rw [List.getElem_append_left hin]; exact hx i hin
    · have : i = xs.length := by simp at hi; omega
      subst this
      rw [List.getElem_append_right (by omega)]
      simp only [Nat.sub_self, List.getElem_cons_zero]
      rw [hl]; exact hr
theorem flat_of_rows {α : Type} {enc : α → List AVal} {m : Nat} {l : List AVal} : ∀ (xs : List α) (off : Nat), (∀ i (h : i < xs.length), enc xs[i] = (l.drop (off + i * m)).take m) → off + xs.length * m ≤ l.length → xs.flatMap enc = (l.drop off).take (xs.length * m) := by
  intro xs
  induction xs with
  | nil => intro off _ _; simp
  | cons x xs ih =>
    intro off h hl
    rw [List.length_cons, Nat.succ_mul] at hl
    have h0 := h 0 (by simp)
    simp only [List.getElem_cons_zero, Nat.zero_mul, Nat.add_zero] at h0
    have hr := ih (off + m) (fun i hi => by
      have := h (i + 1) (by simp; omega)
      simp only [List.getElem_cons_succ] at this
      rw [this, Nat.succ_mul]
      congr 2; omega) (by omega)
    rw [List.flatMap_cons, hr, h0, List.length_cons, Nat.succ_mul, Nat.add_comm (xs.length * m) m, List.take_add, List.drop_drop]

theorem cells_at {w : World} {a : Addr} {m k : Nat} {cs : List Value} {c : Array Value} {t : TypeId} {f : Nat × Nat} (hc : w.heap[a.block]? = some (.cells c t f)) (hs : a.spot = none) (hm : 0 < m) (h : w.cells? 0 (a.add k) m = some cs) :
    cs.length = m ∧ cs = (c.toList.drop (a.off + k)).take m ∧ a.off + k + m ≤ c.size := by
  obtain ⟨_, hl, hx⟩ := World.cells?_some h
  have key : ∀ j, j < m → c[a.off + k + j]? = cs[j]? := by
    intro j hj
    rw [← hx j hj]
    obtain ⟨b, off, sp⟩ := a
    simp only at hs hc ⊢
    subst hs
    unfold World.cell?
    have e1 : ((⟨b, off, none⟩ : Addr).add k).add j = ⟨b, off + k + j, none⟩ := by
      unfold Addr.add
      by_cases h1 : k = 0
      · subst h1; by_cases h2 : j = 0 <;> simp [h2]
      · by_cases h2 : j = 0 <;> simp [h1, h2]
    rw [e1, hc]; rfl
  have hlast : a.off + k + m ≤ c.size := by
    have := key (m - 1) (by omega)
    have h2 : cs[m - 1]? = some cs[m - 1] := List.getElem?_eq_getElem (by omega)
    rw [h2] at this
    have := (Array.getElem?_eq_some_iff.1 this).1
    omega
  refine ⟨hl, ?_, hlast⟩
  apply List.ext_getElem?
  intro j
  by_cases hj : j < m
  · rw [List.getElem?_take, if_pos hj, List.getElem?_drop, ← key j hj]; simp
  · rw [List.getElem?_eq_none (by omega), List.getElem?_take, if_neg hj]

variable {H : Type} {encH : TypeId × Value → H} {P : Program} {w : World}

theorem row_trod {α : Type} {enc : α → List AVal} {ok : α → Prop} {E m fuel : Nat} {t e : TypeId} {cs : List Value} {x : DataW H × List MemPlace} (hm : P.cellsOf e = m) (hm0 : 0 < m) (ht : P.underlying t = some (.slice e))
    (hE : ∃ c t f, w.heap[E]? = some (.cells c t f))
    (hel : ∀ fuel cs x, DataW.trod encH P w 0 (fun _ => true) true fuel e cs = some x → ∃ r : α, enc r = cs.map (convE w E) ∧ ok r)
    (h : DataW.trod encH P w 0 (fun _ => true) true fuel t cs = some x) :
    ∃ (v : Value) (xs : List α), cs = [v] ∧ Row (mirE w E) m (convE w E v) xs.length (xs.flatMap enc) ∧ (∀ r ∈ xs, ok r) ∧ CapOk (convE w E v) m := by
  rcases DataW.trod_slice ht h with ⟨rfl, _⟩ | ⟨a, len, cap, elems, rest, n, _, rfl, _, _, hle, _, hlen, hx, hr, _⟩
  · exact ⟨_, [], rfl, .inl ⟨rfl, rfl, rfl⟩, by simp, fun _ _ _ _ e => by cases e⟩
  by_cases hc0 : cap = 0
  · subst hc0
    have : len = 0 := by omega
    subst this
    obtain ⟨c, t', f, hc⟩ := hE
    refine ⟨_, [], rfl, .inr ⟨E, 0, .exact 0, .ro, c.toList.map (convE w E), rfl, ?_, by simp, by simp⟩, by simp, fun i o n c e => ?_⟩
    · rw [mirE_get, hc]
    · cases e; exact ⟨fun k e => by cases e; omega, fun k e => by cases e⟩
  have hall : ∀ i, i < cap → ∃ ci y, w.cells? 0 (a.add (i * m)) m = some ci ∧ DataW.trod encH P w 0 (fun _ => true) true n e ci = some y := by
    intro i hi
    rw [hm] at hx hr
    by_cases hil : i < len
    · have h1 := hx i hil
      rw [List.getElem?_eq_getElem (by omega)] at h1
      obtain ⟨ci, h2, h3⟩ := Option.bind_eq_some_iff.1 h1
      exact ⟨ci, _, h2, h3⟩
    · obtain ⟨hrl, hr'⟩ := hr rfl
      have h1 := hr' (i - len) (by omega)
      rw [List.getElem?_eq_getElem (by omega)] at h1
      have e1 : len + (i - len) = i := by omega
      rw [e1] at h1
      obtain ⟨ci, h2, h3⟩ := Option.bind_eq_some_iff.1 h1
      exact ⟨ci, _, h2, h3⟩
  obtain ⟨c0, _, h0, _⟩ := hall 0 (by omega)
  have hblk : a.spot = none ∧ ∃ c t f, w.heap[a.block]? = some (.cells c t f) := by
    obtain ⟨_, hl, hx0⟩ := World.cells?_some h0
    have h1 := hx0 0 hm0
    rw [List.getElem?_eq_getElem (by omega)] at h1
    have e1 : (a.add (0 * m)).add 0 = a := by simp [Addr.add]
    rw [e1] at h1
    unfold World.cell? at h1
    split at h1
    · rename_i c t f hc
      split at h1
      · cases h1
      · rename_i hs
        exact ⟨by simpa using hs, c, t, f, hc⟩
    · cases h1
  obtain ⟨hs, c, t', f, hc⟩ := hblk
  have hconv : convE w E (.slice (some a) len cap) = .slice a.block a.off len (.exact cap) := by
    have hF : mirF w a.block = some ⟨a.block, 0, c.size⟩ := by unfold mirF; rw [hc]
    have hb : Nat.ble len cap = true := by simpa using hle
    unfold convE
    split
    · rename_i a' e; cases e; exact absurd rfl hc0
    · unfold conv
      simp only [hF, hs, hb]
  obtain ⟨xs, hxl, hxs⟩ := list_choose (p := fun i r => enc r = ((c.toList.map (convE w E)).drop (a.off + i * m)).take m ∧ ok r) len (by
    intro i hi
    obtain ⟨ci, y, h1, h2⟩ := hall i (by omega)
    obtain ⟨r, hr1, hr2⟩ := hel _ _ _ h2
    obtain ⟨_, h3, _⟩ := cells_at hc hs hm0 h1
    refine ⟨r, ?_, hr2⟩
    rw [hr1, h3, List.map_take, List.map_drop])
  have hbound : a.off + cap * m ≤ c.size := by
    obtain ⟨ci, y, h1, _⟩ := hall (cap - 1) (by omega)
    obtain ⟨_, _, h3⟩ := cells_at hc hs hm0 h1
    have : cap * m = (cap - 1) * m + m := by
      obtain ⟨k, rfl⟩ : ∃ k, cap = k + 1 := ⟨cap - 1, by omega⟩
      simp [Nat.succ_mul]
    omega
  have hlm : len * m ≤ cap * m := Nat.mul_le_mul_right _ hle
  refine ⟨_, xs, rfl, .inr ⟨a.block, a.off, .exact cap, .ro, c.toList.map (convE w E), ?_, ?_, ?_, ?_⟩, ?_, ?_⟩
  · rw [hconv, hxl]
  · rw [mirE_get, hc]
  · rw [hxl]; simp; omega
  · exact flat_of_rows xs a.off (fun i hi => (hxs i hi).1) (by rw [hxl]; simp; omega)
  · intro r hr
    obtain ⟨i, hi, rfl⟩ := List.mem_iff_getElem.1 hr
    exact (hxs i hi).2
  · rw [hconv]
    intro i o n' c' e
    cases e
    exact ⟨fun k e => by cases e; exact hle, fun k e => by cases e⟩
end Go.AM

/-! What came in, read: configurations. -/
namespace Go.AM
open Go Go.Proofs Go.RowKit
variable {H : Type} {encH : TypeId × Value → H} {w : World}
noncomputable abbrev trodT (encH : TypeId × Value → H) (w : World) := DataW.trod encH Tryz.prog w 0 (fun _ => true) true

theorem sz3 : Tryz.prog.cellsOf 3 = 1 := by kernel_rfl
theorem sz9 : Tryz.prog.cellsOf 9 = 1 := by kernel_rfl
theorem sz22 : Tryz.prog.cellsOf 22 = 1 := by kernel_rfl
theorem sz24 : Tryz.prog.cellsOf 24 = 1 := by kernel_rfl
theorem sz36 : Tryz.prog.cellsOf 36 = 1 := by kernel_rfl
theorem sz37 : Tryz.prog.cellsOf 37 = 1 := by kernel_rfl
theorem sz38 : Tryz.prog.cellsOf 38 = 1 := by kernel_rfl
theorem sz27 : Tryz.prog.cellsOf 27 = 5 := by kernel_rfl
theorem sz29 : Tryz.prog.cellsOf 29 = 9 := by kernel_rfl
theorem sz35 : Tryz.prog.cellsOf 35 = 2 := by kernel_rfl
theorem sz40 : Tryz.prog.cellsOf 40 = 6 := by kernel_rfl
theorem sz49 : Tryz.prog.cellsOf 49 = 2 := by kernel_rfl
theorem sz103 : Tryz.prog.cellsOf 103 = 8 := by kernel_rfl

theorem len_succ {α : Type} {l : List α} {n : Nat} (h : l.length = n + 1) : ∃ a r, l = a :: r ∧ r.length = n := by
  cases l with
  | nil => cases h
  | cons a r => exact ⟨a, r, rfl, by simpa using h⟩
theorem len2 {α : Type} {l : List α} (h : l.length = 2) : ∃ a0 a1, l = [a0, a1] := by
  obtain ⟨a0, r0, e0, h0⟩ := len_succ h
  obtain ⟨a1, r1, e1, h1⟩ := len_succ h0
  have := List.eq_nil_of_length_eq_zero h1
  subst this
  exact ⟨a0, a1, by rw [e0, e1]⟩
theorem len5 {α : Type} {l : List α} (h : l.length = 5) : ∃ a0 a1 a2 a3 a4, l = [a0, a1, a2, a3, a4] := by
  obtain ⟨a0, r0, e0, h0⟩ := len_succ h
  obtain ⟨a1, r1, e1, h1⟩ := len_succ h0
  obtain ⟨a2, r2, e2, h2⟩ := len_succ h1
  obtain ⟨a3, r3, e3, h3⟩ := len_succ h2
  obtain ⟨a4, r4, e4, h4⟩ := len_succ h3
  have := List.eq_nil_of_length_eq_zero h4
  subst this
  exact ⟨a0, a1, a2, a3, a4, by rw [e0, e1, e2, e3, e4]⟩
theorem len6 {α : Type} {l : List α} (h : l.length = 6) : ∃ a0 a1 a2 a3 a4 a5, l = [a0, a1, a2, a3, a4, a5] := by
  obtain ⟨a0, r0, e0, h0⟩ := len_succ h
  obtain ⟨a1, r1, e1, h1⟩ := len_succ h0
  obtain ⟨a2, r2, e2, h2⟩ := len_succ h1
  obtain ⟨a3, r3, e3, h3⟩ := len_succ h2
  obtain ⟨a4, r4, e4, h4⟩ := len_succ h3
  obtain ⟨a5, r5, e5, h5⟩ := len_succ h4
  have := List.eq_nil_of_length_eq_zero h5
  subst this
  exact ⟨a0, a1, a2, a3, a4, a5, by rw [e0, e1, e2, e3, e4, e5]⟩
theorem len8 {α : Type} {l : List α} (h : l.length = 8) : ∃ a0 a1 a2 a3 a4 a5 a6 a7, l = [a0, a1, a2, a3, a4, a5, a6, a7] := by
  obtain ⟨a0, r0, e0, h0⟩ := len_succ h
  obtain ⟨a1, r1, e1, h1⟩ := len_succ h0
  obtain ⟨a2, r2, e2, h2⟩ := len_succ h1
  obtain ⟨a3, r3, e3, h3⟩ := len_succ h2
  obtain ⟨a4, r4, e4, h4⟩ := len_succ h3
  obtain ⟨a5, r5, e5, h5⟩ := len_succ h4
  obtain ⟨a6, r6, e6, h6⟩ := len_succ h5
  obtain ⟨a7, r7, e7, h7⟩ := len_succ h6
  have := List.eq_nil_of_length_eq_zero h7
  subst this
  exact ⟨a0, a1, a2, a3, a4, a5, a6, a7, by rw [e0, e1, e2, e3, e4, e5, e6, e7]⟩
theorem len9 {α : Type} {l : List α} (h : l.length = 9) : ∃ a0 a1 a2 a3 a4 a5 a6 a7 a8, l = [a0, a1, a2, a3, a4, a5, a6, a7, a8] := by
  obtain ⟨a0, r0, e0, h0⟩ := len_succ h
  obtain ⟨a1, r1, e1, h1⟩ := len_succ h0
  obtain ⟨a2, r2, e2, h2⟩ := len_succ h1
  obtain ⟨a3, r3, e3, h3⟩ := len_succ h2
  obtain ⟨a4, r4, e4, h4⟩ := len_succ h3
  obtain ⟨a5, r5, e5, h5⟩ := len_succ h4
  obtain ⟨a6, r6, e6, h6⟩ := len_succ h5
  obtain ⟨a7, r7, e7, h7⟩ := len_succ h6
  obtain ⟨a8, r8, e8, h8⟩ := len_succ h7
  have := List.eq_nil_of_length_eq_zero h8
  subst this
  exact ⟨a0, a1, a2, a3, a4, a5, a6, a7, a8, by rw [e0, e1, e2, e3, e4, e5, e6, e7, e8]⟩
theorem fld {fs : Array Field} {cs : List Value} {n : Nat} {xs : List (DataW H × List MemPlace)} (hf : ∀ (i : Nat) (f : Field), fs[i]? = some f → trodT encH w n f.type ((cs.drop f.offset).take (Tryz.prog.cellsOf f.type)) = xs[i]?)
    (hl : xs.length = fs.size) (i t off k : Nat) (hk : Tryz.prog.cellsOf t = k) {f : Field} (e : fs[i]? = some f) (ht : f.type = t) (ho : f.offset = off) : ∃ y, trodT encH w n t ((cs.drop off).take k) = some y := by
  have hi : i < xs.length := by rw [hl]; exact (Array.getElem?_eq_some_iff.1 e).1
  exact ⟨xs[i], by rw [← hk, ← ht, ← ho, hf i f e, List.getElem?_eq_getElem hi]⟩

theorem int_in {n : Nat} {cs : List Value} {y : DataW H × List MemPlace} (h : trodT encH w n 3 cs = some y) : ∃ k, cs = [.int .i64 k] := by
  obtain ⟨k, e, _⟩ := DataW.trod_int Tryz.underlying3 h
  exact ⟨k, e⟩
theorem str_in {n : Nat} {cs : List Value} {y : DataW H × List MemPlace} (h : trodT encH w n 9 cs = some y) : ∃ s, cs = [.string s] := by
  obtain ⟨k, e, _⟩ := DataW.trod_string Tryz.underlying9 h
  exact ⟨k, e⟩
theorem convE_int (w : World) (E : Nat) (k : IntKind) (n : Int) : convE w E (.int k n) = .int k n := rfl
theorem convE_str (w : World) (E : Nat) (s : ByteArray) : convE w E (.string s) = .str s.data.toList := rfl

theorem call_in {n E : Nat} {cs : List Value} {y : DataW H × List MemPlace} (h : trodT encH w n 27 cs = some y) : ∃ c : CallM, c.enc = cs.map (convE w E) := by
  obtain ⟨xs, m, _, _, hl, hxl, hf⟩ := DataW.trod_struct Tryz.underlying27 h
  rw [sz27] at hl
  obtain ⟨a0, a1, a2, a3, a4, rfl⟩ := len5 hl
  obtain ⟨y0, h0⟩ := fld hf hxl 0 3 0 1 sz3 rfl rfl rfl
  obtain ⟨y1, h1⟩ := fld hf hxl 1 3 1 1 sz3 rfl rfl rfl
  obtain ⟨y2, h2⟩ := fld hf hxl 2 3 2 1 sz3 rfl rfl rfl
  obtain ⟨y3, h3⟩ := fld hf hxl 3 9 3 1 sz9 rfl rfl rfl
  obtain ⟨y4, h4⟩ := fld hf hxl 4 9 4 1 sz9 rfl rfl rfl
  simp only [List.drop_succ_cons, List.drop_zero, List.take_succ_cons, List.take_zero] at h0 h1 h2 h3 h4
  obtain ⟨k0, e0⟩ := int_in h0
  obtain ⟨k1, e1⟩ := int_in h1
  obtain ⟨k2, e2⟩ := int_in h2
  obtain ⟨k3, e3⟩ := str_in h3
  obtain ⟨k4, e4⟩ := str_in h4
  cases e0; cases e1; cases e2; cases e3; cases e4
  exact ⟨⟨k0, k1, k2, k3.data.toList, k4.data.toList⟩, rfl⟩

theorem op_in {n E : Nat} {cs : List Value} {y : DataW H × List MemPlace} (h : trodT encH w n 29 cs = some y) : ∃ c : OpM, c.enc = cs.map (convE w E) ∧ True := by
  obtain ⟨xs, m, _, _, hl, hxl, hf⟩ := DataW.trod_struct Tryz.underlying29 h
  rw [sz29] at hl
  obtain ⟨a0, a1, a2, a3, b0, b1, b2, b3, b4, rfl⟩ := len9 hl
  obtain ⟨y0, h0⟩ := fld hf hxl 0 3 0 1 sz3 rfl rfl rfl
  obtain ⟨y1, h1⟩ := fld hf hxl 1 3 1 1 sz3 rfl rfl rfl
  obtain ⟨y2, h2⟩ := fld hf hxl 2 3 2 1 sz3 rfl rfl rfl
  obtain ⟨y3, h3⟩ := fld hf hxl 3 3 3 1 sz3 rfl rfl rfl
  obtain ⟨y4, h4⟩ := fld hf hxl 4 27 4 5 sz27 rfl rfl rfl
  simp only [List.drop_succ_cons, List.drop_zero, List.take_succ_cons, List.take_zero] at h0 h1 h2 h3 h4
  obtain ⟨k0, e0⟩ := int_in h0
  obtain ⟨k1, e1⟩ := int_in h1
  obtain ⟨k2, e2⟩ := int_in h2
  obtain ⟨k3, e3⟩ := int_in h3
  obtain ⟨c, e4⟩ := call_in (E := E) h4
  cases e0; cases e1; cases e2; cases e3
  refine ⟨⟨k0, k1, k2, k3, c⟩, ?_, trivial⟩
  simp only [CallM.enc, List.map_cons, List.map_nil, List.cons.injEq, and_true] at e4
  obtain ⟨f0, f1, f2, f3, f4⟩ := e4
  simp only [OpM.enc, List.map_cons, List.map_nil, convE_int, ← f0, ← f1, ← f2, ← f3, ← f4]

theorem ops_in {n E : Nat} (hE : ∃ c t f, w.heap[E]? = some (.cells c t f)) {cs : List Value} {y : DataW H × List MemPlace} (h : trodT encH w n 24 cs = some y) :
    ∃ (v : Value) (xs : List OpM), cs = [v] ∧ Row (mirE w E) 9 (convE w E v) xs.length (xs.flatMap OpM.enc) ∧ CapOk (convE w E v) 9 := by
  obtain ⟨v, xs, e, r, _, c⟩ := row_trod (ok := fun _ => True) sz29 (by omega) Tryz.underlying24 hE (fun f cs x hx => op_in hx) h
  exact ⟨v, xs, e, r, c⟩
theorem ints_flat : ∀ xs : List Int, xs.flatMap (fun k => [AVal.int .i64 k]) = xs.map (.int .i64 ·)
  | [] => rfl
  | x :: xs => by rw [List.flatMap_cons, ints_flat xs]; rfl
theorem ints_in {n E : Nat} (hE : ∃ c t f, w.heap[E]? = some (.cells c t f)) {cs : List Value} {y : DataW H × List MemPlace} (h : trodT encH w n 22 cs = some y) :
    ∃ (v : Value) (xs : List Int), cs = [v] ∧ Row (mirE w E) 1 (convE w E v) xs.length (xs.map (.int .i64 ·)) := by
  obtain ⟨v, xs, e, r, _, c⟩ := row_trod (α := Int) (enc := fun k => [.int .i64 k]) (ok := fun _ => True) sz3 (by omega) Tryz.underlying22 hE (fun f cs x hx => by
    obtain ⟨k, e⟩ := int_in hx
    subst e
    exact ⟨k, rfl, trivial⟩) h
  refine ⟨v, xs, e, ?_⟩
  have : xs.flatMap (fun k => [AVal.int .i64 k]) = xs.map (.int .i64 ·) := ints_flat xs
  rw [← this]; exact r
theorem mutexes_in {n E : Nat} (hE : ∃ c t f, w.heap[E]? = some (.cells c t f)) {cs : List Value} {y : DataW H × List MemPlace} (h : trodT encH w n 38 cs = some y) :
    ∃ (v : Value) (xs : List MutexM), cs = [v] ∧ Row (mirE w E) 2 (convE w E v) xs.length (xs.flatMap MutexM.enc) := by
  obtain ⟨v, xs, e, r, _, c⟩ := row_trod (α := MutexM) (enc := MutexM.enc) (ok := fun _ => True) sz49 (by omega) Tryz.underlying38 hE (fun f cs x hx => by
    obtain ⟨xs, m, _, _, hl, hxl, hf⟩ := DataW.trod_struct Tryz.underlying49 hx
    rw [sz49] at hl
    obtain ⟨a0, a1, rfl⟩ := len2 hl
    obtain ⟨y0, h0⟩ := fld hf hxl 0 3 0 1 sz3 rfl rfl rfl
    obtain ⟨y1, h1⟩ := fld hf hxl 1 3 1 1 sz3 rfl rfl rfl
    simp only [List.drop_succ_cons, List.drop_zero, List.take_succ_cons, List.take_zero] at h0 h1
    obtain ⟨k0, e0⟩ := int_in h0
    obtain ⟨k1, e1⟩ := int_in h1
    cases e0; cases e1
    exact ⟨⟨k0, k1⟩, rfl, trivial⟩) h
  exact ⟨v, xs, e, r⟩
theorem best_in {n E : Nat} (hE : ∃ c t f, w.heap[E]? = some (.cells c t f)) {cs : List Value} {y : DataW H × List MemPlace} (h : trodT encH w n 36 cs = some y) :
    ∃ (v : Value) (xs : List EffR), cs = [v] ∧ Row (mirE w E) 2 (convE w E v) xs.length (xs.flatMap EffR.enc) ∧ ∀ r ∈ xs, r.ok (mirE w E) := by
  obtain ⟨v, xs, e, r, k, c⟩ := row_trod (α := EffR) (enc := EffR.enc) (ok := EffR.ok (mirE w E)) sz35 (by omega) Tryz.underlying36 hE (fun f cs x hx => by
    obtain ⟨xs, m, _, _, hl, hxl, hf⟩ := DataW.trod_struct Tryz.underlying35 hx
    rw [sz35] at hl
    obtain ⟨a0, a1, rfl⟩ := len2 hl
    obtain ⟨y0, h0⟩ := fld hf hxl 0 3 0 1 sz3 rfl rfl rfl
    obtain ⟨y1, h1⟩ := fld hf hxl 1 24 1 1 sz24 rfl rfl rfl
    simp only [List.drop_succ_cons, List.drop_zero, List.take_succ_cons, List.take_zero] at h0 h1
    obtain ⟨k0, e0⟩ := int_in h0
    obtain ⟨v1, l1, e1, r1, c1⟩ := ops_in hE h1
    cases e0; cases e1
    exact ⟨⟨k0, _, l1⟩, rfl, r1, c1⟩) h
  exact ⟨v, xs, e, r, k⟩
theorem tasks_in {n E : Nat} (hE : ∃ c t f, w.heap[E]? = some (.cells c t f)) {cs : List Value} {y : DataW H × List MemPlace} (h : trodT encH w n 37 cs = some y) :
    ∃ (v : Value) (xs : List TaskR), cs = [v] ∧ Row (mirE w E) 8 (convE w E v) xs.length (xs.flatMap TaskR.enc) ∧ ∀ r ∈ xs, r.ok (mirE w E) := by
  obtain ⟨v, xs, e, r, k, c⟩ := row_trod (α := TaskR) (enc := TaskR.enc) (ok := TaskR.ok (mirE w E)) sz103 (by omega) Tryz.underlying37 hE (fun f cs x hx => by
    obtain ⟨xs, m, _, _, hl, hxl, hf⟩ := DataW.trod_struct Tryz.underlying103 hx
    rw [sz103] at hl
    obtain ⟨a0, a1, a2, a3, a4, a5, a6, a7, rfl⟩ := len8 hl
    obtain ⟨y0, h0⟩ := fld hf hxl 0 3 0 1 sz3 rfl rfl rfl
    obtain ⟨y1, h1⟩ := fld hf hxl 1 3 1 1 sz3 rfl rfl rfl
    obtain ⟨y2, h2⟩ := fld hf hxl 2 3 2 1 sz3 rfl rfl rfl
    obtain ⟨y3, h3⟩ := fld hf hxl 3 3 3 1 sz3 rfl rfl rfl
    obtain ⟨y4, h4⟩ := fld hf hxl 4 3 4 1 sz3 rfl rfl rfl
    obtain ⟨y5, h5⟩ := fld hf hxl 5 3 5 1 sz3 rfl rfl rfl
    obtain ⟨y6, h6⟩ := fld hf hxl 6 22 6 1 sz22 rfl rfl rfl
    obtain ⟨y7, h7⟩ := fld hf hxl 7 24 7 1 sz24 rfl rfl rfl
    simp only [List.drop_succ_cons, List.drop_zero, List.take_succ_cons, List.take_zero] at h0 h1 h2 h3 h4 h5 h6 h7
    obtain ⟨k0, e0⟩ := int_in h0
    obtain ⟨k1, e1⟩ := int_in h1
    obtain ⟨k2, e2⟩ := int_in h2
    obtain ⟨k3, e3⟩ := int_in h3
    obtain ⟨k4, e4⟩ := int_in h4
    obtain ⟨k5, e5⟩ := int_in h5
    obtain ⟨v6, l6, e6, r6⟩ := ints_in hE h6
    obtain ⟨v7, l7, e7, r7, c7⟩ := ops_in hE h7
    cases e0; cases e1; cases e2; cases e3; cases e4; cases e5; cases e6; cases e7
    exact ⟨⟨⟨k0, k1, k2, k3, k4, k5⟩, _, _, l6, l7⟩, rfl, r6, r7, c7⟩) h
  exact ⟨v, xs, e, r, k⟩

/-- A configuration that came in. -/
theorem config_in {n E : Nat} (hE : ∃ c t f, w.heap[E]? = some (.cells c t f)) {cs : List Value} {y : DataW H × List MemPlace} (h : trodT encH w n 40 cs = some y) :
    ∃ c : CfgR, c.enc = cs.map (convE w E) ∧ c.ok (mirE w E) := by
  obtain ⟨xs, m, _, _, hl, hxl, hf⟩ := DataW.trod_struct Tryz.underlying40 h
  rw [sz40] at hl
  obtain ⟨a0, a1, a2, a3, a4, a5, rfl⟩ := len6 hl
  obtain ⟨y0, h0⟩ := fld hf hxl 0 37 0 1 sz37 rfl rfl rfl
  obtain ⟨y1, h1⟩ := fld hf hxl 1 36 1 1 sz36 rfl rfl rfl
  obtain ⟨y2, h2⟩ := fld hf hxl 2 38 2 1 sz38 rfl rfl rfl
  obtain ⟨y3, h3⟩ := fld hf hxl 3 22 3 1 sz22 rfl rfl rfl
  obtain ⟨y4, h4⟩ := fld hf hxl 4 3 4 1 sz3 rfl rfl rfl
  obtain ⟨y5, h5⟩ := fld hf hxl 5 3 5 1 sz3 rfl rfl rfl
  simp only [List.drop_succ_cons, List.drop_zero, List.take_succ_cons, List.take_zero] at h0 h1 h2 h3 h4 h5
  obtain ⟨v0, l0, e0, r0, k0⟩ := tasks_in hE h0
  obtain ⟨v1, l1, e1, r1, k1⟩ := best_in hE h1
  obtain ⟨v2, l2, e2, r2⟩ := mutexes_in hE h2
  obtain ⟨v3, l3, e3, r3⟩ := ints_in hE h3
  obtain ⟨i4, e4⟩ := int_in h4
  obtain ⟨i5, e5⟩ := int_in h5
  cases e0; cases e1; cases e2; cases e3; cases e4; cases e5
  exact ⟨⟨_, _, _, _, l0, l1, l2, l3, i4, i5⟩, rfl, r0, k0, r1, k1, r2, r3⟩
end Go.AM
