import Derived.Test.YtpjdgiiphohjeaaGreatDoorAm5
/-! What a reading operation gives. -/
namespace Go.AM

/-- A resolved operation's two sides. -/
def Gives (P : Program) (φ : Map) (w : World) (s : Sem Value) (a : AVal) : Prop := ∃ v, s.run P w = .ok v w ∧ VRel φ a v

/-! ### Parts laid into cells -/
theorem foldl_setRange (off : Nat) : ∀ (l : List Value) (k : Nat) (c : Array Value), (l.zipIdx k).foldl (fun cs (p : Value × Nat) => cs.setIfInBounds (off + p.2) p.1) c = setRange c (off + k) l := by
  intro l
  induction l with
  | nil => intro k c; rfl
  | cons v l ih => intro k c; simp only [List.zipIdx_cons, List.foldl_cons, ih, setRange]; rfl

theorem fold_eq (off : Nat) (vs us : Array Value) : vs.zipIdx.foldl (fun cs (c, j) => cs.setIfInBounds (off + j) c) us = setRange us off vs.toList := by
  rw [← Array.foldl_toList]
  have := foldl_setRange off vs.toList 0 us
  simpa using this

theorem VRels.put {φ : Map} {cs ds : List AVal} {us : Array Value} {vs : List Value} {off : Nat} (hc : VRels φ cs us.toList) (hd : VRels φ ds vs) (hb : off + ds.length ≤ cs.length) :
    VRels φ (cs.take off ++ ds ++ cs.drop (off + ds.length)) (setRange us off vs).toList := by
  have l1 := hc.length
  have l2 := hd.length
  simp only [Array.length_toList] at l1
  have : (setRange us off vs).toList = us.toList.take off ++ vs ++ us.toList.drop (off + vs.length) := by
    apply List.ext_getElem?
    intro j
    rw [Array.getElem?_toList, setRange_get _ _ _ (by omega)]
    by_cases h1 : j < off
    · rw [if_neg (by omega), List.append_assoc, List.getElem?_append_left (by simp; omega), List.getElem?_take, if_pos h1]; simp
    · by_cases h2 : j < off + vs.length
      · rw [if_pos (by omega), List.getElem?_append_left (by simp; omega), List.getElem?_append_right (by simp; omega)]
        simp
        congr 1
        omega
      · rw [if_neg (by omega), List.getElem?_append_right (by simp; omega), List.getElem?_drop]
        simp
        congr 1
        omega
  rw [this, ← l2]
  exact ((hc.take off).append hd).append (hc.drop _)

theorem fillOne_spec {φ : Map} {cs cs' : List AVal} {us : Array Value} {off size : Nat} {a : AVal} {v : Value} (hc : VRels φ cs us.toList) (ha : VRel φ a v) (h : fillOne cs off size a = some cs') :
    v.cells.size = size ∧ off + v.cells.size ≤ us.size ∧ VRels φ cs' (setRange us off v.cells.toList).toList ∧ (setRange us off v.cells.toList).size = us.size := by
  unfold fillOne at h
  split at h
  · rename_i hb
    cases h
    simp only [Bool.and_eq_true] at hb
    have e1 := Nat.eq_of_beq_eq_true hb.1.1
    have e2 := Nat.le_of_ble_eq_true hb.1.2
    have hd := cells_rel ha hb.2
    have l1 := hc.length
    have l2 := hd.length
    simp only [Array.length_toList] at l1 l2
    refine ⟨by omega, by omega, ?_, setRange_size _ _ _⟩
    rw [← e1]
    rw [← e1] at e2
    exact VRels.put hc hd e2
  · cases h

/-- Both sides of a literal's parts. -/
inductive PartsRel (φ : Map) (place : Nat → Option (Nat × Nat)) : List (Nat × Nat × AVal) → List (Nat × Value) → Prop where
  | nil : PartsRel φ place [] []
  | cons (off size i : Nat) (a : AVal) (v : Value) (ps : List (Nat × Nat × AVal)) (qs : List (Nat × Value)) (hp : place i = some (off, size)) (h : VRel φ a v) (hs : PartsRel φ place ps qs) :
    PartsRel φ place ((off, size, a) :: ps) ((i, v) :: qs)

theorem fill_sound {φ : Map} {place : Nat → Option (Nat × Nat)} {ps : List (Nat × Nat × AVal)} {qs : List (Nat × Value)} (hp : PartsRel φ place ps qs) : ∀ {cs cs' : List AVal} {us : Array Value}, VRels φ cs us.toList → fillAll cs ps = some cs' →
    ∃ us', Instr.fill place us qs = some us' ∧ VRels φ cs' us'.toList ∧ us'.size = us.size := by
  induction hp with
  | nil => intro cs cs' us hc h; simp [fillAll] at h; subst h; exact ⟨us, rfl, hc, rfl⟩
  | cons off size i a v ps qs hp h hs ih =>
    intro cs cs' us hc hf
    simp only [fillAll] at hf
    split at hf
    · rename_i ds hd
      obtain ⟨h1, h2, h3, h4⟩ := fillOne_spec hc h hd
      obtain ⟨us', e1, e2, e3⟩ := ih h3 hf
      refine ⟨us', ?_, e2, by omega⟩
      rw [← e1]
      simp only [Instr.fill, hp]
      rw [if_neg (by simp [h1]; omega)]
      rw [fold_eq]
    · cases hf

section
variable {P : Program} {tb : Types} (T : TbOk P tb) {φ : Map} {h : Heap} {w : World} (r : HRel φ h w)

include T r in
theorem load1_sound {t : TypeId} {i : TInfo} (ht : tb.get t = some i) (hagg : isAggD i.desc = false) {a b : AVal} {u : Value} (ha : VRel φ a u) (he : evalRead h (.load1 a) = some b) :
    Gives P φ w (Instr.loadAt t u) b := by
  cases ha <;> simp only [evalRead, reduceCtorEq] at he
  rename_i id off L e
  split at he
  · rename_i vs hg
    obtain ⟨v, hv, hr⟩ := r.cell e hg he
    have hi := run_isAgg_tb T ht w
    rw [hagg] at hi
    exact ⟨v, by simp [Instr.loadAt, Instr.sureAddr, loadVar, hi, hv], hr⟩
  · cases he

include T r in
theorem loadN_sound {t : TypeId} {i : TInfo} (ht : tb.get t = some i) (hagg : isAggD i.desc = true) {a b : AVal} {u : Value} (ha : VRel φ a u) (he : evalRead h (.loadN i.size a) = some b) :
    Gives P φ w (Instr.loadAt t u) b := by
  cases ha <;> simp only [evalRead, reduceCtorEq] at he
  rename_i id off L e
  split at he
  · rename_i vs hg
    cases hc : takeAt vs off i.size with
    | none => simp [hc] at he
    | some cs =>
      simp [hc] at he; subst he
      obtain ⟨us, h1, h2⟩ := r.run_cells (P := P) e hg hc
      have hi := run_isAgg_tb T ht w
      rw [hagg] at hi
      have hz := run_sizeOf_tb T ht w
      exact ⟨.agg us.toArray, by simp [Instr.loadAt, Instr.sureAddr, loadVar, hi, hz, h2], .agg _ _ (by simpa using h1)⟩
  · cases he

theorem pick_sound {a b c d : AVal} {x y z : Value} (hc : VRel φ c x) (ha : VRel φ a y) (hb : VRel φ b z) (he : evalRead h (.pick c a b) = some d) :
    Gives P φ w (do pure (if ← asBool x then y else z)) d := by
  cases hc <;> simp only [evalRead, reduceCtorEq] at he
  rename_i q
  cases q <;> cases he
  · exact ⟨z, by simp [asBool], hb⟩
  · exact ⟨y, by simp [asBool], ha⟩

theorem nilCheck_sound {a b : AVal} {x : Value} (ha : VRel φ a x) (he : evalRead h (.nilCheck a) = some b) : a = b ∧ ((∃ p, x = .pointer (some p)) ∨ ∃ f c d, x = .func (.func f) c d) := by
  cases ha <;> simp only [evalRead, reduceCtorEq] at he
  · cases he; exact ⟨rfl, .inl ⟨_, rfl⟩⟩
  · cases he; exact ⟨rfl, .inr ⟨_, _, _, rfl⟩⟩

theorem un_sound {op : UnOp} {a b : AVal} {x : Value} (ha : VRel φ a x) (he : evalRead h (.un op a) = some b) : Gives P φ w (Op.unary op x) b := by
  cases ha <;> cases op <;> simp only [evalRead, reduceCtorEq] at he
  · cases he; exact ⟨_, by simp [Op.unary], .bool _⟩
  · cases he
    rename_i k n
    exact ⟨.int k (k.wrap (0 - n)), by simp [Op.unary, Op.intArith], by rw [wrapF_eq]; exact .int _ _⟩

theorem mkIface_sound {t : TypeId} {i : TInfo} (T : TbOk P tb) (ht : tb.get t = some i) (hi : ∀ ms, i.desc ≠ .interface ms) {a b : AVal} {x : Value} (ha : VRel φ a x) (he : evalRead h (.mkIface t a) = some b) :
    Gives P φ w (Instr.makeInterface t x) b := by
  simp only [evalRead] at he
  cases he
  refine ⟨.iface t x, ?_, .iface t a x ha⟩
  have hu := run_underlying_tb T ht w
  simp only [Instr.makeInterface, Sem.run_bind, hu, Result.andThen_ok]
  rfl

theorem bytes_loop {P : Program} {φ : Map} {w : World} : ∀ (bs : List AVal) (us : List Value) (l : List UInt8) (acc : ByteArray), VRels φ bs us → bytesOf bs = some l →
    (forIn us acc fun c __s => (match c with
            | Value.int IntKind.u8 n => pure (ForInStep.yield (__s.push (UInt8.ofNat n.toNat)))
            | _ => do
              stuck "bytesToString: byte expected"
              pure (ForInStep.yield __s) : Sem (ForInStep ByteArray))).run P w = .ok ⟨acc.data ++ l.toArray⟩ w := by
  intro bs
  induction bs with
  | nil => intro us l acc h e; cases h; simp [bytesOf] at e; subst e; simp
  | cons b bs ih =>
    intro us l acc h e
    cases h with
    | cons _ v _ vs hb hs =>
      cases hb <;> first | (simp only [bytesOf, reduceCtorEq] at e; done) | skip
      rename_i k n
      cases k <;> simp only [bytesOf, reduceCtorEq] at e
      cases hl : bytesOf bs with
      | none => simp [hl] at e
      | some l' =>
        simp [hl] at e; subst e
        have := ih vs l' (acc.push (UInt8.ofNat n.toNat)) hs hl
        rw [List.forIn_cons]
        exact Eq.trans this (by simp)

theorem conv_sound {s d : TypeId} {k : AConv} (T : TbOk P tb) (r : HRel φ h w) (hk : convOf tb s d = some k) {a b : AVal} {x : Value} (ha : VRel φ a x) (he : evalRead h (.conv k a) = some b) :
    Gives P φ w (convert s d x) b := by
  unfold convOf at hk
  split at hk
  · rename_i si di hs hd
    have us := run_underlying_tb T hs w
    have ud := run_underlying_tb T hd w
    split at hk
    · rename_i k1 k2 e1 e2
      cases hk
      rw [e1] at us; rw [e2] at ud
      cases ha <;> simp only [evalRead, reduceCtorEq] at he
      rename_i kk n
      cases he
      exact ⟨.int k2 (k2.wrap n), by simp [convert, us, ud, Conv.intToInt], by rw [wrapF_eq]; exact .int _ _⟩
    · rename_i e1 e2
      cases hk
      rw [e1] at us; rw [e2] at ud
      cases ha <;> simp only [evalRead, reduceCtorEq] at he
      rename_i b'
      cases he
      exact ⟨.string b', by simp [convert, us, ud], .str b'⟩
    · rename_i e e1 e2
      split at hk
      · split at hk
        · cases hk; cases ha <;> simp only [evalRead, reduceCtorEq] at he
        · cases hk
      · cases hk
    · rename_i e e1 e2
      split at hk
      · rename_i ei hei
        have ue := run_underlying_tb T hei w
        split at hk
        · rename_i e3
          cases hk
          rw [e1] at us; rw [e2] at ud; rw [e3] at ue
          cases ha <;> simp only [evalRead, reduceCtorEq] at he
          · rename_i id off len c L a hL hl ha
            split at he
            · rename_i vs hg
              split at he
              · rename_i cs hc
                cases hb : bytesOf cs with
                | none => simp [hb] at he
                | some l =>
                  simp [hb] at he; subst he
                  obtain ⟨us', h1, h2⟩ := r.run_cells (P := P) hL hg hc
                  have hrun : (loadCells a len).run P w = .ok us'.toArray w := by
                    by_cases h0 : c = 0
                    · have : len = 0 := by omega
                      subst this
                      have e0 := takeAt_length hc
                      have e1 := h1.length
                      have : us' = [] := by cases us' with
                        | nil => rfl
                        | cons => simp at e1; omega
                      subst this; rfl
                    · rw [ha h0]; exact h2
                  have hloop := bytes_loop (P := P) (w := w) cs us' l .empty h1 hb
                  refine ⟨.string ⟨l.toArray⟩, ?_, by have := VRel.str (φ := φ) ⟨l.toArray⟩; simpa using this⟩
                  simp only [convert, Sem.run_bind, us, ud, ue, Result.andThen_ok, Conv.bytesToString, hrun]
                  rw [← Array.forIn_toList]
                  exact Eq.trans (congrArg (fun r : Result ByteArray => r.andThen fun a w' => Sem.run P (pure (Value.string a)) w') hloop) (by simp)
              · cases he
            · cases he
          · rename_i id off len e' c L a hL hl ha hs'
            split at he
            · rename_i vs hg
              split at he
              · rename_i cs hc
                cases hb : bytesOf cs with
                | none => simp [hb] at he
                | some l =>
                  simp [hb] at he; subst he
                  obtain ⟨us', h1, h2⟩ := r.run_cells (P := P) hL hg hc
                  have hrun : (loadCells a len).run P w = .ok us'.toArray w := by
                    by_cases h0 : c = 0
                    · have : len = 0 := by omega
                      subst this
                      have e0 := takeAt_length hc
                      have e1 := h1.length
                      have : us' = [] := by cases us' with
                        | nil => rfl
                        | cons => simp at e1; omega
                      subst this; rfl
                    · rw [ha h0]; exact h2
                  have hloop := bytes_loop (P := P) (w := w) cs us' l .empty h1 hb
                  refine ⟨.string ⟨l.toArray⟩, ?_, by have := VRel.str (φ := φ) ⟨l.toArray⟩; simpa using this⟩
                  simp only [convert, Sem.run_bind, us, ud, ue, Result.andThen_ok, Conv.bytesToString, hrun]
                  rw [← Array.forIn_toList]
                  exact Eq.trans (congrArg (fun r : Result ByteArray => r.andThen fun a w' => Sem.run P (pure (Value.string a)) w') hloop) (by simp)
              · cases he
            · cases he
          · cases he
            exact ⟨.string .empty, by simp [convert, us, ud, ue, Conv.bytesToString], by have := VRel.str (φ := φ) .empty; simpa using this⟩
        · cases hk
      · cases hk
    · cases hk
  · cases hk

/-! ### Slicing -/
theorem bound_sound {P : Program} {φ : Map} {w : World} {x : Option AVal} {x' : Option Value} {m n d : Nat} (h : ORelV φ x x') (e : boundOr x m d = some n) (hd : x' = none → d ≤ m) :
    n ≤ m ∧ (∀ v, x' = some v → ∀ code, (Instr.sliceBound v m code).run P w = .ok n w) ∧ (x' = none → n = d) := by
  cases h with
  | none => simp [boundOr] at e; subst e; exact ⟨hd rfl, by simp, fun _ => rfl⟩
  | some a v h =>
    simp only [boundOr] at e
    obtain ⟨_, _, _, hle⟩ := asNat_spec h e
    refine ⟨hle, ?_, by simp⟩
    rintro u hu code
    cases hu
    exact run_sliceBound h e code

theorem run_sliceBounds {P : Program} {φ : Map} {w : World} {lo hi mx : Option AVal} {lo' hi' mx' : Option Value} (hlo : ORelV φ lo lo') (hhi : ORelV φ hi hi') (hmx : ORelV φ mx mx') (hm : hi'.isSome || mx'.isNone) {isSlice : Bool}
    {len cap len' cap' m hh l : Nat} (e1 : boundOr mx cap cap = some m) (e2 : boundOr hi m len = some hh) (e3 : boundOr lo hh 0 = some l) (h1 : hi' = none → len ≤ m)
    (hc : cap' = cap ∨ (mx' = none ∧ cap ≤ cap')) (hl : len' = len) :
    (Instr.sliceBounds isSlice len' cap' lo' hi' mx').run P w = .ok (l, hh, if mx'.isNone then cap' else m) w ∧ l ≤ hh ∧ hh ≤ m ∧ m ≤ cap' := by
  subst hl
  obtain ⟨m1, m2, m3⟩ := bound_sound (P := P) (w := w) hmx e1 (fun _ => Nat.le_refl _)
  obtain ⟨h1', h2, h3⟩ := bound_sound (P := P) (w := w) hhi e2 h1
  obtain ⟨l1, l2, l3⟩ := bound_sound (P := P) (w := w) hlo e3 (fun _ => Nat.zero_le _)
  have hmc : m ≤ cap' := by omega
  refine ⟨?_, l1, h1', hmc⟩
  cases hmx with
  | none =>
    have em : m = cap := m3 rfl
    subst em
    cases hhi with
    | none =>
      have eh := h3 rfl
      subst eh
      cases hlo with
      | none => have el := l3 rfl; subst el; simp [Instr.sliceBounds]
      | some a v _ => simp [Instr.sliceBounds, l2 v rfl]
    | some a v hv =>
      have hb : ∀ code, (Instr.sliceBound v cap' code).run P w = .ok hh w := by
        intro code
        have e2' : asNat a m = some hh := e2
        refine run_sliceBound hv ?_ code
        obtain ⟨k, rfl, _, hle⟩ := asNat_spec hv e2'
        have : Nat.ble hh cap' = true := Nat.ble_eq_true_of_le (by omega)
        have h0 : asNat (.int k (Int.ofNat hh)) cap' = some hh := by simp only [asNat, this]
        exact h0
      cases hlo with
      | none => have el := l3 rfl; subst el; simp [Instr.sliceBounds, hb]
      | some a v _ => simp [Instr.sliceBounds, l2 v rfl, hb]
  | some b u hu =>
    have ec : cap' = cap := by rcases hc with hc | ⟨hc, _⟩
                               · exact hc
                               · cases hc
    subst ec
    have hb := m2 u rfl
    cases hhi with
    | none => simp at hm
    | some a v hv =>
      have hb2 := h2 v rfl
      cases hlo with
      | none => have el := l3 rfl; subst el; simp [Instr.sliceBounds, hb, hb2]
      | some a v _ => simp [Instr.sliceBounds, l2 v rfl, hb, hb2]

theorem extract_toList (b : ByteArray) (l h : Nat) : (b.extract l h).data.toList = (b.data.toList.take h).drop l := by
  rw [ByteArray.data_extract, Array.toList_extract, List.drop_take]

include T in
theorem sliceStr_sound {t : TypeId} {i : TInfo} (ht : tb.get t = some i) (hd : i.desc = .string) {a b : AVal} {x : Value} {lo hi : Option AVal} {lo' hi' : Option Value} (ha : VRel φ a x) (hlo : ORelV φ lo lo') (hhi : ORelV φ hi hi')
    (he : evalRead h (.sliceStr a lo hi) = some b) : Gives P φ w (Instr.sliceAt t x lo' hi' none) b := by
  cases ha <;> simp only [evalRead, reduceCtorEq] at he
  rename_i s
  split at he
  · rename_i hh e2
    split at he
    · rename_i l e3
      cases he
      have hu := run_underlying_tb T ht w
      rw [hd] at hu
      obtain ⟨h1, h2, h3, h4⟩ := run_sliceBounds (P := P) (w := w) (isSlice := false) hlo hhi .none (by simp) (cap := s.size) (len := s.size) (cap' := s.size) (len' := s.size) rfl e2 e3 (fun _ => by omega) (.inl rfl) rfl
      refine ⟨.string (s.extract l hh), ?_, ?_⟩
      · simp [Instr.sliceAt, hu, Instr.slice, h1]
      · rw [← extract_toList]; exact .str _
    · cases he
  · cases he

theorem add_at (L : Loc) (off n : Nat) : (L.at_ off).add n = L.at_ (off + n) := Loc.at_add L off n

include T in
theorem sliceSl_sound {t e : TypeId} {i ei : TInfo} (ht : tb.get t = some i) (hd : i.desc = .slice e) (hei : tb.get e = some ei) {a b : AVal} {x : Value} {lo hi mx : Option AVal} {lo' hi' mx' : Option Value} (ha : VRel φ a x)
    (hlo : ORelV φ lo lo') (hhi : ORelV φ hi hi') (hmx : ORelV φ mx mx') (hm : hi'.isSome || mx'.isNone) (he : evalRead h (.sliceSl ei.size a lo hi mx) = some b) : Gives P φ w (Instr.sliceAt t x lo' hi' mx') b := by
  have hu := run_underlying_tb T ht w
  rw [hd] at hu
  have hz := run_sizeOf_tb T hei w
  cases ha with
  | exact id off len c L ad hL hl hadr =>
    simp only [evalRead] at he
    split at he
    · rename_i m e1
      split at he
      · rename_i hh e2
        split at he
        · rename_i l e3
          cases he
          have hnone : hi' = none → len ≤ m := by
            intro e0
            rw [e0] at hm
            cases hmx with
            | none => simp only [boundOr] at e1; cases e1; exact hl
            | some => simp at hm
          obtain ⟨h1, h2, h3, h4⟩ := run_sliceBounds (P := P) (w := w) (isSlice := true) hlo hhi hmx hm (cap' := c) (len' := len) e1 e2 e3 hnone (.inl rfl) rfl
          have hmm : (if mx'.isNone then c else m) = m := by
            cases hmx with
            | none => simp only [boundOr] at e1; cases e1; simp
            | some => simp
          rw [hmm] at h1
          refine ⟨.slice (some (if m = l then ad else ad.add (l * ei.size))) (hh - l) (m - l), ?_, ?_⟩
          · simp [Instr.sliceAt, hu, Instr.slice, h1, hz]
            split <;> rfl
          · refine .exact _ _ _ _ L _ hL (by omega) ?_
            intro h0
            rw [if_neg (by omega), hadr (by omega), add_at]
        · cases he
      · cases he
    · cases he
  | upto id off len e' c L ad hL hl hadr hs =>
    cases hmx with
    | none =>
      simp only [evalRead] at he
      split at he
      · rename_i hh e2
        split at he
        · rename_i l e3 hbeq
          cases he
          have hesz := Nat.eq_of_beq_eq_true hbeq
          subst hesz
          obtain ⟨h1, h2, h3, h4⟩ := run_sliceBounds (P := P) (w := w) (isSlice := true) hlo hhi .none hm (cap := len) (cap' := c) (len' := len) rfl e2 e3 (fun _ => Nat.le_refl _) (.inr ⟨rfl, hl⟩) rfl
          simp only [Option.isNone_none, if_true] at h1
          refine ⟨.slice (some (if c = l then ad else ad.add (l * ei.size))) (hh - l) (c - l), ?_, ?_⟩
          · simp [Instr.sliceAt, hu, Instr.slice, h1, hz]
            split <;> rfl
          · refine .upto _ _ _ _ _ L _ hL (by omega) ?_ ?_
            · intro h0
              rw [if_neg (by omega), hadr (by omega), add_at]
            · have hlc : l ≤ c := by omega
              have : (c - l) * ei.size = c * ei.size - l * ei.size := Nat.sub_mul _ _ _
              have h5 : l * ei.size ≤ c * ei.size := Nat.mul_le_mul_right _ hlc
              omega
        · cases he
      · cases he
    | some mv u hu' =>
      simp only [evalRead] at he
      split at he
      · rename_i m e1
        split at he
        · rename_i hh e2
          split at he
          · rename_i l e3
            cases he
            have hle : m ≤ len := (asNat_spec hu' e1).choose_spec.2.2
            have e1' : boundOr (some mv) c c = some m := by
              obtain ⟨k, rfl, _, _⟩ := asNat_spec hu' e1
              have : Nat.ble m c = true := Nat.ble_eq_true_of_le (by omega)
              show asNat (.int k (Int.ofNat m)) c = some m
              simp only [asNat, this]
            have hnone : hi' = none → len ≤ m := by intro e0; rw [e0] at hm; simp at hm
            obtain ⟨h1, h2, h3, h4⟩ := run_sliceBounds (P := P) (w := w) (isSlice := true) hlo hhi (.some mv u hu') hm (cap' := c) (len' := len) e1' e2 e3 hnone (.inl rfl) rfl
            simp only [Option.isNone_some, Bool.false_eq_true, if_false] at h1
            refine ⟨.slice (some (if m = l then ad else ad.add (l * ei.size))) (hh - l) (m - l), ?_, ?_⟩
            · simp [Instr.sliceAt, hu, Instr.slice, h1, hz]
              split <;> rfl
            · refine .exact _ _ _ _ L _ hL (by omega) ?_
              intro h0
              rw [if_neg (by omega), hadr (by omega), add_at]
          · cases he
        · cases he
      · cases he
  | nilslice =>
    simp only [evalRead] at he
    split at he
    · rename_i m e1
      split at he
      · rename_i hh e2
        split at he
        · rename_i l e3
          cases he
          obtain ⟨h1, h2, h3, h4⟩ := run_sliceBounds (P := P) (w := w) (isSlice := true) hlo hhi hmx hm (cap' := 0) (len' := 0) e1 e2 e3 (fun _ => Nat.zero_le _) (.inl rfl) rfl
          have hm0 : m = 0 := by omega
          have hl0 : l = 0 := by omega
          have hh0 : hh = 0 := by omega
          subst hm0; subst hl0; subst hh0
          simp only [ite_self] at h1
          exact ⟨.slice none 0 0, by simp [Instr.sliceAt, hu, Instr.slice, h1, hz], .nilslice⟩
        · cases he
      · cases he
    · cases he
  | _ => simp only [evalRead, reduceCtorEq] at he

include T in
theorem sliceArr_sound {t e : TypeId} {i ei : TInfo} {n : Nat} (ht : tb.get t = some i) (hd : i.desc = .array n e) (hei : tb.get e = some ei) {a b : AVal} {x : Value} {lo hi mx : Option AVal} {lo' hi' mx' : Option Value} (ha : VRel φ a x)
    (hlo : ORelV φ lo lo') (hhi : ORelV φ hi hi') (hmx : ORelV φ mx mx') (hm : hi'.isSome || mx'.isNone) (he : evalRead h (.sliceArr n ei.size a lo hi mx) = some b) : Gives P φ w (Instr.sliceAt t x lo' hi' mx') b := by
  have hu := run_underlying_tb T ht w
  rw [hd] at hu
  have hz := run_sizeOf_tb T hei w
  cases ha <;> simp only [evalRead, reduceCtorEq] at he
  rename_i id off L hL
  split at he
  · rename_i m e1
    split at he
    · rename_i hh e2
      split at he
      · rename_i l e3
        cases he
        have hnone : hi' = none → n ≤ m := by
          intro e0
          rw [e0] at hm
          cases hmx with
          | none => simp only [boundOr] at e1; cases e1; exact Nat.le_refl _
          | some => simp at hm
        obtain ⟨h1, h2, h3, h4⟩ := run_sliceBounds (P := P) (w := w) (isSlice := false) hlo hhi hmx hm (cap' := n) (len' := n) e1 e2 e3 hnone (.inl rfl) rfl
        have hmm : (if mx'.isNone then n else m) = m := by
          cases hmx with
          | none => simp only [boundOr] at e1; cases e1; simp
          | some => simp
        rw [hmm] at h1
        refine ⟨.slice (some (if m = l then L.at_ off else (L.at_ off).add (l * ei.size))) (hh - l) (m - l), ?_, ?_⟩
        · simp [Instr.sliceAt, Instr.sureAddr, hu, h1, hz]
        · refine .exact _ _ _ _ L _ hL (by omega) ?_
          intro h0
          rw [if_neg (by omega), add_at]
      · cases he
    · cases he
  · cases he

/-! ### Fields, elements -/
include T in
theorem fieldAddr_sound {t : TypeId} {i fi : TInfo} {fs : Array Field} {f : Nat} {fd : Field} (ht : tb.get t = some i) (hd : i.desc = .struct fs) (hf : fs[f]? = some fd) (hfi : tb.get fd.type = some fi) (hs : fi.size ≠ 0)
    {a b : AVal} {x : Value} (ha : VRel φ a x) (he : evalRead h (.fieldAddr fd.offset a) = some b) : Gives P φ w (Instr.fieldAt t x f) b := by
  have hu := run_underlying_tb T ht w
  rw [hd] at hu
  have hz := run_sizeOf_tb T hfi w
  cases ha <;> simp only [evalRead, reduceCtorEq] at he
  rename_i id off L hL
  cases he
  exact ⟨.pointer (some (L.at_ (off + fd.offset))), by simp [Instr.fieldAt, Instr.sureAddr, hu, hf, fieldPlace, hz, hs, add_at], .ptr _ _ L hL⟩

include T in
theorem field1_sound {t : TypeId} {i fi : TInfo} {fs : Array Field} {f : Nat} {fd : Field} (ht : tb.get t = some i) (hd : i.desc = .struct fs) (hf : fs[f]? = some fd) (hfi : tb.get fd.type = some fi) (hagg : isAggD fi.desc = false)
    {a b : AVal} {x : Value} (ha : VRel φ a x) (he : evalRead h (.field1 fd.offset a) = some b) : Gives P φ w (Instr.field t x f) b := by
  have hu := run_underlying_tb T ht w
  rw [hd] at hu
  have hg := run_isAgg_tb T hfi w
  rw [hagg] at hg
  cases ha <;> simp only [evalRead, reduceCtorEq] at he
  rename_i as c hc
  obtain ⟨v, hv, hr⟩ := hc.get he
  exact ⟨v, by simp only [Array.getElem?_toList] at hv; simp [Instr.field, hu, hf, asAgg, part, hg, hv], hr⟩

theorem extract_rel {φ : Map} {as cs : List AVal} {c : Array Value} {off n : Nat} (hc : VRels φ as c.toList) (e : takeAt as off n = some cs) : VRels φ cs (c.extract off (off + n)).toList := by
  obtain ⟨h1, rfl⟩ := takeAt_spec e
  rw [Array.toList_extract]
  have : off + n - off = n := by omega
  rw [List.extract_eq_take_drop]
  rw [this]
  exact (hc.drop off).take n

include T in
theorem fieldN_sound {t : TypeId} {i fi : TInfo} {fs : Array Field} {f : Nat} {fd : Field} (ht : tb.get t = some i) (hd : i.desc = .struct fs) (hf : fs[f]? = some fd) (hfi : tb.get fd.type = some fi) (hagg : isAggD fi.desc = true)
    {a b : AVal} {x : Value} (ha : VRel φ a x) (he : evalRead h (.fieldN fd.offset fi.size a) = some b) : Gives P φ w (Instr.field t x f) b := by
  have hu := run_underlying_tb T ht w
  rw [hd] at hu
  have hg := run_isAgg_tb T hfi w
  have hz := run_sizeOf_tb T hfi w
  rw [hagg] at hg
  cases ha <;> simp only [evalRead, reduceCtorEq] at he
  rename_i as c hc
  cases ht' : takeAt as fd.offset fi.size with
  | none => simp [ht'] at he
  | some cs =>
    simp [ht'] at he; subst he
    exact ⟨.agg (c.extract fd.offset (fd.offset + fi.size)), by simp [Instr.field, hu, hf, asAgg, part, hg, hz], .agg _ _ (extract_rel hc ht')⟩

theorem idx_sound {φ : Map} {i : AVal} {j : Value} (hi : VRel φ i j) {len k : Nat} (e : asNat i len = some k) (hb : Nat.blt k len = true) : ∃ kd, j = .int kd k ∧ k < len := by
  obtain ⟨kd, _, rfl, _⟩ := asNat_spec hi e
  exact ⟨kd, rfl, by simpa [Nat.blt_eq] using hb⟩

include T in
theorem idxAddrA_sound {t e : TypeId} {ti ei : TInfo} {n : Nat} (ht : tb.get t = some ti) (hd : ti.desc = .array n e) (hei : tb.get e = some ei) {a b i : AVal} {x j : Value} (ha : VRel φ a x) (hi : VRel φ i j)
    (he : evalRead h (.idxAddrA n ei.size a i) = some b) : Gives P φ w (Instr.indexAt t x j) b := by
  have hu := run_underlying_tb T ht w
  rw [hd] at hu
  have hz := run_sizeOf_tb T hei w
  cases ha <;> simp only [evalRead, reduceCtorEq] at he
  rename_i id off L hL
  split at he
  · rename_i k ek
    split at he
    · rename_i hb
      cases he
      obtain ⟨kd, rfl, hlt⟩ := idx_sound hi ek hb
      refine ⟨.pointer (some (L.at_ (off + k * ei.size))), ?_, .ptr _ _ L hL⟩
      have h0 : (0 : Int) ≤ (k : Int) ∧ (k : Int) < (n : Int) := by omega
      simp [Instr.indexAt, asIntOf, Instr.sureAddr, hu, hz, add_at, hlt]
    · cases he
  · cases he

include T in
theorem idxAddrS_sound {t e : TypeId} {ti ei : TInfo} (ht : tb.get t = some ti) (hd : ti.desc = .slice e) (hei : tb.get e = some ei) {a b i : AVal} {x j : Value} (ha : VRel φ a x) (hi : VRel φ i j)
    (he : evalRead h (.idxAddrS ei.size a i) = some b) : Gives P φ w (Instr.indexAt t x j) b := by
  have hu := run_underlying_tb T ht w
  rw [hd] at hu
  have hz := run_sizeOf_tb T hei w
  cases ha with
  | exact id off len c L ad hL hl hadr =>
    simp only [evalRead] at he
    split at he
    · rename_i k ek
      split at he
      · rename_i hb
        cases he
        obtain ⟨kd, rfl, hlt⟩ := idx_sound hi ek hb
        have hadr' := hadr (by omega)
        subst hadr'
        exact ⟨.pointer (some (L.at_ (off + k * ei.size))), by simp [Instr.indexAt, asIntOf, hu, hz, add_at, hlt], .ptr _ _ L hL⟩
      · cases he
    · cases he
  | upto id off len e' c L ad hL hl hadr hs =>
    simp only [evalRead] at he
    split at he
    · rename_i k ek
      split at he
      · rename_i hb
        cases he
        obtain ⟨kd, rfl, hlt⟩ := idx_sound hi ek hb
        have hadr' := hadr (by omega)
        subst hadr'
        exact ⟨.pointer (some (L.at_ (off + k * ei.size))), by simp [Instr.indexAt, asIntOf, hu, hz, add_at, hlt], .ptr _ _ L hL⟩
      · cases he
    · cases he
  | _ => simp only [evalRead, reduceCtorEq] at he

include T in
theorem idxA1_sound {t e : TypeId} {ti ei : TInfo} {n : Nat} (ht : tb.get t = some ti) (hd : ti.desc = .array n e) (hei : tb.get e = some ei) (hagg : isAggD ei.desc = false) (hs : ei.size = 1) {a b i : AVal} {x j : Value} (ha : VRel φ a x) (hi : VRel φ i j)
    (he : evalRead h (.idxA1 n 1 a i) = some b) : Gives P φ w (Instr.index t x j) b := by
  have hu := run_underlying_tb T ht w
  rw [hd] at hu
  have hz := run_sizeOf_tb T hei w
  have hg := run_isAgg_tb T hei w
  rw [hagg] at hg
  rw [hs] at hz
  cases ha <;> simp only [evalRead, reduceCtorEq] at he
  rename_i as c hc
  split at he
  · rename_i k ek
    split at he
    · rename_i hb
      obtain ⟨kd, rfl, hlt⟩ := idx_sound hi ek hb
      obtain ⟨v, hv, hr⟩ := hc.get he
      simp only [Array.getElem?_toList, Nat.mul_one] at hv
      exact ⟨v, by simp [Instr.index, asIntOf, hu, hz, hlt, part, hg, hv], hr⟩
    · cases he
  · cases he

include T in
theorem idxAN_sound {t e : TypeId} {ti ei : TInfo} {n : Nat} (ht : tb.get t = some ti) (hd : ti.desc = .array n e) (hei : tb.get e = some ei) (hagg : isAggD ei.desc = true) {a b i : AVal} {x j : Value} (ha : VRel φ a x) (hi : VRel φ i j)
    (he : evalRead h (.idxAN n ei.size a i) = some b) : Gives P φ w (Instr.index t x j) b := by
  have hu := run_underlying_tb T ht w
  rw [hd] at hu
  have hz := run_sizeOf_tb T hei w
  have hg := run_isAgg_tb T hei w
  rw [hagg] at hg
  cases ha <;> simp only [evalRead, reduceCtorEq] at he
  rename_i as c hc
  split at he
  · rename_i k ek
    split at he
    · rename_i hb
      obtain ⟨kd, rfl, hlt⟩ := idx_sound hi ek hb
      cases ht' : takeAt as (k * ei.size) ei.size with
      | none => simp [ht'] at he
      | some cs =>
        simp [ht'] at he; subst he
        exact ⟨.agg (c.extract (k * ei.size) (k * ei.size + ei.size)), by simp [Instr.index, asIntOf, hu, hz, hlt, part, hg], .agg _ _ (extract_rel hc ht')⟩
    · cases he
  · cases he

include T in
theorem idxStr_sound {t : TypeId} {ti : TInfo} (ht : tb.get t = some ti) (hd : ti.desc = .string) {a b i : AVal} {x j : Value} (ha : VRel φ a x) (hi : VRel φ i j)
    (he : evalRead h (.idxStr a i) = some b) : Gives P φ w (Instr.index t x j) b := by
  have hu := run_underlying_tb T ht w
  rw [hd] at hu
  cases ha <;> simp only [evalRead, reduceCtorEq] at he
  rename_i s
  split at he
  · rename_i k ek
    obtain ⟨kd, _, rfl, hle⟩ := asNat_spec hi ek
    split at he
    · rename_i q hq
      cases he
      have hq' : s[k]? = some q := by
        simp only [Array.getElem?_toList] at hq
        obtain ⟨h1, h2⟩ := Array.getElem?_eq_some_iff.1 hq
        have h3 : k < s.size := h1
        rw [getElem?_pos s k h3]
        exact congrArg some h2
      exact ⟨.int .u8 q.toNat, by simp [Instr.index, asIntOf, hu, hq'], .int _ _⟩
    · cases he
  · cases he

/-! ### Maps -/
theorem entriesOf_sound {P : Program} (r : HRel φ h w) {m : AVal} {x : Value} (hm : VRel φ m x) {es : List (AVal × AVal × Nat)} (e : entriesOf h m = some es) :
    (x = .map none ∧ es = []) ∨ ∃ b fs clock, x = .map (some b) ∧ (getObj b).run P w = .ok (.map fs clock) w ∧ MRels φ es fs.toList := by
  cases hm <;> simp only [entriesOf, reduceCtorEq] at e
  · rename_i id L hL
    split at e
    · rename_i es' clock hg
      cases e
      obtain ⟨fs, h1, h2⟩ := r.obj id L _ hL hg
      exact .inr ⟨L.block, fs, clock, rfl, by simp [getObj, Sem.run, h1], h2⟩
    · cases e
  · cases e; exact .inl ⟨rfl, rfl⟩

def keyDesc (kk : Leaf) (d : TypeDesc) : Prop := (kk = .bool ∧ d = .bool) ∨ (kk = .int ∧ ∃ k, d = .int k) ∨ (kk = .str ∧ d = .string)

theorem keyDesc_of {d : TypeDesc} {kk : Leaf} (h : leafOf d = some kk) (hp : kk ≠ .ptr) : keyDesc kk d := by
  unfold leafOf at h
  split at h <;> cases h
  · exact .inl ⟨rfl, rfl⟩
  · exact .inr (.inl ⟨rfl, _, rfl⟩)
  · exact .inr (.inr ⟨rfl, rfl⟩)
  · exact absurd rfl hp

theorem sameKey_sound {kk : Leaf} {d : TypeDesc} (hk : keyDesc kk d) {a b : AVal} {x y : Value} (ha : VRel φ a x) (hb : VRel φ b y) {c : Bool} (e : sameKey kk a b = some c) :
    Instr.sameNow d x y = some c ∧ (c = true → a = b ∧ x = y) := by
  rcases hk with ⟨rfl, rfl⟩ | ⟨rfl, k, rfl⟩ | ⟨rfl, rfl⟩
  all_goals
    unfold sameKey at e
    split at e <;> first | (cases e; done) | contradiction | skip
  · cases ha; cases hb; cases e
    refine ⟨rfl, fun h => ?_⟩
    simp at h; subst h; exact ⟨rfl, rfl⟩
  · split at e
    · rename_i hkk
      cases ha; cases hb; cases e
      have hkk' := of_decide_eq_true hkk
      subst hkk'
      refine ⟨by simp [Instr.sameNow]; rfl, fun h => ?_⟩
      have := of_decide_eq_true h
      subst this; exact ⟨rfl, rfl⟩
    · cases e
  · cases ha; cases hb; cases e
    rename_i s1 s2
    refine ⟨by simp [Instr.sameNow, bytes_beq], fun h => ?_⟩
    rw [← bytes_beq] at h
    have : s1 = s2 := by
      have e : (s1 == s2) = (s1.data == s2.data) := rfl
      rw [e] at h
      simp at h
      cases s1; cases s2; simp_all
    subst this; exact ⟨rfl, rfl⟩

theorem findEntry_sound {kk : Leaf} {d : TypeDesc} (hk : keyDesc kk d) {k : AVal} {x : Value} (hx : VRel φ k x) : ∀ {es : List (AVal × AVal × Nat)} {fs : List MapEntry} {i : Nat}, MRels φ es fs → ∀ {res}, findEntry kk k es i = some res →
    (res = none ∧ Instr.findNow d x fs i = some none) ∨ ∃ j v u, res = some (j, v) ∧ Instr.findNow d x fs i = some (some (j, u)) ∧ VRel φ v u ∧ i ≤ j ∧ (∃ e : MapEntry, fs[j - i]? = some e ∧ e.key = x ∧ e.val = u) ∧ (∃ b, es[j - i]? = some (k, v, b)) := by
  intro es fs i hm
  induction hm generalizing i with
  | nil => intro res e; simp [findEntry] at e; subst e; exact .inl ⟨rfl, rfl⟩
  | cons k' v b e es fs hk' hv hb hm ih =>
    intro res he
    simp only [findEntry] at he
    split at he
    · rename_i hs
      cases he
      obtain ⟨h1, h2⟩ := sameKey_sound hk hx hk' hs
      obtain ⟨rfl, h3⟩ := h2 rfl
      exact .inr ⟨i, v, e.val, rfl, by simp [Instr.findNow, h1], hv, Nat.le_refl _, ⟨e, by simp, h3.symm, rfl⟩, ⟨b, by simp⟩⟩
    · rename_i hs
      obtain ⟨h1, h2⟩ := sameKey_sound hk hx hk' hs
      rcases ih he with ⟨rfl, h3⟩ | ⟨j, v', u, rfl, h3, h4, h5, ⟨e', he', h6⟩, ⟨b', hb'⟩⟩
      · exact .inl ⟨rfl, by simp [Instr.findNow, h1, h3]⟩
      · refine .inr ⟨j, v', u, rfl, by simp [Instr.findNow, h1, h3], h4, by omega, ⟨e', ?_, h6⟩, ⟨b', ?_⟩⟩
        · rw [show j - i = (j - (i + 1)) + 1 from by omega]; simpa using he'
        · rw [show j - i = (j - (i + 1)) + 1 from by omega]; simpa using hb'
    · cases he

theorem run_checkKey {P : Program} {kk : Leaf} {d : TypeDesc} (hk : keyDesc kk d) {t : TypeId} (hu : (underlying t).run P w = .ok d w) (x : Value) (b : Bool) : (Instr.checkKey b 10000 t x).run P w = .ok () w := by
  have key : ∀ n, (Instr.checkKey b (n + 1) t x).run P w = .ok () w := by
    intro n
    rcases hk with ⟨_, rfl⟩ | ⟨_, k, rfl⟩ | ⟨_, rfl⟩ <;> simp [Instr.checkKey, hu]
  exact key 9999

include T r in
theorem lookup_sound {t kt e : TypeId} {ti ki ei : TInfo} {kk : Leaf} {zv : Value} {z : AVal} (ht : tb.get t = some ti) (hd : ti.desc = .map kt e) (hki : tb.get kt = some ki) (hei : tb.get e = some ei) (hk : keyDesc kk ki.desc) (hz : ei.zero = some zv)
    (hzr : VRel φ z zv) {m i b : AVal} {x j : Value} (hm : VRel φ m x) (hi : VRel φ i j) {ok : Bool} (he : evalRead h (.lookup kk z m i ok) = some b) : Gives P φ w (Instr.lookup t x j ok) b := by
  have hu := run_underlying_tb T ht w
  rw [hd] at hu
  have huk := run_underlying_tb T hki w
  have hzv := run_zeroValue_tb T hei w hz
  simp only [evalRead] at he
  split at he
  · rename_i es hes
    rcases entriesOf_sound (P := P) r hm hes with ⟨rfl, rfl⟩ | ⟨bl, fs, clock, rfl, hg, hmr⟩
    · simp only [findEntry] at he
      cases he
      have hck := run_checkKey (P := P) hk huk j (#[] : Array MapEntry).isEmpty
      cases ok
      · exact ⟨zv, by simp at hck; simp [Instr.lookup, hu, hck, Instr.findKey, huk, Instr.findNow, hzv], hzr⟩
      · exact ⟨.tuple #[zv, .bool false], by simp at hck; simp [Instr.lookup, hu, hck, Instr.findKey, huk, Instr.findNow, hzv], .tuple _ _ (.cons _ _ _ _ hzr (.cons _ _ _ _ (.bool _) .nil))⟩
    · have hck := run_checkKey (P := P) hk huk j fs.isEmpty
      split at he
      · rename_i j' v hfe
        rcases findEntry_sound hk hi hmr hfe with ⟨h0, _⟩ | ⟨j2, v2, u, h0, h1, h2, _⟩
        · cases h0
        · cases h0
          cases he
          cases ok
          · exact ⟨u, by simp [Instr.lookup, hu, hg, hck, Instr.findKey, huk, h1], h2⟩
          · exact ⟨.tuple #[u, .bool true], by simp [Instr.lookup, hu, hg, hck, Instr.findKey, huk, h1], .tuple _ _ (.cons _ _ _ _ h2 (.cons _ _ _ _ (.bool _) .nil))⟩
      · rename_i hfe
        rcases findEntry_sound hk hi hmr hfe with ⟨_, h1⟩ | ⟨j2, v2, u, h0, _⟩
        · cases he
          cases ok
          · exact ⟨zv, by simp [Instr.lookup, hu, hg, hck, Instr.findKey, huk, h1, hzv], hzr⟩
          · exact ⟨.tuple #[zv, .bool false], by simp [Instr.lookup, hu, hg, hck, Instr.findKey, huk, h1, hzv], .tuple _ _ (.cons _ _ _ _ hzr (.cons _ _ _ _ (.bool _) .nil))⟩
        · cases h0
      · cases he
  · cases he

theorem MRels.length {es : List (AVal × AVal × Nat)} {fs : List MapEntry} (h : MRels φ es fs) : es.length = fs.length := by
  induction h <;> simp_all

theorem extract_sound {a b : AVal} {x : Value} {i : Nat} (ha : VRel φ a x) (he : evalRead h (.extract a i) = some b) : Gives P φ w (Instr.extract x i) b := by
  cases ha <;> simp only [evalRead, reduceCtorEq] at he
  rename_i as c hc
  obtain ⟨v, hv, hr⟩ := hc.get he
  simp only [Array.getElem?_toList] at hv
  exact ⟨v, by simp [Instr.extract, hv], hr⟩

theorem foldMM_sound {mx : Bool} {k : IntKind} : ∀ {ys : List AVal} {vs : List Value} {a n : Int}, VRels φ ys vs → foldMM mx k a ys = some n →
    (vs.foldlM (if mx then Builtin.max2 else Builtin.min2) (.int k a)).run P w = .ok (.int k n) w := by
  intro ys
  induction ys with
  | nil => intro vs a n h e; cases h; simp [foldMM] at e; subst e; simp
  | cons y ys ih =>
    intro vs a n h e
    cases h with
    | cons _ v _ vs hy hs =>
      cases hy <;> first | (simp only [foldMM, reduceCtorEq] at e; done) | skip
      rename_i l b
      simp only [foldMM] at e
      split at e
      · have := ih hs e
        rw [List.foldlM_cons, Sem.run_bind]
        cases mx
        · simp only [Bool.false_eq_true, if_false] at this ⊢
          simp only [Builtin.min2, Sem.run_pure, Result.andThen_ok]
          exact this
        · simp only [if_true] at this ⊢
          simp only [Builtin.max2, Sem.run_pure, Result.andThen_ok, gt_iff_lt]
          exact this
      · cases e

end
end Go.AM
