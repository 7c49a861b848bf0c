import Derived.Test.YtpjdgiiphohjeaaGreatDoorOwn6
namespace Go.AM
open Go.Proofs Go.RowKit Go.Maps Go.Sort Go.Shelf

/-- How a map's values read, where nobody looks at them. -/
def readAll (_ : Value) : Option (DataW Unit × List MemPlace) := some (.nil, [])

theorem keys_rel {φ : Map} : ∀ {es : List (AVal × AVal × Nat)} {fs : List MapEntry}, MRels φ es fs → ∀ {ks : List Int}, intKeysA es = some ks →
    fs.map (·.key) = ks.map (.int .i64 ·) ∧ ∀ k ∈ ks, -9223372036854775808 ≤ k ∧ k < 9223372036854775808 := by
  intro es fs hR
  induction hR with
  | nil => intro ks h; simp [intKeysA] at h; subst h; simp
  | cons k v b e es fs hk hv hb _ ih =>
    intro ks h
    cases hk' : k with
    | int q n =>
      subst hk'
      cases q with
      | i64 =>
        simp only [intKeysA] at h
        split at h
        case h_2 => cases h
        rename_i r h1 h2
        cases h
        obtain ⟨i1, i2⟩ := ih h2
        simp only [Bool.and_eq_true, decide_eq_true_eq] at h1
        refine ⟨?_, ?_⟩
        · rw [List.map_cons, List.map_cons, i1]
          generalize e.key = ek at hk
          cases hk
          rfl
        · intro k hk
          rcases List.mem_cons.1 hk with rfl | hk
          · exact h1
          · exact i2 k hk
      | _ => simp [intKeysA] at h
    | _ => subst hk'; simp [intKeysA] at h

theorem once_nodup : ∀ (ks : List Int), onceI ks = true → ks.Nodup := by
  intro ks
  induction ks with
  | nil => intro _; exact .nil
  | cons x xs ih =>
    intro h
    simp only [onceI] at h
    split at h
    · rename_i h1
      rw [List.nodup_cons]
      refine ⟨fun hm => ?_, ih h⟩
      have := List.all_eq_true.1 h1 x hm
      simp at this
    · cases h

theorem wf64 {n : Int} (h1 : -9223372036854775808 ≤ n) (h2 : n < 9223372036854775808) : (Lit.int .i64 n).wf = true := WalkArith.wf_i64 (by omega)

/-- A map of numbers, as the kit's contracts want it. -/
theorem owns_of {φ : Map} {h : Heap} {w : World} (R : HRel φ h w) {id : Nat} {M : Loc} (hM : φ id = some M) {es : List (AVal × AVal × Nat)} {clock : Nat} (hm : h.get id = some (.map es clock)) (hs : stampsOk clock es 0 = true)
    {ks : List Int} (hk : intKeysA es = some ks) (ho : onceI ks = true) (hl : ks.length ≤ 1000000) :
    ∃ D0 : DataW Unit, w.ownsMap Tryz.prog 3 readAll M.block 1000000 D0 ∧ (intKeys D0).Perm ks := by
  obtain ⟨fs, hb, hrels⟩ := R.obj id M _ hM hm
  obtain ⟨s1, s2, _, _⟩ := Go.Proofs.YtpjdgiiphohjeaaGreatDoor.stamps_rel hrels 0 hs
  obtain ⟨k1, k2⟩ := keys_rel hrels hk
  have hlen : fs.size = ks.length := by
    have := congrArg List.length k1
    simpa using this
  have hkey : ∀ x ∈ fs.toList, ∃ n ∈ ks, x.key = .int .i64 n := by
    intro x hx
    have : x.key ∈ ks.map (Value.int IntKind.i64 ·) := by rw [← k1]; exact List.mem_map_of_mem hx
    obtain ⟨n, hn, e⟩ := List.mem_map.1 this
    exact ⟨n, hn, e.symm⟩
  have hkof : ∀ n ∈ ks, keyOf Tryz.prog 3 (.int .i64 n) = some (.int .i64 n) := fun n hn => keyOf_int_mk Tryz.underlying3 (wf64 (k2 n hn).1 (k2 n hn).2)
  have hrd : ∀ x ∈ fs.toList, ∃ n ∈ ks, x.key = .int .i64 n ∧ WideElems.rd Tryz.prog 3 readAll x = some (.int .i64 n, .nil) := by
    intro x hx
    obtain ⟨n, hn, e⟩ := hkey x hx
    exact ⟨n, hn, e, by unfold WideElems.rd; rw [e, hkof n hn]; rfl⟩
  refine ⟨.map ((fs.toList.map (WideElems.rg Tryz.prog 3 readAll)).foldr DataW.insert []), ⟨fs, clock, hb, ⟨by unfold maxLen; omega, ⟨fun x hx => (s1 x hx).2, s2, ?_⟩, fun x hx => ?_⟩, by omega, rfl⟩, ?_⟩
  · rw [k1]
    exact List.Pairwise.map _ (fun a b (hab : a ≠ b) => by simpa using hab) (once_nodup ks ho)
  · obtain ⟨n, _, _, e⟩ := hrd x hx
    exact ⟨_, e⟩
  · have p := (WideShapes.sorted_perm (fs.toList.map (WideElems.rg Tryz.prog 3 readAll))).map fun p => intOf p.1
    refine p.trans ?_
    rw [List.map_map]
    have : fs.toList.map ((fun p : Lit × DataW Unit => intOf p.1) ∘ WideElems.rg Tryz.prog 3 readAll) = ks := by
      have e1 : fs.toList.map ((fun p : Lit × DataW Unit => intOf p.1) ∘ WideElems.rg Tryz.prog 3 readAll) = (fs.toList.map (·.key)).map (fun v => match v with | .int _ n => n | _ => 0) := by
        rw [List.map_map]
        refine List.map_congr_left fun x hx => ?_
        obtain ⟨n, _, e, e2⟩ := hrd x hx
        simp [WideElems.rg, e2, e]
        rfl
      rw [e1, k1, List.map_map]
      simp [Function.comp_def]
    rw [this]

/-- The rule of slices.Sorted, at an iterator over a map's keys. -/
theorem sorted_own {ρ : Ren} (L : SlLaysZI.n10 Tryz.prog ρ) (h26 : ρ.t 26 = 3) (eg : ∀ args w, (callFunc (ρ.f 10) args).run Tryz.prog w = .ok (.enter (ρ.f 10) args) w) {fl : List Nat} {args : List AVal} {h h' : Heap} {a : AVal}
    (hf : ∀ f b x, args = [.func f [] [.ptr b x]] → f = ρ.f 10) (he : sortedB fl args h = some (a, h')) {φ : Map} {w : World} {args' : Array Value} (R : HRel φ h w) (V : VRels φ args args'.toList) (hk : Known Tryz.prog 256) :
    Known Tryz.prog 256 ∧ Calls Tryz.prog 256 args' w (CallOk φ h w a h') := by
  unfold sortedB at he
  split at he
  case h_2 => cases he
  rename_i f bx
  obtain rfl := hf f bx 0 rfl
  split at he
  case h_2 => cases he
  rename_i id rest hin hg
  split at he
  case h_2 => cases he
  rename_i es clock hm
  split at he
  case h_2 => cases he
  rename_i ks hstamps hks
  split at he
  case h_2 => cases he
  rename_i hok
  simp only [Bool.and_eq_true] at hok
  have hlen : ks.length ≤ 1000000 := by simpa using hok.2
  obtain ⟨xs⟩ := args'
  cases V with | cons _ x1 _ xs1 V1 Vs =>
  cases Vs
  cases V1 with | func _ _ _ c d V2 V3 =>
  obtain ⟨c⟩ := c
  obtain ⟨d⟩ := d
  cases V2
  cases V3 with | cons _ y1 _ ys1 V4 Vs =>
  cases Vs
  cases V4 with | ptr _ _ Lb hLb =>
  obtain ⟨mv, hc, hmv⟩ := R.cell hLb hg (off := 0) rfl
  cases hmv with | map _ M hM =>
  obtain ⟨D0, hown, hperm⟩ := owns_of R hM hm hstamps hks hok.1 hlen
  have hseq := givesAt L Fence.wide 2 trivial rfl (by omega) Lb.block (Lb.shift + 0) M.block 1000000 D0 w (R.rng bx Lb hLb).2 hc (by rw [h26]; exact hown)
  have hsz : Maps.size D0 ≤ 1000000 := hown.size_le
  have hw := sortedAt (ρ.f 10) eg Lb.block (Lb.shift + 0) _ _ hsz w hseq
  have hsort : ∀ ss : List Int, ss.Perm (intKeys D0) → ss.mergeSort (fun x y => decide (x ≤ y)) = sortI ks := fun ss hp => sortI_merge (hp.trans hperm)
  split at he
  · -- no keys
    cases he
    refine own_below hk R .nilslice (hw.mono ?_)
    rintro e w' ⟨v, ss, rfl, hp, _, hnil, hb⟩
    have : ss = [] := (hp.trans hperm).eq_nil
    rw [hnil.2 this]
    exact ⟨rfl, hb⟩
  · rename_i hne
    cases he
    have hlen2 : (sortI ks).length = ks.length := (sortI_perm ks).length_eq
    have hz : sortI ks ≠ [] := fun e => hne (List.eq_nil_of_length_eq_zero (by rw [← hlen2, e]; rfl))
    have := own_row (e := 3) hk R (sortI ks) hz (hw.mono (by
      rintro e w' ⟨v, ss, rfl, hp, hrow, _, hb⟩
      have h1 : ss.length = (sortI ks).length := ((hp.trans hperm).trans (sortI_perm ks).symm).length_eq
      rw [hsort ss hp, h1] at hrow
      exact ⟨v, rfl, hrow, hb⟩))
    rw [hlen2] at this
    exact this
end Go.AM
