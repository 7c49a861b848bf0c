import Derived.Test.YtpjdgiiphohjeaaGreatDoorOwn3
import Derived.Test.YtpjdgiiphohjeaaGreatDoorOwnDef
import Derived.Test.YtpjdgiiphohjeaaGreatDoorAm26
namespace Go.Proofs.YtpjdgiiphohjeaaGreatDoor
open Go.RowKit Go.AM

set_option maxHeartbeats 1000000 in
theorem indexEmpty (p : Option Addr) (cap : Nat) (b o : Nat) (w : World) :
    Calls Tryz.prog 209 #[.slice p 0 cap, .func (.func 157) #[] #[.pointer (some ⟨b, o, none⟩)]] w fun e w' => e = .returned (.int .i64 (-1)) ∧ w' = w := by
  go_enter Tryz.func209, Tryz.ntmps209
  go_wp2
  go_loopw [8] (fun i w' => i = .int .i64 0 ∧ w' = w) (fun _ _ => 0)
  case atStart => exact ⟨rfl, rfl⟩
  case round =>
    obtain ⟨rfl, rfl⟩ := hrel
    go_wp2
    go_ret
    exact ⟨rfl, rfl⟩

set_option maxHeartbeats 1000000 in
/-- At an empty slice. -/
theorem containsEmpty (p : Option Addr) (cap : Nat) (b o : Nat) (w : World) :
    Calls Tryz.prog 154 #[.slice p 0 cap, .func (.func 157) #[] #[.pointer (some ⟨b, o, none⟩)]] w fun e w' => e = .returned (.bool false) ∧ w' = w := by
  go_enter Tryz.func154, Tryz.ntmps154
  go_wp2_with (go_at_call 209; refine (indexEmpty p cap b o _).mono ?_; rintro e w' ⟨rfl, rfl⟩)
  go_ret
  exact ⟨rfl, rfl⟩

theorem pairs_get : ∀ (n : Nat) (cs : List AVal), pairsOk cs = true → cs.length = n * 2 → ∀ i, i < n → ∃ a y, cs[i * 2]? = some (.int .i64 a) ∧ cs[i * 2 + 1]? = some y := by
  intro n
  induction n with
  | zero => intro cs _ _ i hi; omega
  | succ n ih =>
    intro cs hp hl i hi
    match cs, hp, hl with
    | .int .i64 a :: y :: rest, hp, hl =>
      cases i with
      | zero => exact ⟨a, y, rfl, rfl⟩
      | succ i =>
        have h1 := ih rest hp (by simp at hl; omega) i (by omega)
        rw [show (i + 1) * 2 = i * 2 + 2 from by omega, show i * 2 + 2 + 1 = (i * 2 + 1) + 2 from by omega]
        simpa using h1
    | [], _, hl => simp at hl
    | [.int k a], hp, _ => cases k <;> simp [pairsOk] at hp

theorem hitsIn_iff (m : Int) : ∀ (n : Nat) (cs : List AVal), pairsOk cs = true → cs.length = n * 2 → (hitsIn m cs = true ↔ ∃ i, i < n ∧ cs[i * 2]? = some (.int .i64 m)) := by
  intro n
  induction n with
  | zero =>
    intro cs _ hl
    have : cs = [] := List.eq_nil_of_length_eq_zero (by omega)
    subst this
    simp [hitsIn]
  | succ n ih =>
    intro cs hp hl
    match cs, hp, hl with
    | .int .i64 a :: y :: rest, hp, hl =>
      have h1 := ih rest hp (by simp at hl; omega)
      simp only [hitsIn]
      by_cases ha : a = m
      · subst ha
        simp only [decide_true, true_iff]
        exact ⟨0, by omega, rfl⟩
      · simp only [ha, decide_false]
        rw [h1]
        constructor
        · rintro ⟨i, hi, hc⟩
          exact ⟨i + 1, by omega, by rw [show (i + 1) * 2 = i * 2 + 2 from by omega]; simpa using hc⟩
        · rintro ⟨i, hi, hc⟩
          cases i with
          | zero => simp at hc; exact absurd hc ha
          | succ i => exact ⟨i, by omega, by rw [show (i + 1) * 2 = i * 2 + 2 from by omega] at hc; simpa using hc⟩
    | [], _, hl => simp at hl
    | [.int k a], hp, _ => cases k <;> simp [pairsOk] at hp

/-- An entry's value, as the small machine shows it. -/
theorem says {φ : Map} {h : Heap} {w : World} (R : HRel φ h w) {v : AVal} {x : MapEntry} (hv : VRel φ v x.val) {n : Nat} {cs : List AVal} (hs : shown h 2 v = some (n, cs)) (hp : pairsOk cs = true) (hn : n ≤ 1000000) (m : Int) :
    Says w m w.heap.size x (hitsIn m cs) := by
  intro W hb hc hbb
  have hlen : cs.length = n * 2 := (shown_sound (P := Tryz.prog) R hv hs).1
  cases v with
  | nilslice =>
    simp only [shown, Option.some.injEq, Prod.mk.injEq] at hs
    obtain ⟨rfl, rfl⟩ := hs
    generalize x.val = xv at hv
    cases hv
    exact (containsNil _ _ _).mono fun e w' ⟨h1, h2⟩ => ⟨h1, by rw [h2]; exact Below.refl _ _⟩
  | str s => simp [shown] at hs
  | slice id off len cap =>
    simp only [shown] at hs
    split at hs
    case h_2 => cases hs
    rename_i vs hg
    split at hs
    case h_2 => cases hs
    rename_i cs' ht
    simp only [Option.some.injEq, Prod.mk.injEq] at hs
    obtain ⟨e1, e2⟩ := hs
    have e2 := e2.symm
    subst e2
    subst e1
    obtain ⟨L, a, c, hL, hx, hle, ha⟩ : ∃ (L : AM.Loc) (a : Addr) (c : Nat), φ id = some L ∧ x.val = .slice (some a) len c ∧ len ≤ c ∧ (c ≠ 0 → a = L.at_ off) := by
      generalize x.val = xv at hv
      cases hv with
      | exact _ _ _ c L a h1 h2 h3 => exact ⟨L, a, c, h1, rfl, h2, h3⟩
      | upto _ _ _ e c L a h1 h2 h3 h4 => exact ⟨L, a, c, h1, rfl, h2, h3⟩
    rw [hx]
    by_cases h0 : len = 0
    · subst h0
      have : cs = [] := List.eq_nil_of_length_eq_zero (by omega)
      subst this
      exact (containsEmpty _ _ _ _ _).mono fun e w' ⟨h1, h2⟩ => ⟨h1, by rw [h2]; exact Below.refl _ _⟩
    · have hae := ha (by omega)
      subst hae
      obtain ⟨us, hu1, hu2, hu3⟩ := R.cells hL hg ht
      have hLb := (R.rng id L hL).2
      have key : ∀ i, i < len → ∃ a y, cs[i * 2]? = some (.int .i64 a) ∧ W.cell? ⟨L.block, L.shift + off + i * 2, none⟩ = some (.int .i64 a) ∧ W.cell? ⟨L.block, L.shift + off + i * 2 + 1, none⟩ = some y := by
        intro i hi
        obtain ⟨a, y, h1, h2⟩ := pairs_get len cs hp hlen i hi
        obtain ⟨v1, k1, k2⟩ := hu1.get h1
        obtain ⟨v2, k3, k4⟩ := hu1.get h2
        have c1 := hu3 _ _ k1
        have c2 := hu3 _ _ k3
        cases k2
        refine ⟨a, v2, h1, ?_, ?_⟩
        · rw [hb.cell (p := ⟨L.block, L.shift + off + i * 2, none⟩) hLb]
          simpa [Loc.at_, Nat.add_assoc] using c1
        · rw [hb.cell (p := ⟨L.block, L.shift + off + i * 2 + 1, none⟩) hLb]
          simpa [Loc.at_, Nat.add_assoc] using c2
      have hmus := containsIt L.block (L.shift + off) len c (fun i => match cs[i * 2]? with
          | some (.int _ a) => a
          | _ => 0) (fun i => (W.cell? ⟨L.block, L.shift + off + i * 2 + 1, none⟩).getD undef) m w.heap.size 0 W (by omega) hle (fun i hi => by
          obtain ⟨a, y, h1, h2, h3⟩ := key i hi
          simp only [h1, h3]
          exact ⟨h2, rfl⟩) (Nat.lt_of_lt_of_le hLb hb.size) hc hbb
      refine hmus.mono ?_
      rintro e w' ⟨r, rfl, hr, hb'⟩
      refine ⟨?_, hb'⟩
      have : r = hitsIn m cs := by
        rw [Bool.eq_iff_iff, hr, hitsIn_iff m len cs hp hlen]
        constructor
        · rintro ⟨i, hi, he⟩
          obtain ⟨a, y, h1, _⟩ := key i hi
          simp only [h1] at he
          exact ⟨i, hi, by rw [h1, he]⟩
        · rintro ⟨i, hi, he⟩
          exact ⟨i, hi, by simp only [he]⟩
      rw [this]
  | _ => simp [shown] at hs

/-- Stamps, side by side. -/
theorem stamps_rel {φ : Map} {clock : Nat} : ∀ {es : List (AVal × AVal × Nat)} {fs : List MapEntry}, MRels φ es fs → ∀ lo, stampsOk clock es lo = true →
    (∀ x ∈ fs, lo ≤ x.born ∧ x.born < clock) ∧ (fs.map (·.born)).Nodup ∧ (∀ x ∈ fs, ∃ k v, (k, v, x.born) ∈ es ∧ VRel φ k x.key ∧ VRel φ v x.val ∧ es.find? (fun e => e.2.2 == x.born) = some (k, v, x.born)) ∧
    (∀ k v b, (k, v, b) ∈ es → ∃ x ∈ fs, x.born = b ∧ VRel φ k x.key ∧ VRel φ v x.val ∧ es.find? (fun e => e.2.2 == x.born) = some (k, v, b)) := by
  intro es fs hR
  induction hR with
  | nil => intro lo _; exact ⟨by simp, by simp, by simp, by simp⟩
  | cons k v b e es fs hk hv hb _ ih =>
    intro lo hs
    simp only [stampsOk] at hs
    split at hs
    case h_2 => cases hs
    rename_i h1
    split at hs
    case h_2 => cases hs
    rename_i h2
    have h1' : lo ≤ b := by simpa using h1
    have h2' : b < clock := by simpa [Nat.blt_eq] using h2
    obtain ⟨i1, i2, i3, i4⟩ := ih (b + 1) hs
    refine ⟨?_, ?_, ?_, ?_⟩
    · intro x hx
      rcases List.mem_cons.1 hx with rfl | hx
      · omega
      · have := i1 x hx; omega
    · rw [List.map_cons, List.nodup_cons]
      refine ⟨fun hm => ?_, i2⟩
      obtain ⟨y, hy, he⟩ := List.mem_map.1 hm
      have := i1 y hy
      omega
    · intro x hx
      rcases List.mem_cons.1 hx with rfl | hx
      · subst hb
        exact ⟨k, v, List.mem_cons_self, hk, hv, by simp⟩
      · obtain ⟨k', v', m1, m2, m3, m4⟩ := i3 x hx
        have := (i1 x hx).1
        refine ⟨k', v', List.mem_cons_of_mem _ m1, m2, m3, ?_⟩
        rw [List.find?_cons_of_neg (by simp; omega)]
        exact m4
    · intro k' v' b' hm
      rcases List.mem_cons.1 hm with he | hm
      · cases he
        exact ⟨e, List.mem_cons_self, hb, hk, hv, by rw [hb]; simp⟩
      · obtain ⟨x, m1, m2, m3, m4, m5⟩ := i4 k' v' b' hm
        have := (i1 x m1).1
        refine ⟨x, List.mem_cons_of_mem _ m1, m2, m3, m4, ?_⟩
        rw [List.find?_cons_of_neg (by simp; omega)]
        exact m5

theorem ownHits_spec (h : Heap) (m : Int) : ∀ (es : List (AVal × AVal × Nat)) (r : List AVal), ownHits h m es = some r → ∀ k v b, (k, v, b) ∈ es →
    ∃ i n cs, k = .int .i64 i ∧ shown h 2 v = some (n, cs) ∧ pairsOk cs = true ∧ n ≤ 1000000 ∧ (hitsIn m cs = true → k ∈ r) := by
  intro es
  induction es with
  | nil => intro r _ k v b hm; cases hm
  | cons e es ih =>
    obtain ⟨k0, v0, b0⟩ := e
    intro r hr k v b hm
    simp only [ownHits] at hr
    split at hr
    case h_2 => cases hr
    rename_i i n cs r' e1 e2
    split at hr
    case h_2 => cases hr
    rename_i hok
    simp only [Bool.and_eq_true] at hok
    have hn : n ≤ 1000000 := by simpa using hok.2
    cases hr
    rcases List.mem_cons.1 hm with he | hm
    · cases he
      exact ⟨i, n, cs, rfl, e1, hok.1, hn, fun hh => by rw [hh]; simp⟩
    · obtain ⟨i', n', cs', a1, a2, a3, a4, a5⟩ := ih r' e2 k v b hm
      exact ⟨i', n', cs', a1, a2, a3, a4, fun hh => by split <;> simp [a5 hh]⟩

theorem ownHits_mem (h : Heap) (m : Int) : ∀ (es : List (AVal × AVal × Nat)) (r : List AVal), ownHits h m es = some r → ∀ k ∈ r, ∃ v b n cs, (k, v, b) ∈ es ∧ shown h 2 v = some (n, cs) ∧ hitsIn m cs = true := by
  intro es
  induction es with
  | nil => intro r hr k hk; simp [ownHits] at hr; subst hr; cases hk
  | cons e es ih =>
    obtain ⟨k0, v0, b0⟩ := e
    intro r hr k hk
    simp only [ownHits] at hr
    split at hr
    case h_2 => cases hr
    rename_i i n cs r' e1 e2
    split at hr
    case h_2 => cases hr
    cases hr
    have tl : k ∈ r' → ∃ v b n cs, (k, v, b) ∈ ((AVal.int IntKind.i64 i, v0, b0) :: es) ∧ shown h 2 v = some (n, cs) ∧ hitsIn m cs = true := by
      intro hm
      obtain ⟨v, b, n, cs, a1, a2, a3⟩ := ih r' e2 k hm
      exact ⟨v, b, n, cs, List.mem_cons_of_mem _ a1, a2, a3⟩
    split at hk
    · rename_i hh
      rcases List.mem_cons.1 hk with rfl | hk
      · exact ⟨v0, b0, n, cs, List.mem_cons_self, e1, hh⟩
      · exact tl hk
    · exact tl hk

/-- The rule of Owner. -/
theorem owner_own {args : List AVal} {h h' : Heap} {a : AVal} (he : ownerB args h = some (a, h')) {φ : Map} {w : World} {args' : Array Value} (R : HRel φ h w) (V : VRels φ args args'.toList) (hk : Known Tryz.prog 106) :
    Known Tryz.prog 106 ∧ Calls Tryz.prog 106 args' w (CallOk φ h w a h') := by
  unfold ownerB at he
  split at he
  case h_2 => cases he
  rename_i l off m
  split at he
  case h_2 => cases he
  rename_i vs hg
  split at he
  case h_2 => cases he
  rename_i id hvs
  split at he
  case h_2 => cases he
  rename_i es clock hm
  obtain ⟨xs⟩ := args'
  cases V with | cons _ x1 _ xs1 V1 Vs =>
  cases Vs with | cons _ x2 _ xs2 V2 Vs =>
  cases Vs
  cases V1 with | ptr _ _ L hL =>
  cases V2
  -- the map
  obtain ⟨mv, hc, hmv⟩ := R.cell hL hg hvs
  cases hmv with | map _ M hM =>
  obtain ⟨fs, hb, hrels⟩ := R.obj id M _ hM hm
  have hstamps : stampsOk clock es 0 = true := by
    cases hs : stampsOk clock es 0 with
    | true => rfl
    | false => rw [hs] at he; cases he
  obtain ⟨s1, s2, s3, s4⟩ := stamps_rel hrels 0 hstamps
  obtain ⟨r, hr⟩ : ∃ r, ownHits h m es = some r := by
    cases hs : ownHits h m es with
    | some r => exact ⟨r, rfl⟩
    | none => rw [hs, hstamps] at he; cases he
  have spec := ownHits_spec h m es r hr
  let hit : MapEntry → Bool := fun x => match es.find? (fun e => e.2.2 == x.born) with
    | some (_, v, _) => match shown h 2 v with
      | some (_, cs) => hitsIn m cs
      | none => false
    | none => false
  have hitv : ∀ x k v b n cs, es.find? (fun e => e.2.2 == x.born) = some (k, v, b) → shown h 2 v = some (n, cs) → hit x = hitsIn m cs := by
    intro x k v b n cs h1 h2
    show (match es.find? (fun e => e.2.2 == x.born) with
    | some (_, v, _) => match shown h 2 v with
      | some (_, cs) => hitsIn m cs
      | none => false
    | none => false) = _
    rw [h1]
    simp only [h2]
  have hw := ownerIt L.block (L.shift + off) M.block fs clock m hit w (by simpa [Loc.at_, Nat.add_assoc] using hc) (R.rng l L hL).2 hb (fun x hx => (s1 x hx).2) s2
    (fun x hx => by
      obtain ⟨k, v, m1, m2, m3, m4⟩ := s3 x hx
      obtain ⟨i, n, cs, a1, a2, a3, a4, a5⟩ := spec k v _ m1
      subst a1
      generalize x.key = xk at m2
      cases m2
      exact ⟨i, rfl⟩)
    (fun x hx => by
      obtain ⟨k, v, m1, m2, m3, m4⟩ := s3 x hx
      obtain ⟨i, n, cs, a1, a2, a3, a4, a5⟩ := spec k v _ m1
      rw [hitv x k v _ n cs m4 a2]
      exact says R m3 a2 a3 a4 m)
  have fin : ∀ rr : Int, ((∃ x ∈ fs.toList, hit x = true ∧ x.key = .int .i64 rr) ∨ ((∀ x ∈ fs.toList, hit x = false) ∧ rr = -1)) → h' = h ∧ VRel φ a (.int .i64 rr) := by
    intro rr hrr
    rw [hstamps, hr] at he
    split at he
    · -- nobody
      rename_i e1 e2
      cases e2
      cases he
      refine ⟨rfl, ?_⟩
      rcases hrr with ⟨x, hx, hh, _⟩ | ⟨_, rfl⟩
      · exfalso
        obtain ⟨k, v, m1, m2, m3, m4⟩ := s3 x hx
        obtain ⟨i, n, cs, a1, a2, a3, a4, a5⟩ := spec k v _ m1
        rw [hitv x k v _ n cs m4 a2] at hh
        cases a5 hh
      · exact .int _ _
    · rename_i k e1 e2
      cases e2
      cases he
      refine ⟨rfl, ?_⟩
      rcases hrr with ⟨x, hx, hh, hkey⟩ | ⟨hall, _⟩
      · obtain ⟨k', v, m1, m2, m3, m4⟩ := s3 x hx
        obtain ⟨i, n, cs, a1, a2, a3, a4, a5⟩ := spec k' v _ m1
        rw [hitv x k' v _ n cs m4 a2] at hh
        have := a5 hh
        simp only [List.mem_singleton] at this
        subst this
        rw [hkey] at m2
        exact m2
      · exfalso
        obtain ⟨v, b, n, cs, a1, a2, a3⟩ := ownHits_mem h m es _ hr a List.mem_cons_self
        obtain ⟨x, m1, m2, m3, m4, m5⟩ := s4 _ _ _ a1
        have := hall x m1
        rw [hitv x _ _ _ n cs m5 a2, a3] at this
        cases this
    · cases he
  refine ⟨hk, hw.mono ?_⟩
  rintro e w' ⟨rr, rfl, hrr, hbel⟩
  obtain ⟨rfl, hv⟩ := fin rr hrr
  obtain ⟨r', x'⟩ := R.below hbel
  exact ⟨_, φ, rfl, r', x', hv⟩

end Go.Proofs.YtpjdgiiphohjeaaGreatDoor
