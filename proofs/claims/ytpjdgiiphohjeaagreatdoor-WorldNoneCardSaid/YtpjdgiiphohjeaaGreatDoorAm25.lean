import Derived.Test.YtpjdgiiphohjeaaGreatDoorAm24
import Derived.Below
/-! Tables of types and functions, entry by entry. -/
namespace Go.AM
open Go.RowKit

theorem TbOk.leaf (P : Program) : TbOk P .leaf := by
  intro t i h
  rw [Tr.get_leaf] at h
  cases h

theorem TbOk.set {P : Program} {tb : Types} (h : TbOk P tb) (t : TypeId) (d : TypeDesc) (ti : TypeInfo) (held eqg : Bool) (h1 : P.underlying t = some d) (h2 : P.info? t = some ti) (h3 : P.stoodInHeld t = held) (h4 : P.eqGuardType P.depth t = eqg) :
    TbOk P (tb.set t ⟨d, ti.size, ti.bytes, ti.zero, held, eqg⟩) := by
  intro t' i hi
  rw [Tr.get_set] at hi
  split at hi
  · rename_i e
    subst e
    cases hi
    exact ⟨h1, ⟨ti, h2, rfl, rfl, rfl⟩, h3, h4⟩
  · exact h t' i hi

theorem FsOk.leaf (P : Program) (tb : Types) : FsOk P tb .leaf := by
  intro f af h
  rw [Tr.get_leaf] at h
  cases h

theorem FsOk.set {P : Program} {tb : Types} {fs : Tr AFunc} (h : FsOk P tb fs) (n : Nat) (fn : Func) (af : AFunc) (h1 : P.funcs[n]? = some fn) (h2 : compFunc tb fn = some af) (h3 : (fn.name == "runtime.NumGoroutine") = false) : FsOk P tb (fs.set n af) := by
  intro f a hf
  rw [Tr.get_set] at hf
  split at hf
  · rename_i e
    subst e
    cases hf
    exact ⟨fn, h1, h2, h3⟩
  · exact h f a hf

/-- A closed call by the quick twin. -/
theorem closed {P : Program} {tb : Types} (T : TbOk P tb) {fs : Tr AFunc} (F : FsOk P tb fs) {own : FuncId → Option (List AVal → Heap → Option (AVal × Heap))} (O : OwnSound P own) (hm : P.follows .mixedOrders = true)
    {n : Nat} {f : FuncId} {args : List AVal} {h h' : Heap} {a : AVal} (he : (runQ fs own n).call f args h = some (a, h')) (hk : own f = none) {φ : Map} {w : World} {args' : Array Value} (R : HRel φ h w) (V : VRels φ args args'.toList) :
    Calls P f args' w (CallOk φ h w a h') := by
  rw [runQ_eq] at he
  cases n with
  | zero => cases he
  | succ n =>
    have S := run_sound T F O hm n
    have he' : callS fs own (run fs own n) f args h = some (a, h') := he
    rcases callS_sound T F O hm S.1 S.2 f args h a h' he' φ w args' R V with ⟨_, hc⟩ | ⟨v, w', φ', c1, _⟩
    · exact hc
    · exfalso
      -- a function of the table is entered
      unfold callS at he'
      rw [hk] at he'
      simp only [] at he'
      split at he'
      · cases he'
      · rename_i af haf
        obtain ⟨fn, h1, h2, h3⟩ := F f af haf
        have hb : fn.body.isNone = false := by
          unfold compFunc at h2
          split at h2
          · cases h2
          · rename_i c hc; rw [hc]; rfl
        rw [run_callFunc ⟨fn, h1, h3, hb⟩] at c1
        cases c1

/-- Memory that is not known. -/
theorem HRel.none (w : World) : HRel (fun _ => Option.none) Heap.empty w := ⟨fun _ _ e => (by cases e), fun _ _ _ e => (by cases e), fun _ _ _ _ _ _ e => (by cases e)⟩

theorem below_of_ext {w w' : World} {φ' : Map} {h' : Heap} (x : Ext (fun _ => Option.none) Heap.empty w φ' h' w') : Below w.heap.size w w' where
  os := x.os
  tape := x.tape
  output := x.output
  size := x.size
  block k hk := x.frame k hk (by rintro ⟨_, _, _, e, _⟩; cases e)

/-- A closed call that answers true, from whatever world. -/
theorem closed_true {P : Program} {tb : Types} (T : TbOk P tb) {fs : Tr AFunc} (F : FsOk P tb fs) {own : FuncId → Option (List AVal → Heap → Option (AVal × Heap))} (O : OwnSound P own) (hm : P.follows .mixedOrders = true)
    {n : Nat} {f : FuncId} {args : List AVal} {h' : Heap} {b : Bool} (he : (runQ fs own n).call f args Heap.empty = some (.bool b, h')) (hk : own f = Option.none) (w : World) {args' : Array Value} (V : VRels (fun _ => Option.none) args args'.toList) :
    Calls P f args' w fun e w' => e = .returned (.bool b) ∧ Below w.heap.size w w' := by
  refine (closed T F O hm he hk (HRel.none w) V).mono fun e w' hok => ?_
  obtain ⟨v, φ', rfl, _, x, hv⟩ := hok
  cases hv
  exact ⟨rfl, below_of_ext x⟩

end Go.AM
