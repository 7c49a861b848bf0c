import Derived.Test.YtpjdgiiphohjeaaGreatDoorSeatFs
import Derived.Test.YtpjdgiiphohjeaaGreatDoorOwnDef
open Go Go.AM Go.Proofs Go.RowKit
namespace Go.AM
noncomputable section
def ownS : FuncId → Option (List AVal → Heap → Option (AVal × Heap)) := fun f => match Nat.beq f 106, Nat.beq f 256 with
  | true, _ => some ownerB
  | _, true => some (sortedB [287, 342, 407])
  | _, _ => none
end

/-- The value is true. -/
def okB : Option (AVal × Heap) → Bool
  | some (.bool b, h) => b && Nat.ble 0 h.next
  | _ => false
theorem okB_spec {r : Option (AVal × Heap)} (h : okB r = true) : ∃ h', r = some (.bool true, h') := by
  unfold okB at h
  split at h
  · rename_i b h'
    simp only [Bool.and_eq_true] at h
    exact ⟨h', by rw [h.1]⟩
  · cases h

theorem execSQ_seq (call : FuncId → List AVal → Heap → Option (AVal × Heap)) (again : ACode → Env → Heap → Option (AExit × Env × Heap)) (a b : ACode) (e : Env) (h : Heap) :
    execSQ call again (.seq a b) e h = match execSQ call again a e h with
      | some (.normal, e, h) => execSQ call again b e h
      | r => r := rfl

/-- What is left of a body: its value. -/
noncomputable def leaves (rs : List AResult) (x : Option (AExit × Env × Heap)) : Option (AVal × Heap) :=
  match x with
  | some (.normal, e, h) | some (.ret, e, h) => match resultsOf e h rs with
    | some vs => some (oneOrTuple vs, h)
    | none => none
  | _ => none

/-- The codes of a body that looks at a length first. -/
def headOf : ACode → ACode
  | .seq a _ => a
  | c => c
def restOf : ACode → ACode
  | .seq _ b => b
  | c => c

noncomputable def bodyK : ACode := restOf c5.body
noncomputable def e1 (v : Value) (n : Nat) (b : Bool) : Env := put (some 6) (.bool b) (put (some 5) (.int .i64 n) (put (some 4) (.raw v) (put (some 2) (.bool false) (enter [.raw v] 0 .leaf))))
noncomputable def tailK (v : Value) (n : Nat) (b : Bool) : Option (AVal × Heap) :=
  leaves c5.results (match execSQ (runQ fs9 ownS 100000).call (runQ fs9 ownS 100000).again (restOf (headOf bodyK)) (e1 v n b) Heap.empty with
    | some (.normal, e, h) => execSQ (runQ fs9 ownS 100000).call (runQ fs9 ownS 100000).again (restOf bodyK) e h
    | r => r)

set_option maxRecDepth 100000
theorem tailK_true (v : Value) (n : Nat) : okB (tailK v n true) = true := by kernel_rfl
theorem tailK_false (v : Value) (n : Nat) : okB (tailK v n false) = true := by kernel_rfl

theorem c5_body : c5.body = .seq (headOf c5.body) (.seq (.seq (headOf (headOf bodyK)) (restOf (headOf bodyK))) (restOf bodyK)) := by kernel_rfl
theorem K0 (call : FuncId → List AVal → Heap → Option (AVal × Heap)) (again : ACode → Env → Heap → Option (AExit × Env × Heap)) (v : Value) (h : Heap) :
    execSQ call again (headOf c5.body) (enter [.raw v] 0 .leaf) h = some (.normal, put (some 2) (.bool false) (enter [.raw v] 0 .leaf), h) := by kernel_rfl
theorem K1 (call : FuncId → List AVal → Heap → Option (AVal × Heap)) (again : ACode → Env → Heap → Option (AExit × Env × Heap)) (a : Option Addr) (n c : Nat) (h : Heap) :
    execSQ call again (headOf (headOf bodyK)) (put (some 2) (.bool false) (enter [.raw (.slice a n c)] 0 .leaf)) h = some (.normal, e1 (.slice a n c) n (decide ((100 : Int) < (n : Int))), h) := by kernel_rfl
theorem get5 : fs9.get 5 = some c5 := by kernel_rfl
theorem own5 : ownS 5 = none := by kernel_rfl

theorem callK (a : Option Addr) (n c : Nat) : (runQ fs9 ownS 100001).call 5 [.raw (.slice a n c)] Heap.empty = tailK (.slice a n c) n (decide ((100 : Int) < (n : Int))) := by
  show callSQ fs9 ownS (runQ fs9 ownS 100000) 5 [.raw (.slice a n c)] Heap.empty = _
  unfold callSQ
  rw [own5, get5]
  simp only []
  rw [c5_body, execSQ_seq, K0]
  simp only []
  rw [execSQ_seq, execSQ_seq, K1]
  rfl
end Go.AM
