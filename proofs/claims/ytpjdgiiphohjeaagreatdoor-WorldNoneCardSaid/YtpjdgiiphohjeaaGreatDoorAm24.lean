import Derived.Test.YtpjdgiiphohjeaaGreatDoorAm23
/-! A quick twin of the small machine: one look at each operation, small bodies. -/
namespace Go.AM
noncomputable section

def ret (h : Heap) : Option AVal → Option (AVal × Heap)
  | some v => some (v, h)
  | none => none
def retA (h : Heap) : Option (AObj × (Nat → AVal)) → Option (AVal × Heap)
  | some (obj, mk) => some (mk h.next, h.push obj)
  | none => none

def qPick (c a b : AVal) : Option AVal := match c with
  | .bool c => some (match c with | true => a | false => b)
  | _ => none
def qBuild (z : List AVal) (ps : List (Nat × Nat × AVal)) : Option AVal := (fillAll z ps).map .agg
def qLoad1 (h : Heap) (a : AVal) : Option AVal := match a with
  | .ptr id off => match getCells h id with
    | some vs => vs[off]?
    | none => none
  | _ => none
def qLoadN (h : Heap) (n : Nat) (a : AVal) : Option AVal := match a with
  | .ptr id off => match getCells h id with
    | some vs => (takeAt vs off n).map .agg
    | none => none
  | _ => none
def qNil (a : AVal) : Option AVal := match a with
  | .ptr a b => some (.ptr a b)
  | .func f a b => some (.func f a b)
  | _ => none
def qNot (a : AVal) : Option AVal := match a with
  | .bool b => some (.bool (!b))
  | _ => none
def qNeg (a : AVal) : Option AVal := match a with
  | .int k n => some (.int k (wrapF k (0 - n)))
  | _ => none
def qUn (op : UnOp) (a : AVal) : Option AVal := match op with
  | .not => qNot a
  | .neg => qNeg a
  | _ => none
def qConvI (k : IntKind) (a : AVal) : Option AVal := match a with
  | .int _ n => some (.int k (wrapF k n))
  | _ => none
def qField1 (o : Nat) (a : AVal) : Option AVal := match a with
  | .agg cs => cs[o]?
  | _ => none
def qFieldN (o n : Nat) (a : AVal) : Option AVal := match a with
  | .agg cs => (takeAt cs o n).map .agg
  | _ => none
def qFieldAddr (o : Nat) (a : AVal) : Option AVal := match a with
  | .ptr id off => some (.ptr id (off + o))
  | _ => none
def qIdx (len : Nat) (i : AVal) : Option Nat := match asNat i len with
  | some i => match Nat.blt i len with
    | true => some i
    | false => none
  | none => none
def qIdxAddrA (len esz : Nat) (a i : AVal) : Option AVal := match a with
  | .ptr id off => (qIdx len i).map fun i => .ptr id (off + i * esz)
  | _ => none
def qIdxAddrS (esz : Nat) (a i : AVal) : Option AVal := match a with
  | .slice id off len _ => (qIdx len i).map fun i => .ptr id (off + i * esz)
  | _ => none
def qExtract (a : AVal) (i : Nat) : Option AVal := match a with
  | .tuple vs => vs[i]?
  | _ => none
def qLenS (a : AVal) : Option AVal := match a with
  | .slice _ _ n _ => some (.int .i64 n)
  | .nilslice => some (.int .i64 0)
  | _ => none
def qLookup (h : Heap) (kk : Leaf) (z m k : AVal) (ok : Bool) : Option AVal := match entriesOf h m with
  | some es => match findEntry kk k es 0 with
    | some (some (_, v)) => some (match ok with | true => .tuple [v, .bool true] | false => v)
    | some none => some (match ok with | true => .tuple [z, .bool false] | false => z)
    | none => none
  | none => none
def qBox (x : AVal) : Option (AObj × (Nat → AVal)) := match x.cells.all AVal.one with
  | true => some (.cells .rw x.cells, fun id => .ptr id 0)
  | false => none
def qStore1 (h : Heap) (a x : AVal) : Option (AVal × Heap) := match a with
  | .ptr id off => (putAt h id off [x]).map fun h => (undefA, h)
  | _ => none
def qStoreN (h : Heap) (n : Nat) (a x : AVal) : Option (AVal × Heap) := match a with
  | .ptr id off => match Nat.beq x.cells.length n with
    | true => (putAt h id off x.cells).map fun h => (undefA, h)
    | false => none
  | _ => none
def qCall (call : FuncId → List AVal → Heap → Option (AVal × Heap)) (h : Heap) (g : AVal) (args : List AVal) : Option (AVal × Heap) := match g with
  | .func f first captured => call f (first ++ args ++ captured) h
  | _ => none

/-- An operation, its operands by 'f'. -/
def opQ {α : Type} (call : FuncId → List AVal → Heap → Option (AVal × Heap)) (f : α → AVal) (h : Heap) (o : AOp α) : Option (AVal × Heap) :=
  match o with
  | .mov x => some (f x, h)
  | .pick c a b => ret h (qPick (f c) (f a) (f b))
  | .box x => retA h (qBox (f x))
  | .build z ps => ret h (qBuild z (ps.map fun p => (p.1, p.2.1, f p.2.2)))
  | .load1 a => ret h (qLoad1 h (f a))
  | .loadN n a => ret h (qLoadN h n (f a))
  | .store1 a x => qStore1 h (f a) (f x)
  | .storeN n a x => qStoreN h n (f a) (f x)
  | .nilCheck x => ret h (qNil (f x))
  | .bin op p x y => ret h (evalBin h op p (f x) (f y))
  | .un op x => ret h (qUn op (f x))
  | .mkIface t x => some (.iface t (f x), h)
  | .mkFunc g a b => some (.func g (a.map f) (b.map f), h)
  | .fieldAddr o x => ret h (qFieldAddr o (f x))
  | .field1 o x => ret h (qField1 o (f x))
  | .fieldN o n x => ret h (qFieldN o n (f x))
  | .idxAddrA l e x i => ret h (qIdxAddrA l e (f x) (f i))
  | .idxAddrS e x i => ret h (qIdxAddrS e (f x) (f i))
  | .lookup kk z x i ok => ret h (qLookup h kk z (f x) (f i) ok)
  | .extract x i => ret h (qExtract (f x) i)
  | .append e b s x => appendTo h e b (f s) (f x)
  | .call g args => qCall call h (f g) (args.map f)
  | o => evalOp call h (o.map f)

theorem opQ_eq {α : Type} (call : FuncId → List AVal → Heap → Option (AVal × Heap)) (f : α → AVal) (h : Heap) (o : AOp α) : opQ call f h o = evalOp call h (o.map f) := by
  cases o
  case mov x => rfl
  case pick c a b => simp only [opQ, evalOp, AOp.map, AOp.cls]; generalize f c = u; cases u <;> rfl
  case box x => simp only [opQ, evalOp, AOp.map, AOp.cls, evalAlloc, qBox]; cases (f x).cells.all AVal.one <;> rfl
  case build z ps => simp only [opQ, evalOp, AOp.map, AOp.cls, evalRead, qBuild]; cases fillAll z (ps.map fun p => (p.1, p.2.1, f p.2.2)) <;> rfl
  case load1 a => simp only [opQ, evalOp, AOp.map, AOp.cls]; generalize f a = u; cases u <;> rfl
  case loadN n a => simp only [opQ, evalOp, AOp.map, AOp.cls]; generalize f a = u; cases u <;> rfl
  case store1 a x => simp only [opQ, evalOp, AOp.map, AOp.cls]; generalize f a = u; cases u <;> rfl
  case storeN n a x => simp only [opQ, evalOp, AOp.map, AOp.cls]; generalize f a = u; cases u <;> rfl
  case nilCheck x => simp only [opQ, evalOp, AOp.map, AOp.cls]; generalize f x = u; cases u <;> rfl
  case bin op p x y => simp only [opQ, evalOp, AOp.map, AOp.cls, evalRead]; cases evalBin h op p (f x) (f y) <;> rfl
  case un op x => simp only [opQ, evalOp, AOp.map, AOp.cls]; generalize f x = u; cases op <;> cases u <;> rfl
  case mkIface t x => rfl
  case mkFunc g a b => rfl
  case fieldAddr o x => simp only [opQ, evalOp, AOp.map, AOp.cls]; generalize f x = u; cases u <;> rfl
  case field1 o x => simp only [opQ, evalOp, AOp.map, AOp.cls]; generalize f x = u; cases u <;> rfl
  case fieldN o n x => simp only [opQ, evalOp, AOp.map, AOp.cls]; generalize f x = u; cases u <;> rfl
  case idxAddrA l e x i =>
    simp only [opQ, evalOp, AOp.map, AOp.cls]; generalize f x = u
    cases u <;> try rfl
    simp only [evalRead, qIdxAddrA, qIdx]
    cases asNat (f i) l with
    | none => rfl
    | some j => simp only []; cases Nat.blt j l <;> rfl
  case idxAddrS e x i =>
    simp only [opQ, evalOp, AOp.map, AOp.cls]; generalize f x = u
    cases u <;> try rfl
    rename_i id off len c
    simp only [evalRead, qIdxAddrS, qIdx]
    cases asNat (f i) len with
    | none => rfl
    | some j => simp only []; cases Nat.blt j len <;> rfl
  case lookup kk z x i ok =>
    simp only [opQ, evalOp, AOp.map, AOp.cls, evalRead, qLookup]
    cases entriesOf h (f x) with
    | none => rfl
    | some es =>
      simp only []
      cases findEntry kk (f i) es 0 with
      | none => rfl
      | some r => cases r <;> rfl
  case extract x i => simp only [opQ, evalOp, AOp.map, AOp.cls]; generalize f x = u; cases u <;> rfl
  case append e b s x => rfl
  case call g args => simp only [opQ, evalOp, AOp.map, AOp.cls]; generalize f g = u; cases u <;> rfl
  all_goals rfl

section
variable (call : FuncId → List AVal → Heap → Option (AVal × Heap))

def execOpsQ : List AOper → Env → Heap → Option (Env × Heap)
  | [], e, h => some (e, h)
  | o :: os, e, h => match wantedA e o.guard with
    | false => execOpsQ os (put o.dst undefA e) h
    | true => match opQ call (look e) h o.op with
      | some (v, h) => execOpsQ os (put o.dst v e) h
      | none => none

theorem execOpsQ_eq : ∀ os e h, execOpsQ call os e h = execOps call os e h := by
  intro os
  induction os with
  | nil => intro e h; rfl
  | cons o os ih =>
    intro e h
    simp only [execOpsQ, execOps, opQ_eq, ih]
    rfl

def execDQ (e : Env) : List DOper → (vals : Env) → Heap → (hs : List Heap) → List Past → Option (Env × Heap)
  | [], vals, h, hs, past => match checkAll (hs ++ [h]) past with
    | true => some (vals, h)
    | false => none
  | o :: os, vals, h, hs, past => match wantedD e vals o.guard with
    | false => match o.op.cls with
      | .write => execDQ e os (vals.set o.idx undefA) h (hs ++ [h]) past
      | _ => execDQ e os (vals.set o.idx undefA) h hs past
    | true => match o.op.cls, opQ call (lookD e vals) h o.op with
      | .write, some (v, h') => match Nat.ble h.next h'.next with
        | true => execDQ e os (vals.set o.idx v) h' (hs ++ [h]) past
        | false => none
      | .alloc, some (v, h') => execDQ e os (vals.set o.idx v) h' hs past
      | _, some (v, h') => execDQ e os (vals.set o.idx v) h' hs (match o.chk with
          | [] => past
          | _ :: _ => ⟨o.op.map (lookD e vals), v, o.chk⟩ :: past)
      | _, none => none

theorem evalOp_cls (h : Heap) (o : AOp AVal) : evalOp call h o = match o.cls with
  | .pure => ret h (evalRead h o)
  | .read => ret h (evalRead h o)
  | .alloc => retA h (evalAlloc o)
  | .write => evalWrite call h o := by
  unfold evalOp
  cases o.cls
  · simp only []; cases evalRead h o <;> rfl
  · simp only []; cases evalRead h o <;> rfl
  · simp only []
    cases evalAlloc o with
    | none => rfl
    | some p => rfl
  · rfl

theorem execDQ_eq (e : Env) : ∀ os vals h hs past, execDQ call e os vals h hs past = execD call e os vals h hs past := by
  intro os
  induction os with
  | nil => intro vals h hs past; rfl
  | cons o os ih =>
    intro vals h hs past
    simp only [execDQ, execD]
    cases hw : wantedD e vals o.guard with
    | false => simp only [ih]; rfl
    | true =>
      simp only [opQ_eq, evalOp_cls, map_cls]
      cases hc : o.op.cls with
      | pure =>
        simp only []
        cases evalRead h (o.op.map (lookD e vals)) with
        | none => rfl
        | some v => simp only [ret, ih]; rfl
      | read =>
        simp only []
        cases evalRead h (o.op.map (lookD e vals)) with
        | none => rfl
        | some v => simp only [ret, ih]; rfl
      | alloc =>
        simp only []
        cases evalAlloc (o.op.map (lookD e vals)) with
        | none => rfl
        | some p => simp only [retA, ih]
      | write =>
        simp only []
        cases evalWrite call h (o.op.map (lookD e vals)) with
        | none => rfl
        | some p => simp only [ih]; rfl

def execSQ (again : ACode → Env → Heap → Option (AExit × Env × Heap)) : ACode → Env → Heap → Option (AExit × Env × Heap)
  | .skip, e, h => some (.normal, e, h)
  | .reg ops, e, h => match execOpsQ call ops e h with
    | some (e, h) => some (.normal, e, h)
    | none => none
  | .dreg ops, e, h => match execDQ call e ops .leaf h [] [] with
    | some (vals, h) => some (.normal, putAll vals ops e, h)
    | none => none
  | .seq a b, e, h => match execSQ again a e h with
    | some (.normal, e, h) => execSQ again b e h
    | r => r
  | .cond c a b, e, h => match look e c with
    | .bool true => execSQ again a e h
    | .bool false => execSQ again b e h
    | _ => none
  | .block id a, e, h => match execSQ again a e h with
    | some (.exit i, e, h) => match Nat.beq i id with
      | true => some (.normal, e, h)
      | false => some (.exit i, e, h)
    | r => r
  | .loop a, e, h => match execSQ again a e h with
    | some (.normal, e, h) => again (.loop a) e h
    | r => r
  | .exit id, e, h => some (.exit id, e, h)
  | .ret, e, h => some (.ret, e, h)

theorem execSQ_eq (again : ACode → Env → Heap → Option (AExit × Env × Heap)) : ∀ c e h, execSQ call again c e h = execS call again c e h := by
  intro c
  induction c with
  | seq a b iha ihb => intro e h; simp only [execSQ, execS, iha, ihb]; rfl
  | cond c a b iha ihb => intro e h; simp only [execSQ, execS, iha, ihb]; rfl
  | block id a ih => intro e h; simp only [execSQ, execS, ih]; rfl
  | loop a ih => intro e h; simp only [execSQ, execS, ih]; rfl
  | reg ops => intro e h; simp only [execSQ, execS, execOpsQ_eq]; rfl
  | dreg ops => intro e h; simp only [execSQ, execS, execDQ_eq]; rfl
  | _ => intro e h; rfl

end

def callSQ (fs : Tr AFunc) (own : FuncId → Option (List AVal → Heap → Option (AVal × Heap))) (r : Rec) (f : FuncId) (args : List AVal) (h : Heap) : Option (AVal × Heap) :=
  match own f with
  | some g => g args h
  | none => match fs.get f with
    | none => none
    | some fn => match execSQ r.call r.again fn.body (enter args 0 .leaf) h with
      | some (.normal, e, h) | some (.ret, e, h) => match resultsOf e h fn.results with
        | some vs => some (oneOrTuple vs, h)
        | none => none
      | _ => none

theorem callSQ_eq (fs : Tr AFunc) (own : FuncId → Option (List AVal → Heap → Option (AVal × Heap))) (r : Rec) : callSQ fs own r = callS fs own r := by
  funext f args h
  simp only [callSQ, callS, execSQ_eq]
  rfl

def runQ (fs : Tr AFunc) (own : FuncId → Option (List AVal → Heap → Option (AVal × Heap))) : Nat → Rec
  | 0 => ⟨fun _ _ _ => none, fun _ _ _ => none⟩
  | n + 1 => ⟨fun c e h => execSQ (runQ fs own n).call (runQ fs own n).again c e h, fun f args h => callSQ fs own (runQ fs own n) f args h⟩

theorem runQ_eq (fs : Tr AFunc) (own : FuncId → Option (List AVal → Heap → Option (AVal × Heap))) : ∀ n, runQ fs own n = run fs own n := by
  intro n
  induction n with
  | zero => rfl
  | succ n ih => simp only [runQ, run, ih, execSQ_eq, callSQ_eq]

end
end Go.AM
