import Derived.Test.YtpjdgiiphohjeaaGreatDoorAm1
/-! The small machine's code, its runs, and how the model's code is turned into it. Definitions alone. -/
namespace Go.AM
noncomputable section

inductive Opd where
  | t (n : Nat)
  | c (v : AVal)

/-- In a statement whose order is drawn: what lay in a temporary before it, or what another operation of it gave. -/
inductive DOpd where
  | old (n : Nat)
  | val (i : Nat)
  | c (v : AVal)

structure AOper where
  guard : Option (Nat × Bool)
  dst : Option Nat
  op : AOp Opd

structure DOper where
  idx : Nat
  guard : Option (DOpd × Bool)
  dst : Option Nat
  op : AOp DOpd
  chk : List Nat

inductive ACode where
  | skip
  | reg (ops : List AOper)
  | dreg (ops : List DOper)
  | seq (a b : ACode)
  | cond (c : Opd) (a b : ACode)
  | block (id : Nat) (a : ACode)
  | loop (a : ACode)
  | exit (id : Nat)
  | ret

inductive AResult where
  | tmp (t : Nat)
  | cell (t : Nat)
  | cells (t n : Nat)

structure AFunc where
  ntmps : Nat
  results : List AResult
  body : ACode

inductive AExit where
  | normal
  | exit (id : Nat)
  | ret

abbrev Env := Tr AVal

def look (e : Env) : Opd → AVal
  | .t n => match e.get n with
    | some v => v
    | none => undefA
  | .c v => v

def put (d : Option Nat) (v : AVal) (e : Env) : Env :=
  match d with
  | some d => e.set d v
  | none => e

def wantedA (e : Env) : Option (Nat × Bool) → Bool
  | none => true
  | some (t, b) => match e.get t with
    | some (.bool c) => c == b
    | _ => false

section
variable (call : FuncId → List AVal → Heap → Option (AVal × Heap))

def execOps : List AOper → Env → Heap → Option (Env × Heap)
  | [], e, h => some (e, h)
  | o :: os, e, h => match wantedA e o.guard with
    | false => execOps os (put o.dst undefA e) h
    | true => match evalOp call h (o.op.map (look e)) with
      | some (v, h) => execOps os (put o.dst v e) h
      | none => none

def lookD (e vals : Env) : DOpd → AVal
  | .old n => look e (.t n)
  | .val i => look vals (.t i)
  | .c v => v

def wantedD (e vals : Env) : Option (DOpd × Bool) → Bool
  | none => true
  | some (x, b) => match lookD e vals x with
    | .bool c => c == b
    | _ => false

/-- What was read, and the other moments at which it must read the same. -/
structure Past where
  op : AOp AVal
  v : AVal
  chk : List Nat

def checkOne (hs : List Heap) (p : Past) : List Nat → Bool
  | [] => true
  | j :: js => match hs[j]? with
    | some h => match evalRead h p.op with
      | some v => AVal.beq v p.v && checkOne hs p js
      | none => false
    | none => false

def checkAll (hs : List Heap) : List Past → Bool
  | [] => true
  | p :: ps => checkOne hs p p.chk && checkAll hs ps

/-- The operations of a statement whose order is drawn, in one order; 'hs': memory ahead of each writing one so far. -/
def execD (e : Env) : List DOper → (vals : Env) → Heap → (hs : List Heap) → List Past → Option (Env × Heap)
  | [], vals, h, hs, past => match checkAll (hs ++ [h]) past with
    | true => some (vals, h)
    | false => none
  | o :: os, vals, h, hs, past => match wantedD e vals o.guard with
    | false => match o.op.cls with
      | .write => execD e os (vals.set o.idx undefA) h (hs ++ [h]) past
      | _ => execD e os (vals.set o.idx undefA) h hs past
    | true => match o.op.cls with
      | .write => match evalWrite call h (o.op.map (lookD e vals)) with
        | some (v, h') => match Nat.ble h.next h'.next with
          | true => execD e os (vals.set o.idx v) h' (hs ++ [h]) past
          | false => none
        | none => none
      | .alloc => match evalAlloc (o.op.map (lookD e vals)) with
        | some (obj, mk) => execD e os (vals.set o.idx (mk h.next)) (h.push obj) hs past
        | none => none
      | _ => match evalRead h (o.op.map (lookD e vals)) with
        | some v => execD e os (vals.set o.idx v) h hs (match o.chk with
          | [] => past
          | _ :: _ => ⟨o.op.map (lookD e vals), v, o.chk⟩ :: past)
        | none => none

def putAll (vals : Env) : List DOper → Env → Env
  | [], e => e
  | o :: os, e => putAll vals os (put o.dst (look vals (.t o.idx)) e)

/-- A round and what comes behind it: 'again' runs a loop once more. -/
def execS (again : ACode → Env → Heap → Option (AExit × Env × Heap)) : ACode → Env → Heap → Option (AExit × Env × Heap)
  | .skip, e, h => some (.normal, e, h)
  | .reg ops, e, h => match execOps call ops e h with
    | some (e, h) => some (.normal, e, h)
    | none => none
  | .dreg ops, e, h => match execD call e ops .leaf h [] [] with
    | some (vals, h) => some (.normal, putAll vals ops e, h)
    | none => none
  | .seq a b, e, h => match execS again a e h with
    | some (.normal, e, h) => execS again b e h
    | r => r
  | .cond c a b, e, h => match look e c with
    | .bool true => execS again a e h
    | .bool false => execS again b e h
    | _ => none
  | .block id a, e, h => match execS again a e h with
    | some (.exit i, e, h) => match Nat.beq i id with
      | true => some (.normal, e, h)
      | false => some (.exit i, e, h)
    | r => r
  | .loop a, e, h => match execS again a e h with
    | some (.normal, e, h) => again (.loop a) e h
    | r => r
  | .exit id, e, h => some (.exit id, e, h)
  | .ret, e, h => some (.ret, e, h)
end

def resultOf (e : Env) (h : Heap) : AResult → Option AVal
  | .tmp t => some (look e (.t t))
  | .cell t => evalRead h (.load1 (look e (.t t)))
  | .cells t n => evalRead h (.loadN n (look e (.t t)))

def resultsOf (e : Env) (h : Heap) : List AResult → Option (List AVal)
  | [] => some []
  | r :: rs => match resultOf e h r, resultsOf e h rs with
    | some v, some vs => some (v :: vs)
    | _, _ => none

def oneOrTuple : List AVal → AVal
  | [v] => v
  | vs => .tuple vs

def enter : List AVal → Nat → Env → Env
  | [], _, e => e
  | v :: vs, i, e => enter vs (i + 1) (e.set i v)

structure Rec where
  again : ACode → Env → Heap → Option (AExit × Env × Heap)
  call : FuncId → List AVal → Heap → Option (AVal × Heap)

/-- What a call of a known function comes to: of a few by a rule of their own, else by its body. -/
def callS (fs : Tr AFunc) (own : FuncId → Option (List AVal → Heap → Option (AVal × Heap))) (r : Rec) (f : FuncId) (args : List AVal) (h : Heap) : Option (AVal × Heap) :=
  match own f with
  | some g => g args h
  | none => match fs.get f with
    | none => none
    | some fn => match execS r.call r.again fn.body (enter args 0 .leaf) h with
      | some (.normal, e, h) | some (.ret, e, h) => match resultsOf e h fn.results with
        | some vs => some (oneOrTuple vs, h)
        | none => none
      | _ => none

def run (fs : Tr AFunc) (own : FuncId → Option (List AVal → Heap → Option (AVal × Heap))) : Nat → Rec
  | 0 => ⟨fun _ _ _ => none, fun _ _ _ => none⟩
  | n + 1 => ⟨fun c e h => execS (run fs own n).call (run fs own n).again c e h, fun f args h => callS fs own (run fs own n) f args h⟩

/-! ### Turning -/

/-- What is to be known of a type. -/
structure TInfo where
  desc : TypeDesc
  size : Nat
  bytes : Nat
  zero : Option Value
  held : Bool
  eqg : Bool

abbrev Types := Tr TInfo

mutual
def ofConst : Value → Option AVal
  | .bool b => some (.bool b)
  | .int k n => some (.int k n)
  | .string s => some (.str s.data.toList)
  | .pointer none => some .nilptr
  | .slice none 0 0 => some .nilslice
  | .map none => some .nilmap
  | .nilFunc => some .nilfunc
  | .nilIface => some .nilIface
  | .func (.func f) ⟨[]⟩ ⟨[]⟩ => some (.func f [] [])
  | .iface t v => match ofConst v with
    | some v => some (.iface t v)
    | none => none
  | .agg ⟨cs⟩ => match ofConsts cs with
    | some cs => some (.agg cs)
    | none => none
  | .tuple ⟨[]⟩ => some (.tuple [])
  | _ => none
def ofConsts : List Value → Option (List AVal)
  | [] => some []
  | v :: vs => match ofConst v, ofConsts vs with
    | some v, some vs => some (v :: vs)
    | _, _ => none
end

def opdOf : Operand → Option Opd
  | .tmp t => some (.t t)
  | .const v => match ofConst v with
    | some v => some (.c v)
    | none => none
  | .func f => some (.c (.func f [] []))
  | .global _ => none

def opdsOf : List Operand → Option (List Opd)
  | [] => some []
  | x :: xs => match opdOf x, opdsOf xs with
    | some x, some xs => some (x :: xs)
    | _, _ => none

def optOf : Option Operand → Option (Option Opd)
  | none => some none
  | some x => match opdOf x with
    | some x => some (some x)
    | none => none

def isAggD : TypeDesc → Bool
  | .struct _ | .array _ _ => true
  | _ => false

/-- A type's cells at zero. -/
def zerosOf (i : TInfo) : Option (List AVal) :=
  match i.zero with
  | some z => match ofConst z with
    | some v => match Nat.beq v.cells.length i.size && v.cells.all AVal.one with
      | true => some v.cells
      | false => none
    | none => none
  | none => none

def leafOf : TypeDesc → Option Leaf
  | .bool => some .bool
  | .int _ => some .int
  | .string => some .str
  | .pointer _ => some .ptr
  | _ => none

def fieldLeaves (tb : Types) (go : TypeId → Nat → Option (List (Nat × Leaf))) : Nat → List Field → Nat → Option (List (Nat × Leaf))
  | _, [], _ => some []
  | s, f :: fs, off => match tb.get f.type with
    | none => none
    | some fi => match f.name == "_", Nat.ble (f.offset + fi.size) s, go f.type (off + f.offset), fieldLeaves tb go s fs off with
      | false, true, some a, some b => some (a ++ b)
      | _, _, _, _ => none

def arrayLeaves (go : TypeId → Nat → Option (List (Nat × Leaf))) : TypeId → Nat → Nat → Nat → Option (List (Nat × Leaf))
  | _, _, 0, _ => some []
  | e, s, n + 1, off => match go e off, arrayLeaves go e s n (off + s) with
    | some a, some b => some (a ++ b)
    | _, _ => none

/-- The cells that a comparison of two values looks at, 'off': where the value lies in the whole. -/
def leavesOf (tb : Types) : Nat → TypeId → Nat → Option (List (Nat × Leaf))
  | 0, _, _ => none
  | d + 1, t, off => match tb.get t with
    | none => none
    | some i => match i.desc with
      | .struct fs => match i.held with
        | true => none
        | false => fieldLeaves tb (leavesOf tb d) i.size fs.toList off
      | .array n e => match tb.get e with
        | some ei => match Nat.beq i.size (n * ei.size) with
          | true => arrayLeaves (leavesOf tb d) e ei.size n off
          | false => none
        | none => none
      | .pointer e => match tb.get e with
        | some ei => match Nat.beq ei.size 0 with
          | true => none
          | false => match Nat.beq i.size 1 with
            | true => some [(off, .ptr)]
            | false => none
        | none => none
      | .bool => match Nat.beq i.size 1 with
        | true => some [(off, .bool)]
        | false => none
      | .int _ => match Nat.beq i.size 1 with
        | true => some [(off, .int)]
        | false => none
      | .string => match Nat.beq i.size 1 with
        | true => some [(off, .str)]
        | false => none
      | _ => none

def planOf (tb : Types) (t : TypeId) : Option Plan :=
  match tb.get t with
  | none => none
  | some i => match i.desc with
    | .struct _ | .array _ _ => match i.eqg, leavesOf tb 100 t 0 with
      | false, some ls => some (.agg i.size ls)
      | _, _ => none
    | .interface _ => some .iface
    | .slice _ => some .slice
    | .map _ _ => some .map
    | .func _ _ _ => some .func
    | .pointer e => match tb.get e with
      | some ei => match Nat.beq ei.size 0 with
        | true => none
        | false => some (.leaf .ptr)
      | none => none
    | x => match leafOf x with
      | some l => some (.leaf l)
      | none => none

def fieldsKnown (tb : Types) : List Field → Bool
  | [] => true
  | f :: fs => match tb.get f.type with
    | some _ => fieldsKnown tb fs
    | none => false

/-- A struct literal's parts: where each lies. -/
def placesOf (tb : Types) (fs : List Field) : List (Nat × Operand) → Option (List (Nat × Nat × Opd))
  | [] => some []
  | (i, x) :: ps => match fs[i]?, opdOf x, placesOf tb fs ps with
    | some f, some x, some ps => match tb.get f.type with
      | some fi => some ((f.offset, fi.size, x) :: ps)
      | none => none
    | _, _, _ => none

def rowsOf (size : Nat) : List (Nat × Operand) → Option (List (Nat × Nat × Opd))
  | [] => some []
  | (i, x) :: ps => match opdOf x, rowsOf size ps with
    | some x, some ps => some ((i * size, size, x) :: ps)
    | _, _ => none

def bind2 {α β γ : Type} (a : Option α) (b : Option β) (f : α → β → γ) : Option γ :=
  match a, b with
  | some a, some b => some (f a b)
  | _, _ => none

def convOf (tb : Types) (s d : TypeId) : Option AConv :=
  match tb.get s, tb.get d with
  | some si, some di => match si.desc, di.desc with
    | .int _, .int k => some (.int k)
    | .string, .string => some .same
    | .string, .slice e => match tb.get e with
      | some ei => match ei.desc with
        | .int .u8 => some .toBytes
        | _ => none
      | none => none
    | .slice e, .string => match tb.get e with
      | some ei => match ei.desc with
        | .int .u8 => some .ofBytes
        | _ => none
      | none => none
    | _, _ => none
  | _, _ => none

def compBuiltin (tb : Types) (b : Builtin) (argTypes : List TypeId) (args : List Opd) : Option (AOp Opd) :=
  match b, argTypes, args with
  | .len, [t], [x] => match tb.get t with
    | some i => match i.desc with
      | .string => some (.len .str x)
      | .array n _ => some (.len (.const n) x)
      | .pointer a => match tb.get a with
        | some ai => match ai.desc with
          | .array n _ => some (.len (.const n) x)
          | _ => none
        | none => none
      | .slice _ => some (.len .slice x)
      | .map _ _ => some (.len .map x)
      | _ => none
    | none => none
  | .cap, [t], [x] => match tb.get t with
    | some i => match i.desc with
      | .slice _ => some (.cap x)
      | _ => none
    | none => none
  | .append, [t, u], [s, x] => match tb.get t, tb.get u with
    | some i, some j => match i.desc, j.desc with
      | .slice e, .slice _ | .slice e, .string => match tb.get e with
        | some ei => match zerosOf ei with
          | some _ => some (.append ei.size ei.bytes s x)
          | none => none
        | none => none
      | .slice e, .int _ => match tb.get e with
        | some ei => match zerosOf ei, Nat.beq ei.size 0 with
          | some z, false => some (.appendZ ei.bytes z s x)
          | _, _ => none
        | none => none
      | _, _ => none
    | _, _ => none
  | .copy, t :: _, [d, s] => match tb.get t with
    | some i => match i.desc with
      | .slice e => match tb.get e with
        | some ei => some (.copy ei.size d s)
        | none => none
      | _ => none
    | none => none
  | .delete, t :: _, [m, k] => match tb.get t with
    | some i => match i.desc with
      | .map kt _ => match tb.get kt with
        | some ki => match leafOf ki.desc with
          | some .ptr => none
          | some kk => some (.delete kk m k)
          | none => none
        | none => none
      | _ => none
    | none => none
  | .clear, [t], [x] => match tb.get t with
    | some i => match i.desc with
      | .slice e => match tb.get e with
        | some ei => match zerosOf ei, Nat.beq ei.size 0 with
          | some z, false => some (.clear z x)
          | _, _ => none
        | none => none
      | _ => none
    | none => none
  | .max, _, x :: ys => some (.minmax true x ys)
  | .min, _, x :: ys => some (.minmax false x ys)
  | _, _, _ => none

def compOp (tb : Types) (o : Op) : Option (AOp Opd) :=
  match o with
  | .move x | .assign x => match opdOf x with
    | some x => some (.mov x)
    | none => none
  | .pick c a b => match opdOf c, opdOf a, opdOf b with
    | some c, some a, some b => some (.pick c a b)
    | _, _, _ => none
  | .alloc e => match tb.get e with
    | some i => match zerosOf i with
      | some z => some (.alloc z)
      | none => none
    | none => none
  | .box _ x => match opdOf x with
    | some x => some (.box x)
    | none => none
  | .build t ps => match tb.get t with
    | some i => match zerosOf i, i.desc with
      | some z, .struct fs => match fieldsKnown tb fs.toList, placesOf tb fs.toList ps.toList with
        | true, some ps => some (.build z ps)
        | _, _ => none
      | some z, .array _ e => match tb.get e with
        | some ei => match rowsOf ei.size ps.toList with
          | some ps => some (.build z ps)
          | none => none
        | none => none
      | _, _ => none
    | none => none
  | .buildSlice t n ps => match tb.get t with
    | some i => match i.desc with
      | .slice e => match tb.get e with
        | some ei => match zerosOf ei, rowsOf ei.size ps.toList, Nat.ble (n * ei.size) 16777216, Nat.beq ei.size 0 with
          | some z, some ps, true, false => some (.buildSlice z n ps)
          | _, _, _, _ => none
        | none => none
      | _ => none
    | none => none
  | .load t a => match tb.get t, opdOf a with
    | some i, some a => match isAggD i.desc with
      | true => some (.loadN i.size a)
      | false => some (.load1 a)
    | _, _ => none
  | .store t a x => match tb.get t, opdOf a, opdOf x with
    | some i, some a, some x => some (.storeN i.size a x)
    | _, _, _ => none
  | .nilCheck x => match opdOf x with
    | some x => some (.nilCheck x)
    | none => none
  | .binOp op t x y _ => bind2 (opdOf x) (opdOf y) fun x y => .bin op (match op with
    | .eql | .neq => planOf tb t
    | _ => none) x y
  | .unOp op _ x => match opdOf x with
    | some x => some (.un op x)
    | none => none
  | .convert s d x => bind2 (convOf tb s d) (opdOf x) .conv
  | .makeInterface t x => match tb.get t, opdOf x with
    | some i, some x => match i.desc with
      | .interface _ => none
      | _ => some (.mkIface t x)
    | _, _ => none
  | .makeFunc (.func f) a b => bind2 (opdsOf a.toList) (opdsOf b.toList) (.mkFunc f)
  | .makeMap _ none => some .mkMap
  | .makeSlice t l c => match tb.get t, opdOf l, opdOf c with
    | some i, some l, some c => match i.desc with
      | .slice e => match tb.get e with
        | some ei => match zerosOf ei, Nat.beq ei.size 0 with
          | some z, false => some (.mkSlice ei.bytes z l c)
          | _, _ => none
        | none => none
      | _ => none
    | _, _, _ => none
  | .slice t x lo hi mx => match tb.get t, opdOf x, optOf lo, optOf hi, optOf mx with
    | some i, some x, some lo', some hi', some mx' => match hi.isSome || mx.isNone with
      | false => none
      | true => match i.desc with
        | .string => match mx with
          | none => some (.sliceStr x lo' hi')
          | some _ => none
        | .slice e => match tb.get e with
          | some ei => some (.sliceSl ei.size x lo' hi' mx')
          | none => none
        | .array n e => match tb.get e with
          | some ei => some (.sliceArr n ei.size x lo' hi' mx')
          | none => none
        | _ => none
    | _, _, _, _, _ => none
  | .fieldAddr t x f => match tb.get t, opdOf x with
    | some i, some x => match i.desc with
      | .struct fs => match fs[f]? with
        | some fd => match tb.get fd.type with
          | some fi => match Nat.beq fi.size 0 with
            | true => none
            | false => some (.fieldAddr fd.offset x)
          | none => none
        | none => none
      | _ => none
    | _, _ => none
  | .field t x f => match tb.get t, opdOf x with
    | some i, some x => match i.desc with
      | .struct fs => match fs[f]? with
        | some fd => match tb.get fd.type with
          | some fi => match isAggD fi.desc with
            | true => some (.fieldN fd.offset fi.size x)
            | false => some (.field1 fd.offset x)
          | none => none
        | none => none
      | _ => none
    | _, _ => none
  | .indexAddr t x i => match tb.get t, opdOf x, opdOf i with
    | some ti, some x, some i => match ti.desc with
      | .array n e => match tb.get e with
        | some ei => some (.idxAddrA n ei.size x i)
        | none => none
      | .slice e => match tb.get e with
        | some ei => some (.idxAddrS ei.size x i)
        | none => none
      | _ => none
    | _, _, _ => none
  | .index t x i => match tb.get t, opdOf x, opdOf i with
    | some ti, some x, some i => match ti.desc with
      | .array n e => match tb.get e with
        | some ei => match isAggD ei.desc with
          | true => some (.idxAN n ei.size x i)
          | false => match Nat.beq ei.size 1 with
            | true => some (.idxA1 n 1 x i)
            | false => none
        | none => none
      | .string => some (.idxStr x i)
      | _ => none
    | _, _, _ => none
  | .lookup t x i ok => match tb.get t, opdOf x, opdOf i with
    | some ti, some x, some i => match ti.desc with
      | .map kt e => match tb.get kt, tb.get e with
        | some ki, some ei => match leafOf ki.desc, ei.zero with
          | some .ptr, _ => none
          | some kk, some z => match ofConst z with
            | some z => some (.lookup kk z x i ok)
            | none => none
          | _, _ => none
        | _, _ => none
      | _ => none
    | _, _, _ => none
  | .mapUpdate t m k v | .insert t m k v => match tb.get t, opdOf m, opdOf k, opdOf v with
    | some ti, some m, some k, some v => match ti.desc with
      | .map kt _ => match tb.get kt with
        | some ki => match leafOf ki.desc with
          | some .ptr => none
          | some kk => some (.mapUpdate kk m k v)
          | none => none
        | none => none
      | _ => none
    | _, _, _, _ => none
  | .extract x i => match opdOf x with
    | some x => some (.extract x i)
    | none => none
  | .call c => match c.callee, opdsOf c.args.toList with
    | .value f, some args => match opdOf f with
      | some f => some (.call f args)
      | none => none
    | .builtin b, some args => compBuiltin tb b c.argTypes.toList args
    | _, _ => none
  | _ => none

def compOper (tb : Types) (nt : Nat) (ops : Array Oper) (o : Oper) : Option AOper :=
  match compOp tb o.op, o.dst, o.guard with
  | some op, d, none => match d.all (Nat.blt · nt) with
    | true => some ⟨none, d, op⟩
    | false => none
  | some op, d, some (j, b) => match (ops[j]?).bind (·.dst), d.all (Nat.blt · nt) with
    | some t, true => some ⟨some (t, b), d, op⟩
    | _, _ => none
  | none, _, _ => none

def compOpers (tb : Types) (nt : Nat) (ops : Array Oper) : List Oper → Option (List AOper)
  | [] => some []
  | o :: os => match compOper tb nt ops o, compOpers tb nt ops os with
    | some o, some os => some (o :: os)
    | _, _ => none

/-! #### A statement whose order is drawn -/

def orEdges (b : Tr Nat) : List Edge → Nat → Nat
  | [], s => s
  | e :: es, s => match Region.binds .any e with
    | true => orEdges b es (s ||| 2 ^ e.on ||| match b.get e.on with
      | some x => x
      | none => 0)
    | false => orEdges b es s

/-- Of each operation those that come ahead of it in every order, as bits. -/
def ancFrom : List Oper → Nat → Tr Nat → Tr Nat
  | [], _, b => b
  | o :: os, i, b => ancFrom os (i + 1) (b.set i (orEdges b o.after.toList 0))

def bits (b : Tr Nat) (i : Nat) : Nat := match b.get i with
  | some x => x
  | none => 0

/-- Which operation's value operation i finds in temporary t; none: it can't be said. -/
def findT (b : Tr Nat) (i t : Nat) : Nat → List Oper → DOpd → Option DOpd
  | _, [], r => some r
  | j, o :: os, r => match o.dst with
    | none => findT b i t (j + 1) os r
    | some d => match Nat.beq d t with
      | false => findT b i t (j + 1) os r
      | true => match Nat.beq j i || (bits b j).testBit i with
        | true => findT b i t (j + 1) os r
        | false => match (bits b i).testBit j, r with
          | true, .old _ => findT b i t (j + 1) os (.val j)
          | _, _ => none

def opdD (ops : List Oper) (b : Tr Nat) (i : Nat) : Opd → Option DOpd
  | .c v => some (.c v)
  | .t t => findT b i t 0 ops (.old t)

def guardD (ops : List Oper) (b : Tr Nat) (i : Nat) : Option (Nat × Bool) → Option (Option (DOpd × Bool))
  | none => some none
  | some (t, w) => match findT b i t 0 ops (.old t) with
    | some x => some (some (x, w))
    | none => none

/-- Is a temporary written by one operation alone? -/
def onlyOne (i t : Nat) : Nat → List Oper → Bool
  | _, [] => true
  | j, o :: os => match o.dst with
    | none => onlyOne i t (j + 1) os
    | some d => (Nat.beq j i || !Nat.beq d t) && onlyOne i t (j + 1) os

def compDOper (tb : Types) (nt : Nat) (ops : Array Oper) (b : Tr Nat) (i : Nat) (o : Oper) : Option DOper :=
  match compOper tb nt ops o with
  | none => none
  | some a => match guardD ops.toList b i a.guard, a.op.trav (opdD ops.toList b i), a.dst.all fun t => onlyOne i t 0 ops.toList with
    | some g, some op, true => some ⟨i, g, a.dst, op, []⟩
    | _, _, _ => none

def compDOpers (tb : Types) (nt : Nat) (ops : Array Oper) (b : Tr Nat) : Nat → List Oper → Option (List DOper)
  | _, [] => some []
  | i, o :: os => match compDOper tb nt ops b i o, compDOpers tb nt ops b (i + 1) os with
    | some d, some ds => some (d :: ds)
    | _, _ => none

def Cls.isW : Cls → Bool
  | .write => true
  | _ => false
def Cls.isR : Cls → Bool
  | .read => true
  | _ => false
def Cls.isA : Cls → Bool
  | .alloc => true
  | _ => false

def DOper.isW (d : DOper) : Bool := d.op.cls.isW

/-- The first that may come now and does not write. -/
def firstOf (b : Tr Nat) (done : Nat) (w : Bool) : List DOper → Option (DOper × List DOper)
  | [] => none
  | d :: ds => match (d.isW == w) && Nat.beq (bits b d.idx &&& done) (bits b d.idx) with
    | true => some (d, ds)
    | false => match firstOf b done w ds with
      | some (x, rest) => some (x, d :: rest)
      | none => none

def sortD (b : Tr Nat) : Nat → Nat → List DOper → List DOper
  | 0, _, ds => ds
  | n + 1, done, ds => match firstOf b done false ds with
    | some (d, rest) => d :: sortD b n (done ||| 2 ^ d.idx) rest
    | none => match firstOf b done true ds with
      | some (d, rest) => d :: sortD b n (done ||| 2 ^ d.idx) rest
      | none => ds

/-- The moments behind writing operations 'ws' (the first being number j) at which operation i may still come. -/
def later (b : Tr Nat) (i : Nat) : List Nat → Nat → List Nat
  | [], _ => []
  | w :: ws, j => match (bits b w).testBit i with
    | true => []
    | false => (j + 1) :: later b i ws (j + 1)

/-- 'before': writing operations that have come, the last first; 'ws': those that come yet. Sets what a reading operation is to be held against, and looks whether the order serves. -/
def setChk (b : Tr Nat) : List DOper → (past : List Nat) → (ws : List Nat) → (done : Nat) → Option (List DOper)
  | [], _, _, _ => some []
  | d :: ds, past, ws, done =>
    match Nat.beq (bits b d.idx &&& done) (bits b d.idx) && !done.testBit d.idx with
    | false => none
    | true => match d.op.cls with
      | .write => match past.all fun w => (bits b d.idx).testBit w with
        | true => match setChk b ds (d.idx :: past) ws.tail (done ||| 2 ^ d.idx) with
          | some ds => some (d :: ds)
          | none => none
        | false => none
      | .alloc => match past.all fun w => (bits b d.idx).testBit w with
        | true => match setChk b ds past ws (done ||| 2 ^ d.idx) with
          | some ds => some (d :: ds)
          | none => none
        | false => none
      | .read => match past.all fun w => (bits b d.idx).testBit w with
        | true => match setChk b ds past ws (done ||| 2 ^ d.idx) with
          | some ds => some ({ d with chk := later b d.idx ws past.length } :: ds)
          | none => none
        | false => none
      | .pure => match setChk b ds past ws (done ||| 2 ^ d.idx) with
        | some ds => some (d :: ds)
        | none => none

def compRegionD (tb : Types) (nt : Nat) (ops : Array Oper) : Option (List DOper) :=
  let b := ancFrom ops.toList 0 .leaf
  match compDOpers tb nt ops b 0 ops.toList with
  | none => none
  | some ds =>
    let ds := sortD b ds.length 0 ds
    match (List.range ops.size).all fun i => ds.any fun d => Nat.beq d.idx i with
    | false => none
    | true => setChk b ds [] ((ds.filter DOper.isW).map (·.idx)) 0

/-! #### Code -/

def compCode (tb : Types) (nt : Nat) : Code → Option ACode
  | .skip => some .skip
  | .region _ ops false => match compOpers tb nt ops ops.toList with
    | some os => some (.reg os)
    | none => none
  | .region _ ops true => match compRegionD tb nt ops with
    | some os => some (.dreg os)
    | none => none
  | .seq a b => match compCode tb nt a, compCode tb nt b with
    | some a, some b => some (.seq a b)
    | _, _ => none
  | .cond c a b => match opdOf c, compCode tb nt a, compCode tb nt b with
    | some c, some a, some b => some (.cond c a b)
    | _, _, _ => none
  | .block id a => match compCode tb nt a with
    | some a => some (.block id a)
    | none => none
  | .loop a => match compCode tb nt a with
    | some a => some (.loop a)
    | none => none
  | .exit id => some (.exit id)
  | .ret => some .ret
  | _ => none

def compResult (tb : Types) : ResultVar → Option AResult
  | .tmp t => some (.tmp t)
  | .cell a t => match tb.get t with
    | some i => match isAggD i.desc with
      | true => some (.cells a i.size)
      | false => some (.cell a)
    | none => none

def compResults (tb : Types) : List ResultVar → Option (List AResult)
  | [] => some []
  | r :: rs => match compResult tb r, compResults tb rs with
    | some r, some rs => some (r :: rs)
    | _, _ => none

def compFunc (tb : Types) (fn : Func) : Option AFunc :=
  match fn.body with
  | none => none
  | some c => match compResults tb fn.results.toList, compCode tb fn.ntmps c with
    | some rs, some c => some ⟨fn.ntmps, rs, c⟩
    | _, _ => none

/-- The types' table of a program. -/
def typesFrom (P : Program) : Nat → Types
  | 0 => .leaf
  | n + 1 => match P.underlying n, P.info? n with
    | some d, some i => (typesFrom P n).set n ⟨d, i.size, i.bytes, i.zero, P.stoodInHeld n, P.eqGuardType P.depth n⟩
    | _, _ => typesFrom P n

end
end Go.AM
