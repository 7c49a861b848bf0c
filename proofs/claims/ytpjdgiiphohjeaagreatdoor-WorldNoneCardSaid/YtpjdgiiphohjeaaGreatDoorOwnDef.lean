import Derived.Test.YtpjdgiiphohjeaaGreatDoorAm2
/-! Rules of their own: who holds a mutex (a range over a map); a map's keys, sorted. -/
namespace Go.AM

/-- Stamps rise, below the clock. -/
def stampsOk (clock : Nat) : List (AVal × AVal × Nat) → Nat → Bool
  | [], _ => true
  | (_, _, b) :: es, lo => match Nat.ble lo b with
    | true => match Nat.blt b clock with
      | true => stampsOk clock es (b + 1)
      | false => false
    | false => false

def hitsIn (m : Int) : List AVal → Bool
  | .int _ a :: _ :: rest => match decide (a = m) with
    | true => true
    | false => hitsIn m rest
  | _ => false
def pairsOk : List AVal → Bool
  | [] => true
  | .int .i64 _ :: _ :: rest => pairsOk rest
  | _ => false

noncomputable def ownHits (h : Heap) (m : Int) : List (AVal × AVal × Nat) → Option (List AVal)
  | [] => some []
  | (k, v, _) :: es => match k, shown h 2 v, ownHits h m es with
    | .int .i64 _, some (n, cs), some r => match pairsOk cs && Nat.ble n 1000000 with
      | true => some (match hitsIn m cs with
        | true => k :: r
        | false => r)
      | false => none
    | _, _, _ => none

noncomputable def ownerB (args : List AVal) (h : Heap) : Option (AVal × Heap) := match args with
  | [.ptr l off, .int .i64 m] => match getCells h l with
    | some vs => match vs[off + 1]? with
      | some (.map id) => match h.get id with
        | some (.map es clock) => match stampsOk clock es 0, ownHits h m es with
          | true, some [] => some (.int .i64 (-1), h)
          | true, some [k] => some (k, h)
          | _, _ => none
        | _ => none
      | _ => none
    | none => none
  | _ => none

def insertI (x : Int) : List Int → List Int
  | [] => [x]
  | y :: ys => match decide (x ≤ y) with
    | true => x :: y :: ys
    | false => y :: insertI x ys
def sortI : List Int → List Int
  | [] => []
  | x :: xs => insertI x (sortI xs)
def intKeysA : List (AVal × AVal × Nat) → Option (List Int)
  | [] => some []
  | (.int .i64 k, _, _) :: es => match decide (-9223372036854775808 ≤ k) && decide (k < 9223372036854775808), intKeysA es with
    | true, some r => some (k :: r)
    | _, _ => none
  | _ => none
/-- Each key once. -/
def onceI : List Int → Bool
  | [] => true
  | x :: xs => match xs.all (fun y => !decide (x = y)) with
    | true => onceI xs
    | false => false
/-- 'fs': the iterators' numbers. -/
noncomputable def sortedB (fs : List Nat) (args : List AVal) (h : Heap) : Option (AVal × Heap) := match args with
  | [.func f [] [.ptr bx 0]] => match fs.any (Nat.beq f ·), getCells h bx with
    | true, some (.map id :: _) => match h.get id with
      | some (.map es clock) => match stampsOk clock es 0, intKeysA es with
        | true, some ks => match onceI ks && Nat.ble ks.length 1000000 with
          | true => match ks with
            | [] => some (.nilslice, h)
            | _ => some (grow h none 1 ks.length ((sortI ks).map (.int .i64 ·)))
          | false => none
        | _, _ => none
      | _ => none
    | _, _ => none
  | _ => none
end Go.AM
