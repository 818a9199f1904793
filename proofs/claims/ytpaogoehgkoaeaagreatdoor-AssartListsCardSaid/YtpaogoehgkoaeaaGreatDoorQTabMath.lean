/- Layer 14 (table): a table's file in plain words. No step of a program is taken here. -/
import Derived.Test.YtpaogoehgkoaeaaGreatDoorQBunB4
import Derived.Test.YtpaogoehgkoaeaaGreatDoorQBunB1
import Derived.Test.YtpaogoehgkoaeaaGreatDoorQBunB2
import Derived.Test.YtpaogoehgkoaeaaGreatDoorQBunB3
namespace Go.Proofs.YtpaogoehgkoaeaaGreatDoor.Tab
set_option linter.unusedVariables false
set_option linter.unusedSimpArgs false
open Go.RowKit
open Go.Op (bytesLess)
def okC (c : Ci) : Bool := okV c.key c.seq c.kind
/-- a cell's key, sortable, and its value -/
def pairC (c : Ci) : Bk.Pr := ((sortG c.key c.seq c.kind).1, c.val)
/-- is the i-th cell one, and behind the one ahead? -/
def ordAt (l : List Ci) (i : Nat) : Bool := okC (l.getD i zeroC) && (i == 0 || vless (l.getD (i - 1) zeroC).vr (l.getD i zeroC).vr)
def ordF (l : List Ci) : Bool := (List.range l.length).all (ordAt l)
def bigC (c : Ci) : Bool := decide (1000 < c.val.length)
/-- the error of cells -/
def chkT (l : List Ci) (size bits : Int) : Nat :=
  if size < 1 ∨ 4096 < size ∨ bits < 1 ∨ 64 < bits then 1 else if 5000 < l.length ∨ l.any bigC = true then 14 else if l ≠ [] ∧ ordF l = true then 0 else 2
def sizeC (c : Ci) : Nat := (pairC c).1.length + c.val.length
/-- the cells of each block -/
def runsG (size : Int) : List Ci → Nat → List Ci → List (List Ci)
  | _, _, [] => []
  | now, n, c :: r => if size ≤ ((n + sizeC c : Nat) : Int) ∨ r = [] then (now ++ [c]) :: runsG size [] 0 r else runsG size (now ++ [c]) (n + sizeC c) r
def runsF (size : Int) (l : List Ci) : List (List Ci) := runsG size [] 0 l
/-- keys, each once -/
def addK (a : List (List UInt8)) (k : List UInt8) : List (List UInt8) := if a.getLast? = some k then a else a ++ [k]
def onceF (l : List (List UInt8)) : List (List UInt8) := l.foldl addK []
def keysF (l : List Ci) : List (List UInt8) := onceF (l.map (·.key))
/-- bytes and their sum -/
def markF (s : List UInt8) : Nat := (Crc.maskF (Crc.sumF s)).toNat
def partB (s : List UInt8) : List UInt8 := s ++ Varint.bytesN 4 (markF s)
/-- a block; pairs that are none make no bytes -/
def blkB (itv : Nat) (l : List Bk.Pr) : List UInt8 := if Bk.chkF l (itv : Int) = 0 then Bk.buildF itv l else []
def runB (r : List Ci) : List UInt8 := blkB 4 (r.map pairC)
def lastK (r : List Ci) : List UInt8 := (pairC (r.getLastD zeroC)).1
def headK (r : List Ci) : List UInt8 := (pairC (r.headD zeroC)).1
def bodyF : List (List Ci) → List UInt8
  | [] => []
  | r :: t => partB (runB r) ++ bodyF t
def footF (at_ fl end_ xl count : Nat) : List UInt8 :=
  Varint.bytesN 4 at_ ++ (Varint.bytesN 4 fl ++ (Varint.bytesN 4 end_ ++ (Varint.bytesN 4 xl ++ (Varint.bytesN 4 count ++ Varint.bytesN 4 2055969965))))
/-- what the index tells of a block -/
def idxAt (l : List (List Ci)) (i : Nat) : Bk.Pr :=
  (if i + 1 < l.length then Ikey.partF (lastK (l.getD i [])) (headK (l.getD (i + 1) [])) else lastK (l.getD i []), Varint.putF (bodyF (l.take i)).length ++ Varint.putF (runB (l.getD i [])).length)
def idxF (l : List (List Ci)) : List Bk.Pr := (List.range l.length).map (idxAt l)
def idxB (l : List (List Ci)) : List UInt8 := blkB 1 (idxF l)
/-- the file of blocks -/
def layF (l : List (List Ci)) (f : List UInt8) : List UInt8 :=
  bodyF l ++ (partB f ++ (partB (idxB l) ++ footF (bodyF l).length f.length ((bodyF l).length + (partB f).length) (idxB l).length l.flatten.length))
/-- Build -/
def buildT (l : List Ci) (size bits : Int) : List UInt8 × Nat := if chkT l size bits = 0 then (layF (runsF size l) (buildF (keysF l) bits).1, 0) else ([], chkT l size bits)
/- what bytes tell -/
def numF (b : List UInt8) (at_ : Nat) : Nat := Varint.le ((b.drop at_).take 4)
def cutF (b : List UInt8) (off n : Nat) : Option (List UInt8) :=
  if b.length < off + n + 4 then none else if numF b (off + n) = markF ((b.drop off).take n) then some ((b.drop off).take n) else none
/-- cells of pairs -/
def cellF (p : Bk.Pr) : Option Ci := match unsF p.1 with | none => none | some (k, s, d) => some ⟨k, (s : Int), (d : Int), p.2⟩
def cellsF : List Bk.Pr → Option (List Ci)
  | [] => some []
  | p :: t => match cellF p, cellsF t with | some c, some l => some (c :: l) | _, _ => none
/-- a block that the index tells of -/
def runF (b val : List UInt8) : Option (List Ci) :=
  if (Varint.getF val).2.2 ≠ 0 then none
  else if (Varint.getF (val.drop (Varint.getF val).2.1)).2.2 ≠ 0 then none
  else if b.length < (Varint.getF val).1 ∨ b.length < (Varint.getF (val.drop (Varint.getF val).2.1)).1 then none
  else match cutF b (Varint.getF val).1 (Varint.getF (val.drop (Varint.getF val).2.1)).1 with
    | none => none
    | some s => if (Bk.pairsF s).2 ≠ 0 ∨ (Bk.pairsF s).1 = [] then none else cellsF (Bk.pairsF s).1
def runsOf (b : List UInt8) : List Bk.Pr → Option (List (List Ci))
  | [] => some []
  | p :: t => match runF b p.2, runsOf b t with | some r, some l => some (r :: l) | _, _ => none
/-- is the filter that of cells, with some bits for each? -/
def knownF (l : List Ci) (f : List UInt8) : Bool := (List.range 64).any fun i => f == (buildF (keysF l) ((i : Int) + 1)).1
/-- the filter, and the index's bytes -/
def filtOf (b : List UInt8) : Option (List UInt8) := cutF b (numF b (b.length - 24)) (numF b (b.length - 24 + 4))
def idxOf (b : List UInt8) : Option (List UInt8) := cutF b (numF b (b.length - 24 + 8)) (numF b (b.length - 24 + 12))
/-- Open: the cells and the filter -/
def openF (b : List UInt8) : Option (List Ci × List UInt8) :=
  if b.length < 24 then none
  else match filtOf b, idxOf b with
    | some f, some x =>
      if (Bk.pairsF x).2 ≠ 0 then none
      else match runsOf b (Bk.pairsF x).1 with
        | none => none
        | some L => if chkT L.flatten 1 1 = 0 ∧ knownF L.flatten f = true ∧ layF L f = b then some (L.flatten, f) else none
    | _, _ => none
end Go.Proofs.YtpaogoehgkoaeaaGreatDoor.Tab
