/- The plain law of layer 6 (bloom): a key's number. No program is in sight here. -/
import Derived.Test.YtpkbifaeofcckaaBase
namespace Go.Proofs.Ytpkbifaeofcckaa.Bloom
set_option linter.unusedVariables false
set_option linter.unusedSimpArgs false
/-- the factor -/
def fac : BitVec 32 := 3332679571#32
/-- four bytes, the lowest first -/
def word (a b c d : UInt8) : BitVec 32 := BitVec.ofNat 32 (a.toNat + b.toNat * 256 + c.toNat * 65536 + d.toNat * 16777216)
def mixW (h w : BitVec 32) : BitVec 32 := (h + w) * fac ^^^ ((h + w) * fac) >>> 16
/-- what is added for the bytes that are left, from a place on -/
def tailS : List UInt8 → Nat → BitVec 32
  | [], _ => 0#32
  | x :: l, i => BitVec.ofNat 32 (x.toNat * 256 ^ i) + tailS l (i + 1)
def endF (h : BitVec 32) (l : List UInt8) : BitVec 32 := if l = [] then h else (h + tailS l 0) * fac ^^^ ((h + tailS l 0) * fac) >>> 24
def hashG : BitVec 32 → List UInt8 → BitVec 32
  | h, a :: b :: c :: d :: l => hashG (mixW h (word a b c d)) l
  | h, l => endF h l
def seedF (n : Nat) : BitVec 32 := 3164544308#32 ^^^ BitVec.ofNat 32 n * fac
def hashF (l : List UInt8) : BitVec 32 := hashG (seedF l.length) l
theorem hashG_four (h : BitVec 32) (a b c d : UInt8) (l : List UInt8) : hashG h (a :: b :: c :: d :: l) = hashG (mixW h (word a b c d)) l := by rw [hashG]
theorem hashG_end (h : BitVec 32) (l : List UInt8) (hl : l.length < 4) : hashG h l = endF h l := by
  match l, hl with
  | [], _ => rfl
  | [_], _ => rfl
  | [_, _], _ => rfl
  | [_, _, _], _ => rfl
theorem tail_snoc : ∀ (l : List UInt8) (x : UInt8) (i : Nat), tailS (l ++ [x]) i = tailS l i + BitVec.ofNat 32 (x.toNat * 256 ^ (i + l.length))
  | [], x, i => by simp [tailS]
  | y :: l, x, i => by
    rw [List.cons_append, tailS, tailS, tail_snoc l x (i + 1), BitVec.add_assoc, List.length_cons, show i + 1 + l.length = i + (l.length + 1) by omega]
end Go.Proofs.Ytpkbifaeofcckaa.Bloom
