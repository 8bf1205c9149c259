/- What package lex's scanner computes, as plain functions over the bytes of a text and a place in it. No program. -/
import Derived.Test.YtpfgjiahpddpkaaDoorTermF
set_option linter.unusedVariables false
namespace Go.Proofs.YtpfgjiahpddpkaaDoor
open Go.RowKit
/-! ### spaces and comments -/
def spaceC (c : Int) : Bool := c == 9 || c == 10 || c == 13 || c == 32
def cmtN (s : ByteArray) (i : Nat) : Int := Go.Lib.indexByte (s.extract i s.size).data.toList 10
def cmtEnd (s : ByteArray) (i : Nat) : Nat := if 0 ≤ cmtN s i then i + (cmtN s i).toNat else s.size
def skipF (s : ByteArray) : Nat → Nat → Nat
  | 0, i => i
  | f+1, i => if i < s.size then (if bt s i = 35 then skipF s f (cmtEnd s i) else if spaceC (bt s i) then skipF s f (i+1) else i) else i
def skipU (s : ByteArray) (i : Nat) : Nat := skipF s s.size i
/-! ### escapes and quoted texts -/
def hexV (c : Int) : Int := if 48 ≤ c ∧ c ≤ 57 then c - 48 else if 65 ≤ c ∧ c ≤ 70 then c - 55 else if 97 ≤ c ∧ c ≤ 102 then c - 87 else -1
def digitsF (s : ByteArray) : Nat → Nat → Int → Int × Nat
  | 0, i, r => (r, i)
  | n+1, i, r => if hexV (bt s i) < 0 then (-1, i) else digitsF s n (i+1) (r * 16 + hexV (bt s i))
def escK (c : Int) : Int := if c = 116 then 9 else if c = 98 then 8 else if c = 110 then 10 else if c = 114 then 13 else if c = 102 then 12 else if c = 34 then 34 else if c = 39 then 39 else if c = 92 then 92 else -1
def escR (s : ByteArray) (all : Bool) (i : Nat) : Int × Nat :=
  if bt s (i+1) = 117 then digitsF s 4 (i+2) 0 else if bt s (i+1) = 85 then digitsF s 8 (i+2) 0 else (if all then escK (bt s (i+1)) else -1, i + 2)
def byteOf (n : Int) : UInt8 := n.toNat.toUInt8
/-- A rune's bytes. -/
def putL (r : Int) : List UInt8 :=
  if r < 128 then [byteOf r] else if r < 2048 then [byteOf (192 + r / 64), byteOf (128 + r % 64)]
  else if r < 65536 then [byteOf (224 + r / 4096), byteOf (128 + r / 64 % 64), byteOf (128 + r % 64)]
  else [byteOf (240 + r / 262144), byteOf (128 + r / 4096 % 64), byteOf (128 + r / 64 % 64), byteOf (128 + r % 64)]
def escF (s : ByteArray) (all : Bool) (i : Nat) : Option (List UInt8 × Nat) :=
  if mayB (escR s all i).1 then some (putL (escR s all i).1, (escR s all i).2) else none
def quotedF (s : ByteArray) (en : Int) (all : Bool) : Nat → Nat → List UInt8 → Option (List UInt8 × Nat)
  | 0, _, _ => none
  | f+1, i, acc => if bt s i = en then some (acc, i + 1)
      else if s.size ≤ i ∨ (all = true ∧ (bt s i = 10 ∨ bt s i = 13)) then none
      else if bt s i = 92 then (match escF s all i with | none => none | some (b, j) => quotedF s en all f j (acc ++ b))
      else quotedF s en all f (i+1) (acc ++ [byteOf (bt s i)])
def quotedU (s : ByteArray) (en : Int) (all : Bool) (i : Nat) : Option (List UInt8 × Nat) := quotedF s en all (s.size + 1) (i + 1) []
/-! ### runs of bytes of a kind -/
def runN (s : ByteArray) (p : Nat → Int → Bool) (i : Nat) : Nat → Nat → Nat
  | 0, k => k
  | f+1, k => if i + k < s.size ∧ p k (bt s (i + k)) = true then runN s p i f (k+1) else k
def runU (s : ByteArray) (p : Nat → Int → Bool) (i : Nat) : Nat := runN s p i s.size 0
/-! ### symbols -/
structure Sym where
  kind : Int
  text : ByteArray
  tk : Int
  tt : ByteArray
  tx : ByteArray
  place : Int
deriving DecidableEq
def noSym : Sym := ⟨0, ByteArray.empty, 0, ByteArray.empty, ByteArray.empty, 0⟩
def symV (y : Sym) : Value := .agg #[.int .i64 y.kind, .string y.text, .int .i64 y.tk, .string y.tt, .string y.tx, .int .i64 y.place]
inductive LR where
  | no
  | bad (i : Nat)
  | ok (y : Sym) (j : Nat)
deriving DecidableEq
def ofL (l : List UInt8) : ByteArray := ⟨l.toArray⟩
def iriF (s : ByteArray) (i : Nat) : LR :=
  if bt s i = 60 then (match quotedU s 62 false i with
    | none => .bad i
    | some (l, j) => if iriB (ofL l) then .ok { noSym with kind := 1, tk := 1, tt := ofL l } j else .bad i)
  else .no
def namedP (i : Nat) (c : Int) : Bool := namedB i c
def blankF (s : ByteArray) (i : Nat) : LR :=
  if bt s i = 95 ∧ bt s (i+1) = 58 then
    (if 64 < runU s namedP (i+2) then .bad i
     else if blankB (s.extract (i+2) (i+2 + runU s namedP (i+2))) then .ok { noSym with kind := 2, tk := 2, tt := s.extract (i+2) (i+2 + runU s namedP (i+2)) } (i+2 + runU s namedP (i+2)) else .bad i)
  else .no
def textF (s : ByteArray) (i : Nat) : LR :=
  if bt s i = 34 then (match quotedU s 34 true i with
    | none => .bad i
    | some (l, j) => .ok { noSym with kind := 3, text := ofL l } j)
  else .no
def langP (_ : Nat) (c : Int) : Bool := (decide (97 ≤ c) && decide (c ≤ 122)) || digitB c || c == 45
def langF (s : ByteArray) (i : Nat) : LR :=
  if bt s i = 64 then
    (if 35 < runU s langP (i+1) then .bad i
     else if tagB (s.extract (i+1) (i+1 + runU s langP (i+1))) then .ok { noSym with kind := 4, text := s.extract (i+1) (i+1 + runU s langP (i+1)) } (i+1 + runU s langP (i+1)) else .bad i)
  else .no
def varF (s : ByteArray) (i : Nat) : LR :=
  if bt s i = 63 then
    (if 32 < runU s namedP (i+1) ∨ runU s namedP (i+1) = 0 then .bad i
     else .ok { noSym with kind := 5, text := s.extract (i+1) (i+1 + runU s namedP (i+1)) } (i+1 + runU s namedP (i+1)))
  else .no
def nameP (_ : Nat) (c : Int) : Bool := letterB c || digitB c || c == 45 || c == 95
def wordF (s : ByteArray) (i : Nat) : LR :=
  if letterB (bt s i) ∨ (bt s i = 58 ∧ bt s (i+1) ≠ 45) then
    (let j := i + runU s namedP i
     if 32 < runU s namedP i then .bad i
     else if bt s j ≠ 58 ∨ bt s (j+1) = 45 then .ok { noSym with kind := 6, text := s.extract i j } j
     else if 64 < runU s nameP (j+1) then .bad i
     else .ok { noSym with kind := 7, text := s.extract i (j+1 + runU s nameP (j+1)) } (j+1 + runU s nameP (j+1)))
  else .no
def marksL : List (List UInt8) := [[94, 94], [58, 45], [33, 61], [61], [46], [44], [40], [41], [123], [125]]
def markGo (s : ByteArray) (i : Nat) : List (List UInt8) → LR
  | [] => .no
  | m :: l => if Go.Lib.hasPrefix (s.extract i s.size).data.toList m then .ok { noSym with kind := 8, text := ofL m } (i + m.length) else markGo s i l
def markF (s : ByteArray) (i : Nat) : LR := markGo s i marksL
def readers : List (ByteArray → Nat → LR) := [iriF, blankF, textF, langF, varF, wordF, markF]
def tryAll (s : ByteArray) (i : Nat) : List (ByteArray → Nat → LR) → LR
  | [] => .bad i
  | f :: l => match f s i with
    | .no => tryAll s i l
    | .bad k => .bad k
    | .ok y j => .ok { y with place := i } j
/-- The next symbol from place i on; no: the text is at its end. -/
def nextF (s : ByteArray) (i : Nat) : LR := if skipU s i < s.size then tryAll s (skipU s i) readers else .no
/-- All symbols from place i on: or the place where it is wrong. -/
def symsF (s : ByteArray) : Nat → Nat → List Sym → Except Nat (List Sym)
  | 0, _, acc => .ok acc
  | f+1, i, acc => match nextF s i with
    | .no => .ok acc
    | .bad k => .error k
    | .ok y j => symsF s f j (acc ++ [y])
/-- lex.All: the symbols, the place, the error. -/
def allF (s : ByteArray) : List Sym × Int × Int :=
  if 1048576 < s.size then ([], 0, 3) else
  if endU s < s.size then ([], endU s, 4) else
  match symsF s (s.size + 1) 0 [] with
  | .ok l => (l, 0, 0)
  | .error k => ([], k, 4)
end Go.Proofs.YtpfgjiahpddpkaaDoor
