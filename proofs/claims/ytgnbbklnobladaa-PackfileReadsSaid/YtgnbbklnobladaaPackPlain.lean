/- Plain words on packs. No condition. -/
import Derived.Test.YtgnbbklnobladaaSha2Plain
import Derived.Test.YtgnbbklnobladaaSqzPlain
import Derived.Test.YtgnbbklnobladaaBufMore
namespace Go.Proofs.Ytgnbbklnobladaa
open Go.RowKit
namespace Pack
set_option linter.unusedSimpArgs false
set_option linter.unusedVariables false
/-- An object of a pack. -/
structure It where
  k : Int
  c : List UInt8
def itV (x : It) : List Value := [.int .i64 x.k, .string (strOf x.c)]
/-- What one item's bytes make: an error's number, or 0 and what is read then. -/
structure St where
  e : Int
  its : List It
  chs : List Int
  s : List UInt8
def bad (e : Int) : St := ⟨e, [], [], []⟩
/-- The item, its head being read: kind, based, base, and what stands behind. -/
def bodyP (its : List It) (chs : List Int) (kind based : Int) (base : Nat) (s : List UInt8) : St :=
  if s.length < 4 then bad 2
  else if (s.drop 4).length < Delta.val4 s then bad 2
  else if kind < 1 ∨ 4 < kind ∨ 1 < based ∨ (based = 1 ∧ its.length ≤ base) then bad 3
  else if 4 < (if based = 1 then chs.getD base 0 + 1 else 0) then bad 9
  else if (Sqz.openP ((s.drop 4).take (Delta.val4 s)) 1048576).2 ≠ 0 then bad (Sqz.openP ((s.drop 4).take (Delta.val4 s)) 1048576).2
  else if based = 1 then
    if (Delta.applyP ((its.getD base ⟨0, []⟩).c) (Sqz.openP ((s.drop 4).take (Delta.val4 s)) 1048576).1 65536).2 ≠ 0 then bad (Delta.applyP ((its.getD base ⟨0, []⟩).c) (Sqz.openP ((s.drop 4).take (Delta.val4 s)) 1048576).1 65536).2
    else if 65536 < (Delta.applyP ((its.getD base ⟨0, []⟩).c) (Sqz.openP ((s.drop 4).take (Delta.val4 s)) 1048576).1 65536).1.length then bad 9
    else ⟨0, its ++ [⟨kind, (Delta.applyP ((its.getD base ⟨0, []⟩).c) (Sqz.openP ((s.drop 4).take (Delta.val4 s)) 1048576).1 65536).1⟩], chs ++ [chs.getD base 0 + 1], (s.drop 4).drop (Delta.val4 s)⟩
  else if 65536 < (Sqz.openP ((s.drop 4).take (Delta.val4 s)) 1048576).1.length then bad 9
  else ⟨0, its ++ [⟨kind, (Sqz.openP ((s.drop 4).take (Delta.val4 s)) 1048576).1⟩], chs ++ [0], (s.drop 4).drop (Delta.val4 s)⟩
def itemP (its : List It) (chs : List Int) (s : List UInt8) : St :=
  if s.length < 2 then bad 2
  else if byt s 1 = 1 then
    if (s.drop 2).length < 4 then bad 2 else bodyP its chs (byt s 0) 1 (Delta.val4 (s.drop 2)) ((s.drop 2).drop 4)
  else bodyP its chs (byt s 0) (byt s 1) 0 (s.drop 2)
/-- All items. -/
def runP : Nat → List It → List Int → List UInt8 → List It × List Int × Int
  | 0, its, chs, s => if s = [] then (its, chs, 0) else ([], [], 3)
  | n + 1, its, chs, s => if (itemP its chs s).e = 0 then runP n (itemP its chs s).its (itemP its chs s).chs (itemP its chs s).s else ([], [], (itemP its chs s).e)
def readP (p : List UInt8) : List It × List Int × Int :=
  if 1048576 < p.length then ([], [], 9)
  else if p.length < 40 then ([], [], 2)
  else if p.take 4 ≠ [68, 80, 75, 49] then ([], [], 3)
  else if Sha2.digest (p.take (p.length - 32)) ≠ p.drop (p.length - 32) then ([], [], 14)
  else if 512 < Delta.val4 (p.drop 4) then ([], [], 9)
  else runP (Delta.val4 (p.drop 4)) [] [] ((p.take (p.length - 32)).drop 8)
end Pack
end Go.Proofs.Ytgnbbklnobladaa
