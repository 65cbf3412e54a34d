/- SHA-256 of "abc". No condition. -/
import Derived.Test.YtjfacolnlbfpmaaSha2WalkE
namespace Go.Proofs.Ytjfacolnlbfpmaa
open Go.RowKit
namespace Sha2
def hexD (x : Int) : Int := if x < 10 then 48 + x else 87 + x
def hexB (b : UInt8) : List UInt8 := [UInt8.ofNat (hexD ((b.toNat : Int) / 16)).toNat, UInt8.ofNat (hexD ((b.toNat : Int) % 16)).toNat]
def hexL (l : List UInt8) : List UInt8 := l.flatMap hexB
def abcHex : List UInt8 := 98 :: 97 :: 55 :: 56 :: 49 :: 54 :: 98 :: 102 :: 56 :: 102 :: 48 :: 49 :: 99 :: 102 :: 101 :: 97 :: 52 :: 49 :: 52 :: 49 :: 52 :: 48 :: 100 :: 101 :: 53 :: 100 :: 97 :: 101 :: 50 :: 50 :: 50 :: 51 :: 98 :: 48 :: 48 :: 51 :: 54 :: 49 :: 97 :: 51 :: 57 :: 54 :: 49 :: 55 :: 55 :: 97 :: 57 :: 99 :: 98 :: 52 :: 49 :: 48 :: 102 :: 102 :: 54 :: 49 :: 102 :: 50 :: 48 :: 48 :: 49 :: 53 :: 97 :: 100 :: []
theorem abc : hexL (digest [97, 98, 99]) = abcHex := by decide +kernel
end Sha2
end Go.Proofs.Ytjfacolnlbfpmaa
