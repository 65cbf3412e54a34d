/- SHA-1 of "abc". No condition. -/
import Derived.Test.YthkckmohhbddcaaSha1Hash
namespace Go.Proofs.Ythkckmohhbddcaa
open Go.RowKit
namespace Sha1
def hexD (x : Int) : Int := if x < 10 then 48 + x else 87 + x
def hexB (b : UInt8) : List UInt8 := [UInt8.ofNat (hexD ((b.toNat : Int) / 16)).toNat, UInt8.ofNat (hexD ((b.toNat : Int) % 16)).toNat]
def hexL (l : List UInt8) : List UInt8 := l.flatMap hexB
def abcHex : List UInt8 := 97 :: 57 :: 57 :: 57 :: 51 :: 101 :: 51 :: 54 :: 52 :: 55 :: 48 :: 54 :: 56 :: 49 :: 54 :: 97 :: 98 :: 97 :: 51 :: 101 :: 50 :: 53 :: 55 :: 49 :: 55 :: 56 :: 53 :: 48 :: 99 :: 50 :: 54 :: 99 :: 57 :: 99 :: 100 :: 48 :: 100 :: 56 :: 57 :: 100 :: []
theorem abc : hexL (digest [97, 98, 99]) = abcHex := by decide +kernel
theorem abcd : (expand [97, 98, 99, 100]).getD 0 0 = 0x61626364 := by decide +kernel
end Sha1
end Go.Proofs.Ythkckmohhbddcaa
