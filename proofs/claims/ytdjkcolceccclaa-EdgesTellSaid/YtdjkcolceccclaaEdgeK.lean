/- What the laws' functions answer. No condition. -/
import Derived.Test.YtdjkcolceccclaaEdgeF
import Derived.Test.YtdjkcolceccclaaEdgeJ
namespace Go.Proofs.Ytdjkcolceccclaa
open Go.RowKit
theorem strOf_app (a b : List UInt8) : strOf a ++ strOf b = strOf (a ++ b) := by
  rw [str_eq]; simp [strOf]
theorem strOf_cutS (l : List UInt8) (a : Nat) : (strOf l).extract a l.length = strOf (l.drop a) := by
  rw [str_eq, ByteArray.data_extract]
  simp [strOf, List.extract]
  rw [List.take_of_length_le (by rw [List.length_drop]; exact Nat.le_refl _)]
namespace Edge
set_option linter.unusedSimpArgs false
set_option linter.unusedVariables false
def edA (x : Ed) : Value := .agg #[.string (strOf x.id), .int .i64 x.k]
/-- It tells this. -/
def SaysE (w : World) (s : S) (c : Int) (e : Ending) (w' : World) : Prop := e = .returned (.tuple #[.string (strOf s), .int .i64 c]) ∧ Ext w w'
set_option maxRecDepth 100000 in
set_option maxHeartbeats 2000000 in
theorem twice_any (x : Ed) (w : World) (hx : x.id.length < 60000) :
    Calls Try.prog 21 #[edA x] w (SaysE w (x.id ++ x.id) 0) := by
  unfold edA SaysE
  have e1 := strOf_app x.id x.id
  have e2 : (strOf x.id).size + (strOf x.id).size ≤ 9223372036854775807 := by rw [strOf_size]; omega
  have hE := Ext.alloc w (.cells #[.string (strOf x.id), .int .i64 x.k] 36)
  have KE := Kept.mk hE
  clear hE
  go_enter Try.func21, Try.ntmps21
  go_wp2_with fail
  exact bodyPost_ret (v := .tuple #[.string (strOf (x.id ++ x.id)), .int .i64 0]) (by simp [results, Try.results21, go_sem] <;> rfl) rfl ⟨rfl, KE.out⟩
set_option maxRecDepth 100000 in
set_option maxHeartbeats 2000000 in
theorem none_any (x : Ed) (w : World) :
    Calls Try.prog 22 #[edA x] w (SaysE w ([]) 6) := by
  unfold edA SaysE
  have hE := Ext.alloc w (.cells #[.string (strOf x.id), .int .i64 x.k] 36)
  have KE := Kept.mk hE
  clear hE
  go_enter Try.func22, Try.ntmps22
  go_wp2_with fail
  exact bodyPost_ret (v := .tuple #[.string (strOf ([])), .int .i64 6]) (by simp [results, Try.results22, go_sem] <;> rfl) rfl ⟨rfl, KE.out⟩
set_option maxRecDepth 100000 in
set_option maxHeartbeats 2000000 in
theorem same1_any (x : Ed) (w : World) :
    Calls Try.prog 17 #[edA x] w (SaysE w (x.id) 0) := by
  unfold edA SaysE
  have hE := Ext.alloc w (.cells #[.string (strOf x.id), .int .i64 x.k] 36)
  have KE := Kept.mk hE
  clear hE
  go_enter Try.func17, Try.ntmps17
  go_wp2_with fail
  exact bodyPost_ret (v := .tuple #[.string (strOf (x.id)), .int .i64 0]) (by simp [results, Try.results17, go_sem] <;> rfl) rfl ⟨rfl, KE.out⟩
set_option maxRecDepth 100000 in
set_option maxHeartbeats 2000000 in
theorem pre2_any (x : Ed) (s : S) (g : Nat) (w : World) (hx : x.id.length < 60000) (hs : s.length ≤ 100) (hg : w.cell? ⟨g, 0, none⟩ = some (.string (strOf s))) :
    Calls Try.prog 18 #[edA x, .pointer (some ⟨g, 0, none⟩)] w (SaysE w (s ++ x.id) 0) := by
  unfold edA SaysE
  have e1 := strOf_app s x.id
  have e2 : (strOf s).size + (strOf x.id).size ≤ 9223372036854775807 := by rw [strOf_size, strOf_size]; omega
  have e3 := (Ext.alloc w (.cells #[.string (strOf x.id), .int .i64 x.k] 36)).cell hg
  have hE := Ext.alloc w (.cells #[.string (strOf x.id), .int .i64 x.k] 36)
  have KE := Kept.mk hE
  clear hE
  go_enter Try.func18, Try.ntmps18
  go_wp2_with fail
  exact bodyPost_ret (v := .tuple #[.string (strOf (s ++ x.id)), .int .i64 0]) (by simp [results, Try.results18, go_sem] <;> rfl) rfl ⟨rfl, KE.out⟩
set_option maxRecDepth 100000 in
set_option maxHeartbeats 2000000 in
theorem preN_any (x : Ed) (s : S) (g : Nat) (w : World) (hx : x.id.length < 60000) (hs : s.length ≤ 100) (hg : w.cell? ⟨g, 0, none⟩ = some (.string (strOf s))) :
    Calls Try.prog 20 #[edA x, .pointer (some ⟨g, 0, none⟩)] w (SaysE w (s ++ x.id) 0) := by
  unfold edA SaysE
  have e1 := strOf_app s x.id
  have e2 : (strOf s).size + (strOf x.id).size ≤ 9223372036854775807 := by rw [strOf_size, strOf_size]; omega
  have e3 := (Ext.alloc w (.cells #[.string (strOf x.id), .int .i64 x.k] 36)).cell hg
  have hE := Ext.alloc w (.cells #[.string (strOf x.id), .int .i64 x.k] 36)
  have KE := Kept.mk hE
  clear hE
  go_enter Try.func20, Try.ntmps20
  go_wp2_with fail
  exact bodyPost_ret (v := .tuple #[.string (strOf (s ++ x.id)), .int .i64 0]) (by simp [results, Try.results20, go_sem] <;> rfl) rfl ⟨rfl, KE.out⟩
set_option maxRecDepth 100000 in
set_option maxHeartbeats 2000000 in
theorem cut3_any (x : Ed) (s : S) (g : Nat) (w : World) (hx : x.id.length < 60000) (hs : s.length ≤ x.id.length) (hg : w.cell? ⟨g, 0, none⟩ = some (.string (strOf s))) :
    Calls Try.prog 19 #[edA x, .pointer (some ⟨g, 0, none⟩)] w (SaysE w (x.id.drop s.length) 0) := by
  unfold edA SaysE
  have e1 := strOf_cutS x.id s.length
  have e2 : (strOf s).size = s.length := strOf_size _
  have e4 : (strOf x.id).size = x.id.length := strOf_size _
  have e5 : (s.length : Int) ≤ (x.id.length : Int) := by omega
  have e6 : (0 : Int) ≤ (s.length : Int) := by omega
  have e3 := (Ext.alloc w (.cells #[.string (strOf x.id), .int .i64 x.k] 36)).cell hg
  have hE := Ext.alloc w (.cells #[.string (strOf x.id), .int .i64 x.k] 36)
  have KE := Kept.mk hE
  clear hE
  go_enter Try.func19, Try.ntmps19
  go_wp2_with fail
  exact bodyPost_ret (v := .tuple #[.string (strOf (x.id.drop s.length)), .int .i64 0]) (by simp [results, Try.results19, go_sem] <;> rfl) rfl ⟨rfl, KE.out⟩
end Edge
end Go.Proofs.Ytdjkcolceccclaa
