/- Plain words on objects and their edges. No condition. -/
import Derived.Test.YtdjkcolceccclaaRd
namespace Go.Proofs.Ytdjkcolceccclaa
open Go.RowKit
namespace Edge
set_option linter.unusedSimpArgs false
set_option linter.unusedVariables false
abbrev S := List UInt8
structure Ent where
  m : Int
  n : S
  i : S
def entV (x : Ent) : List Value := [.int .i64 x.m, .string (strOf x.n), .string (strOf x.i)]
structure Ob where
  k : Int
  text : S
  ents : List Ent
  tree : S
  pars : List S
  targ : S
  of : Int
  name : S
  who : S
  when : Int
/-- An object's cells, its two slices given. -/
def obV (o : Ob) (ev pv : Value) : List Value :=
  [.int .i64 o.k, .string (strOf o.text), ev, .string (strOf o.tree), pv, .string (strOf o.targ), .int .i64 o.of, .string (strOf o.name), .string (strOf o.who), .int .i64 o.when]
theorem obV_length (o : Ob) (ev pv : Value) : (obV o ev pv).length = 10 := rfl
structure Ed where
  id : S
  k : Int
deriving DecidableEq
def edV (e : Ed) : List Value := [.string (strOf e.id), .int .i64 e.k]
def kindE (x : Ent) : Int := if x.m = 3 then 2 else 1
/-- An object's edges. -/
def edgesP (o : Ob) : List Ed :=
  if o.k = 2 then o.ents.map fun x => ⟨x.i, kindE x⟩
  else if o.k = 3 then ⟨o.tree, 2⟩ :: o.pars.map fun p => ⟨p, 3⟩
  else if o.k = 4 then [⟨o.targ, o.of⟩] else []
/-- The address so many cells behind. -/
def behind : Option Addr → Nat → Addr
  | some a, d => ⟨a.block, a.off + d, none⟩
  | none, d => ⟨0, d, none⟩
def sliceA : Value → Option Addr
  | .slice A _ _ => A
  | _ => none
def spV (p : Addr × Int) : List Value := [.pointer (some p.1), .int .i64 p.2]
/-- Where an object holds its names. -/
def spotsP (g : Nat) (ev pv : Value) (o : Ob) : List (Addr × Int) :=
  if o.k = 2 then (List.range o.ents.length).map fun i => (behind (sliceA ev) (i * 3 + 2), kindE (o.ents.getD i ⟨0, [], []⟩))
  else if o.k = 3 then (⟨g, 3, none⟩, 2) :: (List.range o.pars.length).map fun i => (behind (sliceA pv) i, 3)
  else if o.k = 4 then [(⟨g, 5, none⟩, o.of)] else []
/-- An object's cells lie here, or are handed so. -/
structure ObIn (w : World) (o : Ob) (ev pv : Value) : Prop where
  e : Rd 3 w ev (o.ents.map entV)
  p : Rd 1 w pv (o.pars.map sV)
theorem ObIn.ext {w w' : World} {o : Ob} {ev pv : Value} (h : ObIn w o ev pv) (k : Ext w w') : ObIn w' o ev pv := ⟨h.e.ext k, h.p.ext k⟩
end Edge
end Go.Proofs.Ytdjkcolceccclaa
