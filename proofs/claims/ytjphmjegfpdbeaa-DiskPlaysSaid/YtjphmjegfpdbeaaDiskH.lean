/- List. No condition. -/
import Derived.Test.YtjphmjegfpdbeaaDiskG
import Derived.Test.YtjphmjegfpdbeaaSort
namespace Go.Proofs.Ytjphmjegfpdbeaa
open Go.RowKit
namespace Disk
open Str
set_option linter.unusedSimpArgs false
set_option linter.unusedVariables false
theorem strOf_front (s : S) (n : Nat) : (strOf s).extract 0 n = strOf (s.take n) := by
  rw [str_eq, extract_take, strOf_list, strOf_list]
theorem pre_take (s p : S) : p.isPrefixOf s = decide (s.take p.length = p) := by
  rw [Bool.eq_iff_iff, List.isPrefixOf_iff_prefix, decide_eq_true_eq, List.prefix_iff_eq_take]
  exact eq_comm
set_option maxRecDepth 100000 in
set_option maxHeartbeats 2000000 in
theorem inner_any (s p : S) (hs : s.length ≤ 9223372036854775807) (hp : p.length ≤ 9223372036854775807) (w : World) : Calls Try.prog 45 #[.string (strOf s), .string (strOf p)] w fun e w' => e = .returned (.bool (p.isPrefixOf s)) ∧ w = w' := by
  have z1 : (strOf s).size = s.length := strOf_size s
  have z2 : (strOf p).size = p.length := strOf_size p
  by_cases h1 : p.length ≤ s.length
  · have h1I : (p.length : Int) ≤ (s.length : Int) := by omega
    have hx := strOf_front s p.length
    by_cases h2 : s.take p.length = p
    · have K := Kept.mk (show p.isPrefixOf s = true from by rw [pre_take, h2]; simp)
      rw [h2] at hx
      clear h2
      have hq := str_same p
      generalize p.length = np at *
      generalize s.length = ns at *
      go_enter Try.func45, Try.ntmps45
      go_wp2_with fail
      go_ret
      rw [K.out]
      exact ⟨rfl, rfl⟩
    · have K := Kept.mk (show p.isPrefixOf s = false from by rw [pre_take]; simp [h2])
      have hq := str_ne h2
      clear h2
      generalize s.take p.length = st at *
      generalize p.length = np at *
      generalize s.length = ns at *
      go_enter Try.func45, Try.ntmps45
      go_wp2_with fail
      go_ret
      rw [K.out]
      exact ⟨rfl, rfl⟩
  · have h1I : ¬ (p.length : Int) ≤ (s.length : Int) := by omega
    have K := Kept.mk (show p.isPrefixOf s = false from by
      rw [pre_take, decide_eq_false_iff_not]
      intro e
      have := congrArg List.length e
      rw [List.length_take] at this
      omega)
    generalize p.length = np at *
    generalize s.length = ns at *
    go_enter Try.func45, Try.ntmps45
    go_wp2_with fail
    go_ret
    rw [K.out]
    exact ⟨rfl, rfl⟩
set_option maxRecDepth 100000 in
set_option maxHeartbeats 2000000 in
theorem prefix_any (s p : S) (hs : s.length ≤ 9223372036854775807) (hp : p.length ≤ 9223372036854775807) (w : World) : Calls Try.prog 33 #[.string (strOf s), .string (strOf p)] w fun e w' => e = .returned (.bool (p.isPrefixOf s)) ∧ w = w' := by
  have KC := Kept.mk (inner_any s p hs hp w)
  clear hs hp
  go_enter Try.func33, Try.ntmps33
  go_wp2_with fail
  refine KC.out.mono ?_
  rintro e w' ⟨rfl, rfl⟩
  go_wp2_with fail
  go_ret
  exact ⟨rfl, rfl⟩
theorem up_list {l : List F} (h : Up l) (pre : S) : (listP l pre).Pairwise (· < ·) := List.Pairwise.sublist List.filter_sublist h
/-- What List answers. -/
def ListE (w : World) (d : Dk) (pre : S) (e : Ending) (w' : World) : Prop := ∃ v, e = .returned v ∧ Buf w' w.heap.size 9 v ((listD d pre).map tV) ∧ Ext w w'
/-- Behind so many rounds of List. -/
structure LstAt (w wi : World) (b r : Nat) (l todo seen : List F) (pre : S) (down : Bool) (v : Value) : Prop where
  it : IterOf strK strK wi b r l todo
  perm : (todo ++ seen).Perm l
  buf : Buf wi w.heap.size 9 v (((seen.map (·.1)).filter (fun p => !down && pre.isPrefixOf p)).map tV)
  ext : Ext w wi
  rlo : w.heap.size ≤ r
  nr : r ∉ own v
set_option maxRecDepth 100000 in
set_option maxHeartbeats 8000000 in
theorem list_any (w : World) (B : Nat) (D : List Nat) (g : Nat) (d : Dk) (n : Nat) (pre : S) (h : DkAt w B D g d) (hb : DkB n d) (hn : n ≤ 1048576) (hp : pre.length ≤ 9223372036854775807) :
    Calls Try.prog 12 #[.pointer (some ⟨g, 0, none⟩), .string (strOf pre)] w (ListE w d pre) := by
  obtain ⟨iS, hiS, hzS, hsS, hbS⟩ := infoT
  have KA := Kept.mk h
  have Kb := Kept.mk hb.seen
  obtain ⟨-, bl, bs, v, hb1, hpt⟩ := h
  have c2 := hb1.cell 2
  simp only [dkV, List.getElem?_cons_zero, List.getElem?_cons_succ] at c2
  have KB := Kept.mk hb1
  obtain ⟨hu, l, hm, hperm⟩ := hpt.fs
  have KM := Kept.mk hm
  have Kbs := Kept.mk (show bs < w.heap.size from hm.lt)
  have Kpm := Kept.mk hperm
  have Kup := Kept.mk hu
  have hll : l.length ≤ 1048576 := by rw [hperm.length_eq]; exact Nat.le_trans hb.seen.len hn
  have Kel := Kept.mk (show ∀ f ∈ l, f.1.length ≤ 9223372036854775807 from fun f hf => by have := (hb.seen.each f (hperm.mem_iff.1 hf)).1; simp only [SZ] at this; omega)
  have Kdn : Kept (listD d pre = if d.down then [] else listP (seenP d) pre) := Kept.mk rfl
  unfold ListE
  obtain ⟨dn, hd⟩ : ∃ dn, dn = d.down := ⟨_, rfl⟩
  have Kdd := Kept.mk hd
  have c4 := hb1.cell 4
  simp only [dkV, List.getElem?_cons_zero, List.getElem?_cons_succ, ← hd] at c4
  clear hb1 hb hpt hm hperm hu hd
  go_enter Try.func12, Try.ntmps12
  go_wp2_with (refine wpList_range_of (kv := strK) (ev := strK) w rfl (.tmp 10) 70 rfl 9 9 Try.underlying70 bs l KM.out rfl ?_)
  intro w1 hi hE hs
  have KI : Kept (LstAt w w1 bs w.heap.size l l [] pre dn (.slice none 0 0)) := Kept.mk ⟨hi, by simp, by simpa using Buf.nil w1 w.heap.size 9, hE, Nat.le_refl _, by simp [own]⟩
  clear hi hE hs
  generalize hr0 : w.heap.size = r0 at *
  go_wp2_with fail
  go_loopg [5] l.length (fun q ov wi => ∃ todo seen : List F, todo.length = q ∧ Kept (LstAt w wi bs r0 l todo seen pre dn ov))
  case atStart => exact ⟨l, [], rfl, KI⟩
  case round =>
    obtain ⟨todo, seen, hr, KK⟩ := hrel
    have Kr := Kept.mk hr
    clear hr KI c2
    obtain ⟨oA, ocap, hov⟩ := KK.out.buf.form
    rw [List.length_map] at hov
    subst hov
    obtain ⟨on, hon⟩ : ∃ on, on = ((seen.map (·.1)).filter (fun p => !dn && pre.isPrefixOf p)).length := ⟨_, rfl⟩
    have Kon := Kept.mk hon
    rw [← hon] at KK ⊢
    have Kol := Kept.mk (show on ≤ l.length from by
      rw [hon, ← KK.out.perm.length_eq, List.length_append]
      have := List.length_filter_le (fun p => !dn && pre.isPrefixOf p) (seen.map (·.1))
      rw [List.length_map] at this
      omega)
    clear hon
    go_wp2_with (refine wpList_next_of (kv := strK) (ev := strK) wr rfl (.tmp 11) rfl bs r0 l todo KK.out.it rfl ?_ ?_)
    · intro h0
      have Kh := Kept.mk h0
      clear h0
      have KS := Kept.mk (sort_any w.heap.size (.slice oA on ocap) ((seen.map (·.1)).filter (fun p => !dn && pre.isPrefixOf p)) (by have := Kol.out; rw [← Kon.out]; omega) wr KK.out.buf)
      go_wp2_with fail
      refine KS.out.mono ?_
      rintro e w2 ⟨rfl, hb2, hT2⟩
      have Kb2 := Kept.mk hb2
      have KE2 := Kept.mk (show Ext w w2 from Touch.below KK.out.ext hT2 (fun j hj => (KK.out.buf.owns j hj).1) KK.out.ext.size)
      clear hb2 hT2 KS
      go_wp2_with fail
      go_ret
      refine ⟨_, rfl, ?_, KE2.out⟩
      have hpm : ((seen.map (·.1)).filter (fun p => !dn && pre.isPrefixOf p)).Perm (listD d pre) := by
        have h1 := KK.out.perm
        rw [Kh.out, List.nil_append] at h1
        have h2 := ((h1.trans Kpm.out).map (·.1)).filter (fun p => !dn && pre.isPrefixOf p)
        refine h2.trans ?_
        rw [Kdn.out, ← Kdd.out]
        cases dn <;> simp [listP]
      have hsr : (listD d pre).Pairwise (· < ·) := by
        rw [Kdn.out, ← Kdd.out]
        cases dn
        · exact up_list Kup.out pre
        · simp
      rw [← sortP_eq hpm hsr, ← hr0]
      exact Kb2.out
    · intro pr p t post w' htd hi' hT hsz hent
      have hrlt := KK.out.it.lt
      have hmem : (p, t) ∈ l := KK.out.perm.mem_iff.1 (by rw [htd]; simp)
      have hpl := Kel.out _ hmem
      simp only at hpl
      have Kq := Kept.mk (show todo.length = (pr ++ post).length + 1 from by rw [htd]; simp; omega)
      have Kpm2 := Kept.mk (show ((pr ++ post) ++ (seen ++ [(p, t)])).Perm l from by
        refine List.Perm.trans ?_ KK.out.perm
        rw [htd, ← List.append_assoc]
        refine List.perm_append_comm.trans ?_
        simp only [List.cons_append, List.nil_append, List.append_assoc, List.singleton_append]
        exact (List.perm_middle.symm))
      have hT' : Touch [r0] wr w' := hT
      have Kb' := Kept.mk (KK.out.buf.touch hT' (fun j hj hm => by rw [List.mem_singleton] at hm; subst hm; exact KK.out.nr hj))
      have KE' := Kept.mk (show Ext w w' from Touch.below KK.out.ext hT' (fun j hj => by rw [List.mem_singleton] at hj; subst hj; exact KK.out.rlo) KK.out.ext.size)
      have Ki' := Kept.mk hi'
      have Krl := Kept.mk (show r0 < w'.heap.size from by rw [hsz]; exact hrlt)
      have Krn := Kept.mk (And.intro KK.out.rlo KK.out.nr)
      have Kfl := Kept.mk (show ((seen ++ [(p, t)]).map (·.1)).filter (fun p => !dn && pre.isPrefixOf p) = (seen.map (·.1)).filter (fun p => !dn && pre.isPrefixOf p) ++ (if (!dn && pre.isPrefixOf p) = true then [p] else []) from by
        rw [List.map_append, List.filter_append]
        congr 1
        simp only [List.map_cons, List.map_nil, List.filter_cons, List.filter_nil])
      have KP := Kept.mk (prefix_any p pre hpl hp w')
      simp only [strK] at hent ⊢
      clear hrlt hmem hi' hT hsz htd hT' KK
      have c4' : w'.cell? ⟨g, 4, none⟩ = some (.bool dn) := KE'.out.cell c4
      generalize (seen.map (·.1)).filter (fun p => !dn && pre.isPrefixOf p) = ol at *
      cases dn with
      | true =>
        have Kn : Kept (LstAt w w' bs r0 l (pr ++ post) (seen ++ [(p, t)]) pre true (.slice oA on ocap)) := Kept.mk
          ⟨Ki'.out, Kpm2.out, by rw [Kfl.out]; simpa using Kb'.out, KE'.out, Krn.out.1, Krn.out.2⟩
        clear Kfl KP Kb'
        go_wp2_with fail
        go_roundg (gk - 1)
        case measure => have := Kr.out; have := Kq.out; omega
        case rel => exact ⟨_, _, by have := Kr.out; have := Kq.out; omega, Kn⟩
      | false =>
        go_wp2_with fail
        refine KP.out.mono ?_
        rintro e w2 ⟨rfl, rfl⟩
        cases hpr : pre.isPrefixOf p with
        | false =>
          rw [hpr] at Kfl
          have Kn : Kept (LstAt w w' bs r0 l (pr ++ post) (seen ++ [(p, t)]) pre false (.slice oA on ocap)) := Kept.mk
            ⟨Ki'.out, Kpm2.out, by rw [Kfl.out]; simpa using Kb'.out, KE'.out, Krn.out.1, Krn.out.2⟩
          clear Kfl KP Kb' hpr
          go_wp2_with fail
          go_roundg (gk - 1)
          case measure => have := Kr.out; have := Kq.out; omega
          case rel => exact ⟨_, _, by have := Kr.out; have := Kq.out; omega, Kn⟩
        | true =>
          rw [hpr] at Kfl
          clear hpr KP
          have hon2 : on ≤ 1048576 := by have := Kol.out; omega
          have Konl := Kept.mk (show (ol.map tV).length = on from by rw [List.length_map]; exact Kon.out.symm)
          go_wp2_with (refine wpList_append_lit (P := Try.prog) w' rfl (.tmp 26) (.tmp 28) 34 rfl 9 iS _ Try.underlying34 hiS hzS hsS (by rfl) w.heap.size (.slice oA on ocap) (ol.map tV) rfl Kb'.out [.string (strOf p)] 1 rfl rfl (by simp [Value.oneCell']) KE'.out.size (by rw [Konl.out]; simp only [maxLen]; omega) (by rw [Konl.out, hbS]; omega) ?_)
          intro v3 w3 hb3 hT3 ho3
          have Kn : Kept (LstAt w w3 bs r0 l (pr ++ post) (seen ++ [(p, t)]) pre false v3) := Kept.mk
            ⟨Ki'.out.touch hT3 (by have := hT3; exact fun hm => by have := (Kb'.out.owns _ hm).1; have := Kbs.out; omega) Krn.out.2, Kpm2.out, by rw [Kfl.out]; have hb4 := hb3; rw [← hr0] at hb4; simpa [tV] using hb4, Touch.below KE'.out hT3 (fun j hj => (Kb'.out.owns j hj).1) KE'.out.size, Krn.out.1, fun hm => by
              rcases ho3 _ hm with h | h
              · exact Krn.out.2 h
              · have := Krl.out; omega⟩
          obtain ⟨vA, vn, vc, hv3⟩ : ∃ A n c, v3 = .slice A n c := by obtain ⟨A, c, h⟩ := hb3.form; exact ⟨A, _, c, h⟩
          subst hv3
          clear hb3 hT3 ho3 Kb' Kfl
          go_wp2_with fail
          go_roundg (gk - 1)
          case measure => have := Kr.out; have := Kq.out; omega
          case rel => exact ⟨_, _, by have := Kr.out; have := Kq.out; omega, Kn⟩
end Disk
end Go.Proofs.Ytjphmjegfpdbeaa
