/- The walk of the document's Do: one is spoilt. No condition. -/
import Derived.Test.YtpdaijmehaialaaNetWalkM
import Derived.Deep.RegionHeldLaw
namespace Go.Proofs.Ytpdaijmehaialaa
open Go.RowKit Go.ChangeShapes Go.WideShapes
namespace Net
set_option linter.unusedSimpArgs false
set_option linter.unusedVariables false
attribute [local go_sem ↓] Go.wp_at_zero Go.wp_at_succ
theorem strOf_app (a b : List UInt8) : strOf a ++ strOf b = strOf (a ++ b) := by
  rw [str_eq]; simp [strOf]
theorem wpList_copyS {P : Program} (w : World) {ops : Array Oper} {rest : List Oper} {o : Oper} {a : Go.Act} {Q : Exit → Go.Act → World → Prop} (hgd : o.guard = none) (sl x : Operand) (t tx : TypeId)
    (ho : o.op = .call { callee := .builtin .append, args := #[sl, x], argTypes := #[t, tx] }) (s : Nat) (hs0 : 0 < s) (e : TypeId) (i : TypeInfo) (z : Value) (ht : P.underlying t = some (.slice e)) (hi : P.info? e = some i) (hz : i.zero = some z) (hs1 : i.size = s) (hz1 : z.cells.size = s)
    (B : Nat) (A : Option Addr) (hv : a.eval sl = .slice A 0 0) (hA : ∀ a, A = some a → B ≤ a.block ∧ a.block < w.heap.size) (xv : Value) (n : Nat) (news : List (List Value)) (hnc : ∀ c ∈ news, c.length = s) (hx : a.eval x = xv) (hs : Src P s tx xv n news.flatten w) (hB : B ≤ w.heap.size) (h63 : n ≤ maxLen) (hfit : n * i.bytes ≤ 140737488355328)
    (hk : ∀ v' w', BufS s w' B e v' news → Ext w w' → wpList P ops Q rest (a.put o.dst v') w') : wpList P ops Q (o :: rest) a w := by
  refine wpList_plain hgd fun K hK => ?_
  obtain ⟨v', w', hr, h2, h3, h4⟩ := run_append_emptyS (P := P) w s hs0 t tx o.type e i z ht hi hz hs1 hz1 B A hA xv n news hnc hs hB h63 hfit
  unfold Oper.wp execOp
  simp only [ho, resolve, invoke, builtin, Sem.run_bind, Sem.run_pure, Result.andThen_ok, List.map_toArray, List.map_cons, List.map_nil, hv, hx, hr]
  exact hK _ _ (hk v' w' h2 h3)
theorem set_split (l : List UInt8) (m : Nat) (y : UInt8) (h : m < l.length) : l.set m y = l.take m ++ [y] ++ l.drop (m + 1) := by
  rw [List.set_eq_take_append_cons_drop, if_pos h]; simp
set_option maxRecDepth 100000 in
set_option maxHeartbeats 4000000 in
theorem ref_spoil (B : Nat) (places : Int) (A : Option Addr) (c : Nat) (l : List Pk) (hl : l.length ≤ 100000) (hb : ∀ p ∈ l, p.b.length ≤ 1048576) (a : Act) (ha : ActOk a) (hk : a.k = 4) (hth : thereB l a.i = true) (hu : ¬ a.turn = 0) (hne : (l.getD a.i.toNat noPk).b ≠ []) (w : World) (hB : B ≤ w.heap.size) (h : BufS 3 w B 31 (.slice A l.length c) (l.map pk)) :
    Calls Try.prog 15 #[.slice A l.length c, .int .i64 places, .agg (actV a).toArray] w (RefE w B (.slice A l.length c) (doP places l a)) := by
  obtain ⟨iR, hiR, hzR, hsR, hbR⟩ := infoR
  have hdo : doP places l a = (l.set a.i.toNat (spoilPk (l.getD a.i.toNat noPk) a.at' a.turn), noPk, true, 0) := by unfold doP; rw [if_neg (by omega), if_neg (by omega), if_neg (by omega), if_neg (by omega), if_pos hk]; unfold spoilP; rw [if_neg (by simp only [hth, not_or]; exact ⟨by decide, hu, hne⟩)]
  rw [hdo]
  clear hdo
  obtain ⟨k, ⟨f, t, b⟩, i, at', turn⟩ := a
  obtain ⟨hab, hat0, hat1⟩ := ha
  simp only [] at hk hab hat0 hat1
  subst hk
  simp only [] at hth hu hne
  have hr : 0 ≤ i ∧ i < (l.length : Int) := by simpa [thereB] using hth
  obtain ⟨kk, hkk⟩ : ∃ kk : Nat, i = (kk : Int) := ⟨i.toNat, by omega⟩
  subst hkk
  have hkl : kk < l.length := by omega
  have hkI : (kk : Int) < (l.length : Int) := by omega
  rw [Int.toNat_natCast] at hne
  simp only [Int.toNat_natCast]
  obtain ⟨p, hp⟩ : ∃ p, p = l.getD kk noPk := ⟨_, rfl⟩
  have hpk := pk_get hkl
  rw [← hp] at hpk hne ⊢
  have hpb : p.b.length ≤ 1048576 := by rw [hp]; exact small_getD hb kk
  have hpos : 0 < p.b.length := List.length_pos_iff.2 hne
  obtain ⟨M, hM⟩ : ∃ M : Nat, (if at' < 0 then 0 else at') = (M : Int) := ⟨(if at' < 0 then 0 else at').toNat, by split <;> omega⟩
  obtain ⟨m, hm⟩ : ∃ m : Nat, m = M % p.b.length := ⟨_, rfl⟩
  have hml : m < p.b.length := by rw [hm]; exact Nat.mod_lt _ hpos
  have Km1 := Kept.mk (show at' < 0 → (m : Int) = 0 from fun h => by rw [if_pos h] at hM; have h0 : M = 0 := by omega
                                                                     rw [hm, h0, Nat.zero_mod]; rfl)
  have Km2 := Kept.mk (show ¬ at' < 0 → at' % (p.b.length : Int) = (m : Int) ∧ 0 ≤ at' from fun h => by rw [if_neg h] at hM; exact ⟨by rw [hM, hm]; rfl, by omega⟩)
  have hMx : (spoilPk p at' turn).b = turnB p.b m turn := by
    unfold spoilPk
    rw [hM, Int.toNat_natCast, ← hm]
  obtain ⟨tn, htn⟩ : ∃ tn : Nat, turn = (tn : Int) := ⟨turn.toNat, by omega⟩
  subst htn
  have htn1 : tn < 256 := by omega
  obtain ⟨x, hx⟩ : ∃ x : UInt8, x = p.b.getD m 0 := ⟨_, rfl⟩
  have hxb : x.toNat < 256 := x.toNat_lt
  have hxor : bits .xor .u8 (x.toNat : Int) (tn : Int) = ((x.toNat ^^^ tn : Nat) : Int) := xor8 hxb htn1
  have hxl : x.toNat ^^^ tn < 256 := xor_lt8 hxb htn1
  obtain ⟨y, hy⟩ : ∃ y : UInt8, y = UInt8.ofNat (x.toNat ^^^ tn) := ⟨_, rfl⟩
  have hyn : ((y.toNat : Nat) : Int) = ((x.toNat ^^^ tn : Nat) : Int) := congrArg Nat.cast (by rw [hy, UInt8.toNat_ofNat']; exact Nat.mod_eq_of_lt hxl)
  rw [← hyn] at hxor
  have hset : turnB p.b m (tn : Int) = p.b.take m ++ [y] ++ p.b.drop (m + 1) := by rw [turnB, Int.toNat_natCast, ← hx, ← hy, set_split _ _ _ hml]
  have hu2 : ((tn : Int) == 0) = false := by simpa using hu
  have hyb : y.toNat < 256 := y.toNat_lt
  have hpz := strOf_size p.b
  have gx : (((strOf p.b)[m]'(by rw [hpz]; exact hml)).toNat : Int) = (x.toNat : Int) := by
    rw [hx]
    have e : ((strOf p.b)[m]'(by rw [hpz]; exact hml)) = p.b[m] := rfl
    rw [e, List.getD_eq_getElem?_getD, List.getElem?_eq_getElem hml]; rfl
  have e1 : (strOf p.b).extract 0 m = strOf (p.b.take m) := by rw [str_eq]; simp [strOf, ByteArray.extract, ByteArray.copySlice]
  have e2 : (strOf p.b).extract (m + 1) p.b.length = strOf (p.b.drop (m + 1)) := by rw [str_eq]; simp [strOf, ByteArray.extract, ByteArray.copySlice]; exact List.take_of_length_le (by rw [List.length_drop]; omega)
  have hl1 : (strOf (p.b.take m)).size = m := by rw [strOf_size, List.length_take]; omega
  have hl2 : (strOf (p.b.drop (m + 1))).size = p.b.length - (m + 1) := by rw [strOf_size, List.length_drop]
  have e3 : strOf (p.b.take m) ++ strOf [y] = strOf (p.b.take m ++ [y]) := strOf_app _ _
  have e4 : strOf (p.b.take m ++ [y]) ++ strOf (p.b.drop (m + 1)) = strOf (p.b.take m ++ [y] ++ p.b.drop (m + 1)) := strOf_app _ _
  have hl3 : (strOf (p.b.take m)).size + (strOf [y]).size ≤ 9223372036854775807 := by rw [hl1, strOf_size]; simp; omega
  have hl4 : (strOf (p.b.take m ++ [y])).size + (strOf (p.b.drop (m + 1))).size ≤ 9223372036854775807 := by rw [strOf_size, strOf_size, List.length_append, List.length_take, List.length_drop]; simp; omega
  obtain ⟨s5, hs5⟩ : ∃ s5, s5 = p.b.take m ++ [y] ++ p.b.drop (m + 1) := ⟨_, rfl⟩
  rw [← hs5] at e4 hset
  generalize p.b.take m = s1 at e1 e3 e4 hl1 hl3 hl4 hs5
  generalize p.b.drop (m + 1) = s3 at e2 e4 hl2 hl4 hs5
  generalize s1 ++ [y] = s4 at e3 e4 hl4 hs5
  have Ksx := Kept.mk hMx
  have Kset := Kept.mk hset
  have Kp := Kept.mk hp
  have hmI2 : (m : Int) < (p.b.length : Int) := by omega
  have hmI3 : (m : Int) + 1 ≤ (p.b.length : Int) := by omega
  have hmn : ((m : Int) + 1).toNat = m + 1 := by omega
  have hwr2 : IntKind.i64.wrap ((m : Int) + 1) = (m : Int) + 1 := IntWalk.i64_in _ (by omega)
  have hm0 : (0 : Int) ≤ (m : Int) + 1 := by omega
  have hposI : (0 : Int) < (p.b.length : Int) := by omega
  have hposI2 : ¬ (p.b.length : Int) = 0 := by omega
  have hmI5 : (m : Int) ≤ (p.b.length : Int) := by omega
  have hmN5 : m ≤ p.b.length := by omega
  clear hp hr hne hM hm hx hy hyn hset hMx hu hs5 hl1 hl2
  have hbz := strOf_size b
  have hvo := fun j hj => (h.owns j hj).2
  have Kvo := Kept.mk hvo
  have hE1 := Ext.alloc w (.cells #[.int .i64 4, .int .i64 f, .int .i64 t, .string (strOf b), .int .i64 (kk : Int), .int .i64 at', .int .u8 (tn : Int)] 33)
  have hX : Blk (w.alloc (.cells #[.int .i64 4, .int .i64 f, .int .i64 t, .string (strOf b), .int .i64 (kk : Int), .int .i64 at', .int .u8 (tn : Int)] 33)) w.heap.size 33 [.int .i64 4, .int .i64 f, .int .i64 t, .string (strOf b), .int .i64 (kk : Int), .int .i64 at', .int .u8 (tn : Int)] := Blk.new _ _ _
  have hs1 : (w.alloc (.cells #[.int .i64 4, .int .i64 f, .int .i64 t, .string (strOf b), .int .i64 (kk : Int), .int .i64 at', .int .u8 (tn : Int)] 33)).heap.size = w.heap.size + 1 := by simp
  have hs2 : ((w.alloc (.cells #[.int .i64 4, .int .i64 f, .int .i64 t, .string (strOf b), .int .i64 (kk : Int), .int .i64 at', .int .u8 (tn : Int)] 33)).alloc (.cells #[.int .i64 0, .int .i64 0, (.string (ByteArray.mk #[]))] 31)).heap.size = w.heap.size + 2 := by simp
  have KX := Kept.mk (show Blk ((w.alloc (.cells #[.int .i64 4, .int .i64 f, .int .i64 t, .string (strOf b), .int .i64 (kk : Int), .int .i64 at', .int .u8 (tn : Int)] 33)).alloc (.cells #[.int .i64 0, .int .i64 0, (.string (ByteArray.mk #[]))] 31)) _ _ _ from hX.ext (Ext.alloc _ _))
  have KE := Kept.mk (show Ext w ((w.alloc (.cells #[.int .i64 4, .int .i64 f, .int .i64 t, .string (strOf b), .int .i64 (kk : Int), .int .i64 at', .int .u8 (tn : Int)] 33)).alloc (.cells #[.int .i64 0, .int .i64 0, (.string (ByteArray.mk #[]))] 31)) from hE1.trans (Ext.alloc _ _))
  have KR := Kept.mk (show Blk ((w.alloc (.cells #[.int .i64 4, .int .i64 f, .int .i64 t, .string (strOf b), .int .i64 (kk : Int), .int .i64 at', .int .u8 (tn : Int)] 33)).alloc (.cells #[.int .i64 0, .int .i64 0, (.string (ByteArray.mk #[]))] 31)) (w.alloc (.cells #[.int .i64 4, .int .i64 f, .int .i64 t, .string (strOf b), .int .i64 (kk : Int), .int .i64 at', .int .u8 (tn : Int)] 33)).heap.size _ [.int .i64 0, .int .i64 0, (.string (ByteArray.mk #[]))] from Blk.new (w.alloc (.cells #[.int .i64 4, .int .i64 f, .int .i64 t, .string (strOf b), .int .i64 (kk : Int), .int .i64 at', .int .u8 (tn : Int)] 33)) 31 [.int .i64 0, .int .i64 0, (.string (ByteArray.mk #[]))])
  rw [hs1] at KR
  have x0 := KX.out.cell 0
  have x1 := KX.out.cell 1
  have x2 := KX.out.cell 2
  have x3 := KX.out.cell 3
  have x4 := KX.out.cell 4
  have x5 := KX.out.cell 5
  have x6 := KX.out.cell 6
  simp only [List.getElem?_cons_zero, List.getElem?_cons_succ] at x0 x1 x2 x3 x4 x5 x6
  have KV := Kept.mk (show BufS 3 ((w.alloc (.cells #[.int .i64 4, .int .i64 f, .int .i64 t, .string (strOf b), .int .i64 (kk : Int), .int .i64 at', .int .u8 (tn : Int)] 33)).alloc (.cells #[.int .i64 0, .int .i64 0, (.string (ByteArray.mk #[]))] 31)) B 31 (.slice A l.length c) (l.map pk) from h.ext KE.out)
  have Khb := Kept.mk hb
  obtain ⟨⟨r10, r11, r12⟩, r1f, r1g, r1h⟩ := Blk.three KR.out
  change Calls _ _ #[_, _, .agg #[.int .i64 4, .int .i64 f, .int .i64 t, .string (strOf b), .int .i64 (kk : Int), .int .i64 at', .int .u8 (tn : Int)]] _ _
  have Khs := Kept.mk hs2
  clear h hb hE1 hX hs1 hs2 hvo
  have Kth := Kept.mk hth
  clear hth
  go_enter Try.func15, Try.ntmps15
  go_upto_region 1 with fail
  generalize ((w.alloc (.cells #[.int .i64 4, .int .i64 f, .int .i64 t, .string (strOf b), .int .i64 (kk : Int), .int .i64 at', .int .u8 (tn : Int)] 33)).alloc (.cells #[.int .i64 0, .int .i64 0, (.string (ByteArray.mk #[]))] 31)) = wq at KE KX KR KV Khs x0 x1 x2 x3 x4 x5 x6 r10 r11 r12 r1f r1g r1h ⊢
  go_cut [10] (fun s10 wx => s10 = .bool (thereB l (kk : Int)) ∧ wq = wx)
  case first =>
    go_wp2_with fail
    go_meet
    exact ⟨by rw [Kth.out], rfl⟩
  case rest =>
  obtain ⟨rfl, rfl⟩ := hcut
  rw [Kth.out]
  obtain ⟨-, hcap, hmx⟩ := KV.out.len
  obtain ⟨b2, o2, rfl, p0, p1, p2⟩ := buf_atR KV.out (i := kk) (by simpa using hkl) hpk
  have h63 : c ≤ 9223372036854775807 := hmx
  have hkb : kk ≤ 100000 := by omega
  by_cases hneg : at' < 0
  all_goals
    have Kcase := Kept.mk hneg
    go_upto_region 26 with fail
    go_cut [12] (fun s12 wx => s12 = .int .i64 (m : Int) ∧ wq = wx)
    case first =>
      first
        | (have hz := Km1.out Kcase.out
           have Kz := Kept.mk hz
           clear hz
           go_wp2_with fail
           go_meet
           exact ⟨by rw [Kz.out], rfl⟩)
        | (obtain ⟨hz, hz0⟩ := Km2.out Kcase.out
           go_wp2_with fail
           go_meet
           exact ⟨by first | rfl | rw [hz], rfl⟩)
    case rest =>
    obtain ⟨rfl, rfl⟩ := hcut
    have Kzs := Kept.mk (show wq.heap.size < (wq.alloc (.cells #[] 31)).heap.size by simp)
    go_wp2_with (refine wpList_copyS (P := Try.prog) _ rfl (.tmp 139) (.tmp 140) 44 44 rfl 3 (by decide) 31 iR _ Try.underlying44 hiR hzR hsR rfl wq.heap.size (some ⟨wq.heap.size, 0, none⟩) rfl (by intro a' ha'; injection ha' with ha'; subst ha'; exact ⟨Nat.le_refl _, Kzs.out⟩) (.slice (some ⟨b2, o2, none⟩) l.length c) l.length (l.map pk) (pk_each l) rfl (BufS.src (P := Try.prog) _ (KV.out.ext (Ext.alloc _ _)) (by decide) Try.underlying44 (pk_one l)) (by simp) (by simp only [maxLen]; omega) (by rw [hbR]; omega) ?_)
    intro v1 w1 hV1 hE1
    have hEq1 : Ext wq w1 := (Ext.alloc _ _).trans hE1
    obtain ⟨A1, c1, rfl⟩ := hV1.form
    rw [List.length_map] at hV1 ⊢
    obtain ⟨b1, o1, rfl, -, -, q2⟩ := buf_atR hV1 (i := kk) (by simpa using hkl) hpk
    obtain ⟨u4, -, q3⟩ := hV1.slot (i := kk) (j := 2) (by simpa using hkl) (by decide)
    have hb1 := (hV1.owns b1 (by simp [own])).1
    have hX1 : w.heap.size ≠ b1 := by have := Khs.out; omega
    have hEl := Ext.alloc w1 (.cells #[.int .u8 (y.toNat : Int)] 5)
    have hVl := hV1.ext hEl
    obtain ⟨u5, -, d3⟩ := hVl.slot (i := kk) (j := 2) (by simpa using hkl) (by decide)
    have d2 := hEl.cell q2
    have Kbl := Kept.mk (show [Value.int .u8 (y.toNat : Int)] = bytesV [y] from rfl)
    have hbuf : Buf (w1.alloc (.cells #[.int .u8 (y.toNat : Int)] 5)) w1.heap.size 5 (.slice (some ⟨w1.heap.size, 0, none⟩) 1 1) (bytesV [y]) := Buf.lit w1 5 w1.heap.size (Nat.le_refl _) [Value.int .u8 (y.toNat : Int)] (by simp [maxLen])
    have kc := conv_buf (P := Try.prog) _ 54 5 9 Try.underlying54 Try.underlying5 Try.underlying9 _ (hbuf.ext (Ext.drew _))
    have y4 := hEq1.cell x4
    have y6 := hEq1.cell x6
    have z4 := hEl.cell y4
    have z6 := hEl.cell y6
    have Kq := Kept.mk hEq1
    have Kl := Kept.mk hEl
    have KVl := Kept.mk hVl
    have hkI4 : (kk : Int) < (l.length : Int) := by omega
    clear hV1 hE1 hEq1 hEl hVl hbuf
    go_wp2_with fail
    go_region_held_law (fun w' => w'.cell? ⟨w.heap.size, 4, none⟩ = some (.int .i64 (kk : Int)) ∧ w'.cell? ⟨w.heap.size, 6, none⟩ = some (.int .u8 (tn : Int)))
      (first
        | with_reducible exact ⟨y4, y6⟩
        | with_reducible exact ⟨(Ext.drew _).cell y4, (Ext.drew _).cell y6⟩
        | with_reducible exact ⟨z4, z6⟩
        | with_reducible exact ⟨(Ext.drew _).cell z4, (Ext.drew _).cell z6⟩
        | exact ⟨(Touch.set _ ⟨b1, o1 + kk * 3 + 2, none⟩ _).cell z4 (by simpa using hX1), (Touch.set _ ⟨b1, o1 + kk * 3 + 2, none⟩ _).cell z6 (by simpa using hX1)⟩)
      (fail)
    all_goals
      have hss := KVl.out.setAt (by decide) kk (by simpa using hkl) 2 (by decide) (.string (strOf s5))
      rw [pk_setB l kk hkl p Kp.out] at hss
      have hpe : ({ p with b := s5 } : Pk) = spoilPk p at' (tn : Int) := by
        have := Ksx.out
        rw [Kset.out] at this
        rw [← this]
        rfl
      rw [hpe] at hss
      have hTs : Touch [b1] (w1.alloc (.cells #[.int .u8 (y.toNat : Int)] 5)) ((w1.alloc (.cells #[.int .u8 (y.toNat : Int)] 5)).setCell ⟨b1, o1 + kk * 3 + 2, none⟩ (.string (strOf s5))) := Touch.set _ ⟨b1, o1 + kk * 3 + 2, none⟩ _
      have hEs : Ext wq ((w1.alloc (.cells #[.int .u8 (y.toNat : Int)] 5)).setCell ⟨b1, o1 + kk * 3 + 2, none⟩ (.string (strOf s5))) := Touch.below (Kq.out.trans Kl.out) hTs (fun j hj => by rw [List.mem_singleton] at hj; omega) (Ext.size (Kq.out.trans Kl.out))
      have KE6 := Kept.mk (hEs.trans (Ext.drew _))
      have KV6 := Kept.mk (hss.ext (Ext.drew _))
      have hR6 := KR.out.ext KE6.out
      obtain ⟨⟨t10, t11, t12⟩, t1f, t1g, t1h⟩ := Blk.three hR6
      have KF := Kept.mk (ref_end (n := l.length) KE.out KE6.out (Nat.le_succ _) (by rw [List.length_set]) (KV6.out.lower (show B ≤ wq.heap.size by have := Khs.out; omega)) (fun hm => by have := (KV6.out.owns (w.heap.size + 1) hm).1; have := Khs.out; omega) (v0 := .slice (some ⟨b2, o2, none⟩) l.length c) (fun j hj => .inr (by have := (KV6.out.owns j hj).1; have := Khs.out; omega)) hR6 (.int .i64 0) (.int .i64 0) (.string (ByteArray.mk #[])))
      clear hss hpe hTs hEs hR6 d2 d3 y4 y6 z4 z6 kc
      generalize ((w1.alloc (.cells #[.int .u8 (y.toNat : Int)] 5)).setCell ⟨b1, o1 + kk * 3 + 2, none⟩ (.string (strOf s5))).drew = w6 at t10 t11 t12 t1f t1g t1h KF ⊢
      go_wp2_with fail
      change bodyPost _ _ _ _ _ (put3 _ (w.heap.size + 1) (.int .i64 0) (.int .i64 0) (.string (ByteArray.mk #[])))
      obtain ⟨n1, n2, n4, n5⟩ := KF.out
      obtain ⟨⟨f0, f1, f2⟩, -⟩ := Blk.three n4
      exact bodyPost_ret (v := .tuple #[.slice (some ⟨b1, o1, none⟩) (l.length) c1, .agg #[(.int .i64 0), (.int .i64 0), (.string (ByteArray.mk #[]))], .bool true, .int .i64 0]) (by simp [results, Try.results15, go_sem, f0, f1, f2]) rfl ⟨(some ⟨b1, o1, none⟩), c1, by rw [List.length_set]; rfl, (by have h := n1; rw [← (show (l.set kk (spoilPk p at' (tn : Int))).length = l.length from List.length_set)] at h; exact h), n2, n5⟩
end Net
end Go.Proofs.Ytpdaijmehaialaa
