/- The walk of edges.Map, over any function that gives names. No condition. -/
import Derived.Test.YtdjkcolceccclaaEdgeE
import Derived.Deep.RegionHeldLaw
namespace Go.Proofs.Ytdjkcolceccclaa
open Go.RowKit
namespace Edge
set_option linter.unusedSimpArgs false
set_option linter.unusedVariables false
theorem results_blk_slot {P : Program} {fn : Func} {p s : Tmp} {ty : TypeId} (h : fn.results = #[.cell p ty, .tmp s]) (tmps : Array Value) (w : World) (g : Nat) (T : TypeId) (xs : List Value) (d : TypeDesc) (v : Value)
    (hp : tmps.getD p undef = .pointer (some ⟨g, 0, none⟩)) (hv : tmps.getD s undef = v) (hg : Blk w g T xs) (hu : P.underlying ty = some d) (hd : (match d with | .struct _ | .array _ _ => true | _ => false) = true) (hi : (P.info? ty).map (·.size) = some xs.length) :
    (results fn tmps).run P w = .ok (.tuple #[.agg xs.toArray, v]) w := by
  have hp' : tmps[p]?.getD undef = .pointer (some ⟨g, 0, none⟩) := by simpa using hp
  have hv' : tmps[s]?.getD undef = v := by simpa using hv
  simp [results, h, hp', hv', asAddr, run_loadVar_row w g T ty xs.toArray (0, 0) d hg hu hd (by simpa using hi)]
/-- A function that gives names. -/
structure Gives (fn : FuncId) (caps : Array Value) (E : List Ed) (f : Nat → S × Int) (J : Nat → World → Prop) (D : List Nat) (N : Nat) : Prop where
  low : ∀ j ∈ D, j < N
  touch : ∀ i S w w', J i w → Touch S w w' → (∀ j ∈ S, N ≤ j) → J i w'
  enter : ∀ args w, (callFunc fn args).run Try.prog w = .ok (.enter fn args) w
  call : ∀ i w, (hi : i < E.length) → J i w → Calls Try.prog fn (#[.agg #[.string (strOf E[i].id), .int .i64 E[i].k]] ++ caps) w fun e w' => e = .returned (.tuple #[.string (strOf (f i).1), .int .i64 (f i).2]) ∧ J (i + 1) w' ∧ Touch D w w'
def ob0 : List Value := [.int .i64 0, .string ⟨#[]⟩, .slice none 0 0, .string ⟨#[]⟩, .slice none 0 0, .string ⟨#[]⟩, .int .i64 0, .string ⟨#[]⟩, .string ⟨#[]⟩, .int .i64 0]
theorem ObAt.spot {w : World} {B g : Nat} {o : Ob} {F : Nat → S} {i : Nat} {ev pv : Value} (h : ObAt w B g (updO o F i) ev pv) (hi : i < (edgesP o).length) :
    ∃ ab ao, (spotsP g ev pv o)[i]? = some (⟨ab, ao, none⟩, (edgesP o)[i].k) ∧ w.cell? ⟨ab, ao, none⟩ = some (.string (strOf (edgesP o)[i].id)) := by
  have hu := edges_upd o F i
  have hi2 : i < (edgesP (updO o F i)).length := by rw [hu, List.length_mapIdx]; exact hi
  obtain ⟨ab, ao, h1, h2⟩ := spots_at h.b h.o.in hi2
  have he : (edgesP (updO o F i))[i] = (edgesP o)[i] := by
    simp only [hu, List.getElem_mapIdx, Nat.lt_irrefl, if_false]
  rw [he] at h1 h2
  rw [spots_upd] at h1
  exact ⟨ab, ao, h1, h2⟩
theorem ObAt.away {w : World} {B g : Nat} {o : Ob} {ev pv : Value} (h : ObAt w B g o ev pv) {D : List Nat} {N ab : Nat} (hq : ab = g ∨ ab ∈ own ev ∨ ab ∈ own pv) (hD : ∀ j ∈ D, j < N) (hN : N ≤ g) : ab ∉ D := fun hm => by
  have h1 := hD _ hm
  have h2 := h.l
  rcases hq with h3 | h3 | h3
  · omega
  · have := h.o.e.owns ab h3; omega
  · have := h.o.p.owns ab h3; omega
/-- A round's state. -/
structure RoundM (w : World) (J : Nat → World → Prop) (D : List Nat) (o : Ob) (f : Nat → S × Int) (ev pv : Value) (B : Nat) (A : Option Addr) (n c : Nat) (L : List (Addr × Int)) (i : Nat) (wi : World) : Prop where
  ob : ObAt wi (w.heap.size + 2) w.heap.size (updO o (fun i => (f i).1) i) ev pv
  res : Blk wi (w.heap.size + 1) 25 ob0
  sp : BufS 2 wi B 54 (.slice A n c) (L.map spV)
  j : J i wi
  t : Touch D w wi
  z : ∀ j, j < i → (f j).2 = 0
  sz : B ≤ wi.heap.size
theorem RoundM.touch {fn : FuncId} {caps : Array Value} {E : List Ed} {N : Nat} {w : World} {J : Nat → World → Prop} {D : List Nat} {o : Ob} {f : Nat → S × Int} {ev pv : Value} {B : Nat} {A : Option Addr} {n c : Nat} {L : List (Addr × Int)} {i : Nat} {wi wj : World} (h : RoundM w J D o f ev pv B A n c L i wi) (hG : Gives fn caps E f J D N) (hN : N ≤ w.heap.size)
    {S : List Nat} (k : Touch S wi wj) (hS : ∀ j ∈ S, wi.heap.size ≤ j) : RoundM w J D o f ev pv B A n c L i wj :=
  ⟨h.ob.touch k (fun j hj => .inr (hS j hj)), h.res.touch k (fun hm => by have := hS _ hm; have := h.res.lt; omega), h.sp.touch k (fun j hj hm => by have := hS _ hm; have := h.sp.owns j hj; omega),
    hG.touch i S _ _ h.j k (fun j hj => by have := hS j hj; have := h.t.size; omega), h.t.trans k (fun j hj => .inr (by have := hS j hj; have := h.t.size; omega)), h.z, Nat.le_trans h.sz k.size⟩

section
variable {fn : FuncId} {caps : Array Value} {E : List Ed} {N : Nat} {w : World} {J : Nat → World → Prop} {D : List Nat} {o : Ob} {f : Nat → S × Int} {ev pv : Value} {B : Nat} {A : Option Addr} {n c : Nat} {L : List (Addr × Int)} {i : Nat} {wi w7 : World}
theorem RoundM.next (h : RoundM w J D o f ev pv B A n c L i wi) (hG : Gives fn caps E f J D N) (hN : N ≤ w.heap.size) (hJ : J (i + 1) w7) (hT : Touch D wi w7) (h0 : (f i).2 = 0) {ab ao : Nat}
    (hq : (∃ u, w7.cell? ⟨ab, ao, none⟩ = some u) ∧ w7.frozen? ⟨ab, ao, none⟩ = false ∧ (ab = w.heap.size ∨ ab ∈ own ev ∨ ab ∈ own pv) ∧ ObAt (w7.setCell ⟨ab, ao, none⟩ (.string (strOf (f i).1))) (w.heap.size + 2) w.heap.size (updO o (fun i => (f i).1) (i + 1)) ev pv)
    (b1 : w.heap.size < B) (b2 : ∀ j ∈ own ev, j < B) (b3 : ∀ j ∈ own pv, j < B) : RoundM w J D o f ev pv B A n c L (i + 1) (w7.setCell ⟨ab, ao, none⟩ (.string (strOf (f i).1))) := by
  obtain ⟨_, _, q3, q4⟩ := hq
  have hS := Touch.set w7 ⟨ab, ao, none⟩ (.string (strOf (f i).1))
  have hab : ab < B ∧ w.heap.size ≤ ab ∧ ab ≠ w.heap.size + 1 := by
    rcases q3 with q3 | q3 | q3
    · omega
    · have := h.ob.o.e.owns _ q3; have := b2 _ q3; omega
    · have := h.ob.o.p.owns _ q3; have := b3 _ q3; omega
  refine ⟨q4, (h.res.touch hT (fun hm => by have := hG.low _ hm; omega)).touch hS (fun hm => by rw [List.mem_singleton] at hm; simp only at hm; omega),
    (h.sp.touch hT (fun j hj hm => by have := hG.low _ hm; have := h.sp.owns j hj; omega)).touch hS (fun j hj hm => by rw [List.mem_singleton] at hm; have := h.sp.owns j hj; simp only at hm; omega),
    hG.touch _ _ _ _ hJ hS (fun j hj => by rw [List.mem_singleton] at hj; simp only at hj; omega),
    (h.t.trans hT (fun j hj => .inl hj)).trans hS (fun j hj => by rw [List.mem_singleton] at hj; simp only at hj; exact .inr (by omega)), fun j hj => ?_, Nat.le_trans h.sz (Nat.le_trans hT.size hS.size)⟩
  by_cases hji : j = i
  · rw [hji]; exact h0
  · exact h.z j (by omega)
theorem RoundM.bad (h : RoundM w J D o f ev pv B A n c L i wi) (hG : Gives fn caps E f J D N) (hN : N ≤ w.heap.size) (hJ : J (i + 1) w7) (hT : Touch D wi w7) (W : World) (hW : W = w7.setRow (w.heap.size + 1) ob0.toArray) :
    J (i + 1) W ∧ Touch D w W ∧ Blk W (w.heap.size + 1) 25 ob0 := by
  subst hW
  have hS := Touch.row w7 (w.heap.size + 1) ob0.toArray
  exact ⟨hG.touch _ _ _ _ hJ hS (fun j hj => by rw [List.mem_singleton] at hj; omega), (h.t.trans hT (fun j hj => .inl hj)).trans hS (fun j hj => .inr (by rw [List.mem_singleton] at hj; omega)), (h.res.touch hT (fun hm => by have := hG.low _ hm; omega)).row _⟩
theorem RoundM.fin (h : RoundM w J D o f ev pv B A n c L i wi) (hG : Gives fn caps E f J D N) (hN : N ≤ w.heap.size) (W : World) (hW : W = wi.setRow (w.heap.size + 1) (obV (updO o (fun i => (f i).1) i) ev pv).toArray) :
    ObOwn W w.heap.size (updO o (fun i => (f i).1) i) ev pv ∧ J i W ∧ Touch D w W ∧ Blk W (w.heap.size + 1) 25 (obV (updO o (fun i => (f i).1) i) ev pv) := by
  subst hW
  have hS := Touch.row wi (w.heap.size + 1) (obV (updO o (fun i => (f i).1) i) ev pv).toArray
  exact ⟨⟨(h.ob.o.e.touch hS (fun j hj hm => by rw [List.mem_singleton] at hm; have := h.ob.o.e.owns j hj; omega)).lower (by omega), (h.ob.o.p.touch hS (fun j hj hm => by rw [List.mem_singleton] at hm; have := h.ob.o.p.owns j hj; omega)).lower (by omega)⟩,
    hG.touch _ _ _ _ h.j hS (fun j hj => by rw [List.mem_singleton] at hj; omega), h.t.trans hS (fun j hj => .inr (by rw [List.mem_singleton] at hj; omega)), h.res.row _⟩
end
/-- What Map answers. -/
def MapE (w : World) (J : Nat → World → Prop) (D : List Nat) (o : Ob) (f : Nat → S × Int) (e : Ending) (w' : World) : Prop :=
  Touch D w w' ∧ ((∃ ev pv, (∀ i, i < (edgesP o).length → (f i).2 = 0) ∧ e = .returned (.tuple #[.agg (obV (updO o (fun i => (f i).1) (edgesP o).length) ev pv).toArray, .int .i64 0]) ∧
      ObOwn w' w.heap.size (updO o (fun i => (f i).1) (edgesP o).length) ev pv ∧ J (edgesP o).length w') ∨
    (∃ k, k < (edgesP o).length ∧ (∀ i, i < k → (f i).2 = 0) ∧ (f k).2 ≠ 0 ∧ e = .returned (.tuple #[.agg ob0.toArray, .int .i64 (f k).2]) ∧ J (k + 1) w'))
theorem Touch.newer {D S : List Nat} {a b c : World} (h : Touch D a b) (k : Touch S b c) (hS : ∀ j ∈ S, j ∈ D ∨ a.heap.size ≤ j) : Touch D a c := h.trans k hS
set_option maxRecDepth 100000 in
set_option maxHeartbeats 8000000 in
theorem map_any {fn : FuncId} {caps : Array Value} {f : Nat → S × Int} {J : Nat → World → Prop} {D : List Nat} {N : Nat} (o : Ob) (hG : Gives fn caps (edgesP o) f J D N) (ev pv : Value) (he : o.ents.length ≤ 2000) (hp : o.pars.length ≤ 2000) (w : World) (hN : N ≤ w.heap.size) (hin : ObIn w o ev pv) (hJ : J 0 w) :
    Calls Try.prog 13 #[.agg (obV o ev pv).toArray, .func (.func fn) #[] caps] w (MapE w J D o f) := by
  have hm : Try.prog.follows .mixedOrders = true := by kernel_rfl
  have KG := Kept.mk hG
  have hen := hG.enter
  have hb0 := Blk.new w 25 (obV o ev pv)
  have hb1 := Blk.new (w.alloc (.cells (obV o ev pv).toArray 25)) 25 ob0
  have hE1 := Ext.alloc w (.cells (obV o ev pv).toArray 25)
  have hE2 := Ext.alloc (w.alloc (.cells (obV o ev pv).toArray 25)) (.cells ob0.toArray 25)
  have hE12 := hE1.trans hE2
  have KO := Kept.mk (own_any o ev pv he hp _ (hin.ext hE12))
  have Kb0 := Kept.mk (hb0.ext hE2)
  have Kb1 := Kept.mk (show Blk ((w.alloc (.cells (obV o ev pv).toArray 25)).alloc (.cells ob0.toArray 25)) (w.heap.size + 1) 25 ob0 from by rwa [World.size_alloc] at hb1)
  have Ksz := Kept.mk (show ((w.alloc (.cells (obV o ev pv).toArray 25)).alloc (.cells ob0.toArray 25)).heap.size = w.heap.size + 2 from by simp)
  have KE := Kept.mk hE12
  have KJ := Kept.mk (hG.touch 0 _ _ _ hJ (Touch.of_ext (S := []) hE12) (by simp))
  have hel := edges_len o he hp
  have Kel := Kept.mk hel
  have Khe := Kept.mk he
  have Khp := Kept.mk hp
  unfold OwnE at KO
  clear hb0 hb1 hE1 hE2 hE12 hin hJ hG hel he hp
  unfold obV ob0 at *
  go_enter Try.func13, Try.ntmps13
  go_wp2_with fail
  generalize (w.alloc (.cells #[.int .i64 o.k, .string (strOf o.text), ev, .string (strOf o.tree), pv, .string (strOf o.targ), .int .i64 o.of, .string (strOf o.name), .string (strOf o.who), .int .i64 o.when] 25)).alloc (.cells #[.int .i64 0, .string ⟨#[]⟩, .slice none 0 0, .string ⟨#[]⟩, .slice none 0 0, .string ⟨#[]⟩, .int .i64 0, .string ⟨#[]⟩, .string ⟨#[]⟩, .int .i64 0] 25) = w1 at *
  refine KO.out.mono ?_
  rintro e w2 ⟨ev2, pv2, rfl, hO2, hE2⟩
  obtain ⟨eA, en, ec, hev⟩ := BufS.form3 hO2.e
  obtain ⟨pA, pn, pc, hpv⟩ := BufS.form3 hO2.p
  subst hev hpv
  rw [Ksz.out] at hO2
  have Kb2 := Kept.mk (Kb0.out.ext hE2)
  have hT23 := Touch.row w2 w.heap.size (obV o (.slice eA en ec) (.slice pA pn pc)).toArray
  have KA3 : Kept (ObAt (w2.setRow w.heap.size (obV o (.slice eA en ec) (.slice pA pn pc)).toArray) (w.heap.size + 2) w.heap.size o (.slice eA en ec) (.slice pA pn pc)) := Kept.mk
    ⟨Kb2.out.row _, ⟨hO2.e.touch hT23 (fun j hj hm => by rw [List.mem_singleton] at hm; have := hO2.e.owns j hj; omega), hO2.p.touch hT23 (fun j hj hm => by rw [List.mem_singleton] at hm; have := hO2.p.owns j hj; omega)⟩, by omega⟩
  have Kb3 := Kept.mk ((Kb1.out.ext hE2).touch hT23 (by simp))
  have KJ3 := Kept.mk (KG.out.touch 0 _ _ _ (KG.out.touch 0 [] _ _ KJ.out (Touch.of_ext hE2) (by simp)) hT23 (fun j hj => by rw [List.mem_singleton] at hj; omega))
  have KT3 := Kept.mk (((Touch.of_ext (S := D) (KE.out.trans hE2)).trans hT23 (fun j hj => .inr (by rw [List.mem_singleton] at hj; omega))))
  unfold obV at KA3 KJ3 KT3 Kb3
  have KS := Kept.mk (fun (W : World) (h : ObAt W (w.heap.size + 2) w.heap.size o (.slice eA en ec) (.slice pA pn pc)) => spots_any w.heap.size o (.slice eA en ec) (.slice pA pn pc) Khe.out Khp.out W h.b h.o.in)
  clear hT23 hO2 hE2 KO KJ Kb1 Kb0 KE
  go_wp2_with (refine wpList_store_blk (P := Try.prog) rfl 25 (.tmp 2) (.tmp 11) rfl rfl w.heap.size rfl 25 _ [.int .i64 o.k, .string (strOf o.text), (.slice eA en ec), .string (strOf o.tree), (.slice pA pn pc), .string (strOf o.targ), .int .i64 o.of, .string (strOf o.name), .string (strOf o.who), .int .i64 o.when] rfl Kb2.out rfl infoOb rfl ?_)
  generalize w2.setRow w.heap.size [.int .i64 o.k, .string (strOf o.text), (.slice eA en ec), .string (strOf o.tree), (.slice pA pn pc), .string (strOf o.targ), .int .i64 o.of, .string (strOf o.name), .string (strOf o.who), .int .i64 o.when].toArray = w3 at *
  refine (KS.out w3 KA3.out).mono ?_
  clear Kb2 KS
  rintro e w4 ⟨A4, c4, rfl, hB4, hE4⟩
  have KA4 := Kept.mk (KA3.out.touch (Touch.of_ext (S := []) hE4) (by simp))
  have Kb4 := Kept.mk (Kb3.out.ext hE4)
  have KJ4 := Kept.mk (KG.out.touch 0 [] _ _ KJ3.out (Touch.of_ext hE4) (by simp))
  have KT4 := Kept.mk (KT3.out.trans (Touch.of_ext (S := []) hE4) (by simp))
  have KB4 := Kept.mk hB4
  have Kw4 := Kept.mk (show w3.heap.size ≤ w4.heap.size from hE4.size)
  have Kow := Kept.mk (show (w.heap.size < w3.heap.size ∧ ∀ j ∈ own (.slice eA en ec), j < w3.heap.size) ∧ ∀ j ∈ own (.slice pA pn pc), j < w3.heap.size from ⟨⟨KA3.out.b.lt, fun j hj => (KA3.out.o.e.owns j hj).2⟩, fun j hj => (KA3.out.o.p.owns j hj).2⟩)
  have Kwg := Kept.mk (show w.heap.size + 1 < w3.heap.size from Kb3.out.lt)
  clear hE4 hB4 KA3 Kb3 KJ3 KT3
  have hll := spots_len w.heap.size (.slice eA en ec) (.slice pA pn pc) o
  have KR := Kept.mk (fun (i : Nat) (W : World) (hi : i < (edgesP o).length) (h : ObAt W (w.heap.size + 2) w.heap.size (updO o (fun i => (f i).1) i) (.slice eA en ec) (.slice pA pn pc)) => h.spot hi)
  have KQ := Kept.mk (fun (i : Nat) (W : World) (hi : i < (edgesP o).length) (h : ObAt W (w.heap.size + 2) w.heap.size (updO o (fun i => (f i).1) i) (.slice eA en ec) (.slice pA pn pc)) (ab ao : Nat) (k : Int) ha => h.put (ab := ab) (ao := ao) (k := k) hi ha)
  have KA5 : Kept (ObAt w4 (w.heap.size + 2) w.heap.size (updO o (fun i => (f i).1) 0) (.slice eA en ec) (.slice pA pn pc)) := Kept.mk (by rw [updO_zero]; exact KA4.out)
  have KM : Kept (∀ e w', (Touch D w w' ∧ ((∃ ev pv, (∀ i, i < (edgesP o).length → (f i).2 = 0) ∧ e = .returned (.tuple #[.agg (obV (updO o (fun i => (f i).1) (edgesP o).length) ev pv).toArray, .int .i64 0]) ∧
      ObOwn w' w.heap.size (updO o (fun i => (f i).1) (edgesP o).length) ev pv ∧ J (edgesP o).length w') ∨
    (∃ k, k < (edgesP o).length ∧ (∀ i, i < k → (f i).2 = 0) ∧ (f k).2 ≠ 0 ∧ e = .returned (.tuple #[.agg ob0.toArray, .int .i64 (f k).2]) ∧ J (k + 1) w'))) → MapE w J D o f e w') := Kept.mk (fun e w' h => h)
  generalize spotsP w.heap.size (.slice eA en ec) (.slice pA pn pc) o = L at KQ KR KB4 hll ⊢
  generalize edgesP o = E at KQ KR KM KG hll Kel ⊢
  obtain ⟨n, hn⟩ : ∃ n, n = E.length := ⟨_, rfl⟩
  have KL := Kept.mk (hll.trans hn.symm)
  have KN := Kept.mk hn
  have hn2 : n ≤ 2001 := by have := Kel.out; omega
  rw [hll, ← hn] at KB4 ⊢
  clear hll hn KA4
  go_wp2_with fail
  go_loopg [14] n (fun r iv wi => ∃ i : Nat, i + r = n ∧ iv = .int .i64 (i : Int) ∧ Kept (RoundM w J D o f (.slice eA en ec) (.slice pA pn pc) w3.heap.size A4 n c4 L i wi))
  case atStart => exact ⟨0, by omega, rfl, Kept.mk ⟨KA5.out, Kb4.out, KB4.out, KJ4.out, KT4.out, by simp, Kw4.out⟩⟩
  case round =>
    obtain ⟨i, hr, rfl, KK⟩ := hrel
    have Kr := Kept.mk hr
    have hil : i ≤ n := by omega
    clear hr KA5 Kb4 KB4 KJ4 KT4 Kw4
    by_cases hlt : i < n
    · have hltI : (i : Int) < (n : Int) := by omega
      have hiL : i < L.length := by rw [KL.out]; exact hlt
      have hiE2 : i < E.length := by rw [← KN.out]; exact hlt
      obtain ⟨b, off, rfl, hbl, hc⟩ := KK.out.sp.rd.get (by decide) (i := i) hiL
      obtain ⟨ab, ao, ha, hca⟩ := KR.out i wr hiE2 KK.out.ob
      have KPut := Kept.mk (fun W h => KQ.out i W hiE2 h ab ao _ ha)
      have Khx := Kept.mk hiE2
      have KC := Kept.mk (fun W h => KG.out.call i W hiE2 h)
      rw [List.getElem?_eq_getElem hiL] at ha
      injection ha with ha
      rw [ha] at hc
      have s0 := hc 0 (.pointer (some ⟨ab, ao, none⟩)) rfl
      have s1 := hc 1 (.int .i64 E[i].k) rfl
      have s2 := hca
      generalize E[i] = x at s1 s2 KC
      rw [Nat.add_zero] at s0
      clear hc hca ha hiL hiE2
      go_wp2_with fail
      have hX := Blk.new wr 54 [.pointer (some ⟨ab, ao, none⟩), .int .i64 x.k]
      have hEx := Ext.alloc wr (.cells #[.pointer (some ⟨ab, ao, none⟩), .int .i64 x.k] 54)
      have d0 := hX.cell 0
      have d1 := hX.cell 1
      have d2 := hEx.cell s2
      simp only [List.getElem?_cons_zero, List.getElem?_cons_succ] at d0 d1
      have KKx := Kept.mk (KK.out.touch KG.out hN (Touch.of_ext (S := []) hEx) (by simp))
      have Kxg := Kept.mk (show w3.heap.size ≤ wr.heap.size from KK.out.sz)
      generalize hwx : wr.alloc (.cells #[.pointer (some ⟨ab, ao, none⟩), .int .i64 x.k] 54) = wx at *
      generalize wr.heap.size = xg at *
      clear hX hEx s0 s1 s2 hwx KK
      have KJx := Kept.mk (fun W (h : Ext wx W) => (KKx.out.touch KG.out hN (Touch.of_ext (S := []) h) (by simp)).j)
      have Kab := Kept.mk (show ab ∉ D ∧ xg ∉ D from ⟨KKx.out.ob.away (KPut.out _ KKx.out.ob).2.2.1 KG.out.low hN, fun hm => by have := KG.out.low _ hm; have := Kxg.out; have := Kow.out.1.1; omega⟩)
      have c0 := (Ext.drew wx).cell d0
      have c1 := (Ext.drew wx).cell d1
      have c2 := (Ext.drew wx).cell d2
      go_wp2_with fail
      go_region_held_law (fun w' => w'.cell? ⟨xg, 0, none⟩ = some (.pointer (some ⟨ab, ao, none⟩)) ∧ w'.cell? ⟨xg, 1, none⟩ = some (.int .i64 x.k) ∧ w'.cell? ⟨ab, ao, none⟩ = some (.string (strOf x.id)))
        (first
          | with_reducible exact ⟨d0, d1, d2⟩
          | with_reducible exact ⟨c0, c1, c2⟩
          | with_reducible exact ⟨e0, e1, e2⟩)
        (first | (refine (KC.out wx.drew (KJx.out _ (Ext.drew wx))).mono ?_; rintro e w7 ⟨rfl, hJ7, hT7⟩; have e0 := hT7.cell c0 Kab.out.2; have e1 := hT7.cell c1 Kab.out.2; have e2 := hT7.cell c2 Kab.out.1))
      have KK6 := Kept.mk (KKx.out.touch KG.out hN (Touch.of_ext (S := []) (Ext.drew wx)) (by simp))
      clear KKx d0 d1 d2 c0 c1 c2 e1 KJx

      by_cases h0 : (f i).2 = 0
      · rw [h0]
        have hq := KPut.out w7 (KK6.out.ob.touch hT7 (fun j hj => .inl (Nat.lt_of_lt_of_le (KG.out.low j hj) hN)))
        have KN7 := Kept.mk (KK6.out.next KG.out hN hJ7 hT7 h0 hq Kow.out.1.1 Kow.out.1.2 Kow.out.2)
        obtain ⟨⟨u7, hu7⟩, hfr7, _⟩ := hq
        clear hJ7 hT7 KC KK6 KPut
        go_wp2_with fail
        go_roundg (gk - 1)
        case measure => have := Kr.out; omega
        case rel => exact ⟨i + 1, by have := Kr.out; omega, by first | rfl | simp, KN7⟩
      · have h0b : ((f i).2 != 0) = true := by simpa using h0
        have Kbad := Kept.mk (fun W hW => KK6.out.bad KG.out hN hJ7 hT7 W hW)
        have Kres := Kept.mk (KK6.out.res.touch hT7 (fun hm => by have := KG.out.low _ hm; omega))
        have KM2 := Kept.mk (fun e w' a b c d f => KM.out e w' ⟨a, .inr ⟨i, b, KK6.out.z, c, d, f⟩⟩)
        have K0 := Kept.mk h0
        unfold ob0 at Kbad Kres KM2
        clear hJ7 hT7 KC KK6 KPut KM h0
        go_wp2_with (first | (refine wpList_store_blk (P := Try.prog) rfl 25 (.tmp 4) (.tmp 32) rfl rfl (w.heap.size + 1) rfl 25 _ [.int .i64 0, .string ⟨#[]⟩, .slice none 0 0, .string ⟨#[]⟩, .slice none 0 0, .string ⟨#[]⟩, .int .i64 0, .string ⟨#[]⟩, .string ⟨#[]⟩, .int .i64 0] rfl Kres.out rfl infoOb rfl ?_))
        obtain ⟨F1, F2, F3⟩ := Kbad.out _ rfl
        exact bodyPost_ret (v := _) (results_blk_slot rfl _ _ (w.heap.size + 1) 25 _ _ _ rfl rfl F3 Try.underlying25 rfl infoOb) rfl (KM2.out _ _ F2 Khx.out K0.out rfl F1)
    · have hltI : ¬ (i : Int) < (n : Int) := by omega
      have Kin := Kept.mk (show i = E.length from by rw [← KN.out]; omega)
      have KAt := Kept.mk KK.out.ob
      have Kres := Kept.mk KK.out.res
      have Kz := Kept.mk (fun j (hj : j < E.length) => KK.out.z j (by rw [Kin.out]; exact hj))
      have Kfin := Kept.mk (fun W hW => KK.out.fin KG.out hN W hW)
      rw [Kin.out] at KAt Kfin
      have KM2 := Kept.mk (fun e w' a b c d f => KM.out e w' ⟨a, .inl ⟨.slice eA en ec, .slice pA pn pc, b, c, d, f⟩⟩)
      generalize updO o (fun i => (f i).1) E.length = o2 at KAt Kfin KM2
      have Kb := Kept.mk KAt.out.b
      unfold obV at Kb KM2 Kfin
      unfold ob0 at Kres
      clear KAt KK KM
      go_wp2_with (first | (refine wpList_load_blk (P := Try.prog) rfl 25 (.tmp 2) rfl w.heap.size rfl 25 _ Kb.out _ Try.underlying25 rfl infoOb ?_) | (refine wpList_store_blk (P := Try.prog) rfl 25 (.tmp 4) (.tmp 39) rfl rfl (w.heap.size + 1) rfl 25 _ [.int .i64 o2.k, .string (strOf o2.text), .slice eA en ec, .string (strOf o2.tree), .slice pA pn pc, .string (strOf o2.targ), .int .i64 o2.of, .string (strOf o2.name), .string (strOf o2.who), .int .i64 o2.when] rfl Kres.out rfl infoOb rfl ?_))
      obtain ⟨F1, F2, F3, F4⟩ := Kfin.out _ rfl
      exact bodyPost_ret (v := _) (results_blk_slot rfl _ _ (w.heap.size + 1) 25 _ _ _ rfl rfl F4 Try.underlying25 rfl infoOb) rfl (KM2.out _ _ F3 Kz.out rfl F1 F2)
end Edge
end Go.Proofs.Ytdjkcolceccclaa
