/- Part 25 of the proof. -/
import Derived.Test.YtnmkgbomiillgaaGreatDoorP24
import Derived.Laws.OwnMore
/- sql.isTree: the walk. -/
namespace Go.Proofs
open Go.RowKit Go.Shelf
attribute [local go_sem] Oper.semAt_some
theorem Tryz.mk66 (N : Nat) (W : World) (h : N * 8 ≤ 140737488351232) : (Instr.makeSlice 66 (.int .i64 (N : Int)) (.int .i64 (N : Int))).run Tryz.prog W = .ok (.slice (some ⟨W.heap.size, 0, none⟩) N N) (W.alloc (.cells (Array.replicate N (.int .i64 0)) 3)) := by
  have hi : (Tryz.prog.info? 3).map (fun i => (i.size, i.bytes, i.zero)) = some (1, 8, some (.int .i64 0)) := by kernel_rfl
  cases hx : Tryz.prog.info? 3 with
  | none => rw [hx] at hi; cases hi
  | some i =>
    rw [hx] at hi
    simp only [Option.map_some, Option.some.injEq, Prod.mk.injEq] at hi
    obtain ⟨e1, e2, e3⟩ := hi
    have := run_make (P := Tryz.prog) W 66 3 i (.int .i64 0) Tryz.underlying66 hx e3 .i64 .i64 N N (by omega) (Int.le_refl _) (by rw [e2]; omega) (by omega)
    rw [this, e1, Int.toNat_natCast, Nat.mul_one]
    have hm : madeCells (Value.int .i64 0).cells N = Array.replicate N (.int .i64 0) := by
      apply Array.ext'
      rw [show (Value.int .i64 0).cells = #[.int .i64 0] from rfl, toList_madeCells_one]; simp
    rw [hm]
theorem Tryz.cell_at {W : World} {q j : Nat} {c : Array Value} {t : TypeId} {v : Value} (h : W.heap[q]? = some (.cells c t)) (hv : c[j]? = some v) : W.cell? ⟨q, j, none⟩ = some v := by simp [World.cell?, h, hv]
theorem Tryz.frozen_at {W : World} {q j : Nat} {c : Array Value} {t : TypeId} (h : W.heap[q]? = some (.cells c t)) : W.frozen? ⟨q, j, none⟩ = false := by simp [World.frozen?, h]
theorem Tryz.heap_set {W : World} {q j : Nat} {c : Array Value} {t : TypeId} {v : Value} (h : W.heap[q]? = some (.cells c t)) : (W.setCell ⟨q, j, none⟩ v).heap[q]? = some (.cells (c.setIfInBounds j v) t) := by
  simp [World.setCell, Array.getElem?_modify, h]
theorem Tryz.alloc3 (W : World) (o1 o2 o3 : Obj) : ∃ W0, ((W.alloc o1).alloc o2).alloc o3 = W0 ∧ W0.heap.size = W.heap.size + 1 + 1 + 1 ∧ (∀ q, q < W.heap.size → W0.heap[q]? = W.heap[q]?) ∧ W0.heap[W.heap.size + 1]? = some o2 ∧ W0.heap[W.heap.size + 1 + 1]? = some o3 ∧ KeepsOthers W W0 ∧ ∀ {n : Nat} {w : World}, Below n w W → n ≤ W.heap.size → Below n w W0 := by
  refine ⟨_, rfl, by simp, fun q hq => ?_, ?_, ?_, ((KeepsOthers.alloc _ _).trans (KeepsOthers.alloc _ _)).trans (KeepsOthers.alloc _ _), fun h hn => ((h.alloc hn _).alloc (by simp; omega) _).alloc (by simp; omega) _⟩
  · rw [Below.heap_alloc _ _ _ (by simp; omega), Below.heap_alloc _ _ _ (by simp; omega), Below.heap_alloc _ _ _ hq]
  · rw [Below.heap_alloc _ _ _ (by simp)]
    have := World.alloc_heap_new (W.alloc o1) o2
    rwa [World.size_alloc] at this
  · have := World.alloc_heap_new ((W.alloc o1).alloc o2) o3
    rwa [World.size_alloc, World.size_alloc] at this
/-- The state of the range over a node's operands: 'W0' at its beginning, 'q' the block of 'next'. -/
def Tryz.RI (w W0 : World) (q : Nat) (beg : List Int) (i0 : Int) (pre : List { x : Nat × Int // 0 ≤ x.2 }) (W : World) : Prop :=
  (∃ nx, Tryz.innerF beg i0 (pre.map (·.1)) = some nx ∧ W.heap[q]? = some (.cells #[.int .i64 nx] 3)) ∧ Tryz.KeepBut W0.heap.size q W0 W ∧ W0.heap.size ≤ W.heap.size ∧ Below w.heap.size w W
def Tryz.RX (w W0 : World) (q : Nat) (beg : List Int) (i0 : Int) (c : Code) (pre : List { x : Nat × Int // 0 ≤ x.2 }) (W : World) : Prop :=
  (c = .ret ∧ Tryz.innerF beg i0 (pre.map (·.1)) = none) ∧ Tryz.KeepBut W0.heap.size q W0 W ∧ W0.heap.size ≤ W.heap.size ∧ Below w.heap.size w W
theorem Tryz.RI.own {w W0 : World} {q : Nat} {beg : List Int} {i0 : Int} (hq : q < W0.heap.size) (hw : w.heap.size ≤ W0.heap.size) : OwnFrom W0.heap.size (Tryz.RI w W0 q beg i0) := fun s A B row hs hg hr => by
  obtain ⟨⟨nx, h1, h2⟩, h3, h4, h5⟩ := hs
  have same : ∀ k, k < W0.heap.size → B.heap[k]? = A.heap[k]? := fun k hk => hg.block k (by omega) fun e => by have := (hr k e.symm).1; omega
  exact ⟨⟨nx, h1, (same q hq).trans h2⟩, fun k hk hne => (same k hk).trans (h3 k hk hne), Nat.le_trans h4 hg.size, h5.grown hg (by omega) fun k e => by have := (hr k e).1; omega⟩
theorem Tryz.RX.own {w W0 : World} {q : Nat} {beg : List Int} {i0 : Int} (hw : w.heap.size ≤ W0.heap.size) (c : Code) : OwnFrom W0.heap.size (Tryz.RX w W0 q beg i0 c) := fun s A B row hs hg hr => by
  obtain ⟨h1, h3, h4, h5⟩ := hs
  have same : ∀ k, k < W0.heap.size → B.heap[k]? = A.heap[k]? := fun k hk => hg.block k (by omega) fun e => by have := (hr k e.symm).1; omega
  exact ⟨h1, fun k hk hne => (same k hk).trans (h3 k hk hne), Nat.le_trans h4 hg.size, h5.grown hg (by omega) fun k e => by have := (hr k e).1; omega⟩
theorem Tryz.KeepBut.trans {n x : Nat} {A B C : World} (h : Tryz.KeepBut n x A B) (k : Tryz.KeepBut n x B C) : Tryz.KeepBut n x A C := fun j hj hx => (k j hj hx).trans (h j hj hx)
theorem Tryz.Ints.mono {w W : World} {sv : Value} {zs : List Int} (hs : w.heap.size ≤ W.heap.size) (h : ∀ k, k < w.heap.size → W.heap[k]? = w.heap[k]?) : Tryz.Ints w sv zs → Tryz.Ints W sv zs
  | .inl e => .inl e
  | .inr ⟨b, off, cap, e, hb, hc⟩ => .inr ⟨b, off, cap, e, by omega, fun j hj => by rw [← hc j hj]; simp only [World.cell?, h b hb]⟩
structure Tryz.TW (w : World) (N : Nat) (beg : List Int) (W : World) : Prop where
  below : Below w.heap.size w W
  res : W.heap[w.heap.size]? = some (.cells #[.bool false] 4)
  beg : W.heap[w.heap.size + 1]? = some (.cells (beg.map (Value.int .i64)).toArray 3)
  box : W.heap[w.heap.size + 1 + 1]? = some (.cells #[.slice (some ⟨w.heap.size + 1, 0, none⟩) N N] 66)
theorem Tryz.TW.size {w W : World} {N : Nat} {beg : List Int} (h : Tryz.TW w N beg W) : w.heap.size + 1 + 1 < W.heap.size := (Array.getElem?_eq_some_iff.1 h.box).1
theorem Tryz.TW.start (w : World) (N : Nat) : Tryz.TW w N (List.replicate N 0) (((w.alloc (.cells #[.bool false] 4)).alloc (.cells (Array.replicate N (.int .i64 0)) 3)).alloc (.cells #[.slice (some ⟨w.heap.size + 1, 0, none⟩) N N] 66)) where
  below := (((Below.refl _ w).alloc (Nat.le_refl _) _).alloc (by simp) _).alloc (by simp; omega) _
  res := by
    rw [Below.heap_alloc _ _ _ (by simp; omega), Below.heap_alloc _ _ _ (by simp)]
    exact World.alloc_heap_new w _
  beg := by
    rw [Below.heap_alloc _ _ _ (by simp)]
    have := World.alloc_heap_new (w.alloc (.cells #[.bool false] 4)) (.cells (Array.replicate N (.int .i64 0)) 3)
    rw [World.size_alloc] at this
    rw [this]
    simp
  box := by
    have := World.alloc_heap_new ((w.alloc (.cells #[.bool false] 4)).alloc (.cells (Array.replicate N (.int .i64 0)) 3)) (.cells #[.slice (some ⟨w.heap.size + 1, 0, none⟩) N N] 66)
    rw [World.size_alloc, World.size_alloc] at this
    exact this
set_option maxRecDepth 100000 in
set_option maxHeartbeats 2000000 in
theorem Tryz.isTree_in (F : Fence) (n : Nat) (h20 : F.fn 20) (h52 : F.fn 52) (h107 : F.fn 107) (hro : F.round = none) (hn : 3 ≤ n) (b o cap : Nat) (es : List Tryz.Nd) (hlen : es.length * 48 ≤ 140737488351232) (hpos : 0 < es.length)
    (harg : ∀ (i : Nat) (x : Tryz.Nd), es[i]? = some x → ∀ z ∈ x.zs, 0 ≤ z ∧ z < es.length) (w : World) (hN : Tryz.NodesAt w b o es) :
    CallsIn F n Tryz.prog 20 #[.slice (some ⟨b, o, none⟩) es.length cap] w fun e W' => e = .returned (.bool (Tryz.treeF (es.map (·.zs)))) ∧ Below w.heap.size w W' := by
  have h1 : 1 ≤ n := by omega
  have hlen' : (es.length : Int) * 48 ≤ 140737488351232 := by omega
  refine callsIn_of_wp_marks Tryz.func20 rfl h20 ?_ hro
  simp only [Tryz.ntmps20, List.size_toArray, List.length_cons, List.length_nil, Nat.reduceAdd, Nat.reduceSub, Array.replicate_succ, Array.replicate_zero, List.push_toArray, List.append_toArray, List.nil_append, List.cons_append]
  gi_wp2
  rw [Tryz.mk66 _ _ (by omega)]
  gi_wp2
  refine wpIn_loop (fun a W => ∃ (k : Nat) (beg : List Int) (ds : List Deferred) (u4 u5 u6 u15 u16 u17 u18 u19 u20 u21 u22 u23 u34 u35 u36 u37 u38 u39 : Value), k ≤ es.length ∧
      a = { tmps := #[.slice (some ⟨b, o, none⟩) es.length cap, undef, .pointer (some ⟨w.heap.size, 0, none⟩), .pointer (some ⟨w.heap.size + 1 + 1, 0, none⟩), u4, u5, u6, undef, undef,
          .slice (some ⟨b, o, none⟩) es.length cap, .int .i64 es.length, .slice (some ⟨w.heap.size + 1, 0, none⟩) es.length es.length, .slice (some ⟨b, o, none⟩) es.length cap, .int .i64 es.length, .int .i64 k, u15, u16, u17, u18, u19, u20, u21, u22, u23,
          undef, undef, undef, undef, undef, undef, undef, undef, undef, undef, u34, u35, u36, u37, u38, u39, undef, undef, undef, undef, undef, undef, undef], defers := ds } ∧
      Tryz.Marks ds W ∧ (∀ r, { target := .collected r, args := #[] } ∈ ds → w.heap.size ≤ r) ∧ Tryz.outerF es.length (es.map (·.zs)) k = some beg ∧ Tryz.TW w es.length beg W) (fun a _ => es.length - (intOf (a.tmps.getD 14 undef)).toNat) ?_ ?_
  · refine ⟨0, _, [], _, _, _, _, _, _, _, _, _, _, _, _, _, _, _, _, _, _, Nat.zero_le _, rfl, trivial, (fun r hr => by cases hr), rfl, ?_⟩
    exact Tryz.TW.start w es.length
  · rintro a W ⟨k, beg, ds, u4, u5, u6, u15, u16, u17, u18, u19, u20, u21, u22, u23, u34, u35, u36, u37, u38, u39, hk, rfl, hM, hD, hO, hT⟩
    have hsz := hT.size
    have hbl := Tryz.outerF_ok hO hk
    by_cases hlt : k < es.length
    · obtain ⟨hb, hcl⟩ := hN
      obtain ⟨x, hx⟩ : ∃ x, es[k]? = some x := ⟨es[k], by simp [hlt]⟩
      obtain ⟨hcx, hI, hzr⟩ := hcl k x hx
      have c0 : W.cell? ⟨b, o + k * 6, none⟩ = some (.int .i64 x.k) := (hT.below.cell (p := ⟨b, o + k * 6 + 0, none⟩) hb).trans (hcx 0 _ rfl)
      have c1 : W.cell? ⟨b, o + k * 6 + 1, none⟩ = some (.int .i64 x.n) := (hT.below.cell (p := ⟨b, o + k * 6 + 1, none⟩) hb).trans (hcx 1 _ rfl)
      have c2 : W.cell? ⟨b, o + k * 6 + 2, none⟩ = some (.int .i64 x.s) := (hT.below.cell (p := ⟨b, o + k * 6 + 2, none⟩) hb).trans (hcx 2 _ rfl)
      have c3 : W.cell? ⟨b, o + k * 6 + 3, none⟩ = some (.string x.f) := (hT.below.cell (p := ⟨b, o + k * 6 + 3, none⟩) hb).trans (hcx 3 _ rfl)
      have c4 : W.cell? ⟨b, o + k * 6 + 4, none⟩ = some (.string x.t) := (hT.below.cell (p := ⟨b, o + k * 6 + 4, none⟩) hb).trans (hcx 4 _ rfl)
      have c5 : W.cell? ⟨b, o + k * 6 + 5, none⟩ = some (.slice x.sa x.sl x.sc) := (hT.below.cell (p := ⟨b, o + k * 6 + 5, none⟩) hb).trans (hcx 5 _ rfl)
      have HM := Lib.hid hM
      have HD := Lib.hid hD
      have HO := Lib.hid hO
      have HC := Lib.hid hcx
      have HI := Lib.hid hI
      have HT := Lib.hid hT
      have HX := Lib.hid hx
      have HL := Lib.hid hbl
      clear hM hD hO hcx hI hT hcl hbl hx
      gi_wp2_with (gi_at_call 52; refine (Tryz.back_in F (n - 1) h52 hro _ _ _ _).mono ?_; rintro e w' ⟨rfl, rfl⟩)
      obtain ⟨W0, hW0, z0, hold, hq, hbs, hko, hbel⟩ := Tryz.alloc3 W (.cells #[.int .i64 x.k, .int .i64 x.n, .int .i64 x.s, .string x.f, .string x.t, .slice x.sa x.sl x.sc] 68) (.cells #[.int .i64 ((k : Int) - 1)] 3) (.cells #[.slice x.sa x.sl x.sc] 66)
      rw [hW0]
      clear hW0
      have hT := HT.out
      have hB0 := hbel hT.below (by omega)
      have hw0 : w.heap.size ≤ W0.heap.size := by omega
      have hI0 : Tryz.Ints W0 (.slice x.sa x.sl x.sc) x.zs := HI.out.mono hw0 fun q hq => (hold q (by omega)).trans (hT.below.block q hq)
      have hbg := Tryz.outerF_bd hk HO.out
      have hxz := Lib.hid (harg k x HX.out)
      refine wpIn_rangeFunc_ownG hro h1 (gf := 107) (lb := #[.pointer (some ⟨W.heap.size + 1 + 1, 0, none⟩)]) rfl h107 (enters_of Tryz.func107 (by kernel_rfl) rfl)
        (Tryz.back_stops F (n - 1) h107 hro (by omega) (W.heap.size + 1 + 1) (W.heap.size + 1) _ x.zs hzr W0 (by omega) (by omega) (Tryz.cell_at hbs rfl) hI0 (fun b off cap l e => by
            rcases HI.out with ⟨e1, _⟩ | ⟨b', off', cap', e1, hb', _⟩
            · rw [e1] at e; cases e
            · rw [e1] at e
              cases e
              omega) (fun y : { x : Nat × Int // 0 ≤ x.2 } => y.1) (fun j => ⟨Tryz.bk x.zs j, by
                simp only [Tryz.bk]
                cases hg : x.zs[x.zs.length - 1 - j]? with
                | none => simp
                | some v => exact (hxz.out v (List.mem_of_getElem? hg)).1⟩) (fun _ => rfl))
        (fun h k => h.trans k) (fun A l o1 o2 hl _ _ _ j hj _ => World.putObj_heap_other (by omega)) (Below.refl _ _) (fun _ => rfl)
        (Tryz.RI w W0 (W.heap.size + 1) beg ((k : Int) - 1)) (Tryz.RX w W0 (W.heap.size + 1) beg ((k : Int) - 1)) (Tryz.RI.own (by omega) hw0) (Tryz.RX.own hw0)
        ⟨⟨_, rfl, hq⟩, fun _ _ _ => rfl, Nat.le_refl _, hB0⟩
        (fun y => { tmps := #[.slice (some ⟨b, o, none⟩) es.length cap, undef, .pointer (some ⟨w.heap.size, 0, none⟩), .pointer (some ⟨w.heap.size + 1 + 1, 0, none⟩), .int .i64 k, .pointer (some ⟨W.heap.size, 0, none⟩), .pointer (some ⟨W.heap.size + 1, 0, none⟩), undef, .int .i64 y.1.2,
          .slice (some ⟨b, o, none⟩) es.length cap, .int .i64 es.length, .slice (some ⟨w.heap.size + 1, 0, none⟩) es.length es.length, .slice (some ⟨b, o, none⟩) es.length cap, .int .i64 es.length, .int .i64 k, .bool true, .int .i64 k, .pointer (some ⟨b, o + k * 6, none⟩),
          .agg #[.int .i64 x.k, .int .i64 x.n, .int .i64 x.s, .string x.f, .string x.t, .slice x.sa x.sl x.sc], .int .i64 k, .int .i64 ((k : Int) - 1), .pointer (some ⟨W.heap.size, 5, none⟩), .slice x.sa x.sl x.sc, .func (.func 107) #[] #[.pointer (some ⟨W.heap.size + 1 + 1, 0, none⟩)], .int .i64 (y.1.1 : Int), .int .i64 y.1.2,
          undef, undef, undef, undef, undef, undef, undef, undef, u34, u35, u36, u37, u38, u39, undef, undef, undef, undef, undef, undef, undef], defers := [] }) ?assign ?body ?done ?stop
      case assign =>
        intro l y A K hK
        gi_wp2
        exact hK
      case body =>
        rintro l pre ⟨⟨xi, xa⟩, hxa⟩ A ⟨⟨nx, g1, g2⟩, g3, g4, g5⟩ _
        have bd := Tryz.innerF_bd (N := (es.length : Int)) hbg (by omega) (by omega) g1
        have b2 := (g3 (w.heap.size + 1 + 1) (by omega) (by omega)).trans ((hold _ (by omega)).trans hT.box)
        have b1 := (g3 (w.heap.size + 1) (by omega) (by omega)).trans ((hold _ (by omega)).trans hT.beg)
        have b0 := (g3 w.heap.size (by omega) (by omega)).trans ((hold _ (by omega)).trans hT.res)
        have f1 := Tryz.cell_at g2 (j := 0) rfl
        have f2 := Tryz.frozen_at (j := 0) g2
        have f3 := Tryz.cell_at b2 (j := 0) rfl
        have f5 := Tryz.cell_at b0 (j := 0) rfl
        have f6 := Tryz.frozen_at (j := 0) b0
        obtain ⟨ja, rfl⟩ : ∃ ja : Nat, xa = ja := ⟨xa.toNat, by omega⟩
        have G1 := Lib.hid g1
        have G2 := Lib.hid g2
        have G3 := Lib.hid g3
        have G5 := Lib.hid g5
        have B0' := Lib.hid b0
        have HB := Lib.hid hB0
        have HQ := Lib.hid hq
        have HBs := Lib.hid hbs
        have HO' := Lib.hid hold
        have HT' := Lib.hid hT
        by_cases hxe : (ja : Int) = nx
        · subst hxe
          have hjl : ja < beg.length := by rw [HL.out]; omega
          have f4 : A.cell? ⟨w.heap.size + 1, ja, none⟩ = some (.int .i64 beg[ja]) := Tryz.cell_at b1 (by simp [hjl])
          have hv := hbg beg[ja] (by simp)
          clear g1 g2 g3 g5 b0 b1 b2 hB0 hq hbs hold hT hbg hko hbel hI0 f5 f6
          gi_wp2
          refine ⟨(KeepsOthers.setCell _ _ _).from _, fun j hj hx => Below.heap_setCell _ _ _ _ hx, ⟨beg[ja] - 1, ?_, Tryz.heap_set G2.out⟩, G3.out.trans fun j hj hx => Below.heap_setCell _ _ _ _ hx, by simpa [World.setCell] using g4, G5.out.setCell (by show w.heap.size ≤ W.heap.size + 1; omega) _⟩
          rw [List.map_append, List.map_cons, List.map_nil, Tryz.innerF_snoc, G1.out]
          simp [Tryz.stepI, hjl]
        · clear g1 g2 g3 g5 b0 b1 b2 hB0 hq hbs hold hT hbg hko hbel hI0 f3
          gi_wp2
          refine ⟨(KeepsOthers.setCell _ _ _).from _, ⟨rfl, ?_⟩, fun j hj hx => ?_, by simpa [World.setCell] using g4, G5.out.setCell (Nat.le_refl _) _⟩
          · rw [List.map_append, List.map_cons, List.map_nil, Tryz.innerF_snoc, G1.out]
            simp [Tryz.stepI, hxe]
          · by_cases e : j = w.heap.size
            · subst e
              rw [Tryz.heap_set B0'.out, ← G3.out _ hj hx, B0'.out]
              rfl
            · rw [Below.heap_setCell _ _ _ _ e]; exact G3.out j hj hx
      case done =>
        rintro D ys A hD rfl ⟨⟨nx, g1, g2⟩, g3, g4, g5⟩ hK
        have bd := Tryz.innerF_bd (N := (es.length : Int)) hbg (by omega) (by omega) g1
        have b2 := (g3 (w.heap.size + 1 + 1) (by omega) (by omega)).trans ((hold _ (by omega)).trans hT.box)
        have b1 := (g3 (w.heap.size + 1) (by omega) (by omega)).trans ((hold _ (by omega)).trans hT.beg)
        have b0 := (g3 w.heap.size (by omega) (by omega)).trans ((hold _ (by omega)).trans hT.res)
        have hkb : k < beg.length := by rw [HL.out]; exact hlt
        have f1 := Tryz.cell_at g2 (j := 0) rfl
        have f3 := Tryz.cell_at b2 (j := 0) rfl
        have f4 : A.cell? ⟨w.heap.size + 1, k, none⟩ = some (.int .i64 beg[k]) := Tryz.cell_at b1 (by simp [hkb])
        have f6 := Tryz.frozen_at (j := k) b1
        have mk : Tryz.Marks ({ target := .collected D, args := #[] } :: ds) A := by
          refine ⟨⟨D, rfl, hK, fun d' hd' e => ?_⟩, HM.out.mono fun r hr hx => ?_⟩
          · subst e
            have := (Array.getElem?_eq_some_iff.1 (HM.out.mem D hd')).1
            omega
          · have hlt := (Array.getElem?_eq_some_iff.1 hx).1
            rw [g3 r (by omega) (by omega), hold r hlt]; exact hx
        have G1 := Lib.hid g1
        have B2 := Lib.hid b2
        have B1 := Lib.hid b1
        have B0' := Lib.hid b0
        have MK := Lib.hid mk
        have GG := Lib.hid g5
        clear g1 g2 g3 g5 b0 b1 b2 mk hK hB0 hq hbs hold hT hbg hko hbel hI0
        gi_wp2
        have e1 : ((k + 1 : Nat) : Int) = (k : Int) + 1 := by omega
        refine ⟨⟨k + 1, beg.set k (nx + 1), { target := .collected D, args := #[] } :: ds, _, _, _, _, _, _, _, _, _, _, _, _, _, _, _, _, _, _, by omega, by rw [e1], MK.out.keeps (KeepsOthers.setCell _ _ _), fun r hr => ?_, ?_, ?_, ?_, ?_, ?_⟩, ?_⟩
        · rcases List.mem_cons.1 hr with e | hr
          · cases e; omega
          · exact HD.out r hr
        · have := G1.out
          rw [Tryz.map_upto] at this
          simp only [Tryz.outerF, HO.out, Option.bind_some, List.getElem?_map, HX.out, Option.map_some, Option.getD_some]
          rw [show Tryz.innerF beg ((k : Int) - 1) (Tryz.pairs x.zs) = some nx from this]
          rfl
        · exact GG.out.setCell (by show w.heap.size ≤ w.heap.size + 1; omega) _
        · rw [Below.heap_setCell _ _ _ _ (by show w.heap.size ≠ w.heap.size + 1; omega)]; exact B0'.out
        · rw [Tryz.heap_set B1.out]
          simp [List.map_set]
        · rw [Below.heap_setCell _ _ _ _ (by show w.heap.size + 1 + 1 ≠ w.heap.size + 1; omega)]; exact B2.out
        · simp [intOf]; omega
      case stop =>
        rintro D c pre A hD ⟨kk, hkk, rfl⟩ ⟨⟨rfl, g1⟩, g3, g4, g5⟩ hK
        have b0 := (g3 w.heap.size (by omega) (by omega)).trans ((hold _ (by omega)).trans hT.res)
        have mk : Tryz.Marks ({ target := .collected D, args := #[] } :: ds) A := by
          refine ⟨⟨D, rfl, hK, fun d' hd' e => ?_⟩, HM.out.mono fun r hr hx => ?_⟩
          · subst e
            have := (Array.getElem?_eq_some_iff.1 (HM.out.mem D hd')).1
            omega
          · have hlt := (Array.getElem?_eq_some_iff.1 hx).1
            rw [g3 r (by omega) (by omega), hold r hlt]; exact hx
        gi_wp2
        refine Tryz.leaves_marks (n0 := w.heap.size) _ A mk (fun r hr => ?_) fun w' hw' => ⟨.bool false, ?_, ?_, g5.trans hw'.below⟩
        · rcases List.mem_cons.1 hr with e | hr
          · cases e; omega
          · exact HD.out r hr
        · have f5 := Tryz.cell_at (hw'.cells _ _ _ _ b0) (j := 0) rfl
          simp [results, Tryz.results20, go_sem, f5]
        · have hz : Tryz.outerF es.length (es.map (·.zs)) (k + 1) = none := by
            rw [Tryz.map_upto] at g1
            have g1' := Tryz.innerF_none hkk g1
            simp only [Tryz.outerF, HO.out, Option.bind_some, List.getElem?_map, HX.out, Option.map_some, Option.getD_some]
            rw [g1']; rfl
          have hz2 := Tryz.outerF_none (n := es.length) (by omega) hz
          simp only [Tryz.treeF, List.length_map, hz2]
    · obtain rfl : k = es.length := by omega
      have hkb : es.length - 1 < beg.length := by omega
      have f3 := Tryz.cell_at hT.box (j := 0) rfl
      have f4 : W.cell? ⟨w.heap.size + 1, es.length - 1, none⟩ = some (.int .i64 beg[es.length - 1]) := Tryz.cell_at hT.beg (by simp [hkb])
      have f5 := Tryz.cell_at hT.res (j := 0) rfl
      have f6 := Tryz.frozen_at (j := 0) hT.res
      have HM := Lib.hid hM
      have HD := Lib.hid hD
      have HO := Lib.hid hO
      have HT := Lib.hid hT
      have HL := Lib.hid hbl
      clear hM hD hO hT hbl hN hk hlt
      gi_wp2
      refine Tryz.leaves_marks (n0 := w.heap.size) _ _ (HM.out.keeps (KeepsOthers.setCell _ _ _)) HD.out fun w' hw' => ⟨.bool (beg[es.length - 1] == 0), ?_, ?_, (HT.out.below.setCell (Nat.le_refl _) _).trans hw'.below⟩
      · have f5 := Tryz.cell_at (hw'.cells _ _ _ _ (Tryz.heap_set HT.out.res)) (j := 0) rfl
        simp [results, Tryz.results20, go_sem, f5]
      · simp only [Tryz.treeF, List.length_map, HO.out]
        have hbd : ∀ z : Int, (z == 0) = decide (z = 0) := fun z => by rw [Bool.eq_iff_iff]; simp
        simp [hkb, hbd]
/-- Without a fence. -/
theorem Tryz.isTree_calls (b o cap : Nat) (es : List Tryz.Nd) (hlen : es.length * 48 ≤ 140737488351232) (hpos : 0 < es.length)
    (harg : ∀ (i : Nat) (x : Tryz.Nd), es[i]? = some x → ∀ z ∈ x.zs, 0 ≤ z ∧ z < es.length) (w : World) (hN : Tryz.NodesAt w b o es) :
    Calls Tryz.prog 20 #[.slice (some ⟨b, o, none⟩) es.length cap] w fun e W' => e = .returned (.bool (Tryz.treeF (es.map (·.zs)))) ∧ Below w.heap.size w W' :=
  callsIn_wide.1 (Tryz.isTree_in Fence.wide 3 trivial trivial trivial rfl (Nat.le_refl _) b o cap es hlen hpos harg w hN)
end Go.Proofs
