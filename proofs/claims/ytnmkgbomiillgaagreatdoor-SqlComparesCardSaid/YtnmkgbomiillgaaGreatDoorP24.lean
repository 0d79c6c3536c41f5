/- Part 24 of the proof. -/
import Derived.Test.YtnmkgbomiillgaaGreatDoorP21
import Derived.Test.YtnmkgbomiillgaaGreatDoorP23
import Derived.Laws.Cover1
import Derived.RangeFuncBox
import Derived.RangeFuncLeaves
import Derived.RangeFuncWrites
import Derived.Shelf.Abstract
import Derived.WalkKit
import Derived.OwnWalkIn
import Derived.TacticsInMore
import Derived.LoopNIn
import Derived.LoopIn
import Derived.KernelRfl
import Derived.Lib.Hide
import Derived.Test.YtnmkgbomiillgaaGreatDoorProg
/- The reference's order of values. -/
namespace Go.Proofs
open Go.RowKit
set_option maxRecDepth 100000 in
set_option maxHeartbeats 4000000 in
theorem Tryz.order32l (K J N S M R : Int) (T U : ByteArray) (hk : K < J) (hk2 : decide (J < K) = false) (w : World) :
    Calls Tryz.prog 32 #[.agg #[.int .i64 K, .int .i64 N, .int .i64 S, .string T], .agg #[.int .i64 J, .int .i64 M, .int .i64 R, .string U]] w fun e w' =>
      e = .returned (.int .i64 (-1)) ∧ Tryz.Ext w w' := by
  have H23t := Lib.hid (fun w => Tryz.count23 true w)
  have H23f := Lib.hid (fun w => Tryz.count23 false w)
  rw [show Tryz.orZero true 1 = 1 from rfl] at H23t
  rw [show Tryz.orZero false 1 = 0 from rfl] at H23f
  go_enter Tryz.func32, Tryz.ntmps32
  go_wp2
  obtain ⟨W, hW⟩ : ∃ W, W = (w.alloc (Obj.cells #[Value.int IntKind.i64 K, Value.int IntKind.i64 N, Value.int IntKind.i64 S, Value.string T] 35)).alloc (Obj.cells #[Value.int IntKind.i64 J, Value.int IntKind.i64 M, Value.int IntKind.i64 R, Value.string U] 35) := ⟨_, rfl⟩
  rw [← hW]
  have k0 : W.heap[w.heap.size]? = some (Obj.cells #[Value.int IntKind.i64 K, Value.int IntKind.i64 N, Value.int IntKind.i64 S, Value.string T] 35) := by rw [hW]; exact Tryz.alloc_old (Tryz.bnew _ _) _
  have k1 : W.heap[w.heap.size + 1]? = some (Obj.cells #[Value.int IntKind.i64 J, Value.int IntKind.i64 M, Value.int IntKind.i64 R, Value.string U] 35) := by rw [hW]; exact Tryz.alloc_at (Tryz.alloc_sz rfl _) _
  have kE : Tryz.Ext w W := by rw [hW]; exact Tryz.alloc_ext (Tryz.alloc_ext (.refl _) _) _
  clear hW
  obtain ⟨p, hpW, hpO⟩ := Tryz.hideP fun w' => w'.heap[w.heap.size]? = some (Obj.cells #[Value.int IntKind.i64 K, Value.int IntKind.i64 N, Value.int IntKind.i64 S, Value.string T] 35) ∧ w'.heap[w.heap.size + 1]? = some (Obj.cells #[Value.int IntKind.i64 J, Value.int IntKind.i64 M, Value.int IntKind.i64 R, Value.string U] 35)
  haveI : Nonempty (Tryz.InC p) := ⟨⟨W, hpW W ⟨k0, k1⟩⟩⟩
  have c0 : ∀ x : Tryz.InC p, x.w.cell? ⟨w.heap.size, 0, none⟩ = some (.int .i64 K) := fun x => Tryz.bcell (j := 0) (hpO _ x.h).1 rfl
  have c3 : ∀ x : Tryz.InC p, x.w.cell? ⟨w.heap.size, 3, none⟩ = some (.string T) := fun x => Tryz.bcell (j := 3) (hpO _ x.h).1 rfl
  have d0 : ∀ x : Tryz.InC p, x.w.cell? ⟨w.heap.size + 1, 0, none⟩ = some (.int .i64 J) := fun x => Tryz.bcell (j := 0) (hpO _ x.h).2 rfl
  have d3 : ∀ x : Tryz.InC p, x.w.cell? ⟨w.heap.size + 1, 3, none⟩ = some (.string U) := fun x => Tryz.bcell (j := 3) (hpO _ x.h).2 rfl
  have HPW := Lib.hid hpW
  clear hpW hpO
  refine Tryz.region_order (C := fun w' => ∃ x : Tryz.InC p, w' = x.w)
    [(true, 0), (true, 1), (true, 2), (true, 3), (true, 4), (true, 6), (true, 7), (true, 8), (true, 9), (true, 10), (false, 5), (false, 11), (false, 12), (false, 13)] (by kernel_rfl) (by kernel_rfl) ⟨⟨{ W with drawn := W.drawn + 1 }, HPW.out _ ⟨k0, k1⟩⟩, rfl⟩ ?_
  simp only [Tryz.picks, List.filterMap_cons, List.filterMap_nil, List.getElem?_cons_succ, List.getElem?_cons_zero, Option.map_some]
  iterate 10 (refine Tryz.mix_calm (fun Kc hK => ?_); unfold Tryz.calm; go_simp; refine hK _ ?_; clear hK Kc)
  replace kE := kE.trans (Tryz.drew_ext W)
  replace k0 : W.drew.heap[w.heap.size]? = _ := k0
  replace k1 : W.drew.heap[w.heap.size + 1]? = _ := k1
  change Tryz.wpMix _ _ _ _ _ _ W.drew
  revert kE k0 k1
  generalize W.drew = W
  intro kE k0 k1
  refine Tryz.mix_step (by kernel_rfl) (fun Kc hK => ?_)
  go_simp
  refine (H23f.out _).mono ?_
  rintro e w' ⟨rfl, rfl⟩
  refine hK _ _ ⟨⟨_, HPW.out _ ⟨k0, k1⟩⟩, rfl⟩ ?_
  clear hK Kc
  refine Tryz.mix_step (by kernel_rfl) (fun Kc hK => ?_)
  go_simp
  refine (H23t.out _).mono ?_
  rintro e w' ⟨rfl, rfl⟩
  refine hK _ _ ⟨⟨_, HPW.out _ ⟨k0, k1⟩⟩, rfl⟩ ?_
  clear hK Kc
  refine Tryz.mix_step (by kernel_rfl) (fun Kc hK => ?_)
  go_simp
  refine hK _ _ ⟨⟨_, HPW.out _ ⟨k0, k1⟩⟩, rfl⟩ ?_
  clear hK Kc
  refine Tryz.mix_step (by kernel_rfl) (fun Kc hK => ?_)
  go_simp
  refine hK _ _ ⟨⟨_, HPW.out _ ⟨k0, k1⟩⟩, rfl⟩ ?_
  clear hK Kc
  refine Tryz.mix_nil ?_
  have HE := Lib.hid kE
  clear c0 c3 d0 d3 this k0 k1 kE HPW
  go_wp2
  go_ret
  exact ⟨rfl, HE.out⟩
set_option maxRecDepth 100000 in
set_option maxHeartbeats 4000000 in
theorem Tryz.order32g (K J N S M R : Int) (T U : ByteArray) (hk : decide (K < J) = false) (hk2 : J < K) (w : World) :
    Calls Tryz.prog 32 #[.agg #[.int .i64 K, .int .i64 N, .int .i64 S, .string T], .agg #[.int .i64 J, .int .i64 M, .int .i64 R, .string U]] w fun e w' =>
      e = .returned (.int .i64 1) ∧ Tryz.Ext w w' := by
  have H23t := Lib.hid (fun w => Tryz.count23 true w)
  have H23f := Lib.hid (fun w => Tryz.count23 false w)
  rw [show Tryz.orZero true 1 = 1 from rfl] at H23t
  rw [show Tryz.orZero false 1 = 0 from rfl] at H23f
  go_enter Tryz.func32, Tryz.ntmps32
  go_wp2
  obtain ⟨W, hW⟩ : ∃ W, W = (w.alloc (Obj.cells #[Value.int IntKind.i64 K, Value.int IntKind.i64 N, Value.int IntKind.i64 S, Value.string T] 35)).alloc (Obj.cells #[Value.int IntKind.i64 J, Value.int IntKind.i64 M, Value.int IntKind.i64 R, Value.string U] 35) := ⟨_, rfl⟩
  rw [← hW]
  have k0 : W.heap[w.heap.size]? = some (Obj.cells #[Value.int IntKind.i64 K, Value.int IntKind.i64 N, Value.int IntKind.i64 S, Value.string T] 35) := by rw [hW]; exact Tryz.alloc_old (Tryz.bnew _ _) _
  have k1 : W.heap[w.heap.size + 1]? = some (Obj.cells #[Value.int IntKind.i64 J, Value.int IntKind.i64 M, Value.int IntKind.i64 R, Value.string U] 35) := by rw [hW]; exact Tryz.alloc_at (Tryz.alloc_sz rfl _) _
  have kE : Tryz.Ext w W := by rw [hW]; exact Tryz.alloc_ext (Tryz.alloc_ext (.refl _) _) _
  clear hW
  obtain ⟨p, hpW, hpO⟩ := Tryz.hideP fun w' => w'.heap[w.heap.size]? = some (Obj.cells #[Value.int IntKind.i64 K, Value.int IntKind.i64 N, Value.int IntKind.i64 S, Value.string T] 35) ∧ w'.heap[w.heap.size + 1]? = some (Obj.cells #[Value.int IntKind.i64 J, Value.int IntKind.i64 M, Value.int IntKind.i64 R, Value.string U] 35)
  haveI : Nonempty (Tryz.InC p) := ⟨⟨W, hpW W ⟨k0, k1⟩⟩⟩
  have c0 : ∀ x : Tryz.InC p, x.w.cell? ⟨w.heap.size, 0, none⟩ = some (.int .i64 K) := fun x => Tryz.bcell (j := 0) (hpO _ x.h).1 rfl
  have c3 : ∀ x : Tryz.InC p, x.w.cell? ⟨w.heap.size, 3, none⟩ = some (.string T) := fun x => Tryz.bcell (j := 3) (hpO _ x.h).1 rfl
  have d0 : ∀ x : Tryz.InC p, x.w.cell? ⟨w.heap.size + 1, 0, none⟩ = some (.int .i64 J) := fun x => Tryz.bcell (j := 0) (hpO _ x.h).2 rfl
  have d3 : ∀ x : Tryz.InC p, x.w.cell? ⟨w.heap.size + 1, 3, none⟩ = some (.string U) := fun x => Tryz.bcell (j := 3) (hpO _ x.h).2 rfl
  have HPW := Lib.hid hpW
  clear hpW hpO
  refine Tryz.region_order (C := fun w' => ∃ x : Tryz.InC p, w' = x.w)
    [(true, 0), (true, 1), (true, 2), (true, 3), (true, 4), (true, 6), (true, 7), (true, 8), (true, 9), (true, 10), (false, 5), (false, 11), (false, 12), (false, 13)] (by kernel_rfl) (by kernel_rfl) ⟨⟨{ W with drawn := W.drawn + 1 }, HPW.out _ ⟨k0, k1⟩⟩, rfl⟩ ?_
  simp only [Tryz.picks, List.filterMap_cons, List.filterMap_nil, List.getElem?_cons_succ, List.getElem?_cons_zero, Option.map_some]
  iterate 10 (refine Tryz.mix_calm (fun Kc hK => ?_); unfold Tryz.calm; go_simp; refine hK _ ?_; clear hK Kc)
  replace kE := kE.trans (Tryz.drew_ext W)
  replace k0 : W.drew.heap[w.heap.size]? = _ := k0
  replace k1 : W.drew.heap[w.heap.size + 1]? = _ := k1
  change Tryz.wpMix _ _ _ _ _ _ W.drew
  revert kE k0 k1
  generalize W.drew = W
  intro kE k0 k1
  refine Tryz.mix_step (by kernel_rfl) (fun Kc hK => ?_)
  go_simp
  refine (H23t.out _).mono ?_
  rintro e w' ⟨rfl, rfl⟩
  refine hK _ _ ⟨⟨_, HPW.out _ ⟨k0, k1⟩⟩, rfl⟩ ?_
  clear hK Kc
  refine Tryz.mix_step (by kernel_rfl) (fun Kc hK => ?_)
  go_simp
  refine (H23f.out _).mono ?_
  rintro e w' ⟨rfl, rfl⟩
  refine hK _ _ ⟨⟨_, HPW.out _ ⟨k0, k1⟩⟩, rfl⟩ ?_
  clear hK Kc
  refine Tryz.mix_step (by kernel_rfl) (fun Kc hK => ?_)
  go_simp
  refine hK _ _ ⟨⟨_, HPW.out _ ⟨k0, k1⟩⟩, rfl⟩ ?_
  clear hK Kc
  refine Tryz.mix_step (by kernel_rfl) (fun Kc hK => ?_)
  go_simp
  refine hK _ _ ⟨⟨_, HPW.out _ ⟨k0, k1⟩⟩, rfl⟩ ?_
  clear hK Kc
  refine Tryz.mix_nil ?_
  have HE := Lib.hid kE
  clear c0 c3 d0 d3 this k0 k1 kE HPW
  go_wp2
  go_ret
  exact ⟨rfl, HE.out⟩
set_option maxRecDepth 100000 in
set_option maxHeartbeats 4000000 in
theorem Tryz.order32s1 (K N S M R : Int) (T U : ByteArray) (hk : ¬ K = 1) (hlt : Op.bytesLess T.toList U.toList = true) (heq : (T.toList == U.toList) = false) (w : World) :
    Calls Tryz.prog 32 #[.agg #[.int .i64 K, .int .i64 N, .int .i64 S, .string T], .agg #[.int .i64 K, .int .i64 M, .int .i64 R, .string U]] w fun e w' =>
      e = .returned (.int .i64 (-1)) ∧ Tryz.Ext w w' := by
  have H23t := Lib.hid (fun w => Tryz.count23 true w)
  have H23f := Lib.hid (fun w => Tryz.count23 false w)
  rw [show Tryz.orZero true 1 = 1 from rfl] at H23t
  rw [show Tryz.orZero false 1 = 0 from rfl] at H23f
  go_enter Tryz.func32, Tryz.ntmps32
  go_wp2
  obtain ⟨W, hW⟩ : ∃ W, W = (w.alloc (Obj.cells #[Value.int IntKind.i64 K, Value.int IntKind.i64 N, Value.int IntKind.i64 S, Value.string T] 35)).alloc (Obj.cells #[Value.int IntKind.i64 K, Value.int IntKind.i64 M, Value.int IntKind.i64 R, Value.string U] 35) := ⟨_, rfl⟩
  rw [← hW]
  have k0 : W.heap[w.heap.size]? = some (Obj.cells #[Value.int IntKind.i64 K, Value.int IntKind.i64 N, Value.int IntKind.i64 S, Value.string T] 35) := by rw [hW]; exact Tryz.alloc_old (Tryz.bnew _ _) _
  have k1 : W.heap[w.heap.size + 1]? = some (Obj.cells #[Value.int IntKind.i64 K, Value.int IntKind.i64 M, Value.int IntKind.i64 R, Value.string U] 35) := by rw [hW]; exact Tryz.alloc_at (Tryz.alloc_sz rfl _) _
  have kE : Tryz.Ext w W := by rw [hW]; exact Tryz.alloc_ext (Tryz.alloc_ext (.refl _) _) _
  clear hW
  obtain ⟨p, hpW, hpO⟩ := Tryz.hideP fun w' => w'.heap[w.heap.size]? = some (Obj.cells #[Value.int IntKind.i64 K, Value.int IntKind.i64 N, Value.int IntKind.i64 S, Value.string T] 35) ∧ w'.heap[w.heap.size + 1]? = some (Obj.cells #[Value.int IntKind.i64 K, Value.int IntKind.i64 M, Value.int IntKind.i64 R, Value.string U] 35)
  haveI : Nonempty (Tryz.InC p) := ⟨⟨W, hpW W ⟨k0, k1⟩⟩⟩
  have c0 : ∀ x : Tryz.InC p, x.w.cell? ⟨w.heap.size, 0, none⟩ = some (.int .i64 K) := fun x => Tryz.bcell (j := 0) (hpO _ x.h).1 rfl
  have c3 : ∀ x : Tryz.InC p, x.w.cell? ⟨w.heap.size, 3, none⟩ = some (.string T) := fun x => Tryz.bcell (j := 3) (hpO _ x.h).1 rfl
  have d0 : ∀ x : Tryz.InC p, x.w.cell? ⟨w.heap.size + 1, 0, none⟩ = some (.int .i64 K) := fun x => Tryz.bcell (j := 0) (hpO _ x.h).2 rfl
  have d3 : ∀ x : Tryz.InC p, x.w.cell? ⟨w.heap.size + 1, 3, none⟩ = some (.string U) := fun x => Tryz.bcell (j := 3) (hpO _ x.h).2 rfl
  have HPW := Lib.hid hpW
  clear hpW hpO
  refine Tryz.region_order (C := fun w' => ∃ x : Tryz.InC p, w' = x.w)
    [(true, 0), (true, 1), (true, 2), (true, 3), (true, 4), (true, 6), (true, 7), (true, 8), (true, 9), (true, 10), (false, 5), (false, 11), (false, 12), (false, 13)] (by kernel_rfl) (by kernel_rfl) ⟨⟨{ W with drawn := W.drawn + 1 }, HPW.out _ ⟨k0, k1⟩⟩, rfl⟩ ?_
  simp only [Tryz.picks, List.filterMap_cons, List.filterMap_nil, List.getElem?_cons_succ, List.getElem?_cons_zero, Option.map_some]
  iterate 10 (refine Tryz.mix_calm (fun Kc hK => ?_); unfold Tryz.calm; go_simp; refine hK _ ?_; clear hK Kc)
  replace kE := kE.trans (Tryz.drew_ext W)
  replace k0 : W.drew.heap[w.heap.size]? = _ := k0
  replace k1 : W.drew.heap[w.heap.size + 1]? = _ := k1
  change Tryz.wpMix _ _ _ _ _ _ W.drew
  revert kE k0 k1
  generalize W.drew = W
  intro kE k0 k1
  refine Tryz.mix_step (by kernel_rfl) (fun Kc hK => ?_)
  go_simp
  refine (H23f.out _).mono ?_
  rintro e w' ⟨rfl, rfl⟩
  refine hK _ _ ⟨⟨_, HPW.out _ ⟨k0, k1⟩⟩, rfl⟩ ?_
  clear hK Kc
  refine Tryz.mix_step (by kernel_rfl) (fun Kc hK => ?_)
  go_simp
  refine (H23t.out _).mono ?_
  rintro e w' ⟨rfl, rfl⟩
  refine hK _ _ ⟨⟨_, HPW.out _ ⟨k0, k1⟩⟩, rfl⟩ ?_
  clear hK Kc
  refine Tryz.mix_step (by kernel_rfl) (fun Kc hK => ?_)
  go_simp
  refine hK _ _ ⟨⟨_, HPW.out _ ⟨k0, k1⟩⟩, rfl⟩ ?_
  clear hK Kc
  refine Tryz.mix_step (by kernel_rfl) (fun Kc hK => ?_)
  go_simp
  refine hK _ _ ⟨⟨_, HPW.out _ ⟨k0, k1⟩⟩, rfl⟩ ?_
  clear hK Kc
  refine Tryz.mix_nil ?_
  have HE := Lib.hid kE
  clear c0 c3 d0 d3 this k0 k1 kE HPW
  go_wp2
  go_ret
  exact ⟨rfl, HE.out⟩
set_option maxRecDepth 100000 in
set_option maxHeartbeats 4000000 in
theorem Tryz.order32s2 (K N S M R : Int) (T U : ByteArray) (hk : ¬ K = 1) (hlt : Op.bytesLess T.toList U.toList = false) (heq : (T.toList == U.toList) = true) (w : World) :
    Calls Tryz.prog 32 #[.agg #[.int .i64 K, .int .i64 N, .int .i64 S, .string T], .agg #[.int .i64 K, .int .i64 M, .int .i64 R, .string U]] w fun e w' =>
      e = .returned (.int .i64 0) ∧ Tryz.Ext w w' := by
  have H23t := Lib.hid (fun w => Tryz.count23 true w)
  have H23f := Lib.hid (fun w => Tryz.count23 false w)
  rw [show Tryz.orZero true 1 = 1 from rfl] at H23t
  rw [show Tryz.orZero false 1 = 0 from rfl] at H23f
  go_enter Tryz.func32, Tryz.ntmps32
  go_wp2
  obtain ⟨W, hW⟩ : ∃ W, W = (w.alloc (Obj.cells #[Value.int IntKind.i64 K, Value.int IntKind.i64 N, Value.int IntKind.i64 S, Value.string T] 35)).alloc (Obj.cells #[Value.int IntKind.i64 K, Value.int IntKind.i64 M, Value.int IntKind.i64 R, Value.string U] 35) := ⟨_, rfl⟩
  rw [← hW]
  have k0 : W.heap[w.heap.size]? = some (Obj.cells #[Value.int IntKind.i64 K, Value.int IntKind.i64 N, Value.int IntKind.i64 S, Value.string T] 35) := by rw [hW]; exact Tryz.alloc_old (Tryz.bnew _ _) _
  have k1 : W.heap[w.heap.size + 1]? = some (Obj.cells #[Value.int IntKind.i64 K, Value.int IntKind.i64 M, Value.int IntKind.i64 R, Value.string U] 35) := by rw [hW]; exact Tryz.alloc_at (Tryz.alloc_sz rfl _) _
  have kE : Tryz.Ext w W := by rw [hW]; exact Tryz.alloc_ext (Tryz.alloc_ext (.refl _) _) _
  clear hW
  obtain ⟨p, hpW, hpO⟩ := Tryz.hideP fun w' => w'.heap[w.heap.size]? = some (Obj.cells #[Value.int IntKind.i64 K, Value.int IntKind.i64 N, Value.int IntKind.i64 S, Value.string T] 35) ∧ w'.heap[w.heap.size + 1]? = some (Obj.cells #[Value.int IntKind.i64 K, Value.int IntKind.i64 M, Value.int IntKind.i64 R, Value.string U] 35)
  haveI : Nonempty (Tryz.InC p) := ⟨⟨W, hpW W ⟨k0, k1⟩⟩⟩
  have c0 : ∀ x : Tryz.InC p, x.w.cell? ⟨w.heap.size, 0, none⟩ = some (.int .i64 K) := fun x => Tryz.bcell (j := 0) (hpO _ x.h).1 rfl
  have c3 : ∀ x : Tryz.InC p, x.w.cell? ⟨w.heap.size, 3, none⟩ = some (.string T) := fun x => Tryz.bcell (j := 3) (hpO _ x.h).1 rfl
  have d0 : ∀ x : Tryz.InC p, x.w.cell? ⟨w.heap.size + 1, 0, none⟩ = some (.int .i64 K) := fun x => Tryz.bcell (j := 0) (hpO _ x.h).2 rfl
  have d3 : ∀ x : Tryz.InC p, x.w.cell? ⟨w.heap.size + 1, 3, none⟩ = some (.string U) := fun x => Tryz.bcell (j := 3) (hpO _ x.h).2 rfl
  have HPW := Lib.hid hpW
  clear hpW hpO
  refine Tryz.region_order (C := fun w' => ∃ x : Tryz.InC p, w' = x.w)
    [(true, 0), (true, 1), (true, 2), (true, 3), (true, 4), (true, 6), (true, 7), (true, 8), (true, 9), (true, 10), (false, 5), (false, 11), (false, 12), (false, 13)] (by kernel_rfl) (by kernel_rfl) ⟨⟨{ W with drawn := W.drawn + 1 }, HPW.out _ ⟨k0, k1⟩⟩, rfl⟩ ?_
  simp only [Tryz.picks, List.filterMap_cons, List.filterMap_nil, List.getElem?_cons_succ, List.getElem?_cons_zero, Option.map_some]
  iterate 10 (refine Tryz.mix_calm (fun Kc hK => ?_); unfold Tryz.calm; go_simp; refine hK _ ?_; clear hK Kc)
  replace kE := kE.trans (Tryz.drew_ext W)
  replace k0 : W.drew.heap[w.heap.size]? = _ := k0
  replace k1 : W.drew.heap[w.heap.size + 1]? = _ := k1
  change Tryz.wpMix _ _ _ _ _ _ W.drew
  revert kE k0 k1
  generalize W.drew = W
  intro kE k0 k1
  refine Tryz.mix_step (by kernel_rfl) (fun Kc hK => ?_)
  go_simp
  refine (H23f.out _).mono ?_
  rintro e w' ⟨rfl, rfl⟩
  refine hK _ _ ⟨⟨_, HPW.out _ ⟨k0, k1⟩⟩, rfl⟩ ?_
  clear hK Kc
  refine Tryz.mix_step (by kernel_rfl) (fun Kc hK => ?_)
  go_simp
  refine (H23f.out _).mono ?_
  rintro e w' ⟨rfl, rfl⟩
  refine hK _ _ ⟨⟨_, HPW.out _ ⟨k0, k1⟩⟩, rfl⟩ ?_
  clear hK Kc
  refine Tryz.mix_step (by kernel_rfl) (fun Kc hK => ?_)
  go_simp
  refine hK _ _ ⟨⟨_, HPW.out _ ⟨k0, k1⟩⟩, rfl⟩ ?_
  clear hK Kc
  refine Tryz.mix_step (by kernel_rfl) (fun Kc hK => ?_)
  go_simp
  refine hK _ _ ⟨⟨_, HPW.out _ ⟨k0, k1⟩⟩, rfl⟩ ?_
  clear hK Kc
  refine Tryz.mix_nil ?_
  have HE := Lib.hid kE
  clear c0 c3 d0 d3 this k0 k1 kE HPW
  go_wp2
  go_ret
  exact ⟨rfl, HE.out⟩
set_option maxRecDepth 100000 in
set_option maxHeartbeats 4000000 in
theorem Tryz.order32s3 (K N S M R : Int) (T U : ByteArray) (hk : ¬ K = 1) (hlt : Op.bytesLess T.toList U.toList = false) (heq : (T.toList == U.toList) = false) (w : World) :
    Calls Tryz.prog 32 #[.agg #[.int .i64 K, .int .i64 N, .int .i64 S, .string T], .agg #[.int .i64 K, .int .i64 M, .int .i64 R, .string U]] w fun e w' =>
      e = .returned (.int .i64 1) ∧ Tryz.Ext w w' := by
  have H23t := Lib.hid (fun w => Tryz.count23 true w)
  have H23f := Lib.hid (fun w => Tryz.count23 false w)
  rw [show Tryz.orZero true 1 = 1 from rfl] at H23t
  rw [show Tryz.orZero false 1 = 0 from rfl] at H23f
  go_enter Tryz.func32, Tryz.ntmps32
  go_wp2
  obtain ⟨W, hW⟩ : ∃ W, W = (w.alloc (Obj.cells #[Value.int IntKind.i64 K, Value.int IntKind.i64 N, Value.int IntKind.i64 S, Value.string T] 35)).alloc (Obj.cells #[Value.int IntKind.i64 K, Value.int IntKind.i64 M, Value.int IntKind.i64 R, Value.string U] 35) := ⟨_, rfl⟩
  rw [← hW]
  have k0 : W.heap[w.heap.size]? = some (Obj.cells #[Value.int IntKind.i64 K, Value.int IntKind.i64 N, Value.int IntKind.i64 S, Value.string T] 35) := by rw [hW]; exact Tryz.alloc_old (Tryz.bnew _ _) _
  have k1 : W.heap[w.heap.size + 1]? = some (Obj.cells #[Value.int IntKind.i64 K, Value.int IntKind.i64 M, Value.int IntKind.i64 R, Value.string U] 35) := by rw [hW]; exact Tryz.alloc_at (Tryz.alloc_sz rfl _) _
  have kE : Tryz.Ext w W := by rw [hW]; exact Tryz.alloc_ext (Tryz.alloc_ext (.refl _) _) _
  clear hW
  obtain ⟨p, hpW, hpO⟩ := Tryz.hideP fun w' => w'.heap[w.heap.size]? = some (Obj.cells #[Value.int IntKind.i64 K, Value.int IntKind.i64 N, Value.int IntKind.i64 S, Value.string T] 35) ∧ w'.heap[w.heap.size + 1]? = some (Obj.cells #[Value.int IntKind.i64 K, Value.int IntKind.i64 M, Value.int IntKind.i64 R, Value.string U] 35)
  haveI : Nonempty (Tryz.InC p) := ⟨⟨W, hpW W ⟨k0, k1⟩⟩⟩
  have c0 : ∀ x : Tryz.InC p, x.w.cell? ⟨w.heap.size, 0, none⟩ = some (.int .i64 K) := fun x => Tryz.bcell (j := 0) (hpO _ x.h).1 rfl
  have c3 : ∀ x : Tryz.InC p, x.w.cell? ⟨w.heap.size, 3, none⟩ = some (.string T) := fun x => Tryz.bcell (j := 3) (hpO _ x.h).1 rfl
  have d0 : ∀ x : Tryz.InC p, x.w.cell? ⟨w.heap.size + 1, 0, none⟩ = some (.int .i64 K) := fun x => Tryz.bcell (j := 0) (hpO _ x.h).2 rfl
  have d3 : ∀ x : Tryz.InC p, x.w.cell? ⟨w.heap.size + 1, 3, none⟩ = some (.string U) := fun x => Tryz.bcell (j := 3) (hpO _ x.h).2 rfl
  have HPW := Lib.hid hpW
  clear hpW hpO
  refine Tryz.region_order (C := fun w' => ∃ x : Tryz.InC p, w' = x.w)
    [(true, 0), (true, 1), (true, 2), (true, 3), (true, 4), (true, 6), (true, 7), (true, 8), (true, 9), (true, 10), (false, 5), (false, 11), (false, 12), (false, 13)] (by kernel_rfl) (by kernel_rfl) ⟨⟨{ W with drawn := W.drawn + 1 }, HPW.out _ ⟨k0, k1⟩⟩, rfl⟩ ?_
  simp only [Tryz.picks, List.filterMap_cons, List.filterMap_nil, List.getElem?_cons_succ, List.getElem?_cons_zero, Option.map_some]
  iterate 10 (refine Tryz.mix_calm (fun Kc hK => ?_); unfold Tryz.calm; go_simp; refine hK _ ?_; clear hK Kc)
  replace kE := kE.trans (Tryz.drew_ext W)
  replace k0 : W.drew.heap[w.heap.size]? = _ := k0
  replace k1 : W.drew.heap[w.heap.size + 1]? = _ := k1
  change Tryz.wpMix _ _ _ _ _ _ W.drew
  revert kE k0 k1
  generalize W.drew = W
  intro kE k0 k1
  refine Tryz.mix_step (by kernel_rfl) (fun Kc hK => ?_)
  go_simp
  refine (H23t.out _).mono ?_
  rintro e w' ⟨rfl, rfl⟩
  refine hK _ _ ⟨⟨_, HPW.out _ ⟨k0, k1⟩⟩, rfl⟩ ?_
  clear hK Kc
  refine Tryz.mix_step (by kernel_rfl) (fun Kc hK => ?_)
  go_simp
  refine (H23f.out _).mono ?_
  rintro e w' ⟨rfl, rfl⟩
  refine hK _ _ ⟨⟨_, HPW.out _ ⟨k0, k1⟩⟩, rfl⟩ ?_
  clear hK Kc
  refine Tryz.mix_step (by kernel_rfl) (fun Kc hK => ?_)
  go_simp
  refine hK _ _ ⟨⟨_, HPW.out _ ⟨k0, k1⟩⟩, rfl⟩ ?_
  clear hK Kc
  refine Tryz.mix_step (by kernel_rfl) (fun Kc hK => ?_)
  go_simp
  refine hK _ _ ⟨⟨_, HPW.out _ ⟨k0, k1⟩⟩, rfl⟩ ?_
  clear hK Kc
  refine Tryz.mix_nil ?_
  have HE := Lib.hid kE
  clear c0 c3 d0 d3 this k0 k1 kE HPW
  go_wp2
  go_ret
  exact ⟨rfl, HE.out⟩
set_option maxRecDepth 100000 in
set_option maxHeartbeats 4000000 in
theorem Tryz.order32n (N M : Int) (S R : Nat) (T U : ByteArray) (hN : N.natAbs ≤ 999999999999999) (hM : M.natAbs ≤ 999999999999999) (hS : S ≤ 15) (hR : R ≤ 15) (w : World) :
    Calls Tryz.prog 32 #[.agg #[.int .i64 1, .int .i64 N, .int .i64 S, .string T], .agg #[.int .i64 1, .int .i64 M, .int .i64 R, .string U]] w fun e w' =>
      e = .returned (.int .i64 (Tryz.cmpS N M (N.natAbs * 10 ^ (max S R - S)) (M.natAbs * 10 ^ (max S R - R)))) ∧ Tryz.Ext w w' := by
  have H62 := Lib.hid (fun w => Tryz.order62 N M S R hN hM hS hR w)
  have hE : ∀ o o2, Tryz.Ext w ((w.alloc o).alloc o2) := fun _ _ => Tryz.alloc_ext (Tryz.alloc_ext (.refl _) _) _
  have HE := Lib.hid hE
  clear hE
  go_enter Tryz.func32, Tryz.ntmps32
  go_wp2_with (go_at_call 62; refine (H62.out _).mono ?_; rintro e w1 ⟨rfl, hx⟩; have HX := Lib.hid hx; clear hx)
  go_ret
  exact ⟨rfl, (HE.out _ _).trans HX.out⟩
theorem Tryz.compare_less : ∀ (a b : List UInt8), Lib.compareBytes a b = if Op.bytesLess a b = true then -1 else if (a == b) = true then 0 else 1
  | [], [] => by simp [Lib.compareBytes, Op.bytesLess]
  | [], _ :: _ => by simp [Lib.compareBytes, Op.bytesLess]
  | _ :: _, [] => by simp [Lib.compareBytes, Op.bytesLess]
  | a :: x, b :: y => by
    have ih := Tryz.compare_less x y
    rw [Lib.compareBytes, Op.bytesLess]
    by_cases h : a < b
    · simp [h]
    · by_cases h2 : b < a
      · have h3 : ¬ a = b := by rintro rfl; exact h h2
        simp [h, h2, h3]
      · have h3 : a = b := by
          rw [UInt8.lt_iff_toNat_lt] at h h2
          exact UInt8.toNat_inj.1 (by omega)
        subst h3
        simp [h, ih]
theorem Tryz.order32 (K N S : Int) (T : ByteArray) (J M R : Int) (U : ByteArray) (h1 : Tryz.errV K N S T = 0) (h2 : Tryz.errV J M R U = 0) (w : World) :
    Calls Tryz.prog 32 #[.agg #[.int .i64 K, .int .i64 N, .int .i64 S, .string T], .agg #[.int .i64 J, .int .i64 M, .int .i64 R, .string U]] w fun e w' =>
      e = .returned (.int .i64 (Tryz.cmpV K N S T J M R U)) ∧ Tryz.Ext w w' := by
  unfold Tryz.cmpV
  rcases Int.lt_trichotomy K J with hk | hk | hk
  · rw [if_neg (fun x => by omega), show Tryz.firstF [Tryz.cmpI K J, Lib.compareBytes T.data.toList U.data.toList] = -1 by simp [Tryz.cmpI, Tryz.firstF, hk]]
    exact Tryz.order32l K J N S M R T U hk (decide_eq_false (by omega)) w
  · subst hk
    by_cases h : K = 1
    · subst h
      obtain ⟨hN, hS0, hS⟩ := Tryz.errV_num h1
      obtain ⟨hM, hR0, hR⟩ := Tryz.errV_num h2
      obtain ⟨s, rfl⟩ := Int.eq_ofNat_of_zero_le hS0
      obtain ⟨r, rfl⟩ := Int.eq_ofNat_of_zero_le hR0
      rw [if_pos ⟨rfl, rfl⟩]
      exact Tryz.order32n N M s r T U hN hM (by omega) (by omega) w
    · have hc : Tryz.firstF [Tryz.cmpI K K, Lib.compareBytes T.data.toList U.data.toList] = Lib.compareBytes T.data.toList U.data.toList := by
        simp [Tryz.cmpI, Tryz.firstF]
        exact fun h => h.symm
      rw [if_neg (fun x => h x.1), hc, Tryz.compare_less, ← ByteArray.toList_eq, ← ByteArray.toList_eq]
      cases hlt : Op.bytesLess T.toList U.toList
      · cases heq : T.toList == U.toList
        · exact Tryz.order32s3 K N S M R T U h hlt heq w
        · exact Tryz.order32s2 K N S M R T U h hlt heq w
      · cases heq : T.toList == U.toList
        · exact Tryz.order32s1 K N S M R T U h hlt heq w
        · exfalso
          have he : T.toList = U.toList := by simpa using heq
          rw [he] at hlt
          have irr : ∀ l : List UInt8, Op.bytesLess l l = false := fun l => by
            induction l with
            | nil => rfl
            | cons a r ih => simp [Op.bytesLess, ih]
          rw [irr] at hlt; cases hlt
  · rw [if_neg (fun x => by omega), show Tryz.firstF [Tryz.cmpI K J, Lib.compareBytes T.data.toList U.data.toList] = 1 by simp [Tryz.cmpI, Tryz.firstF, hk, show ¬ K < J by omega]]
    exact Tryz.order32g K J N S M R T U (decide_eq_false (by omega)) hk w
end Go.Proofs
/- The reference's Compared. -/
namespace Go.Proofs
open Go.RowKit
set_option maxRecDepth 100000 in
set_option maxHeartbeats 4000000 in
theorem Tryz.compared14a (K N S : Int) (T : ByteArray) (J M R : Int) (U : ByteArray) (hin : Tryz.within K 0 2 = false) (w : World) :
    Calls Tryz.prog 14 #[.agg #[.int .i64 K, .int .i64 N, .int .i64 S, .string T], .agg #[.int .i64 J, .int .i64 M, .int .i64 R, .string U]] w fun e w' =>
      e = .returned (.tuple #[.int .i64 0, .int .i64 4]) ∧ Tryz.Ext w w' := by
  have H30 := Lib.hid (fun x w => Tryz.in30 x 0 2 w)
  have H31 := Lib.hid (fun K N S T w => Tryz.refErr31 K N S T w)
  have HK0 := Lib.hid (show ((w.alloc (Obj.cells #[Value.int IntKind.i64 K, Value.int IntKind.i64 N, Value.int IntKind.i64 S, Value.string T] 35)).alloc (Obj.cells #[Value.int IntKind.i64 J, Value.int IntKind.i64 M, Value.int IntKind.i64 R, Value.string U] 35)).heap[w.heap.size]? = some (Obj.cells #[Value.int IntKind.i64 K, Value.int IntKind.i64 N, Value.int IntKind.i64 S, Value.string T] 35) from Tryz.alloc_old (Tryz.bnew _ _) _)
  have HK1 := Lib.hid (show ((w.alloc (Obj.cells #[Value.int IntKind.i64 K, Value.int IntKind.i64 N, Value.int IntKind.i64 S, Value.string T] 35)).alloc (Obj.cells #[Value.int IntKind.i64 J, Value.int IntKind.i64 M, Value.int IntKind.i64 R, Value.string U] 35)).heap[w.heap.size + 1]? = some (Obj.cells #[Value.int IntKind.i64 J, Value.int IntKind.i64 M, Value.int IntKind.i64 R, Value.string U] 35) from Tryz.alloc_at (Tryz.alloc_sz rfl _) _)
  have HE := Lib.hid (show Tryz.Ext w ((w.alloc (Obj.cells #[Value.int IntKind.i64 K, Value.int IntKind.i64 N, Value.int IntKind.i64 S, Value.string T] 35)).alloc (Obj.cells #[Value.int IntKind.i64 J, Value.int IntKind.i64 M, Value.int IntKind.i64 R, Value.string U] 35)) from Tryz.alloc_ext (Tryz.alloc_ext (.refl _) _) _)
  go_enter Tryz.func14, Tryz.ntmps14
  go_wp2_with (first
    | (go_at_call 30; refine (H30.out _ _).mono ?_; rintro e w' ⟨rfl, rfl⟩)
    | (go_at_call 31; refine (H31.out _ _ _ _ _).mono ?_; rintro e w2 ⟨rfl, hx⟩
       have q0 := (hx.old _ (Array.getElem?_eq_some_iff.1 Q0.out).1).trans Q0.out
       have q1 := (hx.old _ (Array.getElem?_eq_some_iff.1 Q1.out).1).trans Q1.out
       clear a0 a1 a2 a3 b0 b1 b2 b3
       have a0 := Tryz.bcell (j := 0) q0 rfl; have a1 := Tryz.bcell (j := 1) q0 rfl; have a2 := Tryz.bcell (j := 2) q0 rfl; have a3 := Tryz.bcell (j := 3) q0 rfl
       have b0 := Tryz.bcell (j := 0) q1 rfl; have b1 := Tryz.bcell (j := 1) q1 rfl; have b2 := Tryz.bcell (j := 2) q1 rfl; have b3 := Tryz.bcell (j := 3) q1 rfl
       have HE2 := Lib.hid (HE1.out.trans hx)
       clear q0 q1 hx)
    | (go_at_call 31; refine (H31.out _ _ _ _ _).mono ?_; rintro e w1 ⟨rfl, hx⟩
       have q0 := (hx.old _ (Array.getElem?_eq_some_iff.1 HK0.out).1).trans HK0.out
       have q1 := (hx.old _ (Array.getElem?_eq_some_iff.1 HK1.out).1).trans HK1.out
       have a0 := Tryz.bcell (j := 0) q0 rfl; have a1 := Tryz.bcell (j := 1) q0 rfl; have a2 := Tryz.bcell (j := 2) q0 rfl; have a3 := Tryz.bcell (j := 3) q0 rfl
       have b0 := Tryz.bcell (j := 0) q1 rfl; have b1 := Tryz.bcell (j := 1) q1 rfl; have b2 := Tryz.bcell (j := 2) q1 rfl; have b3 := Tryz.bcell (j := 3) q1 rfl
       have HE1 := Lib.hid (HE.out.trans hx)
       have Q0 := Lib.hid q0; have Q1 := Lib.hid q1; clear q0 q1 hx)
    | (go_at_call 32; refine (H32.out _).mono ?_; rintro e w3 ⟨rfl, hx⟩; have HE3 := Lib.hid (HE2.out.trans hx); clear hx))
  go_ret2
  exact ⟨rfl, HE.out⟩
set_option maxRecDepth 100000 in
set_option maxHeartbeats 4000000 in
theorem Tryz.compared14b (K N S : Int) (T : ByteArray) (J M R : Int) (U : ByteArray) (hin : Tryz.within K 0 2 = true) (hjn : Tryz.within J 0 2 = false) (w : World) :
    Calls Tryz.prog 14 #[.agg #[.int .i64 K, .int .i64 N, .int .i64 S, .string T], .agg #[.int .i64 J, .int .i64 M, .int .i64 R, .string U]] w fun e w' =>
      e = .returned (.tuple #[.int .i64 0, .int .i64 4]) ∧ Tryz.Ext w w' := by
  have H30 := Lib.hid (fun x w => Tryz.in30 x 0 2 w)
  have H31 := Lib.hid (fun K N S T w => Tryz.refErr31 K N S T w)
  have HK0 := Lib.hid (show ((w.alloc (Obj.cells #[Value.int IntKind.i64 K, Value.int IntKind.i64 N, Value.int IntKind.i64 S, Value.string T] 35)).alloc (Obj.cells #[Value.int IntKind.i64 J, Value.int IntKind.i64 M, Value.int IntKind.i64 R, Value.string U] 35)).heap[w.heap.size]? = some (Obj.cells #[Value.int IntKind.i64 K, Value.int IntKind.i64 N, Value.int IntKind.i64 S, Value.string T] 35) from Tryz.alloc_old (Tryz.bnew _ _) _)
  have HK1 := Lib.hid (show ((w.alloc (Obj.cells #[Value.int IntKind.i64 K, Value.int IntKind.i64 N, Value.int IntKind.i64 S, Value.string T] 35)).alloc (Obj.cells #[Value.int IntKind.i64 J, Value.int IntKind.i64 M, Value.int IntKind.i64 R, Value.string U] 35)).heap[w.heap.size + 1]? = some (Obj.cells #[Value.int IntKind.i64 J, Value.int IntKind.i64 M, Value.int IntKind.i64 R, Value.string U] 35) from Tryz.alloc_at (Tryz.alloc_sz rfl _) _)
  have HE := Lib.hid (show Tryz.Ext w ((w.alloc (Obj.cells #[Value.int IntKind.i64 K, Value.int IntKind.i64 N, Value.int IntKind.i64 S, Value.string T] 35)).alloc (Obj.cells #[Value.int IntKind.i64 J, Value.int IntKind.i64 M, Value.int IntKind.i64 R, Value.string U] 35)) from Tryz.alloc_ext (Tryz.alloc_ext (.refl _) _) _)
  go_enter Tryz.func14, Tryz.ntmps14
  go_wp2_with (first
    | (go_at_call 30; refine (H30.out _ _).mono ?_; rintro e w' ⟨rfl, rfl⟩)
    | (go_at_call 31; refine (H31.out _ _ _ _ _).mono ?_; rintro e w2 ⟨rfl, hx⟩
       have q0 := (hx.old _ (Array.getElem?_eq_some_iff.1 Q0.out).1).trans Q0.out
       have q1 := (hx.old _ (Array.getElem?_eq_some_iff.1 Q1.out).1).trans Q1.out
       clear a0 a1 a2 a3 b0 b1 b2 b3
       have a0 := Tryz.bcell (j := 0) q0 rfl; have a1 := Tryz.bcell (j := 1) q0 rfl; have a2 := Tryz.bcell (j := 2) q0 rfl; have a3 := Tryz.bcell (j := 3) q0 rfl
       have b0 := Tryz.bcell (j := 0) q1 rfl; have b1 := Tryz.bcell (j := 1) q1 rfl; have b2 := Tryz.bcell (j := 2) q1 rfl; have b3 := Tryz.bcell (j := 3) q1 rfl
       have HE2 := Lib.hid (HE1.out.trans hx)
       clear q0 q1 hx)
    | (go_at_call 31; refine (H31.out _ _ _ _ _).mono ?_; rintro e w1 ⟨rfl, hx⟩
       have q0 := (hx.old _ (Array.getElem?_eq_some_iff.1 HK0.out).1).trans HK0.out
       have q1 := (hx.old _ (Array.getElem?_eq_some_iff.1 HK1.out).1).trans HK1.out
       have a0 := Tryz.bcell (j := 0) q0 rfl; have a1 := Tryz.bcell (j := 1) q0 rfl; have a2 := Tryz.bcell (j := 2) q0 rfl; have a3 := Tryz.bcell (j := 3) q0 rfl
       have b0 := Tryz.bcell (j := 0) q1 rfl; have b1 := Tryz.bcell (j := 1) q1 rfl; have b2 := Tryz.bcell (j := 2) q1 rfl; have b3 := Tryz.bcell (j := 3) q1 rfl
       have HE1 := Lib.hid (HE.out.trans hx)
       have Q0 := Lib.hid q0; have Q1 := Lib.hid q1; clear q0 q1 hx)
    | (go_at_call 32; refine (H32.out _).mono ?_; rintro e w3 ⟨rfl, hx⟩; have HE3 := Lib.hid (HE2.out.trans hx); clear hx))
  go_ret2
  exact ⟨rfl, HE.out⟩
set_option maxRecDepth 100000 in
set_option maxHeartbeats 4000000 in
theorem Tryz.compared14c (K N S : Int) (T : ByteArray) (J M R : Int) (U : ByteArray) (hin : Tryz.within K 0 2 = true) (hjn : Tryz.within J 0 2 = true) (he : ¬ Tryz.errV K N S T = 0) (w : World) :
    Calls Tryz.prog 14 #[.agg #[.int .i64 K, .int .i64 N, .int .i64 S, .string T], .agg #[.int .i64 J, .int .i64 M, .int .i64 R, .string U]] w fun e w' =>
      e = .returned (.tuple #[.int .i64 0, .int .i64 (Tryz.errV K N S T)]) ∧ Tryz.Ext w w' := by
  have H30 := Lib.hid (fun x w => Tryz.in30 x 0 2 w)
  have H31 := Lib.hid (fun K N S T w => Tryz.refErr31 K N S T w)
  have HK0 := Lib.hid (show ((w.alloc (Obj.cells #[Value.int IntKind.i64 K, Value.int IntKind.i64 N, Value.int IntKind.i64 S, Value.string T] 35)).alloc (Obj.cells #[Value.int IntKind.i64 J, Value.int IntKind.i64 M, Value.int IntKind.i64 R, Value.string U] 35)).heap[w.heap.size]? = some (Obj.cells #[Value.int IntKind.i64 K, Value.int IntKind.i64 N, Value.int IntKind.i64 S, Value.string T] 35) from Tryz.alloc_old (Tryz.bnew _ _) _)
  have HK1 := Lib.hid (show ((w.alloc (Obj.cells #[Value.int IntKind.i64 K, Value.int IntKind.i64 N, Value.int IntKind.i64 S, Value.string T] 35)).alloc (Obj.cells #[Value.int IntKind.i64 J, Value.int IntKind.i64 M, Value.int IntKind.i64 R, Value.string U] 35)).heap[w.heap.size + 1]? = some (Obj.cells #[Value.int IntKind.i64 J, Value.int IntKind.i64 M, Value.int IntKind.i64 R, Value.string U] 35) from Tryz.alloc_at (Tryz.alloc_sz rfl _) _)
  have HE := Lib.hid (show Tryz.Ext w ((w.alloc (Obj.cells #[Value.int IntKind.i64 K, Value.int IntKind.i64 N, Value.int IntKind.i64 S, Value.string T] 35)).alloc (Obj.cells #[Value.int IntKind.i64 J, Value.int IntKind.i64 M, Value.int IntKind.i64 R, Value.string U] 35)) from Tryz.alloc_ext (Tryz.alloc_ext (.refl _) _) _)
  go_enter Tryz.func14, Tryz.ntmps14
  go_wp2_with (first
    | (go_at_call 30; refine (H30.out _ _).mono ?_; rintro e w' ⟨rfl, rfl⟩)
    | (go_at_call 31; refine (H31.out _ _ _ _ _).mono ?_; rintro e w2 ⟨rfl, hx⟩
       have q0 := (hx.old _ (Array.getElem?_eq_some_iff.1 Q0.out).1).trans Q0.out
       have q1 := (hx.old _ (Array.getElem?_eq_some_iff.1 Q1.out).1).trans Q1.out
       clear a0 a1 a2 a3 b0 b1 b2 b3
       have a0 := Tryz.bcell (j := 0) q0 rfl; have a1 := Tryz.bcell (j := 1) q0 rfl; have a2 := Tryz.bcell (j := 2) q0 rfl; have a3 := Tryz.bcell (j := 3) q0 rfl
       have b0 := Tryz.bcell (j := 0) q1 rfl; have b1 := Tryz.bcell (j := 1) q1 rfl; have b2 := Tryz.bcell (j := 2) q1 rfl; have b3 := Tryz.bcell (j := 3) q1 rfl
       have HE2 := Lib.hid (HE1.out.trans hx)
       clear q0 q1 hx)
    | (go_at_call 31; refine (H31.out _ _ _ _ _).mono ?_; rintro e w1 ⟨rfl, hx⟩
       have q0 := (hx.old _ (Array.getElem?_eq_some_iff.1 HK0.out).1).trans HK0.out
       have q1 := (hx.old _ (Array.getElem?_eq_some_iff.1 HK1.out).1).trans HK1.out
       have a0 := Tryz.bcell (j := 0) q0 rfl; have a1 := Tryz.bcell (j := 1) q0 rfl; have a2 := Tryz.bcell (j := 2) q0 rfl; have a3 := Tryz.bcell (j := 3) q0 rfl
       have b0 := Tryz.bcell (j := 0) q1 rfl; have b1 := Tryz.bcell (j := 1) q1 rfl; have b2 := Tryz.bcell (j := 2) q1 rfl; have b3 := Tryz.bcell (j := 3) q1 rfl
       have HE1 := Lib.hid (HE.out.trans hx)
       have Q0 := Lib.hid q0; have Q1 := Lib.hid q1; clear q0 q1 hx)
    | (go_at_call 32; refine (H32.out _).mono ?_; rintro e w3 ⟨rfl, hx⟩; have HE3 := Lib.hid (HE2.out.trans hx); clear hx))
  go_ret2
  exact ⟨rfl, HE1.out⟩
set_option maxRecDepth 100000 in
set_option maxHeartbeats 4000000 in
theorem Tryz.compared14d (K N S : Int) (T : ByteArray) (J M R : Int) (U : ByteArray) (hin : Tryz.within K 0 2 = true) (hjn : Tryz.within J 0 2 = true) (he : Tryz.errV K N S T = 0) (he2 : ¬ Tryz.errV J M R U = 0) (w : World) :
    Calls Tryz.prog 14 #[.agg #[.int .i64 K, .int .i64 N, .int .i64 S, .string T], .agg #[.int .i64 J, .int .i64 M, .int .i64 R, .string U]] w fun e w' =>
      e = .returned (.tuple #[.int .i64 0, .int .i64 (Tryz.errV J M R U)]) ∧ Tryz.Ext w w' := by
  have H30 := Lib.hid (fun x w => Tryz.in30 x 0 2 w)
  have H31 := Lib.hid (fun K N S T w => Tryz.refErr31 K N S T w)
  have HK0 := Lib.hid (show ((w.alloc (Obj.cells #[Value.int IntKind.i64 K, Value.int IntKind.i64 N, Value.int IntKind.i64 S, Value.string T] 35)).alloc (Obj.cells #[Value.int IntKind.i64 J, Value.int IntKind.i64 M, Value.int IntKind.i64 R, Value.string U] 35)).heap[w.heap.size]? = some (Obj.cells #[Value.int IntKind.i64 K, Value.int IntKind.i64 N, Value.int IntKind.i64 S, Value.string T] 35) from Tryz.alloc_old (Tryz.bnew _ _) _)
  have HK1 := Lib.hid (show ((w.alloc (Obj.cells #[Value.int IntKind.i64 K, Value.int IntKind.i64 N, Value.int IntKind.i64 S, Value.string T] 35)).alloc (Obj.cells #[Value.int IntKind.i64 J, Value.int IntKind.i64 M, Value.int IntKind.i64 R, Value.string U] 35)).heap[w.heap.size + 1]? = some (Obj.cells #[Value.int IntKind.i64 J, Value.int IntKind.i64 M, Value.int IntKind.i64 R, Value.string U] 35) from Tryz.alloc_at (Tryz.alloc_sz rfl _) _)
  have HE := Lib.hid (show Tryz.Ext w ((w.alloc (Obj.cells #[Value.int IntKind.i64 K, Value.int IntKind.i64 N, Value.int IntKind.i64 S, Value.string T] 35)).alloc (Obj.cells #[Value.int IntKind.i64 J, Value.int IntKind.i64 M, Value.int IntKind.i64 R, Value.string U] 35)) from Tryz.alloc_ext (Tryz.alloc_ext (.refl _) _) _)
  go_enter Tryz.func14, Tryz.ntmps14
  go_wp2_with (first
    | (go_at_call 30; refine (H30.out _ _).mono ?_; rintro e w' ⟨rfl, rfl⟩)
    | (go_at_call 31; refine (H31.out _ _ _ _ _).mono ?_; rintro e w2 ⟨rfl, hx⟩
       have q0 := (hx.old _ (Array.getElem?_eq_some_iff.1 Q0.out).1).trans Q0.out
       have q1 := (hx.old _ (Array.getElem?_eq_some_iff.1 Q1.out).1).trans Q1.out
       clear a0 a1 a2 a3 b0 b1 b2 b3
       have a0 := Tryz.bcell (j := 0) q0 rfl; have a1 := Tryz.bcell (j := 1) q0 rfl; have a2 := Tryz.bcell (j := 2) q0 rfl; have a3 := Tryz.bcell (j := 3) q0 rfl
       have b0 := Tryz.bcell (j := 0) q1 rfl; have b1 := Tryz.bcell (j := 1) q1 rfl; have b2 := Tryz.bcell (j := 2) q1 rfl; have b3 := Tryz.bcell (j := 3) q1 rfl
       have HE2 := Lib.hid (HE1.out.trans hx)
       clear q0 q1 hx)
    | (go_at_call 31; refine (H31.out _ _ _ _ _).mono ?_; rintro e w1 ⟨rfl, hx⟩
       have q0 := (hx.old _ (Array.getElem?_eq_some_iff.1 HK0.out).1).trans HK0.out
       have q1 := (hx.old _ (Array.getElem?_eq_some_iff.1 HK1.out).1).trans HK1.out
       have a0 := Tryz.bcell (j := 0) q0 rfl; have a1 := Tryz.bcell (j := 1) q0 rfl; have a2 := Tryz.bcell (j := 2) q0 rfl; have a3 := Tryz.bcell (j := 3) q0 rfl
       have b0 := Tryz.bcell (j := 0) q1 rfl; have b1 := Tryz.bcell (j := 1) q1 rfl; have b2 := Tryz.bcell (j := 2) q1 rfl; have b3 := Tryz.bcell (j := 3) q1 rfl
       have HE1 := Lib.hid (HE.out.trans hx)
       have Q0 := Lib.hid q0; have Q1 := Lib.hid q1; clear q0 q1 hx)
    | (go_at_call 32; refine (H32.out _).mono ?_; rintro e w3 ⟨rfl, hx⟩; have HE3 := Lib.hid (HE2.out.trans hx); clear hx))
  go_ret2
  exact ⟨rfl, HE2.out⟩
set_option maxRecDepth 100000 in
set_option maxHeartbeats 4000000 in
theorem Tryz.compared14e (K N S : Int) (T : ByteArray) (J M R : Int) (U : ByteArray) (hin : Tryz.within K 0 2 = true) (hjn : Tryz.within J 0 2 = true) (he : Tryz.errV K N S T = 0) (he2 : Tryz.errV J M R U = 0) (w : World) :
    Calls Tryz.prog 14 #[.agg #[.int .i64 K, .int .i64 N, .int .i64 S, .string T], .agg #[.int .i64 J, .int .i64 M, .int .i64 R, .string U]] w fun e w' =>
      e = .returned (.tuple #[.int .i64 (Tryz.cmpV K N S T J M R U), .int .i64 0]) ∧ Tryz.Ext w w' := by
  have H30 := Lib.hid (fun x w => Tryz.in30 x 0 2 w)
  have H31 := Lib.hid (fun K N S T w => Tryz.refErr31 K N S T w)
  have H32 := Lib.hid (fun w => Tryz.order32 K N S T J M R U he he2 w)
  have HK0 := Lib.hid (show ((w.alloc (Obj.cells #[Value.int IntKind.i64 K, Value.int IntKind.i64 N, Value.int IntKind.i64 S, Value.string T] 35)).alloc (Obj.cells #[Value.int IntKind.i64 J, Value.int IntKind.i64 M, Value.int IntKind.i64 R, Value.string U] 35)).heap[w.heap.size]? = some (Obj.cells #[Value.int IntKind.i64 K, Value.int IntKind.i64 N, Value.int IntKind.i64 S, Value.string T] 35) from Tryz.alloc_old (Tryz.bnew _ _) _)
  have HK1 := Lib.hid (show ((w.alloc (Obj.cells #[Value.int IntKind.i64 K, Value.int IntKind.i64 N, Value.int IntKind.i64 S, Value.string T] 35)).alloc (Obj.cells #[Value.int IntKind.i64 J, Value.int IntKind.i64 M, Value.int IntKind.i64 R, Value.string U] 35)).heap[w.heap.size + 1]? = some (Obj.cells #[Value.int IntKind.i64 J, Value.int IntKind.i64 M, Value.int IntKind.i64 R, Value.string U] 35) from Tryz.alloc_at (Tryz.alloc_sz rfl _) _)
  have HE := Lib.hid (show Tryz.Ext w ((w.alloc (Obj.cells #[Value.int IntKind.i64 K, Value.int IntKind.i64 N, Value.int IntKind.i64 S, Value.string T] 35)).alloc (Obj.cells #[Value.int IntKind.i64 J, Value.int IntKind.i64 M, Value.int IntKind.i64 R, Value.string U] 35)) from Tryz.alloc_ext (Tryz.alloc_ext (.refl _) _) _)
  go_enter Tryz.func14, Tryz.ntmps14
  go_wp2_with (first
    | (go_at_call 30; refine (H30.out _ _).mono ?_; rintro e w' ⟨rfl, rfl⟩)
    | (go_at_call 31; refine (H31.out _ _ _ _ _).mono ?_; rintro e w2 ⟨rfl, hx⟩
       have q0 := (hx.old _ (Array.getElem?_eq_some_iff.1 Q0.out).1).trans Q0.out
       have q1 := (hx.old _ (Array.getElem?_eq_some_iff.1 Q1.out).1).trans Q1.out
       clear a0 a1 a2 a3 b0 b1 b2 b3
       have a0 := Tryz.bcell (j := 0) q0 rfl; have a1 := Tryz.bcell (j := 1) q0 rfl; have a2 := Tryz.bcell (j := 2) q0 rfl; have a3 := Tryz.bcell (j := 3) q0 rfl
       have b0 := Tryz.bcell (j := 0) q1 rfl; have b1 := Tryz.bcell (j := 1) q1 rfl; have b2 := Tryz.bcell (j := 2) q1 rfl; have b3 := Tryz.bcell (j := 3) q1 rfl
       have HE2 := Lib.hid (HE1.out.trans hx)
       clear q0 q1 hx)
    | (go_at_call 31; refine (H31.out _ _ _ _ _).mono ?_; rintro e w1 ⟨rfl, hx⟩
       have q0 := (hx.old _ (Array.getElem?_eq_some_iff.1 HK0.out).1).trans HK0.out
       have q1 := (hx.old _ (Array.getElem?_eq_some_iff.1 HK1.out).1).trans HK1.out
       have a0 := Tryz.bcell (j := 0) q0 rfl; have a1 := Tryz.bcell (j := 1) q0 rfl; have a2 := Tryz.bcell (j := 2) q0 rfl; have a3 := Tryz.bcell (j := 3) q0 rfl
       have b0 := Tryz.bcell (j := 0) q1 rfl; have b1 := Tryz.bcell (j := 1) q1 rfl; have b2 := Tryz.bcell (j := 2) q1 rfl; have b3 := Tryz.bcell (j := 3) q1 rfl
       have HE1 := Lib.hid (HE.out.trans hx)
       have Q0 := Lib.hid q0; have Q1 := Lib.hid q1; clear q0 q1 hx)
    | (go_at_call 32; refine (H32.out _).mono ?_; rintro e w3 ⟨rfl, hx⟩; have HE3 := Lib.hid (HE2.out.trans hx); clear hx))
  go_ret2
  exact ⟨rfl, HE3.out⟩
theorem Tryz.compared14 (K N S : Int) (T : ByteArray) (J M R : Int) (U : ByteArray) (w : World) :
    Calls Tryz.prog 14 #[.agg #[.int .i64 K, .int .i64 N, .int .i64 S, .string T], .agg #[.int .i64 J, .int .i64 M, .int .i64 R, .string U]] w fun e w' =>
      e = .returned (.tuple #[.int .i64 (Tryz.resN K N S T J M R U), .int .i64 (Tryz.resC K N S T J M R U)]) ∧ Tryz.Ext w w' := by
  cases hin : Tryz.within K 0 2
  · have hc : Tryz.resC K N S T J M R U = 4 := by rw [Tryz.resC, hin]; rfl
    rw [Tryz.resN, hc]
    exact Tryz.compared14a K N S T J M R U hin w
  · cases hjn : Tryz.within J 0 2
    · have hc : Tryz.resC K N S T J M R U = 4 := by rw [Tryz.resC, hin, hjn]; rfl
      rw [Tryz.resN, hc]
      exact Tryz.compared14b K N S T J M R U hin hjn w
    · have hc : Tryz.resC K N S T J M R U = if Tryz.errV K N S T = 0 then Tryz.errV J M R U else Tryz.errV K N S T := by rw [Tryz.resC, hin, hjn, Bool.and_self, if_pos rfl]
      by_cases he : Tryz.errV K N S T = 0
      · rw [if_pos he] at hc
        by_cases he2 : Tryz.errV J M R U = 0
        · rw [Tryz.resN, if_pos (hc.trans he2), hc, he2]
          exact Tryz.compared14e K N S T J M R U hin hjn he he2 w
        · rw [Tryz.resN, hc, if_neg he2]
          exact Tryz.compared14d K N S T J M R U hin hjn he he2 w
      · rw [if_neg he] at hc
        rw [Tryz.resN, hc, if_neg he]
        exact Tryz.compared14c K N S T J M R U hin hjn he w
end Go.Proofs
/- slices.Backward at a slice of ints: its iterator's contract. -/
namespace Go.Proofs
open Go.RowKit Go.Shelf
attribute [local go_sem] Oper.semAt_some

/-- What has come when k rounds are over. -/
def Tryz.upto {α : Type} (f : Nat → α) (k : Nat) : List α := (List.range k).map f
theorem Tryz.upto_succ {α : Type} (f : Nat → α) (k : Nat) : Tryz.upto f (k + 1) = Tryz.upto f k ++ [f k] := by simp [Tryz.upto, List.range_succ]
theorem Tryz.upto_length {α : Type} (f : Nat → α) (k : Nat) : (Tryz.upto f k).length = k := by simp [Tryz.upto]
/-- The pairs that come, from the last one on. -/
def Tryz.bk (zs : List Int) (j : Nat) : Nat × Int := (zs.length - 1 - j, zs[zs.length - 1 - j]?.getD 0)

set_option maxRecDepth 100000 in
set_option maxHeartbeats 2000000 in
theorem Tryz.back1_in (F : Fence) (n : Nat) (h107 : F.fn 107) (hro : F.round = none) (hn : 1 ≤ n) (l Bs b off cap : Nat) (zs : List Int) (hreach : zs.length * 8 ≤ 140737488351232) (Kp : World → World → Prop)
    (hKB : ∀ {A B : World}, Kp A B → B.cell? ⟨Bs, 0, none⟩ = A.cell? ⟨Bs, 0, none⟩) (hKc : ∀ {A B : World}, Kp A B → ∀ j, B.cell? ⟨b, off + j, none⟩ = A.cell? ⟨b, off + j, none⟩) {α : Type} (pr : α → Nat × Int) (f : Nat → α) (hf : ∀ j, pr (f j) = Tryz.bk zs j) (J Jx : List α → World → Prop)
    (hY : ∀ pre (x : α) W, J pre W → pre.length < zs.length → YieldAt F (n - 1) Tryz.prog l #[.int .i64 ((pr x).1 : Int), .int .i64 (pr x).2] W fun e W' =>
      (e = .returned (.bool true) ∧ J (pre ++ [x]) W' ∧ Kp W W') ∨ (e = .returned (.bool false) ∧ Jx (pre ++ [x]) W'))
    (W : World) (hBs : W.cell? ⟨Bs, 0, none⟩ = some (.slice (some ⟨b, off, none⟩) zs.length cap)) (hc : ∀ j, j < zs.length → W.cell? ⟨b, off + j, none⟩ = some (.int .i64 (zs[j]?.getD 0))) (h0 : J [] W) :
    CallsIn F n Tryz.prog 107 #[.func (.yield l) #[] #[], .pointer (some ⟨Bs, 0, none⟩)] W fun e W' => (∃ v, e = .returned v) ∧
      ((∃ ys, ys = Tryz.upto f zs.length ∧ J ys W') ∨ (∃ pre, (∃ k, k ≤ zs.length ∧ pre = Tryz.upto f k) ∧ Jx pre W')) := by
  have hreach' : (zs.length : Int) * 8 ≤ 140737488351232 := by omega
  refine callsIn_of_wp Tryz.func107 rfl h107 ?_ hro
  simp only [Tryz.ntmps107, List.size_toArray, List.length_cons, List.length_nil, Nat.reduceAdd, Nat.reduceSub, Array.replicate_succ, Array.replicate_zero, List.push_toArray, List.append_toArray, List.nil_append, List.cons_append]
  gi_wp2
  gi_loopw [3] (fun i wr => ∃ m : Nat, m ≤ zs.length ∧ i = .int .i64 ((m : Int) - 1) ∧ J (Tryz.upto f (zs.length - m)) wr ∧ wr.cell? ⟨Bs, 0, none⟩ = some (.slice (some ⟨b, off, none⟩) zs.length cap) ∧ ∀ j, j < zs.length → wr.cell? ⟨b, off + j, none⟩ = some (.int .i64 (zs[j]?.getD 0)))
    (fun i _ => (intOf i + 1).toNat)
  case atStart => exact ⟨zs.length, Nat.le_refl _, rfl, by rw [Nat.sub_self]; exact h0, hBs, hc⟩
  case round =>
    obtain ⟨m, hm, rfl, hJs, hB, hcx⟩ := hrel
    cases m with
    | zero =>
      rw [show (((0 : Nat) : Int) - 1) = -1 by rfl]
      have HJ := Lib.hid hJs; clear hJs hcx hc hBs
      gi_wp2
      go_end0
      exact ⟨⟨_, rfl⟩, .inl ⟨_, rfl, HJ.out⟩⟩
    | succ m =>
      rw [show (((m + 1 : Nat) : Int) - 1) = (m : Int) by omega]
      have hlt : m < zs.length := hm
      have hcx' := hcx m hlt
      obtain ⟨fn, tmps, assign, body, hy, hR⟩ := hY _ (f (zs.length - (m + 1))) wr hJs (by rw [Tryz.upto_length]; omega)
      have e1 : (pr (f (zs.length - (m + 1)))).1 = m := by simp only [hf, Tryz.bk]; omega
      have e2 : (pr (f (zs.length - (m + 1)))).2 = zs[m] := by simp only [hf, Tryz.bk]; rw [show zs.length - 1 - (zs.length - (m + 1)) = m by omega, List.getElem?_eq_getElem hlt]; rfl
      rw [e1, e2] at hy
      have HJ := Lib.hid hJs
      have HX := Lib.hid hcx
      clear hJs hcx hc hBs e1 e2
      gi_wp2
      refine hR.mono ?_
      rintro e W3 (⟨rfl, hJ3, hk3⟩ | ⟨rfl, hJx3⟩)
      · have HB3 := Lib.hid ((hKB hk3).trans hB)
        have HX3 := Lib.hid (fun j (hj : j < zs.length) => (hKc hk3 j).trans (HX.out j hj))
        have HJ3 := Lib.hid hJ3
        clear hJ3 hk3 hB hcx'
        gi_wp2
        go_roundw
        case rel =>
          refine ⟨m, by omega, rfl, ?_, HB3.out, HX3.out⟩
          rw [show zs.length - m = (zs.length - (m + 1)) + 1 by omega, Tryz.upto_succ]
          exact HJ3.out
        case measure => simp [intOf]
      · gi_wp2
        refine bodyPost_ret (results_none rfl _ _ _) rfl ?_
        exact ⟨⟨_, rfl⟩, .inr ⟨_, ⟨zs.length - (m + 1) + 1, by omega, (Tryz.upto_succ _ _).symm⟩, hJx3⟩⟩

set_option maxRecDepth 100000 in
set_option maxHeartbeats 1000000 in
/-- .. at the nil slice: no round. -/
theorem Tryz.back1_nil_in (F : Fence) (n : Nat) (h107 : F.fn 107) (hro : F.round = none) (l Bs : Nat) {α : Type} (J : List α → World → Prop) (W : World) (hBs : W.cell? ⟨Bs, 0, none⟩ = some (.slice none 0 0)) (h0 : J [] W) :
    CallsIn F n Tryz.prog 107 #[.func (.yield l) #[] #[], .pointer (some ⟨Bs, 0, none⟩)] W fun e W' => (∃ v, e = .returned v) ∧ J [] W' := by
  refine callsIn_of_wp Tryz.func107 rfl h107 ?_ hro
  simp only [Tryz.ntmps107, List.size_toArray, List.length_cons, List.length_nil, Nat.reduceAdd, Nat.reduceSub, Array.replicate_succ, Array.replicate_zero, List.push_toArray, List.append_toArray, List.nil_append, List.cons_append]
  gi_wp2
  gi_loopw [3] (fun i wr => i = .int .i64 (-1) ∧ J [] wr) (fun _ _ => 0)
  case atStart => exact ⟨rfl, h0⟩
  case round =>
    obtain ⟨rfl, hJs⟩ := hrel
    gi_wp2
    go_end0
    exact ⟨⟨_, rfl⟩, hJs⟩
set_option maxHeartbeats 1000000 in
/-- slices.Backward: the slice value is boxed; the function value captures the box. -/
theorem Tryz.back_in (F : Fence) (n : Nat) (h52 : F.fn 52) (hro : F.round = none) (a : Option Addr) (len cap : Nat) (w : World) :
    CallsIn F n Tryz.prog 52 #[.slice a len cap] w fun e w' => e = .returned (.func (.func 107) #[] #[.pointer (some ⟨w.heap.size, 0, none⟩)]) ∧ w' = w.alloc (.cells #[.slice a len cap] 66) := by
  refine callsIn_of_wp Tryz.func52 rfl h52 ?_ hro
  simp only [Tryz.ntmps52, List.size_toArray, List.length_cons, List.length_nil, Nat.reduceAdd, Nat.reduceSub, Array.replicate_succ, Array.replicate_zero, List.push_toArray, List.append_toArray, List.nil_append, List.cons_append]
  gi_wp2
  go_ret
  exact ⟨rfl, rfl⟩

/-- The slice value holds the ints zs; or it is nil and there are none. -/
def Tryz.Ints (W : World) (sv : Value) (zs : List Int) : Prop :=
  (sv = .slice none 0 0 ∧ zs = []) ∨ ∃ b off cap, sv = .slice (some ⟨b, off, none⟩) zs.length cap ∧ b < W.heap.size ∧ ∀ j, j < zs.length → W.cell? ⟨b, off + j, none⟩ = some (.int .i64 (zs[j]?.getD 0))
/-- All blocks that are there but one. -/
def Tryz.KeepBut (n x : Nat) (A B : World) : Prop := ∀ k, k < n → k ≠ x → B.heap[k]? = A.heap[k]?
theorem Tryz.KeepBut.cell {n x : Nat} {A B : World} (h : Tryz.KeepBut n x A B) {b o : Nat} (hb : b < n) (hx : b ≠ x) : B.cell? ⟨b, o, none⟩ = A.cell? ⟨b, o, none⟩ := by
  simp only [World.cell?, h b hb hx]
/-- The iterator's contract, where the loop's body writes one block alone. -/
theorem Tryz.back_stops (F : Fence) (n : Nat) (h107 : F.fn 107) (hro : F.round = none) (hn : 1 ≤ n) (Bs x : Nat) (sv : Value) (zs : List Int) (hreach : zs.length * 8 ≤ 140737488351232) (w : World) (hBs : Bs < w.heap.size) (hx : Bs ≠ x)
    (hc : w.cell? ⟨Bs, 0, none⟩ = some sv) (hI : Tryz.Ints w sv zs) (hxb : ∀ b off cap l, sv = .slice (some ⟨b, off, none⟩) l cap → b ≠ x) {α : Type} (pr : α → Nat × Int) (f : Nat → α) (hf : ∀ j, pr (f j) = Tryz.bk zs j) :
    SeqStopsK F n Tryz.prog 107 #[.pointer (some ⟨Bs, 0, none⟩)] (fun x : α => #[Value.int .i64 ((pr x).1 : Int), Value.int .i64 (pr x).2]) (Tryz.KeepBut w.heap.size x) (fun ys => ys = Tryz.upto f zs.length)
      (fun pre => ∃ k, k ≤ zs.length ∧ pre = Tryz.upto f k) zs.length w := fun l J Jx W hW _ _ hY h0 => by
  have hc' := (hW.cell (p := ⟨Bs, 0, none⟩) hBs).trans hc
  rcases hI with ⟨rfl, rfl⟩ | ⟨b, off, cap, rfl, hb, hcs⟩
  · exact (Tryz.back1_nil_in F n h107 hro l Bs J W hc' h0).mono fun e W' ⟨he, hj⟩ => ⟨he, .inl ⟨_, rfl, hj⟩⟩
  · exact Tryz.back1_in F n h107 hro hn l Bs b off cap zs hreach _ (fun h => h.cell hBs hx) (fun h j => h.cell hb (hxb _ _ _ _ rfl)) pr f hf J Jx hY W hc' (fun j hj => (hW.cell (p := ⟨b, off + j, none⟩) hb).trans (hcs j hj)) h0
end Go.Proofs
/- sql.isTree: its contract at every list of nodes whose operands are indices. -/
namespace Go.Proofs
open Go.RowKit Go.Shelf
attribute [local go_sem] Oper.semAt_some

/-- A node, as it lies. -/
structure Tryz.Nd where
  k : Int
  n : Int
  s : Int
  f : ByteArray
  t : ByteArray
  sa : Option Addr
  sl : Nat
  sc : Nat
  zs : List Int
def Tryz.Nd.cells (x : Tryz.Nd) : List Value := [.int .i64 x.k, .int .i64 x.n, .int .i64 x.s, .string x.f, .string x.t, .slice x.sa x.sl x.sc]
def Tryz.NodesAt (w : World) (b o : Nat) (es : List Tryz.Nd) : Prop :=
  b < w.heap.size ∧ ∀ (i : Nat) (x : Tryz.Nd), es[i]? = some x → (∀ (j : Nat) (v : Value), x.cells[j]? = some v → w.cell? ⟨b, o + i * 6 + j, none⟩ = some v) ∧ Tryz.Ints w (.slice x.sa x.sl x.sc) x.zs ∧ x.zs.length * 8 ≤ 140737488351232

/-! ### What it computes -/
def Tryz.stepI (beg : List Int) (nx : Int) (x : Nat × Int) : Option Int := if x.2 = nx then some (beg[x.2.toNat]?.getD 0 - 1) else none
def Tryz.innerF (beg : List Int) (i0 : Int) (pre : List (Nat × Int)) : Option Int := pre.foldlM (Tryz.stepI beg) i0
def Tryz.pairs (zs : List Int) : List (Nat × Int) := Tryz.upto (Tryz.bk zs) zs.length
theorem Tryz.map_upto {α β : Type} (g : α → β) (f : Nat → α) (k : Nat) : (Tryz.upto f k).map g = Tryz.upto (fun j => g (f j)) k := by simp [Tryz.upto]
/-- The first k nodes, over begins. -/
def Tryz.outerF (N : Nat) (es : List (List Int)) : Nat → Option (List Int)
  | 0 => some (List.replicate N 0)
  | k + 1 => (Tryz.outerF N es k).bind fun beg => (Tryz.innerF beg ((k : Int) - 1) (Tryz.pairs (es[k]?.getD []))).map fun nx => beg.set k (nx + 1)
def Tryz.treeF (es : List (List Int)) : Bool := match Tryz.outerF es.length es es.length with
  | some beg => decide (beg[es.length - 1]?.getD 0 = 0)
  | none => false
theorem Tryz.innerF_snoc (beg : List Int) (i0 : Int) (pre : List (Nat × Int)) (x : Nat × Int) : Tryz.innerF beg i0 (pre ++ [x]) = (Tryz.innerF beg i0 pre).bind fun nx => Tryz.stepI beg nx x := by
  simp only [Tryz.innerF, List.foldlM_append, List.foldlM_cons, List.foldlM_nil]
  cases List.foldlM (Tryz.stepI beg) i0 pre with
  | none => rfl
  | some nx => simp
theorem Tryz.upto_pre {α : Type} (f : Nat → α) {k n : Nat} (h : k ≤ n) : ∃ r, Tryz.upto f n = Tryz.upto f k ++ r := by
  induction n with
  | zero => exact ⟨[], by rw [show k = 0 by omega]; simp⟩
  | succ n ih =>
    by_cases e : k = n + 1
    · subst e; exact ⟨[], by simp⟩
    · obtain ⟨r, hr⟩ := ih (by omega)
      exact ⟨r ++ [f n], by rw [Tryz.upto_succ, hr, List.append_assoc]⟩
theorem Tryz.innerF_none {beg : List Int} {i0 : Int} {zs : List Int} {k : Nat} (hk : k ≤ zs.length) (h : Tryz.innerF beg i0 (Tryz.upto (Tryz.bk zs) k) = none) : Tryz.innerF beg i0 (Tryz.pairs zs) = none := by
  obtain ⟨r, hr⟩ := Tryz.upto_pre (Tryz.bk zs) hk
  unfold Tryz.pairs
  rw [hr]
  simp only [Tryz.innerF, List.foldlM_append] at h ⊢
  rw [h]; rfl
theorem Tryz.outerF_none {N : Nat} {es : List (List Int)} {k n : Nat} (hk : k ≤ n) (h : Tryz.outerF N es k = none) : Tryz.outerF N es n = none := by
  induction n with
  | zero => rw [show k = 0 by omega] at h; exact h
  | succ n ih =>
    by_cases e : k = n + 1
    · subst e; exact h
    · simp only [Tryz.outerF, ih (by omega)]; rfl
theorem Tryz.outerF_ok {N : Nat} {es : List (List Int)} : ∀ {k : Nat} {beg : List Int}, Tryz.outerF N es k = some beg → k ≤ N → beg.length = N
  | 0, beg, h, _ => by cases h; simp
  | k + 1, beg, h, hk => by
    simp only [Tryz.outerF, Option.bind_eq_some_iff, Option.map_eq_some_iff] at h
    obtain ⟨b0, h1, nx, h2, rfl⟩ := h
    have := Tryz.outerF_ok h1 (by omega)
    simp [this]

theorem Tryz.stepI_bd {N : Int} {beg : List Int} (hb : ∀ v ∈ beg, 0 ≤ v ∧ v ≤ N) (hN : 0 ≤ N) {nx nx' : Int} {x : Nat × Int} (h : Tryz.stepI beg nx x = some nx') : -1 ≤ nx' ∧ nx' ≤ N - 1 := by
  unfold Tryz.stepI at h
  split at h
  · cases h
    cases hg : beg[x.2.toNat]? with
    | none => simp; omega
    | some v =>
      have := hb v (List.mem_of_getElem? hg)
      simp; omega
  · cases h
theorem Tryz.innerF_bd {N : Int} {beg : List Int} (hb : ∀ v ∈ beg, 0 ≤ v ∧ v ≤ N) (hN : 0 ≤ N) {i0 : Int} (h0 : -1 ≤ i0 ∧ i0 ≤ N - 1) : ∀ {pre : List (Nat × Int)} {nx : Int}, Tryz.innerF beg i0 pre = some nx → -1 ≤ nx ∧ nx ≤ N - 1 := by
  intro pre
  suffices h : ∀ (l : List (Nat × Int)) (i0 nx : Int), -1 ≤ i0 ∧ i0 ≤ N - 1 → List.foldlM (Tryz.stepI beg) i0 l = some nx → -1 ≤ nx ∧ nx ≤ N - 1 from fun {nx} hn => h pre i0 nx h0 hn
  intro l
  induction l with
  | nil => intro i0 nx h0 h; cases h; exact h0
  | cons x l ih =>
    intro i0 nx h0 h
    simp only [List.foldlM_cons] at h
    cases hs : Tryz.stepI beg i0 x with
    | none => rw [hs] at h; cases h
    | some y => rw [hs] at h; exact ih y nx (Tryz.stepI_bd hb hN hs) h
theorem Tryz.outerF_bd {N : Nat} {es : List (List Int)} : ∀ {k : Nat} {beg : List Int}, k ≤ N → Tryz.outerF N es k = some beg → ∀ v ∈ beg, 0 ≤ v ∧ v ≤ (N : Int)
  | 0, beg, _, h, v, hv => by
    cases h
    have := (List.mem_replicate.1 hv).2
    omega
  | k + 1, beg, hk, h, v, hv => by
    simp only [Tryz.outerF, Option.bind_eq_some_iff, Option.map_eq_some_iff] at h
    obtain ⟨b0, h1, nx, h2, rfl⟩ := h
    have ih := Tryz.outerF_bd (by omega) h1
    have hn := Tryz.innerF_bd ih (by omega) (by omega) h2
    rcases List.mem_or_eq_of_mem_set hv with h | rfl
    · exact ih v h
    · omega

/-! ### Marks among the deferred calls -/
def Tryz.Marks : List Deferred → World → Prop
  | [], _ => True
  | d :: ds, w => (∃ r, d = { target := .collected r, args := #[] } ∧ w.heap[r]? = some (.deferred (some [])) ∧ ∀ d' ∈ ds, d' ≠ { target := .collected r, args := #[] }) ∧ Tryz.Marks ds w
theorem Tryz.Marks.mono {w w' : World} : ∀ {ds : List Deferred}, Tryz.Marks ds w → (∀ r, { target := .collected r, args := #[] } ∈ ds → w.heap[r]? = some (.deferred (some [])) → w'.heap[r]? = some (.deferred (some []))) → Tryz.Marks ds w'
  | [], _, _ => trivial
  | d :: ds, h, hk => by
    obtain ⟨⟨r, rfl, h1, h2⟩, h3⟩ := h
    exact ⟨⟨r, rfl, hk r (by simp) h1, h2⟩, h3.mono fun r' hr' => hk r' (List.mem_cons_of_mem _ hr')⟩
theorem Tryz.Marks.keeps {ds : List Deferred} {w w' : World} (h : Tryz.Marks ds w) (k : KeepsOthers w w') : Tryz.Marks ds w' := h.mono fun r _ hr => k.same r _ hr rfl
theorem Tryz.Marks.mem {w : World} : ∀ {ds : List Deferred}, Tryz.Marks ds w → ∀ r, { target := .collected r, args := #[] } ∈ ds → w.heap[r]? = some (.deferred (some []))
  | d :: ds, h, r, hr => by
    obtain ⟨⟨r', rfl, h1, h2⟩, h3⟩ := h
    rcases List.mem_cons.1 hr with e | hr
    · cases e; exact h1
    · exact h3.mem r hr
/-- Cells as they were, and all below n0. -/
structure Tryz.CellsAs (n0 : Nat) (w w' : World) : Prop where
  below : Below n0 w w'
  cells : ∀ (k : Nat) c t f, w.heap[k]? = some (.cells c t f) → w'.heap[k]? = some (.cells c t f)
theorem Tryz.leaves_marks {F : Fence} {n : Nat} {P : Program} {fn : Func} {tmps : Array Value} {R : Ending → World → Prop} {n0 : Nat} : ∀ (ds : List Deferred) (w : World), Tryz.Marks ds w → (∀ r, { target := .collected r, args := #[] } ∈ ds → n0 ≤ r) →
    (∀ w', Tryz.CellsAs n0 w w' → LeavesIn F n P fn tmps R [] .returning w') → LeavesInM F n P fn tmps R ds .returning w
  | [], w, _, _, h => h w ⟨Below.refl _ _, fun _ _ _ _ h => h⟩
  | d :: ds, w, hm, hn, h => by
    obtain ⟨⟨r, rfl, h1, h2⟩, h3⟩ := hm
    refine ⟨by simp, .inl ⟨r, _, rfl, run_takeDeferred h1, ?_⟩⟩
    have hoth : ∀ k, k ≠ r → (w.putObj r (.deferred none)).heap[k]? = w.heap[k]? := fun k hk => World.putObj_heap_other hk
    have hnr := hn r (by simp)
    have hlt := (Array.getElem?_eq_some_iff.1 h1).1
    have hbel : Below n0 w (w.putObj r (.deferred none)) := (Below.refl n0 w).grown (grownBy_putObj' w r _) (by omega) (fun k e => by cases e; exact hnr)
    refine Tryz.leaves_marks ds _ (h3.mono fun r' hr' hx => by rw [hoth r' fun e => h2 _ hr' (by rw [e])]; exact hx) (fun r' hr' => hn r' (List.mem_cons_of_mem _ hr')) fun w' hw' => h w' ⟨hbel.trans hw'.below, fun k c t f hk => hw'.cells k c t f ?_⟩
    by_cases e : k = r
    · subst e; rw [h1] at hk; cases hk
    · rw [hoth k e]; exact hk
end Go.Proofs
