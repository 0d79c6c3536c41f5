/- Part 22 of the proof. -/
import Derived.Test.YtnmkgbomiillgaaGreatDoorP19
import Derived.Test.YtnmkgbomiillgaaGreatDoorP18
/- sql.valueErr. -/
namespace Go.Proofs
open Go.RowKit
theorem Tryz.firstF_congr {a b c a' b' c' : Int} (h1 : a = a') (h2 : b = b') (h3 : c = c') : Ending.returned (Value.int .i64 (Tryz.firstF [a, b, c])) = Ending.returned (Value.int .i64 (Tryz.firstF [a', b', c'])) := by rw [h1, h2, h3]
theorem Tryz.orZero_congr {a b : Bool} {k : Int} (h : a = b) : Tryz.orZero a k = Tryz.orZero b k := by rw [h]
theorem Tryz.big_eq (T : ByteArray) : decide ((256 : Int) < (T.size : Int)) = decide (256 < T.size) := by
  apply decide_eq_decide.2; omega
set_option maxRecDepth 100000 in
set_option maxHeartbeats 4000000 in
theorem Tryz.valueErr28a1 (N S : Int) (T : ByteArray) (ho : Tryz.numOk N S = false) (hT : T.toList.isEmpty = true) (hL : T.size ≤ 300) (w : World) :
    Calls Tryz.prog 28 #[.agg #[.int .i64 1, .int .i64 N, .int .i64 S, .string T]] w fun e w' =>
      e = .returned (.int .i64 (Tryz.firstF [Tryz.orZero true 3, Tryz.orZero (decide (256 < T.size)) 2, Tryz.orZero (Lib.hasSuffix T.data.toList [32]) 5])) ∧ Tryz.Ext w w' := by
  have H57 := Lib.hid (fun w => Tryz.suffix57 T ⟨#[32]⟩ w (by omega))
  have H19 := Lib.hid (fun b k w => Tryz.cond19 b k w)
  have H27 := Lib.hid (fun l b w h => Tryz.first27 l b 3 w h)
  have H48 := Lib.hid (fun w => Tryz.check48 N S w)
  rw [ho, show Tryz.orZero (!false) 3 = 3 from rfl] at H48
  go_enter Tryz.func28, Tryz.ntmps28
  go_wp2_with (go_at_call 48; refine (H48.out _).mono ?_; rintro e w1 ⟨rfl, hx⟩
               have b0 := (hx.old w.heap.size (by simp)).trans (Tryz.bnew _ _)
               have f0 := Tryz.bcell (j := 0) b0 rfl; have f1 := Tryz.bcell (j := 1) b0 rfl; have f2 := Tryz.bcell (j := 2) b0 rfl; have f3 := Tryz.bcell (j := 3) b0 rfl
               have HB := Lib.hid b0; have HX := Lib.hid ((Tryz.alloc_ext (.refl w) _).trans hx); clear b0 hx)
  have k0 := HB.out
  have kE := HX.out
  clear f0 f1 f2 f3 HB HX
  obtain ⟨p, hpW, hpO⟩ := Tryz.hideP fun w' => w'.heap[w.heap.size]? = some (Obj.cells #[Value.int IntKind.i64 1, Value.int IntKind.i64 N, Value.int IntKind.i64 S, Value.string T] 35)
  haveI : Nonempty (Tryz.InC p) := ⟨⟨w1, hpW w1 k0⟩⟩
  have c3 : ∀ x : Tryz.InC p, x.w.cell? ⟨w.heap.size, 3, none⟩ = some (.string T) := fun x => Tryz.bcell (j := 3) (hpO _ x.h) rfl
  have HPW := Lib.hid hpW
  clear hpW hpO
  refine Tryz.region_order (C := fun w' => ∃ x : Tryz.InC p, w' = x.w)
    [(true, 0), (true, 2), (true, 3), (true, 4), (true, 5), (true, 7), (false, 1), (false, 6), (false, 8), (false, 9), (false, 10), (false, 11), (false, 12), (false, 13), (false, 14), (false, 15), (false, 16)] (by kernel_rfl) (by kernel_rfl) ⟨⟨{ w1 with drawn := w1.drawn + 1 }, HPW.out _ k0⟩, rfl⟩ ?_
  simp only [Tryz.picks, List.filterMap_cons, List.filterMap_nil, List.getElem?_cons_succ, List.getElem?_cons_zero, Option.map_some]
  iterate 6 (refine Tryz.mix_calm (fun K hK => ?_); unfold Tryz.calm; go_simp; refine hK _ ?_; clear hK K)
  have kE2 := kE.trans (Tryz.drew_ext w1)
  have q0 : w1.drew.heap[w.heap.size]? = _ := k0
  clear kE k0
  refine Tryz.mix_step (by kernel_rfl) (fun K hK => ?_)
  go_simp
  refine (H19.out _ _ _).mono ?_
  rintro e w' ⟨rfl, rfl⟩
  refine hK _ _ ⟨⟨_, HPW.out _ q0⟩, rfl⟩ ?_
  clear hK K
  refine Tryz.mix_step (by kernel_rfl) (fun K hK => ?_)
  go_simp
  refine (H19.out _ _ _).mono ?_
  rintro e w' ⟨rfl, rfl⟩
  refine hK _ _ ⟨⟨_, HPW.out _ q0⟩, rfl⟩ ?_
  clear hK K
  generalize w1.drew = w' at q0 kE2 ⊢
  refine Tryz.mix_step (by kernel_rfl) (fun K hK => ?_)
  go_simp
  refine hK _ _ ⟨⟨w', HPW.out _ q0⟩, rfl⟩ ?_
  clear hK K
  refine Tryz.mix_step (by kernel_rfl) (fun K hK => ?_)
  go_simp
  refine hK _ _ ⟨⟨w', HPW.out _ q0⟩, rfl⟩ ?_
  clear hK K
  have f3 := Tryz.bcell (j := 3) q0 rfl
  refine Tryz.mix_step (by kernel_rfl) (fun K hK => ?_)
  go_simp
  refine hK _ _ ⟨⟨w', HPW.out _ q0⟩, rfl⟩ ?_
  clear hK K f3
  refine Tryz.mix_step (by kernel_rfl) (fun K hK => ?_)
  go_simp
  refine (H57.out _).mono ?_
  rintro e w' ⟨rfl, rfl⟩
  refine hK _ _ ⟨⟨w', HPW.out _ q0⟩, rfl⟩ ?_
  clear hK K
  refine Tryz.mix_step (by kernel_rfl) (fun K hK => ?_)
  go_simp
  refine hK _ _ ⟨⟨w', HPW.out _ q0⟩, rfl⟩ ?_
  clear hK K
  refine Tryz.mix_step (by kernel_rfl) (fun K hK => ?_)
  go_simp
  refine (H19.out _ _ _).mono ?_
  rintro e w' ⟨rfl, rfl⟩
  refine hK _ _ ⟨⟨w', HPW.out _ q0⟩, rfl⟩ ?_
  clear hK K
  refine Tryz.mix_step (by kernel_rfl) (fun K hK => ?_)
  go_simp
  rw [Tryz.big_eq]
  obtain ⟨w3, hw3⟩ : ∃ w3, w3 = w'.alloc (Obj.cells #[Value.int IntKind.i64 (Tryz.orZero true 3), Value.int IntKind.i64 (Tryz.orZero (decide (256 < T.size)) 2), Value.int IntKind.i64 (Tryz.orZero (Lib.hasSuffix T.data.toList [32]) 5)] 25) := ⟨_, rfl⟩
  change K _ (w'.alloc (Obj.cells #[Value.int IntKind.i64 (Tryz.orZero true 3), Value.int IntKind.i64 (Tryz.orZero (decide (256 < T.size)) 2), Value.int IntKind.i64 (Tryz.orZero (Lib.hasSuffix T.data.toList [32]) 5)] 25))
  have r0 := Tryz.alloc_old q0 (Obj.cells #[Value.int IntKind.i64 (Tryz.orZero true 3), Value.int IntKind.i64 (Tryz.orZero (decide (256 < T.size)) 2), Value.int IntKind.i64 (Tryz.orZero (Lib.hasSuffix T.data.toList [32]) 5)] 25)
  rw [← hw3] at r0 ⊢
  have r2 : w3.heap[w'.heap.size]? = some (.cells (Tryz.i64c [Tryz.orZero true 3, Tryz.orZero (decide (256 < T.size)) 2, Tryz.orZero (Lib.hasSuffix T.data.toList [32]) 5]) 25) := by rw [hw3]; exact Tryz.bnew _ _
  have hE3 : Tryz.Ext w w3 := by rw [hw3]; exact Tryz.alloc_ext kE2 _
  clear hw3
  refine hK _ _ ⟨⟨w3, HPW.out _ r0⟩, rfl⟩ ?_
  clear hK K
  refine Tryz.mix_step (by kernel_rfl) (fun K hK => ?_)
  go_simp
  refine (H27.out _ _ _ (by simp) fun i x hi => Tryz.bcell r2 (Tryz.i64c_get hi)).mono ?_
  rintro e w5 ⟨rfl, rfl⟩
  refine hK _ _ ⟨⟨_, HPW.out _ r0⟩, rfl⟩ ?_
  clear hK K
  refine Tryz.mix_step (by kernel_rfl) (fun K hK => ?_)
  go_simp
  refine hK _ _ ⟨⟨_, HPW.out _ r0⟩, rfl⟩ ?_
  refine Tryz.mix_nil ?_
  have HE := Lib.hid hE3
  clear hK K c3 this q0 kE2 r0 r2 HPW hE3
  go_wp2
  go_ret
  exact ⟨rfl, HE.out⟩
set_option maxRecDepth 100000 in
set_option maxHeartbeats 4000000 in
theorem Tryz.valueErr28a2 (N S : Int) (T : ByteArray) (ho : Tryz.numOk N S = false) (hT : T.toList.isEmpty = false) (hL : T.size ≤ 300) (w : World) :
    Calls Tryz.prog 28 #[.agg #[.int .i64 1, .int .i64 N, .int .i64 S, .string T]] w fun e w' =>
      e = .returned (.int .i64 (Tryz.firstF [Tryz.orZero true 3, Tryz.orZero (decide (256 < T.size)) 2, Tryz.orZero true 5])) ∧ Tryz.Ext w w' := by
  have H57 := Lib.hid (fun w => Tryz.suffix57 T ⟨#[32]⟩ w (by omega))
  have H19 := Lib.hid (fun b k w => Tryz.cond19 b k w)
  have H27 := Lib.hid (fun l b w h => Tryz.first27 l b 3 w h)
  have H48 := Lib.hid (fun w => Tryz.check48 N S w)
  rw [ho, show Tryz.orZero (!false) 3 = 3 from rfl] at H48
  go_enter Tryz.func28, Tryz.ntmps28
  go_wp2_with (go_at_call 48; refine (H48.out _).mono ?_; rintro e w1 ⟨rfl, hx⟩
               have b0 := (hx.old w.heap.size (by simp)).trans (Tryz.bnew _ _)
               have f0 := Tryz.bcell (j := 0) b0 rfl; have f1 := Tryz.bcell (j := 1) b0 rfl; have f2 := Tryz.bcell (j := 2) b0 rfl; have f3 := Tryz.bcell (j := 3) b0 rfl
               have HB := Lib.hid b0; have HX := Lib.hid ((Tryz.alloc_ext (.refl w) _).trans hx); clear b0 hx)
  have k0 := HB.out
  have kE := HX.out
  clear f0 f1 f2 f3 HB HX
  obtain ⟨p, hpW, hpO⟩ := Tryz.hideP fun w' => w'.heap[w.heap.size]? = some (Obj.cells #[Value.int IntKind.i64 1, Value.int IntKind.i64 N, Value.int IntKind.i64 S, Value.string T] 35)
  haveI : Nonempty (Tryz.InC p) := ⟨⟨w1, hpW w1 k0⟩⟩
  have c3 : ∀ x : Tryz.InC p, x.w.cell? ⟨w.heap.size, 3, none⟩ = some (.string T) := fun x => Tryz.bcell (j := 3) (hpO _ x.h) rfl
  have HPW := Lib.hid hpW
  clear hpW hpO
  refine Tryz.region_order (C := fun w' => ∃ x : Tryz.InC p, w' = x.w)
    [(true, 0), (true, 2), (true, 3), (true, 4), (true, 5), (true, 7), (false, 1), (false, 6), (false, 8), (false, 9), (false, 10), (false, 11), (false, 12), (false, 13), (false, 14), (false, 15), (false, 16)] (by kernel_rfl) (by kernel_rfl) ⟨⟨{ w1 with drawn := w1.drawn + 1 }, HPW.out _ k0⟩, rfl⟩ ?_
  simp only [Tryz.picks, List.filterMap_cons, List.filterMap_nil, List.getElem?_cons_succ, List.getElem?_cons_zero, Option.map_some]
  iterate 6 (refine Tryz.mix_calm (fun K hK => ?_); unfold Tryz.calm; go_simp; refine hK _ ?_; clear hK K)
  have kE2 := kE.trans (Tryz.drew_ext w1)
  have q0 : w1.drew.heap[w.heap.size]? = _ := k0
  clear kE k0
  refine Tryz.mix_step (by kernel_rfl) (fun K hK => ?_)
  go_simp
  refine (H19.out _ _ _).mono ?_
  rintro e w' ⟨rfl, rfl⟩
  refine hK _ _ ⟨⟨_, HPW.out _ q0⟩, rfl⟩ ?_
  clear hK K
  refine Tryz.mix_step (by kernel_rfl) (fun K hK => ?_)
  go_simp
  refine (H19.out _ _ _).mono ?_
  rintro e w' ⟨rfl, rfl⟩
  refine hK _ _ ⟨⟨_, HPW.out _ q0⟩, rfl⟩ ?_
  clear hK K
  generalize w1.drew = w' at q0 kE2 ⊢
  refine Tryz.mix_step (by kernel_rfl) (fun K hK => ?_)
  go_simp
  refine hK _ _ ⟨⟨w', HPW.out _ q0⟩, rfl⟩ ?_
  clear hK K
  iterate 3 (refine Tryz.mix_skip (by kernel_rfl) ?_; go_simp)
  refine Tryz.mix_step (by kernel_rfl) (fun K hK => ?_)
  go_simp
  refine hK _ _ ⟨⟨w', HPW.out _ q0⟩, rfl⟩ ?_
  clear hK K
  refine Tryz.mix_step (by kernel_rfl) (fun K hK => ?_)
  go_simp
  refine (H19.out _ _ _).mono ?_
  rintro e w' ⟨rfl, rfl⟩
  refine hK _ _ ⟨⟨w', HPW.out _ q0⟩, rfl⟩ ?_
  clear hK K
  refine Tryz.mix_step (by kernel_rfl) (fun K hK => ?_)
  go_simp
  rw [Tryz.big_eq]
  obtain ⟨w3, hw3⟩ : ∃ w3, w3 = w'.alloc (Obj.cells #[Value.int IntKind.i64 (Tryz.orZero true 3), Value.int IntKind.i64 (Tryz.orZero (decide (256 < T.size)) 2), Value.int IntKind.i64 (Tryz.orZero (true) 5)] 25) := ⟨_, rfl⟩
  change K _ (w'.alloc (Obj.cells #[Value.int IntKind.i64 (Tryz.orZero true 3), Value.int IntKind.i64 (Tryz.orZero (decide (256 < T.size)) 2), Value.int IntKind.i64 (Tryz.orZero (true) 5)] 25))
  have r0 := Tryz.alloc_old q0 (Obj.cells #[Value.int IntKind.i64 (Tryz.orZero true 3), Value.int IntKind.i64 (Tryz.orZero (decide (256 < T.size)) 2), Value.int IntKind.i64 (Tryz.orZero (true) 5)] 25)
  rw [← hw3] at r0 ⊢
  have r2 : w3.heap[w'.heap.size]? = some (.cells (Tryz.i64c [Tryz.orZero true 3, Tryz.orZero (decide (256 < T.size)) 2, Tryz.orZero (true) 5]) 25) := by rw [hw3]; exact Tryz.bnew _ _
  have hE3 : Tryz.Ext w w3 := by rw [hw3]; exact Tryz.alloc_ext kE2 _
  clear hw3
  refine hK _ _ ⟨⟨w3, HPW.out _ r0⟩, rfl⟩ ?_
  clear hK K
  refine Tryz.mix_step (by kernel_rfl) (fun K hK => ?_)
  go_simp
  refine (H27.out _ _ _ (by simp) fun i x hi => Tryz.bcell r2 (Tryz.i64c_get hi)).mono ?_
  rintro e w5 ⟨rfl, rfl⟩
  refine hK _ _ ⟨⟨_, HPW.out _ r0⟩, rfl⟩ ?_
  clear hK K
  refine Tryz.mix_step (by kernel_rfl) (fun K hK => ?_)
  go_simp
  refine hK _ _ ⟨⟨_, HPW.out _ r0⟩, rfl⟩ ?_
  refine Tryz.mix_nil ?_
  have HE := Lib.hid hE3
  clear hK K c3 this q0 kE2 r0 r2 HPW hE3
  go_wp2
  go_ret
  exact ⟨rfl, HE.out⟩
set_option maxRecDepth 100000 in
set_option maxHeartbeats 4000000 in
theorem Tryz.valueErr28b1 (N S : Int) (T : ByteArray) (ho : Tryz.numOk N S = true) (hs : ¬ 0 < S) (hT : T.toList.isEmpty = true) (hL : T.size ≤ 300) (w : World) :
    Calls Tryz.prog 28 #[.agg #[.int .i64 1, .int .i64 N, .int .i64 S, .string T]] w fun e w' =>
      e = .returned (.int .i64 (Tryz.firstF [Tryz.orZero false 3, Tryz.orZero (decide (256 < T.size)) 2, Tryz.orZero (Lib.hasSuffix T.data.toList [32]) 5])) ∧ Tryz.Ext w w' := by
  have H57 := Lib.hid (fun w => Tryz.suffix57 T ⟨#[32]⟩ w (by omega))
  have H19 := Lib.hid (fun b k w => Tryz.cond19 b k w)
  have H27 := Lib.hid (fun l b w h => Tryz.first27 l b 3 w h)
  have H48 := Lib.hid (fun w => Tryz.check48 N S w)
  rw [ho, show Tryz.orZero (!true) 3 = 0 from rfl] at H48
  go_enter Tryz.func28, Tryz.ntmps28
  go_wp2_with (go_at_call 48; refine (H48.out _).mono ?_; rintro e w1 ⟨rfl, hx⟩
               have b0 := (hx.old w.heap.size (by simp)).trans (Tryz.bnew _ _)
               have f0 := Tryz.bcell (j := 0) b0 rfl; have f1 := Tryz.bcell (j := 1) b0 rfl; have f2 := Tryz.bcell (j := 2) b0 rfl; have f3 := Tryz.bcell (j := 3) b0 rfl
               have HB := Lib.hid b0; have HX := Lib.hid ((Tryz.alloc_ext (.refl w) _).trans hx); clear b0 hx)
  have k0 := HB.out
  have kE := HX.out
  clear f0 f1 f2 f3 HB HX
  obtain ⟨p, hpW, hpO⟩ := Tryz.hideP fun w' => w'.heap[w.heap.size]? = some (Obj.cells #[Value.int IntKind.i64 1, Value.int IntKind.i64 N, Value.int IntKind.i64 S, Value.string T] 35)
  haveI : Nonempty (Tryz.InC p) := ⟨⟨w1, hpW w1 k0⟩⟩
  have c3 : ∀ x : Tryz.InC p, x.w.cell? ⟨w.heap.size, 3, none⟩ = some (.string T) := fun x => Tryz.bcell (j := 3) (hpO _ x.h) rfl
  have HPW := Lib.hid hpW
  clear hpW hpO
  refine Tryz.region_order (C := fun w' => ∃ x : Tryz.InC p, w' = x.w)
    [(true, 0), (true, 2), (true, 3), (true, 4), (true, 5), (true, 7), (false, 1), (false, 6), (false, 8), (false, 9), (false, 10), (false, 11), (false, 12), (false, 13), (false, 14), (false, 15), (false, 16)] (by kernel_rfl) (by kernel_rfl) ⟨⟨{ w1 with drawn := w1.drawn + 1 }, HPW.out _ k0⟩, rfl⟩ ?_
  simp only [Tryz.picks, List.filterMap_cons, List.filterMap_nil, List.getElem?_cons_succ, List.getElem?_cons_zero, Option.map_some]
  iterate 6 (refine Tryz.mix_calm (fun K hK => ?_); unfold Tryz.calm; go_simp; refine hK _ ?_; clear hK K)
  have kE2 := kE.trans (Tryz.drew_ext w1)
  have q0 : w1.drew.heap[w.heap.size]? = _ := k0
  clear kE k0
  refine Tryz.mix_step (by kernel_rfl) (fun K hK => ?_)
  go_simp
  refine (H19.out _ _ _).mono ?_
  rintro e w' ⟨rfl, rfl⟩
  refine hK _ _ ⟨⟨_, HPW.out _ q0⟩, rfl⟩ ?_
  clear hK K
  refine Tryz.mix_step (by kernel_rfl) (fun K hK => ?_)
  go_simp
  refine (H19.out _ _ _).mono ?_
  rintro e w' ⟨rfl, rfl⟩
  refine hK _ _ ⟨⟨_, HPW.out _ q0⟩, rfl⟩ ?_
  clear hK K
  generalize w1.drew = w' at q0 kE2 ⊢
  refine Tryz.mix_step (by kernel_rfl) (fun K hK => ?_)
  go_simp
  refine hK _ _ ⟨⟨w', HPW.out _ q0⟩, rfl⟩ ?_
  clear hK K
  refine Tryz.mix_step (by kernel_rfl) (fun K hK => ?_)
  go_simp
  refine hK _ _ ⟨⟨w', HPW.out _ q0⟩, rfl⟩ ?_
  clear hK K
  have f3 := Tryz.bcell (j := 3) q0 rfl
  refine Tryz.mix_step (by kernel_rfl) (fun K hK => ?_)
  go_simp
  refine hK _ _ ⟨⟨w', HPW.out _ q0⟩, rfl⟩ ?_
  clear hK K f3
  refine Tryz.mix_step (by kernel_rfl) (fun K hK => ?_)
  go_simp
  refine (H57.out _).mono ?_
  rintro e w' ⟨rfl, rfl⟩
  refine hK _ _ ⟨⟨w', HPW.out _ q0⟩, rfl⟩ ?_
  clear hK K
  refine Tryz.mix_step (by kernel_rfl) (fun K hK => ?_)
  go_simp
  refine hK _ _ ⟨⟨w', HPW.out _ q0⟩, rfl⟩ ?_
  clear hK K
  refine Tryz.mix_step (by kernel_rfl) (fun K hK => ?_)
  go_simp
  refine (H19.out _ _ _).mono ?_
  rintro e w' ⟨rfl, rfl⟩
  refine hK _ _ ⟨⟨w', HPW.out _ q0⟩, rfl⟩ ?_
  clear hK K
  refine Tryz.mix_step (by kernel_rfl) (fun K hK => ?_)
  go_simp
  rw [Tryz.big_eq]
  obtain ⟨w3, hw3⟩ : ∃ w3, w3 = w'.alloc (Obj.cells #[Value.int IntKind.i64 (Tryz.orZero false 3), Value.int IntKind.i64 (Tryz.orZero (decide (256 < T.size)) 2), Value.int IntKind.i64 (Tryz.orZero (Lib.hasSuffix T.data.toList [32]) 5)] 25) := ⟨_, rfl⟩
  change K _ (w'.alloc (Obj.cells #[Value.int IntKind.i64 (Tryz.orZero false 3), Value.int IntKind.i64 (Tryz.orZero (decide (256 < T.size)) 2), Value.int IntKind.i64 (Tryz.orZero (Lib.hasSuffix T.data.toList [32]) 5)] 25))
  have r0 := Tryz.alloc_old q0 (Obj.cells #[Value.int IntKind.i64 (Tryz.orZero false 3), Value.int IntKind.i64 (Tryz.orZero (decide (256 < T.size)) 2), Value.int IntKind.i64 (Tryz.orZero (Lib.hasSuffix T.data.toList [32]) 5)] 25)
  rw [← hw3] at r0 ⊢
  have r2 : w3.heap[w'.heap.size]? = some (.cells (Tryz.i64c [Tryz.orZero false 3, Tryz.orZero (decide (256 < T.size)) 2, Tryz.orZero (Lib.hasSuffix T.data.toList [32]) 5]) 25) := by rw [hw3]; exact Tryz.bnew _ _
  have hE3 : Tryz.Ext w w3 := by rw [hw3]; exact Tryz.alloc_ext kE2 _
  clear hw3
  refine hK _ _ ⟨⟨w3, HPW.out _ r0⟩, rfl⟩ ?_
  clear hK K
  refine Tryz.mix_step (by kernel_rfl) (fun K hK => ?_)
  go_simp
  refine (H27.out _ _ _ (by simp) fun i x hi => Tryz.bcell r2 (Tryz.i64c_get hi)).mono ?_
  rintro e w5 ⟨rfl, rfl⟩
  refine hK _ _ ⟨⟨_, HPW.out _ r0⟩, rfl⟩ ?_
  clear hK K
  refine Tryz.mix_step (by kernel_rfl) (fun K hK => ?_)
  go_simp
  refine hK _ _ ⟨⟨_, HPW.out _ r0⟩, rfl⟩ ?_
  refine Tryz.mix_nil ?_
  have HE := Lib.hid hE3
  clear hK K c3 this q0 kE2 r0 r2 HPW hE3
  go_wp2
  go_ret
  exact ⟨rfl, HE.out⟩
set_option maxRecDepth 100000 in
set_option maxHeartbeats 4000000 in
theorem Tryz.valueErr28b2 (N S : Int) (T : ByteArray) (ho : Tryz.numOk N S = true) (hs : ¬ 0 < S) (hT : T.toList.isEmpty = false) (hL : T.size ≤ 300) (w : World) :
    Calls Tryz.prog 28 #[.agg #[.int .i64 1, .int .i64 N, .int .i64 S, .string T]] w fun e w' =>
      e = .returned (.int .i64 (Tryz.firstF [Tryz.orZero false 3, Tryz.orZero (decide (256 < T.size)) 2, Tryz.orZero true 5])) ∧ Tryz.Ext w w' := by
  have H57 := Lib.hid (fun w => Tryz.suffix57 T ⟨#[32]⟩ w (by omega))
  have H19 := Lib.hid (fun b k w => Tryz.cond19 b k w)
  have H27 := Lib.hid (fun l b w h => Tryz.first27 l b 3 w h)
  have H48 := Lib.hid (fun w => Tryz.check48 N S w)
  rw [ho, show Tryz.orZero (!true) 3 = 0 from rfl] at H48
  go_enter Tryz.func28, Tryz.ntmps28
  go_wp2_with (go_at_call 48; refine (H48.out _).mono ?_; rintro e w1 ⟨rfl, hx⟩
               have b0 := (hx.old w.heap.size (by simp)).trans (Tryz.bnew _ _)
               have f0 := Tryz.bcell (j := 0) b0 rfl; have f1 := Tryz.bcell (j := 1) b0 rfl; have f2 := Tryz.bcell (j := 2) b0 rfl; have f3 := Tryz.bcell (j := 3) b0 rfl
               have HB := Lib.hid b0; have HX := Lib.hid ((Tryz.alloc_ext (.refl w) _).trans hx); clear b0 hx)
  have k0 := HB.out
  have kE := HX.out
  clear f0 f1 f2 f3 HB HX
  obtain ⟨p, hpW, hpO⟩ := Tryz.hideP fun w' => w'.heap[w.heap.size]? = some (Obj.cells #[Value.int IntKind.i64 1, Value.int IntKind.i64 N, Value.int IntKind.i64 S, Value.string T] 35)
  haveI : Nonempty (Tryz.InC p) := ⟨⟨w1, hpW w1 k0⟩⟩
  have c3 : ∀ x : Tryz.InC p, x.w.cell? ⟨w.heap.size, 3, none⟩ = some (.string T) := fun x => Tryz.bcell (j := 3) (hpO _ x.h) rfl
  have HPW := Lib.hid hpW
  clear hpW hpO
  refine Tryz.region_order (C := fun w' => ∃ x : Tryz.InC p, w' = x.w)
    [(true, 0), (true, 2), (true, 3), (true, 4), (true, 5), (true, 7), (false, 1), (false, 6), (false, 8), (false, 9), (false, 10), (false, 11), (false, 12), (false, 13), (false, 14), (false, 15), (false, 16)] (by kernel_rfl) (by kernel_rfl) ⟨⟨{ w1 with drawn := w1.drawn + 1 }, HPW.out _ k0⟩, rfl⟩ ?_
  simp only [Tryz.picks, List.filterMap_cons, List.filterMap_nil, List.getElem?_cons_succ, List.getElem?_cons_zero, Option.map_some]
  iterate 6 (refine Tryz.mix_calm (fun K hK => ?_); unfold Tryz.calm; go_simp; refine hK _ ?_; clear hK K)
  have kE2 := kE.trans (Tryz.drew_ext w1)
  have q0 : w1.drew.heap[w.heap.size]? = _ := k0
  clear kE k0
  refine Tryz.mix_step (by kernel_rfl) (fun K hK => ?_)
  go_simp
  refine (H19.out _ _ _).mono ?_
  rintro e w' ⟨rfl, rfl⟩
  refine hK _ _ ⟨⟨_, HPW.out _ q0⟩, rfl⟩ ?_
  clear hK K
  refine Tryz.mix_step (by kernel_rfl) (fun K hK => ?_)
  go_simp
  refine (H19.out _ _ _).mono ?_
  rintro e w' ⟨rfl, rfl⟩
  refine hK _ _ ⟨⟨_, HPW.out _ q0⟩, rfl⟩ ?_
  clear hK K
  generalize w1.drew = w' at q0 kE2 ⊢
  refine Tryz.mix_step (by kernel_rfl) (fun K hK => ?_)
  go_simp
  refine hK _ _ ⟨⟨w', HPW.out _ q0⟩, rfl⟩ ?_
  clear hK K
  iterate 3 (refine Tryz.mix_skip (by kernel_rfl) ?_; go_simp)
  refine Tryz.mix_step (by kernel_rfl) (fun K hK => ?_)
  go_simp
  refine hK _ _ ⟨⟨w', HPW.out _ q0⟩, rfl⟩ ?_
  clear hK K
  refine Tryz.mix_step (by kernel_rfl) (fun K hK => ?_)
  go_simp
  refine (H19.out _ _ _).mono ?_
  rintro e w' ⟨rfl, rfl⟩
  refine hK _ _ ⟨⟨w', HPW.out _ q0⟩, rfl⟩ ?_
  clear hK K
  refine Tryz.mix_step (by kernel_rfl) (fun K hK => ?_)
  go_simp
  rw [Tryz.big_eq]
  obtain ⟨w3, hw3⟩ : ∃ w3, w3 = w'.alloc (Obj.cells #[Value.int IntKind.i64 (Tryz.orZero false 3), Value.int IntKind.i64 (Tryz.orZero (decide (256 < T.size)) 2), Value.int IntKind.i64 (Tryz.orZero (true) 5)] 25) := ⟨_, rfl⟩
  change K _ (w'.alloc (Obj.cells #[Value.int IntKind.i64 (Tryz.orZero false 3), Value.int IntKind.i64 (Tryz.orZero (decide (256 < T.size)) 2), Value.int IntKind.i64 (Tryz.orZero (true) 5)] 25))
  have r0 := Tryz.alloc_old q0 (Obj.cells #[Value.int IntKind.i64 (Tryz.orZero false 3), Value.int IntKind.i64 (Tryz.orZero (decide (256 < T.size)) 2), Value.int IntKind.i64 (Tryz.orZero (true) 5)] 25)
  rw [← hw3] at r0 ⊢
  have r2 : w3.heap[w'.heap.size]? = some (.cells (Tryz.i64c [Tryz.orZero false 3, Tryz.orZero (decide (256 < T.size)) 2, Tryz.orZero (true) 5]) 25) := by rw [hw3]; exact Tryz.bnew _ _
  have hE3 : Tryz.Ext w w3 := by rw [hw3]; exact Tryz.alloc_ext kE2 _
  clear hw3
  refine hK _ _ ⟨⟨w3, HPW.out _ r0⟩, rfl⟩ ?_
  clear hK K
  refine Tryz.mix_step (by kernel_rfl) (fun K hK => ?_)
  go_simp
  refine (H27.out _ _ _ (by simp) fun i x hi => Tryz.bcell r2 (Tryz.i64c_get hi)).mono ?_
  rintro e w5 ⟨rfl, rfl⟩
  refine hK _ _ ⟨⟨_, HPW.out _ r0⟩, rfl⟩ ?_
  clear hK K
  refine Tryz.mix_step (by kernel_rfl) (fun K hK => ?_)
  go_simp
  refine hK _ _ ⟨⟨_, HPW.out _ r0⟩, rfl⟩ ?_
  refine Tryz.mix_nil ?_
  have HE := Lib.hid hE3
  clear hK K c3 this q0 kE2 r0 r2 HPW hE3
  go_wp2
  go_ret
  exact ⟨rfl, HE.out⟩
set_option maxRecDepth 100000 in
set_option maxHeartbeats 4000000 in
theorem Tryz.valueErr28c1 (N S : Int) (T : ByteArray) (ho : Tryz.numOk N S = true) (hs : 0 < S) (hm : N.tmod 10 = 0) (hT : T.toList.isEmpty = true) (hL : T.size ≤ 300) (w : World) :
    Calls Tryz.prog 28 #[.agg #[.int .i64 1, .int .i64 N, .int .i64 S, .string T]] w fun e w' =>
      e = .returned (.int .i64 (Tryz.firstF [Tryz.orZero true 3, Tryz.orZero (decide (256 < T.size)) 2, Tryz.orZero (Lib.hasSuffix T.data.toList [32]) 5])) ∧ Tryz.Ext w w' := by
  have H57 := Lib.hid (fun w => Tryz.suffix57 T ⟨#[32]⟩ w (by omega))
  have H19 := Lib.hid (fun b k w => Tryz.cond19 b k w)
  have H27 := Lib.hid (fun l b w h => Tryz.first27 l b 3 w h)
  have H48 := Lib.hid (fun w => Tryz.check48 N S w)
  rw [ho, show Tryz.orZero (!true) 3 = 0 from rfl] at H48
  go_enter Tryz.func28, Tryz.ntmps28
  go_wp2_with (go_at_call 48; refine (H48.out _).mono ?_; rintro e w1 ⟨rfl, hx⟩
               have b0 := (hx.old w.heap.size (by simp)).trans (Tryz.bnew _ _)
               have f0 := Tryz.bcell (j := 0) b0 rfl; have f1 := Tryz.bcell (j := 1) b0 rfl; have f2 := Tryz.bcell (j := 2) b0 rfl; have f3 := Tryz.bcell (j := 3) b0 rfl
               have HB := Lib.hid b0; have HX := Lib.hid ((Tryz.alloc_ext (.refl w) _).trans hx); clear b0 hx)
  have k0 := HB.out
  have kE := HX.out
  clear f0 f1 f2 f3 HB HX
  obtain ⟨p, hpW, hpO⟩ := Tryz.hideP fun w' => w'.heap[w.heap.size]? = some (Obj.cells #[Value.int IntKind.i64 1, Value.int IntKind.i64 N, Value.int IntKind.i64 S, Value.string T] 35)
  haveI : Nonempty (Tryz.InC p) := ⟨⟨w1, hpW w1 k0⟩⟩
  have c3 : ∀ x : Tryz.InC p, x.w.cell? ⟨w.heap.size, 3, none⟩ = some (.string T) := fun x => Tryz.bcell (j := 3) (hpO _ x.h) rfl
  have HPW := Lib.hid hpW
  clear hpW hpO
  refine Tryz.region_order (C := fun w' => ∃ x : Tryz.InC p, w' = x.w)
    [(true, 0), (true, 2), (true, 3), (true, 4), (true, 5), (true, 7), (false, 1), (false, 6), (false, 8), (false, 9), (false, 10), (false, 11), (false, 12), (false, 13), (false, 14), (false, 15), (false, 16)] (by kernel_rfl) (by kernel_rfl) ⟨⟨{ w1 with drawn := w1.drawn + 1 }, HPW.out _ k0⟩, rfl⟩ ?_
  simp only [Tryz.picks, List.filterMap_cons, List.filterMap_nil, List.getElem?_cons_succ, List.getElem?_cons_zero, Option.map_some]
  iterate 6 (refine Tryz.mix_calm (fun K hK => ?_); unfold Tryz.calm; go_simp; refine hK _ ?_; clear hK K)
  have kE2 := kE.trans (Tryz.drew_ext w1)
  have q0 : w1.drew.heap[w.heap.size]? = _ := k0
  clear kE k0
  refine Tryz.mix_step (by kernel_rfl) (fun K hK => ?_)
  go_simp
  refine (H19.out _ _ _).mono ?_
  rintro e w' ⟨rfl, rfl⟩
  refine hK _ _ ⟨⟨_, HPW.out _ q0⟩, rfl⟩ ?_
  clear hK K
  refine Tryz.mix_step (by kernel_rfl) (fun K hK => ?_)
  go_simp
  refine (H19.out _ _ _).mono ?_
  rintro e w' ⟨rfl, rfl⟩
  refine hK _ _ ⟨⟨_, HPW.out _ q0⟩, rfl⟩ ?_
  clear hK K
  generalize w1.drew = w' at q0 kE2 ⊢
  refine Tryz.mix_step (by kernel_rfl) (fun K hK => ?_)
  go_simp
  refine hK _ _ ⟨⟨w', HPW.out _ q0⟩, rfl⟩ ?_
  clear hK K
  refine Tryz.mix_step (by kernel_rfl) (fun K hK => ?_)
  go_simp
  refine hK _ _ ⟨⟨w', HPW.out _ q0⟩, rfl⟩ ?_
  clear hK K
  have f3 := Tryz.bcell (j := 3) q0 rfl
  refine Tryz.mix_step (by kernel_rfl) (fun K hK => ?_)
  go_simp
  refine hK _ _ ⟨⟨w', HPW.out _ q0⟩, rfl⟩ ?_
  clear hK K f3
  refine Tryz.mix_step (by kernel_rfl) (fun K hK => ?_)
  go_simp
  refine (H57.out _).mono ?_
  rintro e w' ⟨rfl, rfl⟩
  refine hK _ _ ⟨⟨w', HPW.out _ q0⟩, rfl⟩ ?_
  clear hK K
  refine Tryz.mix_step (by kernel_rfl) (fun K hK => ?_)
  go_simp
  refine hK _ _ ⟨⟨w', HPW.out _ q0⟩, rfl⟩ ?_
  clear hK K
  refine Tryz.mix_step (by kernel_rfl) (fun K hK => ?_)
  go_simp
  refine (H19.out _ _ _).mono ?_
  rintro e w' ⟨rfl, rfl⟩
  refine hK _ _ ⟨⟨w', HPW.out _ q0⟩, rfl⟩ ?_
  clear hK K
  refine Tryz.mix_step (by kernel_rfl) (fun K hK => ?_)
  go_simp
  rw [Tryz.big_eq]
  obtain ⟨w3, hw3⟩ : ∃ w3, w3 = w'.alloc (Obj.cells #[Value.int IntKind.i64 (Tryz.orZero true 3), Value.int IntKind.i64 (Tryz.orZero (decide (256 < T.size)) 2), Value.int IntKind.i64 (Tryz.orZero (Lib.hasSuffix T.data.toList [32]) 5)] 25) := ⟨_, rfl⟩
  change K _ (w'.alloc (Obj.cells #[Value.int IntKind.i64 (Tryz.orZero true 3), Value.int IntKind.i64 (Tryz.orZero (decide (256 < T.size)) 2), Value.int IntKind.i64 (Tryz.orZero (Lib.hasSuffix T.data.toList [32]) 5)] 25))
  have r0 := Tryz.alloc_old q0 (Obj.cells #[Value.int IntKind.i64 (Tryz.orZero true 3), Value.int IntKind.i64 (Tryz.orZero (decide (256 < T.size)) 2), Value.int IntKind.i64 (Tryz.orZero (Lib.hasSuffix T.data.toList [32]) 5)] 25)
  rw [← hw3] at r0 ⊢
  have r2 : w3.heap[w'.heap.size]? = some (.cells (Tryz.i64c [Tryz.orZero true 3, Tryz.orZero (decide (256 < T.size)) 2, Tryz.orZero (Lib.hasSuffix T.data.toList [32]) 5]) 25) := by rw [hw3]; exact Tryz.bnew _ _
  have hE3 : Tryz.Ext w w3 := by rw [hw3]; exact Tryz.alloc_ext kE2 _
  clear hw3
  refine hK _ _ ⟨⟨w3, HPW.out _ r0⟩, rfl⟩ ?_
  clear hK K
  refine Tryz.mix_step (by kernel_rfl) (fun K hK => ?_)
  go_simp
  refine (H27.out _ _ _ (by simp) fun i x hi => Tryz.bcell r2 (Tryz.i64c_get hi)).mono ?_
  rintro e w5 ⟨rfl, rfl⟩
  refine hK _ _ ⟨⟨_, HPW.out _ r0⟩, rfl⟩ ?_
  clear hK K
  refine Tryz.mix_step (by kernel_rfl) (fun K hK => ?_)
  go_simp
  refine hK _ _ ⟨⟨_, HPW.out _ r0⟩, rfl⟩ ?_
  refine Tryz.mix_nil ?_
  have HE := Lib.hid hE3
  clear hK K c3 this q0 kE2 r0 r2 HPW hE3
  go_wp2
  go_ret
  exact ⟨rfl, HE.out⟩
set_option maxRecDepth 100000 in
set_option maxHeartbeats 4000000 in
theorem Tryz.valueErr28c2 (N S : Int) (T : ByteArray) (ho : Tryz.numOk N S = true) (hs : 0 < S) (hm : N.tmod 10 = 0) (hT : T.toList.isEmpty = false) (hL : T.size ≤ 300) (w : World) :
    Calls Tryz.prog 28 #[.agg #[.int .i64 1, .int .i64 N, .int .i64 S, .string T]] w fun e w' =>
      e = .returned (.int .i64 (Tryz.firstF [Tryz.orZero true 3, Tryz.orZero (decide (256 < T.size)) 2, Tryz.orZero true 5])) ∧ Tryz.Ext w w' := by
  have H57 := Lib.hid (fun w => Tryz.suffix57 T ⟨#[32]⟩ w (by omega))
  have H19 := Lib.hid (fun b k w => Tryz.cond19 b k w)
  have H27 := Lib.hid (fun l b w h => Tryz.first27 l b 3 w h)
  have H48 := Lib.hid (fun w => Tryz.check48 N S w)
  rw [ho, show Tryz.orZero (!true) 3 = 0 from rfl] at H48
  go_enter Tryz.func28, Tryz.ntmps28
  go_wp2_with (go_at_call 48; refine (H48.out _).mono ?_; rintro e w1 ⟨rfl, hx⟩
               have b0 := (hx.old w.heap.size (by simp)).trans (Tryz.bnew _ _)
               have f0 := Tryz.bcell (j := 0) b0 rfl; have f1 := Tryz.bcell (j := 1) b0 rfl; have f2 := Tryz.bcell (j := 2) b0 rfl; have f3 := Tryz.bcell (j := 3) b0 rfl
               have HB := Lib.hid b0; have HX := Lib.hid ((Tryz.alloc_ext (.refl w) _).trans hx); clear b0 hx)
  have k0 := HB.out
  have kE := HX.out
  clear f0 f1 f2 f3 HB HX
  obtain ⟨p, hpW, hpO⟩ := Tryz.hideP fun w' => w'.heap[w.heap.size]? = some (Obj.cells #[Value.int IntKind.i64 1, Value.int IntKind.i64 N, Value.int IntKind.i64 S, Value.string T] 35)
  haveI : Nonempty (Tryz.InC p) := ⟨⟨w1, hpW w1 k0⟩⟩
  have c3 : ∀ x : Tryz.InC p, x.w.cell? ⟨w.heap.size, 3, none⟩ = some (.string T) := fun x => Tryz.bcell (j := 3) (hpO _ x.h) rfl
  have HPW := Lib.hid hpW
  clear hpW hpO
  refine Tryz.region_order (C := fun w' => ∃ x : Tryz.InC p, w' = x.w)
    [(true, 0), (true, 2), (true, 3), (true, 4), (true, 5), (true, 7), (false, 1), (false, 6), (false, 8), (false, 9), (false, 10), (false, 11), (false, 12), (false, 13), (false, 14), (false, 15), (false, 16)] (by kernel_rfl) (by kernel_rfl) ⟨⟨{ w1 with drawn := w1.drawn + 1 }, HPW.out _ k0⟩, rfl⟩ ?_
  simp only [Tryz.picks, List.filterMap_cons, List.filterMap_nil, List.getElem?_cons_succ, List.getElem?_cons_zero, Option.map_some]
  iterate 6 (refine Tryz.mix_calm (fun K hK => ?_); unfold Tryz.calm; go_simp; refine hK _ ?_; clear hK K)
  have kE2 := kE.trans (Tryz.drew_ext w1)
  have q0 : w1.drew.heap[w.heap.size]? = _ := k0
  clear kE k0
  refine Tryz.mix_step (by kernel_rfl) (fun K hK => ?_)
  go_simp
  refine (H19.out _ _ _).mono ?_
  rintro e w' ⟨rfl, rfl⟩
  refine hK _ _ ⟨⟨_, HPW.out _ q0⟩, rfl⟩ ?_
  clear hK K
  refine Tryz.mix_step (by kernel_rfl) (fun K hK => ?_)
  go_simp
  refine (H19.out _ _ _).mono ?_
  rintro e w' ⟨rfl, rfl⟩
  refine hK _ _ ⟨⟨_, HPW.out _ q0⟩, rfl⟩ ?_
  clear hK K
  generalize w1.drew = w' at q0 kE2 ⊢
  refine Tryz.mix_step (by kernel_rfl) (fun K hK => ?_)
  go_simp
  refine hK _ _ ⟨⟨w', HPW.out _ q0⟩, rfl⟩ ?_
  clear hK K
  iterate 3 (refine Tryz.mix_skip (by kernel_rfl) ?_; go_simp)
  refine Tryz.mix_step (by kernel_rfl) (fun K hK => ?_)
  go_simp
  refine hK _ _ ⟨⟨w', HPW.out _ q0⟩, rfl⟩ ?_
  clear hK K
  refine Tryz.mix_step (by kernel_rfl) (fun K hK => ?_)
  go_simp
  refine (H19.out _ _ _).mono ?_
  rintro e w' ⟨rfl, rfl⟩
  refine hK _ _ ⟨⟨w', HPW.out _ q0⟩, rfl⟩ ?_
  clear hK K
  refine Tryz.mix_step (by kernel_rfl) (fun K hK => ?_)
  go_simp
  rw [Tryz.big_eq]
  obtain ⟨w3, hw3⟩ : ∃ w3, w3 = w'.alloc (Obj.cells #[Value.int IntKind.i64 (Tryz.orZero true 3), Value.int IntKind.i64 (Tryz.orZero (decide (256 < T.size)) 2), Value.int IntKind.i64 (Tryz.orZero (true) 5)] 25) := ⟨_, rfl⟩
  change K _ (w'.alloc (Obj.cells #[Value.int IntKind.i64 (Tryz.orZero true 3), Value.int IntKind.i64 (Tryz.orZero (decide (256 < T.size)) 2), Value.int IntKind.i64 (Tryz.orZero (true) 5)] 25))
  have r0 := Tryz.alloc_old q0 (Obj.cells #[Value.int IntKind.i64 (Tryz.orZero true 3), Value.int IntKind.i64 (Tryz.orZero (decide (256 < T.size)) 2), Value.int IntKind.i64 (Tryz.orZero (true) 5)] 25)
  rw [← hw3] at r0 ⊢
  have r2 : w3.heap[w'.heap.size]? = some (.cells (Tryz.i64c [Tryz.orZero true 3, Tryz.orZero (decide (256 < T.size)) 2, Tryz.orZero (true) 5]) 25) := by rw [hw3]; exact Tryz.bnew _ _
  have hE3 : Tryz.Ext w w3 := by rw [hw3]; exact Tryz.alloc_ext kE2 _
  clear hw3
  refine hK _ _ ⟨⟨w3, HPW.out _ r0⟩, rfl⟩ ?_
  clear hK K
  refine Tryz.mix_step (by kernel_rfl) (fun K hK => ?_)
  go_simp
  refine (H27.out _ _ _ (by simp) fun i x hi => Tryz.bcell r2 (Tryz.i64c_get hi)).mono ?_
  rintro e w5 ⟨rfl, rfl⟩
  refine hK _ _ ⟨⟨_, HPW.out _ r0⟩, rfl⟩ ?_
  clear hK K
  refine Tryz.mix_step (by kernel_rfl) (fun K hK => ?_)
  go_simp
  refine hK _ _ ⟨⟨_, HPW.out _ r0⟩, rfl⟩ ?_
  refine Tryz.mix_nil ?_
  have HE := Lib.hid hE3
  clear hK K c3 this q0 kE2 r0 r2 HPW hE3
  go_wp2
  go_ret
  exact ⟨rfl, HE.out⟩
set_option maxRecDepth 100000 in
set_option maxHeartbeats 4000000 in
theorem Tryz.valueErr28d1 (N S : Int) (T : ByteArray) (ho : Tryz.numOk N S = true) (hs : 0 < S) (hm : (N.tmod 10 == 0) = false) (hT : T.toList.isEmpty = true) (hL : T.size ≤ 300) (w : World) :
    Calls Tryz.prog 28 #[.agg #[.int .i64 1, .int .i64 N, .int .i64 S, .string T]] w fun e w' =>
      e = .returned (.int .i64 (Tryz.firstF [Tryz.orZero false 3, Tryz.orZero (decide (256 < T.size)) 2, Tryz.orZero (Lib.hasSuffix T.data.toList [32]) 5])) ∧ Tryz.Ext w w' := by
  have H57 := Lib.hid (fun w => Tryz.suffix57 T ⟨#[32]⟩ w (by omega))
  have H19 := Lib.hid (fun b k w => Tryz.cond19 b k w)
  have H27 := Lib.hid (fun l b w h => Tryz.first27 l b 3 w h)
  have H48 := Lib.hid (fun w => Tryz.check48 N S w)
  rw [ho, show Tryz.orZero (!true) 3 = 0 from rfl] at H48
  go_enter Tryz.func28, Tryz.ntmps28
  go_wp2_with (go_at_call 48; refine (H48.out _).mono ?_; rintro e w1 ⟨rfl, hx⟩
               have b0 := (hx.old w.heap.size (by simp)).trans (Tryz.bnew _ _)
               have f0 := Tryz.bcell (j := 0) b0 rfl; have f1 := Tryz.bcell (j := 1) b0 rfl; have f2 := Tryz.bcell (j := 2) b0 rfl; have f3 := Tryz.bcell (j := 3) b0 rfl
               have HB := Lib.hid b0; have HX := Lib.hid ((Tryz.alloc_ext (.refl w) _).trans hx); clear b0 hx)
  have k0 := HB.out
  have kE := HX.out
  clear f0 f1 f2 f3 HB HX
  obtain ⟨p, hpW, hpO⟩ := Tryz.hideP fun w' => w'.heap[w.heap.size]? = some (Obj.cells #[Value.int IntKind.i64 1, Value.int IntKind.i64 N, Value.int IntKind.i64 S, Value.string T] 35)
  haveI : Nonempty (Tryz.InC p) := ⟨⟨w1, hpW w1 k0⟩⟩
  have c3 : ∀ x : Tryz.InC p, x.w.cell? ⟨w.heap.size, 3, none⟩ = some (.string T) := fun x => Tryz.bcell (j := 3) (hpO _ x.h) rfl
  have HPW := Lib.hid hpW
  clear hpW hpO
  refine Tryz.region_order (C := fun w' => ∃ x : Tryz.InC p, w' = x.w)
    [(true, 0), (true, 2), (true, 3), (true, 4), (true, 5), (true, 7), (false, 1), (false, 6), (false, 8), (false, 9), (false, 10), (false, 11), (false, 12), (false, 13), (false, 14), (false, 15), (false, 16)] (by kernel_rfl) (by kernel_rfl) ⟨⟨{ w1 with drawn := w1.drawn + 1 }, HPW.out _ k0⟩, rfl⟩ ?_
  simp only [Tryz.picks, List.filterMap_cons, List.filterMap_nil, List.getElem?_cons_succ, List.getElem?_cons_zero, Option.map_some]
  iterate 6 (refine Tryz.mix_calm (fun K hK => ?_); unfold Tryz.calm; go_simp; refine hK _ ?_; clear hK K)
  have kE2 := kE.trans (Tryz.drew_ext w1)
  have q0 : w1.drew.heap[w.heap.size]? = _ := k0
  clear kE k0
  refine Tryz.mix_step (by kernel_rfl) (fun K hK => ?_)
  go_simp
  refine (H19.out _ _ _).mono ?_
  rintro e w' ⟨rfl, rfl⟩
  refine hK _ _ ⟨⟨_, HPW.out _ q0⟩, rfl⟩ ?_
  clear hK K
  refine Tryz.mix_step (by kernel_rfl) (fun K hK => ?_)
  go_simp
  refine (H19.out _ _ _).mono ?_
  rintro e w' ⟨rfl, rfl⟩
  refine hK _ _ ⟨⟨_, HPW.out _ q0⟩, rfl⟩ ?_
  clear hK K
  generalize w1.drew = w' at q0 kE2 ⊢
  refine Tryz.mix_step (by kernel_rfl) (fun K hK => ?_)
  go_simp
  refine hK _ _ ⟨⟨w', HPW.out _ q0⟩, rfl⟩ ?_
  clear hK K
  refine Tryz.mix_step (by kernel_rfl) (fun K hK => ?_)
  go_simp
  refine hK _ _ ⟨⟨w', HPW.out _ q0⟩, rfl⟩ ?_
  clear hK K
  have f3 := Tryz.bcell (j := 3) q0 rfl
  refine Tryz.mix_step (by kernel_rfl) (fun K hK => ?_)
  go_simp
  refine hK _ _ ⟨⟨w', HPW.out _ q0⟩, rfl⟩ ?_
  clear hK K f3
  refine Tryz.mix_step (by kernel_rfl) (fun K hK => ?_)
  go_simp
  refine (H57.out _).mono ?_
  rintro e w' ⟨rfl, rfl⟩
  refine hK _ _ ⟨⟨w', HPW.out _ q0⟩, rfl⟩ ?_
  clear hK K
  refine Tryz.mix_step (by kernel_rfl) (fun K hK => ?_)
  go_simp
  refine hK _ _ ⟨⟨w', HPW.out _ q0⟩, rfl⟩ ?_
  clear hK K
  refine Tryz.mix_step (by kernel_rfl) (fun K hK => ?_)
  go_simp
  refine (H19.out _ _ _).mono ?_
  rintro e w' ⟨rfl, rfl⟩
  refine hK _ _ ⟨⟨w', HPW.out _ q0⟩, rfl⟩ ?_
  clear hK K
  refine Tryz.mix_step (by kernel_rfl) (fun K hK => ?_)
  go_simp
  rw [Tryz.big_eq]
  obtain ⟨w3, hw3⟩ : ∃ w3, w3 = w'.alloc (Obj.cells #[Value.int IntKind.i64 (Tryz.orZero false 3), Value.int IntKind.i64 (Tryz.orZero (decide (256 < T.size)) 2), Value.int IntKind.i64 (Tryz.orZero (Lib.hasSuffix T.data.toList [32]) 5)] 25) := ⟨_, rfl⟩
  change K _ (w'.alloc (Obj.cells #[Value.int IntKind.i64 (Tryz.orZero false 3), Value.int IntKind.i64 (Tryz.orZero (decide (256 < T.size)) 2), Value.int IntKind.i64 (Tryz.orZero (Lib.hasSuffix T.data.toList [32]) 5)] 25))
  have r0 := Tryz.alloc_old q0 (Obj.cells #[Value.int IntKind.i64 (Tryz.orZero false 3), Value.int IntKind.i64 (Tryz.orZero (decide (256 < T.size)) 2), Value.int IntKind.i64 (Tryz.orZero (Lib.hasSuffix T.data.toList [32]) 5)] 25)
  rw [← hw3] at r0 ⊢
  have r2 : w3.heap[w'.heap.size]? = some (.cells (Tryz.i64c [Tryz.orZero false 3, Tryz.orZero (decide (256 < T.size)) 2, Tryz.orZero (Lib.hasSuffix T.data.toList [32]) 5]) 25) := by rw [hw3]; exact Tryz.bnew _ _
  have hE3 : Tryz.Ext w w3 := by rw [hw3]; exact Tryz.alloc_ext kE2 _
  clear hw3
  refine hK _ _ ⟨⟨w3, HPW.out _ r0⟩, rfl⟩ ?_
  clear hK K
  refine Tryz.mix_step (by kernel_rfl) (fun K hK => ?_)
  go_simp
  refine (H27.out _ _ _ (by simp) fun i x hi => Tryz.bcell r2 (Tryz.i64c_get hi)).mono ?_
  rintro e w5 ⟨rfl, rfl⟩
  refine hK _ _ ⟨⟨_, HPW.out _ r0⟩, rfl⟩ ?_
  clear hK K
  refine Tryz.mix_step (by kernel_rfl) (fun K hK => ?_)
  go_simp
  refine hK _ _ ⟨⟨_, HPW.out _ r0⟩, rfl⟩ ?_
  refine Tryz.mix_nil ?_
  have HE := Lib.hid hE3
  clear hK K c3 this q0 kE2 r0 r2 HPW hE3
  go_wp2
  go_ret
  exact ⟨rfl, HE.out⟩
set_option maxRecDepth 100000 in
set_option maxHeartbeats 4000000 in
theorem Tryz.valueErr28d2 (N S : Int) (T : ByteArray) (ho : Tryz.numOk N S = true) (hs : 0 < S) (hm : (N.tmod 10 == 0) = false) (hT : T.toList.isEmpty = false) (hL : T.size ≤ 300) (w : World) :
    Calls Tryz.prog 28 #[.agg #[.int .i64 1, .int .i64 N, .int .i64 S, .string T]] w fun e w' =>
      e = .returned (.int .i64 (Tryz.firstF [Tryz.orZero false 3, Tryz.orZero (decide (256 < T.size)) 2, Tryz.orZero true 5])) ∧ Tryz.Ext w w' := by
  have H57 := Lib.hid (fun w => Tryz.suffix57 T ⟨#[32]⟩ w (by omega))
  have H19 := Lib.hid (fun b k w => Tryz.cond19 b k w)
  have H27 := Lib.hid (fun l b w h => Tryz.first27 l b 3 w h)
  have H48 := Lib.hid (fun w => Tryz.check48 N S w)
  rw [ho, show Tryz.orZero (!true) 3 = 0 from rfl] at H48
  go_enter Tryz.func28, Tryz.ntmps28
  go_wp2_with (go_at_call 48; refine (H48.out _).mono ?_; rintro e w1 ⟨rfl, hx⟩
               have b0 := (hx.old w.heap.size (by simp)).trans (Tryz.bnew _ _)
               have f0 := Tryz.bcell (j := 0) b0 rfl; have f1 := Tryz.bcell (j := 1) b0 rfl; have f2 := Tryz.bcell (j := 2) b0 rfl; have f3 := Tryz.bcell (j := 3) b0 rfl
               have HB := Lib.hid b0; have HX := Lib.hid ((Tryz.alloc_ext (.refl w) _).trans hx); clear b0 hx)
  have k0 := HB.out
  have kE := HX.out
  clear f0 f1 f2 f3 HB HX
  obtain ⟨p, hpW, hpO⟩ := Tryz.hideP fun w' => w'.heap[w.heap.size]? = some (Obj.cells #[Value.int IntKind.i64 1, Value.int IntKind.i64 N, Value.int IntKind.i64 S, Value.string T] 35)
  haveI : Nonempty (Tryz.InC p) := ⟨⟨w1, hpW w1 k0⟩⟩
  have c3 : ∀ x : Tryz.InC p, x.w.cell? ⟨w.heap.size, 3, none⟩ = some (.string T) := fun x => Tryz.bcell (j := 3) (hpO _ x.h) rfl
  have HPW := Lib.hid hpW
  clear hpW hpO
  refine Tryz.region_order (C := fun w' => ∃ x : Tryz.InC p, w' = x.w)
    [(true, 0), (true, 2), (true, 3), (true, 4), (true, 5), (true, 7), (false, 1), (false, 6), (false, 8), (false, 9), (false, 10), (false, 11), (false, 12), (false, 13), (false, 14), (false, 15), (false, 16)] (by kernel_rfl) (by kernel_rfl) ⟨⟨{ w1 with drawn := w1.drawn + 1 }, HPW.out _ k0⟩, rfl⟩ ?_
  simp only [Tryz.picks, List.filterMap_cons, List.filterMap_nil, List.getElem?_cons_succ, List.getElem?_cons_zero, Option.map_some]
  iterate 6 (refine Tryz.mix_calm (fun K hK => ?_); unfold Tryz.calm; go_simp; refine hK _ ?_; clear hK K)
  have kE2 := kE.trans (Tryz.drew_ext w1)
  have q0 : w1.drew.heap[w.heap.size]? = _ := k0
  clear kE k0
  refine Tryz.mix_step (by kernel_rfl) (fun K hK => ?_)
  go_simp
  refine (H19.out _ _ _).mono ?_
  rintro e w' ⟨rfl, rfl⟩
  refine hK _ _ ⟨⟨_, HPW.out _ q0⟩, rfl⟩ ?_
  clear hK K
  refine Tryz.mix_step (by kernel_rfl) (fun K hK => ?_)
  go_simp
  refine (H19.out _ _ _).mono ?_
  rintro e w' ⟨rfl, rfl⟩
  refine hK _ _ ⟨⟨_, HPW.out _ q0⟩, rfl⟩ ?_
  clear hK K
  generalize w1.drew = w' at q0 kE2 ⊢
  refine Tryz.mix_step (by kernel_rfl) (fun K hK => ?_)
  go_simp
  refine hK _ _ ⟨⟨w', HPW.out _ q0⟩, rfl⟩ ?_
  clear hK K
  iterate 3 (refine Tryz.mix_skip (by kernel_rfl) ?_; go_simp)
  refine Tryz.mix_step (by kernel_rfl) (fun K hK => ?_)
  go_simp
  refine hK _ _ ⟨⟨w', HPW.out _ q0⟩, rfl⟩ ?_
  clear hK K
  refine Tryz.mix_step (by kernel_rfl) (fun K hK => ?_)
  go_simp
  refine (H19.out _ _ _).mono ?_
  rintro e w' ⟨rfl, rfl⟩
  refine hK _ _ ⟨⟨w', HPW.out _ q0⟩, rfl⟩ ?_
  clear hK K
  refine Tryz.mix_step (by kernel_rfl) (fun K hK => ?_)
  go_simp
  rw [Tryz.big_eq]
  obtain ⟨w3, hw3⟩ : ∃ w3, w3 = w'.alloc (Obj.cells #[Value.int IntKind.i64 (Tryz.orZero false 3), Value.int IntKind.i64 (Tryz.orZero (decide (256 < T.size)) 2), Value.int IntKind.i64 (Tryz.orZero (true) 5)] 25) := ⟨_, rfl⟩
  change K _ (w'.alloc (Obj.cells #[Value.int IntKind.i64 (Tryz.orZero false 3), Value.int IntKind.i64 (Tryz.orZero (decide (256 < T.size)) 2), Value.int IntKind.i64 (Tryz.orZero (true) 5)] 25))
  have r0 := Tryz.alloc_old q0 (Obj.cells #[Value.int IntKind.i64 (Tryz.orZero false 3), Value.int IntKind.i64 (Tryz.orZero (decide (256 < T.size)) 2), Value.int IntKind.i64 (Tryz.orZero (true) 5)] 25)
  rw [← hw3] at r0 ⊢
  have r2 : w3.heap[w'.heap.size]? = some (.cells (Tryz.i64c [Tryz.orZero false 3, Tryz.orZero (decide (256 < T.size)) 2, Tryz.orZero (true) 5]) 25) := by rw [hw3]; exact Tryz.bnew _ _
  have hE3 : Tryz.Ext w w3 := by rw [hw3]; exact Tryz.alloc_ext kE2 _
  clear hw3
  refine hK _ _ ⟨⟨w3, HPW.out _ r0⟩, rfl⟩ ?_
  clear hK K
  refine Tryz.mix_step (by kernel_rfl) (fun K hK => ?_)
  go_simp
  refine (H27.out _ _ _ (by simp) fun i x hi => Tryz.bcell r2 (Tryz.i64c_get hi)).mono ?_
  rintro e w5 ⟨rfl, rfl⟩
  refine hK _ _ ⟨⟨_, HPW.out _ r0⟩, rfl⟩ ?_
  clear hK K
  refine Tryz.mix_step (by kernel_rfl) (fun K hK => ?_)
  go_simp
  refine hK _ _ ⟨⟨_, HPW.out _ r0⟩, rfl⟩ ?_
  refine Tryz.mix_nil ?_
  have HE := Lib.hid hE3
  clear hK K c3 this q0 kE2 r0 r2 HPW hE3
  go_wp2
  go_ret
  exact ⟨rfl, HE.out⟩
set_option maxRecDepth 100000 in
set_option maxHeartbeats 4000000 in
theorem Tryz.valueErr28e1 (K N S : Int) (T : ByteArray) (h1 : ¬ K = 1) (hz : ¬ N = 0) (hL : T.size ≤ 300) (w : World) :
    Calls Tryz.prog 28 #[.agg #[.int .i64 K, .int .i64 N, .int .i64 S, .string T]] w fun e w' =>
      e = .returned (.int .i64 (Tryz.firstF [Tryz.orZero false 3, Tryz.orZero (decide (256 < T.size)) 2, Tryz.orZero true 5])) ∧ Tryz.Ext w w' := by
  have H57 := Lib.hid (fun w => Tryz.suffix57 T ⟨#[32]⟩ w (by omega))
  have H19 := Lib.hid (fun b k w => Tryz.cond19 b k w)
  have H27 := Lib.hid (fun l b w h => Tryz.first27 l b 3 w h)
  go_enter Tryz.func28, Tryz.ntmps28
  go_wp2
  obtain ⟨w1, hW⟩ : ∃ w1, w1 = w.alloc (Obj.cells #[Value.int IntKind.i64 K, Value.int IntKind.i64 N, Value.int IntKind.i64 S, Value.string T] 35) := ⟨_, rfl⟩
  rw [← hW]
  have k0 : w1.heap[w.heap.size]? = some (Obj.cells #[Value.int IntKind.i64 K, Value.int IntKind.i64 N, Value.int IntKind.i64 S, Value.string T] 35) := by rw [hW]; exact Tryz.bnew _ _
  have kE : Tryz.Ext w w1 := by rw [hW]; exact Tryz.alloc_ext (.refl _) _
  clear hW
  obtain ⟨p, hpW, hpO⟩ := Tryz.hideP fun w' => w'.heap[w.heap.size]? = some (Obj.cells #[Value.int IntKind.i64 K, Value.int IntKind.i64 N, Value.int IntKind.i64 S, Value.string T] 35)
  haveI : Nonempty (Tryz.InC p) := ⟨⟨w1, hpW w1 k0⟩⟩
  have c3 : ∀ x : Tryz.InC p, x.w.cell? ⟨w.heap.size, 3, none⟩ = some (.string T) := fun x => Tryz.bcell (j := 3) (hpO _ x.h) rfl
  have HPW := Lib.hid hpW
  clear hpW hpO
  refine Tryz.region_order (C := fun w' => ∃ x : Tryz.InC p, w' = x.w)
    [(true, 0), (true, 2), (true, 3), (true, 4), (true, 5), (true, 7), (false, 1), (false, 6), (false, 8), (false, 9), (false, 10), (false, 11), (false, 12), (false, 13), (false, 14), (false, 15), (false, 16)] (by kernel_rfl) (by kernel_rfl) ⟨⟨{ w1 with drawn := w1.drawn + 1 }, HPW.out _ k0⟩, rfl⟩ ?_
  simp only [Tryz.picks, List.filterMap_cons, List.filterMap_nil, List.getElem?_cons_succ, List.getElem?_cons_zero, Option.map_some]
  iterate 6 (refine Tryz.mix_calm (fun K hK => ?_); unfold Tryz.calm; go_simp; refine hK _ ?_; clear hK K)
  have kE2 := kE.trans (Tryz.drew_ext w1)
  have q0 : w1.drew.heap[w.heap.size]? = _ := k0
  clear kE k0
  refine Tryz.mix_step (by kernel_rfl) (fun K hK => ?_)
  go_simp
  refine (H19.out _ _ _).mono ?_
  rintro e w' ⟨rfl, rfl⟩
  refine hK _ _ ⟨⟨_, HPW.out _ q0⟩, rfl⟩ ?_
  clear hK K
  refine Tryz.mix_step (by kernel_rfl) (fun K hK => ?_)
  go_simp
  refine (H19.out _ _ _).mono ?_
  rintro e w' ⟨rfl, rfl⟩
  refine hK _ _ ⟨⟨_, HPW.out _ q0⟩, rfl⟩ ?_
  clear hK K
  generalize w1.drew = w' at q0 kE2 ⊢
  refine Tryz.mix_step (by kernel_rfl) (fun K hK => ?_)
  go_simp
  refine hK _ _ ⟨⟨w', HPW.out _ q0⟩, rfl⟩ ?_
  clear hK K
  iterate 3 (refine Tryz.mix_skip (by kernel_rfl) ?_; go_simp)
  refine Tryz.mix_step (by kernel_rfl) (fun K hK => ?_)
  go_simp
  refine hK _ _ ⟨⟨w', HPW.out _ q0⟩, rfl⟩ ?_
  clear hK K
  refine Tryz.mix_step (by kernel_rfl) (fun K hK => ?_)
  go_simp
  refine (H19.out _ _ _).mono ?_
  rintro e w' ⟨rfl, rfl⟩
  refine hK _ _ ⟨⟨w', HPW.out _ q0⟩, rfl⟩ ?_
  clear hK K
  refine Tryz.mix_step (by kernel_rfl) (fun K hK => ?_)
  go_simp
  rw [Tryz.big_eq]
  obtain ⟨w3, hw3⟩ : ∃ w3, w3 = w'.alloc (Obj.cells #[Value.int IntKind.i64 (Tryz.orZero false 3), Value.int IntKind.i64 (Tryz.orZero (decide (256 < T.size)) 2), Value.int IntKind.i64 (Tryz.orZero (true) 5)] 25) := ⟨_, rfl⟩
  change K _ (w'.alloc (Obj.cells #[Value.int IntKind.i64 (Tryz.orZero false 3), Value.int IntKind.i64 (Tryz.orZero (decide (256 < T.size)) 2), Value.int IntKind.i64 (Tryz.orZero (true) 5)] 25))
  have r0 := Tryz.alloc_old q0 (Obj.cells #[Value.int IntKind.i64 (Tryz.orZero false 3), Value.int IntKind.i64 (Tryz.orZero (decide (256 < T.size)) 2), Value.int IntKind.i64 (Tryz.orZero (true) 5)] 25)
  rw [← hw3] at r0 ⊢
  have r2 : w3.heap[w'.heap.size]? = some (.cells (Tryz.i64c [Tryz.orZero false 3, Tryz.orZero (decide (256 < T.size)) 2, Tryz.orZero (true) 5]) 25) := by rw [hw3]; exact Tryz.bnew _ _
  have hE3 : Tryz.Ext w w3 := by rw [hw3]; exact Tryz.alloc_ext kE2 _
  clear hw3
  refine hK _ _ ⟨⟨w3, HPW.out _ r0⟩, rfl⟩ ?_
  clear hK K
  refine Tryz.mix_step (by kernel_rfl) (fun K hK => ?_)
  go_simp
  refine (H27.out _ _ _ (by simp) fun i x hi => Tryz.bcell r2 (Tryz.i64c_get hi)).mono ?_
  rintro e w5 ⟨rfl, rfl⟩
  refine hK _ _ ⟨⟨_, HPW.out _ r0⟩, rfl⟩ ?_
  clear hK K
  refine Tryz.mix_step (by kernel_rfl) (fun K hK => ?_)
  go_simp
  refine hK _ _ ⟨⟨_, HPW.out _ r0⟩, rfl⟩ ?_
  refine Tryz.mix_nil ?_
  have HE := Lib.hid hE3
  clear hK K c3 this q0 kE2 r0 r2 HPW hE3
  go_wp2
  go_ret
  exact ⟨rfl, HE.out⟩
set_option maxRecDepth 100000 in
set_option maxHeartbeats 4000000 in
theorem Tryz.valueErr28e2 (K S : Int) (T : ByteArray) (h1 : ¬ K = 1) (hy : ¬ S = 0) (hL : T.size ≤ 300) (w : World) :
    Calls Tryz.prog 28 #[.agg #[.int .i64 K, .int .i64 0, .int .i64 S, .string T]] w fun e w' =>
      e = .returned (.int .i64 (Tryz.firstF [Tryz.orZero false 3, Tryz.orZero (decide (256 < T.size)) 2, Tryz.orZero true 5])) ∧ Tryz.Ext w w' := by
  have H57 := Lib.hid (fun w => Tryz.suffix57 T ⟨#[32]⟩ w (by omega))
  have H19 := Lib.hid (fun b k w => Tryz.cond19 b k w)
  have H27 := Lib.hid (fun l b w h => Tryz.first27 l b 3 w h)
  go_enter Tryz.func28, Tryz.ntmps28
  go_wp2
  obtain ⟨w1, hW⟩ : ∃ w1, w1 = w.alloc (Obj.cells #[Value.int IntKind.i64 K, Value.int IntKind.i64 0, Value.int IntKind.i64 S, Value.string T] 35) := ⟨_, rfl⟩
  rw [← hW]
  have k0 : w1.heap[w.heap.size]? = some (Obj.cells #[Value.int IntKind.i64 K, Value.int IntKind.i64 0, Value.int IntKind.i64 S, Value.string T] 35) := by rw [hW]; exact Tryz.bnew _ _
  have kE : Tryz.Ext w w1 := by rw [hW]; exact Tryz.alloc_ext (.refl _) _
  clear hW
  obtain ⟨p, hpW, hpO⟩ := Tryz.hideP fun w' => w'.heap[w.heap.size]? = some (Obj.cells #[Value.int IntKind.i64 K, Value.int IntKind.i64 0, Value.int IntKind.i64 S, Value.string T] 35)
  haveI : Nonempty (Tryz.InC p) := ⟨⟨w1, hpW w1 k0⟩⟩
  have c3 : ∀ x : Tryz.InC p, x.w.cell? ⟨w.heap.size, 3, none⟩ = some (.string T) := fun x => Tryz.bcell (j := 3) (hpO _ x.h) rfl
  have HPW := Lib.hid hpW
  clear hpW hpO
  refine Tryz.region_order (C := fun w' => ∃ x : Tryz.InC p, w' = x.w)
    [(true, 0), (true, 2), (true, 3), (true, 4), (true, 5), (true, 7), (false, 1), (false, 6), (false, 8), (false, 9), (false, 10), (false, 11), (false, 12), (false, 13), (false, 14), (false, 15), (false, 16)] (by kernel_rfl) (by kernel_rfl) ⟨⟨{ w1 with drawn := w1.drawn + 1 }, HPW.out _ k0⟩, rfl⟩ ?_
  simp only [Tryz.picks, List.filterMap_cons, List.filterMap_nil, List.getElem?_cons_succ, List.getElem?_cons_zero, Option.map_some]
  iterate 6 (refine Tryz.mix_calm (fun K hK => ?_); unfold Tryz.calm; go_simp; refine hK _ ?_; clear hK K)
  have kE2 := kE.trans (Tryz.drew_ext w1)
  have q0 : w1.drew.heap[w.heap.size]? = _ := k0
  clear kE k0
  refine Tryz.mix_step (by kernel_rfl) (fun K hK => ?_)
  go_simp
  refine (H19.out _ _ _).mono ?_
  rintro e w' ⟨rfl, rfl⟩
  refine hK _ _ ⟨⟨_, HPW.out _ q0⟩, rfl⟩ ?_
  clear hK K
  refine Tryz.mix_step (by kernel_rfl) (fun K hK => ?_)
  go_simp
  refine (H19.out _ _ _).mono ?_
  rintro e w' ⟨rfl, rfl⟩
  refine hK _ _ ⟨⟨_, HPW.out _ q0⟩, rfl⟩ ?_
  clear hK K
  generalize w1.drew = w' at q0 kE2 ⊢
  refine Tryz.mix_step (by kernel_rfl) (fun K hK => ?_)
  go_simp
  refine hK _ _ ⟨⟨w', HPW.out _ q0⟩, rfl⟩ ?_
  clear hK K
  iterate 3 (refine Tryz.mix_skip (by kernel_rfl) ?_; go_simp)
  refine Tryz.mix_step (by kernel_rfl) (fun K hK => ?_)
  go_simp
  refine hK _ _ ⟨⟨w', HPW.out _ q0⟩, rfl⟩ ?_
  clear hK K
  refine Tryz.mix_step (by kernel_rfl) (fun K hK => ?_)
  go_simp
  refine (H19.out _ _ _).mono ?_
  rintro e w' ⟨rfl, rfl⟩
  refine hK _ _ ⟨⟨w', HPW.out _ q0⟩, rfl⟩ ?_
  clear hK K
  refine Tryz.mix_step (by kernel_rfl) (fun K hK => ?_)
  go_simp
  rw [Tryz.big_eq]
  obtain ⟨w3, hw3⟩ : ∃ w3, w3 = w'.alloc (Obj.cells #[Value.int IntKind.i64 (Tryz.orZero false 3), Value.int IntKind.i64 (Tryz.orZero (decide (256 < T.size)) 2), Value.int IntKind.i64 (Tryz.orZero (true) 5)] 25) := ⟨_, rfl⟩
  change K _ (w'.alloc (Obj.cells #[Value.int IntKind.i64 (Tryz.orZero false 3), Value.int IntKind.i64 (Tryz.orZero (decide (256 < T.size)) 2), Value.int IntKind.i64 (Tryz.orZero (true) 5)] 25))
  have r0 := Tryz.alloc_old q0 (Obj.cells #[Value.int IntKind.i64 (Tryz.orZero false 3), Value.int IntKind.i64 (Tryz.orZero (decide (256 < T.size)) 2), Value.int IntKind.i64 (Tryz.orZero (true) 5)] 25)
  rw [← hw3] at r0 ⊢
  have r2 : w3.heap[w'.heap.size]? = some (.cells (Tryz.i64c [Tryz.orZero false 3, Tryz.orZero (decide (256 < T.size)) 2, Tryz.orZero (true) 5]) 25) := by rw [hw3]; exact Tryz.bnew _ _
  have hE3 : Tryz.Ext w w3 := by rw [hw3]; exact Tryz.alloc_ext kE2 _
  clear hw3
  refine hK _ _ ⟨⟨w3, HPW.out _ r0⟩, rfl⟩ ?_
  clear hK K
  refine Tryz.mix_step (by kernel_rfl) (fun K hK => ?_)
  go_simp
  refine (H27.out _ _ _ (by simp) fun i x hi => Tryz.bcell r2 (Tryz.i64c_get hi)).mono ?_
  rintro e w5 ⟨rfl, rfl⟩
  refine hK _ _ ⟨⟨_, HPW.out _ r0⟩, rfl⟩ ?_
  clear hK K
  refine Tryz.mix_step (by kernel_rfl) (fun K hK => ?_)
  go_simp
  refine hK _ _ ⟨⟨_, HPW.out _ r0⟩, rfl⟩ ?_
  refine Tryz.mix_nil ?_
  have HE := Lib.hid hE3
  clear hK K c3 this q0 kE2 r0 r2 HPW hE3
  go_wp2
  go_ret
  exact ⟨rfl, HE.out⟩
set_option maxRecDepth 100000 in
set_option maxHeartbeats 4000000 in
theorem Tryz.valueErr28f (T : ByteArray)  (hL : T.size ≤ 300) (w : World) :
    Calls Tryz.prog 28 #[.agg #[.int .i64 2, .int .i64 0, .int .i64 0, .string T]] w fun e w' =>
      e = .returned (.int .i64 (Tryz.firstF [Tryz.orZero false 3, Tryz.orZero (decide (256 < T.size)) 2, Tryz.orZero (Lib.hasSuffix T.data.toList [32]) 5])) ∧ Tryz.Ext w w' := by
  have H57 := Lib.hid (fun w => Tryz.suffix57 T ⟨#[32]⟩ w (by omega))
  have H19 := Lib.hid (fun b k w => Tryz.cond19 b k w)
  have H27 := Lib.hid (fun l b w h => Tryz.first27 l b 3 w h)
  go_enter Tryz.func28, Tryz.ntmps28
  go_wp2
  obtain ⟨w1, hW⟩ : ∃ w1, w1 = w.alloc (Obj.cells #[Value.int IntKind.i64 2, Value.int IntKind.i64 0, Value.int IntKind.i64 0, Value.string T] 35) := ⟨_, rfl⟩
  rw [← hW]
  have k0 : w1.heap[w.heap.size]? = some (Obj.cells #[Value.int IntKind.i64 2, Value.int IntKind.i64 0, Value.int IntKind.i64 0, Value.string T] 35) := by rw [hW]; exact Tryz.bnew _ _
  have kE : Tryz.Ext w w1 := by rw [hW]; exact Tryz.alloc_ext (.refl _) _
  clear hW
  obtain ⟨p, hpW, hpO⟩ := Tryz.hideP fun w' => w'.heap[w.heap.size]? = some (Obj.cells #[Value.int IntKind.i64 2, Value.int IntKind.i64 0, Value.int IntKind.i64 0, Value.string T] 35)
  haveI : Nonempty (Tryz.InC p) := ⟨⟨w1, hpW w1 k0⟩⟩
  have c3 : ∀ x : Tryz.InC p, x.w.cell? ⟨w.heap.size, 3, none⟩ = some (.string T) := fun x => Tryz.bcell (j := 3) (hpO _ x.h) rfl
  have HPW := Lib.hid hpW
  clear hpW hpO
  refine Tryz.region_order (C := fun w' => ∃ x : Tryz.InC p, w' = x.w)
    [(true, 0), (true, 2), (true, 3), (true, 4), (true, 5), (true, 7), (false, 1), (false, 6), (false, 8), (false, 9), (false, 10), (false, 11), (false, 12), (false, 13), (false, 14), (false, 15), (false, 16)] (by kernel_rfl) (by kernel_rfl) ⟨⟨{ w1 with drawn := w1.drawn + 1 }, HPW.out _ k0⟩, rfl⟩ ?_
  simp only [Tryz.picks, List.filterMap_cons, List.filterMap_nil, List.getElem?_cons_succ, List.getElem?_cons_zero, Option.map_some]
  iterate 6 (refine Tryz.mix_calm (fun K hK => ?_); unfold Tryz.calm; go_simp; refine hK _ ?_; clear hK K)
  have kE2 := kE.trans (Tryz.drew_ext w1)
  have q0 : w1.drew.heap[w.heap.size]? = _ := k0
  clear kE k0
  refine Tryz.mix_step (by kernel_rfl) (fun K hK => ?_)
  go_simp
  refine (H19.out _ _ _).mono ?_
  rintro e w' ⟨rfl, rfl⟩
  refine hK _ _ ⟨⟨_, HPW.out _ q0⟩, rfl⟩ ?_
  clear hK K
  refine Tryz.mix_step (by kernel_rfl) (fun K hK => ?_)
  go_simp
  refine (H19.out _ _ _).mono ?_
  rintro e w' ⟨rfl, rfl⟩
  refine hK _ _ ⟨⟨_, HPW.out _ q0⟩, rfl⟩ ?_
  clear hK K
  generalize w1.drew = w' at q0 kE2 ⊢
  refine Tryz.mix_step (by kernel_rfl) (fun K hK => ?_)
  go_simp
  refine hK _ _ ⟨⟨w', HPW.out _ q0⟩, rfl⟩ ?_
  clear hK K
  refine Tryz.mix_step (by kernel_rfl) (fun K hK => ?_)
  go_simp
  refine hK _ _ ⟨⟨w', HPW.out _ q0⟩, rfl⟩ ?_
  clear hK K
  have f3 := Tryz.bcell (j := 3) q0 rfl
  refine Tryz.mix_step (by kernel_rfl) (fun K hK => ?_)
  go_simp
  refine hK _ _ ⟨⟨w', HPW.out _ q0⟩, rfl⟩ ?_
  clear hK K f3
  refine Tryz.mix_step (by kernel_rfl) (fun K hK => ?_)
  go_simp
  refine (H57.out _).mono ?_
  rintro e w' ⟨rfl, rfl⟩
  refine hK _ _ ⟨⟨w', HPW.out _ q0⟩, rfl⟩ ?_
  clear hK K
  refine Tryz.mix_step (by kernel_rfl) (fun K hK => ?_)
  go_simp
  refine hK _ _ ⟨⟨w', HPW.out _ q0⟩, rfl⟩ ?_
  clear hK K
  refine Tryz.mix_step (by kernel_rfl) (fun K hK => ?_)
  go_simp
  refine (H19.out _ _ _).mono ?_
  rintro e w' ⟨rfl, rfl⟩
  refine hK _ _ ⟨⟨w', HPW.out _ q0⟩, rfl⟩ ?_
  clear hK K
  refine Tryz.mix_step (by kernel_rfl) (fun K hK => ?_)
  go_simp
  rw [Tryz.big_eq]
  obtain ⟨w3, hw3⟩ : ∃ w3, w3 = w'.alloc (Obj.cells #[Value.int IntKind.i64 (Tryz.orZero false 3), Value.int IntKind.i64 (Tryz.orZero (decide (256 < T.size)) 2), Value.int IntKind.i64 (Tryz.orZero (Lib.hasSuffix T.data.toList [32]) 5)] 25) := ⟨_, rfl⟩
  change K _ (w'.alloc (Obj.cells #[Value.int IntKind.i64 (Tryz.orZero false 3), Value.int IntKind.i64 (Tryz.orZero (decide (256 < T.size)) 2), Value.int IntKind.i64 (Tryz.orZero (Lib.hasSuffix T.data.toList [32]) 5)] 25))
  have r0 := Tryz.alloc_old q0 (Obj.cells #[Value.int IntKind.i64 (Tryz.orZero false 3), Value.int IntKind.i64 (Tryz.orZero (decide (256 < T.size)) 2), Value.int IntKind.i64 (Tryz.orZero (Lib.hasSuffix T.data.toList [32]) 5)] 25)
  rw [← hw3] at r0 ⊢
  have r2 : w3.heap[w'.heap.size]? = some (.cells (Tryz.i64c [Tryz.orZero false 3, Tryz.orZero (decide (256 < T.size)) 2, Tryz.orZero (Lib.hasSuffix T.data.toList [32]) 5]) 25) := by rw [hw3]; exact Tryz.bnew _ _
  have hE3 : Tryz.Ext w w3 := by rw [hw3]; exact Tryz.alloc_ext kE2 _
  clear hw3
  refine hK _ _ ⟨⟨w3, HPW.out _ r0⟩, rfl⟩ ?_
  clear hK K
  refine Tryz.mix_step (by kernel_rfl) (fun K hK => ?_)
  go_simp
  refine (H27.out _ _ _ (by simp) fun i x hi => Tryz.bcell r2 (Tryz.i64c_get hi)).mono ?_
  rintro e w5 ⟨rfl, rfl⟩
  refine hK _ _ ⟨⟨_, HPW.out _ r0⟩, rfl⟩ ?_
  clear hK K
  refine Tryz.mix_step (by kernel_rfl) (fun K hK => ?_)
  go_simp
  refine hK _ _ ⟨⟨_, HPW.out _ r0⟩, rfl⟩ ?_
  refine Tryz.mix_nil ?_
  have HE := Lib.hid hE3
  clear hK K c3 this q0 kE2 r0 r2 HPW hE3
  go_wp2
  go_ret
  exact ⟨rfl, HE.out⟩
set_option maxRecDepth 100000 in
set_option maxHeartbeats 4000000 in
theorem Tryz.valueErr28g1 (K : Int) (T : ByteArray) (h1 : ¬ K = 1) (h2 : ¬ K = 2) (h3 : (K != 2) = true) (hT : T.toList.isEmpty = true) (hL : T.size ≤ 300) (w : World) :
    Calls Tryz.prog 28 #[.agg #[.int .i64 K, .int .i64 0, .int .i64 0, .string T]] w fun e w' =>
      e = .returned (.int .i64 (Tryz.firstF [Tryz.orZero false 3, Tryz.orZero (decide (256 < T.size)) 2, Tryz.orZero (Lib.hasSuffix T.data.toList [32]) 5])) ∧ Tryz.Ext w w' := by
  have H57 := Lib.hid (fun w => Tryz.suffix57 T ⟨#[32]⟩ w (by omega))
  have H19 := Lib.hid (fun b k w => Tryz.cond19 b k w)
  have H27 := Lib.hid (fun l b w h => Tryz.first27 l b 3 w h)
  go_enter Tryz.func28, Tryz.ntmps28
  go_wp2
  obtain ⟨w1, hW⟩ : ∃ w1, w1 = w.alloc (Obj.cells #[Value.int IntKind.i64 K, Value.int IntKind.i64 0, Value.int IntKind.i64 0, Value.string T] 35) := ⟨_, rfl⟩
  rw [← hW]
  have k0 : w1.heap[w.heap.size]? = some (Obj.cells #[Value.int IntKind.i64 K, Value.int IntKind.i64 0, Value.int IntKind.i64 0, Value.string T] 35) := by rw [hW]; exact Tryz.bnew _ _
  have kE : Tryz.Ext w w1 := by rw [hW]; exact Tryz.alloc_ext (.refl _) _
  clear hW
  obtain ⟨p, hpW, hpO⟩ := Tryz.hideP fun w' => w'.heap[w.heap.size]? = some (Obj.cells #[Value.int IntKind.i64 K, Value.int IntKind.i64 0, Value.int IntKind.i64 0, Value.string T] 35)
  haveI : Nonempty (Tryz.InC p) := ⟨⟨w1, hpW w1 k0⟩⟩
  have c3 : ∀ x : Tryz.InC p, x.w.cell? ⟨w.heap.size, 3, none⟩ = some (.string T) := fun x => Tryz.bcell (j := 3) (hpO _ x.h) rfl
  have HPW := Lib.hid hpW
  clear hpW hpO
  refine Tryz.region_order (C := fun w' => ∃ x : Tryz.InC p, w' = x.w)
    [(true, 0), (true, 2), (true, 3), (true, 4), (true, 5), (true, 7), (false, 1), (false, 6), (false, 8), (false, 9), (false, 10), (false, 11), (false, 12), (false, 13), (false, 14), (false, 15), (false, 16)] (by kernel_rfl) (by kernel_rfl) ⟨⟨{ w1 with drawn := w1.drawn + 1 }, HPW.out _ k0⟩, rfl⟩ ?_
  simp only [Tryz.picks, List.filterMap_cons, List.filterMap_nil, List.getElem?_cons_succ, List.getElem?_cons_zero, Option.map_some]
  iterate 6 (refine Tryz.mix_calm (fun K hK => ?_); unfold Tryz.calm; go_simp; refine hK _ ?_; clear hK K)
  have kE2 := kE.trans (Tryz.drew_ext w1)
  have q0 : w1.drew.heap[w.heap.size]? = _ := k0
  clear kE k0
  refine Tryz.mix_step (by kernel_rfl) (fun K hK => ?_)
  go_simp
  refine (H19.out _ _ _).mono ?_
  rintro e w' ⟨rfl, rfl⟩
  refine hK _ _ ⟨⟨_, HPW.out _ q0⟩, rfl⟩ ?_
  clear hK K
  refine Tryz.mix_step (by kernel_rfl) (fun K hK => ?_)
  go_simp
  refine (H19.out _ _ _).mono ?_
  rintro e w' ⟨rfl, rfl⟩
  refine hK _ _ ⟨⟨_, HPW.out _ q0⟩, rfl⟩ ?_
  clear hK K
  generalize w1.drew = w' at q0 kE2 ⊢
  refine Tryz.mix_step (by kernel_rfl) (fun K hK => ?_)
  go_simp
  refine hK _ _ ⟨⟨w', HPW.out _ q0⟩, rfl⟩ ?_
  clear hK K
  refine Tryz.mix_step (by kernel_rfl) (fun K hK => ?_)
  go_simp
  refine hK _ _ ⟨⟨w', HPW.out _ q0⟩, rfl⟩ ?_
  clear hK K
  have f3 := Tryz.bcell (j := 3) q0 rfl
  refine Tryz.mix_step (by kernel_rfl) (fun K hK => ?_)
  go_simp
  refine hK _ _ ⟨⟨w', HPW.out _ q0⟩, rfl⟩ ?_
  clear hK K f3
  refine Tryz.mix_step (by kernel_rfl) (fun K hK => ?_)
  go_simp
  refine (H57.out _).mono ?_
  rintro e w' ⟨rfl, rfl⟩
  refine hK _ _ ⟨⟨w', HPW.out _ q0⟩, rfl⟩ ?_
  clear hK K
  refine Tryz.mix_step (by kernel_rfl) (fun K hK => ?_)
  go_simp
  refine hK _ _ ⟨⟨w', HPW.out _ q0⟩, rfl⟩ ?_
  clear hK K
  refine Tryz.mix_step (by kernel_rfl) (fun K hK => ?_)
  go_simp
  refine (H19.out _ _ _).mono ?_
  rintro e w' ⟨rfl, rfl⟩
  refine hK _ _ ⟨⟨w', HPW.out _ q0⟩, rfl⟩ ?_
  clear hK K
  refine Tryz.mix_step (by kernel_rfl) (fun K hK => ?_)
  go_simp
  rw [Tryz.big_eq]
  obtain ⟨w3, hw3⟩ : ∃ w3, w3 = w'.alloc (Obj.cells #[Value.int IntKind.i64 (Tryz.orZero false 3), Value.int IntKind.i64 (Tryz.orZero (decide (256 < T.size)) 2), Value.int IntKind.i64 (Tryz.orZero (Lib.hasSuffix T.data.toList [32]) 5)] 25) := ⟨_, rfl⟩
  change K _ (w'.alloc (Obj.cells #[Value.int IntKind.i64 (Tryz.orZero false 3), Value.int IntKind.i64 (Tryz.orZero (decide (256 < T.size)) 2), Value.int IntKind.i64 (Tryz.orZero (Lib.hasSuffix T.data.toList [32]) 5)] 25))
  have r0 := Tryz.alloc_old q0 (Obj.cells #[Value.int IntKind.i64 (Tryz.orZero false 3), Value.int IntKind.i64 (Tryz.orZero (decide (256 < T.size)) 2), Value.int IntKind.i64 (Tryz.orZero (Lib.hasSuffix T.data.toList [32]) 5)] 25)
  rw [← hw3] at r0 ⊢
  have r2 : w3.heap[w'.heap.size]? = some (.cells (Tryz.i64c [Tryz.orZero false 3, Tryz.orZero (decide (256 < T.size)) 2, Tryz.orZero (Lib.hasSuffix T.data.toList [32]) 5]) 25) := by rw [hw3]; exact Tryz.bnew _ _
  have hE3 : Tryz.Ext w w3 := by rw [hw3]; exact Tryz.alloc_ext kE2 _
  clear hw3
  refine hK _ _ ⟨⟨w3, HPW.out _ r0⟩, rfl⟩ ?_
  clear hK K
  refine Tryz.mix_step (by kernel_rfl) (fun K hK => ?_)
  go_simp
  refine (H27.out _ _ _ (by simp) fun i x hi => Tryz.bcell r2 (Tryz.i64c_get hi)).mono ?_
  rintro e w5 ⟨rfl, rfl⟩
  refine hK _ _ ⟨⟨_, HPW.out _ r0⟩, rfl⟩ ?_
  clear hK K
  refine Tryz.mix_step (by kernel_rfl) (fun K hK => ?_)
  go_simp
  refine hK _ _ ⟨⟨_, HPW.out _ r0⟩, rfl⟩ ?_
  refine Tryz.mix_nil ?_
  have HE := Lib.hid hE3
  clear hK K c3 this q0 kE2 r0 r2 HPW hE3
  go_wp2
  go_ret
  exact ⟨rfl, HE.out⟩
set_option maxRecDepth 100000 in
set_option maxHeartbeats 4000000 in
theorem Tryz.valueErr28g2 (K : Int) (T : ByteArray) (h1 : ¬ K = 1) (h2 : ¬ K = 2) (h3 : (K != 2) = true) (hT : T.toList.isEmpty = false) (hL : T.size ≤ 300) (w : World) :
    Calls Tryz.prog 28 #[.agg #[.int .i64 K, .int .i64 0, .int .i64 0, .string T]] w fun e w' =>
      e = .returned (.int .i64 (Tryz.firstF [Tryz.orZero false 3, Tryz.orZero (decide (256 < T.size)) 2, Tryz.orZero true 5])) ∧ Tryz.Ext w w' := by
  have H57 := Lib.hid (fun w => Tryz.suffix57 T ⟨#[32]⟩ w (by omega))
  have H19 := Lib.hid (fun b k w => Tryz.cond19 b k w)
  have H27 := Lib.hid (fun l b w h => Tryz.first27 l b 3 w h)
  go_enter Tryz.func28, Tryz.ntmps28
  go_wp2
  obtain ⟨w1, hW⟩ : ∃ w1, w1 = w.alloc (Obj.cells #[Value.int IntKind.i64 K, Value.int IntKind.i64 0, Value.int IntKind.i64 0, Value.string T] 35) := ⟨_, rfl⟩
  rw [← hW]
  have k0 : w1.heap[w.heap.size]? = some (Obj.cells #[Value.int IntKind.i64 K, Value.int IntKind.i64 0, Value.int IntKind.i64 0, Value.string T] 35) := by rw [hW]; exact Tryz.bnew _ _
  have kE : Tryz.Ext w w1 := by rw [hW]; exact Tryz.alloc_ext (.refl _) _
  clear hW
  obtain ⟨p, hpW, hpO⟩ := Tryz.hideP fun w' => w'.heap[w.heap.size]? = some (Obj.cells #[Value.int IntKind.i64 K, Value.int IntKind.i64 0, Value.int IntKind.i64 0, Value.string T] 35)
  haveI : Nonempty (Tryz.InC p) := ⟨⟨w1, hpW w1 k0⟩⟩
  have c3 : ∀ x : Tryz.InC p, x.w.cell? ⟨w.heap.size, 3, none⟩ = some (.string T) := fun x => Tryz.bcell (j := 3) (hpO _ x.h) rfl
  have HPW := Lib.hid hpW
  clear hpW hpO
  refine Tryz.region_order (C := fun w' => ∃ x : Tryz.InC p, w' = x.w)
    [(true, 0), (true, 2), (true, 3), (true, 4), (true, 5), (true, 7), (false, 1), (false, 6), (false, 8), (false, 9), (false, 10), (false, 11), (false, 12), (false, 13), (false, 14), (false, 15), (false, 16)] (by kernel_rfl) (by kernel_rfl) ⟨⟨{ w1 with drawn := w1.drawn + 1 }, HPW.out _ k0⟩, rfl⟩ ?_
  simp only [Tryz.picks, List.filterMap_cons, List.filterMap_nil, List.getElem?_cons_succ, List.getElem?_cons_zero, Option.map_some]
  iterate 6 (refine Tryz.mix_calm (fun K hK => ?_); unfold Tryz.calm; go_simp; refine hK _ ?_; clear hK K)
  have kE2 := kE.trans (Tryz.drew_ext w1)
  have q0 : w1.drew.heap[w.heap.size]? = _ := k0
  clear kE k0
  refine Tryz.mix_step (by kernel_rfl) (fun K hK => ?_)
  go_simp
  refine (H19.out _ _ _).mono ?_
  rintro e w' ⟨rfl, rfl⟩
  refine hK _ _ ⟨⟨_, HPW.out _ q0⟩, rfl⟩ ?_
  clear hK K
  refine Tryz.mix_step (by kernel_rfl) (fun K hK => ?_)
  go_simp
  refine (H19.out _ _ _).mono ?_
  rintro e w' ⟨rfl, rfl⟩
  refine hK _ _ ⟨⟨_, HPW.out _ q0⟩, rfl⟩ ?_
  clear hK K
  generalize w1.drew = w' at q0 kE2 ⊢
  refine Tryz.mix_step (by kernel_rfl) (fun K hK => ?_)
  go_simp
  refine hK _ _ ⟨⟨w', HPW.out _ q0⟩, rfl⟩ ?_
  clear hK K
  iterate 3 (refine Tryz.mix_skip (by kernel_rfl) ?_; go_simp)
  refine Tryz.mix_step (by kernel_rfl) (fun K hK => ?_)
  go_simp
  refine hK _ _ ⟨⟨w', HPW.out _ q0⟩, rfl⟩ ?_
  clear hK K
  refine Tryz.mix_step (by kernel_rfl) (fun K hK => ?_)
  go_simp
  refine (H19.out _ _ _).mono ?_
  rintro e w' ⟨rfl, rfl⟩
  refine hK _ _ ⟨⟨w', HPW.out _ q0⟩, rfl⟩ ?_
  clear hK K
  refine Tryz.mix_step (by kernel_rfl) (fun K hK => ?_)
  go_simp
  rw [Tryz.big_eq]
  obtain ⟨w3, hw3⟩ : ∃ w3, w3 = w'.alloc (Obj.cells #[Value.int IntKind.i64 (Tryz.orZero false 3), Value.int IntKind.i64 (Tryz.orZero (decide (256 < T.size)) 2), Value.int IntKind.i64 (Tryz.orZero (true) 5)] 25) := ⟨_, rfl⟩
  change K _ (w'.alloc (Obj.cells #[Value.int IntKind.i64 (Tryz.orZero false 3), Value.int IntKind.i64 (Tryz.orZero (decide (256 < T.size)) 2), Value.int IntKind.i64 (Tryz.orZero (true) 5)] 25))
  have r0 := Tryz.alloc_old q0 (Obj.cells #[Value.int IntKind.i64 (Tryz.orZero false 3), Value.int IntKind.i64 (Tryz.orZero (decide (256 < T.size)) 2), Value.int IntKind.i64 (Tryz.orZero (true) 5)] 25)
  rw [← hw3] at r0 ⊢
  have r2 : w3.heap[w'.heap.size]? = some (.cells (Tryz.i64c [Tryz.orZero false 3, Tryz.orZero (decide (256 < T.size)) 2, Tryz.orZero (true) 5]) 25) := by rw [hw3]; exact Tryz.bnew _ _
  have hE3 : Tryz.Ext w w3 := by rw [hw3]; exact Tryz.alloc_ext kE2 _
  clear hw3
  refine hK _ _ ⟨⟨w3, HPW.out _ r0⟩, rfl⟩ ?_
  clear hK K
  refine Tryz.mix_step (by kernel_rfl) (fun K hK => ?_)
  go_simp
  refine (H27.out _ _ _ (by simp) fun i x hi => Tryz.bcell r2 (Tryz.i64c_get hi)).mono ?_
  rintro e w5 ⟨rfl, rfl⟩
  refine hK _ _ ⟨⟨_, HPW.out _ r0⟩, rfl⟩ ?_
  clear hK K
  refine Tryz.mix_step (by kernel_rfl) (fun K hK => ?_)
  go_simp
  refine hK _ _ ⟨⟨_, HPW.out _ r0⟩, rfl⟩ ?_
  refine Tryz.mix_nil ?_
  have HE := Lib.hid hE3
  clear hK K c3 this q0 kE2 r0 r2 HPW hE3
  go_wp2
  go_ret
  exact ⟨rfl, HE.out⟩
/-- Whether the value's number is wrong; whether it has what its kind must not have. -/
def Tryz.wrongB (K N S : Int) : Bool := K == 1 && (!Tryz.numOk N S || (decide (0 < S) && N.tmod 10 == 0))
def Tryz.extraB (K N S : Int) (T : ByteArray) : Bool := (K != 1 && !(N == 0 && S == 0)) || (K != 2 && T.size != 0)
theorem Tryz.empty_size (T : ByteArray) : T.toList.isEmpty = (T.size == 0) := by
  rw [ByteArray.toList_eq, Bool.eq_iff_iff, List.isEmpty_iff, beq_iff_eq, ← List.length_eq_zero_iff]; rfl
theorem Tryz.valueErr28 (K N S : Int) (T : ByteArray) (hL : T.size ≤ 300) (w : World) :
    Calls Tryz.prog 28 #[.agg #[.int .i64 K, .int .i64 N, .int .i64 S, .string T]] w fun e w' =>
      e = .returned (.int .i64 (Tryz.firstF [Tryz.orZero (Tryz.wrongB K N S) 3, Tryz.orZero (decide (256 < T.size)) 2, Tryz.orZero (Tryz.extraB K N S T || Lib.hasSuffix T.data.toList [32]) 5])) ∧ Tryz.Ext w w' := by
  have hT := Tryz.empty_size T
  by_cases h1 : K = 1
  · subst h1
    have hx : Tryz.extraB 1 N S T = (T.size != 0) := by simp [Tryz.extraB]
    rw [hx]
    cases hE : T.toList.isEmpty
    · rw [hE] at hT
      rw [show (T.size != 0) = true by rw [bne, ← hT]; rfl, Bool.true_or]
      cases ho : Tryz.numOk N S
      · rw [show Tryz.wrongB 1 N S = true by simp [Tryz.wrongB, ho]]; exact Tryz.valueErr28a2 N S T ho hE hL w
      · by_cases hs : 0 < S
        · cases hm : N.tmod 10 == 0
          · rw [show Tryz.wrongB 1 N S = false by simp [Tryz.wrongB, ho, hm]]; exact Tryz.valueErr28d2 N S T ho hs hm hE hL w
          · rw [show Tryz.wrongB 1 N S = true by simp [Tryz.wrongB, ho, hm, hs]]; exact Tryz.valueErr28c2 N S T ho hs (by simpa using hm) hE hL w
        · rw [show Tryz.wrongB 1 N S = false by simp [Tryz.wrongB, ho, hs]]; exact Tryz.valueErr28b2 N S T ho hs hE hL w
    · rw [hE] at hT
      rw [show (T.size != 0) = false by rw [bne, ← hT]; rfl, Bool.false_or]
      cases ho : Tryz.numOk N S
      · rw [show Tryz.wrongB 1 N S = true by simp [Tryz.wrongB, ho]]; exact Tryz.valueErr28a1 N S T ho hE hL w
      · by_cases hs : 0 < S
        · cases hm : N.tmod 10 == 0
          · rw [show Tryz.wrongB 1 N S = false by simp [Tryz.wrongB, ho, hm]]; exact Tryz.valueErr28d1 N S T ho hs hm hE hL w
          · rw [show Tryz.wrongB 1 N S = true by simp [Tryz.wrongB, ho, hm, hs]]; exact Tryz.valueErr28c1 N S T ho hs (by simpa using hm) hE hL w
        · rw [show Tryz.wrongB 1 N S = false by simp [Tryz.wrongB, ho, hs]]; exact Tryz.valueErr28b1 N S T ho hs hE hL w
  · rw [show Tryz.wrongB K N S = false by simp [Tryz.wrongB, h1]]
    by_cases hz : N = 0
    · subst hz
      by_cases hy : S = 0
      · subst hy
        by_cases h2 : K = 2
        · subst h2
          rw [show Tryz.extraB 2 0 0 T = false by simp [Tryz.extraB], Bool.false_or]
          exact Tryz.valueErr28f T hL w
        · have h3 : (K != 2) = true := by simpa using h2
          rw [show Tryz.extraB K 0 0 T = (T.size != 0) by simp [Tryz.extraB, h3]]
          cases hE : T.toList.isEmpty
          · rw [hE] at hT
            rw [show (T.size != 0) = true by rw [bne, ← hT]; rfl, Bool.true_or]
            exact Tryz.valueErr28g2 K T h1 h2 h3 hE hL w
          · rw [hE] at hT
            rw [show (T.size != 0) = false by rw [bne, ← hT]; rfl, Bool.false_or]
            exact Tryz.valueErr28g1 K T h1 h2 h3 hE hL w
      · rw [show Tryz.extraB K 0 S T = true by simp [Tryz.extraB, h1, hy], Bool.true_or]
        exact Tryz.valueErr28e2 K S T h1 hy hL w
    · rw [show Tryz.extraB K N S T = true by simp [Tryz.extraB, h1, hz], Bool.true_or]
      exact Tryz.valueErr28e1 K N S T h1 hz hL w
end Go.Proofs
