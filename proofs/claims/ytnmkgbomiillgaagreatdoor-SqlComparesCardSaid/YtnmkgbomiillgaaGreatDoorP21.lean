/- Part 21 of the proof. -/
import Derived.Test.YtnmkgbomiillgaaGreatDoorP20
/- The reference's long numbers: aligned. -/
namespace Go.Proofs
open Go.RowKit
/-- A slice of the digits of a number with zeros behind it. -/
structure Tryz.LongIs (w : World) (v : Value) (N : Int) (z : Nat) : Prop where
  sl : ∃ l, Tryz.Lies w v l ∧ Tryz.dv l = N.natAbs * 10 ^ z ∧ Tryz.Dig l ∧ Tryz.Trim l ∧ l.length ≤ 100
theorem Tryz.LongIs.ext {w w' : World} {v : Value} {N : Int} {z : Nat} (h : Tryz.LongIs w v N z) (e : Tryz.Ext w w') : Tryz.LongIs w' v N z := by
  obtain ⟨l, h1, h2⟩ := h.sl
  exact ⟨l, h1.ext e, h2⟩
/-- A row that does not begin with a number is none of the digits. -/
theorem Tryz.LongIs.set {w : World} {v : Value} {N : Int} {z q : Nat} {c : Array Value} {t : TypeId} (h : Tryz.LongIs w v N z) (hq : w.heap[q]? = some (.cells c t)) (hc : ∀ x : Int, c[0]? ≠ some (.int .i64 x)) (j : Nat) (u : Value) : Tryz.LongIs (w.setCell ⟨q, j, none⟩ u) v N z := by
  obtain ⟨l, ⟨b, cap, h1, h2, h3⟩, h4⟩ := h.sl
  refine ⟨l, ⟨b, cap, h1, h2, fun i x hx => ?_⟩, h4⟩
  have hb : b ≠ q := by
    rintro rfl
    obtain ⟨y, hy⟩ : ∃ y, l[0]? = some y := ⟨_, List.getElem?_eq_getElem (by have := (List.getElem?_eq_some_iff.1 hx).1; omega)⟩
    have := h3 0 y hy
    rw [World.cell?] at this
    simp only [hq] at this
    exact hc _ (by simpa using this)
  rw [World.cell?_of_block (w := w) (Tryz.bother hb)]
  exact h3 i x hx
theorem Tryz.bnoint {b : Bool} {v : Value} : ∀ x : Int, (#[Value.bool b, v] : Array Value)[0]? ≠ some (.int .i64 x) := fun x h => by simp at h
set_option maxRecDepth 100000 in
set_option maxHeartbeats 4000000 in
theorem Tryz.aligned122a (N M : Int) (S R : Nat) (hN : N.natAbs ≤ 999999999999999) (hM : M.natAbs ≤ 999999999999999) (hR : R ≤ 15) (hlt : S < R) (w : World) :
    Calls Tryz.prog 122 #[.agg #[.int .i64 N, .int .i64 S], .agg #[.int .i64 M, .int .i64 R]] w fun e w' =>
      ∃ v1 v2, e = .returned (.tuple #[.agg #[.bool (decide (N < 0)), v1], .agg #[.bool (decide (M < 0)), v2], .int .i64 R]) ∧ Tryz.LongIs w' v1 N (R - S) ∧ Tryz.LongIs w' v2 M 0 ∧ Tryz.Ext w w' := by
  have H1 := Lib.hid (fun w => Tryz.longOf192 N (R - S) hN (by omega) w)
  have H2 := Lib.hid (fun w => Tryz.longOf192 M 0 hM (by omega) w)
  have hmx : (S : Int) < (R : Int) := by omega
  have hw1 : IntKind.i64.wrap ((R : Int) - (S : Int)) = ((R - S : Nat) : Int) := by rw [IntKind.wrap_i64] <;> omega
  have hw2 : IntKind.i64.wrap (0 : Int) = 0 := by kernel_rfl
  go_enter Tryz.func122, Tryz.ntmps122
  go_wp2
  obtain ⟨W, hW⟩ : ∃ W, W = (((w.alloc (Obj.cells #[Value.int IntKind.i64 N, Value.int IntKind.i64 ↑S] 33)).alloc (Obj.cells #[Value.int IntKind.i64 M, Value.int IntKind.i64 ↑R] 33)).alloc (Obj.cells #[Value.bool false, Value.slice none 0 0] 190)).alloc (Obj.cells #[Value.bool false, Value.slice none 0 0] 190) := ⟨_, rfl⟩
  rw [← hW]
  have k0 : W.heap[w.heap.size]? = some (Obj.cells #[Value.int IntKind.i64 N, Value.int IntKind.i64 ↑S] 33) := by rw [hW]; exact Tryz.alloc_old (Tryz.alloc_old (Tryz.alloc_old (Tryz.bnew _ _) _) _) _
  have k1 : W.heap[w.heap.size + 1]? = some (Obj.cells #[Value.int IntKind.i64 M, Value.int IntKind.i64 ↑R] 33) := by rw [hW]; exact Tryz.alloc_old (Tryz.alloc_old (Tryz.alloc_at (Tryz.alloc_sz rfl _) _) _) _
  have k2 : W.heap[w.heap.size + 1 + 1]? = some (Obj.cells #[Value.bool false, Value.slice none 0 0] 190) := by rw [hW]; exact Tryz.alloc_old (Tryz.alloc_at (Tryz.alloc_sz (Tryz.alloc_sz rfl _) _) _) _
  have k3 : W.heap[w.heap.size + 1 + 1 + 1]? = some (Obj.cells #[Value.bool false, Value.slice none 0 0] 190) := by rw [hW]; exact Tryz.alloc_at (Tryz.alloc_sz (Tryz.alloc_sz (Tryz.alloc_sz rfl _) _) _) _
  have kE : Tryz.Ext w W := by rw [hW]; exact Tryz.alloc_ext (Tryz.alloc_ext (Tryz.alloc_ext (Tryz.alloc_ext (.refl _) _) _) _) _
  clear hW
  obtain ⟨p, hpW, hpO⟩ := Tryz.hideP fun w' => w'.heap[w.heap.size]? = some (Obj.cells #[Value.int IntKind.i64 N, Value.int IntKind.i64 ↑S] 33) ∧ w'.heap[w.heap.size + 1]? = some (Obj.cells #[Value.int IntKind.i64 M, Value.int IntKind.i64 ↑R] 33)
  haveI : Nonempty (Tryz.InC p) := ⟨⟨W, hpW W ⟨k0, k1⟩⟩⟩
  have c0 : ∀ x : Tryz.InC p, x.w.cell? ⟨w.heap.size, 0, none⟩ = some (.int .i64 N) := fun x => Tryz.bcell (j := 0) (hpO _ x.h).1 rfl
  have c1 : ∀ x : Tryz.InC p, x.w.cell? ⟨w.heap.size, 1, none⟩ = some (.int .i64 S) := fun x => Tryz.bcell (j := 1) (hpO _ x.h).1 rfl
  have d0 : ∀ x : Tryz.InC p, x.w.cell? ⟨w.heap.size + 1, 0, none⟩ = some (.int .i64 M) := fun x => Tryz.bcell (j := 0) (hpO _ x.h).2 rfl
  have d1 : ∀ x : Tryz.InC p, x.w.cell? ⟨w.heap.size + 1, 1, none⟩ = some (.int .i64 R) := fun x => Tryz.bcell (j := 1) (hpO _ x.h).2 rfl
  have HPW := Lib.hid hpW
  clear hpW hpO
  refine Tryz.region_order (C := fun w' => ∃ x : Tryz.InC p, w' = x.w)
    [(true, 0), (true, 1), (true, 2), (true, 3), (true, 4), (true, 5), (true, 7), (true, 8), (true, 9), (true, 10), (true, 11), (true, 12), (true, 14), (false, 6), (false, 13), (false, 15), (false, 16), (false, 17)] (by kernel_rfl) (by kernel_rfl) ⟨⟨{ W with drawn := W.drawn + 1 }, HPW.out _ ⟨k0, k1⟩⟩, rfl⟩ ?_
  simp only [Tryz.picks, List.filterMap_cons, List.filterMap_nil, List.getElem?_cons_succ, List.getElem?_cons_zero, Option.map_some]
  iterate 13 (refine Tryz.mix_calm (fun K hK => ?_); unfold Tryz.calm; go_simp; refine hK _ ?_; clear hK K)
  replace kE := kE.trans (Tryz.drew_ext W)
  replace k0 : W.drew.heap[w.heap.size]? = _ := k0
  replace k1 : W.drew.heap[w.heap.size + 1]? = _ := k1
  replace k2 : W.drew.heap[w.heap.size + 1 + 1]? = _ := k2
  replace k3 : W.drew.heap[w.heap.size + 1 + 1 + 1]? = _ := k3
  change Tryz.wpMix _ _ _ _ _ _ W.drew
  revert kE k0 k1 k2 k3
  generalize W.drew = W
  intro kE k0 k1 k2 k3
  refine Tryz.mix_step (by kernel_rfl) (fun K hK => ?_)
  go_simp
  refine (H1.out _).mono ?_
  rintro e w1 ⟨v, l1, rfl, hl1, hx, hr1⟩
  replace kE := kE.trans hx
  replace k0 := (hx.old _ (Array.getElem?_eq_some_iff.1 k0).1).trans k0
  replace k1 := (hx.old _ (Array.getElem?_eq_some_iff.1 k1).1).trans k1
  replace k2 := (hx.old _ (Array.getElem?_eq_some_iff.1 k2).1).trans k2
  replace k3 := (hx.old _ (Array.getElem?_eq_some_iff.1 k3).1).trans k3
  refine hK _ _ ⟨⟨w1, HPW.out _ ⟨k0, k1⟩⟩, rfl⟩ ?_
  have L1 : Tryz.LongIs w1 v N (R - S) := ⟨l1, hl1, hr1⟩
  obtain ⟨b1, cap1, rfl, _⟩ := hl1.sl
  clear hK K hx hl1 hr1
  refine Tryz.mix_step (by kernel_rfl) (fun K hK => ?_)
  go_simp
  refine (H2.out _).mono ?_
  rintro e w2 ⟨v, l2, rfl, hl2, hx, hr2⟩
  replace kE := kE.trans hx
  replace k0 := (hx.old _ (Array.getElem?_eq_some_iff.1 k0).1).trans k0
  replace k1 := (hx.old _ (Array.getElem?_eq_some_iff.1 k1).1).trans k1
  replace k2 := (hx.old _ (Array.getElem?_eq_some_iff.1 k2).1).trans k2
  replace k3 := (hx.old _ (Array.getElem?_eq_some_iff.1 k3).1).trans k3
  replace L1 := L1.ext hx
  refine hK _ _ ⟨⟨w2, HPW.out _ ⟨k0, k1⟩⟩, rfl⟩ ?_
  have L2 : Tryz.LongIs w2 v M 0 := ⟨l2, hl2, hr2⟩
  obtain ⟨b2, cap2, rfl, _⟩ := hl2.sl
  clear hK K hx hl2 hr2
  have g0 := Tryz.bcell (j := 0) k2 rfl; have g1 := Tryz.bcell (j := 1) k2 rfl; have e0 := Tryz.bfrozen (j := 0) k2; have e1 := Tryz.bfrozen (j := 1) k2
  refine Tryz.mix_step (by kernel_rfl) (fun K hK => ?_)
  go_simp
  change K _ ((w2.setCell ⟨w.heap.size + 1 + 1, 0, none⟩ (.bool (decide (N < 0)))).setCell ⟨w.heap.size + 1 + 1, 1, none⟩ (.slice (some ⟨b1, 0, none⟩) l1.length cap1))
  have s2 := Tryz.bset (j := 0) (v := .bool (decide (N < 0))) k2
  have r2 := Tryz.bset (j := 1) (v := .slice (some ⟨b1, 0, none⟩) l1.length cap1) s2
  have r0 := (Tryz.bother2 (u := .bool (decide (N < 0))) (v := .slice (some ⟨b1, 0, none⟩) l1.length cap1) (show w.heap.size ≠ w.heap.size + 1 + 1 by omega)).trans k0
  have r1 := (Tryz.bother2 (u := .bool (decide (N < 0))) (v := .slice (some ⟨b1, 0, none⟩) l1.length cap1) (show w.heap.size + 1 ≠ w.heap.size + 1 + 1 by omega)).trans k1
  have r3 := (Tryz.bother2 (u := .bool (decide (N < 0))) (v := .slice (some ⟨b1, 0, none⟩) l1.length cap1) (show w.heap.size + 1 + 1 + 1 ≠ w.heap.size + 1 + 1 by omega)).trans k3
  replace L1 := (L1.set k2 Tryz.bnoint 0 (.bool (decide (N < 0)))).set s2 Tryz.bnoint 1 (.slice (some ⟨b1, 0, none⟩) l1.length cap1)
  replace L2 := (L2.set k2 Tryz.bnoint 0 (.bool (decide (N < 0)))).set s2 Tryz.bnoint 1 (.slice (some ⟨b1, 0, none⟩) l1.length cap1)
  have rE : Tryz.Ext w ((w2.setCell ⟨w.heap.size + 1 + 1, 0, none⟩ (.bool (decide (N < 0)))).setCell ⟨w.heap.size + 1 + 1, 1, none⟩ (.slice (some ⟨b1, 0, none⟩) l1.length cap1)) := Tryz.set_ext (Tryz.set_ext kE (by omega) _) (by omega) _
  clear s2
  revert hK
  generalize ((w2.setCell ⟨w.heap.size + 1 + 1, 0, none⟩ (.bool (decide (N < 0)))).setCell ⟨w.heap.size + 1 + 1, 1, none⟩ (.slice (some ⟨b1, 0, none⟩) l1.length cap1)) = w3 at r0 r1 r2 r3 rE L1 L2 ⊢
  intro hK
  refine hK _ _ ⟨⟨w3, HPW.out _ ⟨r0, r1⟩⟩, rfl⟩ ?_
  clear hK K g0 g1 e0 e1 k0 k1 k2 k3 kE
  have g0 := Tryz.bcell (j := 0) r3 rfl; have g1 := Tryz.bcell (j := 1) r3 rfl; have e0 := Tryz.bfrozen (j := 0) r3; have e1 := Tryz.bfrozen (j := 1) r3
  refine Tryz.mix_step (by kernel_rfl) (fun K hK => ?_)
  go_simp
  change K _ ((w3.setCell ⟨w.heap.size + 1 + 1 + 1, 0, none⟩ (.bool (decide (M < 0)))).setCell ⟨w.heap.size + 1 + 1 + 1, 1, none⟩ (.slice (some ⟨b2, 0, none⟩) l2.length cap2))
  have t3 := Tryz.bset (j := 0) (v := .bool (decide (M < 0))) r3
  have s3 := Tryz.bset (j := 1) (v := .slice (some ⟨b2, 0, none⟩) l2.length cap2) t3
  have s0 := (Tryz.bother2 (u := .bool (decide (M < 0))) (v := .slice (some ⟨b2, 0, none⟩) l2.length cap2) (show w.heap.size ≠ w.heap.size + 1 + 1 + 1 by omega)).trans r0
  have s1 := (Tryz.bother2 (u := .bool (decide (M < 0))) (v := .slice (some ⟨b2, 0, none⟩) l2.length cap2) (show w.heap.size + 1 ≠ w.heap.size + 1 + 1 + 1 by omega)).trans r1
  have s2 := (Tryz.bother2 (u := .bool (decide (M < 0))) (v := .slice (some ⟨b2, 0, none⟩) l2.length cap2) (show w.heap.size + 1 + 1 ≠ w.heap.size + 1 + 1 + 1 by omega)).trans r2
  replace L1 := (L1.set r3 Tryz.bnoint 0 (.bool (decide (M < 0)))).set t3 Tryz.bnoint 1 (.slice (some ⟨b2, 0, none⟩) l2.length cap2)
  replace L2 := (L2.set r3 Tryz.bnoint 0 (.bool (decide (M < 0)))).set t3 Tryz.bnoint 1 (.slice (some ⟨b2, 0, none⟩) l2.length cap2)
  have sE : Tryz.Ext w ((w3.setCell ⟨w.heap.size + 1 + 1 + 1, 0, none⟩ (.bool (decide (M < 0)))).setCell ⟨w.heap.size + 1 + 1 + 1, 1, none⟩ (.slice (some ⟨b2, 0, none⟩) l2.length cap2)) := Tryz.set_ext (Tryz.set_ext rE (by omega) _) (by omega) _
  clear t3
  revert hK
  generalize ((w3.setCell ⟨w.heap.size + 1 + 1 + 1, 0, none⟩ (.bool (decide (M < 0)))).setCell ⟨w.heap.size + 1 + 1 + 1, 1, none⟩ (.slice (some ⟨b2, 0, none⟩) l2.length cap2)) = w4 at s0 s1 s2 s3 sE L1 L2 ⊢
  intro hK
  refine hK _ _ ⟨⟨w4, HPW.out _ ⟨s0, s1⟩⟩, rfl⟩ ?_
  clear hK K g0 g1 e0 e1 r0 r1 r2 r3 rE
  refine Tryz.mix_step (by kernel_rfl) (fun K hK => ?_)
  go_simp
  refine hK _ _ ⟨⟨w4, HPW.out _ ⟨s0, s1⟩⟩, rfl⟩ ?_
  refine Tryz.mix_nil ?_
  have HS2 := Lib.hid s2
  have HS3 := Lib.hid s3
  have HE := Lib.hid sE
  have HL1 := Lib.hid L1
  have HL2 := Lib.hid L2
  clear hK K c0 c1 d0 d1 this s0 s1 s2 s3 sE L1 L2 HPW
  go_wp2
  refine bodyPost_ret (v := .tuple #[.agg #[.bool (decide (N < 0)), .slice (some ⟨b1, 0, none⟩) l1.length cap1], .agg #[.bool (decide (M < 0)), .slice (some ⟨b2, 0, none⟩) l2.length cap2], .int .i64 R]) ?_ rfl ⟨_, _, rfl, HL1.out, HL2.out, HE.out⟩
  exact Tryz.results_cct (p := 4) (q := 5) (u := 6) rfl _ _ _ _ _ _ rfl rfl (run_loadVar_row _ _ _ _ _ _ _ HS2.out Tryz.underlying190 rfl (by kernel_rfl)) (run_loadVar_row _ _ _ _ _ _ _ HS3.out Tryz.underlying190 rfl (by kernel_rfl))
set_option maxRecDepth 100000 in
set_option maxHeartbeats 4000000 in
theorem Tryz.aligned122b (N M : Int) (S R : Nat) (hN : N.natAbs ≤ 999999999999999) (hM : M.natAbs ≤ 999999999999999) (hS : S ≤ 15) (hlt : R ≤ S) (w : World) :
    Calls Tryz.prog 122 #[.agg #[.int .i64 N, .int .i64 S], .agg #[.int .i64 M, .int .i64 R]] w fun e w' =>
      ∃ v1 v2, e = .returned (.tuple #[.agg #[.bool (decide (N < 0)), v1], .agg #[.bool (decide (M < 0)), v2], .int .i64 S]) ∧ Tryz.LongIs w' v1 N 0 ∧ Tryz.LongIs w' v2 M (S - R) ∧ Tryz.Ext w w' := by
  have H1 := Lib.hid (fun w => Tryz.longOf192 N 0 hN (by omega) w)
  have H2 := Lib.hid (fun w => Tryz.longOf192 M (S - R) hM (by omega) w)
  have hmx : ¬ (S : Int) < (R : Int) := by omega
  have hw1 : IntKind.i64.wrap ((S : Int) - (R : Int)) = ((S - R : Nat) : Int) := by rw [IntKind.wrap_i64] <;> omega
  have hw2 : IntKind.i64.wrap (0 : Int) = 0 := by kernel_rfl
  go_enter Tryz.func122, Tryz.ntmps122
  go_wp2
  obtain ⟨W, hW⟩ : ∃ W, W = (((w.alloc (Obj.cells #[Value.int IntKind.i64 N, Value.int IntKind.i64 ↑S] 33)).alloc (Obj.cells #[Value.int IntKind.i64 M, Value.int IntKind.i64 ↑R] 33)).alloc (Obj.cells #[Value.bool false, Value.slice none 0 0] 190)).alloc (Obj.cells #[Value.bool false, Value.slice none 0 0] 190) := ⟨_, rfl⟩
  rw [← hW]
  have k0 : W.heap[w.heap.size]? = some (Obj.cells #[Value.int IntKind.i64 N, Value.int IntKind.i64 ↑S] 33) := by rw [hW]; exact Tryz.alloc_old (Tryz.alloc_old (Tryz.alloc_old (Tryz.bnew _ _) _) _) _
  have k1 : W.heap[w.heap.size + 1]? = some (Obj.cells #[Value.int IntKind.i64 M, Value.int IntKind.i64 ↑R] 33) := by rw [hW]; exact Tryz.alloc_old (Tryz.alloc_old (Tryz.alloc_at (Tryz.alloc_sz rfl _) _) _) _
  have k2 : W.heap[w.heap.size + 1 + 1]? = some (Obj.cells #[Value.bool false, Value.slice none 0 0] 190) := by rw [hW]; exact Tryz.alloc_old (Tryz.alloc_at (Tryz.alloc_sz (Tryz.alloc_sz rfl _) _) _) _
  have k3 : W.heap[w.heap.size + 1 + 1 + 1]? = some (Obj.cells #[Value.bool false, Value.slice none 0 0] 190) := by rw [hW]; exact Tryz.alloc_at (Tryz.alloc_sz (Tryz.alloc_sz (Tryz.alloc_sz rfl _) _) _) _
  have kE : Tryz.Ext w W := by rw [hW]; exact Tryz.alloc_ext (Tryz.alloc_ext (Tryz.alloc_ext (Tryz.alloc_ext (.refl _) _) _) _) _
  clear hW
  obtain ⟨p, hpW, hpO⟩ := Tryz.hideP fun w' => w'.heap[w.heap.size]? = some (Obj.cells #[Value.int IntKind.i64 N, Value.int IntKind.i64 ↑S] 33) ∧ w'.heap[w.heap.size + 1]? = some (Obj.cells #[Value.int IntKind.i64 M, Value.int IntKind.i64 ↑R] 33)
  haveI : Nonempty (Tryz.InC p) := ⟨⟨W, hpW W ⟨k0, k1⟩⟩⟩
  have c0 : ∀ x : Tryz.InC p, x.w.cell? ⟨w.heap.size, 0, none⟩ = some (.int .i64 N) := fun x => Tryz.bcell (j := 0) (hpO _ x.h).1 rfl
  have c1 : ∀ x : Tryz.InC p, x.w.cell? ⟨w.heap.size, 1, none⟩ = some (.int .i64 S) := fun x => Tryz.bcell (j := 1) (hpO _ x.h).1 rfl
  have d0 : ∀ x : Tryz.InC p, x.w.cell? ⟨w.heap.size + 1, 0, none⟩ = some (.int .i64 M) := fun x => Tryz.bcell (j := 0) (hpO _ x.h).2 rfl
  have d1 : ∀ x : Tryz.InC p, x.w.cell? ⟨w.heap.size + 1, 1, none⟩ = some (.int .i64 R) := fun x => Tryz.bcell (j := 1) (hpO _ x.h).2 rfl
  have HPW := Lib.hid hpW
  clear hpW hpO
  refine Tryz.region_order (C := fun w' => ∃ x : Tryz.InC p, w' = x.w)
    [(true, 0), (true, 1), (true, 2), (true, 3), (true, 4), (true, 5), (true, 7), (true, 8), (true, 9), (true, 10), (true, 11), (true, 12), (true, 14), (false, 6), (false, 13), (false, 15), (false, 16), (false, 17)] (by kernel_rfl) (by kernel_rfl) ⟨⟨{ W with drawn := W.drawn + 1 }, HPW.out _ ⟨k0, k1⟩⟩, rfl⟩ ?_
  simp only [Tryz.picks, List.filterMap_cons, List.filterMap_nil, List.getElem?_cons_succ, List.getElem?_cons_zero, Option.map_some]
  iterate 13 (refine Tryz.mix_calm (fun K hK => ?_); unfold Tryz.calm; go_simp; refine hK _ ?_; clear hK K)
  replace kE := kE.trans (Tryz.drew_ext W)
  replace k0 : W.drew.heap[w.heap.size]? = _ := k0
  replace k1 : W.drew.heap[w.heap.size + 1]? = _ := k1
  replace k2 : W.drew.heap[w.heap.size + 1 + 1]? = _ := k2
  replace k3 : W.drew.heap[w.heap.size + 1 + 1 + 1]? = _ := k3
  change Tryz.wpMix _ _ _ _ _ _ W.drew
  revert kE k0 k1 k2 k3
  generalize W.drew = W
  intro kE k0 k1 k2 k3
  refine Tryz.mix_step (by kernel_rfl) (fun K hK => ?_)
  go_simp
  refine (H1.out _).mono ?_
  rintro e w1 ⟨v, l1, rfl, hl1, hx, hr1⟩
  replace kE := kE.trans hx
  replace k0 := (hx.old _ (Array.getElem?_eq_some_iff.1 k0).1).trans k0
  replace k1 := (hx.old _ (Array.getElem?_eq_some_iff.1 k1).1).trans k1
  replace k2 := (hx.old _ (Array.getElem?_eq_some_iff.1 k2).1).trans k2
  replace k3 := (hx.old _ (Array.getElem?_eq_some_iff.1 k3).1).trans k3
  refine hK _ _ ⟨⟨w1, HPW.out _ ⟨k0, k1⟩⟩, rfl⟩ ?_
  have L1 : Tryz.LongIs w1 v N 0 := ⟨l1, hl1, hr1⟩
  obtain ⟨b1, cap1, rfl, _⟩ := hl1.sl
  clear hK K hx hl1 hr1
  refine Tryz.mix_step (by kernel_rfl) (fun K hK => ?_)
  go_simp
  refine (H2.out _).mono ?_
  rintro e w2 ⟨v, l2, rfl, hl2, hx, hr2⟩
  replace kE := kE.trans hx
  replace k0 := (hx.old _ (Array.getElem?_eq_some_iff.1 k0).1).trans k0
  replace k1 := (hx.old _ (Array.getElem?_eq_some_iff.1 k1).1).trans k1
  replace k2 := (hx.old _ (Array.getElem?_eq_some_iff.1 k2).1).trans k2
  replace k3 := (hx.old _ (Array.getElem?_eq_some_iff.1 k3).1).trans k3
  replace L1 := L1.ext hx
  refine hK _ _ ⟨⟨w2, HPW.out _ ⟨k0, k1⟩⟩, rfl⟩ ?_
  have L2 : Tryz.LongIs w2 v M (S - R) := ⟨l2, hl2, hr2⟩
  obtain ⟨b2, cap2, rfl, _⟩ := hl2.sl
  clear hK K hx hl2 hr2
  have g0 := Tryz.bcell (j := 0) k2 rfl; have g1 := Tryz.bcell (j := 1) k2 rfl; have e0 := Tryz.bfrozen (j := 0) k2; have e1 := Tryz.bfrozen (j := 1) k2
  refine Tryz.mix_step (by kernel_rfl) (fun K hK => ?_)
  go_simp
  change K _ ((w2.setCell ⟨w.heap.size + 1 + 1, 0, none⟩ (.bool (decide (N < 0)))).setCell ⟨w.heap.size + 1 + 1, 1, none⟩ (.slice (some ⟨b1, 0, none⟩) l1.length cap1))
  have s2 := Tryz.bset (j := 0) (v := .bool (decide (N < 0))) k2
  have r2 := Tryz.bset (j := 1) (v := .slice (some ⟨b1, 0, none⟩) l1.length cap1) s2
  have r0 := (Tryz.bother2 (u := .bool (decide (N < 0))) (v := .slice (some ⟨b1, 0, none⟩) l1.length cap1) (show w.heap.size ≠ w.heap.size + 1 + 1 by omega)).trans k0
  have r1 := (Tryz.bother2 (u := .bool (decide (N < 0))) (v := .slice (some ⟨b1, 0, none⟩) l1.length cap1) (show w.heap.size + 1 ≠ w.heap.size + 1 + 1 by omega)).trans k1
  have r3 := (Tryz.bother2 (u := .bool (decide (N < 0))) (v := .slice (some ⟨b1, 0, none⟩) l1.length cap1) (show w.heap.size + 1 + 1 + 1 ≠ w.heap.size + 1 + 1 by omega)).trans k3
  replace L1 := (L1.set k2 Tryz.bnoint 0 (.bool (decide (N < 0)))).set s2 Tryz.bnoint 1 (.slice (some ⟨b1, 0, none⟩) l1.length cap1)
  replace L2 := (L2.set k2 Tryz.bnoint 0 (.bool (decide (N < 0)))).set s2 Tryz.bnoint 1 (.slice (some ⟨b1, 0, none⟩) l1.length cap1)
  have rE : Tryz.Ext w ((w2.setCell ⟨w.heap.size + 1 + 1, 0, none⟩ (.bool (decide (N < 0)))).setCell ⟨w.heap.size + 1 + 1, 1, none⟩ (.slice (some ⟨b1, 0, none⟩) l1.length cap1)) := Tryz.set_ext (Tryz.set_ext kE (by omega) _) (by omega) _
  clear s2
  revert hK
  generalize ((w2.setCell ⟨w.heap.size + 1 + 1, 0, none⟩ (.bool (decide (N < 0)))).setCell ⟨w.heap.size + 1 + 1, 1, none⟩ (.slice (some ⟨b1, 0, none⟩) l1.length cap1)) = w3 at r0 r1 r2 r3 rE L1 L2 ⊢
  intro hK
  refine hK _ _ ⟨⟨w3, HPW.out _ ⟨r0, r1⟩⟩, rfl⟩ ?_
  clear hK K g0 g1 e0 e1 k0 k1 k2 k3 kE
  have g0 := Tryz.bcell (j := 0) r3 rfl; have g1 := Tryz.bcell (j := 1) r3 rfl; have e0 := Tryz.bfrozen (j := 0) r3; have e1 := Tryz.bfrozen (j := 1) r3
  refine Tryz.mix_step (by kernel_rfl) (fun K hK => ?_)
  go_simp
  change K _ ((w3.setCell ⟨w.heap.size + 1 + 1 + 1, 0, none⟩ (.bool (decide (M < 0)))).setCell ⟨w.heap.size + 1 + 1 + 1, 1, none⟩ (.slice (some ⟨b2, 0, none⟩) l2.length cap2))
  have t3 := Tryz.bset (j := 0) (v := .bool (decide (M < 0))) r3
  have s3 := Tryz.bset (j := 1) (v := .slice (some ⟨b2, 0, none⟩) l2.length cap2) t3
  have s0 := (Tryz.bother2 (u := .bool (decide (M < 0))) (v := .slice (some ⟨b2, 0, none⟩) l2.length cap2) (show w.heap.size ≠ w.heap.size + 1 + 1 + 1 by omega)).trans r0
  have s1 := (Tryz.bother2 (u := .bool (decide (M < 0))) (v := .slice (some ⟨b2, 0, none⟩) l2.length cap2) (show w.heap.size + 1 ≠ w.heap.size + 1 + 1 + 1 by omega)).trans r1
  have s2 := (Tryz.bother2 (u := .bool (decide (M < 0))) (v := .slice (some ⟨b2, 0, none⟩) l2.length cap2) (show w.heap.size + 1 + 1 ≠ w.heap.size + 1 + 1 + 1 by omega)).trans r2
  replace L1 := (L1.set r3 Tryz.bnoint 0 (.bool (decide (M < 0)))).set t3 Tryz.bnoint 1 (.slice (some ⟨b2, 0, none⟩) l2.length cap2)
  replace L2 := (L2.set r3 Tryz.bnoint 0 (.bool (decide (M < 0)))).set t3 Tryz.bnoint 1 (.slice (some ⟨b2, 0, none⟩) l2.length cap2)
  have sE : Tryz.Ext w ((w3.setCell ⟨w.heap.size + 1 + 1 + 1, 0, none⟩ (.bool (decide (M < 0)))).setCell ⟨w.heap.size + 1 + 1 + 1, 1, none⟩ (.slice (some ⟨b2, 0, none⟩) l2.length cap2)) := Tryz.set_ext (Tryz.set_ext rE (by omega) _) (by omega) _
  clear t3
  revert hK
  generalize ((w3.setCell ⟨w.heap.size + 1 + 1 + 1, 0, none⟩ (.bool (decide (M < 0)))).setCell ⟨w.heap.size + 1 + 1 + 1, 1, none⟩ (.slice (some ⟨b2, 0, none⟩) l2.length cap2)) = w4 at s0 s1 s2 s3 sE L1 L2 ⊢
  intro hK
  refine hK _ _ ⟨⟨w4, HPW.out _ ⟨s0, s1⟩⟩, rfl⟩ ?_
  clear hK K g0 g1 e0 e1 r0 r1 r2 r3 rE
  refine Tryz.mix_step (by kernel_rfl) (fun K hK => ?_)
  go_simp
  refine hK _ _ ⟨⟨w4, HPW.out _ ⟨s0, s1⟩⟩, rfl⟩ ?_
  refine Tryz.mix_nil ?_
  have HS2 := Lib.hid s2
  have HS3 := Lib.hid s3
  have HE := Lib.hid sE
  have HL1 := Lib.hid L1
  have HL2 := Lib.hid L2
  clear hK K c0 c1 d0 d1 this s0 s1 s2 s3 sE L1 L2 HPW
  go_wp2
  refine bodyPost_ret (v := .tuple #[.agg #[.bool (decide (N < 0)), .slice (some ⟨b1, 0, none⟩) l1.length cap1], .agg #[.bool (decide (M < 0)), .slice (some ⟨b2, 0, none⟩) l2.length cap2], .int .i64 S]) ?_ rfl ⟨_, _, rfl, HL1.out, HL2.out, HE.out⟩
  exact Tryz.results_cct (p := 4) (q := 5) (u := 6) rfl _ _ _ _ _ _ rfl rfl (run_loadVar_row _ _ _ _ _ _ _ HS2.out Tryz.underlying190 rfl (by kernel_rfl)) (run_loadVar_row _ _ _ _ _ _ _ HS3.out Tryz.underlying190 rfl (by kernel_rfl))
theorem Tryz.aligned122 (N M : Int) (S R : Nat) (hN : N.natAbs ≤ 999999999999999) (hM : M.natAbs ≤ 999999999999999) (hS : S ≤ 15) (hR : R ≤ 15) (w : World) :
    Calls Tryz.prog 122 #[.agg #[.int .i64 N, .int .i64 S], .agg #[.int .i64 M, .int .i64 R]] w fun e w' =>
      ∃ v1 v2, e = .returned (.tuple #[.agg #[.bool (decide (N < 0)), v1], .agg #[.bool (decide (M < 0)), v2], .int .i64 (max S R : Nat)]) ∧ Tryz.LongIs w' v1 N (max S R - S) ∧ Tryz.LongIs w' v2 M (max S R - R) ∧ Tryz.Ext w w' := by
  rcases Nat.lt_or_ge S R with h | h
  · rw [Nat.max_eq_right (Nat.le_of_lt h), Nat.sub_self]; exact Tryz.aligned122a N M S R hN hM hR h w
  · rw [Nat.max_eq_left h, Nat.sub_self]; exact Tryz.aligned122b N M S R hN hM hS h w
end Go.Proofs
/- The reference's order of numbers. -/
namespace Go.Proofs
open Go.RowKit
set_option maxRecDepth 100000 in
set_option maxHeartbeats 4000000 in
theorem Tryz.order62a (N M : Int) (S R : Nat) (hN : N.natAbs ≤ 999999999999999) (hM : M.natAbs ≤ 999999999999999) (hS : S ≤ 15) (hR : R ≤ 15) (hZ : Tryz.sumZ (decide (N < 0)) (!decide (M < 0)) (N.natAbs * 10 ^ (max S R - S)) (M.natAbs * 10 ^ (max S R - R)) = true) (w : World) :
    Calls Tryz.prog 62 #[.agg #[.int .i64 N, .int .i64 S], .agg #[.int .i64 M, .int .i64 R]] w fun e w' => e = .returned (.int .i64 0) ∧ Tryz.Ext w w' := by
  have H1 := Lib.hid (fun w => Tryz.aligned122 N M S R hN hM hS hR w)
  have hEw : ∀ o o2, Tryz.Ext w ((w.alloc o).alloc o2) := fun _ _ => Tryz.alloc_ext (Tryz.alloc_ext (.refl _) _) _
  have HEw := Lib.hid hEw
  have H23 := Lib.hid (fun w => Tryz.count23 false w)
  rw [show Tryz.orZero false 1 = 0 from rfl] at H23
  clear hEw hN hM
  go_enter Tryz.func62, Tryz.ntmps62
  go_wp2_with (first
    | (go_at_call 122; refine (H1.out _).mono ?_; rintro e w1 ⟨v1, v2, rfl, hL1, hL2, hx⟩
       obtain ⟨l1, ⟨b1, cap1, rfl, hc1, hh1⟩, hd1, hD1, hT1, hn1⟩ := hL1.sl
       obtain ⟨l2, ⟨b2, cap2, rfl, hc2, hh2⟩, hd2, hD2, hT2, hn2⟩ := hL2.sl
       have hp1 : ∀ i x : Nat, l1[i]? = some x → b1 < w1.heap.size := fun i x h => World.block_lt_of_cell? w1 _ (hh1 i x h)
       have hp2 : ∀ i x : Nat, l2[i]? = some x → b2 < w1.heap.size := fun i x h => World.block_lt_of_cell? w1 _ (hh2 i x h)
       have hc := fun (w' : World) (e : Tryz.Ext w1 w') => Tryz.sum123 (decide (N < 0)) (!decide (M < 0)) l1 l2 b1 cap1 b2 cap2 w' (by omega) (by omega) hD1 hD2 hT1 hT2 (fun i x h => by rw [World.cell?_of_block (w := w1) (e.old b1 (hp1 i x h))]; exact hh1 i x h) (fun i x h => by rw [World.cell?_of_block (w := w1) (e.old b2 (hp2 i x h))]; exact hh2 i x h)
       rw [hd1, hd2] at hc
       have HC := Lib.hid hc
       have HX1 := Lib.hid ((HEw.out _ _).trans hx)
       clear hL1 hL2 hc1 hh1 hd1 hD1 hT1 hc2 hh2 hd2 hD2 hT2 hp1 hp2 hc hx hn1 hn2)
    | (go_at_call 123; refine (HC.out _ (Tryz.alloc_ext (Tryz.alloc_ext (.refl _) _) _)).mono ?_; rintro e w2 ⟨bb, v, rfl, ⟨sa, sn, sc, rfl, hz⟩, hb, hx⟩
       obtain rfl : sn = 0 := hz.2 hZ
       have HX2 := Lib.hid ((Tryz.alloc_ext (Tryz.alloc_ext HX1.out _) _).trans hx)
       clear hz hx)
    | (go_at_call 23; refine (H23.out _).mono ?_; rintro e w' ⟨rfl, rfl⟩))
  go_ret
  exact ⟨rfl, Tryz.alloc_ext HX2.out _⟩
set_option maxRecDepth 100000 in
set_option maxHeartbeats 4000000 in
theorem Tryz.order62b (N M : Int) (S R : Nat) (hN : N.natAbs ≤ 999999999999999) (hM : M.natAbs ≤ 999999999999999) (hS : S ≤ 15) (hR : R ≤ 15) (hZ : Tryz.sumZ (decide (N < 0)) (!decide (M < 0)) (N.natAbs * 10 ^ (max S R - S)) (M.natAbs * 10 ^ (max S R - R)) = false) (hB : Tryz.sumB (decide (N < 0)) (!decide (M < 0)) (N.natAbs * 10 ^ (max S R - S)) (M.natAbs * 10 ^ (max S R - R)) = false) (w : World) :
    Calls Tryz.prog 62 #[.agg #[.int .i64 N, .int .i64 S], .agg #[.int .i64 M, .int .i64 R]] w fun e w' => e = .returned (.int .i64 1) ∧ Tryz.Ext w w' := by
  have H1 := Lib.hid (fun w => Tryz.aligned122 N M S R hN hM hS hR w)
  have hEw : ∀ o o2, Tryz.Ext w ((w.alloc o).alloc o2) := fun _ _ => Tryz.alloc_ext (Tryz.alloc_ext (.refl _) _) _
  have HEw := Lib.hid hEw
  have H23 := Lib.hid (fun w => Tryz.count23 false w)
  rw [show Tryz.orZero false 1 = 0 from rfl] at H23
  clear hEw hN hM
  go_enter Tryz.func62, Tryz.ntmps62
  go_wp2_with (first
    | (go_at_call 122; refine (H1.out _).mono ?_; rintro e w1 ⟨v1, v2, rfl, hL1, hL2, hx⟩
       obtain ⟨l1, ⟨b1, cap1, rfl, hc1, hh1⟩, hd1, hD1, hT1, hn1⟩ := hL1.sl
       obtain ⟨l2, ⟨b2, cap2, rfl, hc2, hh2⟩, hd2, hD2, hT2, hn2⟩ := hL2.sl
       have hp1 : ∀ i x : Nat, l1[i]? = some x → b1 < w1.heap.size := fun i x h => World.block_lt_of_cell? w1 _ (hh1 i x h)
       have hp2 : ∀ i x : Nat, l2[i]? = some x → b2 < w1.heap.size := fun i x h => World.block_lt_of_cell? w1 _ (hh2 i x h)
       have hc := fun (w' : World) (e : Tryz.Ext w1 w') => Tryz.sum123 (decide (N < 0)) (!decide (M < 0)) l1 l2 b1 cap1 b2 cap2 w' (by omega) (by omega) hD1 hD2 hT1 hT2 (fun i x h => by rw [World.cell?_of_block (w := w1) (e.old b1 (hp1 i x h))]; exact hh1 i x h) (fun i x h => by rw [World.cell?_of_block (w := w1) (e.old b2 (hp2 i x h))]; exact hh2 i x h)
       rw [hd1, hd2] at hc
       have HC := Lib.hid hc
       have HX1 := Lib.hid ((HEw.out _ _).trans hx)
       clear hL1 hL2 hc1 hh1 hd1 hD1 hT1 hc2 hh2 hd2 hD2 hT2 hp1 hp2 hc hx hn1 hn2)
    | (go_at_call 123; refine (HC.out _ (Tryz.alloc_ext (Tryz.alloc_ext (.refl _) _) _)).mono ?_; rintro e w2 ⟨bb, v, rfl, ⟨sa, sn, sc, rfl, hz⟩, hb, hx⟩
       obtain rfl := (hb hZ).trans hB
       have hs0 : ¬ sn = 0 := fun h => by have := hz.1 h; rw [hZ] at this; cases this
       have hsi : ((sn : Int) == 0) = false := by rw [beq_eq_false_iff_ne]; omega
       have HX2 := Lib.hid ((Tryz.alloc_ext (Tryz.alloc_ext HX1.out _) _).trans hx)
       clear hz hx hb)
    | (go_at_call 23; refine (H23.out _).mono ?_; rintro e w' ⟨rfl, rfl⟩))
  go_ret
  exact ⟨rfl, Tryz.alloc_ext HX2.out _⟩
set_option maxRecDepth 100000 in
set_option maxHeartbeats 4000000 in
theorem Tryz.order62c (N M : Int) (S R : Nat) (hN : N.natAbs ≤ 999999999999999) (hM : M.natAbs ≤ 999999999999999) (hS : S ≤ 15) (hR : R ≤ 15) (hZ : Tryz.sumZ (decide (N < 0)) (!decide (M < 0)) (N.natAbs * 10 ^ (max S R - S)) (M.natAbs * 10 ^ (max S R - R)) = false) (hB : Tryz.sumB (decide (N < 0)) (!decide (M < 0)) (N.natAbs * 10 ^ (max S R - S)) (M.natAbs * 10 ^ (max S R - R)) = true) (w : World) :
    Calls Tryz.prog 62 #[.agg #[.int .i64 N, .int .i64 S], .agg #[.int .i64 M, .int .i64 R]] w fun e w' => e = .returned (.int .i64 (-1)) ∧ Tryz.Ext w w' := by
  have H1 := Lib.hid (fun w => Tryz.aligned122 N M S R hN hM hS hR w)
  have hEw : ∀ o o2, Tryz.Ext w ((w.alloc o).alloc o2) := fun _ _ => Tryz.alloc_ext (Tryz.alloc_ext (.refl _) _) _
  have HEw := Lib.hid hEw
  have H23 := Lib.hid (fun w => Tryz.count23 true w)
  rw [show Tryz.orZero true 1 = 1 from rfl] at H23
  clear hEw hN hM
  go_enter Tryz.func62, Tryz.ntmps62
  go_wp2_with (first
    | (go_at_call 122; refine (H1.out _).mono ?_; rintro e w1 ⟨v1, v2, rfl, hL1, hL2, hx⟩
       obtain ⟨l1, ⟨b1, cap1, rfl, hc1, hh1⟩, hd1, hD1, hT1, hn1⟩ := hL1.sl
       obtain ⟨l2, ⟨b2, cap2, rfl, hc2, hh2⟩, hd2, hD2, hT2, hn2⟩ := hL2.sl
       have hp1 : ∀ i x : Nat, l1[i]? = some x → b1 < w1.heap.size := fun i x h => World.block_lt_of_cell? w1 _ (hh1 i x h)
       have hp2 : ∀ i x : Nat, l2[i]? = some x → b2 < w1.heap.size := fun i x h => World.block_lt_of_cell? w1 _ (hh2 i x h)
       have hc := fun (w' : World) (e : Tryz.Ext w1 w') => Tryz.sum123 (decide (N < 0)) (!decide (M < 0)) l1 l2 b1 cap1 b2 cap2 w' (by omega) (by omega) hD1 hD2 hT1 hT2 (fun i x h => by rw [World.cell?_of_block (w := w1) (e.old b1 (hp1 i x h))]; exact hh1 i x h) (fun i x h => by rw [World.cell?_of_block (w := w1) (e.old b2 (hp2 i x h))]; exact hh2 i x h)
       rw [hd1, hd2] at hc
       have HC := Lib.hid hc
       have HX1 := Lib.hid ((HEw.out _ _).trans hx)
       clear hL1 hL2 hc1 hh1 hd1 hD1 hT1 hc2 hh2 hd2 hD2 hT2 hp1 hp2 hc hx hn1 hn2)
    | (go_at_call 123; refine (HC.out _ (Tryz.alloc_ext (Tryz.alloc_ext (.refl _) _) _)).mono ?_; rintro e w2 ⟨bb, v, rfl, ⟨sa, sn, sc, rfl, hz⟩, hb, hx⟩
       obtain rfl := (hb hZ).trans hB
       have hs0 : ¬ sn = 0 := fun h => by have := hz.1 h; rw [hZ] at this; cases this
       have hsi : ((sn : Int) == 0) = false := by rw [beq_eq_false_iff_ne]; omega
       have HX2 := Lib.hid ((Tryz.alloc_ext (Tryz.alloc_ext HX1.out _) _).trans hx)
       clear hz hx hb)
    | (go_at_call 23; refine (H23.out _).mono ?_; rintro e w' ⟨rfl, rfl⟩))
  go_ret
  exact ⟨rfl, Tryz.alloc_ext HX2.out _⟩
theorem Tryz.order62 (N M : Int) (S R : Nat) (hN : N.natAbs ≤ 999999999999999) (hM : M.natAbs ≤ 999999999999999) (hS : S ≤ 15) (hR : R ≤ 15) (w : World) :
    Calls Tryz.prog 62 #[.agg #[.int .i64 N, .int .i64 S], .agg #[.int .i64 M, .int .i64 R]] w fun e w' =>
      e = .returned (.int .i64 (Tryz.cmpS N M (N.natAbs * 10 ^ (max S R - S)) (M.natAbs * 10 ^ (max S R - R)))) ∧ Tryz.Ext w w' := by
  have hp : ∀ (A : Int) (n : Nat), A < 0 → 0 < A.natAbs * 10 ^ n := fun A n h => Nat.mul_pos (by omega) (Nat.pow_pos (by omega))
  rw [← Tryz.ordS_cmp (hp N _) (hp M _), Tryz.ordS]
  cases hZ : Tryz.sumZ (decide (N < 0)) (!decide (M < 0)) (N.natAbs * 10 ^ (max S R - S)) (M.natAbs * 10 ^ (max S R - R))
  · cases hB : Tryz.sumB (decide (N < 0)) (!decide (M < 0)) (N.natAbs * 10 ^ (max S R - S)) (M.natAbs * 10 ^ (max S R - R))
    · exact Tryz.order62b N M S R hN hM hS hR hZ hB w
    · exact Tryz.order62c N M S R hN hM hS hR hZ hB w
  · exact Tryz.order62a N M S R hN hM hS hR hZ w
end Go.Proofs
