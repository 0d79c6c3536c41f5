/- Part 23 of the proof. -/
import Derived.Test.YtnmkgbomiillgaaGreatDoorP22
/- midrangeref30.valueErr. -/
namespace Go.Proofs
open Go.RowKit
set_option maxRecDepth 100000 in
set_option maxHeartbeats 4000000 in
theorem Tryz.refErr31a (N S : Int) (T : ByteArray) (ho : Tryz.numOk N S = false) (w : World) :
    Calls Tryz.prog 31 #[.agg #[.int .i64 1, .int .i64 N, .int .i64 S, .string T]] w fun e w' => e = .returned (.int .i64 3) ∧ Tryz.Ext w w' := by
  have H54 := Lib.hid (fun w => Tryz.numErr54 N S w)
  rw [ho, show Tryz.orZero (!false) 3 = 3 from rfl] at H54
  go_enter Tryz.func31, Tryz.ntmps31
  go_wp2_with (go_at_call 54; refine (H54.out _).mono ?_; rintro e w1 ⟨rfl, hx⟩
               have b0 := (hx.old w.heap.size (by simp)).trans (Tryz.bnew _ _)
               have f0 := Tryz.bcell (j := 0) b0 rfl; have f1 := Tryz.bcell (j := 1) b0 rfl; have f2 := Tryz.bcell (j := 2) b0 rfl; have f3 := Tryz.bcell (j := 3) b0 rfl
               have HX := Lib.hid ((Tryz.alloc_ext (.refl w) _).trans hx); clear b0 hx)
  go_ret
  exact ⟨rfl, HX.out⟩
set_option maxRecDepth 100000 in
set_option maxHeartbeats 4000000 in
theorem Tryz.refErr31b (N S : Int) (T : ByteArray) (ho : Tryz.numOk N S = true) (hs : 0 < S) (hm : N.tmod 10 = 0) (w : World) :
    Calls Tryz.prog 31 #[.agg #[.int .i64 1, .int .i64 N, .int .i64 S, .string T]] w fun e w' => e = .returned (.int .i64 3) ∧ Tryz.Ext w w' := by
  have H54 := Lib.hid (fun w => Tryz.numErr54 N S w)
  rw [ho, show Tryz.orZero (!true) 3 = 0 from rfl] at H54
  go_enter Tryz.func31, Tryz.ntmps31
  go_wp2_with (go_at_call 54; refine (H54.out _).mono ?_; rintro e w1 ⟨rfl, hx⟩
               have b0 := (hx.old w.heap.size (by simp)).trans (Tryz.bnew _ _)
               have f0 := Tryz.bcell (j := 0) b0 rfl; have f1 := Tryz.bcell (j := 1) b0 rfl; have f2 := Tryz.bcell (j := 2) b0 rfl; have f3 := Tryz.bcell (j := 3) b0 rfl
               have HX := Lib.hid ((Tryz.alloc_ext (.refl w) _).trans hx); clear b0 hx)
  go_ret
  exact ⟨rfl, HX.out⟩
set_option maxRecDepth 100000 in
set_option maxHeartbeats 4000000 in
theorem Tryz.refErr31c1 (N S : Int) (T : ByteArray) (ho : Tryz.numOk N S = true) (hs : ¬ 0 < S) (hb : (256 : Int) < (T.size : Int)) (w : World) :
    Calls Tryz.prog 31 #[.agg #[.int .i64 1, .int .i64 N, .int .i64 S, .string T]] w fun e w' => e = .returned (.int .i64 2) ∧ Tryz.Ext w w' := by
  have H54 := Lib.hid (fun w => Tryz.numErr54 N S w)
  rw [ho, show Tryz.orZero (!true) 3 = 0 from rfl] at H54
  go_enter Tryz.func31, Tryz.ntmps31
  go_wp2_with (go_at_call 54; refine (H54.out _).mono ?_; rintro e w1 ⟨rfl, hx⟩
               have b0 := (hx.old w.heap.size (by simp)).trans (Tryz.bnew _ _)
               have f0 := Tryz.bcell (j := 0) b0 rfl; have f1 := Tryz.bcell (j := 1) b0 rfl; have f2 := Tryz.bcell (j := 2) b0 rfl; have f3 := Tryz.bcell (j := 3) b0 rfl
               have HX := Lib.hid ((Tryz.alloc_ext (.refl w) _).trans hx); clear b0 hx)
  go_ret
  exact ⟨rfl, HX.out⟩
set_option maxRecDepth 100000 in
set_option maxHeartbeats 4000000 in
theorem Tryz.refErr31c2 (N S : Int) (T : ByteArray) (ho : Tryz.numOk N S = true) (hs : ¬ 0 < S) (hb : ¬ (256 : Int) < (T.size : Int)) (hT : T.toList.isEmpty = true) (w : World) :
    Calls Tryz.prog 31 #[.agg #[.int .i64 1, .int .i64 N, .int .i64 S, .string T]] w fun e w' => e = .returned (.int .i64 0) ∧ Tryz.Ext w w' := by
  have H54 := Lib.hid (fun w => Tryz.numErr54 N S w)
  rw [ho, show Tryz.orZero (!true) 3 = 0 from rfl] at H54
  go_enter Tryz.func31, Tryz.ntmps31
  go_wp2_with (go_at_call 54; refine (H54.out _).mono ?_; rintro e w1 ⟨rfl, hx⟩
               have b0 := (hx.old w.heap.size (by simp)).trans (Tryz.bnew _ _)
               have f0 := Tryz.bcell (j := 0) b0 rfl; have f1 := Tryz.bcell (j := 1) b0 rfl; have f2 := Tryz.bcell (j := 2) b0 rfl; have f3 := Tryz.bcell (j := 3) b0 rfl
               have HX := Lib.hid ((Tryz.alloc_ext (.refl w) _).trans hx); clear b0 hx)
  go_ret
  exact ⟨rfl, HX.out⟩
set_option maxRecDepth 100000 in
set_option maxHeartbeats 4000000 in
theorem Tryz.refErr31c3 (N S : Int) (T : ByteArray) (ho : Tryz.numOk N S = true) (hs : ¬ 0 < S) (hb : ¬ (256 : Int) < (T.size : Int)) (hT : T.toList.isEmpty = false) (w : World) :
    Calls Tryz.prog 31 #[.agg #[.int .i64 1, .int .i64 N, .int .i64 S, .string T]] w fun e w' => e = .returned (.int .i64 5) ∧ Tryz.Ext w w' := by
  have H54 := Lib.hid (fun w => Tryz.numErr54 N S w)
  rw [ho, show Tryz.orZero (!true) 3 = 0 from rfl] at H54
  go_enter Tryz.func31, Tryz.ntmps31
  go_wp2_with (go_at_call 54; refine (H54.out _).mono ?_; rintro e w1 ⟨rfl, hx⟩
               have b0 := (hx.old w.heap.size (by simp)).trans (Tryz.bnew _ _)
               have f0 := Tryz.bcell (j := 0) b0 rfl; have f1 := Tryz.bcell (j := 1) b0 rfl; have f2 := Tryz.bcell (j := 2) b0 rfl; have f3 := Tryz.bcell (j := 3) b0 rfl
               have HX := Lib.hid ((Tryz.alloc_ext (.refl w) _).trans hx); clear b0 hx)
  go_ret
  exact ⟨rfl, HX.out⟩
set_option maxRecDepth 100000 in
set_option maxHeartbeats 4000000 in
theorem Tryz.refErr31d1 (N S : Int) (T : ByteArray) (ho : Tryz.numOk N S = true) (hs : 0 < S) (hm : (N.tmod 10 == 0) = false) (hb : (256 : Int) < (T.size : Int)) (w : World) :
    Calls Tryz.prog 31 #[.agg #[.int .i64 1, .int .i64 N, .int .i64 S, .string T]] w fun e w' => e = .returned (.int .i64 2) ∧ Tryz.Ext w w' := by
  have H54 := Lib.hid (fun w => Tryz.numErr54 N S w)
  rw [ho, show Tryz.orZero (!true) 3 = 0 from rfl] at H54
  go_enter Tryz.func31, Tryz.ntmps31
  go_wp2_with (go_at_call 54; refine (H54.out _).mono ?_; rintro e w1 ⟨rfl, hx⟩
               have b0 := (hx.old w.heap.size (by simp)).trans (Tryz.bnew _ _)
               have f0 := Tryz.bcell (j := 0) b0 rfl; have f1 := Tryz.bcell (j := 1) b0 rfl; have f2 := Tryz.bcell (j := 2) b0 rfl; have f3 := Tryz.bcell (j := 3) b0 rfl
               have HX := Lib.hid ((Tryz.alloc_ext (.refl w) _).trans hx); clear b0 hx)
  go_ret
  exact ⟨rfl, HX.out⟩
set_option maxRecDepth 100000 in
set_option maxHeartbeats 4000000 in
theorem Tryz.refErr31d2 (N S : Int) (T : ByteArray) (ho : Tryz.numOk N S = true) (hs : 0 < S) (hm : (N.tmod 10 == 0) = false) (hb : ¬ (256 : Int) < (T.size : Int)) (hT : T.toList.isEmpty = true) (w : World) :
    Calls Tryz.prog 31 #[.agg #[.int .i64 1, .int .i64 N, .int .i64 S, .string T]] w fun e w' => e = .returned (.int .i64 0) ∧ Tryz.Ext w w' := by
  have H54 := Lib.hid (fun w => Tryz.numErr54 N S w)
  rw [ho, show Tryz.orZero (!true) 3 = 0 from rfl] at H54
  go_enter Tryz.func31, Tryz.ntmps31
  go_wp2_with (go_at_call 54; refine (H54.out _).mono ?_; rintro e w1 ⟨rfl, hx⟩
               have b0 := (hx.old w.heap.size (by simp)).trans (Tryz.bnew _ _)
               have f0 := Tryz.bcell (j := 0) b0 rfl; have f1 := Tryz.bcell (j := 1) b0 rfl; have f2 := Tryz.bcell (j := 2) b0 rfl; have f3 := Tryz.bcell (j := 3) b0 rfl
               have HX := Lib.hid ((Tryz.alloc_ext (.refl w) _).trans hx); clear b0 hx)
  go_ret
  exact ⟨rfl, HX.out⟩
set_option maxRecDepth 100000 in
set_option maxHeartbeats 4000000 in
theorem Tryz.refErr31d3 (N S : Int) (T : ByteArray) (ho : Tryz.numOk N S = true) (hs : 0 < S) (hm : (N.tmod 10 == 0) = false) (hb : ¬ (256 : Int) < (T.size : Int)) (hT : T.toList.isEmpty = false) (w : World) :
    Calls Tryz.prog 31 #[.agg #[.int .i64 1, .int .i64 N, .int .i64 S, .string T]] w fun e w' => e = .returned (.int .i64 5) ∧ Tryz.Ext w w' := by
  have H54 := Lib.hid (fun w => Tryz.numErr54 N S w)
  rw [ho, show Tryz.orZero (!true) 3 = 0 from rfl] at H54
  go_enter Tryz.func31, Tryz.ntmps31
  go_wp2_with (go_at_call 54; refine (H54.out _).mono ?_; rintro e w1 ⟨rfl, hx⟩
               have b0 := (hx.old w.heap.size (by simp)).trans (Tryz.bnew _ _)
               have f0 := Tryz.bcell (j := 0) b0 rfl; have f1 := Tryz.bcell (j := 1) b0 rfl; have f2 := Tryz.bcell (j := 2) b0 rfl; have f3 := Tryz.bcell (j := 3) b0 rfl
               have HX := Lib.hid ((Tryz.alloc_ext (.refl w) _).trans hx); clear b0 hx)
  go_ret
  exact ⟨rfl, HX.out⟩
set_option maxRecDepth 100000 in
set_option maxHeartbeats 4000000 in
theorem Tryz.refErr31e (K N S : Int) (T : ByteArray) (h1 : ¬ K = 1) (hb : (256 : Int) < (T.size : Int)) (w : World) :
    Calls Tryz.prog 31 #[.agg #[.int .i64 K, .int .i64 N, .int .i64 S, .string T]] w fun e w' => e = .returned (.int .i64 2) ∧ Tryz.Ext w w' := by
  go_enter Tryz.func31, Tryz.ntmps31
  go_wp2
  go_ret
  exact ⟨rfl, Tryz.alloc_ext (.refl w) _⟩
set_option maxRecDepth 100000 in
set_option maxHeartbeats 4000000 in
theorem Tryz.refErr31f1 (N S : Int) (T : ByteArray) (hb : ¬ (256 : Int) < (T.size : Int)) (hp : (0 : Int) < (T.size : Int)) (hq : 0 < T.size) (h32 : ((T[T.size - 1]'(by omega)).toNat : Int) = 32) (w : World) :
    Calls Tryz.prog 31 #[.agg #[.int .i64 2, .int .i64 N, .int .i64 S, .string T]] w fun e w' => e = .returned (.int .i64 5) ∧ Tryz.Ext w w' := by
  go_enter Tryz.func31, Tryz.ntmps31
  go_wp2
  go_ret
  exact ⟨rfl, Tryz.alloc_ext (.refl w) _⟩
set_option maxRecDepth 100000 in
set_option maxHeartbeats 4000000 in
theorem Tryz.refErr31f2 (N S : Int) (T : ByteArray) (hb : ¬ (256 : Int) < (T.size : Int)) (hp : (0 : Int) < (T.size : Int)) (hq : 0 < T.size) (h32 : ¬ ((T[T.size - 1]'(by omega)).toNat : Int) = 32) (hz : ¬ N = 0) (w : World) :
    Calls Tryz.prog 31 #[.agg #[.int .i64 2, .int .i64 N, .int .i64 S, .string T]] w fun e w' => e = .returned (.int .i64 5) ∧ Tryz.Ext w w' := by
  go_enter Tryz.func31, Tryz.ntmps31
  go_wp2
  go_ret
  exact ⟨rfl, Tryz.alloc_ext (.refl w) _⟩
set_option maxRecDepth 100000 in
set_option maxHeartbeats 4000000 in
theorem Tryz.refErr31f3 (S : Int) (T : ByteArray) (hb : ¬ (256 : Int) < (T.size : Int)) (hp : (0 : Int) < (T.size : Int)) (hq : 0 < T.size) (h32 : ¬ ((T[T.size - 1]'(by omega)).toNat : Int) = 32) (hy : ¬ S = 0) (w : World) :
    Calls Tryz.prog 31 #[.agg #[.int .i64 2, .int .i64 0, .int .i64 S, .string T]] w fun e w' => e = .returned (.int .i64 5) ∧ Tryz.Ext w w' := by
  go_enter Tryz.func31, Tryz.ntmps31
  go_wp2
  go_ret
  exact ⟨rfl, Tryz.alloc_ext (.refl w) _⟩
set_option maxRecDepth 100000 in
set_option maxHeartbeats 4000000 in
theorem Tryz.refErr31f4 (T : ByteArray) (hb : ¬ (256 : Int) < (T.size : Int)) (hp : (0 : Int) < (T.size : Int)) (hq : 0 < T.size) (h32 : ¬ ((T[T.size - 1]'(by omega)).toNat : Int) = 32) (w : World) :
    Calls Tryz.prog 31 #[.agg #[.int .i64 2, .int .i64 0, .int .i64 0, .string T]] w fun e w' => e = .returned (.int .i64 0) ∧ Tryz.Ext w w' := by
  go_enter Tryz.func31, Tryz.ntmps31
  go_wp2
  go_ret
  exact ⟨rfl, Tryz.alloc_ext (.refl w) _⟩
set_option maxRecDepth 100000 in
set_option maxHeartbeats 4000000 in
theorem Tryz.refErr31f5 (N S : Int) (T : ByteArray) (hb : ¬ (256 : Int) < (T.size : Int)) (hp : ¬ (0 : Int) < (T.size : Int)) (hz : ¬ N = 0) (w : World) :
    Calls Tryz.prog 31 #[.agg #[.int .i64 2, .int .i64 N, .int .i64 S, .string T]] w fun e w' => e = .returned (.int .i64 5) ∧ Tryz.Ext w w' := by
  go_enter Tryz.func31, Tryz.ntmps31
  go_wp2
  go_ret
  exact ⟨rfl, Tryz.alloc_ext (.refl w) _⟩
set_option maxRecDepth 100000 in
set_option maxHeartbeats 4000000 in
theorem Tryz.refErr31f6 (S : Int) (T : ByteArray) (hb : ¬ (256 : Int) < (T.size : Int)) (hp : ¬ (0 : Int) < (T.size : Int)) (hy : ¬ S = 0) (w : World) :
    Calls Tryz.prog 31 #[.agg #[.int .i64 2, .int .i64 0, .int .i64 S, .string T]] w fun e w' => e = .returned (.int .i64 5) ∧ Tryz.Ext w w' := by
  go_enter Tryz.func31, Tryz.ntmps31
  go_wp2
  go_ret
  exact ⟨rfl, Tryz.alloc_ext (.refl w) _⟩
set_option maxRecDepth 100000 in
set_option maxHeartbeats 4000000 in
theorem Tryz.refErr31f7 (T : ByteArray) (hb : ¬ (256 : Int) < (T.size : Int)) (hp : ¬ (0 : Int) < (T.size : Int)) (w : World) :
    Calls Tryz.prog 31 #[.agg #[.int .i64 2, .int .i64 0, .int .i64 0, .string T]] w fun e w' => e = .returned (.int .i64 0) ∧ Tryz.Ext w w' := by
  go_enter Tryz.func31, Tryz.ntmps31
  go_wp2
  go_ret
  exact ⟨rfl, Tryz.alloc_ext (.refl w) _⟩
set_option maxRecDepth 100000 in
set_option maxHeartbeats 4000000 in
theorem Tryz.refErr31g1 (K N S : Int) (T : ByteArray) (h1 : ¬ K = 1) (h2 : ¬ K = 2) (hb : ¬ (256 : Int) < (T.size : Int)) (hz : ¬ N = 0) (w : World) :
    Calls Tryz.prog 31 #[.agg #[.int .i64 K, .int .i64 N, .int .i64 S, .string T]] w fun e w' => e = .returned (.int .i64 5) ∧ Tryz.Ext w w' := by
  go_enter Tryz.func31, Tryz.ntmps31
  go_wp2
  go_ret
  exact ⟨rfl, Tryz.alloc_ext (.refl w) _⟩
set_option maxRecDepth 100000 in
set_option maxHeartbeats 4000000 in
theorem Tryz.refErr31g2 (K S : Int) (T : ByteArray) (h1 : ¬ K = 1) (h2 : ¬ K = 2) (hb : ¬ (256 : Int) < (T.size : Int)) (hy : ¬ S = 0) (w : World) :
    Calls Tryz.prog 31 #[.agg #[.int .i64 K, .int .i64 0, .int .i64 S, .string T]] w fun e w' => e = .returned (.int .i64 5) ∧ Tryz.Ext w w' := by
  go_enter Tryz.func31, Tryz.ntmps31
  go_wp2
  go_ret
  exact ⟨rfl, Tryz.alloc_ext (.refl w) _⟩
set_option maxRecDepth 100000 in
set_option maxHeartbeats 4000000 in
theorem Tryz.refErr31g3 (K : Int) (T : ByteArray) (h1 : ¬ K = 1) (h2 : ¬ K = 2) (hb : ¬ (256 : Int) < (T.size : Int)) (hT : T.toList.isEmpty = true) (w : World) :
    Calls Tryz.prog 31 #[.agg #[.int .i64 K, .int .i64 0, .int .i64 0, .string T]] w fun e w' => e = .returned (.int .i64 0) ∧ Tryz.Ext w w' := by
  go_enter Tryz.func31, Tryz.ntmps31
  go_wp2
  go_ret
  exact ⟨rfl, Tryz.alloc_ext (.refl w) _⟩
set_option maxRecDepth 100000 in
set_option maxHeartbeats 4000000 in
theorem Tryz.refErr31g4 (K : Int) (T : ByteArray) (h1 : ¬ K = 1) (h2 : ¬ K = 2) (hb : ¬ (256 : Int) < (T.size : Int)) (hT : T.toList.isEmpty = false) (w : World) :
    Calls Tryz.prog 31 #[.agg #[.int .i64 K, .int .i64 0, .int .i64 0, .string T]] w fun e w' => e = .returned (.int .i64 5) ∧ Tryz.Ext w w' := by
  go_enter Tryz.func31, Tryz.ntmps31
  go_wp2
  go_ret
  exact ⟨rfl, Tryz.alloc_ext (.refl w) _⟩
/-- The error of a value. -/
def Tryz.errV (K N S : Int) (T : ByteArray) : Int :=
  if Tryz.wrongB K N S = true then 3 else if 256 < T.size then 2 else Tryz.orZero (Tryz.extraB K N S T || Lib.hasSuffix T.data.toList [32]) 5
theorem Tryz.errV_first (K N S : Int) (T : ByteArray) : Tryz.firstF [Tryz.orZero (Tryz.wrongB K N S) 3, Tryz.orZero (decide (256 < T.size)) 2, Tryz.orZero (Tryz.extraB K N S T || Lib.hasSuffix T.data.toList [32]) 5] = Tryz.errV K N S T := by
  unfold Tryz.errV
  cases Tryz.wrongB K N S
  · by_cases h : 256 < T.size
    · simp [Tryz.firstF, Tryz.orZero, h]
    · cases (Tryz.extraB K N S T || Lib.hasSuffix T.data.toList [32]) <;> simp [Tryz.firstF, Tryz.orZero, h]
  · simp [Tryz.firstF, Tryz.orZero]
theorem Tryz.suffix_nil {T : ByteArray} (h : T.size = 0) : Lib.hasSuffix T.data.toList [32] = false := by
  have : T.data.toList = [] := List.length_eq_zero_iff.1 h
  rw [this]; rfl
theorem Tryz.suffix_last {T : ByteArray} (h : 0 < T.size) : Lib.hasSuffix T.data.toList [32] = decide (((T[T.size - 1]'(by omega)).toNat : Int) = 32) := by
  have hl : T.data.toList.length = T.size := rfl
  rw [← Lib.hasSuffix_of_drop]
  have hd : T.data.toList.drop (T.data.toList.length - 1) = [T[T.size - 1]'(by omega)] := by
    rw [List.drop_eq_getElem_cons (by omega), List.drop_eq_nil_of_le (by omega)]
    simp only [hl]
    rfl
  rw [show ([32] : List UInt8).length = 1 from rfl, hd, decide_eq_true (by omega), Bool.true_and, Bool.eq_iff_iff, decide_eq_true_eq]
  simp only [beq_iff_eq, List.cons.injEq, and_true]
  rw [← UInt8.toNat_inj]
  show _ = 32 ↔ _
  omega
theorem Tryz.refErr31 (K N S : Int) (T : ByteArray) (w : World) :
    Calls Tryz.prog 31 #[.agg #[.int .i64 K, .int .i64 N, .int .i64 S, .string T]] w fun e w' => e = .returned (.int .i64 (Tryz.errV K N S T)) ∧ Tryz.Ext w w' := by
  have hT := Tryz.empty_size T
  have e3 : Tryz.wrongB K N S = true → Tryz.errV K N S T = 3 := fun h => by rw [Tryz.errV, if_pos h]
  have e2 : Tryz.wrongB K N S = false → 256 < T.size → Tryz.errV K N S T = 2 := fun h h2 => by rw [Tryz.errV, if_neg (by rw [h]; exact Bool.noConfusion), if_pos h2]
  have e1 : Tryz.wrongB K N S = false → ¬ 256 < T.size → ∀ b, (Tryz.extraB K N S T || Lib.hasSuffix T.data.toList [32]) = b → Tryz.errV K N S T = Tryz.orZero b 5 := fun h h2 b hb => by rw [Tryz.errV, if_neg (by rw [h]; exact Bool.noConfusion), if_neg h2, hb]
  by_cases h1 : K = 1
  · subst h1
    have hx : Tryz.extraB 1 N S T = (T.size != 0) := by simp [Tryz.extraB]
    rw [hx] at e1
    cases ho : Tryz.numOk N S
    · rw [e3 (by simp [Tryz.wrongB, ho])]; exact Tryz.refErr31a N S T ho w
    · by_cases hs : 0 < S
      · cases hm : N.tmod 10 == 0
        · have hw : Tryz.wrongB 1 N S = false := by simp [Tryz.wrongB, ho, hm]
          by_cases hb : 256 < T.size
          · rw [e2 hw hb]; exact Tryz.refErr31d1 N S T ho hs hm (by omega) w
          · cases hE : T.toList.isEmpty
            · rw [hE] at hT
              rw [e1 hw hb true (by rw [show (T.size != 0) = true by rw [bne, ← hT]; rfl]; rfl)]; exact Tryz.refErr31d3 N S T ho hs hm (by omega) hE w
            · rw [hE] at hT
              have h0 : T.size = 0 := by simpa using hT.symm
              rw [e1 hw hb false (by rw [Tryz.suffix_nil h0, h0]; rfl)]; exact Tryz.refErr31d2 N S T ho hs hm (by omega) hE w
        · rw [e3 (by simp [Tryz.wrongB, ho, hm, hs])]; exact Tryz.refErr31b N S T ho hs (by simpa using hm) w
      · have hw : Tryz.wrongB 1 N S = false := by simp [Tryz.wrongB, ho, hs]
        by_cases hb : 256 < T.size
        · rw [e2 hw hb]; exact Tryz.refErr31c1 N S T ho hs (by omega) w
        · cases hE : T.toList.isEmpty
          · rw [hE] at hT
            rw [e1 hw hb true (by rw [show (T.size != 0) = true by rw [bne, ← hT]; rfl]; rfl)]; exact Tryz.refErr31c3 N S T ho hs (by omega) hE w
          · rw [hE] at hT
            have h0 : T.size = 0 := by simpa using hT.symm
            rw [e1 hw hb false (by rw [Tryz.suffix_nil h0, h0]; rfl)]; exact Tryz.refErr31c2 N S T ho hs (by omega) hE w
  · have hw : Tryz.wrongB K N S = false := by simp [Tryz.wrongB, h1]
    by_cases hb : 256 < T.size
    · rw [e2 hw hb]; exact Tryz.refErr31e K N S T h1 (by omega) w
    · have hb' : ¬ (256 : Int) < (T.size : Int) := by omega
      by_cases h2 : K = 2
      · subst h2
        by_cases hp : 0 < T.size
        · have hs := Tryz.suffix_last hp
          by_cases h32 : ((T[T.size - 1]'(by omega)).toNat : Int) = 32
          · rw [e1 hw hb true (by rw [hs, decide_eq_true h32, Bool.or_true])]; exact Tryz.refErr31f1 N S T hb' (by omega) hp h32 w
          · rw [decide_eq_false h32] at hs
            by_cases hz : N = 0
            · subst hz
              by_cases hy : S = 0
              · subst hy; rw [e1 hw hb false (by rw [hs]; simp [Tryz.extraB])]; exact Tryz.refErr31f4 T hb' (by omega) hp h32 w
              · rw [e1 hw hb true (by rw [hs]; simp [Tryz.extraB, hy])]; exact Tryz.refErr31f3 S T hb' (by omega) hp h32 hy w
            · rw [e1 hw hb true (by rw [hs]; simp [Tryz.extraB, hz])]; exact Tryz.refErr31f2 N S T hb' (by omega) hp h32 hz w
        · have hs := Tryz.suffix_nil (T := T) (by omega)
          by_cases hz : N = 0
          · subst hz
            by_cases hy : S = 0
            · subst hy; rw [e1 hw hb false (by rw [hs]; simp [Tryz.extraB])]; exact Tryz.refErr31f7 T hb' (by omega) w
            · rw [e1 hw hb true (by rw [hs]; simp [Tryz.extraB, hy])]; exact Tryz.refErr31f6 S T hb' (by omega) hy w
          · rw [e1 hw hb true (by rw [hs]; simp [Tryz.extraB, hz])]; exact Tryz.refErr31f5 N S T hb' (by omega) hz w
      · by_cases hz : N = 0
        · subst hz
          by_cases hy : S = 0
          · subst hy
            cases hE : T.toList.isEmpty
            · rw [hE] at hT
              have h0 : ¬ T.size = 0 := by simpa using hT
              rw [e1 hw hb true (by simp [Tryz.extraB, h2, h0])]; exact Tryz.refErr31g4 K T h1 h2 hb' hE w
            · rw [hE] at hT
              have h0 : T.size = 0 := by simpa using hT.symm
              rw [e1 hw hb false (by rw [Tryz.suffix_nil h0]; simp [Tryz.extraB, h0])]; exact Tryz.refErr31g3 K T h1 h2 hb' hE w
          · rw [e1 hw hb true (by simp [Tryz.extraB, h1, hy])]; exact Tryz.refErr31g2 K S T h1 h2 hb' hy w
        · rw [e1 hw hb true (by simp [Tryz.extraB, h1, hz])]; exact Tryz.refErr31g1 K N S T h1 h2 hb' hz w
end Go.Proofs
/- sql.compare. -/
namespace Go.Proofs
open Go.RowKit
set_option maxRecDepth 100000 in
set_option maxHeartbeats 4000000 in
theorem Tryz.compare29a (K J N S M R : Int) (T U : ByteArray) (hk : ¬ K = J) (hk2 : (K != J) = true) (w : World) :
    Calls Tryz.prog 29 #[.agg #[.int .i64 K, .int .i64 N, .int .i64 S, .string T], .agg #[.int .i64 J, .int .i64 M, .int .i64 R, .string U]] w fun e w' =>
      e = .returned (.int .i64 (Tryz.firstF [Tryz.cmpI K J, Lib.compareBytes T.data.toList U.data.toList])) ∧ Tryz.Ext w w' := by
  have H59 := Lib.hid (fun x y w => Tryz.compare59 x y w)
  have H60 := Lib.hid (fun a b w => Tryz.cmpstr60 a b w)
  have H58 := Lib.hid (fun l b w h => Tryz.or58 l b 2 w h)
  go_enter Tryz.func29, Tryz.ntmps29
  go_wp2
  obtain ⟨W, hW⟩ : ∃ W, W = (w.alloc (Obj.cells #[Value.int IntKind.i64 K, Value.int IntKind.i64 N, Value.int IntKind.i64 S, Value.string T] 35)).alloc (Obj.cells #[Value.int IntKind.i64 J, Value.int IntKind.i64 M, Value.int IntKind.i64 R, Value.string U] 35) := ⟨_, rfl⟩
  rw [← hW]
  have k0 : W.heap[w.heap.size]? = some (Obj.cells #[Value.int IntKind.i64 K, Value.int IntKind.i64 N, Value.int IntKind.i64 S, Value.string T] 35) := by rw [hW]; exact Tryz.alloc_old (Tryz.bnew _ _) _
  have k1 : W.heap[w.heap.size + 1]? = some (Obj.cells #[Value.int IntKind.i64 J, Value.int IntKind.i64 M, Value.int IntKind.i64 R, Value.string U] 35) := by rw [hW]; exact Tryz.alloc_at (Tryz.alloc_sz rfl _) _
  have kE : Tryz.Ext w W := by rw [hW]; exact Tryz.alloc_ext (Tryz.alloc_ext (.refl _) _) _
  clear hW
  obtain ⟨p, hpW, hpO⟩ := Tryz.hideP fun w' => w'.heap[w.heap.size]? = some (Obj.cells #[Value.int IntKind.i64 K, Value.int IntKind.i64 N, Value.int IntKind.i64 S, Value.string T] 35) ∧ w'.heap[w.heap.size + 1]? = some (Obj.cells #[Value.int IntKind.i64 J, Value.int IntKind.i64 M, Value.int IntKind.i64 R, Value.string U] 35)
  haveI : Nonempty (Tryz.InC p) := ⟨⟨W, hpW W ⟨k0, k1⟩⟩⟩
  have c0 : ∀ x : Tryz.InC p, x.w.cell? ⟨w.heap.size, 0, none⟩ = some (.int .i64 K) := fun x => Tryz.bcell (j := 0) (hpO _ x.h).1 rfl
  have c3 : ∀ x : Tryz.InC p, x.w.cell? ⟨w.heap.size, 3, none⟩ = some (.string T) := fun x => Tryz.bcell (j := 3) (hpO _ x.h).1 rfl
  have d0 : ∀ x : Tryz.InC p, x.w.cell? ⟨w.heap.size + 1, 0, none⟩ = some (.int .i64 J) := fun x => Tryz.bcell (j := 0) (hpO _ x.h).2 rfl
  have d3 : ∀ x : Tryz.InC p, x.w.cell? ⟨w.heap.size + 1, 3, none⟩ = some (.string U) := fun x => Tryz.bcell (j := 3) (hpO _ x.h).2 rfl
  have HPW := Lib.hid hpW
  clear hpW hpO
  refine Tryz.region_order (C := fun w' => ∃ x : Tryz.InC p, w' = x.w)
    [(true, 0), (true, 1), (true, 2), (true, 3), (true, 5), (true, 6), (true, 7), (true, 8), (false, 4), (false, 9), (false, 10), (false, 11), (false, 12)] (by kernel_rfl) (by kernel_rfl) ⟨⟨{ W with drawn := W.drawn + 1 }, HPW.out _ ⟨k0, k1⟩⟩, rfl⟩ ?_
  simp only [Tryz.picks, List.filterMap_cons, List.filterMap_nil, List.getElem?_cons_succ, List.getElem?_cons_zero, Option.map_some]
  iterate 8 (refine Tryz.mix_calm (fun Kc hK => ?_); unfold Tryz.calm; go_simp; refine hK _ ?_; clear hK Kc)
  have kE2 := kE.trans (Tryz.drew_ext W)
  have q0 : W.drew.heap[w.heap.size]? = _ := k0
  have q1 : W.drew.heap[w.heap.size + 1]? = _ := k1
  clear kE k0 k1
  refine Tryz.mix_step (by kernel_rfl) (fun Kc hK => ?_)
  go_simp
  refine (H59.out _ _ _).mono ?_
  rintro e w' ⟨rfl, rfl⟩
  refine hK _ _ ⟨⟨_, HPW.out _ ⟨q0, q1⟩⟩, rfl⟩ ?_
  clear hK Kc
  refine Tryz.mix_step (by kernel_rfl) (fun Kc hK => ?_)
  go_simp
  refine (H60.out _ _ _).mono ?_
  rintro e w' ⟨rfl, rfl⟩
  refine hK _ _ ⟨⟨_, HPW.out _ ⟨q0, q1⟩⟩, rfl⟩ ?_
  clear hK Kc
  generalize W.drew = w' at q0 q1 kE2 ⊢
  refine Tryz.mix_step (by kernel_rfl) (fun Kc hK => ?_)
  go_simp
  obtain ⟨w3, hw3⟩ : ∃ w3, w3 = w'.alloc (Obj.cells #[Value.int IntKind.i64 (Tryz.cmpI K J), Value.int IntKind.i64 (Lib.compareBytes T.data.toList U.data.toList)] 3) := ⟨_, rfl⟩
  have r0 := Tryz.alloc_old q0 (Obj.cells #[Value.int IntKind.i64 (Tryz.cmpI K J), Value.int IntKind.i64 (Lib.compareBytes T.data.toList U.data.toList)] 3)
  have r1 := Tryz.alloc_old q1 (Obj.cells #[Value.int IntKind.i64 (Tryz.cmpI K J), Value.int IntKind.i64 (Lib.compareBytes T.data.toList U.data.toList)] 3)
  rw [← hw3] at r0 r1 ⊢
  have r2 : w3.heap[w'.heap.size]? = some (.cells (Tryz.i64c [Tryz.cmpI K J, Lib.compareBytes T.data.toList U.data.toList]) 3) := by rw [hw3]; exact Tryz.bnew _ _
  have hE3 : Tryz.Ext w w3 := by rw [hw3]; exact Tryz.alloc_ext kE2 _
  clear hw3
  refine hK _ _ ⟨⟨w3, HPW.out _ ⟨r0, r1⟩⟩, rfl⟩ ?_
  clear hK Kc
  refine Tryz.mix_step (by kernel_rfl) (fun Kc hK => ?_)
  go_simp
  refine (H58.out _ _ _ (by simp) fun i x hi => Tryz.bcell r2 (Tryz.i64c_get hi)).mono ?_
  rintro e w5 ⟨rfl, rfl⟩
  refine hK _ _ ⟨⟨_, HPW.out _ ⟨r0, r1⟩⟩, rfl⟩ ?_
  clear hK Kc
  refine Tryz.mix_step (by kernel_rfl) (fun Kc hK => ?_)
  go_simp
  refine hK _ _ ⟨⟨_, HPW.out _ ⟨r0, r1⟩⟩, rfl⟩ ?_
  refine Tryz.mix_nil ?_
  have HE := Lib.hid hE3
  clear hK Kc c0 c3 d0 d3 this q0 q1 kE2 r0 r1 r2 HPW hE3
  go_wp2
  go_ret
  exact ⟨rfl, HE.out⟩
set_option maxRecDepth 100000 in
set_option maxHeartbeats 4000000 in
theorem Tryz.compare29b (K N S M R : Int) (T U : ByteArray) (hk : ¬ K = 1) (hk2 : (K != 1) = true) (w : World) :
    Calls Tryz.prog 29 #[.agg #[.int .i64 K, .int .i64 N, .int .i64 S, .string T], .agg #[.int .i64 K, .int .i64 M, .int .i64 R, .string U]] w fun e w' =>
      e = .returned (.int .i64 (Tryz.firstF [Tryz.cmpI K K, Lib.compareBytes T.data.toList U.data.toList])) ∧ Tryz.Ext w w' := by
  have H59 := Lib.hid (fun x y w => Tryz.compare59 x y w)
  have H60 := Lib.hid (fun a b w => Tryz.cmpstr60 a b w)
  have H58 := Lib.hid (fun l b w h => Tryz.or58 l b 2 w h)
  go_enter Tryz.func29, Tryz.ntmps29
  go_wp2
  obtain ⟨W, hW⟩ : ∃ W, W = (w.alloc (Obj.cells #[Value.int IntKind.i64 K, Value.int IntKind.i64 N, Value.int IntKind.i64 S, Value.string T] 35)).alloc (Obj.cells #[Value.int IntKind.i64 K, Value.int IntKind.i64 M, Value.int IntKind.i64 R, Value.string U] 35) := ⟨_, rfl⟩
  rw [← hW]
  have k0 : W.heap[w.heap.size]? = some (Obj.cells #[Value.int IntKind.i64 K, Value.int IntKind.i64 N, Value.int IntKind.i64 S, Value.string T] 35) := by rw [hW]; exact Tryz.alloc_old (Tryz.bnew _ _) _
  have k1 : W.heap[w.heap.size + 1]? = some (Obj.cells #[Value.int IntKind.i64 K, Value.int IntKind.i64 M, Value.int IntKind.i64 R, Value.string U] 35) := by rw [hW]; exact Tryz.alloc_at (Tryz.alloc_sz rfl _) _
  have kE : Tryz.Ext w W := by rw [hW]; exact Tryz.alloc_ext (Tryz.alloc_ext (.refl _) _) _
  clear hW
  obtain ⟨p, hpW, hpO⟩ := Tryz.hideP fun w' => w'.heap[w.heap.size]? = some (Obj.cells #[Value.int IntKind.i64 K, Value.int IntKind.i64 N, Value.int IntKind.i64 S, Value.string T] 35) ∧ w'.heap[w.heap.size + 1]? = some (Obj.cells #[Value.int IntKind.i64 K, Value.int IntKind.i64 M, Value.int IntKind.i64 R, Value.string U] 35)
  haveI : Nonempty (Tryz.InC p) := ⟨⟨W, hpW W ⟨k0, k1⟩⟩⟩
  have c0 : ∀ x : Tryz.InC p, x.w.cell? ⟨w.heap.size, 0, none⟩ = some (.int .i64 K) := fun x => Tryz.bcell (j := 0) (hpO _ x.h).1 rfl
  have c3 : ∀ x : Tryz.InC p, x.w.cell? ⟨w.heap.size, 3, none⟩ = some (.string T) := fun x => Tryz.bcell (j := 3) (hpO _ x.h).1 rfl
  have d0 : ∀ x : Tryz.InC p, x.w.cell? ⟨w.heap.size + 1, 0, none⟩ = some (.int .i64 K) := fun x => Tryz.bcell (j := 0) (hpO _ x.h).2 rfl
  have d3 : ∀ x : Tryz.InC p, x.w.cell? ⟨w.heap.size + 1, 3, none⟩ = some (.string U) := fun x => Tryz.bcell (j := 3) (hpO _ x.h).2 rfl
  have HPW := Lib.hid hpW
  clear hpW hpO
  refine Tryz.region_order (C := fun w' => ∃ x : Tryz.InC p, w' = x.w)
    [(true, 0), (true, 1), (true, 2), (true, 3), (true, 5), (true, 6), (true, 7), (true, 8), (false, 4), (false, 9), (false, 10), (false, 11), (false, 12)] (by kernel_rfl) (by kernel_rfl) ⟨⟨{ W with drawn := W.drawn + 1 }, HPW.out _ ⟨k0, k1⟩⟩, rfl⟩ ?_
  simp only [Tryz.picks, List.filterMap_cons, List.filterMap_nil, List.getElem?_cons_succ, List.getElem?_cons_zero, Option.map_some]
  iterate 8 (refine Tryz.mix_calm (fun Kc hK => ?_); unfold Tryz.calm; go_simp; refine hK _ ?_; clear hK Kc)
  have kE2 := kE.trans (Tryz.drew_ext W)
  have q0 : W.drew.heap[w.heap.size]? = _ := k0
  have q1 : W.drew.heap[w.heap.size + 1]? = _ := k1
  clear kE k0 k1
  refine Tryz.mix_step (by kernel_rfl) (fun Kc hK => ?_)
  go_simp
  refine (H59.out _ _ _).mono ?_
  rintro e w' ⟨rfl, rfl⟩
  refine hK _ _ ⟨⟨_, HPW.out _ ⟨q0, q1⟩⟩, rfl⟩ ?_
  clear hK Kc
  refine Tryz.mix_step (by kernel_rfl) (fun Kc hK => ?_)
  go_simp
  refine (H60.out _ _ _).mono ?_
  rintro e w' ⟨rfl, rfl⟩
  refine hK _ _ ⟨⟨_, HPW.out _ ⟨q0, q1⟩⟩, rfl⟩ ?_
  clear hK Kc
  generalize W.drew = w' at q0 q1 kE2 ⊢
  refine Tryz.mix_step (by kernel_rfl) (fun Kc hK => ?_)
  go_simp
  obtain ⟨w3, hw3⟩ : ∃ w3, w3 = w'.alloc (Obj.cells #[Value.int IntKind.i64 (Tryz.cmpI K K), Value.int IntKind.i64 (Lib.compareBytes T.data.toList U.data.toList)] 3) := ⟨_, rfl⟩
  have r0 := Tryz.alloc_old q0 (Obj.cells #[Value.int IntKind.i64 (Tryz.cmpI K K), Value.int IntKind.i64 (Lib.compareBytes T.data.toList U.data.toList)] 3)
  have r1 := Tryz.alloc_old q1 (Obj.cells #[Value.int IntKind.i64 (Tryz.cmpI K K), Value.int IntKind.i64 (Lib.compareBytes T.data.toList U.data.toList)] 3)
  rw [← hw3] at r0 r1 ⊢
  have r2 : w3.heap[w'.heap.size]? = some (.cells (Tryz.i64c [Tryz.cmpI K K, Lib.compareBytes T.data.toList U.data.toList]) 3) := by rw [hw3]; exact Tryz.bnew _ _
  have hE3 : Tryz.Ext w w3 := by rw [hw3]; exact Tryz.alloc_ext kE2 _
  clear hw3
  refine hK _ _ ⟨⟨w3, HPW.out _ ⟨r0, r1⟩⟩, rfl⟩ ?_
  clear hK Kc
  refine Tryz.mix_step (by kernel_rfl) (fun Kc hK => ?_)
  go_simp
  refine (H58.out _ _ _ (by simp) fun i x hi => Tryz.bcell r2 (Tryz.i64c_get hi)).mono ?_
  rintro e w5 ⟨rfl, rfl⟩
  refine hK _ _ ⟨⟨_, HPW.out _ ⟨r0, r1⟩⟩, rfl⟩ ?_
  clear hK Kc
  refine Tryz.mix_step (by kernel_rfl) (fun Kc hK => ?_)
  go_simp
  refine hK _ _ ⟨⟨_, HPW.out _ ⟨r0, r1⟩⟩, rfl⟩ ?_
  refine Tryz.mix_nil ?_
  have HE := Lib.hid hE3
  clear hK Kc c0 c3 d0 d3 this q0 q1 kE2 r0 r1 r2 HPW hE3
  go_wp2
  go_ret
  exact ⟨rfl, HE.out⟩
set_option maxRecDepth 100000 in
set_option maxHeartbeats 4000000 in
theorem Tryz.compare29n (N M : Int) (S R : Nat) (T U : ByteArray) (hN : N.natAbs ≤ 999999999999999) (hM : M.natAbs ≤ 999999999999999) (hS : S ≤ 15) (hR : R ≤ 15) (w : World) :
    Calls Tryz.prog 29 #[.agg #[.int .i64 1, .int .i64 N, .int .i64 S, .string T], .agg #[.int .i64 1, .int .i64 M, .int .i64 R, .string U]] w fun e w' =>
      e = .returned (.int .i64 (Tryz.cmpS N M (N.natAbs * 10 ^ (max S R - S)) (M.natAbs * 10 ^ (max S R - R)))) ∧ Tryz.Ext w w' := by
  have H61 := Lib.hid (fun w => Tryz.compared61 N M S R hN hM hS hR w)
  have hE : ∀ o o2, Tryz.Ext w ((w.alloc o).alloc o2) := fun _ _ => Tryz.alloc_ext (Tryz.alloc_ext (.refl _) _) _
  have HE := Lib.hid hE
  clear hE
  go_enter Tryz.func29, Tryz.ntmps29
  go_wp2_with (go_at_call 61; refine (H61.out _).mono ?_; rintro e w1 ⟨rfl, hx⟩; have HX := Lib.hid hx; clear hx)
  go_ret
  exact ⟨rfl, (HE.out _ _).trans HX.out⟩
end Go.Proofs
/- sql.CompareValues. -/
namespace Go.Proofs
open Go.RowKit
/-- The order of right values. -/
def Tryz.cmpV (K N S : Int) (T : ByteArray) (J M R : Int) (U : ByteArray) : Int :=
  if K = 1 ∧ J = 1 then Tryz.cmpS N M (N.natAbs * 10 ^ (max S.toNat R.toNat - S.toNat)) (M.natAbs * 10 ^ (max S.toNat R.toNat - R.toNat)) else Tryz.firstF [Tryz.cmpI K J, Lib.compareBytes T.data.toList U.data.toList]
theorem Tryz.errV_num {N S : Int} {T : ByteArray} (h : Tryz.errV 1 N S T = 0) : N.natAbs ≤ 999999999999999 ∧ 0 ≤ S ∧ S ≤ 15 := by
  have hw : Tryz.wrongB 1 N S = false := by
    cases hx : Tryz.wrongB 1 N S
    · rfl
    · rw [Tryz.errV, if_pos hx] at h; cases h
  have hn : Tryz.numOk N S = true := by
    cases hx : Tryz.numOk N S
    · simp [Tryz.wrongB, hx] at hw
    · rfl
  simp [Tryz.numOk, Tryz.within] at hn
  omega
theorem Tryz.compare29 (K N S : Int) (T : ByteArray) (J M R : Int) (U : ByteArray) (h1 : Tryz.errV K N S T = 0) (h2 : Tryz.errV J M R U = 0) (w : World) :
    Calls Tryz.prog 29 #[.agg #[.int .i64 K, .int .i64 N, .int .i64 S, .string T], .agg #[.int .i64 J, .int .i64 M, .int .i64 R, .string U]] w fun e w' =>
      e = .returned (.int .i64 (Tryz.cmpV K N S T J M R U)) ∧ Tryz.Ext w w' := by
  unfold Tryz.cmpV
  by_cases hk : K = J
  · subst hk
    by_cases h : K = 1
    · subst h
      obtain ⟨hN, hS0, hS⟩ := Tryz.errV_num h1
      obtain ⟨hM, hR0, hR⟩ := Tryz.errV_num h2
      obtain ⟨s, rfl⟩ := Int.eq_ofNat_of_zero_le hS0
      obtain ⟨r, rfl⟩ := Int.eq_ofNat_of_zero_le hR0
      rw [if_pos ⟨rfl, rfl⟩]
      exact Tryz.compare29n N M s r T U hN hM (by omega) (by omega) w
    · rw [if_neg (fun x => h x.1)]
      exact Tryz.compare29b K N S M R T U h (by simpa using h) w
  · rw [if_neg (fun x => hk (x.1.trans x.2.symm))]
    exact Tryz.compare29a K J N S M R T U hk (by simpa using hk) w
theorem Tryz.valErr28 (K N S : Int) (T : ByteArray) (hL : T.size ≤ 300) (w : World) :
    Calls Tryz.prog 28 #[.agg #[.int .i64 K, .int .i64 N, .int .i64 S, .string T]] w fun e w' => e = .returned (.int .i64 (Tryz.errV K N S T)) ∧ Tryz.Ext w w' := by
  rw [← Tryz.errV_first]; exact Tryz.valueErr28 K N S T hL w
theorem Tryz.kind25 (K N S : Int) (T : ByteArray) (w : World) :
    Calls Tryz.prog 25 #[.agg #[.int .i64 K, .int .i64 N, .int .i64 S, .string T]] w fun e w' => e = .returned (.bool (Tryz.within K 0 2)) ∧ Tryz.Ext w w' := by
  have H := Lib.hid (fun x lo hi w => Tryz.in26 x lo hi w)
  have HE := Lib.hid (fun o => Tryz.alloc_ext (.refl w) o)
  go_enter Tryz.func25, Tryz.ntmps25
  go_wp2_with (go_at_call 26; refine (H.out _ _ _ _).mono ?_; rintro e w' ⟨rfl, rfl⟩)
  go_ret
  exact ⟨rfl, HE.out _⟩
set_option maxRecDepth 100000 in
set_option maxHeartbeats 4000000 in
theorem Tryz.values13a (K N S : Int) (T : ByteArray) (J M R : Int) (U : ByteArray) (hT : T.size ≤ 300) (hU : U.size ≤ 300) (hin : Tryz.within K 0 2 = false) (w : World) :
    Calls Tryz.prog 13 #[.agg #[.int .i64 K, .int .i64 N, .int .i64 S, .string T], .agg #[.int .i64 J, .int .i64 M, .int .i64 R, .string U]] w fun e w' =>
      e = .returned (.tuple #[.int .i64 0, .int .i64 4]) ∧ Tryz.Ext w w' := by
  have h25 := fun w => Tryz.kind25 K N S T w
  rw [hin] at h25
  have H25a := Lib.hid h25
  clear h25
  have H25b := Lib.hid (fun w => Tryz.kind25 J M R U w)
  have H28a := Lib.hid (fun w => Tryz.valErr28 K N S T hT w)
  have H28b := Lib.hid (fun w => Tryz.valErr28 J M R U hU w)
  have H19 := Lib.hid (fun b k w => Tryz.cond19 b k w)
  have H27 := Lib.hid (fun l b w h => Tryz.first27 l b 3 w h)
  go_enter Tryz.func13, Tryz.ntmps13
  go_wp2
  obtain ⟨W, hW⟩ : ∃ W, W = (w.alloc (Obj.cells #[Value.int IntKind.i64 K, Value.int IntKind.i64 N, Value.int IntKind.i64 S, Value.string T] 35)).alloc (Obj.cells #[Value.int IntKind.i64 J, Value.int IntKind.i64 M, Value.int IntKind.i64 R, Value.string U] 35) := ⟨_, rfl⟩
  rw [← hW]
  have k0 : W.heap[w.heap.size]? = some (Obj.cells #[Value.int IntKind.i64 K, Value.int IntKind.i64 N, Value.int IntKind.i64 S, Value.string T] 35) := by rw [hW]; exact Tryz.alloc_old (Tryz.bnew _ _) _
  have k1 : W.heap[w.heap.size + 1]? = some (Obj.cells #[Value.int IntKind.i64 J, Value.int IntKind.i64 M, Value.int IntKind.i64 R, Value.string U] 35) := by rw [hW]; exact Tryz.alloc_at (Tryz.alloc_sz rfl _) _
  have kE : Tryz.Ext w W := by rw [hW]; exact Tryz.alloc_ext (Tryz.alloc_ext (.refl _) _) _
  clear hW
  obtain ⟨p, hpW, hpO⟩ := Tryz.hideP fun w' => w'.heap[w.heap.size]? = some (Obj.cells #[Value.int IntKind.i64 K, Value.int IntKind.i64 N, Value.int IntKind.i64 S, Value.string T] 35) ∧ w'.heap[w.heap.size + 1]? = some (Obj.cells #[Value.int IntKind.i64 J, Value.int IntKind.i64 M, Value.int IntKind.i64 R, Value.string U] 35)
  haveI : Nonempty (Tryz.InC p) := ⟨⟨W, hpW W ⟨k0, k1⟩⟩⟩
  have c0 : ∀ x : Tryz.InC p, x.w.cell? ⟨w.heap.size, 0, none⟩ = some (.int .i64 K) := fun x => Tryz.bcell (j := 0) (hpO _ x.h).1 rfl
  have c1 : ∀ x : Tryz.InC p, x.w.cell? ⟨w.heap.size, 1, none⟩ = some (.int .i64 N) := fun x => Tryz.bcell (j := 1) (hpO _ x.h).1 rfl
  have c2 : ∀ x : Tryz.InC p, x.w.cell? ⟨w.heap.size, 2, none⟩ = some (.int .i64 S) := fun x => Tryz.bcell (j := 2) (hpO _ x.h).1 rfl
  have c3 : ∀ x : Tryz.InC p, x.w.cell? ⟨w.heap.size, 3, none⟩ = some (.string T) := fun x => Tryz.bcell (j := 3) (hpO _ x.h).1 rfl
  have d0 : ∀ x : Tryz.InC p, x.w.cell? ⟨w.heap.size + 1, 0, none⟩ = some (.int .i64 J) := fun x => Tryz.bcell (j := 0) (hpO _ x.h).2 rfl
  have d1 : ∀ x : Tryz.InC p, x.w.cell? ⟨w.heap.size + 1, 1, none⟩ = some (.int .i64 M) := fun x => Tryz.bcell (j := 1) (hpO _ x.h).2 rfl
  have d2 : ∀ x : Tryz.InC p, x.w.cell? ⟨w.heap.size + 1, 2, none⟩ = some (.int .i64 R) := fun x => Tryz.bcell (j := 2) (hpO _ x.h).2 rfl
  have d3 : ∀ x : Tryz.InC p, x.w.cell? ⟨w.heap.size + 1, 3, none⟩ = some (.string U) := fun x => Tryz.bcell (j := 3) (hpO _ x.h).2 rfl
  have HPW := Lib.hid hpW
  clear hpW hpO
  refine Tryz.region_order (C := fun w' => ∃ x : Tryz.InC p, w' = x.w)
    [(true, 0), (true, 1), (true, 11), (true, 13), (false, 2), (false, 3), (false, 4), (true, 5), (true, 6), (false, 7), (false, 8), (false, 9), (false, 10), (false, 12), (false, 14), (false, 15), (false, 16), (false, 17)] (by kernel_rfl) (by kernel_rfl) ⟨⟨{ W with drawn := W.drawn + 1 }, HPW.out _ ⟨k0, k1⟩⟩, rfl⟩ ?_
  simp only [Tryz.picks, List.filterMap_cons, List.filterMap_nil, List.getElem?_cons_succ, List.getElem?_cons_zero, Option.map_some]
  iterate 4 (refine Tryz.mix_calm (fun Kc hK => ?_); unfold Tryz.calm; go_simp; refine hK _ ?_; clear hK Kc)
  replace kE := kE.trans (Tryz.drew_ext W)
  replace k0 : W.drew.heap[w.heap.size]? = _ := k0
  replace k1 : W.drew.heap[w.heap.size + 1]? = _ := k1
  change Tryz.wpMix _ _ _ _ _ _ W.drew
  revert kE k0 k1
  generalize W.drew = W
  intro kE k0 k1
  refine Tryz.mix_step (by kernel_rfl) (fun Kc hK => ?_)
  go_simp
  refine (H25a.out _).mono ?_
  rintro e w2 ⟨rfl, hx⟩
  replace kE := kE.trans hx
  replace k0 := (hx.old _ (Array.getElem?_eq_some_iff.1 k0).1).trans k0
  replace k1 := (hx.old _ (Array.getElem?_eq_some_iff.1 k1).1).trans k1
  refine hK _ _ ⟨⟨w2, HPW.out _ ⟨k0, k1⟩⟩, rfl⟩ ?_
  clear hK Kc hx
  clear W
  revert w2
  intro W kE k0 k1
  refine Tryz.mix_step (by kernel_rfl) (fun Kc hK => ?_)
  go_simp
  refine hK _ _ ⟨⟨W, HPW.out _ ⟨k0, k1⟩⟩, rfl⟩ ?_
  clear hK Kc
  refine Tryz.mix_step (by kernel_rfl) (fun Kc hK => ?_)
  go_simp
  refine hK _ _ ⟨⟨W, HPW.out _ ⟨k0, k1⟩⟩, rfl⟩ ?_
  clear hK Kc
  iterate 4 (refine Tryz.mix_skip (by kernel_rfl) ?_; go_simp)
  refine Tryz.mix_step (by kernel_rfl) (fun Kc hK => ?_)
  go_simp
  refine hK _ _ ⟨⟨W, HPW.out _ ⟨k0, k1⟩⟩, rfl⟩ ?_
  clear hK Kc
  refine Tryz.mix_step (by kernel_rfl) (fun Kc hK => ?_)
  go_simp
  refine (H19.out _ _ _).mono ?_
  rintro e w' ⟨rfl, rfl⟩
  refine hK _ _ ⟨⟨_, HPW.out _ ⟨k0, k1⟩⟩, rfl⟩ ?_
  clear hK Kc
  refine Tryz.mix_step (by kernel_rfl) (fun Kc hK => ?_)
  go_simp
  refine (H28a.out _).mono ?_
  rintro e w2 ⟨rfl, hx⟩
  replace kE := kE.trans hx
  replace k0 := (hx.old _ (Array.getElem?_eq_some_iff.1 k0).1).trans k0
  replace k1 := (hx.old _ (Array.getElem?_eq_some_iff.1 k1).1).trans k1
  refine hK _ _ ⟨⟨w2, HPW.out _ ⟨k0, k1⟩⟩, rfl⟩ ?_
  clear hK Kc hx
  clear W
  revert w2
  intro W kE k0 k1
  refine Tryz.mix_step (by kernel_rfl) (fun Kc hK => ?_)
  go_simp
  refine (H28b.out _).mono ?_
  rintro e w2 ⟨rfl, hx⟩
  replace kE := kE.trans hx
  replace k0 := (hx.old _ (Array.getElem?_eq_some_iff.1 k0).1).trans k0
  replace k1 := (hx.old _ (Array.getElem?_eq_some_iff.1 k1).1).trans k1
  refine hK _ _ ⟨⟨w2, HPW.out _ ⟨k0, k1⟩⟩, rfl⟩ ?_
  clear hK Kc hx
  clear W
  revert w2
  intro W kE k0 k1
  refine Tryz.mix_step (by kernel_rfl) (fun Kc hK => ?_)
  go_simp
  obtain ⟨w3, hw3⟩ : ∃ w3, w3 = W.alloc (Obj.cells #[Value.int IntKind.i64 (Tryz.orZero true 4), Value.int IntKind.i64 (Tryz.errV K N S T), Value.int IntKind.i64 (Tryz.errV J M R U)] 25) := ⟨_, rfl⟩
  have r0 := Tryz.alloc_old k0 (Obj.cells #[Value.int IntKind.i64 (Tryz.orZero true 4), Value.int IntKind.i64 (Tryz.errV K N S T), Value.int IntKind.i64 (Tryz.errV J M R U)] 25)
  have r1 := Tryz.alloc_old k1 (Obj.cells #[Value.int IntKind.i64 (Tryz.orZero true 4), Value.int IntKind.i64 (Tryz.errV K N S T), Value.int IntKind.i64 (Tryz.errV J M R U)] 25)
  rw [← hw3] at r0 r1 ⊢
  have r2 : w3.heap[W.heap.size]? = some (.cells (Tryz.i64c [Tryz.orZero true 4, Tryz.errV K N S T, Tryz.errV J M R U]) 25) := by rw [hw3]; exact Tryz.bnew _ _
  have hE3 : Tryz.Ext w w3 := by rw [hw3]; exact Tryz.alloc_ext kE _
  clear hw3
  refine hK _ _ ⟨⟨w3, HPW.out _ ⟨r0, r1⟩⟩, rfl⟩ ?_
  clear hK Kc
  refine Tryz.mix_step (by kernel_rfl) (fun Kc hK => ?_)
  go_simp
  refine (H27.out _ _ _ (by simp) fun i x hi => Tryz.bcell r2 (Tryz.i64c_get hi)).mono ?_
  rintro e w5 ⟨rfl, rfl⟩
  refine hK _ _ ⟨⟨_, HPW.out _ ⟨r0, r1⟩⟩, rfl⟩ ?_
  clear hK Kc
  refine Tryz.mix_step (by kernel_rfl) (fun Kc hK => ?_)
  go_simp
  refine hK _ _ ⟨⟨_, HPW.out _ ⟨r0, r1⟩⟩, rfl⟩ ?_
  refine Tryz.mix_nil ?_
  clear hK Kc c0 c1 c2 c3 d0 d1 d2 d3 this kE k0 k1 r2
  rw [show Tryz.firstF [Tryz.orZero true 4, Tryz.errV K N S T, Tryz.errV J M R U] = 4 from rfl]
  have HE := Lib.hid hE3
  clear HPW hE3 r0 r1
  go_wp2
  go_ret2
  exact ⟨rfl, HE.out⟩
set_option maxRecDepth 100000 in
set_option maxHeartbeats 4000000 in
theorem Tryz.values13b (K N S : Int) (T : ByteArray) (J M R : Int) (U : ByteArray) (hT : T.size ≤ 300) (hU : U.size ≤ 300) (hin : Tryz.within K 0 2 = true) (hc : ¬ Tryz.firstF [Tryz.orZero (!Tryz.within J 0 2) 4, Tryz.errV K N S T, Tryz.errV J M R U] = 0) (w : World) :
    Calls Tryz.prog 13 #[.agg #[.int .i64 K, .int .i64 N, .int .i64 S, .string T], .agg #[.int .i64 J, .int .i64 M, .int .i64 R, .string U]] w fun e w' =>
      e = .returned (.tuple #[.int .i64 0, .int .i64 (Tryz.firstF [Tryz.orZero (!Tryz.within J 0 2) 4, Tryz.errV K N S T, Tryz.errV J M R U])]) ∧ Tryz.Ext w w' := by
  have h25 := fun w => Tryz.kind25 K N S T w
  rw [hin] at h25
  have H25a := Lib.hid h25
  clear h25
  have H25b := Lib.hid (fun w => Tryz.kind25 J M R U w)
  have H28a := Lib.hid (fun w => Tryz.valErr28 K N S T hT w)
  have H28b := Lib.hid (fun w => Tryz.valErr28 J M R U hU w)
  have H19 := Lib.hid (fun b k w => Tryz.cond19 b k w)
  have H27 := Lib.hid (fun l b w h => Tryz.first27 l b 3 w h)
  go_enter Tryz.func13, Tryz.ntmps13
  go_wp2
  obtain ⟨W, hW⟩ : ∃ W, W = (w.alloc (Obj.cells #[Value.int IntKind.i64 K, Value.int IntKind.i64 N, Value.int IntKind.i64 S, Value.string T] 35)).alloc (Obj.cells #[Value.int IntKind.i64 J, Value.int IntKind.i64 M, Value.int IntKind.i64 R, Value.string U] 35) := ⟨_, rfl⟩
  rw [← hW]
  have k0 : W.heap[w.heap.size]? = some (Obj.cells #[Value.int IntKind.i64 K, Value.int IntKind.i64 N, Value.int IntKind.i64 S, Value.string T] 35) := by rw [hW]; exact Tryz.alloc_old (Tryz.bnew _ _) _
  have k1 : W.heap[w.heap.size + 1]? = some (Obj.cells #[Value.int IntKind.i64 J, Value.int IntKind.i64 M, Value.int IntKind.i64 R, Value.string U] 35) := by rw [hW]; exact Tryz.alloc_at (Tryz.alloc_sz rfl _) _
  have kE : Tryz.Ext w W := by rw [hW]; exact Tryz.alloc_ext (Tryz.alloc_ext (.refl _) _) _
  clear hW
  obtain ⟨p, hpW, hpO⟩ := Tryz.hideP fun w' => w'.heap[w.heap.size]? = some (Obj.cells #[Value.int IntKind.i64 K, Value.int IntKind.i64 N, Value.int IntKind.i64 S, Value.string T] 35) ∧ w'.heap[w.heap.size + 1]? = some (Obj.cells #[Value.int IntKind.i64 J, Value.int IntKind.i64 M, Value.int IntKind.i64 R, Value.string U] 35)
  haveI : Nonempty (Tryz.InC p) := ⟨⟨W, hpW W ⟨k0, k1⟩⟩⟩
  have c0 : ∀ x : Tryz.InC p, x.w.cell? ⟨w.heap.size, 0, none⟩ = some (.int .i64 K) := fun x => Tryz.bcell (j := 0) (hpO _ x.h).1 rfl
  have c1 : ∀ x : Tryz.InC p, x.w.cell? ⟨w.heap.size, 1, none⟩ = some (.int .i64 N) := fun x => Tryz.bcell (j := 1) (hpO _ x.h).1 rfl
  have c2 : ∀ x : Tryz.InC p, x.w.cell? ⟨w.heap.size, 2, none⟩ = some (.int .i64 S) := fun x => Tryz.bcell (j := 2) (hpO _ x.h).1 rfl
  have c3 : ∀ x : Tryz.InC p, x.w.cell? ⟨w.heap.size, 3, none⟩ = some (.string T) := fun x => Tryz.bcell (j := 3) (hpO _ x.h).1 rfl
  have d0 : ∀ x : Tryz.InC p, x.w.cell? ⟨w.heap.size + 1, 0, none⟩ = some (.int .i64 J) := fun x => Tryz.bcell (j := 0) (hpO _ x.h).2 rfl
  have d1 : ∀ x : Tryz.InC p, x.w.cell? ⟨w.heap.size + 1, 1, none⟩ = some (.int .i64 M) := fun x => Tryz.bcell (j := 1) (hpO _ x.h).2 rfl
  have d2 : ∀ x : Tryz.InC p, x.w.cell? ⟨w.heap.size + 1, 2, none⟩ = some (.int .i64 R) := fun x => Tryz.bcell (j := 2) (hpO _ x.h).2 rfl
  have d3 : ∀ x : Tryz.InC p, x.w.cell? ⟨w.heap.size + 1, 3, none⟩ = some (.string U) := fun x => Tryz.bcell (j := 3) (hpO _ x.h).2 rfl
  have HPW := Lib.hid hpW
  clear hpW hpO
  refine Tryz.region_order (C := fun w' => ∃ x : Tryz.InC p, w' = x.w)
    [(true, 0), (true, 1), (true, 11), (true, 13), (false, 2), (false, 3), (false, 4), (true, 5), (true, 6), (false, 7), (false, 8), (false, 9), (false, 10), (false, 12), (false, 14), (false, 15), (false, 16), (false, 17)] (by kernel_rfl) (by kernel_rfl) ⟨⟨{ W with drawn := W.drawn + 1 }, HPW.out _ ⟨k0, k1⟩⟩, rfl⟩ ?_
  simp only [Tryz.picks, List.filterMap_cons, List.filterMap_nil, List.getElem?_cons_succ, List.getElem?_cons_zero, Option.map_some]
  iterate 4 (refine Tryz.mix_calm (fun Kc hK => ?_); unfold Tryz.calm; go_simp; refine hK _ ?_; clear hK Kc)
  replace kE := kE.trans (Tryz.drew_ext W)
  replace k0 : W.drew.heap[w.heap.size]? = _ := k0
  replace k1 : W.drew.heap[w.heap.size + 1]? = _ := k1
  change Tryz.wpMix _ _ _ _ _ _ W.drew
  revert kE k0 k1
  generalize W.drew = W
  intro kE k0 k1
  refine Tryz.mix_step (by kernel_rfl) (fun Kc hK => ?_)
  go_simp
  refine (H25a.out _).mono ?_
  rintro e w2 ⟨rfl, hx⟩
  replace kE := kE.trans hx
  replace k0 := (hx.old _ (Array.getElem?_eq_some_iff.1 k0).1).trans k0
  replace k1 := (hx.old _ (Array.getElem?_eq_some_iff.1 k1).1).trans k1
  refine hK _ _ ⟨⟨w2, HPW.out _ ⟨k0, k1⟩⟩, rfl⟩ ?_
  clear hK Kc hx
  clear W
  revert w2
  intro W kE k0 k1
  refine Tryz.mix_step (by kernel_rfl) (fun Kc hK => ?_)
  go_simp
  refine hK _ _ ⟨⟨W, HPW.out _ ⟨k0, k1⟩⟩, rfl⟩ ?_
  clear hK Kc
  refine Tryz.mix_step (by kernel_rfl) (fun Kc hK => ?_)
  go_simp
  refine hK _ _ ⟨⟨W, HPW.out _ ⟨k0, k1⟩⟩, rfl⟩ ?_
  clear hK Kc
  iterate 2 (refine Tryz.mix_calm (fun Kc hK => ?_); unfold Tryz.calm; go_simp; refine hK _ ?_; clear hK Kc)
  refine Tryz.mix_step (by kernel_rfl) (fun Kc hK => ?_)
  go_simp
  refine (H25b.out _).mono ?_
  rintro e w2 ⟨rfl, hx⟩
  replace kE := kE.trans hx
  replace k0 := (hx.old _ (Array.getElem?_eq_some_iff.1 k0).1).trans k0
  replace k1 := (hx.old _ (Array.getElem?_eq_some_iff.1 k1).1).trans k1
  refine hK _ _ ⟨⟨w2, HPW.out _ ⟨k0, k1⟩⟩, rfl⟩ ?_
  clear hK Kc hx
  clear W
  revert w2
  intro W kE k0 k1
  refine Tryz.mix_step (by kernel_rfl) (fun Kc hK => ?_)
  go_simp
  refine hK _ _ ⟨⟨W, HPW.out _ ⟨k0, k1⟩⟩, rfl⟩ ?_
  clear hK Kc
  refine Tryz.mix_step (by kernel_rfl) (fun Kc hK => ?_)
  go_simp
  refine hK _ _ ⟨⟨W, HPW.out _ ⟨k0, k1⟩⟩, rfl⟩ ?_
  clear hK Kc
  refine Tryz.mix_step (by kernel_rfl) (fun Kc hK => ?_)
  go_simp
  refine (H19.out _ _ _).mono ?_
  rintro e w' ⟨rfl, rfl⟩
  refine hK _ _ ⟨⟨_, HPW.out _ ⟨k0, k1⟩⟩, rfl⟩ ?_
  clear hK Kc
  refine Tryz.mix_step (by kernel_rfl) (fun Kc hK => ?_)
  go_simp
  refine (H28a.out _).mono ?_
  rintro e w2 ⟨rfl, hx⟩
  replace kE := kE.trans hx
  replace k0 := (hx.old _ (Array.getElem?_eq_some_iff.1 k0).1).trans k0
  replace k1 := (hx.old _ (Array.getElem?_eq_some_iff.1 k1).1).trans k1
  refine hK _ _ ⟨⟨w2, HPW.out _ ⟨k0, k1⟩⟩, rfl⟩ ?_
  clear hK Kc hx
  clear W
  revert w2
  intro W kE k0 k1
  refine Tryz.mix_step (by kernel_rfl) (fun Kc hK => ?_)
  go_simp
  refine (H28b.out _).mono ?_
  rintro e w2 ⟨rfl, hx⟩
  replace kE := kE.trans hx
  replace k0 := (hx.old _ (Array.getElem?_eq_some_iff.1 k0).1).trans k0
  replace k1 := (hx.old _ (Array.getElem?_eq_some_iff.1 k1).1).trans k1
  refine hK _ _ ⟨⟨w2, HPW.out _ ⟨k0, k1⟩⟩, rfl⟩ ?_
  clear hK Kc hx
  clear W
  revert w2
  intro W kE k0 k1
  refine Tryz.mix_step (by kernel_rfl) (fun Kc hK => ?_)
  go_simp
  obtain ⟨w3, hw3⟩ : ∃ w3, w3 = W.alloc (Obj.cells #[Value.int IntKind.i64 (Tryz.orZero (!Tryz.within J 0 2) 4), Value.int IntKind.i64 (Tryz.errV K N S T), Value.int IntKind.i64 (Tryz.errV J M R U)] 25) := ⟨_, rfl⟩
  have r0 := Tryz.alloc_old k0 (Obj.cells #[Value.int IntKind.i64 (Tryz.orZero (!Tryz.within J 0 2) 4), Value.int IntKind.i64 (Tryz.errV K N S T), Value.int IntKind.i64 (Tryz.errV J M R U)] 25)
  have r1 := Tryz.alloc_old k1 (Obj.cells #[Value.int IntKind.i64 (Tryz.orZero (!Tryz.within J 0 2) 4), Value.int IntKind.i64 (Tryz.errV K N S T), Value.int IntKind.i64 (Tryz.errV J M R U)] 25)
  rw [← hw3] at r0 r1 ⊢
  have r2 : w3.heap[W.heap.size]? = some (.cells (Tryz.i64c [Tryz.orZero (!Tryz.within J 0 2) 4, Tryz.errV K N S T, Tryz.errV J M R U]) 25) := by rw [hw3]; exact Tryz.bnew _ _
  have hE3 : Tryz.Ext w w3 := by rw [hw3]; exact Tryz.alloc_ext kE _
  clear hw3
  refine hK _ _ ⟨⟨w3, HPW.out _ ⟨r0, r1⟩⟩, rfl⟩ ?_
  clear hK Kc
  refine Tryz.mix_step (by kernel_rfl) (fun Kc hK => ?_)
  go_simp
  refine (H27.out _ _ _ (by simp) fun i x hi => Tryz.bcell r2 (Tryz.i64c_get hi)).mono ?_
  rintro e w5 ⟨rfl, rfl⟩
  refine hK _ _ ⟨⟨_, HPW.out _ ⟨r0, r1⟩⟩, rfl⟩ ?_
  clear hK Kc
  refine Tryz.mix_step (by kernel_rfl) (fun Kc hK => ?_)
  go_simp
  refine hK _ _ ⟨⟨_, HPW.out _ ⟨r0, r1⟩⟩, rfl⟩ ?_
  refine Tryz.mix_nil ?_
  clear hK Kc c0 c1 c2 c3 d0 d1 d2 d3 this kE k0 k1 r2
  obtain ⟨c, hcc⟩ : ∃ c, c = Tryz.firstF [Tryz.orZero (!Tryz.within J 0 2) 4, Tryz.errV K N S T, Tryz.errV J M R U] := ⟨_, rfl⟩
  rw [← hcc] at hc ⊢
  have HCC := Lib.hid hcc
  clear hcc
  have HE := Lib.hid hE3
  clear HPW hE3 r0 r1
  go_wp2
  go_ret2
  exact ⟨by rw [← HCC.out]; rfl, HE.out⟩
set_option maxRecDepth 100000 in
set_option maxHeartbeats 4000000 in
theorem Tryz.values13c (K N S : Int) (T : ByteArray) (J M R : Int) (U : ByteArray) (hT : T.size ≤ 300) (hU : U.size ≤ 300) (hin : Tryz.within K 0 2 = true) (hc : Tryz.firstF [Tryz.orZero (!Tryz.within J 0 2) 4, Tryz.errV K N S T, Tryz.errV J M R U] = 0) (h1 : Tryz.errV K N S T = 0) (h2 : Tryz.errV J M R U = 0) (w : World) :
    Calls Tryz.prog 13 #[.agg #[.int .i64 K, .int .i64 N, .int .i64 S, .string T], .agg #[.int .i64 J, .int .i64 M, .int .i64 R, .string U]] w fun e w' =>
      e = .returned (.tuple #[.int .i64 (Tryz.cmpV K N S T J M R U), .int .i64 0]) ∧ Tryz.Ext w w' := by
  have h25 := fun w => Tryz.kind25 K N S T w
  rw [hin] at h25
  have H25a := Lib.hid h25
  clear h25
  have H25b := Lib.hid (fun w => Tryz.kind25 J M R U w)
  have H28a := Lib.hid (fun w => Tryz.valErr28 K N S T hT w)
  have H28b := Lib.hid (fun w => Tryz.valErr28 J M R U hU w)
  have H19 := Lib.hid (fun b k w => Tryz.cond19 b k w)
  have H27 := Lib.hid (fun l b w h => Tryz.first27 l b 3 w h)
  have H29 := Lib.hid (fun w => Tryz.compare29 K N S T J M R U h1 h2 w)
  clear h1 h2
  go_enter Tryz.func13, Tryz.ntmps13
  go_wp2
  obtain ⟨W, hW⟩ : ∃ W, W = (w.alloc (Obj.cells #[Value.int IntKind.i64 K, Value.int IntKind.i64 N, Value.int IntKind.i64 S, Value.string T] 35)).alloc (Obj.cells #[Value.int IntKind.i64 J, Value.int IntKind.i64 M, Value.int IntKind.i64 R, Value.string U] 35) := ⟨_, rfl⟩
  rw [← hW]
  have k0 : W.heap[w.heap.size]? = some (Obj.cells #[Value.int IntKind.i64 K, Value.int IntKind.i64 N, Value.int IntKind.i64 S, Value.string T] 35) := by rw [hW]; exact Tryz.alloc_old (Tryz.bnew _ _) _
  have k1 : W.heap[w.heap.size + 1]? = some (Obj.cells #[Value.int IntKind.i64 J, Value.int IntKind.i64 M, Value.int IntKind.i64 R, Value.string U] 35) := by rw [hW]; exact Tryz.alloc_at (Tryz.alloc_sz rfl _) _
  have kE : Tryz.Ext w W := by rw [hW]; exact Tryz.alloc_ext (Tryz.alloc_ext (.refl _) _) _
  clear hW
  obtain ⟨p, hpW, hpO⟩ := Tryz.hideP fun w' => w'.heap[w.heap.size]? = some (Obj.cells #[Value.int IntKind.i64 K, Value.int IntKind.i64 N, Value.int IntKind.i64 S, Value.string T] 35) ∧ w'.heap[w.heap.size + 1]? = some (Obj.cells #[Value.int IntKind.i64 J, Value.int IntKind.i64 M, Value.int IntKind.i64 R, Value.string U] 35)
  haveI : Nonempty (Tryz.InC p) := ⟨⟨W, hpW W ⟨k0, k1⟩⟩⟩
  have c0 : ∀ x : Tryz.InC p, x.w.cell? ⟨w.heap.size, 0, none⟩ = some (.int .i64 K) := fun x => Tryz.bcell (j := 0) (hpO _ x.h).1 rfl
  have c1 : ∀ x : Tryz.InC p, x.w.cell? ⟨w.heap.size, 1, none⟩ = some (.int .i64 N) := fun x => Tryz.bcell (j := 1) (hpO _ x.h).1 rfl
  have c2 : ∀ x : Tryz.InC p, x.w.cell? ⟨w.heap.size, 2, none⟩ = some (.int .i64 S) := fun x => Tryz.bcell (j := 2) (hpO _ x.h).1 rfl
  have c3 : ∀ x : Tryz.InC p, x.w.cell? ⟨w.heap.size, 3, none⟩ = some (.string T) := fun x => Tryz.bcell (j := 3) (hpO _ x.h).1 rfl
  have d0 : ∀ x : Tryz.InC p, x.w.cell? ⟨w.heap.size + 1, 0, none⟩ = some (.int .i64 J) := fun x => Tryz.bcell (j := 0) (hpO _ x.h).2 rfl
  have d1 : ∀ x : Tryz.InC p, x.w.cell? ⟨w.heap.size + 1, 1, none⟩ = some (.int .i64 M) := fun x => Tryz.bcell (j := 1) (hpO _ x.h).2 rfl
  have d2 : ∀ x : Tryz.InC p, x.w.cell? ⟨w.heap.size + 1, 2, none⟩ = some (.int .i64 R) := fun x => Tryz.bcell (j := 2) (hpO _ x.h).2 rfl
  have d3 : ∀ x : Tryz.InC p, x.w.cell? ⟨w.heap.size + 1, 3, none⟩ = some (.string U) := fun x => Tryz.bcell (j := 3) (hpO _ x.h).2 rfl
  have HPW := Lib.hid hpW
  clear hpW hpO
  refine Tryz.region_order (C := fun w' => ∃ x : Tryz.InC p, w' = x.w)
    [(true, 0), (true, 1), (true, 11), (true, 13), (false, 2), (false, 3), (false, 4), (true, 5), (true, 6), (false, 7), (false, 8), (false, 9), (false, 10), (false, 12), (false, 14), (false, 15), (false, 16), (false, 17)] (by kernel_rfl) (by kernel_rfl) ⟨⟨{ W with drawn := W.drawn + 1 }, HPW.out _ ⟨k0, k1⟩⟩, rfl⟩ ?_
  simp only [Tryz.picks, List.filterMap_cons, List.filterMap_nil, List.getElem?_cons_succ, List.getElem?_cons_zero, Option.map_some]
  iterate 4 (refine Tryz.mix_calm (fun Kc hK => ?_); unfold Tryz.calm; go_simp; refine hK _ ?_; clear hK Kc)
  replace kE := kE.trans (Tryz.drew_ext W)
  replace k0 : W.drew.heap[w.heap.size]? = _ := k0
  replace k1 : W.drew.heap[w.heap.size + 1]? = _ := k1
  change Tryz.wpMix _ _ _ _ _ _ W.drew
  revert kE k0 k1
  generalize W.drew = W
  intro kE k0 k1
  refine Tryz.mix_step (by kernel_rfl) (fun Kc hK => ?_)
  go_simp
  refine (H25a.out _).mono ?_
  rintro e w2 ⟨rfl, hx⟩
  replace kE := kE.trans hx
  replace k0 := (hx.old _ (Array.getElem?_eq_some_iff.1 k0).1).trans k0
  replace k1 := (hx.old _ (Array.getElem?_eq_some_iff.1 k1).1).trans k1
  refine hK _ _ ⟨⟨w2, HPW.out _ ⟨k0, k1⟩⟩, rfl⟩ ?_
  clear hK Kc hx
  clear W
  revert w2
  intro W kE k0 k1
  refine Tryz.mix_step (by kernel_rfl) (fun Kc hK => ?_)
  go_simp
  refine hK _ _ ⟨⟨W, HPW.out _ ⟨k0, k1⟩⟩, rfl⟩ ?_
  clear hK Kc
  refine Tryz.mix_step (by kernel_rfl) (fun Kc hK => ?_)
  go_simp
  refine hK _ _ ⟨⟨W, HPW.out _ ⟨k0, k1⟩⟩, rfl⟩ ?_
  clear hK Kc
  iterate 2 (refine Tryz.mix_calm (fun Kc hK => ?_); unfold Tryz.calm; go_simp; refine hK _ ?_; clear hK Kc)
  refine Tryz.mix_step (by kernel_rfl) (fun Kc hK => ?_)
  go_simp
  refine (H25b.out _).mono ?_
  rintro e w2 ⟨rfl, hx⟩
  replace kE := kE.trans hx
  replace k0 := (hx.old _ (Array.getElem?_eq_some_iff.1 k0).1).trans k0
  replace k1 := (hx.old _ (Array.getElem?_eq_some_iff.1 k1).1).trans k1
  refine hK _ _ ⟨⟨w2, HPW.out _ ⟨k0, k1⟩⟩, rfl⟩ ?_
  clear hK Kc hx
  clear W
  revert w2
  intro W kE k0 k1
  refine Tryz.mix_step (by kernel_rfl) (fun Kc hK => ?_)
  go_simp
  refine hK _ _ ⟨⟨W, HPW.out _ ⟨k0, k1⟩⟩, rfl⟩ ?_
  clear hK Kc
  refine Tryz.mix_step (by kernel_rfl) (fun Kc hK => ?_)
  go_simp
  refine hK _ _ ⟨⟨W, HPW.out _ ⟨k0, k1⟩⟩, rfl⟩ ?_
  clear hK Kc
  refine Tryz.mix_step (by kernel_rfl) (fun Kc hK => ?_)
  go_simp
  refine (H19.out _ _ _).mono ?_
  rintro e w' ⟨rfl, rfl⟩
  refine hK _ _ ⟨⟨_, HPW.out _ ⟨k0, k1⟩⟩, rfl⟩ ?_
  clear hK Kc
  refine Tryz.mix_step (by kernel_rfl) (fun Kc hK => ?_)
  go_simp
  refine (H28a.out _).mono ?_
  rintro e w2 ⟨rfl, hx⟩
  replace kE := kE.trans hx
  replace k0 := (hx.old _ (Array.getElem?_eq_some_iff.1 k0).1).trans k0
  replace k1 := (hx.old _ (Array.getElem?_eq_some_iff.1 k1).1).trans k1
  refine hK _ _ ⟨⟨w2, HPW.out _ ⟨k0, k1⟩⟩, rfl⟩ ?_
  clear hK Kc hx
  clear W
  revert w2
  intro W kE k0 k1
  refine Tryz.mix_step (by kernel_rfl) (fun Kc hK => ?_)
  go_simp
  refine (H28b.out _).mono ?_
  rintro e w2 ⟨rfl, hx⟩
  replace kE := kE.trans hx
  replace k0 := (hx.old _ (Array.getElem?_eq_some_iff.1 k0).1).trans k0
  replace k1 := (hx.old _ (Array.getElem?_eq_some_iff.1 k1).1).trans k1
  refine hK _ _ ⟨⟨w2, HPW.out _ ⟨k0, k1⟩⟩, rfl⟩ ?_
  clear hK Kc hx
  clear W
  revert w2
  intro W kE k0 k1
  refine Tryz.mix_step (by kernel_rfl) (fun Kc hK => ?_)
  go_simp
  obtain ⟨w3, hw3⟩ : ∃ w3, w3 = W.alloc (Obj.cells #[Value.int IntKind.i64 (Tryz.orZero (!Tryz.within J 0 2) 4), Value.int IntKind.i64 (Tryz.errV K N S T), Value.int IntKind.i64 (Tryz.errV J M R U)] 25) := ⟨_, rfl⟩
  have r0 := Tryz.alloc_old k0 (Obj.cells #[Value.int IntKind.i64 (Tryz.orZero (!Tryz.within J 0 2) 4), Value.int IntKind.i64 (Tryz.errV K N S T), Value.int IntKind.i64 (Tryz.errV J M R U)] 25)
  have r1 := Tryz.alloc_old k1 (Obj.cells #[Value.int IntKind.i64 (Tryz.orZero (!Tryz.within J 0 2) 4), Value.int IntKind.i64 (Tryz.errV K N S T), Value.int IntKind.i64 (Tryz.errV J M R U)] 25)
  rw [← hw3] at r0 r1 ⊢
  have r2 : w3.heap[W.heap.size]? = some (.cells (Tryz.i64c [Tryz.orZero (!Tryz.within J 0 2) 4, Tryz.errV K N S T, Tryz.errV J M R U]) 25) := by rw [hw3]; exact Tryz.bnew _ _
  have hE3 : Tryz.Ext w w3 := by rw [hw3]; exact Tryz.alloc_ext kE _
  clear hw3
  refine hK _ _ ⟨⟨w3, HPW.out _ ⟨r0, r1⟩⟩, rfl⟩ ?_
  clear hK Kc
  refine Tryz.mix_step (by kernel_rfl) (fun Kc hK => ?_)
  go_simp
  refine (H27.out _ _ _ (by simp) fun i x hi => Tryz.bcell r2 (Tryz.i64c_get hi)).mono ?_
  rintro e w5 ⟨rfl, rfl⟩
  refine hK _ _ ⟨⟨_, HPW.out _ ⟨r0, r1⟩⟩, rfl⟩ ?_
  clear hK Kc
  refine Tryz.mix_step (by kernel_rfl) (fun Kc hK => ?_)
  go_simp
  refine hK _ _ ⟨⟨_, HPW.out _ ⟨r0, r1⟩⟩, rfl⟩ ?_
  refine Tryz.mix_nil ?_
  clear hK Kc c0 c1 c2 c3 d0 d1 d2 d3 this kE k0 k1 r2
  have f0 := Tryz.bcell (j := 0) r0 rfl; have f1 := Tryz.bcell (j := 1) r0 rfl; have f2 := Tryz.bcell (j := 2) r0 rfl; have f3 := Tryz.bcell (j := 3) r0 rfl
  have g0 := Tryz.bcell (j := 0) r1 rfl; have g1 := Tryz.bcell (j := 1) r1 rfl; have g2 := Tryz.bcell (j := 2) r1 rfl; have g3 := Tryz.bcell (j := 3) r1 rfl
  have HE := Lib.hid hE3
  clear HPW hE3 r0 r1
  go_wp2_with (go_at_call 29; refine (H29.out _).mono ?_; rintro e w6 ⟨rfl, hx⟩; have HX := Lib.hid (HE.out.trans hx); clear hx)
  go_ret2
  exact ⟨rfl, HX.out⟩
/-- The error of two values; the order, or 0. -/
def Tryz.resC (K N S : Int) (T : ByteArray) (J M R : Int) (U : ByteArray) : Int := if (Tryz.within K 0 2 && Tryz.within J 0 2) = true then (if Tryz.errV K N S T = 0 then Tryz.errV J M R U else Tryz.errV K N S T) else 4
def Tryz.resN (K N S : Int) (T : ByteArray) (J M R : Int) (U : ByteArray) : Int := if Tryz.resC K N S T J M R U = 0 then Tryz.cmpV K N S T J M R U else 0
theorem Tryz.values13 (K N S : Int) (T : ByteArray) (J M R : Int) (U : ByteArray) (hT : T.size ≤ 300) (hU : U.size ≤ 300) (w : World) :
    Calls Tryz.prog 13 #[.agg #[.int .i64 K, .int .i64 N, .int .i64 S, .string T], .agg #[.int .i64 J, .int .i64 M, .int .i64 R, .string U]] w fun e w' =>
      e = .returned (.tuple #[.int .i64 (Tryz.resN K N S T J M R U), .int .i64 (Tryz.resC K N S T J M R U)]) ∧ Tryz.Ext w w' := by
  cases hin : Tryz.within K 0 2
  · have hc : Tryz.resC K N S T J M R U = 4 := by rw [Tryz.resC, hin]; rfl
    rw [Tryz.resN, hc]
    exact Tryz.values13a K N S T J M R U hT hU hin w
  · have hf : Tryz.firstF [Tryz.orZero (!Tryz.within J 0 2) 4, Tryz.errV K N S T, Tryz.errV J M R U] = Tryz.resC K N S T J M R U := by
      rw [Tryz.resC, hin]
      cases Tryz.within J 0 2
      · rfl
      · by_cases h1 : Tryz.errV K N S T = 0
        · by_cases h2 : Tryz.errV J M R U = 0
          · simp [Tryz.firstF, Tryz.orZero, h1, h2]
          · simp [Tryz.firstF, Tryz.orZero, h1, h2]
        · simp [Tryz.firstF, Tryz.orZero, h1]
    by_cases hc : Tryz.firstF [Tryz.orZero (!Tryz.within J 0 2) 4, Tryz.errV K N S T, Tryz.errV J M R U] = 0
    · have hc' := hc
      rw [hf] at hc'
      have hj : Tryz.within J 0 2 = true := by
        cases hj : Tryz.within J 0 2
        · rw [Tryz.resC, hin, hj] at hc'; cases hc'
        · rfl
      have h1 : Tryz.errV K N S T = 0 := by
        by_cases h1 : Tryz.errV K N S T = 0
        · exact h1
        · rw [Tryz.resC, hin, hj, Bool.and_self, if_pos rfl, if_neg h1] at hc'; exact hc'
      have h2 : Tryz.errV J M R U = 0 := by rw [Tryz.resC, hin, hj, Bool.and_self, if_pos rfl, if_pos h1] at hc'; exact hc'
      rw [Tryz.resN, if_pos hc', hc']
      exact Tryz.values13c K N S T J M R U hT hU hin hc h1 h2 w
    · have hc' := hc
      rw [hf] at hc'
      rw [Tryz.resN, if_neg hc', ← hf]
      exact Tryz.values13b K N S T J M R U hT hU hin hc w
end Go.Proofs
