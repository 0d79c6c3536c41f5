/- Part 29 of the proof. -/
import Derived.Test.YtnmkgbomiillgaaGreatDoorP28
import Derived.Test.YtnmkgbomiillgaaGreatDoorP24
/- awake, by its run. -/
namespace Go.XR
open Proofs
theorem m102_good {B : World} {ρg : Pm} (hG : Good B gl0 5 ρg) : MemoGood PT B m102 := memo_of hG (fun _ _ => fok tree_ok) m102_run
theorem orc_ok {B : World} {ρg : Pm} (hG : Good B gl0 5 ρg) {l : List Ck} (h : ∀ c ∈ l, CkGood PT B gl0 c) : OrcOk PT B (orE (treeC 20) (orE (memoC [m102]) (ckC gl0 l))) :=
  tree_ok.or ((memoC_ok fun m hm => by rw [List.mem_singleton.1 hm]; exact m102_good hG).or (ckC_ok h))
theorem cons_ok {B : World} {c : Ck} {l : List Ck} (h : CkGood PT B gl0 c) (k : ∀ c ∈ l, CkGood PT B gl0 c) : ∀ x ∈ c :: l, CkGood PT B gl0 x := fun x hx => by
  rcases List.mem_cons.1 hx with rfl | hx
  · exact h
  · exact k x hx
theorem cks_good {B : World} {ρg : Pm} (hG : Good B gl0 5 ρg) : ∀ c ∈ [ck4, ck3, ck2, ck1, ck0], CkGood PT B gl0 c := by
  have h0 : ∀ c ∈ ([] : List Ck), CkGood PT B gl0 c := fun c hc => by cases hc
  have h1 := cons_ok (ck_of (fok (orc_ok hG h0)) ck0_run) h0
  have h2 := cons_ok (ck_of (fok (orc_ok hG h1)) ck1_run) h1
  have h3 := cons_ok (ck_of (fok (orc_ok hG h2)) ck2_run) h2
  have h4 := cons_ok (ck_of (fok (orc_ok hG h3)) ck3_run) h3
  exact cons_ok (ck_of (fok (orc_ok hG h4)) ck4_run) h4
theorem isTrueR_eq {r : Res} (h : isTrueR r = true) : ∃ s, r = some (.at (.bool true), s) := by
  unfold isTrueR at h
  split at h
  · exact ⟨_, rfl⟩
  · cases h
theorem awake_calls {B : World} {ρg : Pm} (hG : Good B gl0 5 ρg) : Calls PT 6 #[] B fun e w' => e = .returned (.bool true) ∧ ExtW B w' := by
  obtain ⟨s', he⟩ := isTrueR_eq awake_run
  cases calls_go (fok (orc_ok hG (cks_good hG))) he hG.rel (us := []) rfl with
  | enter h1 h2 =>
    refine h2.mono fun e w' h => ?_
    obtain ⟨u, ρ', k1, k2, k3, _⟩ := h
    cases k2
    exact ⟨k1, k3.ext_w⟩
  | value h1 h2 h3 =>
    have := enters_of Tryz.func6 (by kernel_rfl) rfl #[] B
    rw [this] at h1
    cases h1
end Go.XR
/- The law over the order of values: the walk. -/
namespace Go.Proofs
open Go.RowKit
/-- A world in which 'awake' answers. -/
def Tryz.AwakeAt (w : World) : Prop := Calls Tryz.prog 6 #[] w fun e w' => e = .returned (.bool true) ∧ Tryz.Ext w w'
set_option maxRecDepth 100000 in
set_option maxHeartbeats 4000000 in
theorem Tryz.compares_ina (K N S : Int) (T : ByteArray) (J M R : Int) (U : ByteArray) (hT : (300 : Int) < (T.size : Int)) (w : World) (haw : ∀ w, Tryz.AwakeAt w → Calls Tryz.prog 6 #[] w fun e w' => e = .returned (.bool true) ∧ Tryz.Ext w w') (hw : ∀ o o2, Tryz.AwakeAt ((w.alloc o).alloc o2)) :
    Calls Tryz.prog 5 #[.agg #[.int .i64 K, .int .i64 N, .int .i64 S, .string T], .agg #[.int .i64 J, .int .i64 M, .int .i64 R, .string U]] w fun e w' => e = .returned (.bool true) ∧ Tryz.Ext w w' := by
  have HA := Lib.hid haw
  have HAW := Lib.hid hw
  have HK0 := Lib.hid (show ((w.alloc (Obj.cells #[Value.int IntKind.i64 K, Value.int IntKind.i64 N, Value.int IntKind.i64 S, Value.string T] 35)).alloc (Obj.cells #[Value.int IntKind.i64 J, Value.int IntKind.i64 M, Value.int IntKind.i64 R, Value.string U] 35)).heap[w.heap.size]? = some (Obj.cells #[Value.int IntKind.i64 K, Value.int IntKind.i64 N, Value.int IntKind.i64 S, Value.string T] 35) from Tryz.alloc_old (Tryz.bnew _ _) _)
  have HK1 := Lib.hid (show ((w.alloc (Obj.cells #[Value.int IntKind.i64 K, Value.int IntKind.i64 N, Value.int IntKind.i64 S, Value.string T] 35)).alloc (Obj.cells #[Value.int IntKind.i64 J, Value.int IntKind.i64 M, Value.int IntKind.i64 R, Value.string U] 35)).heap[w.heap.size + 1]? = some (Obj.cells #[Value.int IntKind.i64 J, Value.int IntKind.i64 M, Value.int IntKind.i64 R, Value.string U] 35) from Tryz.alloc_at (Tryz.alloc_sz rfl _) _)
  have HE := Lib.hid (show Tryz.Ext w ((w.alloc (Obj.cells #[Value.int IntKind.i64 K, Value.int IntKind.i64 N, Value.int IntKind.i64 S, Value.string T] 35)).alloc (Obj.cells #[Value.int IntKind.i64 J, Value.int IntKind.i64 M, Value.int IntKind.i64 R, Value.string U] 35)) from Tryz.alloc_ext (Tryz.alloc_ext (.refl _) _) _)
  clear haw hw
  go_enter Tryz.func5, Tryz.ntmps5
  go_wp2_with (first
    | (go_at_call 6; refine (HA.out _ (HAW.out _ _)).mono ?_; rintro e w1 ⟨rfl, hx⟩
       have q0 := (hx.old _ (Array.getElem?_eq_some_iff.1 HK0.out).1).trans HK0.out
       have q1 := (hx.old _ (Array.getElem?_eq_some_iff.1 HK1.out).1).trans HK1.out
       have a0 := Tryz.bcell (j := 0) q0 rfl; have a1 := Tryz.bcell (j := 1) q0 rfl; have a2 := Tryz.bcell (j := 2) q0 rfl; have a3 := Tryz.bcell (j := 3) q0 rfl
       have b0 := Tryz.bcell (j := 0) q1 rfl; have b1 := Tryz.bcell (j := 1) q1 rfl; have b2 := Tryz.bcell (j := 2) q1 rfl; have b3 := Tryz.bcell (j := 3) q1 rfl
       have HE1 := Lib.hid (HE.out.trans hx)
       have Q0 := Lib.hid q0; have Q1 := Lib.hid q1; clear q0 q1 hx)
    | (go_at_call 13; refine (H13.out _).mono ?_; rintro e w2 ⟨rfl, hx⟩
       have q0 := (hx.old _ (Array.getElem?_eq_some_iff.1 Q0.out).1).trans Q0.out
       have q1 := (hx.old _ (Array.getElem?_eq_some_iff.1 Q1.out).1).trans Q1.out
       clear a0 a1 a2 a3 b0 b1 b2 b3
       have a0 := Tryz.bcell (j := 0) q0 rfl; have a1 := Tryz.bcell (j := 1) q0 rfl; have a2 := Tryz.bcell (j := 2) q0 rfl; have a3 := Tryz.bcell (j := 3) q0 rfl
       have b0 := Tryz.bcell (j := 0) q1 rfl; have b1 := Tryz.bcell (j := 1) q1 rfl; have b2 := Tryz.bcell (j := 2) q1 rfl; have b3 := Tryz.bcell (j := 3) q1 rfl
       have HE2 := Lib.hid (HE1.out.trans hx); clear q0 q1 hx)
    | (go_at_call 14; refine (H14.out _).mono ?_; rintro e w3 ⟨rfl, hx⟩; have HE3 := Lib.hid (HE2.out.trans hx); clear hx))
  go_ret
  exact ⟨by simp, HE1.out⟩
set_option maxRecDepth 100000 in
set_option maxHeartbeats 4000000 in
theorem Tryz.compares_inb (K N S : Int) (T : ByteArray) (J M R : Int) (U : ByteArray) (hT : ¬ (300 : Int) < (T.size : Int)) (hU : (300 : Int) < (U.size : Int)) (w : World) (haw : ∀ w, Tryz.AwakeAt w → Calls Tryz.prog 6 #[] w fun e w' => e = .returned (.bool true) ∧ Tryz.Ext w w') (hw : ∀ o o2, Tryz.AwakeAt ((w.alloc o).alloc o2)) :
    Calls Tryz.prog 5 #[.agg #[.int .i64 K, .int .i64 N, .int .i64 S, .string T], .agg #[.int .i64 J, .int .i64 M, .int .i64 R, .string U]] w fun e w' => e = .returned (.bool true) ∧ Tryz.Ext w w' := by
  have HA := Lib.hid haw
  have HAW := Lib.hid hw
  have HK0 := Lib.hid (show ((w.alloc (Obj.cells #[Value.int IntKind.i64 K, Value.int IntKind.i64 N, Value.int IntKind.i64 S, Value.string T] 35)).alloc (Obj.cells #[Value.int IntKind.i64 J, Value.int IntKind.i64 M, Value.int IntKind.i64 R, Value.string U] 35)).heap[w.heap.size]? = some (Obj.cells #[Value.int IntKind.i64 K, Value.int IntKind.i64 N, Value.int IntKind.i64 S, Value.string T] 35) from Tryz.alloc_old (Tryz.bnew _ _) _)
  have HK1 := Lib.hid (show ((w.alloc (Obj.cells #[Value.int IntKind.i64 K, Value.int IntKind.i64 N, Value.int IntKind.i64 S, Value.string T] 35)).alloc (Obj.cells #[Value.int IntKind.i64 J, Value.int IntKind.i64 M, Value.int IntKind.i64 R, Value.string U] 35)).heap[w.heap.size + 1]? = some (Obj.cells #[Value.int IntKind.i64 J, Value.int IntKind.i64 M, Value.int IntKind.i64 R, Value.string U] 35) from Tryz.alloc_at (Tryz.alloc_sz rfl _) _)
  have HE := Lib.hid (show Tryz.Ext w ((w.alloc (Obj.cells #[Value.int IntKind.i64 K, Value.int IntKind.i64 N, Value.int IntKind.i64 S, Value.string T] 35)).alloc (Obj.cells #[Value.int IntKind.i64 J, Value.int IntKind.i64 M, Value.int IntKind.i64 R, Value.string U] 35)) from Tryz.alloc_ext (Tryz.alloc_ext (.refl _) _) _)
  clear haw hw
  go_enter Tryz.func5, Tryz.ntmps5
  go_wp2_with (first
    | (go_at_call 6; refine (HA.out _ (HAW.out _ _)).mono ?_; rintro e w1 ⟨rfl, hx⟩
       have q0 := (hx.old _ (Array.getElem?_eq_some_iff.1 HK0.out).1).trans HK0.out
       have q1 := (hx.old _ (Array.getElem?_eq_some_iff.1 HK1.out).1).trans HK1.out
       have a0 := Tryz.bcell (j := 0) q0 rfl; have a1 := Tryz.bcell (j := 1) q0 rfl; have a2 := Tryz.bcell (j := 2) q0 rfl; have a3 := Tryz.bcell (j := 3) q0 rfl
       have b0 := Tryz.bcell (j := 0) q1 rfl; have b1 := Tryz.bcell (j := 1) q1 rfl; have b2 := Tryz.bcell (j := 2) q1 rfl; have b3 := Tryz.bcell (j := 3) q1 rfl
       have HE1 := Lib.hid (HE.out.trans hx)
       have Q0 := Lib.hid q0; have Q1 := Lib.hid q1; clear q0 q1 hx)
    | (go_at_call 13; refine (H13.out _).mono ?_; rintro e w2 ⟨rfl, hx⟩
       have q0 := (hx.old _ (Array.getElem?_eq_some_iff.1 Q0.out).1).trans Q0.out
       have q1 := (hx.old _ (Array.getElem?_eq_some_iff.1 Q1.out).1).trans Q1.out
       clear a0 a1 a2 a3 b0 b1 b2 b3
       have a0 := Tryz.bcell (j := 0) q0 rfl; have a1 := Tryz.bcell (j := 1) q0 rfl; have a2 := Tryz.bcell (j := 2) q0 rfl; have a3 := Tryz.bcell (j := 3) q0 rfl
       have b0 := Tryz.bcell (j := 0) q1 rfl; have b1 := Tryz.bcell (j := 1) q1 rfl; have b2 := Tryz.bcell (j := 2) q1 rfl; have b3 := Tryz.bcell (j := 3) q1 rfl
       have HE2 := Lib.hid (HE1.out.trans hx); clear q0 q1 hx)
    | (go_at_call 14; refine (H14.out _).mono ?_; rintro e w3 ⟨rfl, hx⟩; have HE3 := Lib.hid (HE2.out.trans hx); clear hx))
  go_ret
  exact ⟨by simp, HE1.out⟩
set_option maxRecDepth 100000 in
set_option maxHeartbeats 4000000 in
theorem Tryz.compares_inc (K N S : Int) (T : ByteArray) (J M R : Int) (U : ByteArray) (hT : ¬ (300 : Int) < (T.size : Int)) (hU : ¬ (300 : Int) < (U.size : Int)) (w : World) (haw : ∀ w, Tryz.AwakeAt w → Calls Tryz.prog 6 #[] w fun e w' => e = .returned (.bool true) ∧ Tryz.Ext w w') (hw : ∀ o o2, Tryz.AwakeAt ((w.alloc o).alloc o2)) :
    Calls Tryz.prog 5 #[.agg #[.int .i64 K, .int .i64 N, .int .i64 S, .string T], .agg #[.int .i64 J, .int .i64 M, .int .i64 R, .string U]] w fun e w' => e = .returned (.bool true) ∧ Tryz.Ext w w' := by
  have HA := Lib.hid haw
  have HAW := Lib.hid hw
  have H13 := Lib.hid (fun w => Tryz.values13 K N S T J M R U (by omega) (by omega) w)
  have H14 := Lib.hid (fun w => Tryz.compared14 K N S T J M R U w)
  have HK0 := Lib.hid (show ((w.alloc (Obj.cells #[Value.int IntKind.i64 K, Value.int IntKind.i64 N, Value.int IntKind.i64 S, Value.string T] 35)).alloc (Obj.cells #[Value.int IntKind.i64 J, Value.int IntKind.i64 M, Value.int IntKind.i64 R, Value.string U] 35)).heap[w.heap.size]? = some (Obj.cells #[Value.int IntKind.i64 K, Value.int IntKind.i64 N, Value.int IntKind.i64 S, Value.string T] 35) from Tryz.alloc_old (Tryz.bnew _ _) _)
  have HK1 := Lib.hid (show ((w.alloc (Obj.cells #[Value.int IntKind.i64 K, Value.int IntKind.i64 N, Value.int IntKind.i64 S, Value.string T] 35)).alloc (Obj.cells #[Value.int IntKind.i64 J, Value.int IntKind.i64 M, Value.int IntKind.i64 R, Value.string U] 35)).heap[w.heap.size + 1]? = some (Obj.cells #[Value.int IntKind.i64 J, Value.int IntKind.i64 M, Value.int IntKind.i64 R, Value.string U] 35) from Tryz.alloc_at (Tryz.alloc_sz rfl _) _)
  have HE := Lib.hid (show Tryz.Ext w ((w.alloc (Obj.cells #[Value.int IntKind.i64 K, Value.int IntKind.i64 N, Value.int IntKind.i64 S, Value.string T] 35)).alloc (Obj.cells #[Value.int IntKind.i64 J, Value.int IntKind.i64 M, Value.int IntKind.i64 R, Value.string U] 35)) from Tryz.alloc_ext (Tryz.alloc_ext (.refl _) _) _)
  clear haw hw
  go_enter Tryz.func5, Tryz.ntmps5
  go_wp2_with (first
    | (go_at_call 6; refine (HA.out _ (HAW.out _ _)).mono ?_; rintro e w1 ⟨rfl, hx⟩
       have q0 := (hx.old _ (Array.getElem?_eq_some_iff.1 HK0.out).1).trans HK0.out
       have q1 := (hx.old _ (Array.getElem?_eq_some_iff.1 HK1.out).1).trans HK1.out
       have a0 := Tryz.bcell (j := 0) q0 rfl; have a1 := Tryz.bcell (j := 1) q0 rfl; have a2 := Tryz.bcell (j := 2) q0 rfl; have a3 := Tryz.bcell (j := 3) q0 rfl
       have b0 := Tryz.bcell (j := 0) q1 rfl; have b1 := Tryz.bcell (j := 1) q1 rfl; have b2 := Tryz.bcell (j := 2) q1 rfl; have b3 := Tryz.bcell (j := 3) q1 rfl
       have HE1 := Lib.hid (HE.out.trans hx)
       have Q0 := Lib.hid q0; have Q1 := Lib.hid q1; clear q0 q1 hx)
    | (go_at_call 13; refine (H13.out _).mono ?_; rintro e w2 ⟨rfl, hx⟩
       have q0 := (hx.old _ (Array.getElem?_eq_some_iff.1 Q0.out).1).trans Q0.out
       have q1 := (hx.old _ (Array.getElem?_eq_some_iff.1 Q1.out).1).trans Q1.out
       clear a0 a1 a2 a3 b0 b1 b2 b3
       have a0 := Tryz.bcell (j := 0) q0 rfl; have a1 := Tryz.bcell (j := 1) q0 rfl; have a2 := Tryz.bcell (j := 2) q0 rfl; have a3 := Tryz.bcell (j := 3) q0 rfl
       have b0 := Tryz.bcell (j := 0) q1 rfl; have b1 := Tryz.bcell (j := 1) q1 rfl; have b2 := Tryz.bcell (j := 2) q1 rfl; have b3 := Tryz.bcell (j := 3) q1 rfl
       have HE2 := Lib.hid (HE1.out.trans hx); clear q0 q1 hx)
    | (go_at_call 14; refine (H14.out _).mono ?_; rintro e w3 ⟨rfl, hx⟩; have HE3 := Lib.hid (HE2.out.trans hx); clear hx))
  go_ret
  exact ⟨by simp, HE3.out⟩
theorem Tryz.compares_in (K N S : Int) (T : ByteArray) (J M R : Int) (U : ByteArray) (w : World) (hw : ∀ o o2, Tryz.AwakeAt ((w.alloc o).alloc o2)) :
    Calls Tryz.prog 5 #[.agg #[.int .i64 K, .int .i64 N, .int .i64 S, .string T], .agg #[.int .i64 J, .int .i64 M, .int .i64 R, .string U]] w fun e w' => e = .returned (.bool true) ∧ Tryz.Ext w w' := by
  by_cases hT : (300 : Int) < (T.size : Int)
  · exact Tryz.compares_ina K N S T J M R U hT w (fun _ h => h) hw
  · by_cases hU : (300 : Int) < (U.size : Int)
    · exact Tryz.compares_inb K N S T J M R U hT hU w (fun _ h => h) hw
    · exact Tryz.compares_inc K N S T J M R U hT hU w (fun _ h => h) hw
end Go.Proofs
