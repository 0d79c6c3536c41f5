/- Part 18 of the proof. -/
import Derived.Test.YtnmkgbomiillgaaGreatDoorP17
import Derived.Deep.Quiet
import Derived.Deep.QuietTactic
import Derived.StillTailTactics
/- midrangeref30.Likes: the walk. -/
namespace Go.Proofs
open Go.RowKit
theorem Tryz.still_want {P : Program} {ops : Array Oper} {w : World} {Q : Act → Prop} {a : Act} {o : Oper} {rest : List Oper} (hw : Region.wanted o (yielded ops a.tmps) = true)
    (h : ∀ K : Act → Prop, (∀ a, wpStill P ops w Q rest a → K a) → o.still P a w K) : wpStill P ops w Q (o :: rest) a := by
  rw [wpStill, if_pos hw]; exact h _ (fun _ h => h)
theorem Tryz.still_skip {P : Program} {ops : Array Oper} {w : World} {Q : Act → Prop} {a : Act} {o : Oper} {rest : List Oper} (hw : Region.wanted o (yielded ops a.tmps) = false)
    (h : ∀ K : Act → Prop, (∀ a, wpStill P ops w Q rest a → K a) → K (a.put o.dst undef)) : wpStill P ops w Q (o :: rest) a := by
  rw [wpStill, if_neg (by rw [hw]; decide)]; exact h _ (fun _ h => h)
set_option maxRecDepth 100000 in
set_option maxHeartbeats 4000000 in
theorem Tryz.refLikes_in (p s : ByteArray) (w : World) (hp : p.size ≤ 1000) (hs : s.size ≤ 1000) :
    Calls Tryz.prog 12 #[.string p, .string s] w fun e w' => e = .returned (.bool (Tryz.likesF p.data.toList (Tryz.trimL s.data.toList))) ∧ Tryz.Ext w w' := by
  go_enter Tryz.func12, Tryz.ntmps12
  go_wp2
  go_loop [1] (fun t => ∃ b : ByteArray, t = .string b ∧ Tryz.trimL b.data.toList = Tryz.trimL s.data.toList ∧ b.size ≤ 1000) (fun t => match t with | .string b => b.size | _ => 0)
  case atStart => exact ⟨s, rfl, rfl, hs⟩
  case round =>
    obtain ⟨t, rfl, hb, hbs⟩ := hrel
    have hbs' : (t.size : Int) ≤ 1000 := by omega
    have HB := Lib.hid hb; clear hb
    -- when the loop ends
    have hTs : t.data.toList.length = t.size := rfl
    by_cases hz : 0 < t.size
    · have he := Tryz.ext_last t hz
      have HE := Lib.hid he; clear he
      by_cases h32 : t[t.size - 1] = 32
      · have h32' : ((t[t.size - 1].toNat : Int) == 32) = true := by rw [h32]; rfl
        have H32 := Lib.hid h32
        clear h32
        go_wp2
        refine ⟨⟨t.extract 0 (t.size - 1), rfl, ?_, ?_⟩, ?_⟩
        · have := HB.out
          rw [HE.out, Tryz.trimL_snoc, if_pos H32.out] at this
          exact this
        · rw [Tryz.ext_size]; omega
        · show (t.extract 0 (t.size - 1)).size < t.size
          rw [Tryz.ext_size]; omega
      · have h32' : ((t[t.size - 1].toNat : Int) == 32) = false := by
          rw [beq_eq_false_iff_ne]
          intro e
          exact h32 (UInt8.toNat_inj.1 (by show t[t.size - 1].toNat = 32; omega))
        have hT : Tryz.trimL s.data.toList = t.data.toList := by rw [← HB.out, HE.out, Tryz.trimL_snoc, if_neg h32]
        have HT := Lib.hid hT
        clear h32 HB HE hT
        go_wp2
        rw [show ((t.size : Int) + 1) = ((t.size + 1 : Nat) : Int) by omega, Tryz.mk74 _ _ (by omega)]
        go_wp2
        have z2 : (w.alloc (Obj.cells ((Array.replicate (t.size + 1) (Value.bool false)).setIfInBounds 0 (Value.bool true)) 4)).heap.size = w.heap.size + 1 := by simp
        have c2 : (w.alloc (Obj.cells ((Array.replicate (t.size + 1) (Value.bool false)).setIfInBounds 0 (Value.bool true)) 4)).heap[w.heap.size]? = some (.cells (Tryz.bools (Tryz.rowsF t.data.toList [])) 4) := by
          rw [Tryz.bnew]
          congr 2
          apply Array.ext'
          simp [Tryz.bools, Tryz.rowsF, List.replicate_succ]
        have o2 : ∀ k, k < w.heap.size → (w.alloc (Obj.cells ((Array.replicate (t.size + 1) (Value.bool false)).setIfInBounds 0 (Value.bool true)) 4)).heap[k]? = w.heap[k]? := fun k hk => Below.heap_alloc _ _ _ hk
        have C2 := Lib.hid c2
        have O2 := Lib.hid o2
        have Z2 := Lib.hid z2
        clear c2 o2 z2
        go_loopw [5, 6] (fun can i wr => ∃ (k cb : Nat), k ≤ p.size ∧ i = .int .i64 k ∧ can = .slice (some ⟨cb, 0, none⟩) (t.size + 1) (t.size + 1) ∧ w.heap.size ≤ cb ∧
            wr.heap[cb]? = some (.cells (Tryz.bools (Tryz.rowsF t.data.toList (p.data.toList.take k))) 4) ∧ Tryz.Ext w wr) (fun _ i _ => p.size - (intOf i).toNat)
        case atStart =>
          refine ⟨0, _, Nat.zero_le _, rfl, rfl, Nat.le_refl _, ?_, by rw [Z2.out]; exact Nat.le_succ _, O2.out, rfl, rfl⟩
          rw [List.take_zero]; exact C2.out
        case round =>
          revert wr
          intro wo hrel
          obtain ⟨k, cb, hk, rfl, rfl, hcb, hcan, hext⟩ := hrel
          have hcl := Tryz.rowsF_len t.data.toList (p.data.toList.take k)
          by_cases hlt : k < p.size
          · have HC := Lib.hid hcan
            have HE := Lib.hid hext
            have HL := Lib.hid hcl
            clear hcan hext hcl
            go_wp2
            rw [show ((t.size : Int) + 1) = ((t.size + 1 : Nat) : Int) by omega, Tryz.mk74 _ _ (by omega)]
            go_wp2
            have zr : wo.heap.size < (wo.alloc (Obj.cells (Array.replicate (t.size + 1) (Value.bool false)) 4)).heap.size := by simp
            have hnew : (wo.alloc (Obj.cells (Array.replicate (t.size + 1) (Value.bool false)) 4)).heap[wo.heap.size]? = some (.cells (Tryz.bools (List.replicate (t.size + 1) false)) 4) := by
              rw [Tryz.bnew]
              congr 2
              apply Array.ext'
              simp [Tryz.bools]
            have hkeep : ∀ q, q < wo.heap.size → (wo.alloc (Obj.cells (Array.replicate (t.size + 1) (Value.bool false)) 4)).heap[q]? = wo.heap[q]? := fun q hq => Below.heap_alloc _ _ _ hq
            have hsz : (wo.alloc (Obj.cells (Array.replicate (t.size + 1) (Value.bool false)) 4)).heap.size = wo.heap.size + 1 ∧ Go.XR.SameOut (wo.alloc (Obj.cells (Array.replicate (t.size + 1) (Value.bool false)) 4)) wo := ⟨by simp, rfl, rfl⟩
            have HN := Lib.hid hnew
            have HK := Lib.hid hkeep
            have HS := Lib.hid hsz
            clear hnew hkeep hsz
            go_loopw [8] (fun i wi => ∃ j : Nat, j ≤ t.size + 1 ∧ i = .int .i64 j ∧ wi.heap[wo.heap.size]? = some (.cells (Tryz.bools (Tryz.rowF p[k] t.data.toList (Tryz.rowsF t.data.toList (p.data.toList.take k)) j ++ List.replicate (t.size + 1 - j) false)) 4) ∧ (∀ q, q < wo.heap.size → wi.heap[q]? = wo.heap[q]?) ∧ wi.heap.size = wo.heap.size + 1 ∧ Go.XR.SameOut wi wo) (fun i _ => t.size + 1 - (intOf i).toNat)
            case atStart => exact ⟨0, Nat.zero_le _, rfl, HN.out, HK.out, HS.out⟩
            case round =>
              revert wr
              intro wi hrel
              obtain ⟨j, hj, rfl, hrow, hkp, hsi⟩ := hrel
              have hrl := Tryz.rowF_len p[k] t.data.toList (Tryz.rowsF t.data.toList (p.data.toList.take k)) j
              by_cases hjt : j < t.size + 1
              · have hcb3 : cb < wo.heap.size := (Array.getElem?_eq_some_iff.1 HC.out).1
                have hcan := (hkp cb hcb3).trans HC.out
                have hjr : j < (Tryz.rowsF t.data.toList (p.data.toList.take k)).length := by rw [HL.out]; exact hjt
                have f2 : wi.cell? ⟨wo.heap.size, j, none⟩ = some (.bool false) := Tryz.bcell hrow (by
                  simp only [Tryz.bools, List.getElem?_toArray, List.getElem?_map]
                  rw [List.getElem?_append_right (by omega), hrl, Nat.sub_self, List.getElem?_replicate, if_pos (by omega)]
                  rfl)
                have f3 := Tryz.bfrozen (j := j) hrow
                have hval : ∀ (i : Nat) (y : Bool), i < j → (Tryz.rowF p[k] t.data.toList (Tryz.rowsF t.data.toList (p.data.toList.take k)) j)[i]? = some y → wi.cell? ⟨wo.heap.size, i, none⟩ = some (.bool y) := fun i y hi hy => Tryz.bcell hrow (by
                  simp only [Tryz.bools, List.getElem?_toArray, List.getElem?_map]
                  rw [List.getElem?_append_left (by omega), hy]
                  rfl)
                have hcv : ∀ (i : Nat) (y : Bool), (Tryz.rowsF t.data.toList (p.data.toList.take k))[i]? = some y → wi.cell? ⟨cb, i, none⟩ = some (.bool y) := fun i y hy => Tryz.bcell hcan (by simp [Tryz.bools, hy])
                have HR := Lib.hid hrow
                have HKP := Lib.hid hkp
                have HSI := Lib.hid hsi
                have HRL := Lib.hid hrl
                have HV := Lib.hid hval
                have HCV := Lib.hid hcv
                clear hrow hkp hsi hrl hcan hval hcv
                by_cases h37 : p[k] = 37
                · have h37' : ((p[k].toNat : Int) == 37) = true := by rw [h37]; rfl
                  obtain ⟨x, hx⟩ : ∃ x, (Tryz.rowsF t.data.toList (p.data.toList.take k))[j]? = some x := ⟨_, List.getElem?_eq_getElem hjr⟩
                  have f1 := HCV.out j x hx
                  have hst : Tryz.stepAt p[k] t.data.toList (Tryz.rowsF t.data.toList (p.data.toList.take k)) (Tryz.rowF p[k] t.data.toList (Tryz.rowsF t.data.toList (p.data.toList.take k)) j) j = (x || (decide (0 < j) && (Tryz.rowF p[k] t.data.toList (Tryz.rowsF t.data.toList (p.data.toList.take k)) j)[j - 1]?.getD false)) := by
                    simp only [Tryz.stepAt, if_pos h37, hx, Option.getD_some]
                  have HST := Lib.hid hst
                  clear hst hx h37
                  cases x with
                  | true =>
                    go_wp2
                    exact Tryz.like_store hjt HR.out HKP.out HSI.out (by rw [HST.out]; rfl)
                  | false =>
                    cases j with
                    | zero =>
                      go_wp2
                      exact Tryz.like_store (j := 0) hjt HR.out HKP.out HSI.out (by rw [HST.out]; rfl)
                    | succ j =>
                      obtain ⟨y, hy⟩ : ∃ y, (Tryz.rowF p[k] t.data.toList (Tryz.rowsF t.data.toList (p.data.toList.take k)) (j + 1))[j]? = some y := by
                        have hrl1 := Tryz.rowF_len p[k] t.data.toList (Tryz.rowsF t.data.toList (p.data.toList.take k)) (j + 1)
                        exact ⟨_, List.getElem?_eq_getElem (by omega)⟩
                      have f4 := HV.out j y (by omega) hy
                      have HYY := Lib.hid hy
                      clear hy
                      go_wp2
                      exact Tryz.like_store (j := j + 1) hjt HR.out HKP.out HSI.out (by rw [HST.out]; simp [HYY.out])
                · have h37' : ((p[k].toNat : Int) == 37) = false := by
                    rw [beq_eq_false_iff_ne]
                    intro e
                    exact h37 (UInt8.toNat_inj.1 (by show p[k].toNat = 37; omega))
                  cases j with
                  | zero =>
                    have hst : false = Tryz.stepAt p[k] t.data.toList (Tryz.rowsF t.data.toList (p.data.toList.take k)) (Tryz.rowF p[k] t.data.toList (Tryz.rowsF t.data.toList (p.data.toList.take k)) 0) 0 := by
                      simp [Tryz.stepAt, h37]
                    have HST := Lib.hid hst
                    clear hst h37
                    go_wp2
                    exact Tryz.like_stay (j := 0) hjt HR.out HKP.out HSI.out HST.out
                  | succ j =>
                    obtain ⟨x, hx⟩ : ∃ x, (Tryz.rowsF t.data.toList (p.data.toList.take k))[j]? = some x := ⟨_, List.getElem?_eq_getElem (by rw [HL.out]; show j < t.size + 1; omega)⟩
                    have f1 := HCV.out j x hx
                    have hjs : j < t.size := by omega
                    have hst : Tryz.stepAt p[k] t.data.toList (Tryz.rowsF t.data.toList (p.data.toList.take k)) (Tryz.rowF p[k] t.data.toList (Tryz.rowsF t.data.toList (p.data.toList.take k)) (j + 1)) (j + 1) = (x && (p[k] == 95 || p[k] == t[j])) := by
                      have : t.data.toList[j]?.getD 0 = t[j] := by
                        have h1 : t.data.toList[j]? = some t[j] := by
                          rw [Array.getElem?_toList]
                          exact Array.getElem?_eq_getElem hjs
                        rw [h1]; rfl
                      simp only [Tryz.stepAt, if_neg h37, hx, Option.getD_some, Nat.add_sub_cancel, this, Nat.zero_lt_succ, decide_true, Bool.true_and]
                    have HST := Lib.hid hst
                    clear hst hx h37
                    cases x with
                    | false =>
                      go_wp2
                      refine wp_region_still_tail 24 (by kernel_rfl) (by kernel_rfl) ?_
                      simp only [List.take_succ_cons, List.take_zero, List.drop_succ_cons, List.drop_zero]
                      obtain ⟨wq, hwq⟩ : ∃ wq, wq = wi.drew := ⟨_, rfl⟩
                      change wpStill _ _ wi.drew _ _ _
                      rw [← hwq]
                      have hwh : wq.heap = wi.heap := by rw [hwq]; rfl
                      have HH := Lib.hid hwh
                      have f1q : wq.cell? ⟨cb, j, none⟩ = some (.bool false) := by rw [hwq]; exact f1
                      have f2q : wq.cell? ⟨wo.heap.size, j + 1, none⟩ = some (.bool false) := by rw [hwq]; exact f2
                      have f3q : wq.frozen? ⟨wo.heap.size, j + 1, none⟩ = false := by rw [hwq]; exact f3
                      clear hwh hwq
                      have hw1 : IntKind.i64.wrap ((j : Int) + 1 - 1) = (j : Int) := by rw [IntKind.wrap_i64] <;> omega
                      have hw2 : IntKind.i64.wrap (j : Int) = (j : Int) := by rw [IntKind.wrap_i64] <;> omega
                      have hb0 : (0 : Int) ≤ (j : Int) + 1 := by omega
                      have hb1 : (j : Int) < (t.size : Int) + 1 := by omega
                      have hb2 : (j : Int) + 1 < (t.size : Int) + 1 := by omega
                      have hb3 : (j : Int) < (t.size : Int) := by omega
                      have hb4 : (k : Int) < (p.size : Int) := by omega
                      have hb5 : ((j + 1 : Nat) : Int) < (t.size : Int) + 1 := by omega
                      iterate 8 (with_reducible refine Tryz.still_want (by kernel_rfl) (fun K hK => ?_); go_simp; with_reducible refine hK _ ?_; clear hK K)
                      iterate 14 (with_reducible refine Tryz.still_skip (by kernel_rfl) (fun K hK => ?_); go_simp; with_reducible refine hK _ ?_; clear hK K)
                      iterate 2 (with_reducible refine Tryz.still_want (by kernel_rfl) (fun K hK => ?_); go_simp; with_reducible refine hK _ ?_; clear hK K)
                      with_reducible refine wpStill_nil ?_
                      go_wp2
                      have hvv : false = Tryz.stepAt p[k] t.data.toList (Tryz.rowsF t.data.toList (p.data.toList.take k)) (Tryz.rowF p[k] t.data.toList (Tryz.rowsF t.data.toList (p.data.toList.take k)) (j + 1)) (j + 1) := by
                        rw [HST.out]; rfl
                      exact Tryz.like_store (wi := wi) (wo := wo) (j := j + 1) hjt HR.out HKP.out HSI.out hvv
                    | true =>
                      by_cases h95 : p[k] = 95
                      · have h95' : ((p[k].toNat : Int) == 95) = true := by rw [h95]; rfl
                        have H95 := Lib.hid h95
                        clear h95
                        go_wp2
                        refine wp_region_still_tail 24 (by kernel_rfl) (by kernel_rfl) ?_
                        simp only [List.take_succ_cons, List.take_zero, List.drop_succ_cons, List.drop_zero]
                        obtain ⟨wq, hwq⟩ : ∃ wq, wq = wi.drew := ⟨_, rfl⟩
                        change wpStill _ _ wi.drew _ _ _
                        rw [← hwq]
                        have hwh : wq.heap = wi.heap := by rw [hwq]; rfl
                        have HH := Lib.hid hwh
                        have f1q : wq.cell? ⟨cb, j, none⟩ = some (.bool true) := by rw [hwq]; exact f1
                        have f2q : wq.cell? ⟨wo.heap.size, j + 1, none⟩ = some (.bool false) := by rw [hwq]; exact f2
                        have f3q : wq.frozen? ⟨wo.heap.size, j + 1, none⟩ = false := by rw [hwq]; exact f3
                        clear hwh hwq
                        have hw1 : IntKind.i64.wrap ((j : Int) + 1 - 1) = (j : Int) := by rw [IntKind.wrap_i64] <;> omega
                        have hw2 : IntKind.i64.wrap (j : Int) = (j : Int) := by rw [IntKind.wrap_i64] <;> omega
                        have hb0 : (0 : Int) ≤ (j : Int) + 1 := by omega
                        have hb1 : (j : Int) < (t.size : Int) + 1 := by omega
                        have hb2 : (j : Int) + 1 < (t.size : Int) + 1 := by omega
                        have hb3 : (j : Int) < (t.size : Int) := by omega
                        have hb4 : (k : Int) < (p.size : Int) := by omega
                        have hb5 : ((j + 1 : Nat) : Int) < (t.size : Int) + 1 := by omega
                        iterate 13 (with_reducible refine Tryz.still_want (by kernel_rfl) (fun K hK => ?_); go_simp; with_reducible refine hK _ ?_; clear hK K)
                        iterate 8 (with_reducible refine Tryz.still_skip (by kernel_rfl) (fun K hK => ?_); go_simp; with_reducible refine hK _ ?_; clear hK K)
                        iterate 3 (with_reducible refine Tryz.still_want (by kernel_rfl) (fun K hK => ?_); go_simp; with_reducible refine hK _ ?_; clear hK K)
                        with_reducible refine wpStill_nil ?_
                        go_wp2
                        have hvv : true = Tryz.stepAt p[k] t.data.toList (Tryz.rowsF t.data.toList (p.data.toList.take k)) (Tryz.rowF p[k] t.data.toList (Tryz.rowsF t.data.toList (p.data.toList.take k)) (j + 1)) (j + 1) := by
                          rw [HST.out, H95.out]; rfl
                        exact Tryz.like_store (wi := wi) (wo := wo) (j := j + 1) hjt HR.out HKP.out HSI.out hvv
                      · have h95' : ((p[k].toNat : Int) == 95) = false := by
                          rw [beq_eq_false_iff_ne]
                          intro e
                          exact h95 (UInt8.toNat_inj.1 (by show p[k].toNat = 95; omega))
                        have h96 : (p[k] == 95) = false := by rw [beq_eq_false_iff_ne]; exact h95
                        have H95 := Lib.hid h96
                        clear h95 h96
                        go_wp2
                        refine wp_region_still_tail 24 (by kernel_rfl) (by kernel_rfl) ?_
                        simp only [List.take_succ_cons, List.take_zero, List.drop_succ_cons, List.drop_zero]
                        obtain ⟨wq, hwq⟩ : ∃ wq, wq = wi.drew := ⟨_, rfl⟩
                        change wpStill _ _ wi.drew _ _ _
                        rw [← hwq]
                        have hwh : wq.heap = wi.heap := by rw [hwq]; rfl
                        have HH := Lib.hid hwh
                        have f1q : wq.cell? ⟨cb, j, none⟩ = some (.bool true) := by rw [hwq]; exact f1
                        have f2q : wq.cell? ⟨wo.heap.size, j + 1, none⟩ = some (.bool false) := by rw [hwq]; exact f2
                        have f3q : wq.frozen? ⟨wo.heap.size, j + 1, none⟩ = false := by rw [hwq]; exact f3
                        clear hwh hwq
                        have hw1 : IntKind.i64.wrap ((j : Int) + 1 - 1) = (j : Int) := by rw [IntKind.wrap_i64] <;> omega
                        have hw2 : IntKind.i64.wrap (j : Int) = (j : Int) := by rw [IntKind.wrap_i64] <;> omega
                        have hb0 : (0 : Int) ≤ (j : Int) + 1 := by omega
                        have hb1 : (j : Int) < (t.size : Int) + 1 := by omega
                        have hb2 : (j : Int) + 1 < (t.size : Int) + 1 := by omega
                        have hb3 : (j : Int) < (t.size : Int) := by omega
                        have hb4 : (k : Int) < (p.size : Int) := by omega
                        have hb5 : ((j + 1 : Nat) : Int) < (t.size : Int) + 1 := by omega
                        iterate 24 (with_reducible refine Tryz.still_want (by kernel_rfl) (fun K hK => ?_); go_simp; with_reducible refine hK _ ?_; clear hK K)
                        with_reducible refine wpStill_nil ?_
                        go_wp2
                        have hvv : ((p[k].toNat : Int) == (t[j].toNat : Int)) = Tryz.stepAt p[k] t.data.toList (Tryz.rowsF t.data.toList (p.data.toList.take k)) (Tryz.rowF p[k] t.data.toList (Tryz.rowsF t.data.toList (p.data.toList.take k)) (j + 1)) (j + 1) := by
                          rw [HST.out, Tryz.beq_u8, H95.out]; rfl
                        exact Tryz.like_store (wi := wi) (wo := wo) (j := j + 1) hjt HR.out HKP.out HSI.out hvv
              · obtain rfl : j = t.size + 1 := by omega
                have h0 : t.size + 1 - (t.size + 1) = 0 := Nat.sub_self _
                rw [h0, List.replicate_zero, List.append_nil] at hrow
                have HR := Lib.hid hrow
                have HKP := Lib.hid hkp
                have HSI := Lib.hid hsi
                clear hrow hkp hsi hrl h0
                go_wp2
                have hsl : wo.heap.size < wi.heap.size := by rw [HSI.out.1]; exact Nat.lt_succ_self _
                have hext' := HE.out
                refine ⟨⟨k + 1, wo.heap.size, by omega, by simp, rfl, hext'.1, ?_, by have := hext'.1; omega, fun q hq => (HKP.out q (by have := hext'.1; omega)).trans (hext'.2 q hq), HSI.out.2.trans hext'.3⟩, by simp [intOf]; omega⟩
                have htk : p.data.toList.take (k + 1) = p.data.toList.take k ++ [p[k]] := by
                  rw [List.take_succ_eq_append_getElem (by show k < p.size; exact hlt)]
                  rfl
                rw [htk, Tryz.rowsF_snoc]
                exact HR.out
          · obtain rfl : k = p.size := by omega
            have hfull : p.data.toList.take p.size = p.data.toList := List.take_of_length_le (Nat.le_refl _)
            rw [hfull] at hcan
            obtain ⟨x, hx⟩ : ∃ x, (Tryz.rowsF t.data.toList p.data.toList)[t.size]? = some x := ⟨_, List.getElem?_eq_getElem (by rw [Tryz.rowsF_len]; show t.size < t.size + 1; omega)⟩
            have f1 : wo.cell? ⟨cb, t.size, none⟩ = some (.bool x) := Tryz.bcell hcan (by simp [Tryz.bools, hx])
            have HE := Lib.hid hext
            have HX := Lib.hid hx
            clear hcan hext hcl hx hfull
            go_wp2
            go_ret
            exact ⟨by rw [Tryz.likesF, HT.out, show t.data.toList.length = t.size from rfl, HX.out]; rfl, HE.out⟩
    · have hT : Tryz.trimL s.data.toList = t.data.toList := by
        have hb0 : t.data.toList = [] := by
          have : t.data.toList.length = 0 := by rw [Array.length_toList]; show t.size = 0; omega
          exact List.length_eq_zero_iff.1 this
        rw [← HB.out, hb0, Tryz.trimL_nil]
      have HT := Lib.hid hT
      clear HB hT
      go_wp2
      rw [show ((t.size : Int) + 1) = ((t.size + 1 : Nat) : Int) by omega, Tryz.mk74 _ _ (by omega)]
      go_wp2
      have z2 : (w.alloc (Obj.cells ((Array.replicate (t.size + 1) (Value.bool false)).setIfInBounds 0 (Value.bool true)) 4)).heap.size = w.heap.size + 1 := by simp
      have c2 : (w.alloc (Obj.cells ((Array.replicate (t.size + 1) (Value.bool false)).setIfInBounds 0 (Value.bool true)) 4)).heap[w.heap.size]? = some (.cells (Tryz.bools (Tryz.rowsF t.data.toList [])) 4) := by
        rw [Tryz.bnew]
        congr 2
        apply Array.ext'
        simp [Tryz.bools, Tryz.rowsF, List.replicate_succ]
      have o2 : ∀ k, k < w.heap.size → (w.alloc (Obj.cells ((Array.replicate (t.size + 1) (Value.bool false)).setIfInBounds 0 (Value.bool true)) 4)).heap[k]? = w.heap[k]? := fun k hk => Below.heap_alloc _ _ _ hk
      have C2 := Lib.hid c2
      have O2 := Lib.hid o2
      have Z2 := Lib.hid z2
      clear c2 o2 z2
      go_loopw [5, 6] (fun can i wr => ∃ (k cb : Nat), k ≤ p.size ∧ i = .int .i64 k ∧ can = .slice (some ⟨cb, 0, none⟩) (t.size + 1) (t.size + 1) ∧ w.heap.size ≤ cb ∧
          wr.heap[cb]? = some (.cells (Tryz.bools (Tryz.rowsF t.data.toList (p.data.toList.take k))) 4) ∧ Tryz.Ext w wr) (fun _ i _ => p.size - (intOf i).toNat)
      case atStart =>
        refine ⟨0, _, Nat.zero_le _, rfl, rfl, Nat.le_refl _, ?_, by rw [Z2.out]; exact Nat.le_succ _, O2.out, rfl, rfl⟩
        rw [List.take_zero]; exact C2.out
      case round =>
        revert wr
        intro wo hrel
        obtain ⟨k, cb, hk, rfl, rfl, hcb, hcan, hext⟩ := hrel
        have hcl := Tryz.rowsF_len t.data.toList (p.data.toList.take k)
        by_cases hlt : k < p.size
        · have HC := Lib.hid hcan
          have HE := Lib.hid hext
          have HL := Lib.hid hcl
          clear hcan hext hcl
          go_wp2
          rw [show ((t.size : Int) + 1) = ((t.size + 1 : Nat) : Int) by omega, Tryz.mk74 _ _ (by omega)]
          go_wp2
          have zr : wo.heap.size < (wo.alloc (Obj.cells (Array.replicate (t.size + 1) (Value.bool false)) 4)).heap.size := by simp
          have hnew : (wo.alloc (Obj.cells (Array.replicate (t.size + 1) (Value.bool false)) 4)).heap[wo.heap.size]? = some (.cells (Tryz.bools (List.replicate (t.size + 1) false)) 4) := by
            rw [Tryz.bnew]
            congr 2
            apply Array.ext'
            simp [Tryz.bools]
          have hkeep : ∀ q, q < wo.heap.size → (wo.alloc (Obj.cells (Array.replicate (t.size + 1) (Value.bool false)) 4)).heap[q]? = wo.heap[q]? := fun q hq => Below.heap_alloc _ _ _ hq
          have hsz : (wo.alloc (Obj.cells (Array.replicate (t.size + 1) (Value.bool false)) 4)).heap.size = wo.heap.size + 1 ∧ Go.XR.SameOut (wo.alloc (Obj.cells (Array.replicate (t.size + 1) (Value.bool false)) 4)) wo := ⟨by simp, rfl, rfl⟩
          have HN := Lib.hid hnew
          have HK := Lib.hid hkeep
          have HS := Lib.hid hsz
          clear hnew hkeep hsz
          go_loopw [8] (fun i wi => ∃ j : Nat, j ≤ t.size + 1 ∧ i = .int .i64 j ∧ wi.heap[wo.heap.size]? = some (.cells (Tryz.bools (Tryz.rowF p[k] t.data.toList (Tryz.rowsF t.data.toList (p.data.toList.take k)) j ++ List.replicate (t.size + 1 - j) false)) 4) ∧ (∀ q, q < wo.heap.size → wi.heap[q]? = wo.heap[q]?) ∧ wi.heap.size = wo.heap.size + 1 ∧ Go.XR.SameOut wi wo) (fun i _ => t.size + 1 - (intOf i).toNat)
          case atStart => exact ⟨0, Nat.zero_le _, rfl, HN.out, HK.out, HS.out⟩
          case round =>
            revert wr
            intro wi hrel
            obtain ⟨j, hj, rfl, hrow, hkp, hsi⟩ := hrel
            have hrl := Tryz.rowF_len p[k] t.data.toList (Tryz.rowsF t.data.toList (p.data.toList.take k)) j
            by_cases hjt : j < t.size + 1
            · have hcb3 : cb < wo.heap.size := (Array.getElem?_eq_some_iff.1 HC.out).1
              have hcan := (hkp cb hcb3).trans HC.out
              have hjr : j < (Tryz.rowsF t.data.toList (p.data.toList.take k)).length := by rw [HL.out]; exact hjt
              have f2 : wi.cell? ⟨wo.heap.size, j, none⟩ = some (.bool false) := Tryz.bcell hrow (by
                simp only [Tryz.bools, List.getElem?_toArray, List.getElem?_map]
                rw [List.getElem?_append_right (by omega), hrl, Nat.sub_self, List.getElem?_replicate, if_pos (by omega)]
                rfl)
              have f3 := Tryz.bfrozen (j := j) hrow
              have hval : ∀ (i : Nat) (y : Bool), i < j → (Tryz.rowF p[k] t.data.toList (Tryz.rowsF t.data.toList (p.data.toList.take k)) j)[i]? = some y → wi.cell? ⟨wo.heap.size, i, none⟩ = some (.bool y) := fun i y hi hy => Tryz.bcell hrow (by
                simp only [Tryz.bools, List.getElem?_toArray, List.getElem?_map]
                rw [List.getElem?_append_left (by omega), hy]
                rfl)
              have hcv : ∀ (i : Nat) (y : Bool), (Tryz.rowsF t.data.toList (p.data.toList.take k))[i]? = some y → wi.cell? ⟨cb, i, none⟩ = some (.bool y) := fun i y hy => Tryz.bcell hcan (by simp [Tryz.bools, hy])
              have HR := Lib.hid hrow
              have HKP := Lib.hid hkp
              have HSI := Lib.hid hsi
              have HRL := Lib.hid hrl
              have HV := Lib.hid hval
              have HCV := Lib.hid hcv
              clear hrow hkp hsi hrl hcan hval hcv
              by_cases h37 : p[k] = 37
              · have h37' : ((p[k].toNat : Int) == 37) = true := by rw [h37]; rfl
                obtain ⟨x, hx⟩ : ∃ x, (Tryz.rowsF t.data.toList (p.data.toList.take k))[j]? = some x := ⟨_, List.getElem?_eq_getElem hjr⟩
                have f1 := HCV.out j x hx
                have hst : Tryz.stepAt p[k] t.data.toList (Tryz.rowsF t.data.toList (p.data.toList.take k)) (Tryz.rowF p[k] t.data.toList (Tryz.rowsF t.data.toList (p.data.toList.take k)) j) j = (x || (decide (0 < j) && (Tryz.rowF p[k] t.data.toList (Tryz.rowsF t.data.toList (p.data.toList.take k)) j)[j - 1]?.getD false)) := by
                  simp only [Tryz.stepAt, if_pos h37, hx, Option.getD_some]
                have HST := Lib.hid hst
                clear hst hx h37
                cases x with
                | true =>
                  go_wp2
                  exact Tryz.like_store hjt HR.out HKP.out HSI.out (by rw [HST.out]; rfl)
                | false =>
                  cases j with
                  | zero =>
                    go_wp2
                    exact Tryz.like_store (j := 0) hjt HR.out HKP.out HSI.out (by rw [HST.out]; rfl)
                  | succ j =>
                    exfalso
                    have hjt2 := hjt
                    omega
              · have h37' : ((p[k].toNat : Int) == 37) = false := by
                  rw [beq_eq_false_iff_ne]
                  intro e
                  exact h37 (UInt8.toNat_inj.1 (by show p[k].toNat = 37; omega))
                cases j with
                | zero =>
                  have hst : false = Tryz.stepAt p[k] t.data.toList (Tryz.rowsF t.data.toList (p.data.toList.take k)) (Tryz.rowF p[k] t.data.toList (Tryz.rowsF t.data.toList (p.data.toList.take k)) 0) 0 := by
                    simp [Tryz.stepAt, h37]
                  have HST := Lib.hid hst
                  clear hst h37
                  go_wp2
                  exact Tryz.like_stay (j := 0) hjt HR.out HKP.out HSI.out HST.out
                | succ j =>
                  exfalso
                  have hjt2 := hjt
                  omega
            · obtain rfl : j = t.size + 1 := by omega
              have h0 : t.size + 1 - (t.size + 1) = 0 := Nat.sub_self _
              rw [h0, List.replicate_zero, List.append_nil] at hrow
              have HR := Lib.hid hrow
              have HKP := Lib.hid hkp
              have HSI := Lib.hid hsi
              clear hrow hkp hsi hrl h0
              go_wp2
              have hsl : wo.heap.size < wi.heap.size := by rw [HSI.out.1]; exact Nat.lt_succ_self _
              have hext' := HE.out
              refine ⟨⟨k + 1, wo.heap.size, by omega, by simp, rfl, hext'.1, ?_, by have := hext'.1; omega, fun q hq => (HKP.out q (by have := hext'.1; omega)).trans (hext'.2 q hq), HSI.out.2.trans hext'.3⟩, by simp [intOf]; omega⟩
              have htk : p.data.toList.take (k + 1) = p.data.toList.take k ++ [p[k]] := by
                rw [List.take_succ_eq_append_getElem (by show k < p.size; exact hlt)]
                rfl
              rw [htk, Tryz.rowsF_snoc]
              exact HR.out
        · obtain rfl : k = p.size := by omega
          have hfull : p.data.toList.take p.size = p.data.toList := List.take_of_length_le (Nat.le_refl _)
          rw [hfull] at hcan
          obtain ⟨x, hx⟩ : ∃ x, (Tryz.rowsF t.data.toList p.data.toList)[t.size]? = some x := ⟨_, List.getElem?_eq_getElem (by rw [Tryz.rowsF_len]; show t.size < t.size + 1; omega)⟩
          have f1 : wo.cell? ⟨cb, t.size, none⟩ = some (.bool x) := Tryz.bcell hcan (by simp [Tryz.bools, hx])
          have HE := Lib.hid hext
          have HX := Lib.hid hx
          clear hcan hext hcl hx hfull
          go_wp2
          go_ret
          exact ⟨by rw [Tryz.likesF, HT.out, show t.data.toList.length = t.size from rfl, HX.out]; rfl, HE.out⟩
end Go.Proofs
