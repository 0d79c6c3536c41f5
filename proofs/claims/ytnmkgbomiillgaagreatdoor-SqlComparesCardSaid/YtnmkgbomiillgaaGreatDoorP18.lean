/- Part 18 of the proof. -/
import Derived.Test.YtnmkgbomiillgaaGreatDoorP17
import Derived.StillTailTactics
import Derived.Lib.Bytealg
import Derived.Lib.Strings
import Derived.Laws.Externs
import Derived.Test.YtnmkgbomiillgaaGreatDoorP11
/- Wide numbers: compare. -/
namespace Go.Proofs
open Go.RowKit
theorem Tryz.cell_drew {w : World} {a : Addr} : w.drew.cell? a = w.cell? a := rfl
def Tryz.cmpL : List Nat → List Nat → Int
  | x :: r, y :: s => if x < y then -1 else if y < x then 1 else Tryz.cmpL r s
  | _, _ => 0
set_option maxRecDepth 100000 in
set_option maxHeartbeats 4000000 in
theorem Tryz.compare121 (x0 x1 x2 x3 y0 y1 y2 y3 : Nat) (w : World) :
    Calls Tryz.prog 121 #[.agg (Tryz.u64c [x0, x1, x2, x3]), .agg (Tryz.u64c [y0, y1, y2, y3])] w fun e w' => e = .returned (.int .i64 (Tryz.cmpL [x3, x2, x1, x0] [y3, y2, y1, y0])) ∧ Tryz.Ext w w' := by
  rw [show Tryz.u64c [x0, x1, x2, x3] = #[.int .u64 x0, .int .u64 x1, .int .u64 x2, .int .u64 x3] from rfl, show Tryz.u64c [y0, y1, y2, y3] = #[.int .u64 y0, .int .u64 y1, .int .u64 y2, .int .u64 y3] from rfl]
  go_enter Tryz.func121, Tryz.ntmps121
  go_wp2
  go_loopw [5] (fun i wr => ∃ k : Nat, k ≤ 4 ∧ i = .int .i64 ((k : Int) - 1) ∧ Tryz.cmpL [x3, x2, x1, x0] [y3, y2, y1, y0] = Tryz.cmpL ([x0, x1, x2, x3].take k).reverse ([y0, y1, y2, y3].take k).reverse ∧
      wr.heap[w.heap.size]? = some (.cells (Tryz.u64c [x0, x1, x2, x3]) 185) ∧ wr.heap[w.heap.size + 1]? = some (.cells (Tryz.u64c [y0, y1, y2, y3]) 185) ∧
      Tryz.Ext w wr) (fun i _ => (intOf i + 1).toNat)
  case atStart =>
    refine ⟨4, by omega, rfl, rfl, ?_, ?_, by simp; omega, fun k hk => ?_, rfl, rfl⟩
    · rw [Below.heap_alloc _ _ _ (by simp), Tryz.bnew]; rfl
    · have h := Tryz.bnew (w.alloc (Obj.cells #[Value.int IntKind.u64 x0, Value.int IntKind.u64 x1, Value.int IntKind.u64 x2, Value.int IntKind.u64 x3] 185)) (Obj.cells #[Value.int IntKind.u64 y0, Value.int IntKind.u64 y1, Value.int IntKind.u64 y2, Value.int IntKind.u64 y3] 185)
      rw [show (w.alloc (Obj.cells #[Value.int IntKind.u64 x0, Value.int IntKind.u64 x1, Value.int IntKind.u64 x2, Value.int IntKind.u64 x3] 185)).heap.size = w.heap.size + 1 by simp] at h
      exact h
    · rw [Below.heap_alloc _ _ _ (by simp; omega), Below.heap_alloc _ _ _ hk]
  case round =>
    revert wr
    intro wi hrel
    obtain ⟨k, hk, rfl, hc, hx, hy, hext⟩ := hrel
    cases k with
    | zero =>
      have HE := Lib.hid hext
      have HC := Lib.hid hc
      clear hx hy hext hc
      go_wp2
      go_ret
      exact ⟨by rw [HC.out]; rfl, HE.out⟩
    | succ k =>
      obtain ⟨u, hu⟩ : ∃ u, [x0, x1, x2, x3][k]? = some u := ⟨_, List.getElem?_eq_getElem (by simp; omega)⟩
      obtain ⟨v, hv⟩ : ∃ v, [y0, y1, y2, y3][k]? = some v := ⟨_, List.getElem?_eq_getElem (by simp; omega)⟩
      have f1 := Tryz.bcell hx (Tryz.u64c_get hu)
      have f2 := Tryz.bcell hy (Tryz.u64c_get hv)
      have hcut : Tryz.cmpL [x3, x2, x1, x0] [y3, y2, y1, y0] = if u < v then -1 else if v < u then 1 else Tryz.cmpL ([x0, x1, x2, x3].take k).reverse ([y0, y1, y2, y3].take k).reverse := by
        rw [hc, List.take_add_one, hu, List.take_add_one, hv]
        simp only [Option.toList, List.reverse_append, List.reverse_cons, List.reverse_nil, List.nil_append, List.singleton_append, Tryz.cmpL]
      have hb0 : (0 : Int) ≤ (k : Int) := by omega
      have hb1 : (k : Int) < 4 := by omega
      have HX := Lib.hid hx
      have HY := Lib.hid hy
      have HE := Lib.hid hext
      have HC := Lib.hid hcut
      clear hx hy hext hu hv hc hcut
      rw [show (((k + 1 : Nat) : Int) - 1) = (k : Int) by omega]
      have f1q : wi.drew.cell? ⟨w.heap.size, k, none⟩ = some (.int .u64 u) := f1
      have f2q : wi.drew.cell? ⟨w.heap.size + 1, k, none⟩ = some (.int .u64 v) := f2
      have f1s : ∀ d, ({ wi with drawn := d } : World).cell? ⟨w.heap.size, k, none⟩ = some (.int .u64 u) := fun _ => f1
      have f2s : ∀ d, ({ wi with drawn := d } : World).cell? ⟨w.heap.size + 1, k, none⟩ = some (.int .u64 v) := fun _ => f2
      have f1t : ∀ d, ({ wi with drawn := d } : World).drew.cell? ⟨w.heap.size, k, none⟩ = some (.int .u64 u) := fun _ => f1
      have f2t : ∀ d, ({ wi with drawn := d } : World).drew.cell? ⟨w.heap.size + 1, k, none⟩ = some (.int .u64 v) := fun _ => f2
      rcases Nat.lt_trichotomy u v with hlt | hlt | hlt
      · have hi : (u : Int) < (v : Int) := by omega
        have HR := Lib.hid (HC.out.trans (if_pos hlt))
        clear hlt
        go_wp2
        go_still (by kernel_rfl)
        go_wp2
        go_ret
        exact ⟨by rw [HR.out]; rfl, HE.out.1, HE.out.2, HE.out.3⟩
      · subst hlt
        have hi : ¬ (u : Int) < (u : Int) := by omega
        have HR := Lib.hid (HC.out.trans ((if_neg (Nat.lt_irrefl _)).trans (if_neg (Nat.lt_irrefl _))))
        go_wp2
        go_still (by kernel_rfl)
        go_wp2
        go_still (by kernel_rfl)
        go_wp2
        exact ⟨⟨k, by omega, rfl, HR.out, HX.out, HY.out, HE.out.1, HE.out.2, HE.out.3⟩, by simp [intOf]⟩
      · have hi : (v : Int) < (u : Int) := by omega
        have hi2 : ¬ (u : Int) < (v : Int) := by omega
        have HR := Lib.hid (HC.out.trans ((if_neg (by omega)).trans (if_pos hlt)))
        clear hlt
        go_wp2
        go_still (by kernel_rfl)
        go_wp2
        go_still (by kernel_rfl)
        go_wp2
        go_ret
        exact ⟨by rw [HR.out]; rfl, HE.out.1, HE.out.2, HE.out.3⟩
end Go.Proofs
/- Wide numbers: what they are worth. -/
namespace Go.Proofs
def Tryz.wv : List Nat → Nat
  | [] => 0
  | x :: r => x + 18446744073709551616 * Tryz.wv r
theorem Tryz.wv_times (m : Nat) : ∀ (l : List Nat) (c : Nat), Tryz.wv (Tryz.timesL m l c) + Tryz.timesC m l c * 18446744073709551616 ^ l.length = Tryz.wv l * m + c
  | [], c => by simp [Tryz.timesL, Tryz.timesC, Tryz.wv]
  | x :: r, c => by
    have ih := Tryz.wv_times m r ((x * m + c) / 18446744073709551616)
    have hd := Nat.div_add_mod (x * m + c) 18446744073709551616
    simp only [Tryz.timesL, Tryz.timesC, Tryz.wv, List.length_cons, Nat.pow_succ]
    have h1 : Tryz.timesC m r ((x * m + c) / 18446744073709551616) * (18446744073709551616 ^ r.length * 18446744073709551616) = 18446744073709551616 * (Tryz.timesC m r ((x * m + c) / 18446744073709551616) * 18446744073709551616 ^ r.length) := by
      rw [← Nat.mul_assoc, Nat.mul_comm]
    have h2 : (x + 18446744073709551616 * Tryz.wv r) * m = x * m + 18446744073709551616 * (Tryz.wv r * m) := by
      rw [Nat.add_mul, Nat.mul_assoc]
    rw [h1, h2]
    generalize Tryz.timesC m r ((x * m + c) / 18446744073709551616) * 18446744073709551616 ^ r.length = P at *
    generalize Tryz.wv (Tryz.timesL m r ((x * m + c) / 18446744073709551616)) = A at *
    generalize Tryz.wv r * m = D at *
    generalize x * m = E at *
    omega
theorem Tryz.wv_lt : ∀ {l : List Nat}, (∀ x ∈ l, x < 18446744073709551616) → Tryz.wv l < 18446744073709551616 ^ l.length
  | [], _ => by simp [Tryz.wv]
  | x :: r, h => by
    have ih := Tryz.wv_lt (l := r) (fun y hy => h y (List.mem_cons_of_mem _ hy))
    have hx := h x List.mem_cons_self
    simp only [Tryz.wv, List.length_cons, Nat.pow_succ]
    generalize 18446744073709551616 ^ r.length = P at *
    omega
/-- Four digits: the product, where it has room. -/
theorem Tryz.wv_times4 {l : List Nat} (h4 : l.length = 4) {m : Nat} (h : Tryz.wv l * m < 18446744073709551616 ^ 4) : Tryz.wv (Tryz.timesL m l 0) = Tryz.wv l * m := by
  have h1 := Tryz.wv_times m l 0
  rw [h4, Nat.add_zero] at h1
  have : Tryz.timesC m l 0 = 0 := by
    rcases Nat.eq_zero_or_pos (Tryz.timesC m l 0) with h0 | h0
    · exact h0
    · exfalso
      have : 18446744073709551616 ^ 4 ≤ Tryz.timesC m l 0 * 18446744073709551616 ^ 4 := Nat.le_mul_of_pos_left _ h0
      omega
  rw [this] at h1
  omega
theorem Tryz.wv_shift {l : List Nat} (h4 : l.length = 4) : ∀ (n : Nat), Tryz.wv l * 10 ^ n < 18446744073709551616 ^ 4 → Tryz.wv (Tryz.shiftF n l) = Tryz.wv l * 10 ^ n
  | 0, _ => by simp [Tryz.shiftF]
  | n + 1, h => by
    have h' : Tryz.wv l * 10 ^ n * 10 < 18446744073709551616 ^ 4 := by rwa [Nat.mul_assoc, ← Nat.pow_succ]
    have ih := Tryz.wv_shift h4 n (by omega)
    rw [Tryz.shiftF, Tryz.wv_times4 ((Tryz.shiftF_len n l).trans h4) (by rw [ih]; exact h'), ih, Nat.mul_assoc, ← Nat.pow_succ]
end Go.Proofs
/- Wide numbers: compare orders their values. -/
namespace Go.Proofs
def Tryz.cmpN (x y : Nat) : Int := if x < y then -1 else if y < x then 1 else 0
theorem Tryz.cmpN_int (x y : Nat) : Tryz.cmpI (x : Int) (y : Int) = Tryz.cmpN x y := by
  simp only [Tryz.cmpI, Tryz.cmpN, Int.ofNat_lt]
theorem Tryz.cmpN_step {x y X Y : Nat} (hx : x < 18446744073709551616) (hy : y < 18446744073709551616) : Tryz.cmpN (x + 18446744073709551616 * X) (y + 18446744073709551616 * Y) = if X < Y then -1 else if Y < X then 1 else Tryz.cmpN x y := by
  rcases Nat.lt_trichotomy X Y with h | h | h
  · rw [if_pos h, Tryz.cmpN, if_pos (by omega)]
  · subst h
    rw [if_neg (by omega), if_neg (by omega), Tryz.cmpN, Tryz.cmpN]
    rcases Nat.lt_trichotomy x y with k | k | k
    · rw [if_pos (by omega), if_pos k]
    · subst k; rw [if_neg (by omega), if_neg (by omega), if_neg (by omega), if_neg (by omega)]
    · rw [if_neg (by omega), if_pos (by omega), if_neg (by omega), if_pos k]
  · rw [if_neg (by omega), if_pos h, Tryz.cmpN, if_neg (by omega), if_pos (by omega)]
theorem Tryz.cmpL_wv {x0 x1 x2 x3 y0 y1 y2 y3 : Nat} (hx0 : x0 < 18446744073709551616) (hx1 : x1 < 18446744073709551616) (hx2 : x2 < 18446744073709551616) (hy0 : y0 < 18446744073709551616) (hy1 : y1 < 18446744073709551616) (hy2 : y2 < 18446744073709551616) :
    Tryz.cmpL [x3, x2, x1, x0] [y3, y2, y1, y0] = Tryz.cmpN (Tryz.wv [x0, x1, x2, x3]) (Tryz.wv [y0, y1, y2, y3]) := by
  have e0 := Tryz.cmpN_step (x := x0) (y := y0) (X := Tryz.wv [x1, x2, x3]) (Y := Tryz.wv [y1, y2, y3]) hx0 hy0
  have e1 := Tryz.cmpN_step (x := x1) (y := y1) (X := Tryz.wv [x2, x3]) (Y := Tryz.wv [y2, y3]) hx1 hy1
  have e2 := Tryz.cmpN_step (x := x2) (y := y2) (X := Tryz.wv [x3]) (Y := Tryz.wv [y3]) hx2 hy2
  have w3 : ∀ z, Tryz.wv [z] = z := fun z => by simp [Tryz.wv]
  have key : ∀ (X Y : Nat) (c : Int), (if X < Y then (-1 : Int) else if Y < X then 1 else c) = if Tryz.cmpN X Y = 0 then c else Tryz.cmpN X Y := fun X Y c => by
    unfold Tryz.cmpN
    rcases Nat.lt_trichotomy X Y with h | h | h
    · rw [if_pos h, if_pos h, if_neg (by decide)]
    · subst h; simp
    · have : ¬ X < Y := by omega
      rw [if_neg this, if_pos h, if_neg this, if_pos h, if_neg (by decide)]
  have kl : ∀ (a b : Nat) (r s : List Nat), Tryz.cmpL (a :: r) (b :: s) = if Tryz.cmpN a b = 0 then Tryz.cmpL r s else Tryz.cmpN a b := fun a b r s => by rw [Tryz.cmpL, key]
  rw [key] at e0 e1 e2
  rw [show Tryz.wv [x0, x1, x2, x3] = x0 + 18446744073709551616 * Tryz.wv [x1, x2, x3] from rfl, show Tryz.wv [y0, y1, y2, y3] = y0 + 18446744073709551616 * Tryz.wv [y1, y2, y3] from rfl, e0,
    show Tryz.wv [x1, x2, x3] = x1 + 18446744073709551616 * Tryz.wv [x2, x3] from rfl, show Tryz.wv [y1, y2, y3] = y1 + 18446744073709551616 * Tryz.wv [y2, y3] from rfl, e1,
    show Tryz.wv [x2, x3] = x2 + 18446744073709551616 * Tryz.wv [x3] from rfl, show Tryz.wv [y2, y3] = y2 + 18446744073709551616 * Tryz.wv [y3] from rfl, e2, w3, w3, kl, kl, kl, kl]
  have : Tryz.cmpL [] [] = 0 := rfl
  rw [this]
  by_cases h3 : Tryz.cmpN x3 y3 = 0
  · simp only [h3, if_true]
    by_cases h2 : Tryz.cmpN x2 y2 = 0
    · simp only [h2, if_true]
      by_cases h1 : Tryz.cmpN x1 y1 = 0
      · simp only [h1, if_true]
        by_cases h0 : Tryz.cmpN x0 y0 = 0
        · simp only [h0, if_true]
        · simp only [h0, if_false]
      · simp only [h1, if_false]
    · simp only [h2, if_false]
  · simp only [h3, if_false]
end Go.Proofs
/- Errors of numbers; the first that is not 0. -/
namespace Go.Proofs
open Go.RowKit
def Tryz.firstF : List Int → Int
  | [] => 0
  | x :: r => if x ≠ 0 then x else Tryz.firstF r
theorem Tryz.firstF_t {l : List Int} {j : Nat} {x : Int} (h : l[j]? = some x) (hx : x ≠ 0) : Tryz.firstF (l.drop j) = x := by
  have : l.drop j = x :: l.drop (j + 1) := by
    rw [List.drop_eq_getElem_cons (List.getElem?_eq_some_iff.1 h).1, (List.getElem?_eq_some_iff.1 h).2]
  rw [this, Tryz.firstF, if_pos hx]
theorem Tryz.firstF_f {l : List Int} {j : Nat} (h : l[j]? = some 0) : Tryz.firstF (l.drop j) = Tryz.firstF (l.drop (j + 1)) := by
  have : l.drop j = 0 :: l.drop (j + 1) := by
    rw [List.drop_eq_getElem_cons (List.getElem?_eq_some_iff.1 h).1, (List.getElem?_eq_some_iff.1 h).2]
  rw [this, Tryz.firstF, if_neg (by simp)]
theorem Tryz.first27 (l : List Int) (b cap : Nat) (w : World) (hl : l.length ≤ 1000) (h : ∀ (i : Nat) x, l[i]? = some x → w.cell? ⟨b, i, none⟩ = some (.int .i64 x)) :
    Calls Tryz.prog 27 #[.slice (some ⟨b, 0, none⟩) l.length cap] w fun e w' => e = .returned (.int .i64 (Tryz.firstF l)) ∧ w' = w := by
  have H := Lib.hid h
  clear h
  go_enter Tryz.func27, Tryz.ntmps27
  go_wp2
  go_loop [7] (fun i => ∃ j : Nat, j ≤ l.length ∧ i = .int .i64 j ∧ Tryz.firstF l = Tryz.firstF (l.drop j)) (fun i => l.length - (intOf i).toNat)
  case atStart => exact ⟨0, Nat.zero_le _, rfl, rfl⟩
  case round =>
    obtain ⟨j, hj, rfl, hf⟩ := hrel
    have HF := Lib.hid hf
    clear hf
    by_cases hlt : j < l.length
    · obtain ⟨x, hx⟩ : ∃ x, l[j]? = some x := ⟨_, List.getElem?_eq_getElem hlt⟩
      have f1 := H.out j x hx
      have hi : (j : Int) < (l.length : Int) := by omega
      by_cases h0 : x = 0
      · subst h0
        have HX := Lib.hid (HF.out.trans (Tryz.firstF_f hx))
        clear hx
        go_wp2
        exact ⟨⟨j + 1, by omega, by simp, HX.out⟩, by simp [intOf]; omega⟩
      · have HX := Lib.hid (HF.out.trans (Tryz.firstF_t hx h0))
        clear hx
        go_wp2
        go_ret
        exact ⟨by rw [HX.out]; rfl, rfl⟩
    · obtain rfl : j = l.length := by omega
      go_wp2
      go_ret
      exact ⟨by rw [HF.out, List.drop_length]; rfl, rfl⟩
theorem Tryz.or58 (l : List Int) (b cap : Nat) (w : World) (hl : l.length ≤ 1000) (h : ∀ (i : Nat) x, l[i]? = some x → w.cell? ⟨b, i, none⟩ = some (.int .i64 x)) :
    Calls Tryz.prog 58 #[.slice (some ⟨b, 0, none⟩) l.length cap] w fun e w' => e = .returned (.int .i64 (Tryz.firstF l)) ∧ w' = w := by
  have H := Lib.hid h
  clear h
  go_enter Tryz.func58, Tryz.ntmps58
  go_wp2
  go_loop [8] (fun i => ∃ j : Nat, j ≤ l.length ∧ i = .int .i64 j ∧ Tryz.firstF l = Tryz.firstF (l.drop j)) (fun i => l.length - (intOf i).toNat)
  case atStart => exact ⟨0, Nat.zero_le _, rfl, rfl⟩
  case round =>
    obtain ⟨j, hj, rfl, hf⟩ := hrel
    have HF := Lib.hid hf
    clear hf
    by_cases hlt : j < l.length
    · obtain ⟨x, hx⟩ : ∃ x, l[j]? = some x := ⟨_, List.getElem?_eq_getElem hlt⟩
      have f1 := H.out j x hx
      have hi : (j : Int) < (l.length : Int) := by omega
      by_cases h0 : x = 0
      · subst h0
        have HX := Lib.hid (HF.out.trans (Tryz.firstF_f hx))
        clear hx
        go_wp2
        exact ⟨⟨j + 1, by omega, by simp, HX.out⟩, by simp [intOf]; omega⟩
      · have HX := Lib.hid (HF.out.trans (Tryz.firstF_t hx h0))
        clear hx
        go_wp2
        go_ret
        exact ⟨by rw [HX.out]; rfl, rfl⟩
    · obtain rfl : j = l.length := by omega
      go_wp2
      go_ret
      exact ⟨by rw [HF.out, List.drop_length]; rfl, rfl⟩
theorem Tryz.first119 (l : List Int) (b cap : Nat) (w : World) (hl : l.length ≤ 1000) (h : ∀ (i : Nat) x, l[i]? = some x → w.cell? ⟨b, i, none⟩ = some (.int .i64 x)) :
    Calls Tryz.prog 119 #[.slice (some ⟨b, 0, none⟩) l.length cap] w fun e w' => e = .returned (.int .i64 (Tryz.firstF l)) ∧ w' = w := by
  have H := Lib.hid h
  clear h
  go_enter Tryz.func119, Tryz.ntmps119
  go_wp2
  go_loop [7] (fun i => ∃ j : Nat, j ≤ l.length ∧ i = .int .i64 j ∧ Tryz.firstF l = Tryz.firstF (l.drop j)) (fun i => l.length - (intOf i).toNat)
  case atStart => exact ⟨0, Nat.zero_le _, rfl, rfl⟩
  case round =>
    obtain ⟨j, hj, rfl, hf⟩ := hrel
    have HF := Lib.hid hf
    clear hf
    by_cases hlt : j < l.length
    · obtain ⟨x, hx⟩ : ∃ x, l[j]? = some x := ⟨_, List.getElem?_eq_getElem hlt⟩
      have f1 := H.out j x hx
      have hi : (j : Int) < (l.length : Int) := by omega
      by_cases h0 : x = 0
      · subst h0
        have HX := Lib.hid (HF.out.trans (Tryz.firstF_f hx))
        clear hx
        go_wp2
        exact ⟨⟨j + 1, by omega, by simp, HX.out⟩, by simp [intOf]; omega⟩
      · have HX := Lib.hid (HF.out.trans (Tryz.firstF_t hx h0))
        clear hx
        go_wp2
        go_ret
        exact ⟨by rw [HX.out]; rfl, rfl⟩
    · obtain rfl : j = l.length := by omega
      go_wp2
      go_ret
      exact ⟨by rw [HF.out, List.drop_length]; rfl, rfl⟩
def Tryz.numOk (N S : Int) : Bool := Tryz.within N (-999999999999999) 999999999999999 && Tryz.within S 0 15
theorem Tryz.check48 (N S : Int) (w : World) : Calls Tryz.prog 48 #[.agg #[.int .i64 N, .int .i64 S]] w fun e w' => e = .returned (.int .i64 (Tryz.orZero (!Tryz.numOk N S) 3)) ∧ Tryz.Ext w w' := by
  have H99 := Lib.hid (fun x lo hi w => Tryz.in99 x lo hi w)
  have H98 := Lib.hid (fun b k w => Tryz.cond98 b k w)
  have hE : ∀ o, Tryz.Ext w (w.alloc o) := fun o => ⟨by simp, fun k hk => Below.heap_alloc _ _ _ hk, rfl, rfl⟩
  have HE := Lib.hid hE
  clear hE
  cases h1 : Tryz.within N (-999999999999999) 999999999999999
  · have HN := Lib.hid (show Tryz.numOk N S = false by rw [Tryz.numOk, h1]; rfl)
    go_enter Tryz.func48, Tryz.ntmps48
    go_wp2_with (first
      | (go_at_call 99; refine (H99.out _ _ _ _).mono ?_; rintro e w' ⟨rfl, rfl⟩)
      | (go_at_call 98; refine (H98.out _ _ _).mono ?_; rintro e w' ⟨rfl, rfl⟩))
    go_ret
    exact ⟨by rw [HN.out]; rfl, HE.out _⟩
  · have HN := Lib.hid (show Tryz.numOk N S = Tryz.within S 0 15 by rw [Tryz.numOk, h1]; rfl)
    go_enter Tryz.func48, Tryz.ntmps48
    go_wp2_with (first
      | (go_at_call 99; refine (H99.out _ _ _ _).mono ?_; rintro e w' ⟨rfl, rfl⟩)
      | (go_at_call 98; refine (H98.out _ _ _).mono ?_; rintro e w' ⟨rfl, rfl⟩))
    go_ret
    exact ⟨by rw [HN.out]; rfl, HE.out _⟩
theorem Tryz.numErr54 (N S : Int) (w : World) : Calls Tryz.prog 54 #[.agg #[.int .i64 N, .int .i64 S]] w fun e w' => e = .returned (.int .i64 (Tryz.orZero (!Tryz.numOk N S) 3)) ∧ Tryz.Ext w w' := by
  have H30 := Lib.hid (fun x lo hi w => Tryz.in30 x lo hi w)
  have H23 := Lib.hid (fun b w => Tryz.count23 b w)
  have hE : ∀ o, Tryz.Ext w (w.alloc o) := fun o => ⟨by simp, fun k hk => Below.heap_alloc _ _ _ hk, rfl, rfl⟩
  have HE := Lib.hid hE
  clear hE
  have hw1 : wrap64 (3 * Tryz.orZero true 1) = 3 := by kernel_rfl
  have hw0 : wrap64 (3 * Tryz.orZero false 1) = 0 := by kernel_rfl
  cases h1 : Tryz.within N (-999999999999999) 999999999999999
  · have HN := Lib.hid (show Tryz.numOk N S = false by rw [Tryz.numOk, h1]; rfl)
    go_enter Tryz.func54, Tryz.ntmps54
    go_wp2_with (first
      | (go_at_call 30; refine (H30.out _ _ _ _).mono ?_; rintro e w' ⟨rfl, rfl⟩)
      | (go_at_call 23; refine (H23.out _ _).mono ?_; rintro e w' ⟨rfl, rfl⟩))
    go_ret
    exact ⟨by rw [HN.out]; first | exact congrArg (fun x => Ending.returned (Value.int .i64 x)) hw1 | exact congrArg (fun x => Ending.returned (Value.int .i64 x)) hw0, HE.out _⟩
  · cases h2 : Tryz.within S 0 15
    · have HN := Lib.hid (show Tryz.numOk N S = false by rw [Tryz.numOk, h1, h2]; rfl)
      go_enter Tryz.func54, Tryz.ntmps54
      go_wp2_with (first
        | (go_at_call 30; refine (H30.out _ _ _ _).mono ?_; rintro e w' ⟨rfl, rfl⟩)
        | (go_at_call 23; refine (H23.out _ _).mono ?_; rintro e w' ⟨rfl, rfl⟩))
      go_ret
      exact ⟨by rw [HN.out]; first | exact congrArg (fun x => Ending.returned (Value.int .i64 x)) hw1 | exact congrArg (fun x => Ending.returned (Value.int .i64 x)) hw0, HE.out _⟩
    · have HN := Lib.hid (show Tryz.numOk N S = true by rw [Tryz.numOk, h1, h2]; rfl)
      go_enter Tryz.func54, Tryz.ntmps54
      go_wp2_with (first
        | (go_at_call 30; refine (H30.out _ _ _ _).mono ?_; rintro e w' ⟨rfl, rfl⟩)
        | (go_at_call 23; refine (H23.out _ _).mono ?_; rintro e w' ⟨rfl, rfl⟩))
      go_ret
      exact ⟨by rw [HN.out]; first | exact congrArg (fun x => Ending.returned (Value.int .i64 x)) hw1 | exact congrArg (fun x => Ending.returned (Value.int .i64 x)) hw0, HE.out _⟩
end Go.Proofs
/- Strings: Compare, HasSuffix. -/
namespace Go.Proofs
open Go.RowKit
set_option maxRecDepth 100000 in
theorem Tryz.cmpstr118 (a b : ByteArray) (w : World) : Calls Tryz.prog 118 #[.string a, .string b] w fun e w' => e = .returned (.int .i64 (Lib.compareBytes a.data.toList b.data.toList)) ∧ w' = w := by
  go_enter Tryz.func118, Tryz.ntmps118
  go_wp2
  rw [run_callFunc_extern Tryz.func190 (by kernel_rfl) (by kernel_rfl) (by kernel_rfl) (e := Extern.BytealgCompare.compare) (by kernel_rfl), Lib.run_compareString]
  simp only [Result.andThen]
  rw [Oper.upon_value]
  go_wp2
  go_ret
  exact ⟨rfl, rfl⟩
theorem Tryz.cmpstr60 (a b : ByteArray) (w : World) : Calls Tryz.prog 60 #[.string a, .string b] w fun e w' => e = .returned (.int .i64 (Lib.compareBytes a.data.toList b.data.toList)) ∧ w' = w := by
  have H := Lib.hid (fun a b w => Tryz.cmpstr118 a b w)
  go_enter Tryz.func60, Tryz.ntmps60
  go_wp2_with (go_at_call 118; refine (H.out _ _ _).mono ?_; rintro e w' ⟨rfl, rfl⟩)
  go_ret
  exact ⟨rfl, rfl⟩
theorem Tryz.suffix116 (s p : ByteArray) (w : World) (hs : s.size ≤ 9223372036854775807) :
    Calls Tryz.prog 116 #[.string s, .string p] w fun e w' => e = .returned (.bool (Lib.hasSuffix s.data.toList p.data.toList)) ∧ w' = w := by
  rw [← Lib.hasSuffix_raw]
  have hlo : p.size ≤ s.size → ((s.size : Int) - (p.size : Int) + 9223372036854775808) % 18446744073709551616 - 9223372036854775808 = ((s.size - p.size : Nat) : Int) := fun _ => by omega
  go_enter Tryz.func116, Tryz.ntmps116
  go_wp2
  · have h : p.size ≤ s.size := by assumption
    go_ret
    refine ⟨?_, rfl⟩
    show Ending.returned (Value.bool ((s.extract (s.size - p.size) s.size).toList == p.toList)) = _
    simp [h]
  · have h : ¬ p.size ≤ s.size := by assumption
    go_ret
    refine ⟨?_, rfl⟩
    show Ending.returned (Value.bool false) = _
    simp [h]
theorem Tryz.suffix57 (s p : ByteArray) (w : World) (hs : s.size ≤ 9223372036854775807) :
    Calls Tryz.prog 57 #[.string s, .string p] w fun e w' => e = .returned (.bool (Lib.hasSuffix s.data.toList p.data.toList)) ∧ w' = w := by
  have H := Lib.hid (fun w => Tryz.suffix116 s p w hs)
  go_enter Tryz.func57, Tryz.ntmps57
  go_wp2_with (go_at_call 116; refine (H.out _).mono ?_; rintro e w' ⟨rfl, rfl⟩)
  go_ret
  exact ⟨rfl, rfl⟩
end Go.Proofs
/- The reference's long numbers: Amount, trim. -/
namespace Go.Proofs
open Go.RowKit
theorem Tryz.amount262 (N : Int) (hN : -4000000000000000000 ≤ N) (hN2 : N ≤ 4000000000000000000) (w : World) :
    Calls Tryz.prog 262 #[.int .i64 N] w fun e w' => e = .returned (.int .i64 (N.natAbs : Int)) ∧ w' = w := by
  have hneg : IntKind.i64.wrap (-N) = -N := by rw [IntKind.wrap_i64] <;> omega
  rcases Int.lt_or_le N 0 with h0 | h0
  · have hmx : N < -N := by omega
    have HA := Lib.hid (show -N = (N.natAbs : Int) by omega)
    go_enter Tryz.func262, Tryz.ntmps262
    go_wp2
    go_ret
    exact ⟨by rw [← HA.out]; rfl, rfl⟩
  · have hmx : ¬ (N < -N) := by omega
    have HA := Lib.hid (show N = (N.natAbs : Int) by omega)
    go_enter Tryz.func262, Tryz.ntmps262
    go_wp2
    go_ret
    exact ⟨by rw [← HA.out]; rfl, rfl⟩
/-- Digits without zeros at their end. -/
def Tryz.trimD (l : List Nat) : Nat → Nat
  | 0 => 0
  | n + 1 => if l[n]? = some 0 then Tryz.trimD l n else n + 1
theorem Tryz.trim263 (l : List Nat) (b cap : Nat) (w : World) (hl : l.length ≤ 1000) (hc : l.length ≤ cap) (h : ∀ (i : Nat) (x : Nat), l[i]? = some x → w.cell? ⟨b, i, none⟩ = some (.int .i64 (x : Int))) :
    Calls Tryz.prog 263 #[.slice (some ⟨b, 0, none⟩) l.length cap] w fun e w' => e = .returned (.slice (some ⟨b, 0, none⟩) (Tryz.trimD l l.length) cap) ∧ w' = w := by
  have H := Lib.hid h
  clear h
  go_enter Tryz.func263, Tryz.ntmps263
  go_wp2
  go_loop [0] (fun t => ∃ n : Nat, n ≤ l.length ∧ t = .slice (some ⟨b, 0, none⟩) n cap ∧ Tryz.trimD l l.length = Tryz.trimD l n) (fun t => match t with | .slice _ n _ => n | _ => 0)
  case atStart => exact ⟨l.length, Nat.le_refl _, rfl, rfl⟩
  case round =>
    obtain ⟨n, hn, rfl, hf⟩ := hrel
    cases n with
    | zero =>
      have HF := Lib.hid hf
      clear hf
      go_wp2
      go_ret
      exact ⟨by rw [HF.out]; rfl, rfl⟩
    | succ n =>
      obtain ⟨x, hx⟩ : ∃ x, l[n]? = some x := ⟨_, List.getElem?_eq_getElem (by omega)⟩
      have f1 := H.out n x hx
      have hb0 : (0 : Int) < (n : Int) + 1 := by omega
      have hb1 : (n : Int) < (n : Int) + 1 := by omega
      have hcap : n + 1 ≤ cap := by omega
      have hcap2 : (n : Int) ≤ (cap : Int) := by omega
      have hw1 : IntKind.i64.wrap ((n : Int) + 1 - 1) = (n : Int) := by rw [IntKind.wrap_i64] <;> omega
      by_cases h0 : x = 0
      · subst h0
        have HX := Lib.hid (hf.trans (show Tryz.trimD l (n + 1) = Tryz.trimD l n by rw [Tryz.trimD, if_pos hx]))
        clear hf hx
        go_wp2
        exact ⟨⟨n, by omega, rfl, HX.out⟩, by simp⟩
      · have HX := Lib.hid (hf.trans (show Tryz.trimD l (n + 1) = n + 1 by rw [Tryz.trimD, if_neg (by rw [hx]; intro e; exact h0 (Option.some.inj e))]))
        have hx0 : ((x : Int) == 0) = false := by rw [beq_eq_false_iff_ne]; omega
        clear hf hx
        go_wp2
        go_ret
        exact ⟨by rw [HX.out]; rfl, rfl⟩
end Go.Proofs
/- The reference's long numbers: order. -/
namespace Go.Proofs
open Go.RowKit
def Tryz.sgn (b : Bool) : Int := if b then 1 else -1
/-- From the top digit on. -/
def Tryz.ordD (l r : List Nat) : Nat → Int
  | 0 => 0
  | n + 1 => if l[n]? = r[n]? then Tryz.ordD l r n else Tryz.sgn (decide (r[n]?.getD 0 < l[n]?.getD 0))
def Tryz.ordF (l r : List Nat) : Int := if l.length = r.length then Tryz.ordD l r l.length else Tryz.sgn (decide (r.length < l.length))
set_option maxRecDepth 100000 in
set_option maxHeartbeats 2000000 in
theorem Tryz.order194 (l r : List Nat) (b cap d cap2 : Nat) (w : World) (hl : l.length ≤ 1000) (hr : r.length ≤ 1000) (h : ∀ (i : Nat) (x : Nat), l[i]? = some x → w.cell? ⟨b, i, none⟩ = some (.int .i64 (x : Int))) (h2 : ∀ (i : Nat) (x : Nat), r[i]? = some x → w.cell? ⟨d, i, none⟩ = some (.int .i64 (x : Int))) :
    Calls Tryz.prog 194 #[.slice (some ⟨b, 0, none⟩) l.length cap, .slice (some ⟨d, 0, none⟩) r.length cap2] w fun e w' => e = .returned (.int .i64 (Tryz.ordF l r)) ∧ Tryz.Ext w w' := by
  have H := Lib.hid h
  have H2 := Lib.hid h2
  have H23 := Lib.hid (fun b w => Tryz.count23 b w)
  clear h h2
  by_cases hlen : l.length = r.length
  · have HF := Lib.hid (show Tryz.ordF l r = Tryz.ordD l r l.length by rw [Tryz.ordF, if_pos hlen])
    have HL := Lib.hid hlen
    rw [← hlen]
    clear hlen
    go_enter Tryz.func194, Tryz.ntmps194
    go_wp2
    go_loopw [5] (fun i wr => ∃ n : Nat, n ≤ l.length ∧ i = .int .i64 ((n : Int) - 1) ∧ Tryz.ordF l r = Tryz.ordD l r n ∧ wr.heap = w.heap ∧ Go.XR.SameOut wr w) (fun i _ => (intOf i + 1).toNat)
    case atStart => exact ⟨l.length, Nat.le_refl _, rfl, HF.out, rfl, rfl, rfl⟩
    case round =>
      revert wr
      intro wi hrel
      obtain ⟨n, hn, rfl, hf, hh, hso⟩ := hrel
      have HSO := Lib.hid hso
      have hE : Tryz.Ext w wi := ⟨by rw [hh]; exact Nat.le_refl _, fun k _ => by rw [hh], hso⟩
      have HE := Lib.hid hE
      cases n with
      | zero =>
        have HX := Lib.hid hf
        clear hf hh hso hE
        go_wp2
        go_ret
        exact ⟨by rw [HX.out]; rfl, HE.out⟩
      | succ n =>
        have hlr := HL.out
        obtain ⟨x, hx⟩ : ∃ x, l[n]? = some x := ⟨_, List.getElem?_eq_getElem (by omega)⟩
        obtain ⟨y, hy⟩ : ∃ y, r[n]? = some y := ⟨_, List.getElem?_eq_getElem (by omega)⟩
        have f1 : wi.cell? ⟨b, n, none⟩ = some (.int .i64 (x : Int)) := by unfold World.cell?; rw [hh]; exact H.out n x hx
        have f2 : wi.cell? ⟨d, n, none⟩ = some (.int .i64 (y : Int)) := by unfold World.cell?; rw [hh]; exact H2.out n y hy
        have f1s : ∀ q, ({ wi with drawn := q } : World).cell? ⟨b, n, none⟩ = some (.int .i64 (x : Int)) := fun _ => f1
        have f2s : ∀ q, ({ wi with drawn := q } : World).cell? ⟨d, n, none⟩ = some (.int .i64 (y : Int)) := fun _ => f2
        have f1t : ∀ q, ({ wi with drawn := q } : World).drew.cell? ⟨b, n, none⟩ = some (.int .i64 (x : Int)) := fun _ => f1
        have f2t : ∀ q, ({ wi with drawn := q } : World).drew.cell? ⟨d, n, none⟩ = some (.int .i64 (y : Int)) := fun _ => f2
        have f1q : wi.drew.cell? ⟨b, n, none⟩ = some (.int .i64 (x : Int)) := f1
        have f2q : wi.drew.cell? ⟨d, n, none⟩ = some (.int .i64 (y : Int)) := f2
        have hb0 : (0 : Int) ≤ (n : Int) := by omega
        have hb1 : (n : Int) < (l.length : Int) := by omega
        have hstep : Tryz.ordD l r (n + 1) = if x = y then Tryz.ordD l r n else Tryz.sgn (decide (y < x)) := by
          rw [Tryz.ordD, hx, hy]; simp
        have HX := Lib.hid (hf.trans hstep)
        have HH := Lib.hid hh
        clear hf hh hso hE hstep hx hy hlr
        rw [show (((n + 1 : Nat) : Int) - 1) = (n : Int) by omega]
        by_cases hxy : x = y
        · subst hxy
          have HY := Lib.hid (HX.out.trans (if_pos rfl))
          go_wp2
          go_still (by kernel_rfl)
          go_wp2
          exact ⟨⟨n, by omega, rfl, HY.out, HH.out, HSO.out⟩, by simp [intOf]⟩
        · have HY := Lib.hid (HX.out.trans (if_neg hxy))
          have hne : ¬ ((x : Int) = (y : Int)) := by omega
          by_cases hyx : y < x
          · have hg : (y : Int) < (x : Int) := by omega
            have HS := Lib.hid (HY.out.trans (show Tryz.sgn (decide (y < x)) = 1 by rw [decide_eq_true hyx]; rfl))
            go_wp2
            go_still (by kernel_rfl)
            go_wp2
            refine wp_region_still_lit (by kernel_rfl) (by kernel_rfl) ?_
            iterate 9 still_step
            still_call (H23.out _ _)
            repeat still_step
            refine wpStill_nil ?_
            go_wp2
            go_ret
            exact ⟨by rw [HS.out]; kernel_rfl, HE.out.1, HE.out.2, HE.out.3⟩
          · have hg : ¬ (y : Int) < (x : Int) := by omega
            have HS := Lib.hid (HY.out.trans (show Tryz.sgn (decide (y < x)) = -1 by rw [decide_eq_false hyx]; rfl))
            go_wp2
            go_still (by kernel_rfl)
            go_wp2
            refine wp_region_still_lit (by kernel_rfl) (by kernel_rfl) ?_
            iterate 9 still_step
            still_call (H23.out _ _)
            repeat still_step
            refine wpStill_nil ?_
            go_wp2
            go_ret
            exact ⟨by rw [HS.out]; kernel_rfl, HE.out.1, HE.out.2, HE.out.3⟩
  · by_cases hgt : r.length < l.length
    · have HF := Lib.hid (show Tryz.ordF l r = 1 by rw [Tryz.ordF, if_neg hlen, decide_eq_true hgt]; rfl)
      have hg : (r.length : Int) < (l.length : Int) := by omega
      go_enter Tryz.func194, Tryz.ntmps194
      go_wp2_with (go_at_call 23; refine (H23.out _ _).mono ?_; rintro e w' ⟨rfl, rfl⟩)
      go_ret
      exact ⟨by rw [HF.out]; kernel_rfl, .refl _⟩
    · have HF := Lib.hid (show Tryz.ordF l r = -1 by rw [Tryz.ordF, if_neg hlen, decide_eq_false hgt]; rfl)
      have hg : ¬ (r.length : Int) < (l.length : Int) := by omega
      go_enter Tryz.func194, Tryz.ntmps194
      go_wp2_with (go_at_call 23; refine (H23.out _ _).mono ?_; rintro e w' ⟨rfl, rfl⟩)
      go_ret
      exact ⟨by rw [HF.out]; kernel_rfl, .refl _⟩
end Go.Proofs
/- The reference's long numbers: what digits are worth. -/
namespace Go.Proofs
/-- What digits are worth, the lowest one first. -/
def Tryz.dv : List Nat → Nat
  | [] => 0
  | x :: r => x + 10 * Tryz.dv r
def Tryz.Dig (l : List Nat) : Prop := ∀ x ∈ l, x < 10
theorem Tryz.Dig.cons {x : Nat} {l : List Nat} (h : Tryz.Dig (x :: l)) : x < 10 ∧ Tryz.Dig l := ⟨h x List.mem_cons_self, fun y hy => h y (List.mem_cons_of_mem _ hy)⟩
theorem Tryz.dv_lt : ∀ {l : List Nat}, Tryz.Dig l → Tryz.dv l < 10 ^ l.length
  | [], _ => by simp [Tryz.dv]
  | x :: r, h => by
    have ih := Tryz.dv_lt h.cons.2
    have hx := h.cons.1
    rw [Tryz.dv, List.length_cons, Nat.pow_succ]
    omega
theorem Tryz.dv_append : ∀ (l r : List Nat), Tryz.dv (l ++ r) = Tryz.dv l + 10 ^ l.length * Tryz.dv r
  | [], r => by simp [Tryz.dv]
  | x :: l, r => by
    have ih := Tryz.dv_append l r
    rw [List.cons_append, Tryz.dv, ih, Tryz.dv, List.length_cons, Nat.pow_succ, Nat.mul_add, ← Nat.mul_assoc, Nat.mul_comm 10 (10 ^ l.length), Nat.add_assoc]
theorem Tryz.dv_snoc (l : List Nat) (x : Nat) : Tryz.dv (l ++ [x]) = Tryz.dv l + 10 ^ l.length * x := by
  rw [Tryz.dv_append]; simp [Tryz.dv]
theorem Tryz.dv_zeros : ∀ (n : Nat), Tryz.dv (List.replicate n 0) = 0
  | 0 => rfl
  | n + 1 => by rw [List.replicate_succ, Tryz.dv, Tryz.dv_zeros n]
theorem Tryz.Dig.take {l : List Nat} (h : Tryz.Dig l) (n : Nat) : Tryz.Dig (l.take n) := fun x hx => h x (List.mem_of_mem_take hx)
theorem Tryz.Dig.snoc {l : List Nat} {x : Nat} (h : Tryz.Dig l) (hx : x < 10) : Tryz.Dig (l ++ [x]) := fun y hy => by
  rcases List.mem_append.1 hy with hy | hy
  · exact h y hy
  · simp at hy; omega
/-- No zero at the end. -/
def Tryz.Trim (l : List Nat) : Prop := ∀ n, l.length = n + 1 → l[n]? ≠ some 0
theorem Tryz.trimD_le (l : List Nat) : ∀ n, Tryz.trimD l n ≤ n
  | 0 => Nat.le_refl _
  | n + 1 => by
    rw [Tryz.trimD]
    split
    · exact Nat.le_succ_of_le (Tryz.trimD_le l n)
    · exact Nat.le_refl _
theorem Tryz.dv_trimD {l : List Nat} : ∀ n, n ≤ l.length → Tryz.dv (l.take (Tryz.trimD l n)) = Tryz.dv (l.take n)
  | 0, _ => rfl
  | n + 1, hn => by
    rw [Tryz.trimD]
    split
    · rename_i h
      rw [Tryz.dv_trimD n (by omega), List.take_add_one, h, Option.toList_some, Tryz.dv_snoc]; simp
    · rfl
theorem Tryz.trim_trimD {l : List Nat} : ∀ n, n ≤ l.length → Tryz.Trim (l.take (Tryz.trimD l n))
  | 0, _ => fun m hm => by simp [Tryz.trimD] at hm
  | n + 1, hn => by
    rw [Tryz.trimD]
    split
    · exact Tryz.trim_trimD n (by omega)
    · rename_i h
      intro m hm
      have : m = n := by rw [List.length_take] at hm; omega
      subst this
      rw [List.getElem?_take]
      rw [if_pos (Nat.lt_succ_self _)]
      exact h
theorem Tryz.trim_pos {l : List Nat} (ht : Tryz.Trim l) {n : Nat} (hn : l.length = n + 1) : 10 ^ n ≤ Tryz.dv l := by
  obtain ⟨x, hx⟩ : ∃ x, l[n]? = some x := ⟨_, List.getElem?_eq_getElem (by omega)⟩
  have h0 := ht n hn
  have hl : l = l.take n ++ [x] := by
    have := List.take_add_one (l := l) (i := n)
    rw [hx, ← hn, List.take_length] at this
    exact this
  have hlen : (l.take n).length = n := by rw [List.length_take]; omega
  rw [hl, Tryz.dv_snoc, hlen]
  have : x ≠ 0 := fun e => h0 (by rw [hx, e])
  have : 10 ^ n * 1 ≤ 10 ^ n * x := Nat.mul_le_mul_left _ (by omega)
  omega
theorem Tryz.trim_nil {l : List Nat} (ht : Tryz.Trim l) : l.length = 0 ↔ Tryz.dv l = 0 := by
  constructor
  · intro h; rw [List.length_eq_zero_iff.1 h]; rfl
  · intro h
    rcases Nat.eq_zero_or_pos l.length with h0 | h0
    · exact h0
    · have := Tryz.trim_pos ht (n := l.length - 1) (by omega)
      have h1 : 0 < 10 ^ (l.length - 1) := Nat.pow_pos (by omega)
      omega
theorem Tryz.sgn_cmp {x y : Nat} (h : x ≠ y) : Tryz.sgn (decide (y < x)) = Tryz.cmpN x y := by
  unfold Tryz.cmpN
  rcases Nat.lt_or_gt_of_ne h with k | k
  · rw [if_pos k, decide_eq_false (by omega)]; rfl
  · rw [if_neg (by omega), if_pos k, decide_eq_true k]; rfl
theorem Tryz.ordD_cmp {l r : List Nat} (hl : Tryz.Dig l) (hr : Tryz.Dig r) : ∀ n, n ≤ l.length → n ≤ r.length → Tryz.ordD l r n = Tryz.cmpN (Tryz.dv (l.take n)) (Tryz.dv (r.take n))
  | 0, _, _ => by simp [Tryz.ordD, Tryz.dv, Tryz.cmpN]
  | n + 1, h1, h2 => by
    obtain ⟨x, hx⟩ : ∃ x, l[n]? = some x := ⟨_, List.getElem?_eq_getElem (by omega)⟩
    obtain ⟨y, hy⟩ : ∃ y, r[n]? = some y := ⟨_, List.getElem?_eq_getElem (by omega)⟩
    have e1 : Tryz.dv (l.take (n + 1)) = Tryz.dv (l.take n) + 10 ^ n * x := by
      rw [List.take_add_one, hx, Option.toList_some, Tryz.dv_snoc, List.length_take, Nat.min_eq_left (by omega)]
    have e2 : Tryz.dv (r.take (n + 1)) = Tryz.dv (r.take n) + 10 ^ n * y := by
      rw [List.take_add_one, hy, Option.toList_some, Tryz.dv_snoc, List.length_take, Nat.min_eq_left (by omega)]
    have b1 : Tryz.dv (l.take n) < 10 ^ n := by
      have := Tryz.dv_lt (hl.take n); rwa [List.length_take, Nat.min_eq_left (by omega)] at this
    have b2 : Tryz.dv (r.take n) < 10 ^ n := by
      have := Tryz.dv_lt (hr.take n); rwa [List.length_take, Nat.min_eq_left (by omega)] at this
    have ih := Tryz.ordD_cmp hl hr n (by omega) (by omega)
    rw [Tryz.ordD, hx, hy, e1, e2]
    by_cases hxy : x = y
    · subst hxy
      rw [if_pos rfl, ih]
      simp only [Tryz.cmpN, Nat.add_lt_add_iff_right]
    · rw [if_neg (fun e => hxy (Option.some.inj e))]
      simp only [Option.getD_some]
      rw [Tryz.sgn_cmp hxy]
      unfold Tryz.cmpN
      rcases Nat.lt_or_gt_of_ne hxy with k | k
      · have : 10 ^ n * x + 10 ^ n ≤ 10 ^ n * y := by rw [← Nat.mul_succ]; exact Nat.mul_le_mul_left _ k
        rw [if_pos k, if_pos (by omega)]
      · have : 10 ^ n * y + 10 ^ n ≤ 10 ^ n * x := by rw [← Nat.mul_succ]; exact Nat.mul_le_mul_left _ k
        rw [if_neg (by omega), if_pos k, if_neg (by omega), if_pos (by omega)]
theorem Tryz.ordF_cmp {l r : List Nat} (hl : Tryz.Dig l) (hr : Tryz.Dig r) (tl : Tryz.Trim l) (tr : Tryz.Trim r) : Tryz.ordF l r = Tryz.cmpN (Tryz.dv l) (Tryz.dv r) := by
  rw [Tryz.ordF]
  split
  · rename_i h
    have := Tryz.ordD_cmp hl hr l.length (Nat.le_refl _) (Nat.le_of_eq h)
    rwa [List.take_length, h, List.take_length, ← h] at this
  · rename_i h
    have b1 := Tryz.dv_lt hl
    have b2 := Tryz.dv_lt hr
    rw [Tryz.sgn_cmp h]
    unfold Tryz.cmpN
    rcases Nat.lt_or_gt_of_ne h with k | k
    · have h1 := Tryz.trim_pos tr (n := r.length - 1) (by omega)
      have h2 : 10 ^ l.length ≤ 10 ^ (r.length - 1) := Nat.pow_le_pow_right (by omega) (by omega)
      rw [if_pos k, if_pos (by omega)]
    · have h1 := Tryz.trim_pos tl (n := l.length - 1) (by omega)
      have h2 : 10 ^ r.length ≤ 10 ^ (l.length - 1) := Nat.pow_le_pow_right (by omega) (by omega)
      rw [if_neg (by omega), if_pos k, if_neg (by omega), if_pos (by omega)]
/-- One step of a difference: the digit, and whether one is borrowed. -/
def Tryz.minD (x y b : Nat) : Nat := (10 + x - y - b) % 10
def Tryz.minB (x y b : Nat) : Nat := if x < y + b then 1 else 0
theorem Tryz.min_step {x y b : Nat} (hx : x < 10) (hy : y < 10) (hb : b ≤ 1) : Tryz.minD x y b + y + b = x + 10 * Tryz.minB x y b := by
  unfold Tryz.minD Tryz.minB
  split <;> omega
/-- After so many digits of a difference. -/
structure Tryz.Mins (l r o : List Nat) (b : Nat) : Prop where
  dig : Tryz.Dig o
  bor : b ≤ 1
  val : Tryz.dv o + Tryz.dv (r.take o.length) = Tryz.dv (l.take o.length) + 10 ^ o.length * b
theorem Tryz.Mins.nil (l r : List Nat) : Tryz.Mins l r [] 0 := ⟨fun x hx => (by cases hx), by omega, by simp [Tryz.dv]⟩
theorem Tryz.Mins.step {l r o : List Nat} {b x y : Nat} (m : Tryz.Mins l r o b) (hx : l[o.length]? = some x) (hy : r[o.length]?.getD 0 = y) (hx9 : x < 10) (hy9 : y < 10) :
    Tryz.Mins l r (o ++ [Tryz.minD x y b]) (Tryz.minB x y b) := by
  have hs := Tryz.min_step hx9 hy9 m.bor
  refine ⟨m.dig.snoc (Nat.mod_lt _ (by omega)), by unfold Tryz.minB; split <;> omega, ?_⟩
  have hv := m.val
  have e1 : Tryz.dv (l.take (o.length + 1)) = Tryz.dv (l.take o.length) + 10 ^ o.length * x := by
    rw [List.take_add_one, hx, Option.toList_some, Tryz.dv_snoc, List.length_take, Nat.min_eq_left (by have := (List.getElem?_eq_some_iff.1 hx).1; omega)]
  have e2 : Tryz.dv (r.take (o.length + 1)) = Tryz.dv (r.take o.length) + 10 ^ o.length * y := by
    rcases Nat.lt_or_ge o.length r.length with h | h
    · rw [List.getElem?_eq_getElem h, Option.getD_some] at hy
      rw [List.take_add_one, List.getElem?_eq_getElem h, hy, Option.toList_some, Tryz.dv_snoc, List.length_take, Nat.min_eq_left (by omega)]
    · rw [List.getElem?_eq_none h, Option.getD_none] at hy
      rw [List.take_of_length_le (by omega), List.take_of_length_le (by omega), ← hy]; simp
  rw [List.length_append, List.length_singleton, e1, e2, Tryz.dv_snoc, Nat.pow_succ]
  have e3 : 10 ^ o.length * Tryz.minD x y b + 10 ^ o.length * y + 10 ^ o.length * b = 10 ^ o.length * x + 10 ^ o.length * 10 * Tryz.minB x y b := by
    rw [← Nat.mul_add, ← Nat.mul_add, Nat.mul_assoc, ← Nat.mul_add, hs]
  omega
theorem Tryz.Mins.done {l r o : List Nat} {b : Nat} (m : Tryz.Mins l r o b) (h : o.length = l.length) (hr : r.length ≤ l.length) (hle : Tryz.dv r ≤ Tryz.dv l) : Tryz.dv o + Tryz.dv r = Tryz.dv l := by
  have hv := m.val
  rw [h, List.take_length, List.take_of_length_le hr] at hv
  have hb := m.bor
  have hd := Tryz.dv_lt m.dig
  rw [h] at hd
  rcases Nat.eq_zero_or_pos b with rfl | h1
  · simpa using hv
  · obtain rfl : b = 1 := by omega
    omega
end Go.Proofs
/- Wide numbers: aligned. -/
namespace Go.Proofs
open Go.RowKit
theorem Tryz.alloc_ext {w w1 : World} (h : Tryz.Ext w w1) (o : Obj) : Tryz.Ext w (w1.alloc o) :=
  h.trans ⟨by simp, fun _ hk => Below.heap_alloc _ _ _ hk, rfl, rfl⟩
theorem Tryz.alloc_old {w : World} {k : Nat} {x : Obj} (h : w.heap[k]? = some x) (o : Obj) : (w.alloc o).heap[k]? = some x := by
  rw [Below.heap_alloc _ _ _ (Array.getElem?_eq_some_iff.1 h).1]; exact h
theorem Tryz.alloc_at {w : World} {n : Nat} (h : w.heap.size = n) (o : Obj) : (w.alloc o).heap[n]? = some o := by rw [← h]; exact Tryz.bnew w o
theorem Tryz.alloc_sz {w : World} {n : Nat} (h : w.heap.size = n) (o : Obj) : (w.alloc o).heap.size = n + 1 := by simp [h]
theorem Tryz.drew_ext (w : World) : Tryz.Ext w w.drew := ⟨Nat.le_refl _, fun _ _ => rfl, rfl, rfl⟩
theorem Tryz.results_cct {fn : Func} {p q u : Tmp} {t1 t2 : TypeId} (h : fn.results = #[.cell p t1, .cell q t2, .tmp u]) (tmps : Array Value) (w : World) (g k : Nat) (x y : Value)
    (hp : tmps.getD p undef = .pointer (some ⟨g, 0, none⟩)) (hq : tmps.getD q undef = .pointer (some ⟨k, 0, none⟩)) (hg : (loadVar t1 ⟨g, 0, none⟩).run Tryz.prog w = .ok x w) (hk : (loadVar t2 ⟨k, 0, none⟩).run Tryz.prog w = .ok y w) :
    (results fn tmps).run Tryz.prog w = .ok (.tuple #[x, y, tmps.getD u undef]) w := by
  have hp' : tmps[p]?.getD undef = .pointer (some ⟨g, 0, none⟩) := by simpa using hp
  have hq' : tmps[q]?.getD undef = .pointer (some ⟨k, 0, none⟩) := by simpa using hq
  simp [results, h, hp', hq', asAddr, hg, hk]
theorem Tryz.four_off {wi : World} {q k : Nat} (o0 o1 o2 o3 : Nat) (h : k ≠ q) : (Tryz.four wi q o0 o1 o2 o3).heap[k]? = wi.heap[k]? := by
  simp only [Tryz.four]
  rw [Tryz.bother h, Tryz.bother h, Tryz.bother h, Tryz.bother h]
set_option maxRecDepth 100000 in
set_option maxHeartbeats 4000000 in
theorem Tryz.aligned120a (N M : Int) (S R : Nat) (hN : -4000000000000000000 ≤ N) (hN2 : N ≤ 4000000000000000000) (hM : -4000000000000000000 ≤ M) (hM2 : M ≤ 4000000000000000000) (hR : R ≤ 15) (hlt : S < R) (w : World) :
    Calls Tryz.prog 120 #[.agg #[.int .i64 N, .int .i64 S], .agg #[.int .i64 M, .int .i64 R]] w fun e w' =>
      e = .returned (.tuple #[.agg (Tryz.u64c (Tryz.shiftF (R - S) [N.natAbs, 0, 0, 0])), .agg (Tryz.u64c (Tryz.shiftF 0 [M.natAbs, 0, 0, 0])), .int .i64 R]) ∧ Tryz.Ext w w' := by
  have H1 := Lib.hid (fun w => Tryz.amount191 N S hN hN2 (R - S) (by omega) w)
  have H2 := Lib.hid (fun w => Tryz.amount191 M R hM hM2 0 (by omega) w)
  obtain ⟨x0, x1, x2, x3, hx⟩ := Tryz.len4 ((Tryz.shiftF_len (R - S) [N.natAbs, 0, 0, 0]).trans rfl)
  obtain ⟨y0, y1, y2, y3, hy⟩ := Tryz.len4 ((Tryz.shiftF_len 0 [M.natAbs, 0, 0, 0]).trans rfl)
  have HX := Lib.hid hx
  have HY := Lib.hid hy
  have hmx : (S : Int) < (R : Int) := by omega
  have hw1 : IntKind.i64.wrap ((R : Int) - (S : Int)) = ((R - S : Nat) : Int) := by rw [IntKind.wrap_i64] <;> omega
  have hw2 : IntKind.i64.wrap (0 : Int) = 0 := by kernel_rfl
  clear hx hy
  go_enter Tryz.func120, Tryz.ntmps120
  go_wp2
  obtain ⟨W, hW⟩ : ∃ W, W = ((((w.alloc (Obj.cells #[Value.int IntKind.i64 N, Value.int IntKind.i64 ↑S] 33)).alloc (Obj.cells #[Value.int IntKind.i64 M, Value.int IntKind.i64 ↑R] 33)).alloc
          (Obj.cells #[Value.int IntKind.u64 0, Value.int IntKind.u64 0, Value.int IntKind.u64 0, Value.int IntKind.u64 0] 185)).alloc
          (Obj.cells #[Value.int IntKind.u64 0, Value.int IntKind.u64 0, Value.int IntKind.u64 0, Value.int IntKind.u64 0] 185)) := ⟨_, rfl⟩
  rw [← hW]
  have hsz : W.heap.size = w.heap.size + 4 := by rw [hW]; simp
  have k0 : W.heap[w.heap.size]? = some (.cells #[Value.int IntKind.i64 N, Value.int IntKind.i64 ↑S] 33) := by rw [hW]; exact Tryz.alloc_old (Tryz.alloc_old (Tryz.alloc_old (Tryz.bnew _ _) _) _) _
  have k1 : W.heap[w.heap.size + 1]? = some (.cells #[Value.int IntKind.i64 M, Value.int IntKind.i64 ↑R] 33) := by rw [hW]; exact Tryz.alloc_old (Tryz.alloc_old (Tryz.alloc_at (Tryz.alloc_sz rfl _) _) _) _
  have k2 : W.heap[w.heap.size + 1 + 1]? = some (.cells (Tryz.u64c [0, 0, 0, 0]) 185) := by rw [hW]; exact Tryz.alloc_old (Tryz.alloc_at (Tryz.alloc_sz (Tryz.alloc_sz rfl _) _) _) _
  have k3 : W.heap[w.heap.size + 1 + 1 + 1]? = some (.cells (Tryz.u64c [0, 0, 0, 0]) 185) := by rw [hW]; exact Tryz.alloc_at (Tryz.alloc_sz (Tryz.alloc_sz (Tryz.alloc_sz rfl _) _) _) _
  have kE : Tryz.Ext w W := by rw [hW]; exact Tryz.alloc_ext (Tryz.alloc_ext (Tryz.alloc_ext (Tryz.alloc_ext (.refl _) _) _) _) _
  clear hW
  obtain ⟨p, hpW, hpO⟩ := Tryz.hideP fun w' => w'.heap[w.heap.size]? = some (.cells #[Value.int IntKind.i64 N, Value.int IntKind.i64 ↑S] 33) ∧ w'.heap[w.heap.size + 1]? = some (.cells #[Value.int IntKind.i64 M, Value.int IntKind.i64 ↑R] 33)
  haveI : Nonempty (Tryz.InC p) := ⟨⟨W, hpW W ⟨k0, k1⟩⟩⟩
  have c0 : ∀ x : Tryz.InC p, x.w.cell? ⟨w.heap.size, 0, none⟩ = some (.int .i64 N) := fun x => Tryz.bcell (j := 0) (hpO _ x.h).1 rfl
  have c1 : ∀ x : Tryz.InC p, x.w.cell? ⟨w.heap.size, 1, none⟩ = some (.int .i64 S) := fun x => Tryz.bcell (j := 1) (hpO _ x.h).1 rfl
  have d0 : ∀ x : Tryz.InC p, x.w.cell? ⟨w.heap.size + 1, 0, none⟩ = some (.int .i64 M) := fun x => Tryz.bcell (j := 0) (hpO _ x.h).2 rfl
  have d1 : ∀ x : Tryz.InC p, x.w.cell? ⟨w.heap.size + 1, 1, none⟩ = some (.int .i64 R) := fun x => Tryz.bcell (j := 1) (hpO _ x.h).2 rfl
  have HPW := Lib.hid hpW
  clear hpW hpO
  refine Tryz.region_order (C := fun w' => ∃ x : Tryz.InC p, w' = x.w)
    [(true, 0), (true, 1), (true, 2), (true, 3), (true, 4), (true, 6), (true, 7), (true, 8), (true, 9), (true, 10), (true, 12), (false, 5), (false, 11), (false, 13), (false, 14), (false, 15)] (by kernel_rfl) (by kernel_rfl) ⟨⟨{ W with drawn := W.drawn + 1 }, HPW.out _ ⟨k0, k1⟩⟩, rfl⟩ ?_
  simp only [Tryz.picks, List.filterMap_cons, List.filterMap_nil, List.getElem?_cons_succ, List.getElem?_cons_zero, Option.map_some]
  iterate 11 (refine Tryz.mix_calm (fun K hK => ?_); unfold Tryz.calm; go_simp; refine hK _ ?_; clear hK K)
  refine Tryz.mix_step (by kernel_rfl) (fun K hK => ?_)
  go_simp
  refine (H1.out _).mono ?_
  rintro e w1 ⟨rfl, hx⟩
  have q0 := (hx.old w.heap.size (by have hd : W.drew.heap.size = w.heap.size + 4 := hsz; omega)).trans k0
  have q1 := (hx.old (w.heap.size + 1) (by have hd : W.drew.heap.size = w.heap.size + 4 := hsz; omega)).trans k1
  refine hK _ _ ⟨⟨w1, HPW.out _ ⟨q0, q1⟩⟩, rfl⟩ ?_
  clear hK K
  refine Tryz.mix_step (by kernel_rfl) (fun K hK => ?_)
  go_simp
  refine (H2.out _).mono ?_
  rintro e w2 ⟨rfl, hy⟩
  have hall := hx.trans hy
  replace q0 := (hall.old w.heap.size (by have hd : W.drew.heap.size = w.heap.size + 4 := hsz; omega)).trans k0
  replace q1 := (hall.old (w.heap.size + 1) (by have hd : W.drew.heap.size = w.heap.size + 4 := hsz; omega)).trans k1
  have q2 := (hall.old (w.heap.size + 1 + 1) (by have hd : W.drew.heap.size = w.heap.size + 4 := hsz; omega)).trans k2
  have q3 := (hall.old (w.heap.size + 1 + 1 + 1) (by have hd : W.drew.heap.size = w.heap.size + 4 := hsz; omega)).trans k3
  refine hK _ _ ⟨⟨w2, HPW.out _ ⟨q0, q1⟩⟩, rfl⟩ ?_
  clear hK K
  rw [HX.out, HY.out, show Tryz.u64c [x0, x1, x2, x3] = #[.int .u64 x0, .int .u64 x1, .int .u64 x2, .int .u64 x3] from rfl, show Tryz.u64c [y0, y1, y2, y3] = #[.int .u64 y0, .int .u64 y1, .int .u64 y2, .int .u64 y3] from rfl]
  have g0 := Tryz.bcell (j := 0) q2 rfl; have g1 := Tryz.bcell (j := 1) q2 rfl; have g2 := Tryz.bcell (j := 2) q2 rfl; have g3 := Tryz.bcell (j := 3) q2 rfl
  have e0 := Tryz.bfrozen (j := 0) q2; have e1 := Tryz.bfrozen (j := 1) q2; have e2 := Tryz.bfrozen (j := 2) q2; have e3 := Tryz.bfrozen (j := 3) q2
  refine Tryz.mix_step (by kernel_rfl) (fun K hK => ?_)
  go_simp
  change K _ (Tryz.four w2 (w.heap.size + 1 + 1) x0 x1 x2 x3)
  have r0 : (Tryz.four w2 (w.heap.size + 1 + 1) x0 x1 x2 x3).heap[w.heap.size]? = _ := (Tryz.four_off x0 x1 x2 x3 (by omega)).trans q0
  have r1 : (Tryz.four w2 (w.heap.size + 1 + 1) x0 x1 x2 x3).heap[w.heap.size + 1]? = _ := (Tryz.four_off x0 x1 x2 x3 (by omega)).trans q1
  have r2 := Tryz.four_at x0 x1 x2 x3 q2
  have r3 : (Tryz.four w2 (w.heap.size + 1 + 1) x0 x1 x2 x3).heap[w.heap.size + 1 + 1 + 1]? = _ := (Tryz.four_off x0 x1 x2 x3 (by omega)).trans q3
  have hw2' : Tryz.Ext w w2 := (kE.trans (Tryz.drew_ext W)).trans hall
  have hE3 : Tryz.Ext w (Tryz.four w2 (w.heap.size + 1 + 1) x0 x1 x2 x3) := Tryz.four_ext x0 x1 x2 x3 (by omega) hw2'.size hw2'.old hw2'.out
  revert hK
  generalize Tryz.four w2 (w.heap.size + 1 + 1) x0 x1 x2 x3 = w3 at r0 r1 r2 r3 hE3 ⊢
  intro hK
  refine hK _ _ ⟨⟨w3, HPW.out _ ⟨r0, r1⟩⟩, rfl⟩ ?_
  clear hK K g0 g1 g2 g3 e0 e1 e2 e3
  have g0 := Tryz.bcell (j := 0) r3 rfl; have g1 := Tryz.bcell (j := 1) r3 rfl; have g2 := Tryz.bcell (j := 2) r3 rfl; have g3 := Tryz.bcell (j := 3) r3 rfl
  have e0 := Tryz.bfrozen (j := 0) r3; have e1 := Tryz.bfrozen (j := 1) r3; have e2 := Tryz.bfrozen (j := 2) r3; have e3 := Tryz.bfrozen (j := 3) r3
  refine Tryz.mix_step (by kernel_rfl) (fun K hK => ?_)
  go_simp
  change K _ (Tryz.four w3 (w.heap.size + 1 + 1 + 1) y0 y1 y2 y3)
  have s0 : (Tryz.four w3 (w.heap.size + 1 + 1 + 1) y0 y1 y2 y3).heap[w.heap.size]? = _ := (Tryz.four_off y0 y1 y2 y3 (by omega)).trans r0
  have s1 : (Tryz.four w3 (w.heap.size + 1 + 1 + 1) y0 y1 y2 y3).heap[w.heap.size + 1]? = _ := (Tryz.four_off y0 y1 y2 y3 (by omega)).trans r1
  have s2 : (Tryz.four w3 (w.heap.size + 1 + 1 + 1) y0 y1 y2 y3).heap[w.heap.size + 1 + 1]? = _ := (Tryz.four_off y0 y1 y2 y3 (by omega)).trans r2
  have s3 := Tryz.four_at y0 y1 y2 y3 r3
  have hE4 : Tryz.Ext w (Tryz.four w3 (w.heap.size + 1 + 1 + 1) y0 y1 y2 y3) := Tryz.four_ext y0 y1 y2 y3 (by omega) hE3.size hE3.old hE3.out
  revert hK
  generalize Tryz.four w3 (w.heap.size + 1 + 1 + 1) y0 y1 y2 y3 = w4 at s0 s1 s2 s3 hE4 ⊢
  intro hK
  refine hK _ _ ⟨⟨w4, HPW.out _ ⟨s0, s1⟩⟩, rfl⟩ ?_
  clear hK K g0 g1 g2 g3 e0 e1 e2 e3
  refine Tryz.mix_step (by kernel_rfl) (fun K hK => ?_)
  go_simp
  refine hK _ _ ⟨⟨w4, HPW.out _ ⟨s0, s1⟩⟩, rfl⟩ ?_
  refine Tryz.mix_nil ?_
  clear hK K c0 c1 d0 d1 this q0 q1 q2 q3 r0 r1 r2 r3 k0 k1 k2 k3
  have HS2 := Lib.hid s2
  have HS3 := Lib.hid s3
  have HE := Lib.hid hE4
  clear hx hy hall hE3 hE4 s0 s1 s2 s3 kE hw2'
  go_wp2
  refine bodyPost_ret (v := .tuple #[.agg (Tryz.u64c (Tryz.shiftF (R - S) [N.natAbs, 0, 0, 0])), .agg (Tryz.u64c (Tryz.shiftF 0 [M.natAbs, 0, 0, 0])), .int .i64 R]) ?_ rfl ⟨rfl, HE.out⟩
  rw [HX.out, HY.out]
  exact Tryz.results_cct (p := 4) (q := 5) (u := 6) rfl _ _ _ _ _ _ rfl rfl (run_loadVar_row _ _ _ _ _ _ _ HS2.out Tryz.underlying185 rfl (by kernel_rfl)) (run_loadVar_row _ _ _ _ _ _ _ HS3.out Tryz.underlying185 rfl (by kernel_rfl))
set_option maxRecDepth 100000 in
set_option maxHeartbeats 4000000 in
theorem Tryz.aligned120b (N M : Int) (S R : Nat) (hN : -4000000000000000000 ≤ N) (hN2 : N ≤ 4000000000000000000) (hM : -4000000000000000000 ≤ M) (hM2 : M ≤ 4000000000000000000) (hS : S ≤ 15) (hlt : R ≤ S) (w : World) :
    Calls Tryz.prog 120 #[.agg #[.int .i64 N, .int .i64 S], .agg #[.int .i64 M, .int .i64 R]] w fun e w' =>
      e = .returned (.tuple #[.agg (Tryz.u64c (Tryz.shiftF 0 [N.natAbs, 0, 0, 0])), .agg (Tryz.u64c (Tryz.shiftF (S - R) [M.natAbs, 0, 0, 0])), .int .i64 S]) ∧ Tryz.Ext w w' := by
  have H1 := Lib.hid (fun w => Tryz.amount191 N S hN hN2 0 (by omega) w)
  have H2 := Lib.hid (fun w => Tryz.amount191 M R hM hM2 (S - R) (by omega) w)
  obtain ⟨x0, x1, x2, x3, hx⟩ := Tryz.len4 ((Tryz.shiftF_len 0 [N.natAbs, 0, 0, 0]).trans rfl)
  obtain ⟨y0, y1, y2, y3, hy⟩ := Tryz.len4 ((Tryz.shiftF_len (S - R) [M.natAbs, 0, 0, 0]).trans rfl)
  have HX := Lib.hid hx
  have HY := Lib.hid hy
  have hmx : ¬ (S : Int) < (R : Int) := by omega
  have hw1 : IntKind.i64.wrap ((S : Int) - (R : Int)) = ((S - R : Nat) : Int) := by rw [IntKind.wrap_i64] <;> omega
  have hw2 : IntKind.i64.wrap (0 : Int) = 0 := by kernel_rfl
  clear hx hy
  go_enter Tryz.func120, Tryz.ntmps120
  go_wp2
  obtain ⟨W, hW⟩ : ∃ W, W = ((((w.alloc (Obj.cells #[Value.int IntKind.i64 N, Value.int IntKind.i64 ↑S] 33)).alloc (Obj.cells #[Value.int IntKind.i64 M, Value.int IntKind.i64 ↑R] 33)).alloc
          (Obj.cells #[Value.int IntKind.u64 0, Value.int IntKind.u64 0, Value.int IntKind.u64 0, Value.int IntKind.u64 0] 185)).alloc
          (Obj.cells #[Value.int IntKind.u64 0, Value.int IntKind.u64 0, Value.int IntKind.u64 0, Value.int IntKind.u64 0] 185)) := ⟨_, rfl⟩
  rw [← hW]
  have hsz : W.heap.size = w.heap.size + 4 := by rw [hW]; simp
  have k0 : W.heap[w.heap.size]? = some (.cells #[Value.int IntKind.i64 N, Value.int IntKind.i64 ↑S] 33) := by rw [hW]; exact Tryz.alloc_old (Tryz.alloc_old (Tryz.alloc_old (Tryz.bnew _ _) _) _) _
  have k1 : W.heap[w.heap.size + 1]? = some (.cells #[Value.int IntKind.i64 M, Value.int IntKind.i64 ↑R] 33) := by rw [hW]; exact Tryz.alloc_old (Tryz.alloc_old (Tryz.alloc_at (Tryz.alloc_sz rfl _) _) _) _
  have k2 : W.heap[w.heap.size + 1 + 1]? = some (.cells (Tryz.u64c [0, 0, 0, 0]) 185) := by rw [hW]; exact Tryz.alloc_old (Tryz.alloc_at (Tryz.alloc_sz (Tryz.alloc_sz rfl _) _) _) _
  have k3 : W.heap[w.heap.size + 1 + 1 + 1]? = some (.cells (Tryz.u64c [0, 0, 0, 0]) 185) := by rw [hW]; exact Tryz.alloc_at (Tryz.alloc_sz (Tryz.alloc_sz (Tryz.alloc_sz rfl _) _) _) _
  have kE : Tryz.Ext w W := by rw [hW]; exact Tryz.alloc_ext (Tryz.alloc_ext (Tryz.alloc_ext (Tryz.alloc_ext (.refl _) _) _) _) _
  clear hW
  obtain ⟨p, hpW, hpO⟩ := Tryz.hideP fun w' => w'.heap[w.heap.size]? = some (.cells #[Value.int IntKind.i64 N, Value.int IntKind.i64 ↑S] 33) ∧ w'.heap[w.heap.size + 1]? = some (.cells #[Value.int IntKind.i64 M, Value.int IntKind.i64 ↑R] 33)
  haveI : Nonempty (Tryz.InC p) := ⟨⟨W, hpW W ⟨k0, k1⟩⟩⟩
  have c0 : ∀ x : Tryz.InC p, x.w.cell? ⟨w.heap.size, 0, none⟩ = some (.int .i64 N) := fun x => Tryz.bcell (j := 0) (hpO _ x.h).1 rfl
  have c1 : ∀ x : Tryz.InC p, x.w.cell? ⟨w.heap.size, 1, none⟩ = some (.int .i64 S) := fun x => Tryz.bcell (j := 1) (hpO _ x.h).1 rfl
  have d0 : ∀ x : Tryz.InC p, x.w.cell? ⟨w.heap.size + 1, 0, none⟩ = some (.int .i64 M) := fun x => Tryz.bcell (j := 0) (hpO _ x.h).2 rfl
  have d1 : ∀ x : Tryz.InC p, x.w.cell? ⟨w.heap.size + 1, 1, none⟩ = some (.int .i64 R) := fun x => Tryz.bcell (j := 1) (hpO _ x.h).2 rfl
  have HPW := Lib.hid hpW
  clear hpW hpO
  refine Tryz.region_order (C := fun w' => ∃ x : Tryz.InC p, w' = x.w)
    [(true, 0), (true, 1), (true, 2), (true, 3), (true, 4), (true, 6), (true, 7), (true, 8), (true, 9), (true, 10), (true, 12), (false, 5), (false, 11), (false, 13), (false, 14), (false, 15)] (by kernel_rfl) (by kernel_rfl) ⟨⟨{ W with drawn := W.drawn + 1 }, HPW.out _ ⟨k0, k1⟩⟩, rfl⟩ ?_
  simp only [Tryz.picks, List.filterMap_cons, List.filterMap_nil, List.getElem?_cons_succ, List.getElem?_cons_zero, Option.map_some]
  iterate 11 (refine Tryz.mix_calm (fun K hK => ?_); unfold Tryz.calm; go_simp; refine hK _ ?_; clear hK K)
  refine Tryz.mix_step (by kernel_rfl) (fun K hK => ?_)
  go_simp
  refine (H1.out _).mono ?_
  rintro e w1 ⟨rfl, hx⟩
  have q0 := (hx.old w.heap.size (by have hd : W.drew.heap.size = w.heap.size + 4 := hsz; omega)).trans k0
  have q1 := (hx.old (w.heap.size + 1) (by have hd : W.drew.heap.size = w.heap.size + 4 := hsz; omega)).trans k1
  refine hK _ _ ⟨⟨w1, HPW.out _ ⟨q0, q1⟩⟩, rfl⟩ ?_
  clear hK K
  refine Tryz.mix_step (by kernel_rfl) (fun K hK => ?_)
  go_simp
  refine (H2.out _).mono ?_
  rintro e w2 ⟨rfl, hy⟩
  have hall := hx.trans hy
  replace q0 := (hall.old w.heap.size (by have hd : W.drew.heap.size = w.heap.size + 4 := hsz; omega)).trans k0
  replace q1 := (hall.old (w.heap.size + 1) (by have hd : W.drew.heap.size = w.heap.size + 4 := hsz; omega)).trans k1
  have q2 := (hall.old (w.heap.size + 1 + 1) (by have hd : W.drew.heap.size = w.heap.size + 4 := hsz; omega)).trans k2
  have q3 := (hall.old (w.heap.size + 1 + 1 + 1) (by have hd : W.drew.heap.size = w.heap.size + 4 := hsz; omega)).trans k3
  refine hK _ _ ⟨⟨w2, HPW.out _ ⟨q0, q1⟩⟩, rfl⟩ ?_
  clear hK K
  rw [HX.out, HY.out, show Tryz.u64c [x0, x1, x2, x3] = #[.int .u64 x0, .int .u64 x1, .int .u64 x2, .int .u64 x3] from rfl, show Tryz.u64c [y0, y1, y2, y3] = #[.int .u64 y0, .int .u64 y1, .int .u64 y2, .int .u64 y3] from rfl]
  have g0 := Tryz.bcell (j := 0) q2 rfl; have g1 := Tryz.bcell (j := 1) q2 rfl; have g2 := Tryz.bcell (j := 2) q2 rfl; have g3 := Tryz.bcell (j := 3) q2 rfl
  have e0 := Tryz.bfrozen (j := 0) q2; have e1 := Tryz.bfrozen (j := 1) q2; have e2 := Tryz.bfrozen (j := 2) q2; have e3 := Tryz.bfrozen (j := 3) q2
  refine Tryz.mix_step (by kernel_rfl) (fun K hK => ?_)
  go_simp
  change K _ (Tryz.four w2 (w.heap.size + 1 + 1) x0 x1 x2 x3)
  have r0 : (Tryz.four w2 (w.heap.size + 1 + 1) x0 x1 x2 x3).heap[w.heap.size]? = _ := (Tryz.four_off x0 x1 x2 x3 (by omega)).trans q0
  have r1 : (Tryz.four w2 (w.heap.size + 1 + 1) x0 x1 x2 x3).heap[w.heap.size + 1]? = _ := (Tryz.four_off x0 x1 x2 x3 (by omega)).trans q1
  have r2 := Tryz.four_at x0 x1 x2 x3 q2
  have r3 : (Tryz.four w2 (w.heap.size + 1 + 1) x0 x1 x2 x3).heap[w.heap.size + 1 + 1 + 1]? = _ := (Tryz.four_off x0 x1 x2 x3 (by omega)).trans q3
  have hw2' : Tryz.Ext w w2 := (kE.trans (Tryz.drew_ext W)).trans hall
  have hE3 : Tryz.Ext w (Tryz.four w2 (w.heap.size + 1 + 1) x0 x1 x2 x3) := Tryz.four_ext x0 x1 x2 x3 (by omega) hw2'.size hw2'.old hw2'.out
  revert hK
  generalize Tryz.four w2 (w.heap.size + 1 + 1) x0 x1 x2 x3 = w3 at r0 r1 r2 r3 hE3 ⊢
  intro hK
  refine hK _ _ ⟨⟨w3, HPW.out _ ⟨r0, r1⟩⟩, rfl⟩ ?_
  clear hK K g0 g1 g2 g3 e0 e1 e2 e3
  have g0 := Tryz.bcell (j := 0) r3 rfl; have g1 := Tryz.bcell (j := 1) r3 rfl; have g2 := Tryz.bcell (j := 2) r3 rfl; have g3 := Tryz.bcell (j := 3) r3 rfl
  have e0 := Tryz.bfrozen (j := 0) r3; have e1 := Tryz.bfrozen (j := 1) r3; have e2 := Tryz.bfrozen (j := 2) r3; have e3 := Tryz.bfrozen (j := 3) r3
  refine Tryz.mix_step (by kernel_rfl) (fun K hK => ?_)
  go_simp
  change K _ (Tryz.four w3 (w.heap.size + 1 + 1 + 1) y0 y1 y2 y3)
  have s0 : (Tryz.four w3 (w.heap.size + 1 + 1 + 1) y0 y1 y2 y3).heap[w.heap.size]? = _ := (Tryz.four_off y0 y1 y2 y3 (by omega)).trans r0
  have s1 : (Tryz.four w3 (w.heap.size + 1 + 1 + 1) y0 y1 y2 y3).heap[w.heap.size + 1]? = _ := (Tryz.four_off y0 y1 y2 y3 (by omega)).trans r1
  have s2 : (Tryz.four w3 (w.heap.size + 1 + 1 + 1) y0 y1 y2 y3).heap[w.heap.size + 1 + 1]? = _ := (Tryz.four_off y0 y1 y2 y3 (by omega)).trans r2
  have s3 := Tryz.four_at y0 y1 y2 y3 r3
  have hE4 : Tryz.Ext w (Tryz.four w3 (w.heap.size + 1 + 1 + 1) y0 y1 y2 y3) := Tryz.four_ext y0 y1 y2 y3 (by omega) hE3.size hE3.old hE3.out
  revert hK
  generalize Tryz.four w3 (w.heap.size + 1 + 1 + 1) y0 y1 y2 y3 = w4 at s0 s1 s2 s3 hE4 ⊢
  intro hK
  refine hK _ _ ⟨⟨w4, HPW.out _ ⟨s0, s1⟩⟩, rfl⟩ ?_
  clear hK K g0 g1 g2 g3 e0 e1 e2 e3
  refine Tryz.mix_step (by kernel_rfl) (fun K hK => ?_)
  go_simp
  refine hK _ _ ⟨⟨w4, HPW.out _ ⟨s0, s1⟩⟩, rfl⟩ ?_
  refine Tryz.mix_nil ?_
  clear hK K c0 c1 d0 d1 this q0 q1 q2 q3 r0 r1 r2 r3 k0 k1 k2 k3
  have HS2 := Lib.hid s2
  have HS3 := Lib.hid s3
  have HE := Lib.hid hE4
  clear hx hy hall hE3 hE4 s0 s1 s2 s3 kE hw2'
  go_wp2
  refine bodyPost_ret (v := .tuple #[.agg (Tryz.u64c (Tryz.shiftF 0 [N.natAbs, 0, 0, 0])), .agg (Tryz.u64c (Tryz.shiftF (S - R) [M.natAbs, 0, 0, 0])), .int .i64 S]) ?_ rfl ⟨rfl, HE.out⟩
  rw [HX.out, HY.out]
  exact Tryz.results_cct (p := 4) (q := 5) (u := 6) rfl _ _ _ _ _ _ rfl rfl (run_loadVar_row _ _ _ _ _ _ _ HS2.out Tryz.underlying185 rfl (by kernel_rfl)) (run_loadVar_row _ _ _ _ _ _ _ HS3.out Tryz.underlying185 rfl (by kernel_rfl))
/-- Both. -/
theorem Tryz.aligned120 (N M : Int) (S R : Nat) (hN : -4000000000000000000 ≤ N) (hN2 : N ≤ 4000000000000000000) (hM : -4000000000000000000 ≤ M) (hM2 : M ≤ 4000000000000000000) (hS : S ≤ 15) (hR : R ≤ 15) (w : World) :
    Calls Tryz.prog 120 #[.agg #[.int .i64 N, .int .i64 S], .agg #[.int .i64 M, .int .i64 R]] w fun e w' =>
      e = .returned (.tuple #[.agg (Tryz.u64c (Tryz.shiftF (max S R - S) [N.natAbs, 0, 0, 0])), .agg (Tryz.u64c (Tryz.shiftF (max S R - R) [M.natAbs, 0, 0, 0])), .int .i64 (max S R : Nat)]) ∧ Tryz.Ext w w' := by
  rcases Nat.lt_or_ge S R with h | h
  · rw [Nat.max_eq_right (Nat.le_of_lt h), Nat.sub_self]; exact Tryz.aligned120a N M S R hN hN2 hM hM2 hR h w
  · rw [Nat.max_eq_left h, Nat.sub_self]; exact Tryz.aligned120b N M S R hN hN2 hM hM2 hS h w
end Go.Proofs
