/- Part 17 of the proof. -/
import Derived.WalkKit
import Derived.KernelRfl
import Derived.Lib.Hide
import Derived.IntWalk
import Derived.Test.YtnmkgbomiillgaaGreatDoorProg
import Derived.Laws.OwnMore
import Derived.Test.YtnmkgbomiillgaaGreatDoorP11
/- strings.TrimRight at " ": the walk. -/
namespace Go.Proofs
open Go.RowKit

/-- Without the blanks at its end. -/
def Tryz.trimL (l : List UInt8) : List UInt8 := (l.reverse.dropWhile fun c => c == 32).reverse
theorem Tryz.trimL_nil : Tryz.trimL [] = [] := rfl
theorem Tryz.trimL_snoc (l : List UInt8) (x : UInt8) : Tryz.trimL (l ++ [x]) = if x = 32 then Tryz.trimL l else l ++ [x] := by
  unfold Tryz.trimL
  by_cases h : x = 32 <;> simp [h]
theorem Tryz.trimL_len (l : List UInt8) : (Tryz.trimL l).length ≤ l.length := by
  unfold Tryz.trimL
  have := (List.dropWhile_suffix (l := l.reverse) fun c : UInt8 => c == 32).length_le
  simpa using this
theorem Tryz.ext_last (b : ByteArray) (hz : 0 < b.size) : b.data.toList = (b.extract 0 (b.size - 1)).data.toList ++ [b[b.size - 1]] := by
  apply List.ext_getElem?
  intro i
  have h0 : (b.extract 0 (b.size - 1)).data.toList = b.data.toList.take (b.size - 1) := by
    simp [ByteArray.data_extract, List.dropLast_eq_take]
  have hl : b.data.toList.length = b.size := by simp
  rw [h0, List.getElem?_append]
  simp only [List.length_take, hl]
  split
  · rw [List.getElem?_take, if_pos (by omega)]
  · by_cases e : i = b.size - 1
    · subst e
      have hlt : b.size - 1 < b.data.size := by show b.size - 1 < b.size; omega
      simp only [Array.getElem?_toList, Nat.min_def]
      rw [if_pos (by omega), Nat.sub_self]
      exact Array.getElem?_eq_getElem hlt
    · rw [List.getElem?_eq_none (by omega), List.getElem?_eq_none (by simp; omega)]
theorem Tryz.ext_size (b : ByteArray) : (b.extract 0 (b.size - 1)).size = b.size - 1 := by simp
theorem Tryz.mk_data (b : ByteArray) : (⟨b.data.toList.toArray⟩ : ByteArray) = b := by cases b; simp

set_option maxRecDepth 100000 in
set_option maxHeartbeats 1000000 in
theorem Tryz.trimByte (s : ByteArray) (w : World) (hs : s.size ≤ 1000) :
    Calls Tryz.prog 112 #[.string s, .int .u8 32] w fun e w' => e = .returned (.string ⟨(Tryz.trimL s.data.toList).toArray⟩) ∧ w' = w := by
  go_enter Tryz.func112, Tryz.ntmps112
  go_wp2
  go_loop [0] (fun t => ∃ b : ByteArray, t = .string b ∧ Tryz.trimL b.data.toList = Tryz.trimL s.data.toList ∧ b.size ≤ 1000) (fun t => match t with | .string b => b.size | _ => 0)
  case atStart => exact ⟨s, rfl, rfl, hs⟩
  case round =>
    obtain ⟨b, rfl, hb, hbs⟩ := hrel
    have HB := Lib.hid hb; clear hb
    by_cases hz : 0 < b.size
    · have he := Tryz.ext_last b hz
      have HE := Lib.hid he; clear he
      go_wp2
      · rename_i h32
        have e32 : b[b.size - 1] = 32 := by
          have h33 : ((b[b.size - 1].toNat : Nat) : Int) = 32 := eq_of_beq h32
          exact UInt8.toNat_inj.1 (by show b[b.size - 1].toNat = 32; omega)
        refine ⟨⟨b.extract 0 (b.size - 1), rfl, ?_, ?_⟩, ?_⟩
        · have := HB.out
          rw [HE.out, Tryz.trimL_snoc, if_pos e32] at this
          exact this
        · rw [Tryz.ext_size]; omega
        · show (b.extract 0 (b.size - 1)).size < b.size
          rw [Tryz.ext_size]; omega
      · rename_i h32
        have e32 : b[b.size - 1] ≠ 32 := fun e => by rw [e] at h32; cases h32
        have hr : (⟨(Tryz.trimL s.data.toList).toArray⟩ : ByteArray) = b := by rw [← HB.out, HE.out, Tryz.trimL_snoc, if_neg e32, ← HE.out, Tryz.mk_data]
        rw [hr]
        go_ret
        exact ⟨rfl, rfl⟩
    · have hb0 : b.data.toList = [] := by
        have : b.data.toList.length = 0 := by rw [Array.length_toList]; show b.size = 0; omega
        exact List.length_eq_zero_iff.1 this
      have hr : (⟨(Tryz.trimL s.data.toList).toArray⟩ : ByteArray) = b := by
        rw [← HB.out, hb0, Tryz.trimL_nil, ← hb0, Tryz.mk_data]
      have HR := Lib.hid hr
      clear hb0 hr
      go_wp2
      rw [HR.out]
      go_ret
      exact ⟨rfl, rfl⟩
set_option maxRecDepth 100000 in
set_option maxHeartbeats 1000000 in
theorem Tryz.trimRight (s : ByteArray) (w : World) (hs : s.size ≤ 1000) :
    Calls Tryz.prog 56 #[.string s, .string ⟨#[32]⟩] w fun e w' => e = .returned (.string ⟨(Tryz.trimL s.data.toList).toArray⟩) ∧ w' = w := by
  by_cases h0 : s = ⟨#[]⟩
  · subst h0
    go_enter Tryz.func56, Tryz.ntmps56
    go_wp2
    go_ret
    exact ⟨rfl, rfl⟩
  · go_enter Tryz.func56, Tryz.ntmps56
    go_wp2_with (go_at_call 112; refine (Tryz.trimByte s _ hs).mono ?_; rintro e w' ⟨rfl, rfl⟩)
    all_goals first
      | (go_ret; exact ⟨rfl, rfl⟩)
      | (exfalso; rename_i h1; apply h0; have h2 : s.data.toList = [] := by rw [← ByteArray.toList_eq]; exact h1
         cases s with | mk d => have : d = #[] := by simpa using h2
                                rw [this])
      | (exfalso; simp_all)
end Go.Proofs
/- sql.likes: the walk. -/
namespace Go.Proofs
open Go.RowKit

/-! ### What it computes -/
def Tryz.stepAt (c : UInt8) (s : List UInt8) (can nxt : List Bool) (i : Nat) : Bool :=
  if c = 37 then can[i]?.getD false || (decide (0 < i) && nxt[i - 1]?.getD false)
  else decide (0 < i) && (can[i - 1]?.getD false && (c == 95 || c == s[i - 1]?.getD 0))
def Tryz.rowF (c : UInt8) (s : List UInt8) (can : List Bool) : Nat → List Bool
  | 0 => []
  | i + 1 => Tryz.rowF c s can i ++ [Tryz.stepAt c s can (Tryz.rowF c s can i) i]
def Tryz.rowsF (s : List UInt8) (p : List UInt8) : List Bool := p.foldl (fun can c => Tryz.rowF c s can (s.length + 1)) (true :: List.replicate s.length false)
def Tryz.likesF (p s : List UInt8) : Bool := (Tryz.rowsF s p)[s.length]?.getD false
theorem Tryz.rowF_len (c : UInt8) (s : List UInt8) (can : List Bool) : ∀ n, (Tryz.rowF c s can n).length = n
  | 0 => rfl
  | n + 1 => by simp [Tryz.rowF, Tryz.rowF_len c s can n]
theorem Tryz.rowsF_len (s p : List UInt8) : (Tryz.rowsF s p).length = s.length + 1 := by
  have : ∀ (p : List UInt8) (can : List Bool), can.length = s.length + 1 → (p.foldl (fun can c => Tryz.rowF c s can (s.length + 1)) can).length = s.length + 1 := by
    intro p
    induction p with
    | nil => intro can h; exact h
    | cons c p ih => intro can _; exact ih _ (Tryz.rowF_len _ _ _ _)
  exact this p _ (by simp)
theorem Tryz.rowsF_snoc (s p : List UInt8) (c : UInt8) : Tryz.rowsF s (p ++ [c]) = Tryz.rowF c s (Tryz.rowsF s p) (s.length + 1) := by simp [Tryz.rowsF]

/-! ### Memory -/
structure Tryz.Ext (w w' : World) : Prop where
  size : w.heap.size ≤ w'.heap.size
  old : ∀ k, k < w.heap.size → w'.heap[k]? = w.heap[k]?
  out : Go.XR.SameOut w' w
theorem Tryz.Ext.refl (w : World) : Tryz.Ext w w := ⟨Nat.le_refl _, fun _ _ => rfl, .refl _⟩
theorem Tryz.Ext.trans {a b c : World} (h : Tryz.Ext a b) (k : Tryz.Ext b c) : Tryz.Ext a c := ⟨Nat.le_trans h.1 k.1, fun x hx => (k.2 x (Nat.lt_of_lt_of_le hx h.1)).trans (h.2 x hx), k.3.trans h.3⟩
theorem Tryz.bcell {W : World} {q j : Nat} {c : Array Value} {t : TypeId} {f : Nat × Nat} {v : Value} (h : W.heap[q]? = some (.cells c t f)) (hv : c[j]? = some v) : W.cell? ⟨q, j, none⟩ = some v := by simp [World.cell?, h, hv]
theorem Tryz.bfrozen {W : World} {q j : Nat} {c : Array Value} {t : TypeId} (h : W.heap[q]? = some (.cells c t)) : W.frozen? ⟨q, j, none⟩ = false := by simp [World.frozen?, h]
theorem Tryz.bset {W : World} {q j : Nat} {c : Array Value} {t : TypeId} {v : Value} (h : W.heap[q]? = some (.cells c t)) : (W.setCell ⟨q, j, none⟩ v).heap[q]? = some (.cells (c.setIfInBounds j v) t) := by
  simp [World.setCell, Array.getElem?_modify, h]
theorem Tryz.bother {W : World} {q j k : Nat} {v : Value} (h : k ≠ q) : (W.setCell ⟨q, j, none⟩ v).heap[k]? = W.heap[k]? := Below.heap_setCell _ _ _ _ h
theorem Tryz.bsize {W : World} {q j : Nat} {v : Value} : (W.setCell ⟨q, j, none⟩ v).heap.size = W.heap.size := by simp [World.setCell]
theorem Tryz.mk74 (N : Nat) (W : World) (h : N ≤ 2000) : (Instr.makeSlice 74 (.int .i64 (N : Int)) (.int .i64 (N : Int))).run Tryz.prog W = .ok (.slice (some ⟨W.heap.size, 0, none⟩) N N) (W.alloc (.cells (Array.replicate N (.bool false)) 4)) := by
  have hi : (Tryz.prog.info? 4).map (fun i => (i.size, i.bytes, i.zero)) = some (1, 1, some (.bool false)) := by kernel_rfl
  cases hx : Tryz.prog.info? 4 with
  | none => rw [hx] at hi; cases hi
  | some i =>
    rw [hx] at hi
    simp only [Option.map_some, Option.some.injEq, Prod.mk.injEq] at hi
    obtain ⟨e1, e2, e3⟩ := hi
    have := run_make (P := Tryz.prog) W 74 4 i (.bool false) Tryz.underlying74 hx e3 .i64 .i64 N N (by omega) (Int.le_refl _) (by rw [e2]; omega) (by omega)
    rw [this, e1, Int.toNat_natCast, Nat.mul_one]
    have hm : madeCells (Value.bool false).cells N = Array.replicate N (.bool false) := by
      apply Array.ext'
      rw [show (Value.bool false).cells = #[.bool false] from rfl, toList_madeCells_one]; simp
    rw [hm]
theorem Tryz.conv121 (p : ByteArray) (W : World) : ∃ W' c cap, (convert 9 121 (.string p)).run Tryz.prog W = .ok (.slice (some ⟨W.heap.size, 0, none⟩) p.size cap) W' ∧ p.size ≤ cap ∧ W'.heap = W.heap.push (.cells c 5 (cap, cap + 1)) ∧ Go.XR.SameOut W' W ∧ ∀ (i : Nat) (q : UInt8), p.data.toList[i]? = some q → c[i]? = some (Value.int .u8 q.toNat) := by
  obtain ⟨w', c, cap, k1, k2, k3, k4, k6, k5⟩ := Go.XR.run_s2b (P := Tryz.prog) W 5 p
  refine ⟨w', c, cap, ?_, k2, k4, k6, k5⟩
  simp only [Sem.run_bind, convert, run_underlying Tryz.underlying9, run_underlying Tryz.underlying121, run_underlying Tryz.underlying5, Result.andThen_ok, k1]
theorem Tryz.bnew (w : World) (o : Obj) : (w.alloc o).heap[w.heap.size]? = some o := by show (w.heap.push o)[w.heap.size]? = _; simp
def Tryz.bools (l : List Bool) : Array Value := (l.map Value.bool).toArray
theorem Tryz.bools_get (l : List Bool) (i : Nat) (h : i < l.length) : (Tryz.bools l)[i]? = some (.bool l[i]) := by simp [Tryz.bools, h]
theorem Tryz.beq_u8 (a b : UInt8) : ((a.toNat : Int) == (b.toNat : Int)) = (a == b) := by
  rw [Bool.eq_iff_iff]
  simp only [beq_iff_eq]
  exact ⟨fun h => UInt8.toNat_inj.1 (by omega), fun h => by rw [h]⟩
theorem Tryz.like_next {row : List Bool} {v : Bool} {j n : Nat} (hl : row.length = j) (hj : j < n) : (row ++ List.replicate (n - j) false).set j v = (row ++ [v]) ++ List.replicate (n - (j + 1)) false := by
  obtain ⟨m, hm⟩ : ∃ m, n - j = m + 1 := ⟨n - j - 1, by omega⟩
  rw [hm, List.replicate_succ, List.set_append_right _ _ (by omega), hl, Nat.sub_self, show n - (j + 1) = m by omega]
  simp
theorem Tryz.like_store {wi wo : World} {q j n : Nat} {c : UInt8} {T : List UInt8} {can : List Bool} {v : Bool} (hj : j < n)
    (hrow : wi.heap[q]? = some (.cells (Tryz.bools (Tryz.rowF c T can j ++ List.replicate (n - j) false)) 4)) (hkp : ∀ k, k < q → wi.heap[k]? = wo.heap[k]?) (hsi : wi.heap.size = q + 1 ∧ Go.XR.SameOut wi wo) (hv : v = Tryz.stepAt c T can (Tryz.rowF c T can j) j) :
    (∃ j1 : Nat, j1 ≤ n ∧ Value.int .i64 ((j : Int) + 1) = Value.int .i64 j1 ∧ (wi.setCell ⟨q, j, none⟩ (.bool v)).heap[q]? = some (.cells (Tryz.bools (Tryz.rowF c T can j1 ++ List.replicate (n - j1) false)) 4) ∧
      (∀ k, k < q → (wi.setCell ⟨q, j, none⟩ (.bool v)).heap[k]? = wo.heap[k]?) ∧ (wi.setCell ⟨q, j, none⟩ (.bool v)).heap.size = q + 1 ∧ Go.XR.SameOut (wi.setCell ⟨q, j, none⟩ (.bool v)) wo) ∧ n - (intOf (Value.int .i64 ((j : Int) + 1))).toNat < n - (intOf (Value.int .i64 (j : Int))).toNat := by
  refine ⟨⟨j + 1, by omega, by simp, ?_, fun k hk => by rw [Tryz.bother (by omega)]; exact hkp k hk, by rw [Tryz.bsize]; exact hsi.1, hsi.2⟩, by simp [intOf]; omega⟩
  rw [Tryz.bset hrow]
  congr 2
  have h1 := Tryz.like_next (v := v) (Tryz.rowF_len c T can j) hj
  simp only [Tryz.rowF]
  rw [← hv, ← h1]
  simp [Tryz.bools, List.map_set]
theorem Tryz.like_stay {wi wo : World} {q j n : Nat} {c : UInt8} {T : List UInt8} {can : List Bool} (hj : j < n)
    (hrow : wi.heap[q]? = some (.cells (Tryz.bools (Tryz.rowF c T can j ++ List.replicate (n - j) false)) 4)) (hkp : ∀ k, k < q → wi.heap[k]? = wo.heap[k]?) (hsi : wi.heap.size = q + 1 ∧ Go.XR.SameOut wi wo) (hv : false = Tryz.stepAt c T can (Tryz.rowF c T can j) j) :
    (∃ j1 : Nat, j1 ≤ n ∧ Value.int .i64 ((j : Int) + 1) = Value.int .i64 j1 ∧ wi.heap[q]? = some (.cells (Tryz.bools (Tryz.rowF c T can j1 ++ List.replicate (n - j1) false)) 4) ∧
      (∀ k, k < q → wi.heap[k]? = wo.heap[k]?) ∧ wi.heap.size = q + 1 ∧ Go.XR.SameOut wi wo) ∧ n - (intOf (Value.int .i64 ((j : Int) + 1))).toNat < n - (intOf (Value.int .i64 (j : Int))).toNat := by
  refine ⟨⟨j + 1, by omega, by simp, ?_, hkp, hsi⟩, by simp [intOf]; omega⟩
  rw [hrow]
  congr 2
  have h1 := Tryz.like_next (v := false) (Tryz.rowF_len c T can j) hj
  simp only [Tryz.rowF]
  rw [← hv, ← h1]
  congr 1
  apply List.ext_getElem?
  intro i
  rw [List.getElem?_set]
  split
  · rename_i e
    subst e
    rw [List.getElem?_append_right (by rw [Tryz.rowF_len]; exact Nat.le_refl _), Tryz.rowF_len, Nat.sub_self, List.getElem?_replicate, if_pos (by omega)]
    rw [if_pos (by simp [Tryz.rowF_len]; omega)]
  · rfl
set_option maxRecDepth 100000 in
set_option maxHeartbeats 1000000 in
theorem Tryz.likes_in (p s : ByteArray) (w : World) (hp : p.size ≤ 1000) (hs : s.size ≤ 1000) :
    Calls Tryz.prog 24 #[.string p, .string s] w fun e w' => e = .returned (.bool (Tryz.likesF p.data.toList (Tryz.trimL s.data.toList))) ∧ Tryz.Ext w w' := by
  obtain ⟨t, ht⟩ : ∃ t : ByteArray, t = ⟨(Tryz.trimL s.data.toList).toArray⟩ := ⟨_, rfl⟩
  have hT : Tryz.trimL s.data.toList = t.data.toList := by rw [ht]
  have htn : t.size ≤ 1000 := by
    have h1 := Tryz.trimL_len s.data.toList
    have h2 : (Tryz.trimL s.data.toList).length = t.size := by rw [hT]; rfl
    have h3 : s.data.toList.length = s.size := rfl
    omega
  rw [hT]
  have tr : ∀ w, Calls Tryz.prog 56 #[.string s, .string ⟨#[32]⟩] w fun e w' => e = .returned (.string t) ∧ w' = w := fun w => by rw [ht]; exact Tryz.trimRight s w hs
  have TR := Lib.hid tr
  clear ht hT tr hs
  have htn' : (t.size : Int) ≤ 1000 := by omega
  go_enter Tryz.func24, Tryz.ntmps24
  go_wp2_with (go_at_call 56; refine (TR.out _).mono ?_; rintro e w' ⟨rfl, rfl⟩)
  rw [show ((t.size : Int) + 1) = ((t.size + 1 : Nat) : Int) by omega, Tryz.mk74 _ _ (by omega)]
  go_wp2
  obtain ⟨W2, cB, capB, hconv, hcap, hW2, hSO, hB⟩ := Tryz.conv121 p (w'.alloc (Obj.cells ((Array.replicate (t.size + 1) (Value.bool false)).setIfInBounds 0 (Value.bool true)) 4))
  rw [hconv]
  have z2 : W2.heap.size = w'.heap.size + 1 + 1 := by rw [hW2]; simp
  have o2 : ∀ k, k < w'.heap.size → W2.heap[k]? = w'.heap[k]? := fun k hk => by
    rw [hW2, Array.getElem?_push, if_neg (by simp; omega)]
    exact Below.heap_alloc _ _ _ hk
  have c2 : W2.heap[w'.heap.size]? = some (.cells (Tryz.bools (Tryz.rowsF t.data.toList [])) 4) := by
    rw [hW2, Array.getElem?_push, if_neg (by simp)]
    have := Tryz.bnew w' (Obj.cells ((Array.replicate (t.size + 1) (Value.bool false)).setIfInBounds 0 (Value.bool true)) 4)
    rw [this]
    congr 2
    apply Array.ext'
    simp [Tryz.bools, Tryz.rowsF, List.replicate_succ]
  have b2 : W2.heap[w'.heap.size + 1]? = some (.cells cB 5 (capB, capB + 1)) := by
    rw [hW2, Array.getElem?_push, if_pos (by simp)]
  have C2 := Lib.hid c2
  have B2 := Lib.hid b2
  have O2 := Lib.hid o2
  have HB := Lib.hid hB
  have hSO' : Go.XR.SameOut W2 w' := hSO
  have SO := Lib.hid hSO'
  clear hW2 c2 b2 o2 hB hconv hSO hSO'
  go_wp2
  go_loopw [5, 21] (fun can i wr => ∃ (k cb : Nat), k ≤ p.size ∧ i = .int .i64 k ∧ can = .slice (some ⟨cb, 0, none⟩) (t.size + 1) (t.size + 1) ∧ w'.heap.size ≤ cb ∧ cb ≠ w'.heap.size + 1 ∧
      wr.heap[cb]? = some (.cells (Tryz.bools (Tryz.rowsF t.data.toList (p.data.toList.take k))) 4) ∧ wr.heap[w'.heap.size + 1]? = some (.cells cB 5 (capB, capB + 1)) ∧ Tryz.Ext w' wr) (fun _ i _ => p.size - (intOf i).toNat)
  case atStart =>
    refine ⟨0, _, Nat.zero_le _, rfl, rfl, Nat.le_refl _, by omega, ?_, B2.out, by omega, O2.out, SO.out⟩
    rw [List.take_zero]; exact C2.out
  case round =>
    revert wr
    intro wo hrel
    obtain ⟨k, cb, hk, rfl, rfl, hcb, hcb2, hcan, hby, hext⟩ := hrel
    have hcl := Tryz.rowsF_len t.data.toList (p.data.toList.take k)
    by_cases hlt : k < p.size
    · have hbc : wo.cell? ⟨w'.heap.size + 1, k, none⟩ = some (.int .u8 p[k].toNat) := Tryz.bcell hby (HB.out k p[k] (by simp [hlt]; rfl))
      have HC := Lib.hid hcan
      have HY := Lib.hid hby
      have HE := Lib.hid hext
      have HL := Lib.hid hcl
      clear hcan hby hext hcl
      go_wp2
      rw [show ((t.size : Int) + 1) = ((t.size + 1 : Nat) : Int) by omega, Tryz.mk74 _ _ (by omega)]
      go_wp2
      have zr : wo.heap.size < (wo.alloc (Obj.cells (Array.replicate (t.size + 1) (Value.bool false)) 4)).heap.size := by simp
      have hnew : (wo.alloc (Obj.cells (Array.replicate (t.size + 1) (Value.bool false)) 4)).heap[wo.heap.size]? = some (.cells (Tryz.bools (List.replicate (t.size + 1) false)) 4) := by
        rw [Tryz.bnew]
        congr 2
        apply Array.ext'
        simp [Tryz.bools]
      have hkeep : ∀ q, q < wo.heap.size → (wo.alloc (Obj.cells (Array.replicate (t.size + 1) (Value.bool false)) 4)).heap[q]? = wo.heap[q]? := fun q hq => Below.heap_alloc _ _ _ hq
      have hsz : (wo.alloc (Obj.cells (Array.replicate (t.size + 1) (Value.bool false)) 4)).heap.size = wo.heap.size + 1 ∧ Go.XR.SameOut (wo.alloc (Obj.cells (Array.replicate (t.size + 1) (Value.bool false)) 4)) wo := ⟨by simp, rfl, rfl⟩
      have HN := Lib.hid hnew
      have HK := Lib.hid hkeep
      have HS := Lib.hid hsz
      clear hnew hkeep hsz
      go_loopw [31] (fun i wi => ∃ j : Nat, j ≤ t.size + 1 ∧ i = .int .i64 j ∧ wi.heap[wo.heap.size]? = some (.cells (Tryz.bools (Tryz.rowF p[k] t.data.toList (Tryz.rowsF t.data.toList (p.data.toList.take k)) j ++ List.replicate (t.size + 1 - j) false)) 4) ∧ (∀ q, q < wo.heap.size → wi.heap[q]? = wo.heap[q]?) ∧ wi.heap.size = wo.heap.size + 1 ∧ Go.XR.SameOut wi wo) (fun i _ => t.size + 1 - (intOf i).toNat)
      case atStart => exact ⟨0, Nat.zero_le _, rfl, HN.out, HK.out, HS.out⟩
      case round =>
        revert wr
        intro wi hrel
        obtain ⟨j, hj, rfl, hrow, hkp, hsi⟩ := hrel
        have hrl := Tryz.rowF_len p[k] t.data.toList (Tryz.rowsF t.data.toList (p.data.toList.take k)) j
        by_cases hjt : j < t.size + 1
        · have hcb3 : cb < wo.heap.size := (Array.getElem?_eq_some_iff.1 HC.out).1
          have hcan := (hkp cb hcb3).trans HC.out
          have hjr : j < (Tryz.rowsF t.data.toList (p.data.toList.take k)).length := by rw [HL.out]; exact hjt
          have f2 : wi.cell? ⟨wo.heap.size, j, none⟩ = some (.bool false) := Tryz.bcell hrow (by
            simp only [Tryz.bools, List.getElem?_toArray, List.getElem?_map]
            rw [List.getElem?_append_right (by omega), hrl, Nat.sub_self, List.getElem?_replicate, if_pos (by omega)]
            rfl)
          have f3 := Tryz.bfrozen (j := j) hrow
          have hval : ∀ (i : Nat) (y : Bool), i < j → (Tryz.rowF p[k] t.data.toList (Tryz.rowsF t.data.toList (p.data.toList.take k)) j)[i]? = some y → wi.cell? ⟨wo.heap.size, i, none⟩ = some (.bool y) := fun i y hi hy => Tryz.bcell hrow (by
            simp only [Tryz.bools, List.getElem?_toArray, List.getElem?_map]
            rw [List.getElem?_append_left (by omega), hy]
            rfl)
          have hcv : ∀ (i : Nat) (y : Bool), (Tryz.rowsF t.data.toList (p.data.toList.take k))[i]? = some y → wi.cell? ⟨cb, i, none⟩ = some (.bool y) := fun i y hy => Tryz.bcell hcan (by simp [Tryz.bools, hy])
          have HR := Lib.hid hrow
          have HKP := Lib.hid hkp
          have HSI := Lib.hid hsi
          have HRL := Lib.hid hrl
          have HV := Lib.hid hval
          have HCV := Lib.hid hcv
          clear hrow hkp hsi hrl hcan hval hcv
          by_cases h37 : p[k] = 37
          · have h37' : ((p[k].toNat : Int) == 37) = true := by rw [h37]; rfl
            obtain ⟨x, hx⟩ : ∃ x, (Tryz.rowsF t.data.toList (p.data.toList.take k))[j]? = some x := ⟨_, List.getElem?_eq_getElem hjr⟩
            have f1 := HCV.out j x hx
            have hst : Tryz.stepAt p[k] t.data.toList (Tryz.rowsF t.data.toList (p.data.toList.take k)) (Tryz.rowF p[k] t.data.toList (Tryz.rowsF t.data.toList (p.data.toList.take k)) j) j = (x || (decide (0 < j) && (Tryz.rowF p[k] t.data.toList (Tryz.rowsF t.data.toList (p.data.toList.take k)) j)[j - 1]?.getD false)) := by
              simp only [Tryz.stepAt, if_pos h37, hx, Option.getD_some]
            have HST := Lib.hid hst
            clear hst hx h37
            cases x with
            | true =>
              go_wp2
              exact Tryz.like_store hjt HR.out HKP.out HSI.out (by rw [HST.out]; rfl)
            | false =>
              cases j with
              | zero =>
                go_wp2
                exact Tryz.like_store (j := 0) hjt HR.out HKP.out HSI.out (by rw [HST.out]; rfl)
              | succ j =>
                obtain ⟨y, hy⟩ : ∃ y, (Tryz.rowF p[k] t.data.toList (Tryz.rowsF t.data.toList (p.data.toList.take k)) (j + 1))[j]? = some y := by
                  have hrl1 := Tryz.rowF_len p[k] t.data.toList (Tryz.rowsF t.data.toList (p.data.toList.take k)) (j + 1)
                  exact ⟨_, List.getElem?_eq_getElem (by omega)⟩
                have f4 := HV.out j y (by omega) hy
                have HYY := Lib.hid hy
                clear hy
                go_wp2
                exact Tryz.like_store (j := j + 1) hjt HR.out HKP.out HSI.out (by rw [HST.out]; simp [HYY.out])
          · have h37' : ((p[k].toNat : Int) == 37) = false := by
              rw [beq_eq_false_iff_ne]
              intro e
              exact h37 (UInt8.toNat_inj.1 (by show p[k].toNat = 37; omega))
            cases j with
            | zero =>
              have hst : false = Tryz.stepAt p[k] t.data.toList (Tryz.rowsF t.data.toList (p.data.toList.take k)) (Tryz.rowF p[k] t.data.toList (Tryz.rowsF t.data.toList (p.data.toList.take k)) 0) 0 := by
                simp [Tryz.stepAt, h37]
              have HST := Lib.hid hst
              clear hst h37
              go_wp2
              exact Tryz.like_stay (j := 0) hjt HR.out HKP.out HSI.out HST.out
            | succ j =>
              obtain ⟨x, hx⟩ : ∃ x, (Tryz.rowsF t.data.toList (p.data.toList.take k))[j]? = some x := ⟨_, List.getElem?_eq_getElem (by rw [HL.out]; show j < t.size + 1; omega)⟩
              have f1 := HCV.out j x hx
              have hjs : j < t.size := by omega
              have hst : Tryz.stepAt p[k] t.data.toList (Tryz.rowsF t.data.toList (p.data.toList.take k)) (Tryz.rowF p[k] t.data.toList (Tryz.rowsF t.data.toList (p.data.toList.take k)) (j + 1)) (j + 1) = (x && (p[k] == 95 || p[k] == t[j])) := by
                have : t.data.toList[j]?.getD 0 = t[j] := by
                  have h1 : t.data.toList[j]? = some t[j] := by
                    rw [Array.getElem?_toList]
                    exact Array.getElem?_eq_getElem hjs
                  rw [h1]; rfl
                simp only [Tryz.stepAt, if_neg h37, hx, Option.getD_some, Nat.add_sub_cancel, this, Nat.zero_lt_succ, decide_true, Bool.true_and]
              have HST := Lib.hid hst
              clear hst hx h37
              cases x with
              | false =>
                go_wp2
                exact Tryz.like_store (j := j + 1) hjt HR.out HKP.out HSI.out (by rw [HST.out]; rfl)
              | true =>
                by_cases h95 : p[k] = 95
                · have h95' : ((p[k].toNat : Int) == 95) = true := by rw [h95]; rfl
                  have H95 := Lib.hid h95
                  clear h95
                  go_wp2
                  exact Tryz.like_store (j := j + 1) hjt HR.out HKP.out HSI.out (by rw [HST.out, H95.out]; rfl)
                · have h95' : ((p[k].toNat : Int) == 95) = false := by
                    rw [beq_eq_false_iff_ne]
                    intro e
                    exact h95 (UInt8.toNat_inj.1 (by show p[k].toNat = 95; omega))
                  have h96 : (p[k] == 95) = false := by rw [beq_eq_false_iff_ne]; exact h95
                  have H95 := Lib.hid h96
                  clear h95 h96
                  go_wp2
                  exact Tryz.like_store (j := j + 1) hjt HR.out HKP.out HSI.out (by rw [HST.out, Tryz.beq_u8, H95.out]; rfl)
        · obtain rfl : j = t.size + 1 := by omega
          have h0 : t.size + 1 - (t.size + 1) = 0 := Nat.sub_self _
          rw [h0, List.replicate_zero, List.append_nil] at hrow
          have HR := Lib.hid hrow
          have HKP := Lib.hid hkp
          have HSI := Lib.hid hsi
          clear hrow hkp hsi hrl h0
          go_wp2
          have hsl : wo.heap.size < wi.heap.size := by rw [HSI.out.1]; exact Nat.lt_succ_self _
          have hext' := HE.out
          have hb1 := (Array.getElem?_eq_some_iff.1 HY.out).1
          refine ⟨⟨k + 1, wo.heap.size, by omega, by simp, rfl, hext'.1, by omega, ?_, (HKP.out _ hb1).trans HY.out, by have := hext'.1; omega, fun q hq => (HKP.out q (by have := hext'.1; omega)).trans (hext'.2 q hq), HSI.out.2.trans hext'.3⟩, by simp [intOf]; omega⟩
          have htk : p.data.toList.take (k + 1) = p.data.toList.take k ++ [p[k]] := by
            rw [List.take_succ_eq_append_getElem (by show k < p.size; exact hlt)]
            rfl
          rw [htk, Tryz.rowsF_snoc]
          exact HR.out
    · obtain rfl : k = p.size := by omega
      have hfull : p.data.toList.take p.size = p.data.toList := List.take_of_length_le (Nat.le_refl _)
      rw [hfull] at hcan
      obtain ⟨x, hx⟩ : ∃ x, (Tryz.rowsF t.data.toList p.data.toList)[t.size]? = some x := ⟨_, List.getElem?_eq_getElem (by rw [Tryz.rowsF_len]; show t.size < t.size + 1; omega)⟩
      have f1 : wo.cell? ⟨cb, t.size, none⟩ = some (.bool x) := Tryz.bcell hcan (by simp [Tryz.bools, hx])
      have HE := Lib.hid hext
      have HX := Lib.hid hx
      clear hcan hby hext hcl hx hfull
      go_wp2
      go_ret
      exact ⟨by rw [Tryz.likesF, show t.data.toList.length = t.size from rfl, HX.out]; rfl, HE.out⟩
end Go.Proofs
