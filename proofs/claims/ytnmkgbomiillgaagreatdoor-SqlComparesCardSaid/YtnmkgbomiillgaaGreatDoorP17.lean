/- Part 17 of the proof. -/
import Derived.WalkKit
import Derived.KernelRfl
import Derived.Lib.Hide
import Derived.IntWalk
import Derived.Test.YtnmkgbomiillgaaGreatDoorProg
import Derived.Deep.Quiet
import Derived.Deep.QuietTactic
import Derived.Lib.Mul64
import Derived.Laws.Bits64b
import Derived.Laws.OwnMore
import Derived.Test.YtnmkgbomiillgaaGreatDoorP11
import Derived.Laws.Rows
import Derived.Laws.Externs
/- strings.TrimRight at " ": the walk. -/
namespace Go.Proofs
open Go.RowKit

/-- Without the blanks at its end. -/
def Tryz.trimL (l : List UInt8) : List UInt8 := (l.reverse.dropWhile fun c => c == 32).reverse
theorem Tryz.trimL_nil : Tryz.trimL [] = [] := rfl
theorem Tryz.trimL_snoc (l : List UInt8) (x : UInt8) : Tryz.trimL (l ++ [x]) = if x = 32 then Tryz.trimL l else l ++ [x] := by
  unfold Tryz.trimL
  by_cases h : x = 32 <;> simp [h]
theorem Tryz.trimL_len (l : List UInt8) : (Tryz.trimL l).length ≤ l.length := by
  unfold Tryz.trimL
  have := (List.dropWhile_suffix (l := l.reverse) fun c : UInt8 => c == 32).length_le
  simpa using this
theorem Tryz.ext_last (b : ByteArray) (hz : 0 < b.size) : b.data.toList = (b.extract 0 (b.size - 1)).data.toList ++ [b[b.size - 1]] := by
  apply List.ext_getElem?
  intro i
  have h0 : (b.extract 0 (b.size - 1)).data.toList = b.data.toList.take (b.size - 1) := by
    simp [ByteArray.data_extract, List.dropLast_eq_take]
  have hl : b.data.toList.length = b.size := by simp
  rw [h0, List.getElem?_append]
  simp only [List.length_take, hl]
  split
  · rw [List.getElem?_take, if_pos (by omega)]
  · by_cases e : i = b.size - 1
    · subst e
      have hlt : b.size - 1 < b.data.size := by show b.size - 1 < b.size; omega
      simp only [Array.getElem?_toList, Nat.min_def]
      rw [if_pos (by omega), Nat.sub_self]
      exact Array.getElem?_eq_getElem hlt
    · rw [List.getElem?_eq_none (by omega), List.getElem?_eq_none (by simp; omega)]
theorem Tryz.ext_size (b : ByteArray) : (b.extract 0 (b.size - 1)).size = b.size - 1 := by simp
theorem Tryz.mk_data (b : ByteArray) : (⟨b.data.toList.toArray⟩ : ByteArray) = b := by cases b; simp

set_option maxRecDepth 100000 in
set_option maxHeartbeats 1000000 in
theorem Tryz.trimByte (s : ByteArray) (w : World) (hs : s.size ≤ 1000) :
    Calls Tryz.prog 112 #[.string s, .int .u8 32] w fun e w' => e = .returned (.string ⟨(Tryz.trimL s.data.toList).toArray⟩) ∧ w' = w := by
  go_enter Tryz.func112, Tryz.ntmps112
  go_wp2
  go_loop [0] (fun t => ∃ b : ByteArray, t = .string b ∧ Tryz.trimL b.data.toList = Tryz.trimL s.data.toList ∧ b.size ≤ 1000) (fun t => match t with | .string b => b.size | _ => 0)
  case atStart => exact ⟨s, rfl, rfl, hs⟩
  case round =>
    obtain ⟨b, rfl, hb, hbs⟩ := hrel
    have HB := Lib.hid hb; clear hb
    by_cases hz : 0 < b.size
    · have he := Tryz.ext_last b hz
      have HE := Lib.hid he; clear he
      go_wp2
      · rename_i h32
        have e32 : b[b.size - 1] = 32 := by
          have h33 : ((b[b.size - 1].toNat : Nat) : Int) = 32 := eq_of_beq h32
          exact UInt8.toNat_inj.1 (by show b[b.size - 1].toNat = 32; omega)
        refine ⟨⟨b.extract 0 (b.size - 1), rfl, ?_, ?_⟩, ?_⟩
        · have := HB.out
          rw [HE.out, Tryz.trimL_snoc, if_pos e32] at this
          exact this
        · rw [Tryz.ext_size]; omega
        · show (b.extract 0 (b.size - 1)).size < b.size
          rw [Tryz.ext_size]; omega
      · rename_i h32
        have e32 : b[b.size - 1] ≠ 32 := fun e => by rw [e] at h32; cases h32
        have hr : (⟨(Tryz.trimL s.data.toList).toArray⟩ : ByteArray) = b := by rw [← HB.out, HE.out, Tryz.trimL_snoc, if_neg e32, ← HE.out, Tryz.mk_data]
        rw [hr]
        go_ret
        exact ⟨rfl, rfl⟩
    · have hb0 : b.data.toList = [] := by
        have : b.data.toList.length = 0 := by rw [Array.length_toList]; show b.size = 0; omega
        exact List.length_eq_zero_iff.1 this
      have hr : (⟨(Tryz.trimL s.data.toList).toArray⟩ : ByteArray) = b := by
        rw [← HB.out, hb0, Tryz.trimL_nil, ← hb0, Tryz.mk_data]
      have HR := Lib.hid hr
      clear hb0 hr
      go_wp2
      rw [HR.out]
      go_ret
      exact ⟨rfl, rfl⟩
set_option maxRecDepth 100000 in
set_option maxHeartbeats 1000000 in
theorem Tryz.trimRight (s : ByteArray) (w : World) (hs : s.size ≤ 1000) :
    Calls Tryz.prog 56 #[.string s, .string ⟨#[32]⟩] w fun e w' => e = .returned (.string ⟨(Tryz.trimL s.data.toList).toArray⟩) ∧ w' = w := by
  by_cases h0 : s = ⟨#[]⟩
  · subst h0
    go_enter Tryz.func56, Tryz.ntmps56
    go_wp2
    go_ret
    exact ⟨rfl, rfl⟩
  · go_enter Tryz.func56, Tryz.ntmps56
    go_wp2_with (go_at_call 112; refine (Tryz.trimByte s _ hs).mono ?_; rintro e w' ⟨rfl, rfl⟩)
    all_goals first
      | (go_ret; exact ⟨rfl, rfl⟩)
      | (exfalso; rename_i h1; apply h0; have h2 : s.data.toList = [] := by rw [← ByteArray.toList_eq]; exact h1
         cases s with | mk d => have : d = #[] := by simpa using h2
                                rw [this])
      | (exfalso; simp_all)
end Go.Proofs
/- Small functions. -/
namespace Go.Proofs
open Go.RowKit
def Tryz.within (x lo hi : Int) : Bool := decide (lo ≤ x) && decide (x ≤ hi)
def Tryz.orZero (b : Bool) (k : Int) : Int := if b then k else 0
theorem Tryz.cond19 (b : Bool) (k : Int) (w : World) : Calls Tryz.prog 19 #[.bool b, .int .i64 k] w fun e w' => e = .returned (.int .i64 (Tryz.orZero b k)) ∧ w' = w := by
  cases b <;> (go_enter Tryz.func19, Tryz.ntmps19; go_wp2; go_ret; exact ⟨rfl, rfl⟩)
theorem Tryz.cond98 (b : Bool) (k : Int) (w : World) : Calls Tryz.prog 98 #[.bool b, .int .i64 k] w fun e w' => e = .returned (.int .i64 (Tryz.orZero b k)) ∧ w' = w := by
  cases b <;> (go_enter Tryz.func98, Tryz.ntmps98; go_wp2; go_ret; exact ⟨rfl, rfl⟩)
theorem Tryz.count23 (b : Bool) (w : World) : Calls Tryz.prog 23 #[.bool b] w fun e w' => e = .returned (.int .i64 (Tryz.orZero b 1)) ∧ w' = w := by
  cases b <;> (go_enter Tryz.func23, Tryz.ntmps23; go_wp2; go_ret; exact ⟨rfl, rfl⟩)
theorem Tryz.within_t {x lo hi : Int} (h : lo ≤ x) : Tryz.within x lo hi = decide (x ≤ hi) := by simp [Tryz.within, h]
theorem Tryz.within_f {x lo hi : Int} (h : ¬ lo ≤ x) : Tryz.within x lo hi = false := by simp [Tryz.within, h]
theorem Tryz.in26 (x lo hi : Int) (w : World) : Calls Tryz.prog 26 #[.int .i64 x, .int .i64 lo, .int .i64 hi] w fun e w' => e = .returned (.bool (Tryz.within x lo hi)) ∧ w' = w := by
  by_cases h : lo ≤ x
  · have HW := Lib.hid (Tryz.within_t (hi := hi) h)
    go_enter Tryz.func26, Tryz.ntmps26
    go_wp2
    go_ret
    exact ⟨by rw [HW.out]; rfl, rfl⟩
  · have HW := Lib.hid (Tryz.within_f (hi := hi) h)
    go_enter Tryz.func26, Tryz.ntmps26
    go_wp2
    go_ret
    exact ⟨by rw [HW.out]; rfl, rfl⟩
theorem Tryz.in30 (x lo hi : Int) (w : World) : Calls Tryz.prog 30 #[.int .i64 x, .int .i64 lo, .int .i64 hi] w fun e w' => e = .returned (.bool (Tryz.within x lo hi)) ∧ w' = w := by
  by_cases h : lo ≤ x
  · have HW := Lib.hid (Tryz.within_t (hi := hi) h)
    go_enter Tryz.func30, Tryz.ntmps30
    go_wp2
    go_ret
    exact ⟨by rw [HW.out]; rfl, rfl⟩
  · have HW := Lib.hid (Tryz.within_f (hi := hi) h)
    go_enter Tryz.func30, Tryz.ntmps30
    go_wp2
    go_ret
    exact ⟨by rw [HW.out]; rfl, rfl⟩
theorem Tryz.in99 (x lo hi : Int) (w : World) : Calls Tryz.prog 99 #[.int .i64 x, .int .i64 lo, .int .i64 hi] w fun e w' => e = .returned (.bool (Tryz.within x lo hi)) ∧ w' = w := by
  by_cases h : lo ≤ x
  · have HW := Lib.hid (Tryz.within_t (hi := hi) h)
    go_enter Tryz.func99, Tryz.ntmps99
    go_wp2
    go_ret
    exact ⟨by rw [HW.out]; rfl, rfl⟩
  · have HW := Lib.hid (Tryz.within_f (hi := hi) h)
    go_enter Tryz.func99, Tryz.ntmps99
    go_wp2
    go_ret
    exact ⟨by rw [HW.out]; rfl, rfl⟩
theorem Tryz.isNaN117 (x : Int) (w : World) : Calls Tryz.prog 117 #[.int .i64 x] w fun e w' => e = .returned (.bool false) ∧ w' = w := by
  go_enter Tryz.func117, Tryz.ntmps117
  go_wp2
  go_ret
  exact ⟨by simp, rfl⟩
def Tryz.cmpI (x y : Int) : Int := if x < y then -1 else if y < x then 1 else 0
theorem Tryz.compare59 (x y : Int) (w : World) : Calls Tryz.prog 59 #[.int .i64 x, .int .i64 y] w fun e w' => e = .returned (.int .i64 (Tryz.cmpI x y)) ∧ w' = w := by
  have hN := fun x w => Tryz.isNaN117 x w
  have HN := Lib.hid hN
  clear hN
  rcases Int.lt_trichotomy x y with h | h | h
  · have hc : Tryz.cmpI x y = -1 := by simp [Tryz.cmpI, h]
    have HC := Lib.hid hc
    clear hc
    go_enter Tryz.func59, Tryz.ntmps59
    go_wp2_with (go_at_call 117; refine (HN.out _ _).mono ?_; rintro e w' ⟨rfl, rfl⟩)
    go_ret
    exact ⟨by rw [HC.out]; rfl, rfl⟩
  · subst h
    have hc : Tryz.cmpI x x = 0 := by simp [Tryz.cmpI]
    have HC := Lib.hid hc
    clear hc
    go_enter Tryz.func59, Tryz.ntmps59
    go_wp2_with (go_at_call 117; refine (HN.out _ _).mono ?_; rintro e w' ⟨rfl, rfl⟩)
    go_ret
    exact ⟨by rw [HC.out]; rfl, rfl⟩
  · have h' : ¬ x < y := by omega
    have hc : Tryz.cmpI x y = 1 := by simp [Tryz.cmpI, h, h']
    have HC := Lib.hid hc
    clear hc
    go_enter Tryz.func59, Tryz.ntmps59
    go_wp2_with (go_at_call 117; refine (HN.out _ _).mono ?_; rintro e w' ⟨rfl, rfl⟩)
    go_ret
    exact ⟨by rw [HC.out]; rfl, rfl⟩
end Go.Proofs
/- math/bits.Mul64. -/
namespace Go.Proofs
open Go.RowKit
theorem Tryz.u64mask (a : Nat) (ha : a < 18446744073709551616) : bits .and .u64 (a : Int) 4294967295 = ((a % 4294967296 : Nat) : Int) := by
  have h := bits_and_u64_nat a 4294967295 ha (by omega)
  rwa [show a &&& 4294967295 = a % 4294967296 from Nat.and_two_pow_sub_one_eq_mod a 32] at h
theorem Tryz.u64div (a : Nat) : (a : Int) / 4294967296 = ((a / 4294967296 : Nat) : Int) := by omega
theorem Tryz.u64mul (a b : Nat) : (a : Int) * (b : Int) = ((a * b : Nat) : Int) := (Int.natCast_mul a b).symm
theorem Tryz.u64add (a b : Nat) : (a : Int) + (b : Int) = ((a + b : Nat) : Int) := (Int.natCast_add a b).symm
theorem Tryz.u64wrap (a : Nat) (ha : a < 18446744073709551616) : IntKind.u64.wrap (a : Int) = (a : Int) := by rw [IntKind.wrap_u64]; omega
theorem Tryz.u64mod (a : Nat) : IntKind.u64.wrap (a : Int) = ((a % 18446744073709551616 : Nat) : Int) := by rw [IntKind.wrap_u64]; omega
set_option maxHeartbeats 1000000 in
theorem Tryz.mul329 (x y : Nat) (hx : x < 18446744073709551616) (hy : y < 18446744073709551616) (w : World) :
    Calls Tryz.prog 329 #[.int .u64 x, .int .u64 y] w fun e w' => e = .returned (.tuple #[.int .u64 ((x * y / 18446744073709551616 : Nat) : Int), .int .u64 ((x * y % 18446744073709551616 : Nat) : Int)]) ∧ w' = w := by
  obtain ⟨b1, b2, b3, hhi⟩ := Lib.mul64_hi x y hx hy
  have c1 := Lib.half_mul_le (a := x / 4294967296) (b := y / 4294967296) (by omega) (by omega)
  have c2 := Lib.half_mul_le (a := x / 4294967296) (b := y % 4294967296) (by omega) (by omega)
  have c3 := Lib.half_mul_le (a := x % 4294967296) (b := y / 4294967296) (by omega) (by omega)
  have d1 : x / 4294967296 * (y / 4294967296) < 18446744073709551616 := by omega
  have d2 : x / 4294967296 * (y % 4294967296) < 18446744073709551616 := by omega
  have d3 : x % 4294967296 * (y / 4294967296) < 18446744073709551616 := by omega
  have d4 : x / 4294967296 * (y / 4294967296) + (x / 4294967296 * (y % 4294967296) + x % 4294967296 * (y % 4294967296) / 4294967296) / 4294967296 < 18446744073709551616 := by omega
  have d5 : x / 4294967296 * (y / 4294967296) + (x / 4294967296 * (y % 4294967296) + x % 4294967296 * (y % 4294967296) / 4294967296) / 4294967296 + ((x / 4294967296 * (y % 4294967296) + x % 4294967296 * (y % 4294967296) / 4294967296) % 4294967296 + x % 4294967296 * (y / 4294967296)) / 4294967296 < 18446744073709551616 := by omega
  go_enter Tryz.func329, Tryz.ntmps329
  go_wp2
  simp only [Tryz.u64mask x hx, Tryz.u64mask y hy, Tryz.u64div, Tryz.u64mul, Tryz.u64add, Tryz.u64wrap _ b1, Tryz.u64wrap _ d2, Tryz.u64wrap _ b2, Tryz.u64mask _ b2, Tryz.u64wrap _ d3, Tryz.u64wrap _ b3, Tryz.u64wrap _ d1, Tryz.u64wrap _ d4, Tryz.u64wrap _ d5, Tryz.u64mod (x * y)]
  rw [hhi]
  go_ret2
  exact ⟨rfl, rfl⟩
end Go.Proofs
/- sql.likes: the walk. -/
namespace Go.Proofs
open Go.RowKit

/-! ### What it computes -/
def Tryz.stepAt (c : UInt8) (s : List UInt8) (can nxt : List Bool) (i : Nat) : Bool :=
  if c = 37 then can[i]?.getD false || (decide (0 < i) && nxt[i - 1]?.getD false)
  else decide (0 < i) && (can[i - 1]?.getD false && (c == 95 || c == s[i - 1]?.getD 0))
def Tryz.rowF (c : UInt8) (s : List UInt8) (can : List Bool) : Nat → List Bool
  | 0 => []
  | i + 1 => Tryz.rowF c s can i ++ [Tryz.stepAt c s can (Tryz.rowF c s can i) i]
def Tryz.rowsF (s : List UInt8) (p : List UInt8) : List Bool := p.foldl (fun can c => Tryz.rowF c s can (s.length + 1)) (true :: List.replicate s.length false)
def Tryz.likesF (p s : List UInt8) : Bool := (Tryz.rowsF s p)[s.length]?.getD false
theorem Tryz.rowF_len (c : UInt8) (s : List UInt8) (can : List Bool) : ∀ n, (Tryz.rowF c s can n).length = n
  | 0 => rfl
  | n + 1 => by simp [Tryz.rowF, Tryz.rowF_len c s can n]
theorem Tryz.rowsF_len (s p : List UInt8) : (Tryz.rowsF s p).length = s.length + 1 := by
  have : ∀ (p : List UInt8) (can : List Bool), can.length = s.length + 1 → (p.foldl (fun can c => Tryz.rowF c s can (s.length + 1)) can).length = s.length + 1 := by
    intro p
    induction p with
    | nil => intro can h; exact h
    | cons c p ih => intro can _; exact ih _ (Tryz.rowF_len _ _ _ _)
  exact this p _ (by simp)
theorem Tryz.rowsF_snoc (s p : List UInt8) (c : UInt8) : Tryz.rowsF s (p ++ [c]) = Tryz.rowF c s (Tryz.rowsF s p) (s.length + 1) := by simp [Tryz.rowsF]

/-! ### Memory -/
structure Tryz.Ext (w w' : World) : Prop where
  size : w.heap.size ≤ w'.heap.size
  old : ∀ k, k < w.heap.size → w'.heap[k]? = w.heap[k]?
  out : Go.XR.SameOut w' w
theorem Tryz.Ext.refl (w : World) : Tryz.Ext w w := ⟨Nat.le_refl _, fun _ _ => rfl, .refl _⟩
theorem Tryz.Ext.trans {a b c : World} (h : Tryz.Ext a b) (k : Tryz.Ext b c) : Tryz.Ext a c := ⟨Nat.le_trans h.1 k.1, fun x hx => (k.2 x (Nat.lt_of_lt_of_le hx h.1)).trans (h.2 x hx), k.3.trans h.3⟩
theorem Tryz.bcell {W : World} {q j : Nat} {c : Array Value} {t : TypeId} {f : Nat × Nat} {v : Value} (h : W.heap[q]? = some (.cells c t f)) (hv : c[j]? = some v) : W.cell? ⟨q, j, none⟩ = some v := by simp [World.cell?, h, hv]
theorem Tryz.bfrozen {W : World} {q j : Nat} {c : Array Value} {t : TypeId} (h : W.heap[q]? = some (.cells c t)) : W.frozen? ⟨q, j, none⟩ = false := by simp [World.frozen?, h]
theorem Tryz.bset {W : World} {q j : Nat} {c : Array Value} {t : TypeId} {v : Value} (h : W.heap[q]? = some (.cells c t)) : (W.setCell ⟨q, j, none⟩ v).heap[q]? = some (.cells (c.setIfInBounds j v) t) := by
  simp [World.setCell, Array.getElem?_modify, h]
theorem Tryz.bother {W : World} {q j k : Nat} {v : Value} (h : k ≠ q) : (W.setCell ⟨q, j, none⟩ v).heap[k]? = W.heap[k]? := Below.heap_setCell _ _ _ _ h
theorem Tryz.bsize {W : World} {q j : Nat} {v : Value} : (W.setCell ⟨q, j, none⟩ v).heap.size = W.heap.size := by simp [World.setCell]
theorem Tryz.mk74 (N : Nat) (W : World) (h : N ≤ 2000) : (Instr.makeSlice 74 (.int .i64 (N : Int)) (.int .i64 (N : Int))).run Tryz.prog W = .ok (.slice (some ⟨W.heap.size, 0, none⟩) N N) (W.alloc (.cells (Array.replicate N (.bool false)) 4)) := by
  have hi : (Tryz.prog.info? 4).map (fun i => (i.size, i.bytes, i.zero)) = some (1, 1, some (.bool false)) := by kernel_rfl
  cases hx : Tryz.prog.info? 4 with
  | none => rw [hx] at hi; cases hi
  | some i =>
    rw [hx] at hi
    simp only [Option.map_some, Option.some.injEq, Prod.mk.injEq] at hi
    obtain ⟨e1, e2, e3⟩ := hi
    have := run_make (P := Tryz.prog) W 74 4 i (.bool false) Tryz.underlying74 hx e3 .i64 .i64 N N (by omega) (Int.le_refl _) (by rw [e2]; omega) (by omega)
    rw [this, e1, Int.toNat_natCast, Nat.mul_one]
    have hm : madeCells (Value.bool false).cells N = Array.replicate N (.bool false) := by
      apply Array.ext'
      rw [show (Value.bool false).cells = #[.bool false] from rfl, toList_madeCells_one]; simp
    rw [hm]
theorem Tryz.conv121 (p : ByteArray) (W : World) : ∃ W' c cap, (convert 9 121 (.string p)).run Tryz.prog W = .ok (.slice (some ⟨W.heap.size, 0, none⟩) p.size cap) W' ∧ p.size ≤ cap ∧ W'.heap = W.heap.push (.cells c 5 (cap, cap + 1)) ∧ Go.XR.SameOut W' W ∧ ∀ (i : Nat) (q : UInt8), p.data.toList[i]? = some q → c[i]? = some (Value.int .u8 q.toNat) := by
  obtain ⟨w', c, cap, k1, k2, k3, k4, k6, k5⟩ := Go.XR.run_s2b (P := Tryz.prog) W 5 p
  refine ⟨w', c, cap, ?_, k2, k4, k6, k5⟩
  simp only [Sem.run_bind, convert, run_underlying Tryz.underlying9, run_underlying Tryz.underlying121, run_underlying Tryz.underlying5, Result.andThen_ok, k1]
theorem Tryz.bnew (w : World) (o : Obj) : (w.alloc o).heap[w.heap.size]? = some o := by show (w.heap.push o)[w.heap.size]? = _; simp
def Tryz.bools (l : List Bool) : Array Value := (l.map Value.bool).toArray
theorem Tryz.bools_get (l : List Bool) (i : Nat) (h : i < l.length) : (Tryz.bools l)[i]? = some (.bool l[i]) := by simp [Tryz.bools, h]
theorem Tryz.beq_u8 (a b : UInt8) : ((a.toNat : Int) == (b.toNat : Int)) = (a == b) := by
  rw [Bool.eq_iff_iff]
  simp only [beq_iff_eq]
  exact ⟨fun h => UInt8.toNat_inj.1 (by omega), fun h => by rw [h]⟩
theorem Tryz.like_next {row : List Bool} {v : Bool} {j n : Nat} (hl : row.length = j) (hj : j < n) : (row ++ List.replicate (n - j) false).set j v = (row ++ [v]) ++ List.replicate (n - (j + 1)) false := by
  obtain ⟨m, hm⟩ : ∃ m, n - j = m + 1 := ⟨n - j - 1, by omega⟩
  rw [hm, List.replicate_succ, List.set_append_right _ _ (by omega), hl, Nat.sub_self, show n - (j + 1) = m by omega]
  simp
theorem Tryz.like_store {wi wo : World} {q j n : Nat} {c : UInt8} {T : List UInt8} {can : List Bool} {v : Bool} (hj : j < n)
    (hrow : wi.heap[q]? = some (.cells (Tryz.bools (Tryz.rowF c T can j ++ List.replicate (n - j) false)) 4)) (hkp : ∀ k, k < q → wi.heap[k]? = wo.heap[k]?) (hsi : wi.heap.size = q + 1 ∧ Go.XR.SameOut wi wo) (hv : v = Tryz.stepAt c T can (Tryz.rowF c T can j) j) :
    (∃ j1 : Nat, j1 ≤ n ∧ Value.int .i64 ((j : Int) + 1) = Value.int .i64 j1 ∧ (wi.setCell ⟨q, j, none⟩ (.bool v)).heap[q]? = some (.cells (Tryz.bools (Tryz.rowF c T can j1 ++ List.replicate (n - j1) false)) 4) ∧
      (∀ k, k < q → (wi.setCell ⟨q, j, none⟩ (.bool v)).heap[k]? = wo.heap[k]?) ∧ (wi.setCell ⟨q, j, none⟩ (.bool v)).heap.size = q + 1 ∧ Go.XR.SameOut (wi.setCell ⟨q, j, none⟩ (.bool v)) wo) ∧ n - (intOf (Value.int .i64 ((j : Int) + 1))).toNat < n - (intOf (Value.int .i64 (j : Int))).toNat := by
  refine ⟨⟨j + 1, by omega, by simp, ?_, fun k hk => by rw [Tryz.bother (by omega)]; exact hkp k hk, by rw [Tryz.bsize]; exact hsi.1, hsi.2⟩, by simp [intOf]; omega⟩
  rw [Tryz.bset hrow]
  congr 2
  have h1 := Tryz.like_next (v := v) (Tryz.rowF_len c T can j) hj
  simp only [Tryz.rowF]
  rw [← hv, ← h1]
  simp [Tryz.bools, List.map_set]
theorem Tryz.like_stay {wi wo : World} {q j n : Nat} {c : UInt8} {T : List UInt8} {can : List Bool} (hj : j < n)
    (hrow : wi.heap[q]? = some (.cells (Tryz.bools (Tryz.rowF c T can j ++ List.replicate (n - j) false)) 4)) (hkp : ∀ k, k < q → wi.heap[k]? = wo.heap[k]?) (hsi : wi.heap.size = q + 1 ∧ Go.XR.SameOut wi wo) (hv : false = Tryz.stepAt c T can (Tryz.rowF c T can j) j) :
    (∃ j1 : Nat, j1 ≤ n ∧ Value.int .i64 ((j : Int) + 1) = Value.int .i64 j1 ∧ wi.heap[q]? = some (.cells (Tryz.bools (Tryz.rowF c T can j1 ++ List.replicate (n - j1) false)) 4) ∧
      (∀ k, k < q → wi.heap[k]? = wo.heap[k]?) ∧ wi.heap.size = q + 1 ∧ Go.XR.SameOut wi wo) ∧ n - (intOf (Value.int .i64 ((j : Int) + 1))).toNat < n - (intOf (Value.int .i64 (j : Int))).toNat := by
  refine ⟨⟨j + 1, by omega, by simp, ?_, hkp, hsi⟩, by simp [intOf]; omega⟩
  rw [hrow]
  congr 2
  have h1 := Tryz.like_next (v := false) (Tryz.rowF_len c T can j) hj
  simp only [Tryz.rowF]
  rw [← hv, ← h1]
  congr 1
  apply List.ext_getElem?
  intro i
  rw [List.getElem?_set]
  split
  · rename_i e
    subst e
    rw [List.getElem?_append_right (by rw [Tryz.rowF_len]; exact Nat.le_refl _), Tryz.rowF_len, Nat.sub_self, List.getElem?_replicate, if_pos (by omega)]
    rw [if_pos (by simp [Tryz.rowF_len]; omega)]
  · rfl
set_option maxRecDepth 100000 in
set_option maxHeartbeats 1000000 in
theorem Tryz.likes_in (p s : ByteArray) (w : World) (hp : p.size ≤ 1000) (hs : s.size ≤ 1000) :
    Calls Tryz.prog 24 #[.string p, .string s] w fun e w' => e = .returned (.bool (Tryz.likesF p.data.toList (Tryz.trimL s.data.toList))) ∧ Tryz.Ext w w' := by
  obtain ⟨t, ht⟩ : ∃ t : ByteArray, t = ⟨(Tryz.trimL s.data.toList).toArray⟩ := ⟨_, rfl⟩
  have hT : Tryz.trimL s.data.toList = t.data.toList := by rw [ht]
  have htn : t.size ≤ 1000 := by
    have h1 := Tryz.trimL_len s.data.toList
    have h2 : (Tryz.trimL s.data.toList).length = t.size := by rw [hT]; rfl
    have h3 : s.data.toList.length = s.size := rfl
    omega
  rw [hT]
  have tr : ∀ w, Calls Tryz.prog 56 #[.string s, .string ⟨#[32]⟩] w fun e w' => e = .returned (.string t) ∧ w' = w := fun w => by rw [ht]; exact Tryz.trimRight s w hs
  have TR := Lib.hid tr
  clear ht hT tr hs
  have htn' : (t.size : Int) ≤ 1000 := by omega
  go_enter Tryz.func24, Tryz.ntmps24
  go_wp2_with (go_at_call 56; refine (TR.out _).mono ?_; rintro e w' ⟨rfl, rfl⟩)
  rw [show ((t.size : Int) + 1) = ((t.size + 1 : Nat) : Int) by omega, Tryz.mk74 _ _ (by omega)]
  go_wp2
  obtain ⟨W2, cB, capB, hconv, hcap, hW2, hSO, hB⟩ := Tryz.conv121 p (w'.alloc (Obj.cells ((Array.replicate (t.size + 1) (Value.bool false)).setIfInBounds 0 (Value.bool true)) 4))
  rw [hconv]
  have z2 : W2.heap.size = w'.heap.size + 1 + 1 := by rw [hW2]; simp
  have o2 : ∀ k, k < w'.heap.size → W2.heap[k]? = w'.heap[k]? := fun k hk => by
    rw [hW2, Array.getElem?_push, if_neg (by simp; omega)]
    exact Below.heap_alloc _ _ _ hk
  have c2 : W2.heap[w'.heap.size]? = some (.cells (Tryz.bools (Tryz.rowsF t.data.toList [])) 4) := by
    rw [hW2, Array.getElem?_push, if_neg (by simp)]
    have := Tryz.bnew w' (Obj.cells ((Array.replicate (t.size + 1) (Value.bool false)).setIfInBounds 0 (Value.bool true)) 4)
    rw [this]
    congr 2
    apply Array.ext'
    simp [Tryz.bools, Tryz.rowsF, List.replicate_succ]
  have b2 : W2.heap[w'.heap.size + 1]? = some (.cells cB 5 (capB, capB + 1)) := by
    rw [hW2, Array.getElem?_push, if_pos (by simp)]
  have C2 := Lib.hid c2
  have B2 := Lib.hid b2
  have O2 := Lib.hid o2
  have HB := Lib.hid hB
  have hSO' : Go.XR.SameOut W2 w' := hSO
  have SO := Lib.hid hSO'
  clear hW2 c2 b2 o2 hB hconv hSO hSO'
  go_wp2
  go_loopw [5, 21] (fun can i wr => ∃ (k cb : Nat), k ≤ p.size ∧ i = .int .i64 k ∧ can = .slice (some ⟨cb, 0, none⟩) (t.size + 1) (t.size + 1) ∧ w'.heap.size ≤ cb ∧ cb ≠ w'.heap.size + 1 ∧
      wr.heap[cb]? = some (.cells (Tryz.bools (Tryz.rowsF t.data.toList (p.data.toList.take k))) 4) ∧ wr.heap[w'.heap.size + 1]? = some (.cells cB 5 (capB, capB + 1)) ∧ Tryz.Ext w' wr) (fun _ i _ => p.size - (intOf i).toNat)
  case atStart =>
    refine ⟨0, _, Nat.zero_le _, rfl, rfl, Nat.le_refl _, by omega, ?_, B2.out, by omega, O2.out, SO.out⟩
    rw [List.take_zero]; exact C2.out
  case round =>
    revert wr
    intro wo hrel
    obtain ⟨k, cb, hk, rfl, rfl, hcb, hcb2, hcan, hby, hext⟩ := hrel
    have hcl := Tryz.rowsF_len t.data.toList (p.data.toList.take k)
    by_cases hlt : k < p.size
    · have hbc : wo.cell? ⟨w'.heap.size + 1, k, none⟩ = some (.int .u8 p[k].toNat) := Tryz.bcell hby (HB.out k p[k] (by simp [hlt]; rfl))
      have HC := Lib.hid hcan
      have HY := Lib.hid hby
      have HE := Lib.hid hext
      have HL := Lib.hid hcl
      clear hcan hby hext hcl
      go_wp2
      rw [show ((t.size : Int) + 1) = ((t.size + 1 : Nat) : Int) by omega, Tryz.mk74 _ _ (by omega)]
      go_wp2
      have zr : wo.heap.size < (wo.alloc (Obj.cells (Array.replicate (t.size + 1) (Value.bool false)) 4)).heap.size := by simp
      have hnew : (wo.alloc (Obj.cells (Array.replicate (t.size + 1) (Value.bool false)) 4)).heap[wo.heap.size]? = some (.cells (Tryz.bools (List.replicate (t.size + 1) false)) 4) := by
        rw [Tryz.bnew]
        congr 2
        apply Array.ext'
        simp [Tryz.bools]
      have hkeep : ∀ q, q < wo.heap.size → (wo.alloc (Obj.cells (Array.replicate (t.size + 1) (Value.bool false)) 4)).heap[q]? = wo.heap[q]? := fun q hq => Below.heap_alloc _ _ _ hq
      have hsz : (wo.alloc (Obj.cells (Array.replicate (t.size + 1) (Value.bool false)) 4)).heap.size = wo.heap.size + 1 ∧ Go.XR.SameOut (wo.alloc (Obj.cells (Array.replicate (t.size + 1) (Value.bool false)) 4)) wo := ⟨by simp, rfl, rfl⟩
      have HN := Lib.hid hnew
      have HK := Lib.hid hkeep
      have HS := Lib.hid hsz
      clear hnew hkeep hsz
      go_loopw [31] (fun i wi => ∃ j : Nat, j ≤ t.size + 1 ∧ i = .int .i64 j ∧ wi.heap[wo.heap.size]? = some (.cells (Tryz.bools (Tryz.rowF p[k] t.data.toList (Tryz.rowsF t.data.toList (p.data.toList.take k)) j ++ List.replicate (t.size + 1 - j) false)) 4) ∧ (∀ q, q < wo.heap.size → wi.heap[q]? = wo.heap[q]?) ∧ wi.heap.size = wo.heap.size + 1 ∧ Go.XR.SameOut wi wo) (fun i _ => t.size + 1 - (intOf i).toNat)
      case atStart => exact ⟨0, Nat.zero_le _, rfl, HN.out, HK.out, HS.out⟩
      case round =>
        revert wr
        intro wi hrel
        obtain ⟨j, hj, rfl, hrow, hkp, hsi⟩ := hrel
        have hrl := Tryz.rowF_len p[k] t.data.toList (Tryz.rowsF t.data.toList (p.data.toList.take k)) j
        by_cases hjt : j < t.size + 1
        · have hcb3 : cb < wo.heap.size := (Array.getElem?_eq_some_iff.1 HC.out).1
          have hcan := (hkp cb hcb3).trans HC.out
          have hjr : j < (Tryz.rowsF t.data.toList (p.data.toList.take k)).length := by rw [HL.out]; exact hjt
          have f2 : wi.cell? ⟨wo.heap.size, j, none⟩ = some (.bool false) := Tryz.bcell hrow (by
            simp only [Tryz.bools, List.getElem?_toArray, List.getElem?_map]
            rw [List.getElem?_append_right (by omega), hrl, Nat.sub_self, List.getElem?_replicate, if_pos (by omega)]
            rfl)
          have f3 := Tryz.bfrozen (j := j) hrow
          have hval : ∀ (i : Nat) (y : Bool), i < j → (Tryz.rowF p[k] t.data.toList (Tryz.rowsF t.data.toList (p.data.toList.take k)) j)[i]? = some y → wi.cell? ⟨wo.heap.size, i, none⟩ = some (.bool y) := fun i y hi hy => Tryz.bcell hrow (by
            simp only [Tryz.bools, List.getElem?_toArray, List.getElem?_map]
            rw [List.getElem?_append_left (by omega), hy]
            rfl)
          have hcv : ∀ (i : Nat) (y : Bool), (Tryz.rowsF t.data.toList (p.data.toList.take k))[i]? = some y → wi.cell? ⟨cb, i, none⟩ = some (.bool y) := fun i y hy => Tryz.bcell hcan (by simp [Tryz.bools, hy])
          have HR := Lib.hid hrow
          have HKP := Lib.hid hkp
          have HSI := Lib.hid hsi
          have HRL := Lib.hid hrl
          have HV := Lib.hid hval
          have HCV := Lib.hid hcv
          clear hrow hkp hsi hrl hcan hval hcv
          by_cases h37 : p[k] = 37
          · have h37' : ((p[k].toNat : Int) == 37) = true := by rw [h37]; rfl
            obtain ⟨x, hx⟩ : ∃ x, (Tryz.rowsF t.data.toList (p.data.toList.take k))[j]? = some x := ⟨_, List.getElem?_eq_getElem hjr⟩
            have f1 := HCV.out j x hx
            have hst : Tryz.stepAt p[k] t.data.toList (Tryz.rowsF t.data.toList (p.data.toList.take k)) (Tryz.rowF p[k] t.data.toList (Tryz.rowsF t.data.toList (p.data.toList.take k)) j) j = (x || (decide (0 < j) && (Tryz.rowF p[k] t.data.toList (Tryz.rowsF t.data.toList (p.data.toList.take k)) j)[j - 1]?.getD false)) := by
              simp only [Tryz.stepAt, if_pos h37, hx, Option.getD_some]
            have HST := Lib.hid hst
            clear hst hx h37
            cases x with
            | true =>
              go_wp2
              exact Tryz.like_store hjt HR.out HKP.out HSI.out (by rw [HST.out]; rfl)
            | false =>
              cases j with
              | zero =>
                go_wp2
                exact Tryz.like_store (j := 0) hjt HR.out HKP.out HSI.out (by rw [HST.out]; rfl)
              | succ j =>
                obtain ⟨y, hy⟩ : ∃ y, (Tryz.rowF p[k] t.data.toList (Tryz.rowsF t.data.toList (p.data.toList.take k)) (j + 1))[j]? = some y := by
                  have hrl1 := Tryz.rowF_len p[k] t.data.toList (Tryz.rowsF t.data.toList (p.data.toList.take k)) (j + 1)
                  exact ⟨_, List.getElem?_eq_getElem (by omega)⟩
                have f4 := HV.out j y (by omega) hy
                have HYY := Lib.hid hy
                clear hy
                go_wp2
                exact Tryz.like_store (j := j + 1) hjt HR.out HKP.out HSI.out (by rw [HST.out]; simp [HYY.out])
          · have h37' : ((p[k].toNat : Int) == 37) = false := by
              rw [beq_eq_false_iff_ne]
              intro e
              exact h37 (UInt8.toNat_inj.1 (by show p[k].toNat = 37; omega))
            cases j with
            | zero =>
              have hst : false = Tryz.stepAt p[k] t.data.toList (Tryz.rowsF t.data.toList (p.data.toList.take k)) (Tryz.rowF p[k] t.data.toList (Tryz.rowsF t.data.toList (p.data.toList.take k)) 0) 0 := by
                simp [Tryz.stepAt, h37]
              have HST := Lib.hid hst
              clear hst h37
              go_wp2
              exact Tryz.like_stay (j := 0) hjt HR.out HKP.out HSI.out HST.out
            | succ j =>
              obtain ⟨x, hx⟩ : ∃ x, (Tryz.rowsF t.data.toList (p.data.toList.take k))[j]? = some x := ⟨_, List.getElem?_eq_getElem (by rw [HL.out]; show j < t.size + 1; omega)⟩
              have f1 := HCV.out j x hx
              have hjs : j < t.size := by omega
              have hst : Tryz.stepAt p[k] t.data.toList (Tryz.rowsF t.data.toList (p.data.toList.take k)) (Tryz.rowF p[k] t.data.toList (Tryz.rowsF t.data.toList (p.data.toList.take k)) (j + 1)) (j + 1) = (x && (p[k] == 95 || p[k] == t[j])) := by
                have : t.data.toList[j]?.getD 0 = t[j] := by
                  have h1 : t.data.toList[j]? = some t[j] := by
                    rw [Array.getElem?_toList]
                    exact Array.getElem?_eq_getElem hjs
                  rw [h1]; rfl
                simp only [Tryz.stepAt, if_neg h37, hx, Option.getD_some, Nat.add_sub_cancel, this, Nat.zero_lt_succ, decide_true, Bool.true_and]
              have HST := Lib.hid hst
              clear hst hx h37
              cases x with
              | false =>
                go_wp2
                exact Tryz.like_store (j := j + 1) hjt HR.out HKP.out HSI.out (by rw [HST.out]; rfl)
              | true =>
                by_cases h95 : p[k] = 95
                · have h95' : ((p[k].toNat : Int) == 95) = true := by rw [h95]; rfl
                  have H95 := Lib.hid h95
                  clear h95
                  go_wp2
                  exact Tryz.like_store (j := j + 1) hjt HR.out HKP.out HSI.out (by rw [HST.out, H95.out]; rfl)
                · have h95' : ((p[k].toNat : Int) == 95) = false := by
                    rw [beq_eq_false_iff_ne]
                    intro e
                    exact h95 (UInt8.toNat_inj.1 (by show p[k].toNat = 95; omega))
                  have h96 : (p[k] == 95) = false := by rw [beq_eq_false_iff_ne]; exact h95
                  have H95 := Lib.hid h96
                  clear h95 h96
                  go_wp2
                  exact Tryz.like_store (j := j + 1) hjt HR.out HKP.out HSI.out (by rw [HST.out, Tryz.beq_u8, H95.out]; rfl)
        · obtain rfl : j = t.size + 1 := by omega
          have h0 : t.size + 1 - (t.size + 1) = 0 := Nat.sub_self _
          rw [h0, List.replicate_zero, List.append_nil] at hrow
          have HR := Lib.hid hrow
          have HKP := Lib.hid hkp
          have HSI := Lib.hid hsi
          clear hrow hkp hsi hrl h0
          go_wp2
          have hsl : wo.heap.size < wi.heap.size := by rw [HSI.out.1]; exact Nat.lt_succ_self _
          have hext' := HE.out
          have hb1 := (Array.getElem?_eq_some_iff.1 HY.out).1
          refine ⟨⟨k + 1, wo.heap.size, by omega, by simp, rfl, hext'.1, by omega, ?_, (HKP.out _ hb1).trans HY.out, by have := hext'.1; omega, fun q hq => (HKP.out q (by have := hext'.1; omega)).trans (hext'.2 q hq), HSI.out.2.trans hext'.3⟩, by simp [intOf]; omega⟩
          have htk : p.data.toList.take (k + 1) = p.data.toList.take k ++ [p[k]] := by
            rw [List.take_succ_eq_append_getElem (by show k < p.size; exact hlt)]
            rfl
          rw [htk, Tryz.rowsF_snoc]
          exact HR.out
    · obtain rfl : k = p.size := by omega
      have hfull : p.data.toList.take p.size = p.data.toList := List.take_of_length_le (Nat.le_refl _)
      rw [hfull] at hcan
      obtain ⟨x, hx⟩ : ∃ x, (Tryz.rowsF t.data.toList p.data.toList)[t.size]? = some x := ⟨_, List.getElem?_eq_getElem (by rw [Tryz.rowsF_len]; show t.size < t.size + 1; omega)⟩
      have f1 : wo.cell? ⟨cb, t.size, none⟩ = some (.bool x) := Tryz.bcell hcan (by simp [Tryz.bools, hx])
      have HE := Lib.hid hext
      have HX := Lib.hid hx
      clear hcan hby hext hcl hx hfull
      go_wp2
      go_ret
      exact ⟨by rw [Tryz.likesF, show t.data.toList.length = t.size from rfl, HX.out]; rfl, HE.out⟩
end Go.Proofs
/- Wide numbers: times. -/
namespace Go.Proofs
open Go.RowKit
def Tryz.u64c (l : List Nat) : Array Value := (l.map fun (n : Nat) => Value.int .u64 (n : Int)).toArray
def Tryz.timesC (m : Nat) : List Nat → Nat → Nat
  | [], c => c
  | x :: r, c => Tryz.timesC m r ((x * m + c) / 18446744073709551616)
def Tryz.timesL (m : Nat) : List Nat → Nat → List Nat
  | [], _ => []
  | x :: r, c => (x * m + c) % 18446744073709551616 :: Tryz.timesL m r ((x * m + c) / 18446744073709551616)
theorem Tryz.timesC_snoc (m x : Nat) : ∀ (l : List Nat) (c : Nat), Tryz.timesC m (l ++ [x]) c = (x * m + Tryz.timesC m l c) / 18446744073709551616
  | [], _ => rfl
  | _ :: r, _ => Tryz.timesC_snoc m x r _
theorem Tryz.timesL_snoc (m x : Nat) : ∀ (l : List Nat) (c : Nat), Tryz.timesL m (l ++ [x]) c = Tryz.timesL m l c ++ [(x * m + Tryz.timesC m l c) % 18446744073709551616]
  | [], _ => rfl
  | y :: r, c => by
    show _ :: Tryz.timesL m (r ++ [x]) _ = _ :: (_ ++ _)
    rw [Tryz.timesL_snoc m x r]
    rfl
theorem Tryz.timesL_len (m : Nat) : ∀ (l : List Nat) (c : Nat), (Tryz.timesL m l c).length = l.length
  | [], _ => rfl
  | _ :: r, _ => by simp [Tryz.timesL, Tryz.timesL_len m r]
theorem Tryz.timesC_lt {m : Nat} (hm : m < 18446744073709551616) : ∀ (l : List Nat) (c : Nat), (∀ x ∈ l, x < 18446744073709551616) → c < 18446744073709551616 → Tryz.timesC m l c < 18446744073709551616
  | [], _, _, hc => hc
  | x :: r, c, hl, hc => Tryz.timesC_lt hm r _ (fun y hy => hl y (List.mem_cons_of_mem _ hy)) (by
    have hx := hl x List.mem_cons_self
    have : x * m ≤ 18446744073709551615 * 18446744073709551615 := Nat.mul_le_mul (by omega) (by omega)
    omega)
theorem Tryz.add327 (x y : Nat) (w : World) : (callFunc 327 #[.int .u64 x, .int .u64 y, .int .u64 0]).run Tryz.prog w =
    .ok (.value (.tuple #[.int .u64 (((x + y) % 18446744073709551616 : Nat) : Int), .int .u64 (((x + y) / 18446744073709551616 : Nat) : Int)])) w := by
  rw [run_callFunc_extern Tryz.func327 (by kernel_rfl) (by kernel_rfl) (by kernel_rfl) (e := add64Entry) (by kernel_rfl), run_add64 x y 0 (by omega) (by omega) (by omega) (by omega)]
  simp only [Result.andThen]
  congr 5 <;> omega
theorem Tryz.u64c_get {l : List Nat} {j x : Nat} (h : l[j]? = some x) : (Tryz.u64c l)[j]? = some (.int .u64 (x : Int)) := by simp [Tryz.u64c, h]
theorem Tryz.u64c_set {l : List Nat} {j x : Nat} : (Tryz.u64c l).setIfInBounds j (.int .u64 (x : Int)) = Tryz.u64c (l.set j x) := by
  apply Array.ext'
  simp [Tryz.u64c, List.map_set]
theorem Tryz.take_put {l : List Nat} {v j n : Nat} (hl : l.length = j) (hj : j < n) : (l ++ List.replicate (n - j) 0).set j v = (l ++ [v]) ++ List.replicate (n - (j + 1)) 0 := by
  obtain ⟨k, hk⟩ : ∃ k, n - j = k + 1 := ⟨n - j - 1, by omega⟩
  rw [hk, List.replicate_succ, List.set_append_right _ _ (by omega), hl, Nat.sub_self, show n - (j + 1) = k by omega]
  simp
def Tryz.four (wi : World) (q o0 o1 o2 o3 : Nat) : World :=
  (((wi.setCell ⟨q, 0, none⟩ (.int .u64 o0)).setCell ⟨q, 1, none⟩ (.int .u64 o1)).setCell ⟨q, 2, none⟩ (.int .u64 o2)).setCell ⟨q, 3, none⟩ (.int .u64 o3)
theorem Tryz.four_at {wi : World} {q : Nat} (o0 o1 o2 o3 : Nat) (h : wi.heap[q]? = some (.cells (Tryz.u64c [0, 0, 0, 0]) 185)) : (Tryz.four wi q o0 o1 o2 o3).heap[q]? = some (.cells (Tryz.u64c [o0, o1, o2, o3]) 185) := by
  have h0 := Tryz.bset (j := 0) (v := .int .u64 (o0 : Int)) h
  rw [Tryz.u64c_set] at h0
  have h1 := Tryz.bset (j := 1) (v := .int .u64 (o1 : Int)) h0
  rw [Tryz.u64c_set] at h1
  have h2 := Tryz.bset (j := 2) (v := .int .u64 (o2 : Int)) h1
  rw [Tryz.u64c_set] at h2
  have h3 := Tryz.bset (j := 3) (v := .int .u64 (o3 : Int)) h2
  rw [Tryz.u64c_set] at h3
  exact h3
theorem Tryz.four_ext {w wi : World} {q : Nat} (o0 o1 o2 o3 : Nat) (hq : w.heap.size ≤ q) (hs : w.heap.size ≤ wi.heap.size) (hk : ∀ k, k < w.heap.size → wi.heap[k]? = w.heap[k]?) (ho : Go.XR.SameOut wi w) : Tryz.Ext w (Tryz.four wi q o0 o1 o2 o3) := by
  refine ⟨by simp only [Tryz.four, Tryz.bsize]; exact hs, fun k hk' => ?_, ho⟩
  simp only [Tryz.four]
  rw [Tryz.bother (by omega), Tryz.bother (by omega), Tryz.bother (by omega), Tryz.bother (by omega)]
  exact hk k hk'
theorem Tryz.res185 {fn : Func} {p : Tmp} (h : fn.results = #[.cell p 185]) (tmps : Array Value) (W : World) (q o0 o1 o2 o3 : Nat) (hp : tmps.getD p undef = .pointer (some ⟨q, 0, none⟩)) (hq : W.heap[q]? = some (.cells (Tryz.u64c [o0, o1, o2, o3]) 185)) :
    (results fn tmps).run Tryz.prog W = .ok (.agg (Tryz.u64c [o0, o1, o2, o3])) W :=
  results_cell_row h tmps W q 185 _ (0, 0) _ hp hq Tryz.underlying185 rfl (by kernel_rfl)
set_option maxRecDepth 100000 in
set_option maxHeartbeats 4000000 in
theorem Tryz.times306 (a : List Nat) (h4 : a.length = 4) (hb : ∀ x ∈ a, x < 18446744073709551616) (m : Nat) (hm : m < 18446744073709551616) (w : World) :
    Calls Tryz.prog 306 #[.agg (Tryz.u64c a), .int .u64 m] w fun e w' => e = .returned (.agg (Tryz.u64c (Tryz.timesL m a 0))) ∧ Tryz.Ext w w' := by
  obtain ⟨a0, a1, a2, a3, rfl⟩ : ∃ a0 a1 a2 a3, a = [a0, a1, a2, a3] := by
    match a, h4 with
    | [a0, a1, a2, a3], _ => exact ⟨a0, a1, a2, a3, rfl⟩
  have hM := fun x y hx hy w => Tryz.mul329 x y hx hy w
  have HM := Lib.hid hM
  have HB := Lib.hid hb
  clear hM hb h4
  have hA := fun x y w => Tryz.add327 x y w
  have HA := Lib.hid hA
  clear hA
  rw [show Tryz.u64c [a0, a1, a2, a3] = #[.int .u64 a0, .int .u64 a1, .int .u64 a2, .int .u64 a3] from rfl]
  go_enter Tryz.func306, Tryz.ntmps306
  go_wp2
  go_loopw [6, 12] (fun c i wr => ∃ j : Nat, j ≤ 4 ∧ i = .int .i64 j ∧ c = .int .u64 (Tryz.timesC m ([a0, a1, a2, a3].take j) 0) ∧ wr.heap[w.heap.size]? = some (.cells (Tryz.u64c [a0, a1, a2, a3]) 185) ∧ wr.heap[w.heap.size + 1]? = some (.cells (Tryz.u64c [0, 0, 0, 0]) 185) ∧
      wr.heap[w.heap.size + 1 + 1]? = some (.cells (Tryz.u64c (Tryz.timesL m ([a0, a1, a2, a3].take j) 0 ++ List.replicate (4 - j) 0)) 185) ∧ wr.heap.size = w.heap.size + 3 ∧ (∀ k, k < w.heap.size → wr.heap[k]? = w.heap[k]?) ∧ Go.XR.SameOut wr w) (fun _ i _ => 4 - (intOf i).toNat)
  case atStart =>
    refine ⟨0, by omega, rfl, rfl, ?_, ?_, ?_, ?_, fun k hk => ?_, rfl, rfl⟩
    · rw [Below.heap_alloc _ _ _ (by simp; omega), Below.heap_alloc _ _ _ (by simp), Tryz.bnew]; rfl
    · rw [Below.heap_alloc _ _ _ (by simp)]
      have h := Tryz.bnew (w.alloc (Obj.cells #[Value.int IntKind.u64 a0, Value.int IntKind.u64 a1, Value.int IntKind.u64 a2, Value.int IntKind.u64 a3] 185)) (Obj.cells #[Value.int IntKind.u64 0, Value.int IntKind.u64 0, Value.int IntKind.u64 0, Value.int IntKind.u64 0] 185)
      rw [show (w.alloc (Obj.cells #[Value.int IntKind.u64 a0, Value.int IntKind.u64 a1, Value.int IntKind.u64 a2, Value.int IntKind.u64 a3] 185)).heap.size = w.heap.size + 1 by simp] at h
      exact h
    · have h := Tryz.bnew ((w.alloc (Obj.cells #[Value.int IntKind.u64 a0, Value.int IntKind.u64 a1, Value.int IntKind.u64 a2, Value.int IntKind.u64 a3] 185)).alloc (Obj.cells #[Value.int IntKind.u64 0, Value.int IntKind.u64 0, Value.int IntKind.u64 0, Value.int IntKind.u64 0] 185)) (Obj.cells #[Value.int IntKind.u64 0, Value.int IntKind.u64 0, Value.int IntKind.u64 0, Value.int IntKind.u64 0] 185)
      rw [show ((w.alloc (Obj.cells #[Value.int IntKind.u64 a0, Value.int IntKind.u64 a1, Value.int IntKind.u64 a2, Value.int IntKind.u64 a3] 185)).alloc (Obj.cells #[Value.int IntKind.u64 0, Value.int IntKind.u64 0, Value.int IntKind.u64 0, Value.int IntKind.u64 0] 185)).heap.size = w.heap.size + 1 + 1 by simp] at h
      exact h
    · simp
    · rw [Below.heap_alloc _ _ _ (by simp; omega), Below.heap_alloc _ _ _ (by simp; omega), Below.heap_alloc _ _ _ hk]
  case round =>
    revert wr
    intro wi hrel
    obtain ⟨j, hj, rfl, rfl, hbox, hres, hout, hsz, hkp, hso⟩ := hrel
    by_cases hlt : j < 4
    · obtain ⟨x, hx⟩ : ∃ x, [a0, a1, a2, a3][j]? = some x := ⟨_, List.getElem?_eq_getElem hlt⟩
      have f1 : wi.cell? ⟨w.heap.size, j, none⟩ = some (.int .u64 x) := Tryz.bcell hbox (Tryz.u64c_get hx)
      have f2 := Tryz.bfrozen (j := j) hout
      have hlen : (Tryz.timesL m ([a0, a1, a2, a3].take j) 0).length = j := by rw [Tryz.timesL_len, List.length_take]; simp; omega
      have f3 : wi.cell? ⟨w.heap.size + 1 + 1, j, none⟩ = some (.int .u64 0) := Tryz.bcell hout (Tryz.u64c_get (x := 0) (by
        rw [List.getElem?_append_right (by omega), hlen, Nat.sub_self, List.getElem?_replicate, if_pos (by omega)]))
      have HLEN := Lib.hid hlen
      clear hlen
      have hxl := HB.out x (List.mem_of_getElem? hx)
      have htk : [a0, a1, a2, a3].take (j + 1) = [a0, a1, a2, a3].take j ++ [x] := by
        rw [List.take_add_one, hx]; rfl
      have HTK := Lib.hid htk
      have HX := Lib.hid hx
      have HXL := Lib.hid hxl
      have HBX := Lib.hid hbox
      have HR := Lib.hid hres
      have HO := Lib.hid hout
      have HS := Lib.hid hsz
      have HK := Lib.hid hkp
      have HSO := Lib.hid hso
      clear hx hxl hbox hres hout hsz hkp hso htk
      have hj4 : (j : Int) < 4 := by omega
      go_wp2_with (go_at_call 329; refine (HM.out _ _ HXL.out hm _).mono ?_; rintro e w' ⟨rfl, rfl⟩)
      rw [show ((x : Int) * (m : Int) % 18446744073709551616) = ((x * m % 18446744073709551616 : Nat) : Int) by simp, HA.out, Oper.upon_value]
      go_wp2
      have hsum : IntKind.u64.wrap ((x : Int) * (m : Int) / 18446744073709551616 + ((x : Int) * (m : Int) % 18446744073709551616 + (Tryz.timesC m ([a0, a1, a2, a3].take j) 0 : Nat)) / 18446744073709551616) = ((Tryz.timesC m ([a0, a1, a2, a3].take (j + 1)) 0 : Nat) : Int) := by
        have hc := Tryz.timesC_lt hm ([a0, a1, a2, a3].take j) 0 (fun y hy => HB.out y (List.mem_of_mem_take hy)) (by omega)
        have hc1 := Tryz.timesC_lt hm ([a0, a1, a2, a3].take (j + 1)) 0 (fun y hy => HB.out y (List.mem_of_mem_take hy)) (by omega)
        rw [HTK.out, Tryz.timesC_snoc] at hc1 ⊢
        rw [IntKind.wrap_u64]
        have hp : ((x * m : Nat) : Int) = (x : Int) * (m : Int) := by simp
        rw [← hp]
        generalize x * m = q at *
        omega
      refine ⟨⟨j + 1, by omega, by simp, by rw [hsum], ?_, ?_, ?_, ?_, fun k hk => ?_, HSO.out⟩, by simp [intOf]; omega⟩
      · rw [Tryz.bother (by omega)]; exact HBX.out
      · rw [Tryz.bother (by omega)]; exact HR.out
      · have := Tryz.bset (j := j) (v := .int .u64 (((x * m + Tryz.timesC m ([a0, a1, a2, a3].take j) 0) % 18446744073709551616 : Nat) : Int)) HO.out
        rw [Tryz.u64c_set, Tryz.take_put HLEN.out (by omega)] at this
        rw [HTK.out, Tryz.timesL_snoc]
        simpa using this
      · rw [Tryz.bsize]; exact HS.out
      · rw [Tryz.bother (by omega)]; exact HK.out k hk
    · obtain rfl : j = 4 := by omega
      obtain ⟨o0, o1, o2, o3, ho⟩ : ∃ o0 o1 o2 o3, Tryz.timesL m [a0, a1, a2, a3] 0 = [o0, o1, o2, o3] := ⟨_, _, _, _, rfl⟩
      have HO := Lib.hid ho
      rw [show [a0, a1, a2, a3].take 4 = [a0, a1, a2, a3] from rfl, ho, show [o0, o1, o2, o3] ++ List.replicate (4 - 4) 0 = [o0, o1, o2, o3] from rfl] at hout
      clear ho
      have f0 : wi.cell? ⟨w.heap.size + 1 + 1, 0, none⟩ = some (.int .u64 o0) := Tryz.bcell hout rfl
      have f1 : wi.cell? ⟨w.heap.size + 1 + 1, 1, none⟩ = some (.int .u64 o1) := Tryz.bcell hout rfl
      have f2 : wi.cell? ⟨w.heap.size + 1 + 1, 2, none⟩ = some (.int .u64 o2) := Tryz.bcell hout rfl
      have f3 : wi.cell? ⟨w.heap.size + 1 + 1, 3, none⟩ = some (.int .u64 o3) := Tryz.bcell hout rfl
      have g0 : wi.cell? ⟨w.heap.size + 1, 0, none⟩ = some (.int .u64 0) := Tryz.bcell hres rfl
      have e0 := Tryz.bfrozen (j := 0) hres
      have g1 : wi.cell? ⟨w.heap.size + 1, 1, none⟩ = some (.int .u64 0) := Tryz.bcell hres rfl
      have e1 := Tryz.bfrozen (j := 1) hres
      have g2 : wi.cell? ⟨w.heap.size + 1, 2, none⟩ = some (.int .u64 0) := Tryz.bcell hres rfl
      have e2 := Tryz.bfrozen (j := 2) hres
      have g3 : wi.cell? ⟨w.heap.size + 1, 3, none⟩ = some (.int .u64 0) := Tryz.bcell hres rfl
      have e3 := Tryz.bfrozen (j := 3) hres
      have HR := Lib.hid hres
      have HS := Lib.hid hsz
      have HK := Lib.hid hkp
      have HSO := Lib.hid hso
      clear hbox hres hout hsz hkp hso
      go_wp2
      refine bodyPost_ret (v := .agg (Tryz.u64c (Tryz.timesL m [a0, a1, a2, a3] 0))) ?_ rfl ⟨rfl, ?_⟩
      · rw [HO.out]
        exact Tryz.res185 rfl _ _ _ o0 o1 o2 o3 rfl (Tryz.four_at o0 o1 o2 o3 HR.out)
      · exact Tryz.four_ext o0 o1 o2 o3 (by omega) (by rw [HS.out]; omega) HK.out HSO.out
end Go.Proofs
/- Wide numbers: wideOf, shifted. -/
namespace Go.Proofs
open Go.RowKit
theorem Tryz.wideOf260 (x : Nat) (w : World) :
    Calls Tryz.prog 260 #[.int .u64 x] w fun e w' => e = .returned (.agg (Tryz.u64c [x, 0, 0, 0])) ∧ Tryz.Ext w w' := by
  go_enter Tryz.func260, Tryz.ntmps260
  go_wp2
  refine bodyPost_ret (v := .agg (Tryz.u64c [x, 0, 0, 0])) ?_ rfl ⟨rfl, ?_⟩
  · exact Tryz.res185 rfl _ _ _ x 0 0 0 rfl (Tryz.bnew _ _)
  · exact ⟨by simp, fun k hk => Below.heap_alloc _ _ _ hk, rfl, rfl⟩
def Tryz.shiftF : Nat → List Nat → List Nat
  | 0, a => a
  | n + 1, a => Tryz.timesL 10 (Tryz.shiftF n a) 0
theorem Tryz.shiftF_len : ∀ (n : Nat) (a : List Nat), (Tryz.shiftF n a).length = a.length
  | 0, _ => rfl
  | n + 1, a => by rw [Tryz.shiftF, Tryz.timesL_len, Tryz.shiftF_len n a]
theorem Tryz.timesL_lt (m : Nat) : ∀ (l : List Nat) (c : Nat), ∀ x ∈ Tryz.timesL m l c, x < 18446744073709551616
  | [], _, x, hx => by cases hx
  | y :: r, c, x, hx => by
    rcases List.mem_cons.1 hx with rfl | hx
    · exact Nat.mod_lt _ (by omega)
    · exact Tryz.timesL_lt m r _ x hx
theorem Tryz.shiftF_lt {a : List Nat} (h : ∀ x ∈ a, x < 18446744073709551616) : ∀ n, ∀ x ∈ Tryz.shiftF n a, x < 18446744073709551616
  | 0 => h
  | n + 1 => Tryz.timesL_lt _ _ _
theorem Tryz.four_over {wi : World} {q : Nat} {z0 z1 z2 z3 : Nat} (o0 o1 o2 o3 : Nat) (h : wi.heap[q]? = some (.cells (Tryz.u64c [z0, z1, z2, z3]) 185)) : (Tryz.four wi q o0 o1 o2 o3).heap[q]? = some (.cells (Tryz.u64c [o0, o1, o2, o3]) 185) := by
  have h0 := Tryz.bset (j := 0) (v := .int .u64 (o0 : Int)) h
  rw [Tryz.u64c_set] at h0
  have h1 := Tryz.bset (j := 1) (v := .int .u64 (o1 : Int)) h0
  rw [Tryz.u64c_set] at h1
  have h2 := Tryz.bset (j := 2) (v := .int .u64 (o2 : Int)) h1
  rw [Tryz.u64c_set] at h2
  have h3 := Tryz.bset (j := 3) (v := .int .u64 (o3 : Int)) h2
  rw [Tryz.u64c_set] at h3
  exact h3
theorem Tryz.len4 {a : List Nat} (h : a.length = 4) : ∃ a0 a1 a2 a3, a = [a0, a1, a2, a3] := by
  match a, h with
  | [a0, a1, a2, a3], _ => exact ⟨a0, a1, a2, a3, rfl⟩
set_option maxRecDepth 100000 in
set_option maxHeartbeats 4000000 in
theorem Tryz.shifted261 (a : List Nat) (h4 : a.length = 4) (hb : ∀ x ∈ a, x < 18446744073709551616) (n : Nat) (hn : n ≤ 1000) (w : World) :
    Calls Tryz.prog 261 #[.agg (Tryz.u64c a), .int .i64 n] w fun e w' => e = .returned (.agg (Tryz.u64c (Tryz.shiftF n a))) ∧ Tryz.Ext w w' := by
  have hT := fun a h4 hb w => Tryz.times306 a h4 hb 10 (by omega) w
  have HT := Lib.hid hT
  have HB := Lib.hid hb
  have H4 := Lib.hid h4
  obtain ⟨a0, a1, a2, a3, ha⟩ := Tryz.len4 h4
  have HA := Lib.hid ha
  clear hT hb h4 
  rw [show Value.agg (Tryz.u64c a) = .agg #[.int .u64 a0, .int .u64 a1, .int .u64 a2, .int .u64 a3] by rw [ha]; rfl]
  clear ha
  go_enter Tryz.func261, Tryz.ntmps261
  go_wp2
  go_loopw [6] (fun i wr => ∃ j : Nat, j ≤ n ∧ i = .int .i64 j ∧ wr.heap[w.heap.size]? = some (.cells (Tryz.u64c (Tryz.shiftF j a)) 185) ∧ wr.heap[w.heap.size + 1]? = some (.cells (Tryz.u64c [0, 0, 0, 0]) 185) ∧
      w.heap.size + 2 ≤ wr.heap.size ∧ (∀ k, k < w.heap.size → wr.heap[k]? = w.heap[k]?) ∧ Go.XR.SameOut wr w) (fun i _ => n - (intOf i).toNat)
  case atStart =>
    refine ⟨0, by omega, rfl, ?_, ?_, ?_, fun k hk => ?_, rfl, rfl⟩
    · rw [Below.heap_alloc _ _ _ (by simp), Tryz.bnew, Tryz.shiftF, HA.out]; rfl
    · have h := Tryz.bnew (w.alloc (Obj.cells #[Value.int IntKind.u64 a0, Value.int IntKind.u64 a1, Value.int IntKind.u64 a2, Value.int IntKind.u64 a3] 185)) (Obj.cells #[Value.int IntKind.u64 0, Value.int IntKind.u64 0, Value.int IntKind.u64 0, Value.int IntKind.u64 0] 185)
      rw [show (w.alloc (Obj.cells #[Value.int IntKind.u64 a0, Value.int IntKind.u64 a1, Value.int IntKind.u64 a2, Value.int IntKind.u64 a3] 185)).heap.size = w.heap.size + 1 by simp] at h
      exact h
    · simp
    · rw [Below.heap_alloc _ _ _ (by simp; omega), Below.heap_alloc _ _ _ hk]
  case round =>
    revert wr
    intro wi hrel
    obtain ⟨j, hj, rfl, hbox, hres, hsz, hkp, hso⟩ := hrel
    obtain ⟨z0, z1, z2, z3, hz⟩ := Tryz.len4 ((Tryz.shiftF_len j a).trans H4.out)
    rw [hz] at hbox
    have f0 : wi.cell? ⟨w.heap.size, 0, none⟩ = some (.int .u64 z0) := Tryz.bcell hbox rfl
    have f1 : wi.cell? ⟨w.heap.size, 1, none⟩ = some (.int .u64 z1) := Tryz.bcell hbox rfl
    have f2 : wi.cell? ⟨w.heap.size, 2, none⟩ = some (.int .u64 z2) := Tryz.bcell hbox rfl
    have f3 : wi.cell? ⟨w.heap.size, 3, none⟩ = some (.int .u64 z3) := Tryz.bcell hbox rfl
    have HZ := Lib.hid hz
    by_cases hlt : j < n
    · have ht := HT.out [z0, z1, z2, z3] rfl (by rw [← hz]; exact Tryz.shiftF_lt HB.out j)
      have HTT := Lib.hid ht
      obtain ⟨y0, y1, y2, y3, hy⟩ := Tryz.len4 (Tryz.timesL_len 10 [z0, z1, z2, z3] 0)
      have HY := Lib.hid hy
      have HBX := Lib.hid hbox
      have HR := Lib.hid hres
      have HS := Lib.hid hsz
      have HK := Lib.hid hkp
      have HSO := Lib.hid hso
      clear ht hz hy hbox hres hsz hkp hso
      have hln : (j : Int) < (n : Int) := by omega
      go_wp2_with (go_at_call 306; refine (HTT.out _).mono ?_; rintro e w' ⟨rfl, hx⟩; rw [HY.out, show Tryz.u64c [y0, y1, y2, y3] = #[.int .u64 y0, .int .u64 y1, .int .u64 y2, .int .u64 y3] from rfl]; have g := (hx.2 w.heap.size (by have := HS.out; omega)).trans HBX.out; have g0 := Tryz.bcell (j := 0) g rfl; have g1 := Tryz.bcell (j := 1) g rfl; have g2 := Tryz.bcell (j := 2) g rfl; have g3 := Tryz.bcell (j := 3) g rfl; have e0 := Tryz.bfrozen (j := 0) g; have e1 := Tryz.bfrozen (j := 1) g; have e2 := Tryz.bfrozen (j := 2) g; have e3 := Tryz.bfrozen (j := 3) g; have HG := Lib.hid g; have HX := Lib.hid hx; clear hx g)
      refine ⟨⟨j + 1, by omega, by simp, ?_, ?_, ?_, fun k hk => ?_, HX.out.3.trans HSO.out⟩, by simp [intOf]; omega⟩
      · rw [Tryz.shiftF, HZ.out, HY.out]
        exact Tryz.four_over y0 y1 y2 y3 HG.out
      · rw [Tryz.bother (by omega), Tryz.bother (by omega), Tryz.bother (by omega), Tryz.bother (by omega), HX.out.2 _ (by have := HS.out; omega)]
        exact HR.out
      · simp only [Tryz.bsize]
        have := HX.out.1
        have := HS.out
        omega
      · rw [Tryz.bother (by omega), Tryz.bother (by omega), Tryz.bother (by omega), Tryz.bother (by omega), HX.out.2 _ (by have := HS.out; omega)]
        exact HK.out k hk
    · obtain rfl : j = n := by omega
      have g0 : wi.cell? ⟨w.heap.size + 1, 0, none⟩ = some (.int .u64 0) := Tryz.bcell hres rfl
      have g1 : wi.cell? ⟨w.heap.size + 1, 1, none⟩ = some (.int .u64 0) := Tryz.bcell hres rfl
      have g2 : wi.cell? ⟨w.heap.size + 1, 2, none⟩ = some (.int .u64 0) := Tryz.bcell hres rfl
      have g3 : wi.cell? ⟨w.heap.size + 1, 3, none⟩ = some (.int .u64 0) := Tryz.bcell hres rfl
      have e0 := Tryz.bfrozen (j := 0) hres
      have e1 := Tryz.bfrozen (j := 1) hres
      have e2 := Tryz.bfrozen (j := 2) hres
      have e3 := Tryz.bfrozen (j := 3) hres
      have HR := Lib.hid hres
      have HS := Lib.hid hsz
      have HK := Lib.hid hkp
      have HSO := Lib.hid hso
      clear hz hbox hres hsz hkp hso
      go_wp2
      refine bodyPost_ret (v := .agg (Tryz.u64c (Tryz.shiftF j a))) ?_ rfl ⟨rfl, ?_⟩
      · rw [HZ.out]
        exact Tryz.res185 rfl _ _ _ z0 z1 z2 z3 rfl (Tryz.four_at z0 z1 z2 z3 HR.out)
      · exact Tryz.four_ext z0 z1 z2 z3 (by omega) (by have := HS.out; omega) HK.out HSO.out
end Go.Proofs
/- Wide numbers: amount, compare. -/
namespace Go.Proofs
open Go.RowKit
set_option maxRecDepth 100000 in
set_option maxHeartbeats 4000000 in
theorem Tryz.amount191 (N S : Int) (hN : -4000000000000000000 ≤ N) (hN2 : N ≤ 4000000000000000000) (n : Nat) (hn : n ≤ 1000) (w : World) :
    Calls Tryz.prog 191 #[.agg #[.int .i64 N, .int .i64 S], .int .i64 n] w fun e w' => e = .returned (.agg (Tryz.u64c (Tryz.shiftF n [N.natAbs, 0, 0, 0]))) ∧ Tryz.Ext w w' := by
  have hW := fun w => Tryz.wideOf260 N.natAbs w
  have hS := fun w => Tryz.shifted261 [N.natAbs, 0, 0, 0] rfl (by intro x hx; simp at hx; rcases hx with rfl | rfl <;> omega) n hn w
  have HW := Lib.hid hW
  have HS := Lib.hid hS
  clear hW hS
  obtain ⟨z0, z1, z2, z3, hz⟩ := Tryz.len4 ((Tryz.shiftF_len n [N.natAbs, 0, 0, 0]).trans rfl)
  have HZ := Lib.hid hz
  clear hz
  have hneg : IntKind.i64.wrap (-N) = -N := by rw [IntKind.wrap_i64] <;> omega
  rcases Int.lt_or_le N 0 with h0 | h0
  · have hmx : N < -N := by omega
    have hcv : IntKind.u64.wrap (-N) = (N.natAbs : Int) := by rw [IntKind.wrap_u64]; omega
    go_enter Tryz.func191, Tryz.ntmps191
    go_wp2_with (first
      | (go_at_call 260; refine (HW.out _).mono ?_; rintro e w' ⟨rfl, hx⟩; have HX := Lib.hid hx; clear hx)
      | (go_at_call 261; refine (HS.out _).mono ?_; rintro e w'' ⟨rfl, hy⟩; rw [HZ.out, show Tryz.u64c [z0, z1, z2, z3] = #[.int .u64 z0, .int .u64 z1, .int .u64 z2, .int .u64 z3] from rfl]
         have hb0 : ((w.alloc (Obj.cells #[Value.int IntKind.i64 N, Value.int IntKind.i64 S] 33)).alloc (Obj.cells #[Value.int IntKind.u64 0, Value.int IntKind.u64 0, Value.int IntKind.u64 0, Value.int IntKind.u64 0] 185)).heap[w.heap.size + 1]? = some (.cells (Tryz.u64c [0, 0, 0, 0]) 185) := by
           have h := Tryz.bnew (w.alloc (Obj.cells #[Value.int IntKind.i64 N, Value.int IntKind.i64 S] 33)) (Obj.cells #[Value.int IntKind.u64 0, Value.int IntKind.u64 0, Value.int IntKind.u64 0, Value.int IntKind.u64 0] 185)
           rw [show (w.alloc (Obj.cells #[Value.int IntKind.i64 N, Value.int IntKind.i64 S] 33)).heap.size = w.heap.size + 1 by simp] at h
           exact h
         have hall := HX.out.trans hy
         have g := (hall.2 (w.heap.size + 1) (by simp)).trans hb0
         have g0 := Tryz.bcell (j := 0) g rfl; have g1 := Tryz.bcell (j := 1) g rfl; have g2 := Tryz.bcell (j := 2) g rfl; have g3 := Tryz.bcell (j := 3) g rfl
         have e0 := Tryz.bfrozen (j := 0) g; have e1 := Tryz.bfrozen (j := 1) g; have e2 := Tryz.bfrozen (j := 2) g; have e3 := Tryz.bfrozen (j := 3) g
         have HG := Lib.hid g; have HALL := Lib.hid hall; clear hy g hall hb0))
    refine bodyPost_ret (v := .agg (Tryz.u64c (Tryz.shiftF n [N.natAbs, 0, 0, 0]))) ?_ rfl ⟨rfl, ?_⟩
    · rw [HZ.out]
      exact Tryz.res185 rfl _ _ _ z0 z1 z2 z3 rfl (Tryz.four_at z0 z1 z2 z3 HG.out)
    · have hE : Tryz.Ext w ((w.alloc (Obj.cells #[Value.int IntKind.i64 N, Value.int IntKind.i64 S] 33)).alloc (Obj.cells #[Value.int IntKind.u64 0, Value.int IntKind.u64 0, Value.int IntKind.u64 0, Value.int IntKind.u64 0] 185)) :=
        ⟨by simp; omega, fun k hk => by rw [Below.heap_alloc _ _ _ (by simp; omega), Below.heap_alloc _ _ _ hk], rfl, rfl⟩
      have hF := hE.trans HALL.out
      exact Tryz.four_ext z0 z1 z2 z3 (by omega) hF.1 hF.2 hF.3
  · have hmx : ¬ (N < -N) := by omega
    have hcv : IntKind.u64.wrap N = (N.natAbs : Int) := by rw [IntKind.wrap_u64]; omega
    go_enter Tryz.func191, Tryz.ntmps191
    go_wp2_with (first
      | (go_at_call 260; refine (HW.out _).mono ?_; rintro e w' ⟨rfl, hx⟩; have HX := Lib.hid hx; clear hx)
      | (go_at_call 261; refine (HS.out _).mono ?_; rintro e w'' ⟨rfl, hy⟩; rw [HZ.out, show Tryz.u64c [z0, z1, z2, z3] = #[.int .u64 z0, .int .u64 z1, .int .u64 z2, .int .u64 z3] from rfl]
         have hb0 : ((w.alloc (Obj.cells #[Value.int IntKind.i64 N, Value.int IntKind.i64 S] 33)).alloc (Obj.cells #[Value.int IntKind.u64 0, Value.int IntKind.u64 0, Value.int IntKind.u64 0, Value.int IntKind.u64 0] 185)).heap[w.heap.size + 1]? = some (.cells (Tryz.u64c [0, 0, 0, 0]) 185) := by
           have h := Tryz.bnew (w.alloc (Obj.cells #[Value.int IntKind.i64 N, Value.int IntKind.i64 S] 33)) (Obj.cells #[Value.int IntKind.u64 0, Value.int IntKind.u64 0, Value.int IntKind.u64 0, Value.int IntKind.u64 0] 185)
           rw [show (w.alloc (Obj.cells #[Value.int IntKind.i64 N, Value.int IntKind.i64 S] 33)).heap.size = w.heap.size + 1 by simp] at h
           exact h
         have hall := HX.out.trans hy
         have g := (hall.2 (w.heap.size + 1) (by simp)).trans hb0
         have g0 := Tryz.bcell (j := 0) g rfl; have g1 := Tryz.bcell (j := 1) g rfl; have g2 := Tryz.bcell (j := 2) g rfl; have g3 := Tryz.bcell (j := 3) g rfl
         have e0 := Tryz.bfrozen (j := 0) g; have e1 := Tryz.bfrozen (j := 1) g; have e2 := Tryz.bfrozen (j := 2) g; have e3 := Tryz.bfrozen (j := 3) g
         have HG := Lib.hid g; have HALL := Lib.hid hall; clear hy g hall hb0))
    refine bodyPost_ret (v := .agg (Tryz.u64c (Tryz.shiftF n [N.natAbs, 0, 0, 0]))) ?_ rfl ⟨rfl, ?_⟩
    · rw [HZ.out]
      exact Tryz.res185 rfl _ _ _ z0 z1 z2 z3 rfl (Tryz.four_at z0 z1 z2 z3 HG.out)
    · have hE : Tryz.Ext w ((w.alloc (Obj.cells #[Value.int IntKind.i64 N, Value.int IntKind.i64 S] 33)).alloc (Obj.cells #[Value.int IntKind.u64 0, Value.int IntKind.u64 0, Value.int IntKind.u64 0, Value.int IntKind.u64 0] 185)) :=
        ⟨by simp; omega, fun k hk => by rw [Below.heap_alloc _ _ _ (by simp; omega), Below.heap_alloc _ _ _ hk], rfl, rfl⟩
      have hF := hE.trans HALL.out
      exact Tryz.four_ext z0 z1 z2 z3 (by omega) hF.1 hF.2 hF.3
end Go.Proofs
