/- Part 20 of the proof. -/
import Derived.RangeFuncBox
import Derived.RangeFuncLeaves
import Derived.RangeFuncWrites
import Derived.Shelf.Abstract
import Derived.WalkKit
import Derived.OwnWalkIn
import Derived.TacticsInMore
import Derived.LoopNIn
import Derived.LoopIn
import Derived.KernelRfl
import Derived.Lib.Hide
import Derived.Test.YtnmkgbomiillgaaGreatDoorProg
import Derived.Laws.OwnMore
import Derived.Test.YtnmkgbomiillgaaGreatDoorP13
import Derived.Test.YtnmkgbomiillgaaGreatDoorP12
import Derived.Test.YtnmkgbomiillgaaGreatDoorP14
/- slices.Backward at a slice of ints: its iterator's contract. -/
namespace Go.Proofs
open Go.RowKit Go.Shelf
attribute [local go_sem] Oper.semAt_some

/-- What has come when k rounds are over. -/
def Tryz.upto {α : Type} (f : Nat → α) (k : Nat) : List α := (List.range k).map f
theorem Tryz.upto_succ {α : Type} (f : Nat → α) (k : Nat) : Tryz.upto f (k + 1) = Tryz.upto f k ++ [f k] := by simp [Tryz.upto, List.range_succ]
theorem Tryz.upto_length {α : Type} (f : Nat → α) (k : Nat) : (Tryz.upto f k).length = k := by simp [Tryz.upto]
/-- The pairs that come, from the last one on. -/
def Tryz.bk (zs : List Int) (j : Nat) : Nat × Int := (zs.length - 1 - j, zs[zs.length - 1 - j]?.getD 0)

set_option maxRecDepth 100000 in
set_option maxHeartbeats 2000000 in
theorem Tryz.back1_in (F : Fence) (n : Nat) (h107 : F.fn 107) (hro : F.round = none) (hn : 1 ≤ n) (l Bs b off cap : Nat) (zs : List Int) (hreach : zs.length * 8 ≤ 140737488351232) (Kp : World → World → Prop)
    (hKB : ∀ {A B : World}, Kp A B → B.cell? ⟨Bs, 0, none⟩ = A.cell? ⟨Bs, 0, none⟩) (hKc : ∀ {A B : World}, Kp A B → ∀ j, B.cell? ⟨b, off + j, none⟩ = A.cell? ⟨b, off + j, none⟩) {α : Type} (pr : α → Nat × Int) (f : Nat → α) (hf : ∀ j, pr (f j) = Tryz.bk zs j) (J Jx : List α → World → Prop)
    (hY : ∀ pre (x : α) W, J pre W → pre.length < zs.length → YieldAt F (n - 1) Tryz.prog l #[.int .i64 ((pr x).1 : Int), .int .i64 (pr x).2] W fun e W' =>
      (e = .returned (.bool true) ∧ J (pre ++ [x]) W' ∧ Kp W W') ∨ (e = .returned (.bool false) ∧ Jx (pre ++ [x]) W'))
    (W : World) (hBs : W.cell? ⟨Bs, 0, none⟩ = some (.slice (some ⟨b, off, none⟩) zs.length cap)) (hc : ∀ j, j < zs.length → W.cell? ⟨b, off + j, none⟩ = some (.int .i64 (zs[j]?.getD 0))) (h0 : J [] W) :
    CallsIn F n Tryz.prog 107 #[.func (.yield l) #[] #[], .pointer (some ⟨Bs, 0, none⟩)] W fun e W' => (∃ v, e = .returned v) ∧
      ((∃ ys, ys = Tryz.upto f zs.length ∧ J ys W') ∨ (∃ pre, (∃ k, k ≤ zs.length ∧ pre = Tryz.upto f k) ∧ Jx pre W')) := by
  have hreach' : (zs.length : Int) * 8 ≤ 140737488351232 := by omega
  refine callsIn_of_wp Tryz.func107 rfl h107 ?_ hro
  simp only [Tryz.ntmps107, List.size_toArray, List.length_cons, List.length_nil, Nat.reduceAdd, Nat.reduceSub, Array.replicate_succ, Array.replicate_zero, List.push_toArray, List.append_toArray, List.nil_append, List.cons_append]
  gi_wp2
  gi_loopw [3] (fun i wr => ∃ m : Nat, m ≤ zs.length ∧ i = .int .i64 ((m : Int) - 1) ∧ J (Tryz.upto f (zs.length - m)) wr ∧ wr.cell? ⟨Bs, 0, none⟩ = some (.slice (some ⟨b, off, none⟩) zs.length cap) ∧ ∀ j, j < zs.length → wr.cell? ⟨b, off + j, none⟩ = some (.int .i64 (zs[j]?.getD 0)))
    (fun i _ => (intOf i + 1).toNat)
  case atStart => exact ⟨zs.length, Nat.le_refl _, rfl, by rw [Nat.sub_self]; exact h0, hBs, hc⟩
  case round =>
    obtain ⟨m, hm, rfl, hJs, hB, hcx⟩ := hrel
    cases m with
    | zero =>
      rw [show (((0 : Nat) : Int) - 1) = -1 by rfl]
      have HJ := Lib.hid hJs; clear hJs hcx hc hBs
      gi_wp2
      go_end0
      exact ⟨⟨_, rfl⟩, .inl ⟨_, rfl, HJ.out⟩⟩
    | succ m =>
      rw [show (((m + 1 : Nat) : Int) - 1) = (m : Int) by omega]
      have hlt : m < zs.length := hm
      have hcx' := hcx m hlt
      obtain ⟨fn, tmps, assign, body, hy, hR⟩ := hY _ (f (zs.length - (m + 1))) wr hJs (by rw [Tryz.upto_length]; omega)
      have e1 : (pr (f (zs.length - (m + 1)))).1 = m := by simp only [hf, Tryz.bk]; omega
      have e2 : (pr (f (zs.length - (m + 1)))).2 = zs[m] := by simp only [hf, Tryz.bk]; rw [show zs.length - 1 - (zs.length - (m + 1)) = m by omega, List.getElem?_eq_getElem hlt]; rfl
      rw [e1, e2] at hy
      have HJ := Lib.hid hJs
      have HX := Lib.hid hcx
      clear hJs hcx hc hBs e1 e2
      gi_wp2
      refine hR.mono ?_
      rintro e W3 (⟨rfl, hJ3, hk3⟩ | ⟨rfl, hJx3⟩)
      · have HB3 := Lib.hid ((hKB hk3).trans hB)
        have HX3 := Lib.hid (fun j (hj : j < zs.length) => (hKc hk3 j).trans (HX.out j hj))
        have HJ3 := Lib.hid hJ3
        clear hJ3 hk3 hB hcx'
        gi_wp2
        go_roundw
        case rel =>
          refine ⟨m, by omega, rfl, ?_, HB3.out, HX3.out⟩
          rw [show zs.length - m = (zs.length - (m + 1)) + 1 by omega, Tryz.upto_succ]
          exact HJ3.out
        case measure => simp [intOf]
      · gi_wp2
        refine bodyPost_ret (results_none rfl _ _ _) rfl ?_
        exact ⟨⟨_, rfl⟩, .inr ⟨_, ⟨zs.length - (m + 1) + 1, by omega, (Tryz.upto_succ _ _).symm⟩, hJx3⟩⟩

set_option maxRecDepth 100000 in
set_option maxHeartbeats 1000000 in
/-- .. at a slice without elements: no round. -/
theorem Tryz.back1_nil_in (F : Fence) (n : Nat) (h107 : F.fn 107) (hro : F.round = none) (l Bs : Nat) {α : Type} (J : List α → World → Prop) (W : World) (sa : Option Addr) (sc : Nat) (hBs : W.cell? ⟨Bs, 0, none⟩ = some (.slice sa 0 sc)) (h0 : J [] W) :
    CallsIn F n Tryz.prog 107 #[.func (.yield l) #[] #[], .pointer (some ⟨Bs, 0, none⟩)] W fun e W' => (∃ v, e = .returned v) ∧ J [] W' := by
  refine callsIn_of_wp Tryz.func107 rfl h107 ?_ hro
  simp only [Tryz.ntmps107, List.size_toArray, List.length_cons, List.length_nil, Nat.reduceAdd, Nat.reduceSub, Array.replicate_succ, Array.replicate_zero, List.push_toArray, List.append_toArray, List.nil_append, List.cons_append]
  gi_wp2
  gi_loopw [3] (fun i wr => i = .int .i64 (-1) ∧ J [] wr) (fun _ _ => 0)
  case atStart => exact ⟨rfl, h0⟩
  case round =>
    obtain ⟨rfl, hJs⟩ := hrel
    gi_wp2
    go_end0
    exact ⟨⟨_, rfl⟩, hJs⟩
set_option maxHeartbeats 1000000 in
/-- slices.Backward: the slice value is boxed; the function value captures the box. -/
theorem Tryz.back_in (F : Fence) (n : Nat) (h52 : F.fn 52) (hro : F.round = none) (a : Option Addr) (len cap : Nat) (w : World) :
    CallsIn F n Tryz.prog 52 #[.slice a len cap] w fun e w' => e = .returned (.func (.func 107) #[] #[.pointer (some ⟨w.heap.size, 0, none⟩)]) ∧ w' = w.alloc (.cells #[.slice a len cap] 66) := by
  refine callsIn_of_wp Tryz.func52 rfl h52 ?_ hro
  simp only [Tryz.ntmps52, List.size_toArray, List.length_cons, List.length_nil, Nat.reduceAdd, Nat.reduceSub, Array.replicate_succ, Array.replicate_zero, List.push_toArray, List.append_toArray, List.nil_append, List.cons_append]
  gi_wp2
  go_ret
  exact ⟨rfl, rfl⟩

/-- The slice value holds the ints zs; or there are none. -/
def Tryz.Ints (W : World) (sv : Value) (zs : List Int) : Prop :=
  ((∃ sa sc, sv = .slice sa 0 sc) ∧ zs = []) ∨ ∃ b off cap, sv = .slice (some ⟨b, off, none⟩) zs.length cap ∧ b < W.heap.size ∧ ∀ j, j < zs.length → W.cell? ⟨b, off + j, none⟩ = some (.int .i64 (zs[j]?.getD 0))
/-- All blocks that are there but one. -/
def Tryz.KeepBut (n x : Nat) (A B : World) : Prop := ∀ k, k < n → k ≠ x → B.heap[k]? = A.heap[k]?
theorem Tryz.KeepBut.cell {n x : Nat} {A B : World} (h : Tryz.KeepBut n x A B) {b o : Nat} (hb : b < n) (hx : b ≠ x) : B.cell? ⟨b, o, none⟩ = A.cell? ⟨b, o, none⟩ := by
  simp only [World.cell?, h b hb hx]
/-- The iterator's contract, where the loop's body writes one block alone. -/
theorem Tryz.back_stops (F : Fence) (n : Nat) (h107 : F.fn 107) (hro : F.round = none) (hn : 1 ≤ n) (Bs x : Nat) (sv : Value) (zs : List Int) (hreach : zs.length * 8 ≤ 140737488351232) (w : World) (hBs : Bs < w.heap.size) (hx : Bs ≠ x)
    (hc : w.cell? ⟨Bs, 0, none⟩ = some sv) (hI : Tryz.Ints w sv zs) (hxb : ∀ b off cap l, sv = .slice (some ⟨b, off, none⟩) l cap → zs ≠ [] → b ≠ x) {α : Type} (pr : α → Nat × Int) (f : Nat → α) (hf : ∀ j, pr (f j) = Tryz.bk zs j) :
    SeqStopsK F n Tryz.prog 107 #[.pointer (some ⟨Bs, 0, none⟩)] (fun x : α => #[Value.int .i64 ((pr x).1 : Int), Value.int .i64 (pr x).2]) (Tryz.KeepBut w.heap.size x) (fun ys => ys = Tryz.upto f zs.length)
      (fun pre => ∃ k, k ≤ zs.length ∧ pre = Tryz.upto f k) zs.length w := fun l J Jx W hW _ _ hY h0 => by
  have hc' := (hW.cell (p := ⟨Bs, 0, none⟩) hBs).trans hc
  rcases hI with ⟨⟨sa, sc, rfl⟩, rfl⟩ | ⟨b, off, cap, rfl, hb, hcs⟩
  · exact (Tryz.back1_nil_in F n h107 hro l Bs J W sa sc hc' h0).mono fun e W' ⟨he, hj⟩ => ⟨he, .inl ⟨_, rfl, hj⟩⟩
  · by_cases hz : zs = []
    · subst hz
      exact (Tryz.back1_nil_in F n h107 hro l Bs J W _ cap hc' h0).mono fun e W' ⟨he, hj⟩ => ⟨he, .inl ⟨_, rfl, hj⟩⟩
    · exact Tryz.back1_in F n h107 hro hn l Bs b off cap zs hreach _ (fun h => h.cell hBs hx) (fun h j => h.cell hb (hxb _ _ _ _ rfl hz)) pr f hf J Jx hY W hc' (fun j hj => (hW.cell (p := ⟨b, off + j, none⟩) hb).trans (hcs j hj)) h0
end Go.Proofs
/- sql.isTree: its contract at every list of nodes whose operands are indices. -/
namespace Go.Proofs
open Go.RowKit Go.Shelf
attribute [local go_sem] Oper.semAt_some

/-- A node, as it lies. -/
structure Tryz.Nd where
  k : Int
  n : Int
  s : Int
  f : ByteArray
  t : ByteArray
  sa : Option Addr
  sl : Nat
  sc : Nat
  zs : List Int
def Tryz.Nd.cells (x : Tryz.Nd) : List Value := [.int .i64 x.k, .int .i64 x.n, .int .i64 x.s, .string x.f, .string x.t, .slice x.sa x.sl x.sc]
def Tryz.NodesAt (w : World) (b o : Nat) (es : List Tryz.Nd) : Prop :=
  b < w.heap.size ∧ ∀ (i : Nat) (x : Tryz.Nd), es[i]? = some x → (∀ (j : Nat) (v : Value), x.cells[j]? = some v → w.cell? ⟨b, o + i * 6 + j, none⟩ = some v) ∧ Tryz.Ints w (.slice x.sa x.sl x.sc) x.zs ∧ x.zs.length * 8 ≤ 140737488351232

/-! ### What it computes -/
def Tryz.stepI (beg : List Int) (nx : Int) (x : Nat × Int) : Option Int := if x.2 = nx then some (beg[x.2.toNat]?.getD 0 - 1) else none
def Tryz.innerF (beg : List Int) (i0 : Int) (pre : List (Nat × Int)) : Option Int := pre.foldlM (Tryz.stepI beg) i0
def Tryz.pairs (zs : List Int) : List (Nat × Int) := Tryz.upto (Tryz.bk zs) zs.length
theorem Tryz.map_upto {α β : Type} (g : α → β) (f : Nat → α) (k : Nat) : (Tryz.upto f k).map g = Tryz.upto (fun j => g (f j)) k := by simp [Tryz.upto]
/-- The first k nodes, over begins. -/
def Tryz.outerF (N : Nat) (es : List (List Int)) : Nat → Option (List Int)
  | 0 => some (List.replicate N 0)
  | k + 1 => (Tryz.outerF N es k).bind fun beg => (Tryz.innerF beg ((k : Int) - 1) (Tryz.pairs (es[k]?.getD []))).map fun nx => beg.set k (nx + 1)
def Tryz.treeF (es : List (List Int)) : Bool := match Tryz.outerF es.length es es.length with
  | some beg => decide (beg[es.length - 1]?.getD 0 = 0)
  | none => false
theorem Tryz.innerF_snoc (beg : List Int) (i0 : Int) (pre : List (Nat × Int)) (x : Nat × Int) : Tryz.innerF beg i0 (pre ++ [x]) = (Tryz.innerF beg i0 pre).bind fun nx => Tryz.stepI beg nx x := by
  simp only [Tryz.innerF, List.foldlM_append, List.foldlM_cons, List.foldlM_nil]
  cases List.foldlM (Tryz.stepI beg) i0 pre with
  | none => rfl
  | some nx => simp
theorem Tryz.upto_pre {α : Type} (f : Nat → α) {k n : Nat} (h : k ≤ n) : ∃ r, Tryz.upto f n = Tryz.upto f k ++ r := by
  induction n with
  | zero => exact ⟨[], by rw [show k = 0 by omega]; simp⟩
  | succ n ih =>
    by_cases e : k = n + 1
    · subst e; exact ⟨[], by simp⟩
    · obtain ⟨r, hr⟩ := ih (by omega)
      exact ⟨r ++ [f n], by rw [Tryz.upto_succ, hr, List.append_assoc]⟩
theorem Tryz.innerF_none {beg : List Int} {i0 : Int} {zs : List Int} {k : Nat} (hk : k ≤ zs.length) (h : Tryz.innerF beg i0 (Tryz.upto (Tryz.bk zs) k) = none) : Tryz.innerF beg i0 (Tryz.pairs zs) = none := by
  obtain ⟨r, hr⟩ := Tryz.upto_pre (Tryz.bk zs) hk
  unfold Tryz.pairs
  rw [hr]
  simp only [Tryz.innerF, List.foldlM_append] at h ⊢
  rw [h]; rfl
theorem Tryz.outerF_none {N : Nat} {es : List (List Int)} {k n : Nat} (hk : k ≤ n) (h : Tryz.outerF N es k = none) : Tryz.outerF N es n = none := by
  induction n with
  | zero => rw [show k = 0 by omega] at h; exact h
  | succ n ih =>
    by_cases e : k = n + 1
    · subst e; exact h
    · simp only [Tryz.outerF, ih (by omega)]; rfl
theorem Tryz.outerF_ok {N : Nat} {es : List (List Int)} : ∀ {k : Nat} {beg : List Int}, Tryz.outerF N es k = some beg → k ≤ N → beg.length = N
  | 0, beg, h, _ => by cases h; simp
  | k + 1, beg, h, hk => by
    simp only [Tryz.outerF, Option.bind_eq_some_iff, Option.map_eq_some_iff] at h
    obtain ⟨b0, h1, nx, h2, rfl⟩ := h
    have := Tryz.outerF_ok h1 (by omega)
    simp [this]

theorem Tryz.stepI_bd {N : Int} {beg : List Int} (hb : ∀ v ∈ beg, 0 ≤ v ∧ v ≤ N) (hN : 0 ≤ N) {nx nx' : Int} {x : Nat × Int} (h : Tryz.stepI beg nx x = some nx') : -1 ≤ nx' ∧ nx' ≤ N - 1 := by
  unfold Tryz.stepI at h
  split at h
  · cases h
    cases hg : beg[x.2.toNat]? with
    | none => simp; omega
    | some v =>
      have := hb v (List.mem_of_getElem? hg)
      simp; omega
  · cases h
theorem Tryz.innerF_bd {N : Int} {beg : List Int} (hb : ∀ v ∈ beg, 0 ≤ v ∧ v ≤ N) (hN : 0 ≤ N) {i0 : Int} (h0 : -1 ≤ i0 ∧ i0 ≤ N - 1) : ∀ {pre : List (Nat × Int)} {nx : Int}, Tryz.innerF beg i0 pre = some nx → -1 ≤ nx ∧ nx ≤ N - 1 := by
  intro pre
  suffices h : ∀ (l : List (Nat × Int)) (i0 nx : Int), -1 ≤ i0 ∧ i0 ≤ N - 1 → List.foldlM (Tryz.stepI beg) i0 l = some nx → -1 ≤ nx ∧ nx ≤ N - 1 from fun {nx} hn => h pre i0 nx h0 hn
  intro l
  induction l with
  | nil => intro i0 nx h0 h; cases h; exact h0
  | cons x l ih =>
    intro i0 nx h0 h
    simp only [List.foldlM_cons] at h
    cases hs : Tryz.stepI beg i0 x with
    | none => rw [hs] at h; cases h
    | some y => rw [hs] at h; exact ih y nx (Tryz.stepI_bd hb hN hs) h
theorem Tryz.outerF_bd {N : Nat} {es : List (List Int)} : ∀ {k : Nat} {beg : List Int}, k ≤ N → Tryz.outerF N es k = some beg → ∀ v ∈ beg, 0 ≤ v ∧ v ≤ (N : Int)
  | 0, beg, _, h, v, hv => by
    cases h
    have := (List.mem_replicate.1 hv).2
    omega
  | k + 1, beg, hk, h, v, hv => by
    simp only [Tryz.outerF, Option.bind_eq_some_iff, Option.map_eq_some_iff] at h
    obtain ⟨b0, h1, nx, h2, rfl⟩ := h
    have ih := Tryz.outerF_bd (by omega) h1
    have hn := Tryz.innerF_bd ih (by omega) (by omega) h2
    rcases List.mem_or_eq_of_mem_set hv with h | rfl
    · exact ih v h
    · omega

/-! ### Marks among the deferred calls -/
def Tryz.Marks : List Deferred → World → Prop
  | [], _ => True
  | d :: ds, w => (∃ r, d = { target := .collected r, args := #[] } ∧ w.heap[r]? = some (.deferred (some [])) ∧ ∀ d' ∈ ds, d' ≠ { target := .collected r, args := #[] }) ∧ Tryz.Marks ds w
theorem Tryz.Marks.mono {w w' : World} : ∀ {ds : List Deferred}, Tryz.Marks ds w → (∀ r, { target := .collected r, args := #[] } ∈ ds → w.heap[r]? = some (.deferred (some [])) → w'.heap[r]? = some (.deferred (some []))) → Tryz.Marks ds w'
  | [], _, _ => trivial
  | d :: ds, h, hk => by
    obtain ⟨⟨r, rfl, h1, h2⟩, h3⟩ := h
    exact ⟨⟨r, rfl, hk r (by simp) h1, h2⟩, h3.mono fun r' hr' => hk r' (List.mem_cons_of_mem _ hr')⟩
theorem Tryz.Marks.keeps {ds : List Deferred} {w w' : World} (h : Tryz.Marks ds w) (k : KeepsOthers w w') : Tryz.Marks ds w' := h.mono fun r _ hr => k.same r _ hr rfl
theorem Tryz.Marks.mem {w : World} : ∀ {ds : List Deferred}, Tryz.Marks ds w → ∀ r, { target := .collected r, args := #[] } ∈ ds → w.heap[r]? = some (.deferred (some []))
  | d :: ds, h, r, hr => by
    obtain ⟨⟨r', rfl, h1, h2⟩, h3⟩ := h
    rcases List.mem_cons.1 hr with e | hr
    · cases e; exact h1
    · exact h3.mem r hr
/-- Cells as they were, and all below n0. -/
structure Tryz.CellsAs (n0 : Nat) (w w' : World) : Prop where
  below : Below n0 w w'
  cells : ∀ (k : Nat) c t f, w.heap[k]? = some (.cells c t f) → w'.heap[k]? = some (.cells c t f)
theorem Tryz.leaves_marks {F : Fence} {n : Nat} {P : Program} {fn : Func} {tmps : Array Value} {R : Ending → World → Prop} {n0 : Nat} : ∀ (ds : List Deferred) (w : World), Tryz.Marks ds w → (∀ r, { target := .collected r, args := #[] } ∈ ds → n0 ≤ r) →
    (∀ w', Tryz.CellsAs n0 w w' → LeavesIn F n P fn tmps R [] .returning w') → LeavesInM F n P fn tmps R ds .returning w
  | [], w, _, _, h => h w ⟨Below.refl _ _, fun _ _ _ _ h => h⟩
  | d :: ds, w, hm, hn, h => by
    obtain ⟨⟨r, rfl, h1, h2⟩, h3⟩ := hm
    refine ⟨by simp, .inl ⟨r, _, rfl, run_takeDeferred h1, ?_⟩⟩
    have hoth : ∀ k, k ≠ r → (w.putObj r (.deferred none)).heap[k]? = w.heap[k]? := fun k hk => World.putObj_heap_other hk
    have hnr := hn r (by simp)
    have hlt := (Array.getElem?_eq_some_iff.1 h1).1
    have hbel : Below n0 w (w.putObj r (.deferred none)) := (Below.refl n0 w).grown (grownBy_putObj' w r _) (by omega) (fun k e => by cases e; exact hnr)
    refine Tryz.leaves_marks ds _ (h3.mono fun r' hr' hx => by rw [hoth r' fun e => h2 _ hr' (by rw [e])]; exact hx) (fun r' hr' => hn r' (List.mem_cons_of_mem _ hr')) fun w' hw' => h w' ⟨hbel.trans hw'.below, fun k c t f hk => hw'.cells k c t f ?_⟩
    by_cases e : k = r
    · subst e; rw [h1] at hk; cases hk
    · rw [hoth k e]; exact hk
end Go.Proofs
/- sql.isTree: the walk. -/
namespace Go.Proofs
open Go.RowKit Go.Shelf
attribute [local go_sem] Oper.semAt_some
theorem Tryz.mk66 (N : Nat) (W : World) (h : N * 8 ≤ 140737488351232) : (Instr.makeSlice 66 (.int .i64 (N : Int)) (.int .i64 (N : Int))).run Tryz.prog W = .ok (.slice (some ⟨W.heap.size, 0, none⟩) N N) (W.alloc (.cells (Array.replicate N (.int .i64 0)) 3)) := by
  have hi : (Tryz.prog.info? 3).map (fun i => (i.size, i.bytes, i.zero)) = some (1, 8, some (.int .i64 0)) := by kernel_rfl
  cases hx : Tryz.prog.info? 3 with
  | none => rw [hx] at hi; cases hi
  | some i =>
    rw [hx] at hi
    simp only [Option.map_some, Option.some.injEq, Prod.mk.injEq] at hi
    obtain ⟨e1, e2, e3⟩ := hi
    have := run_make (P := Tryz.prog) W 66 3 i (.int .i64 0) Tryz.underlying66 hx e3 .i64 .i64 N N (by omega) (Int.le_refl _) (by rw [e2]; omega) (by omega)
    rw [this, e1, Int.toNat_natCast, Nat.mul_one]
    have hm : madeCells (Value.int .i64 0).cells N = Array.replicate N (.int .i64 0) := by
      apply Array.ext'
      rw [show (Value.int .i64 0).cells = #[.int .i64 0] from rfl, toList_madeCells_one]; simp
    rw [hm]
theorem Tryz.cell_at {W : World} {q j : Nat} {c : Array Value} {t : TypeId} {v : Value} (h : W.heap[q]? = some (.cells c t)) (hv : c[j]? = some v) : W.cell? ⟨q, j, none⟩ = some v := by simp [World.cell?, h, hv]
theorem Tryz.frozen_at {W : World} {q j : Nat} {c : Array Value} {t : TypeId} (h : W.heap[q]? = some (.cells c t)) : W.frozen? ⟨q, j, none⟩ = false := by simp [World.frozen?, h]
theorem Tryz.heap_set {W : World} {q j : Nat} {c : Array Value} {t : TypeId} {v : Value} (h : W.heap[q]? = some (.cells c t)) : (W.setCell ⟨q, j, none⟩ v).heap[q]? = some (.cells (c.setIfInBounds j v) t) := by
  simp [World.setCell, Array.getElem?_modify, h]
theorem Tryz.alloc3 (W : World) (o1 o2 o3 : Obj) : ∃ W0, ((W.alloc o1).alloc o2).alloc o3 = W0 ∧ W0.heap.size = W.heap.size + 1 + 1 + 1 ∧ (∀ q, q < W.heap.size → W0.heap[q]? = W.heap[q]?) ∧ W0.heap[W.heap.size + 1]? = some o2 ∧ W0.heap[W.heap.size + 1 + 1]? = some o3 ∧ KeepsOthers W W0 ∧ ∀ {n : Nat} {w : World}, Below n w W → n ≤ W.heap.size → Below n w W0 := by
  refine ⟨_, rfl, by simp, fun q hq => ?_, ?_, ?_, ((KeepsOthers.alloc _ _).trans (KeepsOthers.alloc _ _)).trans (KeepsOthers.alloc _ _), fun h hn => ((h.alloc hn _).alloc (by simp; omega) _).alloc (by simp; omega) _⟩
  · rw [Below.heap_alloc _ _ _ (by simp; omega), Below.heap_alloc _ _ _ (by simp; omega), Below.heap_alloc _ _ _ hq]
  · rw [Below.heap_alloc _ _ _ (by simp)]
    have := World.alloc_heap_new (W.alloc o1) o2
    rwa [World.size_alloc] at this
  · have := World.alloc_heap_new ((W.alloc o1).alloc o2) o3
    rwa [World.size_alloc, World.size_alloc] at this
/-- The state of the range over a node's operands: 'W0' at its beginning, 'q' the block of 'next'. -/
def Tryz.RI (w W0 : World) (q : Nat) (beg : List Int) (i0 : Int) (pre : List { x : Nat × Int // 0 ≤ x.2 }) (W : World) : Prop :=
  (∃ nx, Tryz.innerF beg i0 (pre.map (·.1)) = some nx ∧ W.heap[q]? = some (.cells #[.int .i64 nx] 3)) ∧ Tryz.KeepBut W0.heap.size q W0 W ∧ W0.heap.size ≤ W.heap.size ∧ Below w.heap.size w W
def Tryz.RX (w W0 : World) (q : Nat) (beg : List Int) (i0 : Int) (c : Code) (pre : List { x : Nat × Int // 0 ≤ x.2 }) (W : World) : Prop :=
  (c = .ret ∧ Tryz.innerF beg i0 (pre.map (·.1)) = none) ∧ Tryz.KeepBut W0.heap.size q W0 W ∧ W0.heap.size ≤ W.heap.size ∧ Below w.heap.size w W
theorem Tryz.RI.own {w W0 : World} {q : Nat} {beg : List Int} {i0 : Int} (hq : q < W0.heap.size) (hw : w.heap.size ≤ W0.heap.size) : OwnFrom W0.heap.size (Tryz.RI w W0 q beg i0) := fun s A B row hs hg hr => by
  obtain ⟨⟨nx, h1, h2⟩, h3, h4, h5⟩ := hs
  have same : ∀ k, k < W0.heap.size → B.heap[k]? = A.heap[k]? := fun k hk => hg.block k (by omega) fun e => by have := (hr k e.symm).1; omega
  exact ⟨⟨nx, h1, (same q hq).trans h2⟩, fun k hk hne => (same k hk).trans (h3 k hk hne), Nat.le_trans h4 hg.size, h5.grown hg (by omega) fun k e => by have := (hr k e).1; omega⟩
theorem Tryz.RX.own {w W0 : World} {q : Nat} {beg : List Int} {i0 : Int} (hw : w.heap.size ≤ W0.heap.size) (c : Code) : OwnFrom W0.heap.size (Tryz.RX w W0 q beg i0 c) := fun s A B row hs hg hr => by
  obtain ⟨h1, h3, h4, h5⟩ := hs
  have same : ∀ k, k < W0.heap.size → B.heap[k]? = A.heap[k]? := fun k hk => hg.block k (by omega) fun e => by have := (hr k e.symm).1; omega
  exact ⟨h1, fun k hk hne => (same k hk).trans (h3 k hk hne), Nat.le_trans h4 hg.size, h5.grown hg (by omega) fun k e => by have := (hr k e).1; omega⟩
theorem Tryz.KeepBut.trans {n x : Nat} {A B C : World} (h : Tryz.KeepBut n x A B) (k : Tryz.KeepBut n x B C) : Tryz.KeepBut n x A C := fun j hj hx => (k j hj hx).trans (h j hj hx)
theorem Tryz.Ints.mono {w W : World} {sv : Value} {zs : List Int} (hs : w.heap.size ≤ W.heap.size) (h : ∀ k, k < w.heap.size → W.heap[k]? = w.heap[k]?) : Tryz.Ints w sv zs → Tryz.Ints W sv zs
  | .inl e => .inl e
  | .inr ⟨b, off, cap, e, hb, hc⟩ => .inr ⟨b, off, cap, e, by omega, fun j hj => by rw [← hc j hj]; simp only [World.cell?, h b hb]⟩
structure Tryz.TW (w : World) (N : Nat) (beg : List Int) (W : World) : Prop where
  below : Below w.heap.size w W
  res : W.heap[w.heap.size]? = some (.cells #[.bool false] 4)
  beg : W.heap[w.heap.size + 1]? = some (.cells (beg.map (Value.int .i64)).toArray 3)
  box : W.heap[w.heap.size + 1 + 1]? = some (.cells #[.slice (some ⟨w.heap.size + 1, 0, none⟩) N N] 66)
theorem Tryz.TW.size {w W : World} {N : Nat} {beg : List Int} (h : Tryz.TW w N beg W) : w.heap.size + 1 + 1 < W.heap.size := (Array.getElem?_eq_some_iff.1 h.box).1
theorem Tryz.TW.start (w : World) (N : Nat) : Tryz.TW w N (List.replicate N 0) (((w.alloc (.cells #[.bool false] 4)).alloc (.cells (Array.replicate N (.int .i64 0)) 3)).alloc (.cells #[.slice (some ⟨w.heap.size + 1, 0, none⟩) N N] 66)) := {
  below := (((Below.refl _ w).alloc (Nat.le_refl _) _).alloc (by simp) _).alloc (by simp; omega) _
  res := by
    rw [Below.heap_alloc _ _ _ (by simp; omega), Below.heap_alloc _ _ _ (by simp)]
    exact World.alloc_heap_new w _
  beg := by
    rw [Below.heap_alloc _ _ _ (by simp)]
    have := World.alloc_heap_new (w.alloc (.cells #[.bool false] 4)) (.cells (Array.replicate N (.int .i64 0)) 3)
    rw [World.size_alloc] at this
    rw [this]
    simp
  box := by
    have := World.alloc_heap_new ((w.alloc (.cells #[.bool false] 4)).alloc (.cells (Array.replicate N (.int .i64 0)) 3)) (.cells #[.slice (some ⟨w.heap.size + 1, 0, none⟩) N N] 66)
    rw [World.size_alloc, World.size_alloc] at this
    exact this }
set_option maxRecDepth 100000 in
set_option maxHeartbeats 2000000 in
theorem Tryz.isTree_in (F : Fence) (n : Nat) (h20 : F.fn 20) (h52 : F.fn 52) (h107 : F.fn 107) (hro : F.round = none) (hn : 3 ≤ n) (b o cap : Nat) (es : List Tryz.Nd) (hlen : es.length * 48 ≤ 140737488351232) (hpos : 0 < es.length)
    (harg : ∀ (i : Nat) (x : Tryz.Nd), es[i]? = some x → ∀ z ∈ x.zs, 0 ≤ z ∧ z < es.length) (w : World) (hN : Tryz.NodesAt w b o es) :
    CallsIn F n Tryz.prog 20 #[.slice (some ⟨b, o, none⟩) es.length cap] w fun e W' => e = .returned (.bool (Tryz.treeF (es.map (·.zs)))) ∧ Below w.heap.size w W' := by
  have h1 : 1 ≤ n := by omega
  have hlen' : (es.length : Int) * 48 ≤ 140737488351232 := by omega
  refine callsIn_of_wp_marks Tryz.func20 rfl h20 ?_ hro
  simp only [Tryz.ntmps20, List.size_toArray, List.length_cons, List.length_nil, Nat.reduceAdd, Nat.reduceSub, Array.replicate_succ, Array.replicate_zero, List.push_toArray, List.append_toArray, List.nil_append, List.cons_append]
  gi_wp2
  rw [Tryz.mk66 _ _ (by omega)]
  gi_wp2
  refine wpIn_loop (fun a W => ∃ (k : Nat) (beg : List Int) (ds : List Deferred) (u4 u5 u6 u15 u16 u17 u18 u19 u20 u21 u22 u23 u34 u35 u36 u37 u38 u39 : Value), k ≤ es.length ∧
      a = { tmps := #[.slice (some ⟨b, o, none⟩) es.length cap, undef, .pointer (some ⟨w.heap.size, 0, none⟩), .pointer (some ⟨w.heap.size + 1 + 1, 0, none⟩), u4, u5, u6, undef, undef,
          .slice (some ⟨b, o, none⟩) es.length cap, .int .i64 es.length, .slice (some ⟨w.heap.size + 1, 0, none⟩) es.length es.length, .slice (some ⟨b, o, none⟩) es.length cap, .int .i64 es.length, .int .i64 k, u15, u16, u17, u18, u19, u20, u21, u22, u23,
          undef, undef, undef, undef, undef, undef, undef, undef, undef, undef, u34, u35, u36, u37, u38, u39, undef, undef, undef, undef, undef, undef, undef], defers := ds } ∧
      Tryz.Marks ds W ∧ (∀ r, { target := .collected r, args := #[] } ∈ ds → w.heap.size ≤ r) ∧ Tryz.outerF es.length (es.map (·.zs)) k = some beg ∧ Tryz.TW w es.length beg W) (fun a _ => es.length - (intOf (a.tmps.getD 14 undef)).toNat) ?_ ?_
  · refine ⟨0, _, [], _, _, _, _, _, _, _, _, _, _, _, _, _, _, _, _, _, _, Nat.zero_le _, rfl, trivial, (fun r hr => by cases hr), rfl, ?_⟩
    exact Tryz.TW.start w es.length
  · rintro a W ⟨k, beg, ds, u4, u5, u6, u15, u16, u17, u18, u19, u20, u21, u22, u23, u34, u35, u36, u37, u38, u39, hk, rfl, hM, hD, hO, hT⟩
    have hsz := hT.size
    have hbl := Tryz.outerF_ok hO hk
    by_cases hlt : k < es.length
    · obtain ⟨hb, hcl⟩ := hN
      obtain ⟨x, hx⟩ : ∃ x, es[k]? = some x := ⟨es[k], by simp [hlt]⟩
      obtain ⟨hcx, hI, hzr⟩ := hcl k x hx
      have c0 : W.cell? ⟨b, o + k * 6, none⟩ = some (.int .i64 x.k) := (hT.below.cell (p := ⟨b, o + k * 6 + 0, none⟩) hb).trans (hcx 0 _ rfl)
      have c1 : W.cell? ⟨b, o + k * 6 + 1, none⟩ = some (.int .i64 x.n) := (hT.below.cell (p := ⟨b, o + k * 6 + 1, none⟩) hb).trans (hcx 1 _ rfl)
      have c2 : W.cell? ⟨b, o + k * 6 + 2, none⟩ = some (.int .i64 x.s) := (hT.below.cell (p := ⟨b, o + k * 6 + 2, none⟩) hb).trans (hcx 2 _ rfl)
      have c3 : W.cell? ⟨b, o + k * 6 + 3, none⟩ = some (.string x.f) := (hT.below.cell (p := ⟨b, o + k * 6 + 3, none⟩) hb).trans (hcx 3 _ rfl)
      have c4 : W.cell? ⟨b, o + k * 6 + 4, none⟩ = some (.string x.t) := (hT.below.cell (p := ⟨b, o + k * 6 + 4, none⟩) hb).trans (hcx 4 _ rfl)
      have c5 : W.cell? ⟨b, o + k * 6 + 5, none⟩ = some (.slice x.sa x.sl x.sc) := (hT.below.cell (p := ⟨b, o + k * 6 + 5, none⟩) hb).trans (hcx 5 _ rfl)
      have HM := Lib.hid hM
      have HD := Lib.hid hD
      have HO := Lib.hid hO
      have HC := Lib.hid hcx
      have HI := Lib.hid hI
      have HT := Lib.hid hT
      have HX := Lib.hid hx
      have HL := Lib.hid hbl
      clear hM hD hO hcx hI hT hcl hbl hx
      gi_wp2_with (gi_at_call 52; refine (Tryz.back_in F (n - 1) h52 hro _ _ _ _).mono ?_; rintro e w' ⟨rfl, rfl⟩)
      obtain ⟨W0, hW0, z0, hold, hq, hbs, hko, hbel⟩ := Tryz.alloc3 W (.cells #[.int .i64 x.k, .int .i64 x.n, .int .i64 x.s, .string x.f, .string x.t, .slice x.sa x.sl x.sc] 68) (.cells #[.int .i64 ((k : Int) - 1)] 3) (.cells #[.slice x.sa x.sl x.sc] 66)
      rw [hW0]
      clear hW0
      have hT := HT.out
      have hB0 := hbel hT.below (by omega)
      have hw0 : w.heap.size ≤ W0.heap.size := by omega
      have hI0 : Tryz.Ints W0 (.slice x.sa x.sl x.sc) x.zs := HI.out.mono hw0 fun q hq => (hold q (by omega)).trans (hT.below.block q hq)
      have hbg := Tryz.outerF_bd hk HO.out
      have hxz := Lib.hid (harg k x HX.out)
      refine wpIn_rangeFunc_ownG hro h1 (gf := 107) (lb := #[.pointer (some ⟨W.heap.size + 1 + 1, 0, none⟩)]) rfl h107 (enters_of Tryz.func107 (by kernel_rfl) rfl)
        (Tryz.back_stops F (n - 1) h107 hro (by omega) (W.heap.size + 1 + 1) (W.heap.size + 1) _ x.zs hzr W0 (by omega) (by omega) (Tryz.cell_at hbs rfl) hI0 (fun b off cap l e hz => by
            rcases HI.out with ⟨_, e1⟩ | ⟨b', off', cap', e1, hb', _⟩
            · exact absurd e1 hz
            · rw [e1] at e
              cases e
              omega) (fun y : { x : Nat × Int // 0 ≤ x.2 } => y.1) (fun j => ⟨Tryz.bk x.zs j, by
                simp only [Tryz.bk]
                cases hg : x.zs[x.zs.length - 1 - j]? with
                | none => simp
                | some v => exact (hxz.out v (List.mem_of_getElem? hg)).1⟩) (fun _ => rfl))
        (fun h k => h.trans k) (fun A l o1 o2 hl _ _ _ j hj _ => World.putObj_heap_other (by omega)) (Below.refl _ _) (fun _ => rfl)
        (Tryz.RI w W0 (W.heap.size + 1) beg ((k : Int) - 1)) (Tryz.RX w W0 (W.heap.size + 1) beg ((k : Int) - 1)) (Tryz.RI.own (by omega) hw0) (Tryz.RX.own hw0)
        ⟨⟨_, rfl, hq⟩, fun _ _ _ => rfl, Nat.le_refl _, hB0⟩
        (fun y => { tmps := #[.slice (some ⟨b, o, none⟩) es.length cap, undef, .pointer (some ⟨w.heap.size, 0, none⟩), .pointer (some ⟨w.heap.size + 1 + 1, 0, none⟩), .int .i64 k, .pointer (some ⟨W.heap.size, 0, none⟩), .pointer (some ⟨W.heap.size + 1, 0, none⟩), undef, .int .i64 y.1.2,
          .slice (some ⟨b, o, none⟩) es.length cap, .int .i64 es.length, .slice (some ⟨w.heap.size + 1, 0, none⟩) es.length es.length, .slice (some ⟨b, o, none⟩) es.length cap, .int .i64 es.length, .int .i64 k, .bool true, .int .i64 k, .pointer (some ⟨b, o + k * 6, none⟩),
          .agg #[.int .i64 x.k, .int .i64 x.n, .int .i64 x.s, .string x.f, .string x.t, .slice x.sa x.sl x.sc], .int .i64 k, .int .i64 ((k : Int) - 1), .pointer (some ⟨W.heap.size, 5, none⟩), .slice x.sa x.sl x.sc, .func (.func 107) #[] #[.pointer (some ⟨W.heap.size + 1 + 1, 0, none⟩)], .int .i64 (y.1.1 : Int), .int .i64 y.1.2,
          undef, undef, undef, undef, undef, undef, undef, undef, u34, u35, u36, u37, u38, u39, undef, undef, undef, undef, undef, undef, undef], defers := [] }) ?assign ?body ?done ?stop
      case assign =>
        intro l y A K hK
        gi_wp2
        exact hK
      case body =>
        rintro l pre ⟨⟨xi, xa⟩, hxa⟩ A ⟨⟨nx, g1, g2⟩, g3, g4, g5⟩ _
        have bd := Tryz.innerF_bd (N := (es.length : Int)) hbg (by omega) (by omega) g1
        have b2 := (g3 (w.heap.size + 1 + 1) (by omega) (by omega)).trans ((hold _ (by omega)).trans hT.box)
        have b1 := (g3 (w.heap.size + 1) (by omega) (by omega)).trans ((hold _ (by omega)).trans hT.beg)
        have b0 := (g3 w.heap.size (by omega) (by omega)).trans ((hold _ (by omega)).trans hT.res)
        have f1 := Tryz.cell_at g2 (j := 0) rfl
        have f2 := Tryz.frozen_at (j := 0) g2
        have f3 := Tryz.cell_at b2 (j := 0) rfl
        have f5 := Tryz.cell_at b0 (j := 0) rfl
        have f6 := Tryz.frozen_at (j := 0) b0
        obtain ⟨ja, rfl⟩ : ∃ ja : Nat, xa = ja := ⟨xa.toNat, by omega⟩
        have G1 := Lib.hid g1
        have G2 := Lib.hid g2
        have G3 := Lib.hid g3
        have G5 := Lib.hid g5
        have B0' := Lib.hid b0
        have HB := Lib.hid hB0
        have HQ := Lib.hid hq
        have HBs := Lib.hid hbs
        have HO' := Lib.hid hold
        have HT' := Lib.hid hT
        by_cases hxe : (ja : Int) = nx
        · subst hxe
          have hjl : ja < beg.length := by rw [HL.out]; omega
          have f4 : A.cell? ⟨w.heap.size + 1, ja, none⟩ = some (.int .i64 beg[ja]) := Tryz.cell_at b1 (by simp [hjl])
          have hv := hbg beg[ja] (by simp)
          clear g1 g2 g3 g5 b0 b1 b2 hB0 hq hbs hold hT hbg hko hbel hI0 f5 f6
          gi_wp2
          refine ⟨(KeepsOthers.setCell _ _ _).from _, fun j hj hx => Below.heap_setCell _ _ _ _ hx, ⟨beg[ja] - 1, ?_, Tryz.heap_set G2.out⟩, G3.out.trans fun j hj hx => Below.heap_setCell _ _ _ _ hx, by simpa [World.setCell] using g4, G5.out.setCell (by show w.heap.size ≤ W.heap.size + 1; omega) _⟩
          rw [List.map_append, List.map_cons, List.map_nil, Tryz.innerF_snoc, G1.out]
          simp [Tryz.stepI, hjl]
        · clear g1 g2 g3 g5 b0 b1 b2 hB0 hq hbs hold hT hbg hko hbel hI0 f3
          gi_wp2
          refine ⟨(KeepsOthers.setCell _ _ _).from _, ⟨rfl, ?_⟩, fun j hj hx => ?_, by simpa [World.setCell] using g4, G5.out.setCell (Nat.le_refl _) _⟩
          · rw [List.map_append, List.map_cons, List.map_nil, Tryz.innerF_snoc, G1.out]
            simp [Tryz.stepI, hxe]
          · by_cases e : j = w.heap.size
            · subst e
              rw [Tryz.heap_set B0'.out, ← G3.out _ hj hx, B0'.out]
              rfl
            · rw [Below.heap_setCell _ _ _ _ e]; exact G3.out j hj hx
      case done =>
        rintro D ys A hD rfl ⟨⟨nx, g1, g2⟩, g3, g4, g5⟩ hK
        have bd := Tryz.innerF_bd (N := (es.length : Int)) hbg (by omega) (by omega) g1
        have b2 := (g3 (w.heap.size + 1 + 1) (by omega) (by omega)).trans ((hold _ (by omega)).trans hT.box)
        have b1 := (g3 (w.heap.size + 1) (by omega) (by omega)).trans ((hold _ (by omega)).trans hT.beg)
        have b0 := (g3 w.heap.size (by omega) (by omega)).trans ((hold _ (by omega)).trans hT.res)
        have hkb : k < beg.length := by rw [HL.out]; exact hlt
        have f1 := Tryz.cell_at g2 (j := 0) rfl
        have f3 := Tryz.cell_at b2 (j := 0) rfl
        have f4 : A.cell? ⟨w.heap.size + 1, k, none⟩ = some (.int .i64 beg[k]) := Tryz.cell_at b1 (by simp [hkb])
        have f6 := Tryz.frozen_at (j := k) b1
        have mk : Tryz.Marks ({ target := .collected D, args := #[] } :: ds) A := by
          refine ⟨⟨D, rfl, hK, fun d' hd' e => ?_⟩, HM.out.mono fun r hr hx => ?_⟩
          · subst e
            have := (Array.getElem?_eq_some_iff.1 (HM.out.mem D hd')).1
            omega
          · have hlt := (Array.getElem?_eq_some_iff.1 hx).1
            rw [g3 r (by omega) (by omega), hold r hlt]; exact hx
        have G1 := Lib.hid g1
        have B2 := Lib.hid b2
        have B1 := Lib.hid b1
        have B0' := Lib.hid b0
        have MK := Lib.hid mk
        have GG := Lib.hid g5
        clear g1 g2 g3 g5 b0 b1 b2 mk hK hB0 hq hbs hold hT hbg hko hbel hI0
        gi_wp2
        have e1 : ((k + 1 : Nat) : Int) = (k : Int) + 1 := by omega
        refine ⟨⟨k + 1, beg.set k (nx + 1), { target := .collected D, args := #[] } :: ds, _, _, _, _, _, _, _, _, _, _, _, _, _, _, _, _, _, _, by omega, by rw [e1], MK.out.keeps (KeepsOthers.setCell _ _ _), fun r hr => ?_, ?_, ?_, ?_, ?_, ?_⟩, ?_⟩
        · rcases List.mem_cons.1 hr with e | hr
          · cases e; omega
          · exact HD.out r hr
        · have := G1.out
          rw [Tryz.map_upto] at this
          simp only [Tryz.outerF, HO.out, Option.bind_some, List.getElem?_map, HX.out, Option.map_some, Option.getD_some]
          rw [show Tryz.innerF beg ((k : Int) - 1) (Tryz.pairs x.zs) = some nx from this]
          rfl
        · exact GG.out.setCell (by show w.heap.size ≤ w.heap.size + 1; omega) _
        · rw [Below.heap_setCell _ _ _ _ (by show w.heap.size ≠ w.heap.size + 1; omega)]; exact B0'.out
        · rw [Tryz.heap_set B1.out]
          simp [List.map_set]
        · rw [Below.heap_setCell _ _ _ _ (by show w.heap.size + 1 + 1 ≠ w.heap.size + 1; omega)]; exact B2.out
        · simp [intOf]; omega
      case stop =>
        rintro D c pre A hD ⟨kk, hkk, rfl⟩ ⟨⟨rfl, g1⟩, g3, g4, g5⟩ hK
        have b0 := (g3 w.heap.size (by omega) (by omega)).trans ((hold _ (by omega)).trans hT.res)
        have mk : Tryz.Marks ({ target := .collected D, args := #[] } :: ds) A := by
          refine ⟨⟨D, rfl, hK, fun d' hd' e => ?_⟩, HM.out.mono fun r hr hx => ?_⟩
          · subst e
            have := (Array.getElem?_eq_some_iff.1 (HM.out.mem D hd')).1
            omega
          · have hlt := (Array.getElem?_eq_some_iff.1 hx).1
            rw [g3 r (by omega) (by omega), hold r hlt]; exact hx
        gi_wp2
        refine Tryz.leaves_marks (n0 := w.heap.size) _ A mk (fun r hr => ?_) fun w' hw' => ⟨.bool false, ?_, ?_, g5.trans hw'.below⟩
        · rcases List.mem_cons.1 hr with e | hr
          · cases e; omega
          · exact HD.out r hr
        · have f5 := Tryz.cell_at (hw'.cells _ _ _ _ b0) (j := 0) rfl
          simp [results, Tryz.results20, go_sem, f5]
        · have hz : Tryz.outerF es.length (es.map (·.zs)) (k + 1) = none := by
            rw [Tryz.map_upto] at g1
            have g1' := Tryz.innerF_none hkk g1
            simp only [Tryz.outerF, HO.out, Option.bind_some, List.getElem?_map, HX.out, Option.map_some, Option.getD_some]
            rw [g1']; rfl
          have hz2 := Tryz.outerF_none (n := es.length) (by omega) hz
          simp only [Tryz.treeF, List.length_map, hz2]
    · obtain rfl : k = es.length := by omega
      have hkb : es.length - 1 < beg.length := by omega
      have f3 := Tryz.cell_at hT.box (j := 0) rfl
      have f4 : W.cell? ⟨w.heap.size + 1, es.length - 1, none⟩ = some (.int .i64 beg[es.length - 1]) := Tryz.cell_at hT.beg (by simp [hkb])
      have f5 := Tryz.cell_at hT.res (j := 0) rfl
      have f6 := Tryz.frozen_at (j := 0) hT.res
      have HM := Lib.hid hM
      have HD := Lib.hid hD
      have HO := Lib.hid hO
      have HT := Lib.hid hT
      have HL := Lib.hid hbl
      clear hM hD hO hT hbl hN hk hlt
      gi_wp2
      refine Tryz.leaves_marks (n0 := w.heap.size) _ _ (HM.out.keeps (KeepsOthers.setCell _ _ _)) HD.out fun w' hw' => ⟨.bool (beg[es.length - 1] == 0), ?_, ?_, (HT.out.below.setCell (Nat.le_refl _) _).trans hw'.below⟩
      · have f5 := Tryz.cell_at (hw'.cells _ _ _ _ (Tryz.heap_set HT.out.res)) (j := 0) rfl
        simp [results, Tryz.results20, go_sem, f5]
      · simp only [Tryz.treeF, List.length_map, HO.out]
        have hbd : ∀ z : Int, (z == 0) = decide (z = 0) := fun z => by rw [Bool.eq_iff_iff]; simp
        simp [hkb, hbd]
/-- Without a fence. -/
theorem Tryz.isTree_calls (b o cap : Nat) (es : List Tryz.Nd) (hlen : es.length * 48 ≤ 140737488351232) (hpos : 0 < es.length)
    (harg : ∀ (i : Nat) (x : Tryz.Nd), es[i]? = some x → ∀ z ∈ x.zs, 0 ≤ z ∧ z < es.length) (w : World) (hN : Tryz.NodesAt w b o es) :
    Calls Tryz.prog 20 #[.slice (some ⟨b, o, none⟩) es.length cap] w fun e W' => e = .returned (.bool (Tryz.treeF (es.map (·.zs)))) ∧ Below w.heap.size w W' :=
  callsIn_wide.1 (Tryz.isTree_in Fence.wide 3 trivial trivial trivial rfl (Nat.le_refl _) b o cap es hlen hpos harg w hN)
end Go.Proofs
/- sql.isTree, as a leaf of the evaluator. -/
namespace Go.XE
open Go.Proofs
section
variable {G : Nat → Option GV} {w : World} {C : Cells}
theorem treeUpto_eq (N : Nat) (es : List (List Int)) : ∀ k, treeUpto N es k = Tryz.outerF N es k
  | 0 => rfl
  | k + 1 => by
    rw [treeUpto, Tryz.outerF, treeUpto_eq N es k]
    rfl
theorem treeB_eq (es : List (List Int)) : treeB es = Tryz.treeF es := by
  rw [treeB, Tryz.treeF, treeUpto_eq]
  cases Tryz.outerF es.length es es.length <;> rfl
theorem ints_of {zs : List Int} {us : List Value} (h : Rep w C (.sl (.int .i64)) zs us) : ∃ sa sl sc, us = [.slice sa sl sc] ∧ Tryz.Ints w (.slice sa sl sc) zs := by
  simp only [Rep] at h
  obtain ⟨p, cap, rfl, h1, h2, h3⟩ := h
  have h1 : List.length zs ≤ cap := h1
  refine ⟨_, _, _, rfl, ?_⟩
  cases p with
  | none =>
    have := h2 rfl
    obtain rfl : zs = [] := List.length_eq_zero_iff.1 (by omega)
    exact .inl ⟨⟨_, _, rfl⟩, rfl⟩
  | some a =>
    by_cases hz : zs = []
    · subst hz; exact .inl ⟨⟨_, _, rfl⟩, rfl⟩
    obtain ⟨b, o, s⟩ := a
    obtain ⟨e, hc⟩ := h3 _ rfl
    have hp := List.length_pos_iff.2 hz
    have e : s = none := e (by omega)
    subst e
    have hc' : ∀ (i : Nat), i < zs.length → w.cell? ⟨b, o + i, none⟩ = some (.int .i64 (zs[i]?.getD 0)) := fun i hi => by
      obtain ⟨us, k1, _, k3⟩ := hc i zs[i] (by show zs[i]? = some zs[i]; simp [hi])
      subst k3
      have := k1 0 _ rfl
      simpa [Ty.size, hi] using this
    exact .inr ⟨b, o, cap, rfl, World.block_lt_of_cell? _ _ (hc' 0 hp), hc'⟩
theorem nds {b : Nat} : ∀ (x : List (den api_SqlNode)) (o : Nat), (∀ (i : Nat) (y : den api_SqlNode), x[i]? = some y → ∃ us, cellsAt w b (o + i * 6) us ∧ Rep w C api_SqlNode y us) →
    ∃ es : List Tryz.Nd, es.map (·.zs) = x.map (fun n => n.2.2.2.2.2.1) ∧ ∀ (i : Nat) (nd : Tryz.Nd), es[i]? = some nd → (∀ (j : Nat) (v : Value), nd.cells[j]? = some v → w.cell? ⟨b, o + i * 6 + j, none⟩ = some v) ∧ Tryz.Ints w (.slice nd.sa nd.sl nd.sc) nd.zs
  | [], _, _ => ⟨[], rfl, fun i nd h => by simp at h⟩
  | y :: x, o, h => by
    obtain ⟨es, e1, e2⟩ := nds x (o + 6) fun i z hz => by
      obtain ⟨us, k1, k2⟩ := h (i + 1) z hz
      exact ⟨us, by rw [show o + 6 + i * 6 = o + (i + 1) * 6 by omega]; exact k1, k2⟩
    obtain ⟨us, k1, k2⟩ := h 0 y rfl
    simp only [Rep] at k2
    obtain ⟨_, _, rfl, rfl, _, _, rfl, rfl, _, _, rfl, rfl, _, _, rfl, rfl, _, _, rfl, rfl, u, _, rfl, hi, rfl⟩ := k2
    obtain ⟨sa, sl, sc, rfl, hI⟩ := ints_of (w := w) (C := C) (zs := y.2.2.2.2.2.1) (by simp only [Rep]; exact hi)
    refine ⟨⟨y.1, y.2.1, y.2.2.1, ⟨List.toArray y.2.2.2.1⟩, ⟨List.toArray y.2.2.2.2.1⟩, sa, sl, sc, y.2.2.2.2.2.1⟩ :: es, by simp only [List.map_cons, e1], fun i nd hnd => ?_⟩
    cases i with
    | zero =>
      obtain rfl := Option.some.inj hnd
      exact ⟨fun j v hv => k1 j v hv, hI⟩
    | succ i =>
      have := e2 i nd hnd
      rw [show o + 6 + i * 6 = o + (i + 1) * 6 by omega] at this
      exact this
theorem isTree_sound (hE : Enter Tryz.prog 20) : Sound Tryz.prog G 20 { head := ⟨[(0, .dat (.sl api_SqlNode) [])], [], 47, 0⟩, R := .bool, F := fun x => sql_isTree x.1.1 } := by
  refine leaf1 (A := .sl api_SqlNode) (R := .bool) (nt := 46) (F := fun x => sql_isTree x.1.1) hE (fun w C x v y hG hv hy => ?_) rfl
  have hv : Rep w C (.sl api_SqlNode) x [v] := by
    rcases hv with ⟨h, _⟩ | ⟨_, h⟩
    · cases h
    · exact h
  have hy : sql_isTree x = some y := hy
  unfold sql_isTree at hy
  cases hc : (Nat.blt 0 (List.length x) && (Nat.ble (List.length x) 1000 && x.all fun n => Nat.ble (List.length n.2.2.2.2.2.1) 1000 && n.2.2.2.2.2.1.all fun z => decide (0 ≤ z) && decide (z < (List.length x : Int)))) with
  | false => rw [hc] at hy; cases hy
  | true =>
    rw [hc] at hy
    have hy := Option.some.inj hy
    simp only [Bool.and_eq_true] at hc
    obtain ⟨hp, hl, hall⟩ := hc
    have hp : 0 < x.length := Nat.lt_of_succ_le (Nat.le_of_ble_eq_true hp)
    have hl := Nat.le_of_ble_eq_true hl
    simp only [Rep] at hv
    obtain ⟨p, cap, hv, h1, h2, h3⟩ := hv
    have h1 : x.length ≤ cap := h1
    cases p with
    | none => have := h2 rfl; omega
    | some a =>
      obtain ⟨b, o, s⟩ := a
      obtain ⟨e, hcl⟩ := h3 _ rfl
      have e : s = none := e (by omega)
      subst e
      obtain ⟨es, e1, e2⟩ := nds (w := w) (C := C) (b := b) x o fun i z hz => by
        obtain ⟨us, k1, _, k3⟩ := hcl i z hz
        exact ⟨us, k1, by simp only [Rep]; exact k3⟩
      have hlen : es.length = x.length := by have := congrArg List.length e1; simpa using this
      have hzs : ∀ (i : Nat) (nd : Tryz.Nd), es[i]? = some nd → nd.zs.length ≤ 1000 ∧ ∀ z ∈ nd.zs, 0 ≤ z ∧ z < (es.length : Int) := fun i nd hnd => by
        have hm : nd.zs ∈ x.map (fun n => n.2.2.2.2.2.1) := by rw [← e1]; exact List.mem_map_of_mem (List.mem_of_getElem? hnd)
        obtain ⟨n, hn, hz⟩ := List.mem_map.1 hm
        have := List.all_eq_true.1 hall n hn
        simp only [Bool.and_eq_true, List.all_eq_true, decide_eq_true_eq] at this
        have hz : nd.zs = n.2.2.2.2.2.1 := hz.symm
        rw [hz, hlen]
        exact ⟨Nat.le_of_ble_eq_true this.1, this.2⟩
      have hN : Tryz.NodesAt w b o es := by
        refine ⟨?_, fun i nd hnd => ⟨(e2 i nd hnd).1, (e2 i nd hnd).2, by have := (hzs i nd hnd).1; omega⟩⟩
        have h0 : 0 < es.length := by omega
        have := (e2 0 es[0] (by simp [h0])).1 0 _ rfl
        exact World.block_lt_of_cell? _ _ this
      obtain rfl : v = .slice (some ⟨b, o, none⟩) es.length cap := by
        rw [hlen]; simpa using hv
      refine (Tryz.isTree_calls b o cap es (by omega) (by omega) (fun i nd hnd => (hzs i nd hnd).2) w hN).mono fun e w' h => ?_
      obtain ⟨rfl, hB⟩ := h
      rw [e1, ← treeB_eq] at *
      refine ⟨_, C, rfl, ⟨hB.size, fun k hk => hB.block k hk, hB.os, hB.output⟩, fun _ _ h => h, fun _ _ h _ => h, fun _ _ h => .inl h, .inr ⟨rfl, ?_⟩⟩
      simp only [Rep]
      rw [← hy]
end
end Go.XE
/- strings.Fields and isTree in this program. -/
namespace Go.Proofs
open Go.Shelf
def Tryz.lays157_ren : Go.Shelf.Ren := ⟨fun | 157 => 185 | 229 => 255 | 199 => 256 | 261 => 300 | 311 => 331 | 312 => 332 | n => n, fun | 9 => 9 | 31 => 45 | 3 => 3 | 5 => 5 | 4 => 4 | 119 => 328 | 0 => 0 | 40 => 330 | 152 => 360 | 21 => 21 | 154 => 362 | 51 => 258 | 141 => 364 | 196 => 389 | 193 => 386 | 198 => 392 | 49 => 390 | 194 => 387 | 201 => 395 | 226 => 412 | 46 => 167 | 227 => 413 | n => n, fun | 0 => 2 | 6 => 3 | n => n⟩
theorem Tryz.lays157 : Lays.n157 Tryz.prog Tryz.lays157_ren := {
  mixed := by kernel_rfl
  f157 := Tryz.func185.trans (congrArg some (by kernel_rfl))
  f199 := Tryz.func256.trans (congrArg some (by kernel_rfl))
  f229 := Tryz.func255.trans (congrArg some (by kernel_rfl))
  f261 := Tryz.func300.trans (congrArg some (by kernel_rfl))
  f311 := Tryz.func331.trans (congrArg some (by kernel_rfl))
  f312 := Tryz.func332.trans (congrArg some (by kernel_rfl))
  t0 := Tryz.underlying0
  a0 := Tryz.isAgg0
  z0 := Tryz.sizeOf0
  v0 := Tryz.zeroValue0
  t3 := Tryz.underlying3
  a3 := Tryz.isAgg3
  z3 := Tryz.sizeOf3
  v3 := Tryz.zeroValue3
  t4 := Tryz.underlying4
  a4 := Tryz.isAgg4
  z4 := Tryz.sizeOf4
  v4 := Tryz.zeroValue4
  t5 := Tryz.underlying5
  a5 := Tryz.isAgg5
  z5 := Tryz.sizeOf5
  v5 := Tryz.zeroValue5
  t9 := Tryz.underlying9
  a9 := Tryz.isAgg9
  z9 := Tryz.sizeOf9
  v9 := Tryz.zeroValue9
  t21 := Tryz.underlying21
  a21 := Tryz.isAgg21
  z21 := Tryz.sizeOf21
  v21 := Tryz.zeroValue21
  t31 := Tryz.underlying45
  a31 := Tryz.isAgg45
  z31 := Tryz.sizeOf45
  v31 := Tryz.zeroValue45
  t40 := Tryz.underlying330
  a40 := Tryz.isAgg330
  z40 := Tryz.sizeOf330
  v40 := Tryz.zeroValue330
  t46 := Tryz.underlying167
  a46 := Tryz.isAgg167
  z46 := Tryz.sizeOf167
  v46 := Tryz.zeroValue167
  t49 := Tryz.underlying390
  a49 := Tryz.isAgg390
  z49 := Tryz.sizeOf390
  v49 := Tryz.zeroValue390
  t51 := Tryz.underlying258
  a51 := Tryz.isAgg258
  z51 := Tryz.sizeOf258
  v51 := Tryz.zeroValue258
  t119 := Tryz.underlying328
  a119 := Tryz.isAgg328
  z119 := Tryz.sizeOf328
  t141 := Tryz.underlying364
  a141 := Tryz.isAgg364
  z141 := Tryz.sizeOf364
  v141 := Tryz.zeroValue364
  t152 := Tryz.underlying360
  a152 := Tryz.isAgg360
  z152 := Tryz.sizeOf360
  v152 := Tryz.zeroValue360
  t154 := Tryz.underlying362
  a154 := Tryz.isAgg362
  z154 := Tryz.sizeOf362
  v154 := Tryz.zeroValue362
  t193 := Tryz.underlying386
  a193 := Tryz.isAgg386
  z193 := Tryz.sizeOf386
  v193 := Tryz.zeroValue386
  t194 := Tryz.underlying387
  a194 := Tryz.isAgg387
  z194 := Tryz.sizeOf387
  v194 := Tryz.zeroValue387
  t196 := Tryz.underlying389
  a196 := Tryz.isAgg389
  z196 := Tryz.sizeOf389
  v196 := Tryz.zeroValue389
  t198 := Tryz.underlying392
  a198 := Tryz.isAgg392
  z198 := Tryz.sizeOf392
  v198 := Tryz.zeroValue392
  t201 := Tryz.underlying395
  a201 := Tryz.isAgg395
  z201 := Tryz.sizeOf395
  v201 := Tryz.zeroValue395
  t226 := Tryz.underlying412
  a226 := Tryz.isAgg412
  z226 := Tryz.sizeOf412
  v226 := Tryz.zeroValue412
  t227 := Tryz.underlying413
  a227 := Tryz.isAgg413
  z227 := Tryz.sizeOf413
  v227 := Tryz.zeroValue413
  g0 := by kernel_rfl
  g6 := by kernel_rfl }
end Go.Proofs
namespace Go.XE
open Go.Proofs
theorem enter185 : Enter Tryz.prog 185 := enter_of (fn := Proofs.Tryz.f185) (by kernel_rfl) (by kernel_rfl) (by kernel_rfl)
theorem enter20 : Enter Tryz.prog 20 := enter_of (fn := Proofs.Tryz.f20) (by kernel_rfl) (by kernel_rfl) (by kernel_rfl)
theorem fields185 {G : Nat → Option GV} (hg : G 2 = some (.c tabF)) :
    Sound Tryz.prog G 185 { head := ⟨[(0, .dat .str [])], [], 106, 0⟩, R := .sl .str, F := fun x => strings_Fields x.1.1 } :=
  fields_sound (ρ := Tryz.lays157_ren) Tryz.lays157 (by kernel_rfl) enter185 hg
end Go.XE
