/- Part 19 of the proof. -/
import Derived.Test.YtnmkgbomiillgaaGreatDoorP18
import Derived.OwnWalk
import Derived.Laws.OwnMore
/- The reference's long numbers: LongOf. -/
namespace Go.Proofs
open Go.RowKit
def Tryz.dcs (l : List Nat) : List Value := l.map fun x : Nat => Value.int .i64 (x : Int)
theorem Tryz.dcs_len (l : List Nat) : (Tryz.dcs l).length = l.length := by simp [Tryz.dcs]
theorem Tryz.dcs_snoc (l : List Nat) (x : Nat) : Tryz.dcs (l ++ [x]) = Tryz.dcs l ++ [.int .i64 (x : Int)] := by simp [Tryz.dcs]
theorem Tryz.dcs_get {l : List Nat} {i x : Nat} (h : l[i]? = some x) : (Tryz.dcs l)[i]? = some (.int .i64 (x : Int)) := by simp [Tryz.dcs, h]
theorem Tryz.info3 : (Tryz.prog.info? 3).map (fun i => (i.zero, i.size, i.bytes)) = some (some (.int .i64 0), 1, 8) := by kernel_rfl
theorem Tryz.mkRow66 (N : Nat) (W : World) (h : N ≤ 2000) : (Instr.makeSlice 66 (.int .i64 (N : Int)) (.int .i64 (N : Int))).run Tryz.prog W = .ok (.slice (some ⟨W.heap.size, 0, none⟩) N N) (W.alloc (.cells (Array.replicate N (.int .i64 0)) 3)) := by
  obtain ⟨i, hx, e3, e1, e2⟩ := info_parts Tryz.info3
  have := run_make (P := Tryz.prog) W 66 3 i (.int .i64 0) Tryz.underlying66 hx e3 .i64 .i64 N N (by omega) (Int.le_refl _) (by rw [e2]; omega) (by omega)
  rw [this, e1, Int.toNat_natCast, Nat.mul_one]
  have hm : madeCells (Value.int .i64 0).cells N = Array.replicate N (.int .i64 0) := by
    apply Array.ext'
    rw [show (Value.int .i64 0).cells = #[.int .i64 0] from rfl, toList_madeCells_one]; simp
  rw [hm]
theorem Tryz.meas10 {q : Nat} (hw : wrap64 ((q : Int) / 10) = (q : Int) / 10) (h : 0 < q) : (intOf (Value.int IntKind.i64 (wrap64 ((q : Int) / 10)))).toNat < (intOf (Value.int IntKind.i64 (q : Int))).toNat := by
  rw [hw]
  show ((q : Int) / 10).toNat < (q : Int).toNat
  omega
/-- Digits that lie behind a slice. -/
structure Tryz.Lies (w : World) (v : Value) (l : List Nat) : Prop where
  sl : ∃ b cap, v = .slice (some ⟨b, 0, none⟩) l.length cap ∧ l.length ≤ cap ∧ ∀ i x : Nat, l[i]? = some x → w.cell? ⟨b, i, none⟩ = some (.int .i64 (x : Int))
theorem Tryz.Lies.ext {w w' : World} {v : Value} {l : List Nat} (h : Tryz.Lies w v l) (e : Tryz.Ext w w') : Tryz.Lies w' v l := by
  obtain ⟨b, cap, h1, h2, h3⟩ := h.sl
  refine ⟨b, cap, h1, h2, fun i x hx => ?_⟩
  have hc := h3 i x hx
  have hb := World.block_lt_of_cell? w _ hc
  rw [World.cell?_of_block (w := w) (e.old b hb)]
  exact hc
/-- What a loop of appends keeps. -/
structure Tryz.Grows (w wr : World) (o1 : Obj) (v : Value) (o : List Nat) : Prop where
  own : wr.ownsRow (w.heap.size + 1) 3 1 v o.length (Tryz.dcs o)
  ext : Tryz.Ext w wr
  big : w.heap.size + 1 ≤ wr.heap.size
  cell : wr.heap[w.heap.size]? = some o1
theorem Tryz.Grows.step {w wr w1 : World} {o1 : Obj} {v v' : Value} {o : List Nat} {x : Nat} {u : Obj} (h : Tryz.Grows w wr o1 v o) (ho : w1.ownsRow (w.heap.size + 1) 3 1 v' (o.length + 1) (Tryz.dcs o ++ [.int .i64 (x : Int)])) (hg : (wr.alloc u).grownBy w1 v.ownBlock) :
    Tryz.Grows w w1 o1 v' (o ++ [x]) := by
  have hb := h.own.lt
  refine ⟨?_, ?_, ?_, ?_⟩
  · rw [Tryz.dcs_snoc, List.length_append, List.length_singleton]; exact ho
  · refine ⟨Nat.le_trans h.ext.size (Nat.le_trans (by simp) hg.size), fun k hk => ?_, ⟨hg.os.trans h.ext.out.1, hg.output.trans h.ext.out.2⟩⟩
    have hk2 : k < wr.heap.size := Nat.lt_of_lt_of_le hk h.ext.size
    rw [hg.block k (by simp; omega) (fun e => by have := hb k e.symm; omega), Below.heap_alloc _ _ _ hk2]
    exact h.ext.old k hk
  · have := hg.size
    have := h.big
    simp at *
    omega
  · rw [hg.block _ (by simp; have := h.big; omega) (fun e => by have := hb _ e.symm; omega), Below.heap_alloc _ _ _ (by have := h.big; omega)]
    exact h.cell
theorem Tryz.Grows.lies {w wr : World} {o1 : Obj} {v : Value} {o : List Nat} (h : Tryz.Grows w wr o1 v o) (hv : v ≠ .slice none 0 0) : Tryz.Lies wr v o := by
  rcases h.own.2 with ⟨hn, _⟩ | ⟨g, cap, cur, hv', _, hg, hc, _⟩
  · exact absurd hn hv
  · refine ⟨g, cap, hv', hc, fun i x hx => ?_⟩
    have := h.own.cells (g := g) (by rw [hv']; rfl) i _ (Tryz.dcs_get hx)
    have hadd : (⟨g, 0, none⟩ : Addr).add i = ⟨g, i, none⟩ := by unfold Addr.add; split <;> simp_all
    rwa [hadd] at this
set_option maxRecDepth 100000 in
set_option maxHeartbeats 4000000 in
theorem Tryz.longOf192 (N : Int) (z : Nat) (hN : N.natAbs ≤ 999999999999999) (hz : z ≤ 15) (w : World) :
    Calls Tryz.prog 192 #[.int .i64 N, .int .i64 z] w fun e w' => ∃ v l, e = .returned (.agg #[.bool (decide (N < 0)), v]) ∧ Tryz.Lies w' v l ∧ Tryz.Ext w w' ∧
      Tryz.dv l = N.natAbs * 10 ^ z ∧ Tryz.Dig l ∧ Tryz.Trim l ∧ l.length ≤ 100 := by
  have H262 := Lib.hid (fun w => Tryz.amount262 N (by omega) (by omega) w)
  have H263 := Lib.hid (fun l b cap w h1 h2 h3 => Tryz.trim263 l b cap w h1 h2 h3)
  have HN := Lib.hid hN
  clear hN
  go_enter Tryz.func192, Tryz.ntmps192
  go_wp2
  rw [Tryz.mkRow66 _ _ (by omega)]
  go_wp2_with (go_at_call 262; refine (H262.out _).mono ?_; rintro e w' ⟨rfl, rfl⟩)
  go_loopw [5, 6] (fun v x wr => ∃ (o : List Nat) (q k : Nat), x = .int .i64 q ∧ v ≠ .slice none 0 0 ∧ Tryz.Grows w wr (.cells #[.bool false, .slice none 0 0] 190) v o ∧ Tryz.dv o + 10 ^ o.length * q = N.natAbs * 10 ^ z ∧ Tryz.Dig o ∧
      o.length = z + k ∧ q * 10 ^ k ≤ N.natAbs ∧ k ≤ 16) (fun _ x _ => (intOf x).toNat)
  case atStart =>
    refine ⟨List.replicate z 0, N.natAbs, 0, rfl, by simp, ⟨?_, Tryz.alloc_ext (Tryz.alloc_ext (.refl _) _) _, by simp, Tryz.alloc_old (Tryz.bnew _ _) _⟩, ?_, ?_, by simp, by simp, by omega⟩
    · have h := World.ownsRow_lit (base := w.heap.size + 1) (e := 3) (size := 1) (w.alloc (Obj.cells #[Value.bool false, Value.slice none 0 0] 190)) (Array.replicate z (Value.int IntKind.i64 0)) z (by simp) (by unfold maxLen; omega) (by simp)
      rw [show (w.alloc (Obj.cells #[Value.bool false, Value.slice none 0 0] 190)).heap.size = w.heap.size + 1 by simp] at h
      rw [List.length_replicate, show Tryz.dcs (List.replicate z 0) = (Array.replicate z (Value.int IntKind.i64 0)).toList by simp [Tryz.dcs]]
      exact h
    · rw [Tryz.dv_zeros, List.length_replicate, Nat.zero_add, Nat.mul_comm]
    · intro x hx
      rw [List.eq_of_mem_replicate hx]; omega
  case round =>
    revert wr
    intro wr hrel
    obtain ⟨o, q, k, rfl, hv, hg, hval, hd, hlen, hq, hk⟩ := hrel
    by_cases h0 : 0 < q
    · have hi : (0 : Int) < (q : Int) := by omega
      have hk15 : k < 15 := by
        rcases Nat.lt_or_ge k 15 with h | h
        · exact h
        · exfalso
          have h1 : 10 ^ 15 ≤ 10 ^ k := Nat.pow_le_pow_right (by omega) h
          have h2 : 1 * 10 ^ k ≤ q * 10 ^ k := Nat.mul_le_mul_right _ h0
          have := HN.out
          omega
      have hqb : q ≤ 999999999999999 := by
        have h1 : q * 1 ≤ q * 10 ^ k := Nat.mul_le_mul_left _ (Nat.pow_pos (by omega))
        have := HN.out
        omega
      have HW := Lib.hid (show wrap64 ((q : Int) / 10) = (q : Int) / 10 by unfold wrap64; omega)
      have HI := Lib.hid h0
      have hm : (q : Int).tmod 10 = ((q % 10 : Nat) : Int) := rfl
      have hdv : (q : Int).tdiv 10 = ((q / 10 : Nat) : Int) := rfl
      have HG := Lib.hid hg
      have HV := Lib.hid hv
      have HR := Lib.hid (And.intro hval (And.intro hd (And.intro hlen (And.intro hq hk15))))
      obtain ⟨i0, hi0, hz0, hz1, hz2⟩ := info_parts Tryz.info3
      clear hg hval hd hlen hq hk hk15 hv h0 hqb
      go_wp2_with (at_builtin; refine wpList_append_own _ rfl _ _ 66 rfl (w.heap.size + 1) 3 i0 (.int .i64 0) 1 8 Tryz.underlying66 hi0 hz0 hz1 hz2 rfl (by decide) _ _ _ rfl (HG.out.own.alloc _) ⟨wr.heap.size, 0, none⟩ 1 1 [.int .i64 ((q % 10 : Nat) : Int)] rfl rfl ?c1 ?c2 ?c3 ?c4 ?c5 ?_)
      case c1 =>
        intro j u hj
        match j, hj with
        | 0, hj => simp at hj; subst hj; simp [Addr.add]
      case c2 => intro u hu; simp at hu; subst hu; rfl
      case c3 => have := HR.out.2.2.1; have := HR.out.2.2.2.2; unfold maxLen; omega
      case c4 => have := HR.out.2.2.1; have := HR.out.2.2.2.2; omega
      case c5 => have := HG.out.big; simp; omega
      · intro v' w1 ho hgr hnn
        rw [show (q : Int) % 10 = ((q % 10 : Nat) : Int) by omega] at ho
        have G := Tryz.Grows.step (x := q % 10) HG.out ho hgr
        have GG := Lib.hid G
        have HNN := Lib.hid hnn
        clear ho hgr G hnn
        go_wp2
        refine ⟨⟨o ++ [q % 10], q / 10, k + 1, by simp [HW.out], HNN.out, GG.out, ?_, HR.out.2.1.snoc (Nat.mod_lt _ (by omega)), ?_, ?_, ?_⟩, ?_⟩
        · have := HR.out.1
          rw [← this, Tryz.dv_snoc, List.length_append, List.length_singleton, Nat.pow_succ, Nat.add_assoc, Nat.mul_assoc, ← Nat.mul_add]
          congr 2
          omega
        · rw [List.length_append, HR.out.2.2.1, List.length_singleton]; omega
        · have h1 := HR.out.2.2.2.1
          have h2 : q / 10 * 10 ^ (k + 1) ≤ q * 10 ^ k := by
            rw [Nat.pow_succ, Nat.mul_comm (10 ^ k) 10, ← Nat.mul_assoc]
            exact Nat.mul_le_mul_right _ (by omega)
          omega
        · have := HR.out.2.2.2.2; omega
        · exact Tryz.meas10 HW.out HI.out
    · obtain rfl : q = 0 := by omega
      obtain ⟨b, cap, rfl, hc, hcells⟩ := (hg.lies hv).sl
      have HG := Lib.hid hg
      have HR := Lib.hid (And.intro hval (And.intro hd (And.intro hlen hk)))
      have HC := Lib.hid (And.intro hc (And.intro hcells (And.intro (hg.own.lt b rfl).1 (And.intro hg.cell hg.ext))))
      have f0 := Tryz.bcell (j := 0) hg.cell rfl; have f1 := Tryz.bcell (j := 1) hg.cell rfl
      have e0 := Tryz.bfrozen (j := 0) hg.cell; have e1 := Tryz.bfrozen (j := 1) hg.cell
      clear hg hval hd hlen hk hc hcells hq hv h0
      go_wp2_with (go_at_call 263; refine (H263.out o b cap _ (by have := HR.out.2.2; omega) HC.out.1 HC.out.2.1).mono ?_; rintro e w' ⟨rfl, rfl⟩)
      refine bodyPost_ret (v := .agg #[.bool (decide (N < 0)), .slice (some ⟨b, 0, none⟩) (Tryz.trimD o o.length) cap]) ?_ rfl ?_
      · have h1 := Tryz.bset (j := 1) (v := .slice (some ⟨b, 0, none⟩) (Tryz.trimD o o.length) cap) (Tryz.bset (j := 0) (v := .bool (decide (N < 0))) HC.out.2.2.2.1)
        exact results_cell_row (p := 4) rfl _ _ _ 190 _ (0, 0) _ rfl h1 Tryz.underlying190 rfl (by kernel_rfl)
      · have hb := HC.out.2.2.1
        have hE := HC.out.2.2.2.2
        refine ⟨_, o.take (Tryz.trimD o o.length), rfl, ⟨b, cap, ?_, ?_, fun i x hx => ?_⟩, ⟨?_, fun j hj => ?_, hE.out⟩, ?_, HR.out.2.1.take _, Tryz.trim_trimD _ (Nat.le_refl _), ?_⟩
        · rw [List.length_take, Nat.min_eq_left (Tryz.trimD_le _ _)]
        · rw [List.length_take]; have := HC.out.1; omega
        · have hx2 : o[i]? = some x := by
            rw [List.getElem?_take] at hx
            split at hx
            · exact hx
            · cases hx
          have hc := HC.out.2.1 i x hx2
          rw [World.cell?_of_block (w := w')]
          · exact hc
          · rw [Tryz.bother (by simp; omega), Tryz.bother (by simp; omega)]
        · simp only [Tryz.bsize]; exact hE.size
        · rw [Tryz.bother (by omega), Tryz.bother (by omega)]; exact hE.old j hj
        · rw [Tryz.dv_trimD _ (Nat.le_refl _), List.take_length]
          have := HR.out.1
          omega
        · rw [List.length_take]; have := HR.out.2.2; omega
end Go.Proofs
/- The reference's long numbers: plus. -/
namespace Go.Proofs
open Go.RowKit
/-- What a loop of appends keeps, where nothing was laid ahead of it. -/
structure Tryz.Grow0 (w wr : World) (v : Value) (o : List Nat) : Prop where
  own : wr.ownsRow w.heap.size 3 1 v o.length (Tryz.dcs o)
  ext : Tryz.Ext w wr
theorem Tryz.Grow0.nil (w : World) : Tryz.Grow0 w w (.slice none 0 0) [] := ⟨World.ownsRow_nil _ _ _ _, .refl _⟩
theorem Tryz.Grow0.step {w wr w1 : World} {v v' : Value} {o : List Nat} {x : Nat} {u : Obj} (h : Tryz.Grow0 w wr v o) (ho : w1.ownsRow w.heap.size 3 1 v' (o.length + 1) (Tryz.dcs o ++ [.int .i64 (x : Int)])) (hg : (wr.alloc u).grownBy w1 v.ownBlock) :
    Tryz.Grow0 w w1 v' (o ++ [x]) := by
  have hb := h.own.lt
  refine ⟨?_, Nat.le_trans h.ext.size (Nat.le_trans (by simp) hg.size), fun k hk => ?_, hg.os.trans h.ext.out.1, hg.output.trans h.ext.out.2⟩
  · rw [Tryz.dcs_snoc, List.length_append, List.length_singleton]; exact ho
  · have hk2 : k < wr.heap.size := Nat.lt_of_lt_of_le hk h.ext.size
    rw [hg.block k (by simp; omega) (fun e => by have := hb k e.symm; omega), Below.heap_alloc _ _ _ hk2]
    exact h.ext.old k hk
/-- A slice that is empty when this holds, and only then. -/
def Tryz.SlLen (v : Value) (z : Prop) : Prop := ∃ a n c, v = .slice a n c ∧ (n = 0 ↔ z)
/-- The counter and the carry of a sum. -/
structure Tryz.Plus (m i c : Nat) : Prop where
  c1 : c ≤ 1
  i1 : i ≤ m + 1
  b : m < i → c = 0
  z : m = 0 → i = 0 ∧ c = 0
theorem Tryz.Plus.step {m i c x : Nat} (h : Tryz.Plus m i c) (hx : x ≤ 19) (hc : i < m ∨ (0 < c ∧ x = c)) : Tryz.Plus m (i + 1) (x / 10) := by
  obtain ⟨h1, h2, h3, h4⟩ := h
  rcases hc with hc | ⟨hc, rfl⟩
  · exact ⟨by omega, by omega, fun h => by omega, fun h => by omega⟩
  · refine ⟨by omega, ?_, fun h => by omega, fun h => by omega⟩
    rcases Nat.lt_or_ge m i with h | h
    · have := h3 h; omega
    · omega
theorem Tryz.news1 {W : World} {u : Value} {t : TypeId} (j : Nat) (v : Value) (hj : [u][j]? = some v) : (W.alloc (.cells #[u] t)).cell? ((⟨W.heap.size, 0, none⟩ : Addr).add j) = some v := by
  match j, hj with
  | 0, hj => simp at hj; subst hj; simp [Addr.add]
theorem Tryz.one1 {k : IntKind} {x : Int} : ∀ u ∈ [Value.int k x], u.oneCell' = true := by intro u hu; simp at hu; subst hu; rfl
theorem Tryz.meas1 {m n : Nat} (h : n < m) : m - (intOf (Value.int IntKind.i64 ((n : Int) + 1))).toNat < m - (intOf (Value.int IntKind.i64 (n : Int))).toNat := by
  show m - ((n : Int) + 1).toNat < m - (n : Int).toNat
  omega
theorem Tryz.wrap_small {x : Nat} (h : x ≤ 1000) : wrap64 (x : Int) = (x : Int) := by unfold wrap64; omega
theorem Tryz.q10 {x : Nat} (h : x ≤ 1000) : wrap64 ((x : Int) / 10) = ((x / 10 : Nat) : Int) := by unfold wrap64; omega
set_option maxRecDepth 100000 in
set_option maxHeartbeats 4000000 in
theorem Tryz.plus193 (l r : List Nat) (b cap d cap2 : Nat) (w : World) (hl : l.length ≤ 200) (hr : r.length ≤ 200) (dl : Tryz.Dig l) (dr : Tryz.Dig r)
    (h : ∀ (i : Nat) (x : Nat), l[i]? = some x → w.cell? ⟨b, i, none⟩ = some (.int .i64 (x : Int))) (h2 : ∀ (i : Nat) (x : Nat), r[i]? = some x → w.cell? ⟨d, i, none⟩ = some (.int .i64 (x : Int))) :
    Calls Tryz.prog 193 #[.slice (some ⟨b, 0, none⟩) l.length cap, .slice (some ⟨d, 0, none⟩) r.length cap2] w fun e w' =>
      ∃ v, e = .returned v ∧ Tryz.SlLen v (l = [] ∧ r = []) ∧ Tryz.Ext w w' := by
  have H := Lib.hid h
  have H2 := Lib.hid h2
  have DL := Lib.hid dl
  have DR := Lib.hid dr
  clear h h2 dl dr
  go_enter Tryz.func193, Tryz.ntmps193
  go_wp2
  go_loopw [5, 6, 7] (fun v cv iv wr => ∃ (o : List Nat) (c : Nat), iv = .int .i64 (o.length : Nat) ∧ cv = .int .i64 c ∧ Tryz.Grow0 w wr v o ∧ Tryz.Plus (max l.length r.length) o.length c) (fun _ _ iv _ => max l.length r.length + 2 - (intOf iv).toNat)
  case atStart => exact ⟨[], 0, rfl, rfl, .nil w, by omega, by simp, fun _ => rfl, fun _ => ⟨rfl, rfl⟩⟩
  case round =>
    revert wr
    intro wr hrel
    obtain ⟨o, c, rfl, rfl, hg, hp⟩ := hrel
    have HG := Lib.hid hg
    have HP := Lib.hid hp
    have hc1 : (c : Int) ≤ 1 := by have := hp.c1; omega
    have hc0 : (0 : Int) ≤ (c : Int) := by omega
    have hob : o.length ≤ 201 := by have := hp.i1; omega
    have hob' : (o.length : Int) ≤ 201 := by omega
    have hob0 : (0 : Int) ≤ (o.length : Int) := by omega
    have hsz : w.heap.size ≤ wr.heap.size := hg.ext.size
    obtain ⟨i0, hi0, hz0, hz1, hz2⟩ := info_parts Tryz.info3
    clear hg hp
    by_cases h1 : o.length < l.length
    · by_cases h2 : o.length < r.length
      · obtain ⟨x, hx⟩ : ∃ x, l[o.length]? = some x := ⟨_, List.getElem?_eq_getElem h1⟩
        have f1 : wr.cell? ⟨b, o.length, none⟩ = some (.int .i64 (x : Int)) := by
          have hc := H.out _ x hx
          rw [World.cell?_of_block (w := w) (HG.out.ext.old b (World.block_lt_of_cell? w _ hc))]; exact hc
        have hx9 : x < 10 := DL.out x (List.mem_of_getElem? hx)
        have hi1 : (o.length : Int) < (l.length : Int) := by omega
        have hx0 : (0 : Int) ≤ (x : Int) := by omega
        have hxi : (x : Int) ≤ 9 := by omega
        clear hx h1
        obtain ⟨y, hy⟩ : ∃ y, r[o.length]? = some y := ⟨_, List.getElem?_eq_getElem h2⟩
        have f2 : wr.cell? ⟨d, o.length, none⟩ = some (.int .i64 (y : Int)) := by
          have hc := H2.out _ y hy
          rw [World.cell?_of_block (w := w) (HG.out.ext.old d (World.block_lt_of_cell? w _ hc))]; exact hc
        have hy9 : y < 10 := DR.out y (List.mem_of_getElem? hy)
        have hi2 : (o.length : Int) < (r.length : Int) := by omega
        have hy0 : (0 : Int) ≤ (y : Int) := by omega
        have hyi : (y : Int) ≤ 9 := by omega
        clear hy h2
        have HS := Lib.hid (show c + x + y ≤ 19 by omega)
        have hq := Tryz.q10 (x := c + x + y) (by omega)
        go_wp2_with (at_builtin; refine wpList_append_own _ rfl _ _ 66 rfl w.heap.size 3 i0 (.int .i64 0) 1 8 Tryz.underlying66 hi0 hz0 hz1 hz2 rfl (by decide) _ _ _ rfl (HG.out.own.alloc _) ⟨wr.heap.size, 0, none⟩ 1 1 [.int .i64 (((c : Int) + (x : Int) + (y : Int)) % 10)] rfl rfl Tryz.news1 Tryz.one1 (by unfold maxLen; omega) (by omega) (by simp; omega) ?_)
        intro v' w1 ho hgr _
        rw [show ((c : Int) + (x : Int) + (y : Int)) % 10 = (((c + x + y) % 10 : Nat) : Int) by omega] at ho
        have G := Tryz.Grow0.step (x := (c + x + y) % 10) HG.out ho hgr
        have GG := Lib.hid G
        clear ho hgr G
        go_wp2
        refine ⟨⟨o ++ [(c + x + y) % 10], (c + x + y) / 10, by simp, ?_, GG.out, ?_⟩, ?_⟩
        · exact congrArg (Value.int .i64) (by omega)
        · rw [List.length_append, List.length_singleton]; exact HP.out.step HS.out (.inl (by omega))
        · exact Tryz.meas1 (by have := HP.out.i1; omega)
      · obtain ⟨x, hx⟩ : ∃ x, l[o.length]? = some x := ⟨_, List.getElem?_eq_getElem h1⟩
        have f1 : wr.cell? ⟨b, o.length, none⟩ = some (.int .i64 (x : Int)) := by
          have hc := H.out _ x hx
          rw [World.cell?_of_block (w := w) (HG.out.ext.old b (World.block_lt_of_cell? w _ hc))]; exact hc
        have hx9 : x < 10 := DL.out x (List.mem_of_getElem? hx)
        have hi1 : (o.length : Int) < (l.length : Int) := by omega
        have hx0 : (0 : Int) ≤ (x : Int) := by omega
        have hxi : (x : Int) ≤ 9 := by omega
        clear hx h1
        have hi2 : ¬ (o.length : Int) < (r.length : Int) := by omega
        have HS := Lib.hid (show c + x ≤ 19 by omega)
        have hq := Tryz.q10 (x := c + x) (by omega)
        go_wp2_with (at_builtin; refine wpList_append_own _ rfl _ _ 66 rfl w.heap.size 3 i0 (.int .i64 0) 1 8 Tryz.underlying66 hi0 hz0 hz1 hz2 rfl (by decide) _ _ _ rfl (HG.out.own.alloc _) ⟨wr.heap.size, 0, none⟩ 1 1 [.int .i64 (((c : Int) + (x : Int)) % 10)] rfl rfl Tryz.news1 Tryz.one1 (by unfold maxLen; omega) (by omega) (by simp; omega) ?_)
        intro v' w1 ho hgr _
        rw [show ((c : Int) + (x : Int)) % 10 = (((c + x) % 10 : Nat) : Int) by omega] at ho
        have G := Tryz.Grow0.step (x := (c + x) % 10) HG.out ho hgr
        have GG := Lib.hid G
        clear ho hgr G
        go_wp2
        refine ⟨⟨o ++ [(c + x) % 10], (c + x) / 10, by simp, ?_, GG.out, ?_⟩, ?_⟩
        · exact congrArg (Value.int .i64) (by omega)
        · rw [List.length_append, List.length_singleton]; exact HP.out.step HS.out (.inl (by omega))
        · exact Tryz.meas1 (by have := HP.out.i1; omega)
    · by_cases h2 : o.length < r.length
      · have hi1 : ¬ (o.length : Int) < (l.length : Int) := by omega
        obtain ⟨y, hy⟩ : ∃ y, r[o.length]? = some y := ⟨_, List.getElem?_eq_getElem h2⟩
        have f2 : wr.cell? ⟨d, o.length, none⟩ = some (.int .i64 (y : Int)) := by
          have hc := H2.out _ y hy
          rw [World.cell?_of_block (w := w) (HG.out.ext.old d (World.block_lt_of_cell? w _ hc))]; exact hc
        have hy9 : y < 10 := DR.out y (List.mem_of_getElem? hy)
        have hi2 : (o.length : Int) < (r.length : Int) := by omega
        have hy0 : (0 : Int) ≤ (y : Int) := by omega
        have hyi : (y : Int) ≤ 9 := by omega
        clear hy h2
        have HS := Lib.hid (show c + y ≤ 19 by omega)
        have hq := Tryz.q10 (x := c + y) (by omega)
        go_wp2_with (at_builtin; refine wpList_append_own _ rfl _ _ 66 rfl w.heap.size 3 i0 (.int .i64 0) 1 8 Tryz.underlying66 hi0 hz0 hz1 hz2 rfl (by decide) _ _ _ rfl (HG.out.own.alloc _) ⟨wr.heap.size, 0, none⟩ 1 1 [.int .i64 (((c : Int) + (y : Int)) % 10)] rfl rfl Tryz.news1 Tryz.one1 (by unfold maxLen; omega) (by omega) (by simp; omega) ?_)
        intro v' w1 ho hgr _
        rw [show ((c : Int) + (y : Int)) % 10 = (((c + y) % 10 : Nat) : Int) by omega] at ho
        have G := Tryz.Grow0.step (x := (c + y) % 10) HG.out ho hgr
        have GG := Lib.hid G
        clear ho hgr G
        go_wp2
        refine ⟨⟨o ++ [(c + y) % 10], (c + y) / 10, by simp, ?_, GG.out, ?_⟩, ?_⟩
        · exact congrArg (Value.int .i64) (by omega)
        · rw [List.length_append, List.length_singleton]; exact HP.out.step HS.out (.inl (by omega))
        · exact Tryz.meas1 (by have := HP.out.i1; omega)
      · by_cases h3 : 0 < c
        · have hi1 : ¬ (o.length : Int) < (l.length : Int) := by omega
          have hi2 : ¬ (o.length : Int) < (r.length : Int) := by omega
          have hci : (0 : Int) < (c : Int) := by omega
          have HS := Lib.hid (show c ≤ 19 by omega)
          have hq := Tryz.q10 (x := c) (by omega)
          go_wp2_with (at_builtin; refine wpList_append_own _ rfl _ _ 66 rfl w.heap.size 3 i0 (.int .i64 0) 1 8 Tryz.underlying66 hi0 hz0 hz1 hz2 rfl (by decide) _ _ _ rfl (HG.out.own.alloc _) ⟨wr.heap.size, 0, none⟩ 1 1 [.int .i64 (((c : Int)) % 10)] rfl rfl Tryz.news1 Tryz.one1 (by unfold maxLen; omega) (by omega) (by simp; omega) ?_)
          intro v' w1 ho hgr _
          rw [show ((c : Int)) % 10 = (((c) % 10 : Nat) : Int) by omega] at ho
          have G := Tryz.Grow0.step (x := (c) % 10) HG.out ho hgr
          have GG := Lib.hid G
          clear ho hgr G
          go_wp2
          refine ⟨⟨o ++ [(c) % 10], (c) / 10, by simp, ?_, GG.out, ?_⟩, ?_⟩
          · exact congrArg (Value.int .i64) (by omega)
          · rw [List.length_append, List.length_singleton]; exact HP.out.step HS.out (.inr ⟨by omega, rfl⟩)
          · exact Tryz.meas1 (by have := HP.out.i1; omega)
        · obtain rfl : c = 0 := by omega
          have hi1 : ¬ (o.length : Int) < (l.length : Int) := by omega
          have hi2 : ¬ (o.length : Int) < (r.length : Int) := by omega
          have HN := Lib.hid (show o.length = 0 ↔ l = [] ∧ r = [] by
            rw [← List.length_eq_zero_iff (l := l), ← List.length_eq_zero_iff (l := r)]
            constructor
            · intro h; omega
            · intro h; exact (HP.out.z (by omega)).1)
          have hown := HG.out.own
          rcases hown.2 with ⟨rfl, hn⟩ | ⟨g, cp, cur, rfl, _⟩
          · have HZ := Lib.hid hn
            clear hown hn
            go_wp2
            go_ret
            exact ⟨_, rfl, ⟨none, 0, 0, rfl, by rw [← HN.out, HZ.out]⟩, HG.out.ext⟩
          · clear hown
            go_wp2
            go_ret
            exact ⟨_, rfl, ⟨some ⟨g, 0, none⟩, o.length, cp, rfl, HN.out⟩, HG.out.ext⟩
end Go.Proofs
/- The reference's long numbers: minus. -/
namespace Go.Proofs
open Go.RowKit
theorem Tryz.trim263n (w : World) : Calls Tryz.prog 263 #[.slice none 0 0] w fun e w' => e = .returned (.slice none 0 0) ∧ w' = w := by
  go_enter Tryz.func263, Tryz.ntmps263
  go_wp2
  go_loop [0] (fun t => t = .slice none 0 0) (fun _ => 0)
  case atStart => rfl
  case round =>
    subst hrel
    go_wp2
    go_ret
    exact ⟨rfl, rfl⟩
theorem Tryz.minD_neg {x y b : Nat} (hy : y < 10) (hb : b ≤ 1) (h : x < y + b) : ((Tryz.minD x y b : Nat) : Int) = (x : Int) - (b : Int) - (y : Int) + 10 := by
  unfold Tryz.minD; omega
theorem Tryz.minD_pos {x y b : Nat} (hx : x < 10) (h : ¬ x < y + b) : ((Tryz.minD x y b : Nat) : Int) = (x : Int) - (b : Int) - (y : Int) := by
  unfold Tryz.minD; omega
theorem Tryz.minB_neg {x y b : Nat} (h : x < y + b) : Tryz.minB x y b = 1 := if_pos h
theorem Tryz.minB_pos {x y b : Nat} (h : ¬ x < y + b) : Tryz.minB x y b = 0 := if_neg h
set_option maxRecDepth 100000 in
set_option maxHeartbeats 4000000 in
theorem Tryz.minus195 (l r : List Nat) (b cap d cap2 : Nat) (w : World) (hl : l.length ≤ 200) (hr : r.length ≤ l.length) (dl : Tryz.Dig l) (dr : Tryz.Dig r) (hle : Tryz.dv r ≤ Tryz.dv l)
    (h : ∀ (i : Nat) (x : Nat), l[i]? = some x → w.cell? ⟨b, i, none⟩ = some (.int .i64 (x : Int))) (h2 : ∀ (i : Nat) (x : Nat), r[i]? = some x → w.cell? ⟨d, i, none⟩ = some (.int .i64 (x : Int))) :
    Calls Tryz.prog 195 #[.slice (some ⟨b, 0, none⟩) l.length cap, .slice (some ⟨d, 0, none⟩) r.length cap2] w fun e w' =>
      ∃ v, e = .returned v ∧ Tryz.SlLen v (Tryz.dv l = Tryz.dv r) ∧ Tryz.Ext w w' := by
  have H := Lib.hid h
  have H2 := Lib.hid h2
  have DL := Lib.hid dl
  have DR := Lib.hid dr
  have HLE := Lib.hid hle
  have H23t := Lib.hid (fun w => Tryz.count23 true w)
  have H23f := Lib.hid (fun w => Tryz.count23 false w)
  have H263 := Lib.hid (fun l b cap w h1 h2 h3 => Tryz.trim263 l b cap w h1 h2 h3)
  have H263n := Lib.hid Tryz.trim263n
  rw [show Tryz.orZero true 1 = 1 from rfl] at H23t
  rw [show Tryz.orZero false 1 = 0 from rfl] at H23f
  clear h h2 dl dr hle
  go_enter Tryz.func195, Tryz.ntmps195
  go_wp2
  go_loopw [5, 6, 7] (fun v cv iv wr => ∃ (o : List Nat) (c : Nat), iv = .int .i64 (o.length : Nat) ∧ cv = .int .i64 c ∧ Tryz.Grow0 w wr v o ∧ Tryz.Mins l r o c ∧ o.length ≤ l.length) (fun _ _ iv _ => l.length + 1 - (intOf iv).toNat)
  case atStart => exact ⟨[], 0, rfl, rfl, .nil w, .nil l r, by simp⟩
  case round =>
    revert wr
    intro wr hrel
    obtain ⟨o, c, rfl, rfl, hg, hm, hol⟩ := hrel
    have HG := Lib.hid hg
    have HM := Lib.hid hm
    have hcb := hm.bor
    have hc1 : (c : Int) ≤ 1 := by omega
    have hc0 : (0 : Int) ≤ (c : Int) := by omega
    have hob' : (o.length : Int) ≤ 201 := by omega
    have hob0 : (0 : Int) ≤ (o.length : Int) := by omega
    have hsz : w.heap.size ≤ wr.heap.size := hg.ext.size
    obtain ⟨i0, hi0, hz0, hz1, hz2⟩ := info_parts Tryz.info3
    clear hg hm
    by_cases h1 : o.length < l.length
    · obtain ⟨x, hx⟩ : ∃ x, l[o.length]? = some x := ⟨_, List.getElem?_eq_getElem h1⟩
      have f1 : wr.cell? ⟨b, o.length, none⟩ = some (.int .i64 (x : Int)) := by
        have hc := H.out _ x hx
        rw [World.cell?_of_block (w := w) (HG.out.ext.old b (World.block_lt_of_cell? w _ hc))]; exact hc
      have hx9 : x < 10 := DL.out x (List.mem_of_getElem? hx)
      have hi1 : (o.length : Int) < (l.length : Int) := by omega
      have hx0 : (0 : Int) ≤ (x : Int) := by omega
      have hxi : (x : Int) ≤ 9 := by omega
      have HX := Lib.hid hx
      clear hx
      by_cases h2 : o.length < r.length
      · obtain ⟨y, hy⟩ : ∃ y, r[o.length]? = some y := ⟨_, List.getElem?_eq_getElem h2⟩
        have hy9 : y < 10 := DR.out y (List.mem_of_getElem? hy)
        by_cases hneg : x < y + c
        · have f2 : wr.cell? ⟨d, o.length, none⟩ = some (.int .i64 (y : Int)) := by
            have hc := H2.out _ y hy
            rw [World.cell?_of_block (w := w) (HG.out.ext.old d (World.block_lt_of_cell? w _ hc))]; exact hc
          have hi2 : (o.length : Int) < (r.length : Int) := by omega
          have hy0 : (0 : Int) ≤ (y : Int) := by omega
          have hyi : (y : Int) ≤ 9 := by omega
          have hsg : (x : Int) - (c : Int) - (y : Int) < 0 := by omega
          have HS := Lib.hid (HM.out.step (y := y) HX.out (by rw [hy]; rfl) hx9 (by omega))
          have HD := Lib.hid (Tryz.minD_neg (x := x) (y := y) (b := c) (by omega) (by omega) (by omega))
          rw [Tryz.minB_neg (by omega)] at HS
          clear h1 h2 hy
          go_wp2_with (first
            | (go_at_call 23; refine (H23t.out _).mono ?_; rintro e w' ⟨rfl, rfl⟩)
            | (at_builtin; refine wpList_append_own _ rfl _ _ 66 rfl w.heap.size 3 i0 (.int .i64 0) 1 8 Tryz.underlying66 hi0 hz0 hz1 hz2 rfl (by decide) _ _ _ rfl (HG.out.own.alloc _) ⟨_, 0, none⟩ 1 1 [_] rfl rfl Tryz.news1 Tryz.one1 (by unfold maxLen; omega) (by omega) (by simp; omega) ?_))
          intro v' w1 ho hgr _
          rw [show (x : Int) - (c : Int) - (y : Int) + 10 = ((Tryz.minD x y c : Nat) : Int) by rw [HD.out] <;> omega] at ho
          have G := Tryz.Grow0.step (x := Tryz.minD x y c) HG.out ho hgr
          have GG := Lib.hid G
          clear ho hgr G
          go_wp2
          refine ⟨⟨o ++ [Tryz.minD x y c], 1, by simp, rfl, GG.out, HS.out, by rw [List.length_append, List.length_singleton]; omega⟩, ?_⟩
          exact Tryz.meas1 (by omega)
        · have f2 : wr.cell? ⟨d, o.length, none⟩ = some (.int .i64 (y : Int)) := by
            have hc := H2.out _ y hy
            rw [World.cell?_of_block (w := w) (HG.out.ext.old d (World.block_lt_of_cell? w _ hc))]; exact hc
          have hi2 : (o.length : Int) < (r.length : Int) := by omega
          have hy0 : (0 : Int) ≤ (y : Int) := by omega
          have hyi : (y : Int) ≤ 9 := by omega
          have hsg : ¬ (x : Int) - (c : Int) - (y : Int) < 0 := by omega
          have HS := Lib.hid (HM.out.step (y := y) HX.out (by rw [hy]; rfl) hx9 (by omega))
          have HD := Lib.hid (Tryz.minD_pos (x := x) (y := y) (b := c) (by omega) (by omega))
          rw [Tryz.minB_pos (by omega)] at HS
          clear h1 h2 hy
          go_wp2_with (first
            | (go_at_call 23; refine (H23f.out _).mono ?_; rintro e w' ⟨rfl, rfl⟩)
            | (at_builtin; refine wpList_append_own _ rfl _ _ 66 rfl w.heap.size 3 i0 (.int .i64 0) 1 8 Tryz.underlying66 hi0 hz0 hz1 hz2 rfl (by decide) _ _ _ rfl (HG.out.own.alloc _) ⟨_, 0, none⟩ 1 1 [_] rfl rfl Tryz.news1 Tryz.one1 (by unfold maxLen; omega) (by omega) (by simp; omega) ?_))
          intro v' w1 ho hgr _
          rw [show (x : Int) - (c : Int) - (y : Int) = ((Tryz.minD x y c : Nat) : Int) by rw [HD.out] <;> omega] at ho
          have G := Tryz.Grow0.step (x := Tryz.minD x y c) HG.out ho hgr
          have GG := Lib.hid G
          clear ho hgr G
          go_wp2
          refine ⟨⟨o ++ [Tryz.minD x y c], 0, by simp, rfl, GG.out, HS.out, by rw [List.length_append, List.length_singleton]; omega⟩, ?_⟩
          exact Tryz.meas1 (by omega)
      · by_cases hneg : x < 0 + c
        · have hi2 : ¬ (o.length : Int) < (r.length : Int) := by omega
          have hsg : (x : Int) - (c : Int) < 0 := by omega
          have HS := Lib.hid (HM.out.step (y := 0) HX.out (by rw [List.getElem?_eq_none (by omega)]; rfl) hx9 (by omega))
          have HD := Lib.hid (Tryz.minD_neg (x := x) (y := 0) (b := c) (by omega) (by omega) (by omega))
          rw [Tryz.minB_neg (by omega)] at HS
          clear h1 h2
          go_wp2_with (first
            | (go_at_call 23; refine (H23t.out _).mono ?_; rintro e w' ⟨rfl, rfl⟩)
            | (at_builtin; refine wpList_append_own _ rfl _ _ 66 rfl w.heap.size 3 i0 (.int .i64 0) 1 8 Tryz.underlying66 hi0 hz0 hz1 hz2 rfl (by decide) _ _ _ rfl (HG.out.own.alloc _) ⟨_, 0, none⟩ 1 1 [_] rfl rfl Tryz.news1 Tryz.one1 (by unfold maxLen; omega) (by omega) (by simp; omega) ?_))
          intro v' w1 ho hgr _
          rw [show (x : Int) - (c : Int) + 10 = ((Tryz.minD x 0 c : Nat) : Int) by rw [HD.out] <;> omega] at ho
          have G := Tryz.Grow0.step (x := Tryz.minD x 0 c) HG.out ho hgr
          have GG := Lib.hid G
          clear ho hgr G
          go_wp2
          refine ⟨⟨o ++ [Tryz.minD x 0 c], 1, by simp, rfl, GG.out, HS.out, by rw [List.length_append, List.length_singleton]; omega⟩, ?_⟩
          exact Tryz.meas1 (by omega)
        · have hi2 : ¬ (o.length : Int) < (r.length : Int) := by omega
          have hsg : ¬ (x : Int) - (c : Int) < 0 := by omega
          have HS := Lib.hid (HM.out.step (y := 0) HX.out (by rw [List.getElem?_eq_none (by omega)]; rfl) hx9 (by omega))
          have HD := Lib.hid (Tryz.minD_pos (x := x) (y := 0) (b := c) (by omega) (by omega))
          rw [Tryz.minB_pos (by omega)] at HS
          clear h1 h2
          go_wp2_with (first
            | (go_at_call 23; refine (H23f.out _).mono ?_; rintro e w' ⟨rfl, rfl⟩)
            | (at_builtin; refine wpList_append_own _ rfl _ _ 66 rfl w.heap.size 3 i0 (.int .i64 0) 1 8 Tryz.underlying66 hi0 hz0 hz1 hz2 rfl (by decide) _ _ _ rfl (HG.out.own.alloc _) ⟨_, 0, none⟩ 1 1 [_] rfl rfl Tryz.news1 Tryz.one1 (by unfold maxLen; omega) (by omega) (by simp; omega) ?_))
          intro v' w1 ho hgr _
          rw [show (x : Int) - (c : Int) = ((Tryz.minD x 0 c : Nat) : Int) by rw [HD.out] <;> omega] at ho
          have G := Tryz.Grow0.step (x := Tryz.minD x 0 c) HG.out ho hgr
          have GG := Lib.hid G
          clear ho hgr G
          go_wp2
          refine ⟨⟨o ++ [Tryz.minD x 0 c], 0, by simp, rfl, GG.out, HS.out, by rw [List.length_append, List.length_singleton]; omega⟩, ?_⟩
          exact Tryz.meas1 (by omega)
    · have hi1 : ¬ (o.length : Int) < (l.length : Int) := by omega
      have hlen : o.length = l.length := by omega
      have hdone := HM.out.done hlen hr HLE.out
      have hz : Tryz.trimD o o.length = 0 ↔ Tryz.dv l = Tryz.dv r := by
        have ht := Tryz.trim_nil (Tryz.trim_trimD (l := o) o.length (Nat.le_refl _))
        rw [Tryz.dv_trimD _ (Nat.le_refl _), List.take_length, List.length_take, Nat.min_eq_left (Tryz.trimD_le _ _)] at ht
        rw [ht]; omega
      have HZ := Lib.hid hz
      have HN := Lib.hid hlen
      clear hz hlen hdone
      have hown := HG.out.own
      rcases hown.2 with ⟨rfl, hn⟩ | ⟨g, cp, cur, rfl, _, _, hcp, _⟩
      · have H0 := Lib.hid hn
        clear hown hn
        go_wp2_with (go_at_call 263; refine (H263n.out _).mono ?_; rintro e w' ⟨rfl, rfl⟩)
        go_ret
        exact ⟨_, rfl, ⟨none, 0, 0, rfl, by rw [← HZ.out, H0.out]; simp [Tryz.trimD]⟩, HG.out.ext⟩
      · have hcells : ∀ (i x : Nat), o[i]? = some x → wr.cell? ⟨g, i, none⟩ = some (.int .i64 (x : Int)) := fun i x hx => by
          have := hown.cells (g := g) rfl i _ (Tryz.dcs_get hx)
          have hadd : (⟨g, 0, none⟩ : Addr).add i = ⟨g, i, none⟩ := by unfold Addr.add; split <;> simp_all
          rwa [hadd] at this
        have HCE := Lib.hid (And.intro hcp hcells)
        clear hown hcp hcells
        go_wp2_with (go_at_call 263; refine (H263.out o g cp _ (by omega) HCE.out.1 HCE.out.2).mono ?_; rintro e w' ⟨rfl, rfl⟩)
        go_ret
        exact ⟨_, rfl, ⟨_, _, _, rfl, HZ.out⟩, HG.out.ext⟩
end Go.Proofs
/- numeric.Compared. -/
namespace Go.Proofs
open Go.RowKit
def Tryz.cmpS (N M : Int) (X Y : Nat) : Int := if N < 0 then (if M < 0 then Tryz.cmpN Y X else -1) else if M < 0 then 1 else Tryz.cmpN X Y
def Tryz.i64c (l : List Int) : Array Value := (l.map (Value.int .i64)).toArray
theorem Tryz.i64c_get {l : List Int} {j : Nat} {x : Int} (h : l[j]? = some x) : (Tryz.i64c l)[j]? = some (.int .i64 x) := by simp [Tryz.i64c, h]
theorem Tryz.wv_amount {N : Int} (hN : N.natAbs ≤ 999999999999999) {n : Nat} (hn : n ≤ 15) : Tryz.wv (Tryz.shiftF n [N.natAbs, 0, 0, 0]) = N.natAbs * 10 ^ n := by
  have h0 : Tryz.wv [N.natAbs, 0, 0, 0] = N.natAbs := by simp [Tryz.wv]
  have h1 : 10 ^ n ≤ 10 ^ 15 := Nat.pow_le_pow_right (by omega) hn
  have h2 : N.natAbs * 10 ^ n ≤ 999999999999999 * 10 ^ 15 := Nat.mul_le_mul hN h1
  rw [Tryz.wv_shift rfl n (by rw [h0]; omega), h0]
theorem Tryz.cmp_amounts {N M : Int} (hN : N.natAbs ≤ 999999999999999) (hM : M.natAbs ≤ 999999999999999) {n m : Nat} (hn : n ≤ 15) (hm : m ≤ 15) {x0 x1 x2 x3 y0 y1 y2 y3 : Nat}
    (hx : Tryz.shiftF n [N.natAbs, 0, 0, 0] = [x0, x1, x2, x3]) (hy : Tryz.shiftF m [M.natAbs, 0, 0, 0] = [y0, y1, y2, y3]) :
    Tryz.cmpL [x3, x2, x1, x0] [y3, y2, y1, y0] = Tryz.cmpN (N.natAbs * 10 ^ n) (M.natAbs * 10 ^ m) := by
  have lx := Tryz.shiftF_lt (a := [N.natAbs, 0, 0, 0]) (by intro x hx; simp at hx; rcases hx with rfl | rfl <;> omega) n
  have ly := Tryz.shiftF_lt (a := [M.natAbs, 0, 0, 0]) (by intro x hx; simp at hx; rcases hx with rfl | rfl <;> omega) m
  rw [hx] at lx
  rw [hy] at ly
  have hwx := Tryz.wv_amount hN hn
  have hwy := Tryz.wv_amount hM hm
  rw [hx] at hwx
  rw [hy] at hwy
  rw [Tryz.cmpL_wv (lx _ (by simp)) (lx _ (by simp)) (lx _ (by simp)) (ly _ (by simp)) (ly _ (by simp)) (ly _ (by simp)), hwx, hwy]
set_option maxRecDepth 100000 in
set_option maxHeartbeats 4000000 in
theorem Tryz.compared61 (N M : Int) (S R : Nat) (hN : N.natAbs ≤ 999999999999999) (hM : M.natAbs ≤ 999999999999999) (hS : S ≤ 15) (hR : R ≤ 15) (w : World) :
    Calls Tryz.prog 61 #[.agg #[.int .i64 N, .int .i64 S], .agg #[.int .i64 M, .int .i64 R]] w fun e w' =>
      e = .returned (.tuple #[.int .i64 (Tryz.cmpS N M (N.natAbs * 10 ^ (max S R - S)) (M.natAbs * 10 ^ (max S R - R))), .int .i64 0]) ∧ Tryz.Ext w w' := by
  have ok1 : Tryz.numOk N S = true := by simp [Tryz.numOk, Tryz.within]; omega
  have ok2 : Tryz.numOk M R = true := by simp [Tryz.numOk, Tryz.within]; omega
  have H1 := Lib.hid (fun w => Tryz.check48 N S w)
  have H2 := Lib.hid (fun w => Tryz.check48 M R w)
  rw [ok1] at H1
  rw [ok2] at H2
  have h3 := fun w => Tryz.aligned120 N M S R (by omega) (by omega) (by omega) (by omega) hS hR w
  have H4 := Lib.hid (fun b w h => Tryz.first119 [0, 0] b 2 w (by decide) h)
  have H5 := Lib.hid (fun x0 x1 x2 x3 y0 y1 y2 y3 w => Tryz.compare121 x0 x1 x2 x3 y0 y1 y2 y3 w)
  obtain ⟨x0, x1, x2, x3, hx⟩ := Tryz.len4 ((Tryz.shiftF_len (max S R - S) [N.natAbs, 0, 0, 0]).trans rfl)
  obtain ⟨y0, y1, y2, y3, hy⟩ := Tryz.len4 ((Tryz.shiftF_len (max S R - R) [M.natAbs, 0, 0, 0]).trans rfl)
  have hc1 := Tryz.cmp_amounts hN hM (by omega) (by omega) hx hy
  have hc2 := Tryz.cmp_amounts hM hN (by omega) (by omega) hy hx
  have HC1 := Lib.hid hc1
  have HC2 := Lib.hid hc2
  have HX := Lib.hid hx
  have HY := Lib.hid hy
  simp only [hx, hy, show Tryz.u64c [x0, x1, x2, x3] = #[.int .u64 x0, .int .u64 x1, .int .u64 x2, .int .u64 x3] from rfl, show Tryz.u64c [y0, y1, y2, y3] = #[.int .u64 y0, .int .u64 y1, .int .u64 y2, .int .u64 y3] from rfl] at h3
  have H3 := Lib.hid h3
  clear hx hy hc1 hc2 ok1 ok2 h3
  go_enter Tryz.func61, Tryz.ntmps61
  go_wp2
  obtain ⟨W, hW⟩ : ∃ W, W = (w.alloc (Obj.cells #[Value.int IntKind.i64 N, Value.int IntKind.i64 ↑S] 33)).alloc (Obj.cells #[Value.int IntKind.i64 M, Value.int IntKind.i64 ↑R] 33) := ⟨_, rfl⟩
  rw [← hW]
  have hsz : W.heap.size = w.heap.size + 2 := by rw [hW]; simp
  have k0 : W.heap[w.heap.size]? = some (.cells #[Value.int IntKind.i64 N, Value.int IntKind.i64 ↑S] 33) := by rw [hW]; exact Tryz.alloc_old (Tryz.bnew _ _) _
  have k1 : W.heap[w.heap.size + 1]? = some (.cells #[Value.int IntKind.i64 M, Value.int IntKind.i64 ↑R] 33) := by rw [hW]; exact Tryz.alloc_at (Tryz.alloc_sz rfl _) _
  have kE : Tryz.Ext w W := by rw [hW]; exact Tryz.alloc_ext (Tryz.alloc_ext (.refl _) _) _
  clear hW
  obtain ⟨p, hpW, hpO⟩ := Tryz.hideP fun w' => w'.heap[w.heap.size]? = some (.cells #[Value.int IntKind.i64 N, Value.int IntKind.i64 ↑S] 33) ∧ w'.heap[w.heap.size + 1]? = some (.cells #[Value.int IntKind.i64 M, Value.int IntKind.i64 ↑R] 33)
  haveI : Nonempty (Tryz.InC p) := ⟨⟨W, hpW W ⟨k0, k1⟩⟩⟩
  have c0 : ∀ x : Tryz.InC p, x.w.cell? ⟨w.heap.size, 0, none⟩ = some (.int .i64 N) := fun x => Tryz.bcell (j := 0) (hpO _ x.h).1 rfl
  have c1 : ∀ x : Tryz.InC p, x.w.cell? ⟨w.heap.size, 1, none⟩ = some (.int .i64 S) := fun x => Tryz.bcell (j := 1) (hpO _ x.h).1 rfl
  have d0 : ∀ x : Tryz.InC p, x.w.cell? ⟨w.heap.size + 1, 0, none⟩ = some (.int .i64 M) := fun x => Tryz.bcell (j := 0) (hpO _ x.h).2 rfl
  have d1 : ∀ x : Tryz.InC p, x.w.cell? ⟨w.heap.size + 1, 1, none⟩ = some (.int .i64 R) := fun x => Tryz.bcell (j := 1) (hpO _ x.h).2 rfl
  have HPW := Lib.hid hpW
  clear hpW hpO
  refine Tryz.region_order (C := fun w' => ∃ x : Tryz.InC p, w' = x.w)
    [(true, 0), (true, 2), (false, 1), (false, 3), (false, 4), (false, 5), (false, 6)] (by kernel_rfl) (by kernel_rfl) ⟨⟨{ W with drawn := W.drawn + 1 }, HPW.out _ ⟨k0, k1⟩⟩, rfl⟩ ?_
  simp only [Tryz.picks, List.filterMap_cons, List.filterMap_nil, List.getElem?_cons_succ, List.getElem?_cons_zero, Option.map_some]
  iterate 2 (refine Tryz.mix_calm (fun K hK => ?_); unfold Tryz.calm; go_simp; refine hK _ ?_; clear hK K)
  refine Tryz.mix_step (by kernel_rfl) (fun K hK => ?_)
  go_simp
  refine (H1.out _).mono ?_
  rintro e w1 ⟨rfl, hx⟩
  have q0 := (hx.old w.heap.size (by have hd : W.drew.heap.size = w.heap.size + 2 := hsz; omega)).trans k0
  have q1 := (hx.old (w.heap.size + 1) (by have hd : W.drew.heap.size = w.heap.size + 2 := hsz; omega)).trans k1
  refine hK _ _ ⟨⟨w1, HPW.out _ ⟨q0, q1⟩⟩, rfl⟩ ?_
  clear hK K
  refine Tryz.mix_step (by kernel_rfl) (fun K hK => ?_)
  go_simp
  refine (H2.out _).mono ?_
  rintro e w2 ⟨rfl, hy⟩
  have hall := (kE.trans (Tryz.drew_ext W)).trans (hx.trans hy)
  have hsz2 : w.heap.size + 2 ≤ w2.heap.size := by rw [← hsz]; exact (hx.trans hy).size
  replace q0 := ((hx.trans hy).old w.heap.size (by have hd : W.drew.heap.size = w.heap.size + 2 := hsz; omega)).trans k0
  replace q1 := ((hx.trans hy).old (w.heap.size + 1) (by have hd : W.drew.heap.size = w.heap.size + 2 := hsz; omega)).trans k1
  refine hK _ _ ⟨⟨w2, HPW.out _ ⟨q0, q1⟩⟩, rfl⟩ ?_
  clear hK K
  refine Tryz.mix_step (by kernel_rfl) (fun K hK => ?_)
  go_simp
  rw [show Tryz.orZero false 3 = 0 from rfl]
  obtain ⟨w3, hw3⟩ : ∃ w3, w3 = w2.alloc (Obj.cells #[Value.int IntKind.i64 0, Value.int IntKind.i64 0] 25) := ⟨_, rfl⟩
  rw [← hw3]
  have r0 := Tryz.alloc_old q0 (Obj.cells #[Value.int IntKind.i64 0, Value.int IntKind.i64 0] 25)
  have r1 := Tryz.alloc_old q1 (Obj.cells #[Value.int IntKind.i64 0, Value.int IntKind.i64 0] 25)
  rw [← hw3] at r0 r1
  have r2 : w3.heap[w2.heap.size]? = some (.cells (Tryz.i64c [0, 0]) 25) := by rw [hw3]; exact Tryz.bnew _ _
  have hE3 : Tryz.Ext w w3 := by rw [hw3]; exact Tryz.alloc_ext hall _
  clear hw3
  refine hK _ _ ⟨⟨w3, HPW.out _ ⟨r0, r1⟩⟩, rfl⟩ ?_
  clear hK K
  refine Tryz.mix_step (by kernel_rfl) (fun K hK => ?_)
  go_simp
  refine (H4.out _ _ fun i x hi => Tryz.bcell r2 (Tryz.i64c_get hi)).mono ?_
  rintro e w' ⟨rfl, rfl⟩
  refine hK _ _ ⟨⟨w', HPW.out _ ⟨r0, r1⟩⟩, rfl⟩ ?_
  clear hK K
  rw [show Tryz.firstF [0, 0] = 0 from rfl]
  refine Tryz.mix_step (by kernel_rfl) (fun K hK => ?_)
  go_simp
  refine hK _ _ ⟨⟨w', HPW.out _ ⟨r0, r1⟩⟩, rfl⟩ ?_
  refine Tryz.mix_nil ?_
  have hz : w.heap.size + 2 ≤ w'.heap.size := by have := (Array.getElem?_eq_some_iff.1 r1).1; omega
  clear hK K c0 c1 d0 d1 this q0 q1 k0 k1 hx hy hall kE r2 hsz hsz2 HPW
  have c0 := Tryz.bcell (j := 0) r0 rfl; have c1 := Tryz.bcell (j := 1) r0 rfl; have d0 := Tryz.bcell (j := 0) r1 rfl; have d1 := Tryz.bcell (j := 1) r1 rfl
  have HE3 := Lib.hid hE3
  have HR0 := Lib.hid r0
  have HR1 := Lib.hid r1
  clear hE3 r0 r1
  by_cases hn : N < 0
  · by_cases hm : M < 0
    · have HV := Lib.hid (show Tryz.cmpS N M (N.natAbs * 10 ^ (max S R - S)) (M.natAbs * 10 ^ (max S R - R)) = Tryz.cmpL [y3, y2, y1, y0] [x3, x2, x1, x0] by rw [HC2.out, Tryz.cmpS, if_pos hn, if_pos hm])
      go_wp2_with (first
        | (go_at_call 120; refine (H3.out _).mono ?_; rintro e w4 ⟨rfl, hx⟩
           have b0 := (hx.old w.heap.size (by omega)).trans HR0.out
           have b1 := (hx.old (w.heap.size + 1) (by omega)).trans HR1.out
           have c0 : ∀ o o2, ((w4.alloc o).alloc o2).cell? ⟨w.heap.size, 0, none⟩ = some (.int .i64 N) := fun o o2 => Tryz.bcell (j := 0) (Tryz.alloc_old (Tryz.alloc_old b0 o) o2) rfl
           have d0 : ∀ o o2, ((w4.alloc o).alloc o2).cell? ⟨w.heap.size + 1, 0, none⟩ = some (.int .i64 M) := fun o o2 => Tryz.bcell (j := 0) (Tryz.alloc_old (Tryz.alloc_old b1 o) o2) rfl
           have HX4 := Lib.hid (HE3.out.trans hx); clear b0 b1 hx)
        | (go_at_call 121; refine (H5.out y0 y1 y2 y3 x0 x1 x2 x3 _).mono ?_; rintro e w5 ⟨rfl, hy⟩; have HX5 := Lib.hid hy; clear hy))
      go_ret2
      exact ⟨by rw [HV.out]; rfl, (Tryz.alloc_ext (Tryz.alloc_ext HX4.out _) _).trans HX5.out⟩
    · have HV := Lib.hid (show Tryz.cmpS N M (N.natAbs * 10 ^ (max S R - S)) (M.natAbs * 10 ^ (max S R - R)) = -1 by rw [Tryz.cmpS, if_pos hn, if_neg hm])
      go_wp2_with (first
        | (go_at_call 120; refine (H3.out _).mono ?_; rintro e w4 ⟨rfl, hx⟩
           have b0 := (hx.old w.heap.size (by omega)).trans HR0.out
           have b1 := (hx.old (w.heap.size + 1) (by omega)).trans HR1.out
           have c0 : ∀ o o2, ((w4.alloc o).alloc o2).cell? ⟨w.heap.size, 0, none⟩ = some (.int .i64 N) := fun o o2 => Tryz.bcell (j := 0) (Tryz.alloc_old (Tryz.alloc_old b0 o) o2) rfl
           have d0 : ∀ o o2, ((w4.alloc o).alloc o2).cell? ⟨w.heap.size + 1, 0, none⟩ = some (.int .i64 M) := fun o o2 => Tryz.bcell (j := 0) (Tryz.alloc_old (Tryz.alloc_old b1 o) o2) rfl
           have HX4 := Lib.hid (HE3.out.trans hx); clear b0 b1 hx)
        | (go_at_call 121; refine (H5.out y0 y1 y2 y3 x0 x1 x2 x3 _).mono ?_; rintro e w5 ⟨rfl, hy⟩; have HX5 := Lib.hid hy; clear hy))
      go_ret2
      exact ⟨by rw [HV.out]; rfl, Tryz.alloc_ext (Tryz.alloc_ext HX4.out _) _⟩
  · by_cases hm : M < 0
    · have HV := Lib.hid (show Tryz.cmpS N M (N.natAbs * 10 ^ (max S R - S)) (M.natAbs * 10 ^ (max S R - R)) = 1 by rw [Tryz.cmpS, if_neg hn, if_pos hm])
      go_wp2_with (first
        | (go_at_call 120; refine (H3.out _).mono ?_; rintro e w4 ⟨rfl, hx⟩
           have b0 := (hx.old w.heap.size (by omega)).trans HR0.out
           have b1 := (hx.old (w.heap.size + 1) (by omega)).trans HR1.out
           have c0 : ∀ o o2, ((w4.alloc o).alloc o2).cell? ⟨w.heap.size, 0, none⟩ = some (.int .i64 N) := fun o o2 => Tryz.bcell (j := 0) (Tryz.alloc_old (Tryz.alloc_old b0 o) o2) rfl
           have d0 : ∀ o o2, ((w4.alloc o).alloc o2).cell? ⟨w.heap.size + 1, 0, none⟩ = some (.int .i64 M) := fun o o2 => Tryz.bcell (j := 0) (Tryz.alloc_old (Tryz.alloc_old b1 o) o2) rfl
           have HX4 := Lib.hid (HE3.out.trans hx); clear b0 b1 hx)
        | (go_at_call 121; refine (H5.out y0 y1 y2 y3 x0 x1 x2 x3 _).mono ?_; rintro e w5 ⟨rfl, hy⟩; have HX5 := Lib.hid hy; clear hy))
      go_ret2
      exact ⟨by rw [HV.out]; rfl, Tryz.alloc_ext (Tryz.alloc_ext HX4.out _) _⟩
    · have HV := Lib.hid (show Tryz.cmpS N M (N.natAbs * 10 ^ (max S R - S)) (M.natAbs * 10 ^ (max S R - R)) = Tryz.cmpL [x3, x2, x1, x0] [y3, y2, y1, y0] by rw [HC1.out, Tryz.cmpS, if_neg hn, if_neg hm])
      go_wp2_with (first
        | (go_at_call 120; refine (H3.out _).mono ?_; rintro e w4 ⟨rfl, hx⟩
           have b0 := (hx.old w.heap.size (by omega)).trans HR0.out
           have b1 := (hx.old (w.heap.size + 1) (by omega)).trans HR1.out
           have c0 : ∀ o o2, ((w4.alloc o).alloc o2).cell? ⟨w.heap.size, 0, none⟩ = some (.int .i64 N) := fun o o2 => Tryz.bcell (j := 0) (Tryz.alloc_old (Tryz.alloc_old b0 o) o2) rfl
           have d0 : ∀ o o2, ((w4.alloc o).alloc o2).cell? ⟨w.heap.size + 1, 0, none⟩ = some (.int .i64 M) := fun o o2 => Tryz.bcell (j := 0) (Tryz.alloc_old (Tryz.alloc_old b1 o) o2) rfl
           have HX4 := Lib.hid (HE3.out.trans hx); clear b0 b1 hx)
        | (go_at_call 121; refine (H5.out x0 x1 x2 x3 y0 y1 y2 y3 _).mono ?_; rintro e w5 ⟨rfl, hy⟩; have HX5 := Lib.hid hy; clear hy))
      go_ret2
      exact ⟨by rw [HV.out]; rfl, (Tryz.alloc_ext (Tryz.alloc_ext HX4.out _) _).trans HX5.out⟩
end Go.Proofs
