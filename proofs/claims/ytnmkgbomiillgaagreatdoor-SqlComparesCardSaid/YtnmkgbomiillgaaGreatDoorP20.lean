/- Part 20 of the proof. -/
import Derived.Test.YtnmkgbomiillgaaGreatDoorP19
/- The reference's long numbers: Sum. -/
namespace Go.Proofs
open Go.RowKit
theorem Tryz.set_ext {w w1 : World} (h : Tryz.Ext w w1) {q j : Nat} (hq : w.heap.size ≤ q) (v : Value) : Tryz.Ext w (w1.setCell ⟨q, j, none⟩ v) :=
  ⟨by rw [Tryz.bsize]; exact h.size, fun k hk => by rw [Tryz.bother (by omega)]; exact h.old k hk, h.out⟩
theorem Tryz.bother2 {W : World} {q k : Nat} {u v : Value} (h : k ≠ q) : ((W.setCell ⟨q, 0, none⟩ u).setCell ⟨q, 1, none⟩ v).heap[k]? = W.heap[k]? := (Tryz.bother h).trans (Tryz.bother h)
theorem Tryz.len_le {l r : List Nat} (dr : Tryz.Dig r) (tl : Tryz.Trim l) (h : Tryz.dv l ≤ Tryz.dv r) : l.length ≤ r.length := by
  rcases Nat.lt_or_ge r.length l.length with k | k
  · exfalso
    have h1 := Tryz.trim_pos tl (n := l.length - 1) (by omega)
    have h2 := Tryz.dv_lt dr
    have h3 : 10 ^ r.length ≤ 10 ^ (l.length - 1) := Nat.pow_le_pow_right (by omega) (by omega)
    omega
  · exact k
set_option maxRecDepth 100000 in
set_option maxHeartbeats 4000000 in
theorem Tryz.sum123t (l r : List Nat) (b cap d cap2 : Nat) (w : World) (hl : l.length ≤ 200) (hr : r.length ≤ 200) (dl : Tryz.Dig l) (dr : Tryz.Dig r) 
    (h : ∀ (i : Nat) (x : Nat), l[i]? = some x → w.cell? ⟨b, i, none⟩ = some (.int .i64 (x : Int))) (h2 : ∀ (i : Nat) (x : Nat), r[i]? = some x → w.cell? ⟨d, i, none⟩ = some (.int .i64 (x : Int))) :
    Calls Tryz.prog 123 #[.agg #[.bool true, .slice (some ⟨b, 0, none⟩) l.length cap], .agg #[.bool true, .slice (some ⟨d, 0, none⟩) r.length cap2]] w fun e w' =>
      ∃ v, e = .returned (.agg #[.bool true, v]) ∧ Tryz.SlLen v (l = [] ∧ r = []) ∧ Tryz.Ext w w' := by
  have hb1 : ∀ i x : Nat, l[i]? = some x → b < w.heap.size := fun i x hx => World.block_lt_of_cell? w _ (h i x hx)
  have hb2 : ∀ i x : Nat, r[i]? = some x → d < w.heap.size := fun i x hx => World.block_lt_of_cell? w _ (h2 i x hx)
  have hc := fun (w' : World) (e : Tryz.Ext w w') => Tryz.plus193 l r b cap d cap2 w' hl hr dl dr (fun i x hx => by rw [World.cell?_of_block (w := w) (e.old b (hb1 i x hx))]; exact h i x hx) (fun i x hx => by rw [World.cell?_of_block (w := w) (e.old d (hb2 i x hx))]; exact h2 i x hx)
  have HC := Lib.hid hc
  clear h h2 hb1 hb2 hc dl dr hl hr
  go_enter Tryz.func123, Tryz.ntmps123
  go_wp2
  obtain ⟨W, hW⟩ : ∃ W, W = ((w.alloc (Obj.cells #[Value.bool true, Value.slice (some ⟨b, 0, none⟩) l.length cap] 190)).alloc (Obj.cells #[Value.bool true, Value.slice (some ⟨d, 0, none⟩) r.length cap2] 190)).alloc (Obj.cells #[Value.bool false, Value.slice none 0 0] 190) := ⟨_, rfl⟩
  rw [← hW]
  have k0 : W.heap[w.heap.size]? = some (Obj.cells #[Value.bool true, Value.slice (some ⟨b, 0, none⟩) l.length cap] 190) := by rw [hW]; exact Tryz.alloc_old (Tryz.alloc_old (Tryz.bnew _ _) _) _
  have k1 : W.heap[w.heap.size + 1]? = some (Obj.cells #[Value.bool true, Value.slice (some ⟨d, 0, none⟩) r.length cap2] 190) := by rw [hW]; exact Tryz.alloc_old (Tryz.alloc_at (Tryz.alloc_sz rfl _) _) _
  have k2 : W.heap[w.heap.size + 1 + 1]? = some (Obj.cells #[Value.bool false, Value.slice none 0 0] 190) := by rw [hW]; exact Tryz.alloc_at (Tryz.alloc_sz (Tryz.alloc_sz rfl _) _) _
  have kE : Tryz.Ext w W := by rw [hW]; exact Tryz.alloc_ext (Tryz.alloc_ext (Tryz.alloc_ext (.refl _) _) _) _
  clear hW
  obtain ⟨p, hpW, hpO⟩ := Tryz.hideP fun w' => w'.heap[w.heap.size]? = some (Obj.cells #[Value.bool true, Value.slice (some ⟨b, 0, none⟩) l.length cap] 190) ∧ w'.heap[w.heap.size + 1]? = some (Obj.cells #[Value.bool true, Value.slice (some ⟨d, 0, none⟩) r.length cap2] 190)
  haveI : Nonempty (Tryz.InC p) := ⟨⟨W, hpW W ⟨k0, k1⟩⟩⟩
  have c0 : ∀ x : Tryz.InC p, x.w.cell? ⟨w.heap.size, 0, none⟩ = some (.bool true) := fun x => Tryz.bcell (j := 0) (hpO _ x.h).1 rfl
  have c1 : ∀ x : Tryz.InC p, x.w.cell? ⟨w.heap.size, 1, none⟩ = some (.slice (some ⟨b, 0, none⟩) l.length cap) := fun x => Tryz.bcell (j := 1) (hpO _ x.h).1 rfl
  have d1 : ∀ x : Tryz.InC p, x.w.cell? ⟨w.heap.size + 1, 1, none⟩ = some (.slice (some ⟨d, 0, none⟩) r.length cap2) := fun x => Tryz.bcell (j := 1) (hpO _ x.h).2 rfl
  have HPW := Lib.hid hpW
  clear hpW hpO
  refine Tryz.region_order (C := fun w' => ∃ x : Tryz.InC p, w' = x.w)
    [(true, 0), (true, 1), (true, 2), (true, 3), (true, 4), (true, 5), (false, 6), (false, 7), (false, 8)] (by kernel_rfl) (by kernel_rfl) ⟨⟨{ W with drawn := W.drawn + 1 }, HPW.out _ ⟨k0, k1⟩⟩, rfl⟩ ?_
  simp only [Tryz.picks, List.filterMap_cons, List.filterMap_nil, List.getElem?_cons_succ, List.getElem?_cons_zero, Option.map_some]
  iterate 6 (refine Tryz.mix_calm (fun Kc hK => ?_); unfold Tryz.calm; go_simp; refine hK _ ?_; clear hK Kc)
  replace kE := kE.trans (Tryz.drew_ext W)
  replace k0 : W.drew.heap[w.heap.size]? = _ := k0
  replace k1 : W.drew.heap[w.heap.size + 1]? = _ := k1
  replace k2 : W.drew.heap[w.heap.size + 1 + 1]? = _ := k2
  change Tryz.wpMix _ _ _ _ _ _ W.drew
  revert kE k0 k1 k2
  generalize W.drew = W
  intro kE k0 k1 k2
  refine Tryz.mix_step (by kernel_rfl) (fun Kc hK => ?_)
  go_simp
  refine (HC.out _ kE).mono ?_
  rintro e w2 ⟨v, rfl, ⟨sa, sn, sc, rfl, hv⟩, hx⟩
  replace kE := kE.trans hx
  replace k0 := (hx.old _ (Array.getElem?_eq_some_iff.1 k0).1).trans k0
  replace k1 := (hx.old _ (Array.getElem?_eq_some_iff.1 k1).1).trans k1
  replace k2 := (hx.old _ (Array.getElem?_eq_some_iff.1 k2).1).trans k2
  refine hK _ _ ⟨⟨w2, HPW.out _ ⟨k0, k1⟩⟩, rfl⟩ ?_
  clear hK Kc hx
  have HV := Lib.hid hv
  clear hv
  refine Tryz.mix_step (by kernel_rfl) (fun Kc hK => ?_)
  go_simp
  refine hK _ _ ⟨⟨w2, HPW.out _ ⟨k0, k1⟩⟩, rfl⟩ ?_
  clear hK Kc
  have g0 := Tryz.bcell (j := 0) k2 rfl; have g1 := Tryz.bcell (j := 1) k2 rfl; have e0 := Tryz.bfrozen (j := 0) k2; have e1 := Tryz.bfrozen (j := 1) k2
  refine Tryz.mix_step (by kernel_rfl) (fun Kc hK => ?_)
  go_simp
  change Kc _ ((w2.setCell ⟨w.heap.size + 1 + 1, 0, none⟩ (.bool true)).setCell ⟨w.heap.size + 1 + 1, 1, none⟩ (.slice sa sn sc))
  have r2 := Tryz.bset (j := 1) (v := .slice sa sn sc) (Tryz.bset (j := 0) (v := .bool true) k2)
  have r0 := (Tryz.bother2 (u := .bool true) (v := .slice sa sn sc) (show w.heap.size ≠ w.heap.size + 1 + 1 by omega)).trans k0
  have r1 := (Tryz.bother2 (u := .bool true) (v := .slice sa sn sc) (show w.heap.size + 1 ≠ w.heap.size + 1 + 1 by omega)).trans k1
  have rE : Tryz.Ext w ((w2.setCell ⟨w.heap.size + 1 + 1, 0, none⟩ (.bool true)).setCell ⟨w.heap.size + 1 + 1, 1, none⟩ (.slice sa sn sc)) := Tryz.set_ext (Tryz.set_ext kE (by omega) _) (by omega) _
  revert hK
  generalize ((w2.setCell ⟨w.heap.size + 1 + 1, 0, none⟩ (.bool true)).setCell ⟨w.heap.size + 1 + 1, 1, none⟩ (.slice sa sn sc)) = w3 at r0 r1 r2 rE ⊢
  intro hK
  refine hK _ _ ⟨⟨w3, HPW.out _ ⟨r0, r1⟩⟩, rfl⟩ ?_
  refine Tryz.mix_nil ?_
  have HR2 := Lib.hid r2
  have HE := Lib.hid rE
  clear hK Kc c0 c1 d1 this g0 g1 e0 e1 r0 r1 r2 rE k0 k1 k2 kE HPW
  go_wp2
  refine bodyPost_ret (v := .agg #[.bool true, .slice sa sn sc]) ?_ rfl ⟨_, rfl, ⟨sa, sn, sc, rfl, HV.out⟩, HE.out⟩
  exact results_cell_row (p := 4) rfl _ _ _ 190 _ (0, 0) _ rfl HR2.out Tryz.underlying190 rfl (by kernel_rfl)
set_option maxRecDepth 100000 in
set_option maxHeartbeats 4000000 in
theorem Tryz.sum123f (l r : List Nat) (b cap d cap2 : Nat) (w : World) (hl : l.length ≤ 200) (hr : r.length ≤ 200) (dl : Tryz.Dig l) (dr : Tryz.Dig r) 
    (h : ∀ (i : Nat) (x : Nat), l[i]? = some x → w.cell? ⟨b, i, none⟩ = some (.int .i64 (x : Int))) (h2 : ∀ (i : Nat) (x : Nat), r[i]? = some x → w.cell? ⟨d, i, none⟩ = some (.int .i64 (x : Int))) :
    Calls Tryz.prog 123 #[.agg #[.bool false, .slice (some ⟨b, 0, none⟩) l.length cap], .agg #[.bool false, .slice (some ⟨d, 0, none⟩) r.length cap2]] w fun e w' =>
      ∃ v, e = .returned (.agg #[.bool false, v]) ∧ Tryz.SlLen v (l = [] ∧ r = []) ∧ Tryz.Ext w w' := by
  have hb1 : ∀ i x : Nat, l[i]? = some x → b < w.heap.size := fun i x hx => World.block_lt_of_cell? w _ (h i x hx)
  have hb2 : ∀ i x : Nat, r[i]? = some x → d < w.heap.size := fun i x hx => World.block_lt_of_cell? w _ (h2 i x hx)
  have hc := fun (w' : World) (e : Tryz.Ext w w') => Tryz.plus193 l r b cap d cap2 w' hl hr dl dr (fun i x hx => by rw [World.cell?_of_block (w := w) (e.old b (hb1 i x hx))]; exact h i x hx) (fun i x hx => by rw [World.cell?_of_block (w := w) (e.old d (hb2 i x hx))]; exact h2 i x hx)
  have HC := Lib.hid hc
  clear h h2 hb1 hb2 hc dl dr hl hr
  go_enter Tryz.func123, Tryz.ntmps123
  go_wp2
  obtain ⟨W, hW⟩ : ∃ W, W = ((w.alloc (Obj.cells #[Value.bool false, Value.slice (some ⟨b, 0, none⟩) l.length cap] 190)).alloc (Obj.cells #[Value.bool false, Value.slice (some ⟨d, 0, none⟩) r.length cap2] 190)).alloc (Obj.cells #[Value.bool false, Value.slice none 0 0] 190) := ⟨_, rfl⟩
  rw [← hW]
  have k0 : W.heap[w.heap.size]? = some (Obj.cells #[Value.bool false, Value.slice (some ⟨b, 0, none⟩) l.length cap] 190) := by rw [hW]; exact Tryz.alloc_old (Tryz.alloc_old (Tryz.bnew _ _) _) _
  have k1 : W.heap[w.heap.size + 1]? = some (Obj.cells #[Value.bool false, Value.slice (some ⟨d, 0, none⟩) r.length cap2] 190) := by rw [hW]; exact Tryz.alloc_old (Tryz.alloc_at (Tryz.alloc_sz rfl _) _) _
  have k2 : W.heap[w.heap.size + 1 + 1]? = some (Obj.cells #[Value.bool false, Value.slice none 0 0] 190) := by rw [hW]; exact Tryz.alloc_at (Tryz.alloc_sz (Tryz.alloc_sz rfl _) _) _
  have kE : Tryz.Ext w W := by rw [hW]; exact Tryz.alloc_ext (Tryz.alloc_ext (Tryz.alloc_ext (.refl _) _) _) _
  clear hW
  obtain ⟨p, hpW, hpO⟩ := Tryz.hideP fun w' => w'.heap[w.heap.size]? = some (Obj.cells #[Value.bool false, Value.slice (some ⟨b, 0, none⟩) l.length cap] 190) ∧ w'.heap[w.heap.size + 1]? = some (Obj.cells #[Value.bool false, Value.slice (some ⟨d, 0, none⟩) r.length cap2] 190)
  haveI : Nonempty (Tryz.InC p) := ⟨⟨W, hpW W ⟨k0, k1⟩⟩⟩
  have c0 : ∀ x : Tryz.InC p, x.w.cell? ⟨w.heap.size, 0, none⟩ = some (.bool false) := fun x => Tryz.bcell (j := 0) (hpO _ x.h).1 rfl
  have c1 : ∀ x : Tryz.InC p, x.w.cell? ⟨w.heap.size, 1, none⟩ = some (.slice (some ⟨b, 0, none⟩) l.length cap) := fun x => Tryz.bcell (j := 1) (hpO _ x.h).1 rfl
  have d1 : ∀ x : Tryz.InC p, x.w.cell? ⟨w.heap.size + 1, 1, none⟩ = some (.slice (some ⟨d, 0, none⟩) r.length cap2) := fun x => Tryz.bcell (j := 1) (hpO _ x.h).2 rfl
  have HPW := Lib.hid hpW
  clear hpW hpO
  refine Tryz.region_order (C := fun w' => ∃ x : Tryz.InC p, w' = x.w)
    [(true, 0), (true, 1), (true, 2), (true, 3), (true, 4), (true, 5), (false, 6), (false, 7), (false, 8)] (by kernel_rfl) (by kernel_rfl) ⟨⟨{ W with drawn := W.drawn + 1 }, HPW.out _ ⟨k0, k1⟩⟩, rfl⟩ ?_
  simp only [Tryz.picks, List.filterMap_cons, List.filterMap_nil, List.getElem?_cons_succ, List.getElem?_cons_zero, Option.map_some]
  iterate 6 (refine Tryz.mix_calm (fun Kc hK => ?_); unfold Tryz.calm; go_simp; refine hK _ ?_; clear hK Kc)
  replace kE := kE.trans (Tryz.drew_ext W)
  replace k0 : W.drew.heap[w.heap.size]? = _ := k0
  replace k1 : W.drew.heap[w.heap.size + 1]? = _ := k1
  replace k2 : W.drew.heap[w.heap.size + 1 + 1]? = _ := k2
  change Tryz.wpMix _ _ _ _ _ _ W.drew
  revert kE k0 k1 k2
  generalize W.drew = W
  intro kE k0 k1 k2
  refine Tryz.mix_step (by kernel_rfl) (fun Kc hK => ?_)
  go_simp
  refine (HC.out _ kE).mono ?_
  rintro e w2 ⟨v, rfl, ⟨sa, sn, sc, rfl, hv⟩, hx⟩
  replace kE := kE.trans hx
  replace k0 := (hx.old _ (Array.getElem?_eq_some_iff.1 k0).1).trans k0
  replace k1 := (hx.old _ (Array.getElem?_eq_some_iff.1 k1).1).trans k1
  replace k2 := (hx.old _ (Array.getElem?_eq_some_iff.1 k2).1).trans k2
  refine hK _ _ ⟨⟨w2, HPW.out _ ⟨k0, k1⟩⟩, rfl⟩ ?_
  clear hK Kc hx
  have HV := Lib.hid hv
  clear hv
  refine Tryz.mix_step (by kernel_rfl) (fun Kc hK => ?_)
  go_simp
  refine hK _ _ ⟨⟨w2, HPW.out _ ⟨k0, k1⟩⟩, rfl⟩ ?_
  clear hK Kc
  have g0 := Tryz.bcell (j := 0) k2 rfl; have g1 := Tryz.bcell (j := 1) k2 rfl; have e0 := Tryz.bfrozen (j := 0) k2; have e1 := Tryz.bfrozen (j := 1) k2
  refine Tryz.mix_step (by kernel_rfl) (fun Kc hK => ?_)
  go_simp
  change Kc _ ((w2.setCell ⟨w.heap.size + 1 + 1, 0, none⟩ (.bool false)).setCell ⟨w.heap.size + 1 + 1, 1, none⟩ (.slice sa sn sc))
  have r2 := Tryz.bset (j := 1) (v := .slice sa sn sc) (Tryz.bset (j := 0) (v := .bool false) k2)
  have r0 := (Tryz.bother2 (u := .bool false) (v := .slice sa sn sc) (show w.heap.size ≠ w.heap.size + 1 + 1 by omega)).trans k0
  have r1 := (Tryz.bother2 (u := .bool false) (v := .slice sa sn sc) (show w.heap.size + 1 ≠ w.heap.size + 1 + 1 by omega)).trans k1
  have rE : Tryz.Ext w ((w2.setCell ⟨w.heap.size + 1 + 1, 0, none⟩ (.bool false)).setCell ⟨w.heap.size + 1 + 1, 1, none⟩ (.slice sa sn sc)) := Tryz.set_ext (Tryz.set_ext kE (by omega) _) (by omega) _
  revert hK
  generalize ((w2.setCell ⟨w.heap.size + 1 + 1, 0, none⟩ (.bool false)).setCell ⟨w.heap.size + 1 + 1, 1, none⟩ (.slice sa sn sc)) = w3 at r0 r1 r2 rE ⊢
  intro hK
  refine hK _ _ ⟨⟨w3, HPW.out _ ⟨r0, r1⟩⟩, rfl⟩ ?_
  refine Tryz.mix_nil ?_
  have HR2 := Lib.hid r2
  have HE := Lib.hid rE
  clear hK Kc c0 c1 d1 this g0 g1 e0 e1 r0 r1 r2 rE k0 k1 k2 kE HPW
  go_wp2
  refine bodyPost_ret (v := .agg #[.bool false, .slice sa sn sc]) ?_ rfl ⟨_, rfl, ⟨sa, sn, sc, rfl, HV.out⟩, HE.out⟩
  exact results_cell_row (p := 4) rfl _ _ _ 190 _ (0, 0) _ rfl HR2.out Tryz.underlying190 rfl (by kernel_rfl)
set_option maxRecDepth 100000 in
set_option maxHeartbeats 4000000 in
theorem Tryz.sum123bt (l r : List Nat) (b cap d cap2 : Nat) (w : World) (hl : l.length ≤ 200) (hr : r.length ≤ 200) (dl : Tryz.Dig l) (dr : Tryz.Dig r) (tl : Tryz.Trim l) (tr : Tryz.Trim r) (hcmp : Tryz.dv r ≤ Tryz.dv l)
    (h : ∀ (i : Nat) (x : Nat), l[i]? = some x → w.cell? ⟨b, i, none⟩ = some (.int .i64 (x : Int))) (h2 : ∀ (i : Nat) (x : Nat), r[i]? = some x → w.cell? ⟨d, i, none⟩ = some (.int .i64 (x : Int))) :
    Calls Tryz.prog 123 #[.agg #[.bool true, .slice (some ⟨b, 0, none⟩) l.length cap], .agg #[.bool false, .slice (some ⟨d, 0, none⟩) r.length cap2]] w fun e w' =>
      ∃ bb v, e = .returned (.agg #[.bool bb, v]) ∧ Tryz.SlLen v (Tryz.dv l = Tryz.dv r) ∧ (Tryz.dv l ≠ Tryz.dv r → bb = true) ∧ Tryz.Ext w w' := by
  have hb1 : ∀ i x : Nat, l[i]? = some x → b < w.heap.size := fun i x hx => World.block_lt_of_cell? w _ (h i x hx)
  have hb2 : ∀ i x : Nat, r[i]? = some x → d < w.heap.size := fun i x hx => World.block_lt_of_cell? w _ (h2 i x hx)
  have ho := fun (w' : World) (e : Tryz.Ext w w') => Tryz.order194 l r b cap d cap2 w' (by omega) (by omega) (fun i x hx => by rw [World.cell?_of_block (w := w) (e.old b (hb1 i x hx))]; exact h i x hx) (fun i x hx => by rw [World.cell?_of_block (w := w) (e.old d (hb2 i x hx))]; exact h2 i x hx)
  have hc := fun (w' : World) (e : Tryz.Ext w w') => Tryz.minus195 l r b cap d cap2 w' hl (Tryz.len_le dl tr hcmp) dl dr hcmp (fun i x hx => by rw [World.cell?_of_block (w := w) (e.old b (hb1 i x hx))]; exact h i x hx) (fun i x hx => by rw [World.cell?_of_block (w := w) (e.old d (hb2 i x hx))]; exact h2 i x hx)
  have hk : ¬ Tryz.ordF l r < 0 := by
    rw [Tryz.ordF_cmp dl dr tl tr]; unfold Tryz.cmpN; rw [if_neg (by omega)]; split <;> decide
  have HO := Lib.hid ho
  have HC := Lib.hid hc
  have hE : Tryz.Ext w (((w.alloc (Obj.cells #[Value.bool true, Value.slice (some ⟨b, 0, none⟩) l.length cap] 190)).alloc (Obj.cells #[Value.bool false, Value.slice (some ⟨d, 0, none⟩) r.length cap2] 190)).alloc (Obj.cells #[Value.bool false, Value.slice none 0 0] 190)) := Tryz.alloc_ext (Tryz.alloc_ext (Tryz.alloc_ext (.refl _) _) _) _
  have hk0 : (((w.alloc (Obj.cells #[Value.bool true, Value.slice (some ⟨b, 0, none⟩) l.length cap] 190)).alloc (Obj.cells #[Value.bool false, Value.slice (some ⟨d, 0, none⟩) r.length cap2] 190)).alloc (Obj.cells #[Value.bool false, Value.slice none 0 0] 190)).heap[w.heap.size]? = some (Obj.cells #[Value.bool true, Value.slice (some ⟨b, 0, none⟩) l.length cap] 190) := Tryz.alloc_old (Tryz.alloc_old (Tryz.bnew _ _) _) _
  have hk1 : (((w.alloc (Obj.cells #[Value.bool true, Value.slice (some ⟨b, 0, none⟩) l.length cap] 190)).alloc (Obj.cells #[Value.bool false, Value.slice (some ⟨d, 0, none⟩) r.length cap2] 190)).alloc (Obj.cells #[Value.bool false, Value.slice none 0 0] 190)).heap[w.heap.size + 1]? = some (Obj.cells #[Value.bool false, Value.slice (some ⟨d, 0, none⟩) r.length cap2] 190) := Tryz.alloc_old (Tryz.alloc_at (Tryz.alloc_sz rfl _) _) _
  have hk2 : (((w.alloc (Obj.cells #[Value.bool true, Value.slice (some ⟨b, 0, none⟩) l.length cap] 190)).alloc (Obj.cells #[Value.bool false, Value.slice (some ⟨d, 0, none⟩) r.length cap2] 190)).alloc (Obj.cells #[Value.bool false, Value.slice none 0 0] 190)).heap[w.heap.size + 1 + 1]? = some (Obj.cells #[Value.bool false, Value.slice none 0 0] 190) := Tryz.alloc_at (Tryz.alloc_sz (Tryz.alloc_sz rfl _) _) _
  have HE := Lib.hid hE
  have HK0 := Lib.hid hk0
  have HK1 := Lib.hid hk1
  have HK2 := Lib.hid hk2
  clear h h2 hb1 hb2 hc dl dr hl hr tl tr ho hE hk0 hk1 hk2 hcmp
  go_enter Tryz.func123, Tryz.ntmps123
  go_wp2_with (first
    | (go_at_call 194; refine (HO.out _ HE.out).mono ?_; rintro e w1 ⟨rfl, hx⟩
       have HE1 := Lib.hid (HE.out.trans hx)
       have q0 := (hx.old _ (Array.getElem?_eq_some_iff.1 HK0.out).1).trans HK0.out
       have q1 := (hx.old _ (Array.getElem?_eq_some_iff.1 HK1.out).1).trans HK1.out
       have q2 := (hx.old _ (Array.getElem?_eq_some_iff.1 HK2.out).1).trans HK2.out
       have hsz := (Array.getElem?_eq_some_iff.1 q2).1
       have a0 := Tryz.bcell (j := 0) q0 rfl; have a1 := Tryz.bcell (j := 1) q0 rfl; have b0 := Tryz.bcell (j := 0) q1 rfl; have b1 := Tryz.bcell (j := 1) q1 rfl
       have u0 := Tryz.bfrozen (j := 0) q0; have u1 := Tryz.bfrozen (j := 1) q0; have v0 := Tryz.bfrozen (j := 0) q1; have v1 := Tryz.bfrozen (j := 1) q1
       have Q0 := Lib.hid q0; have Q1 := Lib.hid q1; have Q2 := Lib.hid q2; clear q0 q1 q2 hx)
    | (go_at_call 195; refine (HC.out _ HE1.out).mono ?_; rintro e w2 ⟨v, rfl, ⟨sa, sn, sc, rfl, hv⟩, hx⟩
       have HV := Lib.hid hv
       have HE2 := Lib.hid (Tryz.Ext.trans HE1.out hx)
       have m0 := (hx.old w.heap.size (by (try simp only [Tryz.bsize]); omega)).trans Q0.out
       have m2 := (hx.old (w.heap.size + 1 + 1) (by (try simp only [Tryz.bsize]); omega)).trans Q2.out
       have z0 := Tryz.bcell (j := 0) m0 rfl
       have g0 := Tryz.bcell (j := 0) m2 rfl; have g1 := Tryz.bcell (j := 1) m2 rfl; have e0 := Tryz.bfrozen (j := 0) m2; have e1 := Tryz.bfrozen (j := 1) m2
       have M2 := Lib.hid m2; clear m0 m2 hv hx))
  refine bodyPost_ret (v := .agg #[.bool (decide (0 < sn)), .slice sa sn sc]) ?_ rfl ⟨_, _, rfl, ⟨sa, sn, sc, rfl, HV.out⟩, fun hn => by have := HV.out; rw [decide_eq_true_eq]; omega, Tryz.set_ext (Tryz.set_ext HE2.out (by omega) _) (by omega) _⟩
  exact results_cell_row (p := 4) rfl _ _ _ 190 _ (0, 0) _ rfl (Tryz.bset (j := 1) (v := .slice sa sn sc) (Tryz.bset (j := 0) (v := .bool (decide (0 < sn))) M2.out)) Tryz.underlying190 rfl (by kernel_rfl)
set_option maxRecDepth 100000 in
set_option maxHeartbeats 4000000 in
theorem Tryz.sum123bf (l r : List Nat) (b cap d cap2 : Nat) (w : World) (hl : l.length ≤ 200) (hr : r.length ≤ 200) (dl : Tryz.Dig l) (dr : Tryz.Dig r) (tl : Tryz.Trim l) (tr : Tryz.Trim r) (hcmp : Tryz.dv r ≤ Tryz.dv l)
    (h : ∀ (i : Nat) (x : Nat), l[i]? = some x → w.cell? ⟨b, i, none⟩ = some (.int .i64 (x : Int))) (h2 : ∀ (i : Nat) (x : Nat), r[i]? = some x → w.cell? ⟨d, i, none⟩ = some (.int .i64 (x : Int))) :
    Calls Tryz.prog 123 #[.agg #[.bool false, .slice (some ⟨b, 0, none⟩) l.length cap], .agg #[.bool true, .slice (some ⟨d, 0, none⟩) r.length cap2]] w fun e w' =>
      ∃ bb v, e = .returned (.agg #[.bool bb, v]) ∧ Tryz.SlLen v (Tryz.dv l = Tryz.dv r) ∧ (Tryz.dv l ≠ Tryz.dv r → bb = false) ∧ Tryz.Ext w w' := by
  have hb1 : ∀ i x : Nat, l[i]? = some x → b < w.heap.size := fun i x hx => World.block_lt_of_cell? w _ (h i x hx)
  have hb2 : ∀ i x : Nat, r[i]? = some x → d < w.heap.size := fun i x hx => World.block_lt_of_cell? w _ (h2 i x hx)
  have ho := fun (w' : World) (e : Tryz.Ext w w') => Tryz.order194 l r b cap d cap2 w' (by omega) (by omega) (fun i x hx => by rw [World.cell?_of_block (w := w) (e.old b (hb1 i x hx))]; exact h i x hx) (fun i x hx => by rw [World.cell?_of_block (w := w) (e.old d (hb2 i x hx))]; exact h2 i x hx)
  have hc := fun (w' : World) (e : Tryz.Ext w w') => Tryz.minus195 l r b cap d cap2 w' hl (Tryz.len_le dl tr hcmp) dl dr hcmp (fun i x hx => by rw [World.cell?_of_block (w := w) (e.old b (hb1 i x hx))]; exact h i x hx) (fun i x hx => by rw [World.cell?_of_block (w := w) (e.old d (hb2 i x hx))]; exact h2 i x hx)
  have hk : ¬ Tryz.ordF l r < 0 := by
    rw [Tryz.ordF_cmp dl dr tl tr]; unfold Tryz.cmpN; rw [if_neg (by omega)]; split <;> decide
  have HO := Lib.hid ho
  have HC := Lib.hid hc
  have hE : Tryz.Ext w (((w.alloc (Obj.cells #[Value.bool false, Value.slice (some ⟨b, 0, none⟩) l.length cap] 190)).alloc (Obj.cells #[Value.bool true, Value.slice (some ⟨d, 0, none⟩) r.length cap2] 190)).alloc (Obj.cells #[Value.bool false, Value.slice none 0 0] 190)) := Tryz.alloc_ext (Tryz.alloc_ext (Tryz.alloc_ext (.refl _) _) _) _
  have hk0 : (((w.alloc (Obj.cells #[Value.bool false, Value.slice (some ⟨b, 0, none⟩) l.length cap] 190)).alloc (Obj.cells #[Value.bool true, Value.slice (some ⟨d, 0, none⟩) r.length cap2] 190)).alloc (Obj.cells #[Value.bool false, Value.slice none 0 0] 190)).heap[w.heap.size]? = some (Obj.cells #[Value.bool false, Value.slice (some ⟨b, 0, none⟩) l.length cap] 190) := Tryz.alloc_old (Tryz.alloc_old (Tryz.bnew _ _) _) _
  have hk1 : (((w.alloc (Obj.cells #[Value.bool false, Value.slice (some ⟨b, 0, none⟩) l.length cap] 190)).alloc (Obj.cells #[Value.bool true, Value.slice (some ⟨d, 0, none⟩) r.length cap2] 190)).alloc (Obj.cells #[Value.bool false, Value.slice none 0 0] 190)).heap[w.heap.size + 1]? = some (Obj.cells #[Value.bool true, Value.slice (some ⟨d, 0, none⟩) r.length cap2] 190) := Tryz.alloc_old (Tryz.alloc_at (Tryz.alloc_sz rfl _) _) _
  have hk2 : (((w.alloc (Obj.cells #[Value.bool false, Value.slice (some ⟨b, 0, none⟩) l.length cap] 190)).alloc (Obj.cells #[Value.bool true, Value.slice (some ⟨d, 0, none⟩) r.length cap2] 190)).alloc (Obj.cells #[Value.bool false, Value.slice none 0 0] 190)).heap[w.heap.size + 1 + 1]? = some (Obj.cells #[Value.bool false, Value.slice none 0 0] 190) := Tryz.alloc_at (Tryz.alloc_sz (Tryz.alloc_sz rfl _) _) _
  have HE := Lib.hid hE
  have HK0 := Lib.hid hk0
  have HK1 := Lib.hid hk1
  have HK2 := Lib.hid hk2
  clear h h2 hb1 hb2 hc dl dr hl hr tl tr ho hE hk0 hk1 hk2 hcmp
  go_enter Tryz.func123, Tryz.ntmps123
  go_wp2_with (first
    | (go_at_call 194; refine (HO.out _ HE.out).mono ?_; rintro e w1 ⟨rfl, hx⟩
       have HE1 := Lib.hid (HE.out.trans hx)
       have q0 := (hx.old _ (Array.getElem?_eq_some_iff.1 HK0.out).1).trans HK0.out
       have q1 := (hx.old _ (Array.getElem?_eq_some_iff.1 HK1.out).1).trans HK1.out
       have q2 := (hx.old _ (Array.getElem?_eq_some_iff.1 HK2.out).1).trans HK2.out
       have hsz := (Array.getElem?_eq_some_iff.1 q2).1
       have a0 := Tryz.bcell (j := 0) q0 rfl; have a1 := Tryz.bcell (j := 1) q0 rfl; have b0 := Tryz.bcell (j := 0) q1 rfl; have b1 := Tryz.bcell (j := 1) q1 rfl
       have u0 := Tryz.bfrozen (j := 0) q0; have u1 := Tryz.bfrozen (j := 1) q0; have v0 := Tryz.bfrozen (j := 0) q1; have v1 := Tryz.bfrozen (j := 1) q1
       have Q0 := Lib.hid q0; have Q1 := Lib.hid q1; have Q2 := Lib.hid q2; clear q0 q1 q2 hx)
    | (go_at_call 195; refine (HC.out _ HE1.out).mono ?_; rintro e w2 ⟨v, rfl, ⟨sa, sn, sc, rfl, hv⟩, hx⟩
       have HV := Lib.hid hv
       have HE2 := Lib.hid (Tryz.Ext.trans HE1.out hx)
       have m0 := (hx.old w.heap.size (by (try simp only [Tryz.bsize]); omega)).trans Q0.out
       have m2 := (hx.old (w.heap.size + 1 + 1) (by (try simp only [Tryz.bsize]); omega)).trans Q2.out
       have z0 := Tryz.bcell (j := 0) m0 rfl
       have g0 := Tryz.bcell (j := 0) m2 rfl; have g1 := Tryz.bcell (j := 1) m2 rfl; have e0 := Tryz.bfrozen (j := 0) m2; have e1 := Tryz.bfrozen (j := 1) m2
       have M2 := Lib.hid m2; clear m0 m2 hv hx))
  refine bodyPost_ret (v := .agg #[.bool false, .slice sa sn sc]) ?_ rfl ⟨_, _, rfl, ⟨sa, sn, sc, rfl, HV.out⟩, fun _ => rfl, Tryz.set_ext (Tryz.set_ext HE2.out (by omega) _) (by omega) _⟩
  exact results_cell_row (p := 4) rfl _ _ _ 190 _ (0, 0) _ rfl (Tryz.bset (j := 1) (v := .slice sa sn sc) (Tryz.bset (j := 0) (v := .bool false) M2.out)) Tryz.underlying190 rfl (by kernel_rfl)
set_option maxRecDepth 100000 in
set_option maxHeartbeats 4000000 in
theorem Tryz.sum123ct (l r : List Nat) (b cap d cap2 : Nat) (w : World) (hl : l.length ≤ 200) (hr : r.length ≤ 200) (dl : Tryz.Dig l) (dr : Tryz.Dig r) (tl : Tryz.Trim l) (tr : Tryz.Trim r) (hcmp : Tryz.dv l < Tryz.dv r)
    (h : ∀ (i : Nat) (x : Nat), l[i]? = some x → w.cell? ⟨b, i, none⟩ = some (.int .i64 (x : Int))) (h2 : ∀ (i : Nat) (x : Nat), r[i]? = some x → w.cell? ⟨d, i, none⟩ = some (.int .i64 (x : Int))) :
    Calls Tryz.prog 123 #[.agg #[.bool true, .slice (some ⟨b, 0, none⟩) l.length cap], .agg #[.bool false, .slice (some ⟨d, 0, none⟩) r.length cap2]] w fun e w' =>
      ∃ bb v, e = .returned (.agg #[.bool bb, v]) ∧ Tryz.SlLen v (Tryz.dv l = Tryz.dv r) ∧ (Tryz.dv l ≠ Tryz.dv r → bb = false) ∧ Tryz.Ext w w' := by
  have hb1 : ∀ i x : Nat, l[i]? = some x → b < w.heap.size := fun i x hx => World.block_lt_of_cell? w _ (h i x hx)
  have hb2 : ∀ i x : Nat, r[i]? = some x → d < w.heap.size := fun i x hx => World.block_lt_of_cell? w _ (h2 i x hx)
  have ho := fun (w' : World) (e : Tryz.Ext w w') => Tryz.order194 l r b cap d cap2 w' (by omega) (by omega) (fun i x hx => by rw [World.cell?_of_block (w := w) (e.old b (hb1 i x hx))]; exact h i x hx) (fun i x hx => by rw [World.cell?_of_block (w := w) (e.old d (hb2 i x hx))]; exact h2 i x hx)
  have hc := fun (w' : World) (e : Tryz.Ext w w') => Tryz.minus195 r l d cap2 b cap w' hr (Tryz.len_le dr tl (by omega)) dr dl (by omega) (fun i x hx => by rw [World.cell?_of_block (w := w) (e.old d (hb2 i x hx))]; exact h2 i x hx) (fun i x hx => by rw [World.cell?_of_block (w := w) (e.old b (hb1 i x hx))]; exact h i x hx)
  have hk : Tryz.ordF l r < 0 := by
    rw [Tryz.ordF_cmp dl dr tl tr]; unfold Tryz.cmpN; rw [if_pos hcmp]; decide
  have HO := Lib.hid ho
  have HC := Lib.hid hc
  have hE : Tryz.Ext w (((w.alloc (Obj.cells #[Value.bool true, Value.slice (some ⟨b, 0, none⟩) l.length cap] 190)).alloc (Obj.cells #[Value.bool false, Value.slice (some ⟨d, 0, none⟩) r.length cap2] 190)).alloc (Obj.cells #[Value.bool false, Value.slice none 0 0] 190)) := Tryz.alloc_ext (Tryz.alloc_ext (Tryz.alloc_ext (.refl _) _) _) _
  have hk0 : (((w.alloc (Obj.cells #[Value.bool true, Value.slice (some ⟨b, 0, none⟩) l.length cap] 190)).alloc (Obj.cells #[Value.bool false, Value.slice (some ⟨d, 0, none⟩) r.length cap2] 190)).alloc (Obj.cells #[Value.bool false, Value.slice none 0 0] 190)).heap[w.heap.size]? = some (Obj.cells #[Value.bool true, Value.slice (some ⟨b, 0, none⟩) l.length cap] 190) := Tryz.alloc_old (Tryz.alloc_old (Tryz.bnew _ _) _) _
  have hk1 : (((w.alloc (Obj.cells #[Value.bool true, Value.slice (some ⟨b, 0, none⟩) l.length cap] 190)).alloc (Obj.cells #[Value.bool false, Value.slice (some ⟨d, 0, none⟩) r.length cap2] 190)).alloc (Obj.cells #[Value.bool false, Value.slice none 0 0] 190)).heap[w.heap.size + 1]? = some (Obj.cells #[Value.bool false, Value.slice (some ⟨d, 0, none⟩) r.length cap2] 190) := Tryz.alloc_old (Tryz.alloc_at (Tryz.alloc_sz rfl _) _) _
  have hk2 : (((w.alloc (Obj.cells #[Value.bool true, Value.slice (some ⟨b, 0, none⟩) l.length cap] 190)).alloc (Obj.cells #[Value.bool false, Value.slice (some ⟨d, 0, none⟩) r.length cap2] 190)).alloc (Obj.cells #[Value.bool false, Value.slice none 0 0] 190)).heap[w.heap.size + 1 + 1]? = some (Obj.cells #[Value.bool false, Value.slice none 0 0] 190) := Tryz.alloc_at (Tryz.alloc_sz (Tryz.alloc_sz rfl _) _) _
  have HE := Lib.hid hE
  have HK0 := Lib.hid hk0
  have HK1 := Lib.hid hk1
  have HK2 := Lib.hid hk2
  clear h h2 hb1 hb2 hc dl dr hl hr tl tr ho hE hk0 hk1 hk2 hcmp
  go_enter Tryz.func123, Tryz.ntmps123
  go_wp2_with (first
    | (go_at_call 194; refine (HO.out _ HE.out).mono ?_; rintro e w1 ⟨rfl, hx⟩
       have HE1 := Lib.hid (HE.out.trans hx)
       have q0 := (hx.old _ (Array.getElem?_eq_some_iff.1 HK0.out).1).trans HK0.out
       have q1 := (hx.old _ (Array.getElem?_eq_some_iff.1 HK1.out).1).trans HK1.out
       have q2 := (hx.old _ (Array.getElem?_eq_some_iff.1 HK2.out).1).trans HK2.out
       have hsz := (Array.getElem?_eq_some_iff.1 q2).1
       have a0 := Tryz.bcell (j := 0) q0 rfl; have a1 := Tryz.bcell (j := 1) q0 rfl; have b0 := Tryz.bcell (j := 0) q1 rfl; have b1 := Tryz.bcell (j := 1) q1 rfl
       have u0 := Tryz.bfrozen (j := 0) q0; have u1 := Tryz.bfrozen (j := 1) q0; have v0 := Tryz.bfrozen (j := 0) q1; have v1 := Tryz.bfrozen (j := 1) q1
       have Q0 := Lib.hid q0; have Q1 := Lib.hid q1; have Q2 := Lib.hid q2; clear q0 q1 q2 hx)
    | (go_at_call 195; refine (HC.out _ (Tryz.set_ext (Tryz.set_ext (Tryz.set_ext (Tryz.set_ext HE1.out (by omega) _) (by omega) _) (by omega) _) (by omega) _)).mono ?_; rintro e w2 ⟨v, rfl, ⟨sa, sn, sc, rfl, hv⟩, hx⟩
       have HV := Lib.hid hv
       have HE2 := Lib.hid (Tryz.Ext.trans (Tryz.set_ext (Tryz.set_ext (Tryz.set_ext (Tryz.set_ext HE1.out (by omega) _) (by omega) _) (by omega) _) (by omega) _) hx)
       have m0 := (hx.old w.heap.size (by (try simp only [Tryz.bsize]); omega)).trans ((Tryz.bother2 (by omega)).trans (Tryz.bset (j := 1) (v := (.slice (some ⟨d, 0, none⟩) r.length cap2)) (Tryz.bset (j := 0) (v := .bool false) Q0.out)))
       have m2 := (hx.old (w.heap.size + 1 + 1) (by (try simp only [Tryz.bsize]); omega)).trans ((Tryz.bother2 (by omega)).trans ((Tryz.bother2 (by omega)).trans Q2.out))
       have z0 := Tryz.bcell (j := 0) m0 rfl
       have g0 := Tryz.bcell (j := 0) m2 rfl; have g1 := Tryz.bcell (j := 1) m2 rfl; have e0 := Tryz.bfrozen (j := 0) m2; have e1 := Tryz.bfrozen (j := 1) m2
       have M2 := Lib.hid m2; clear m0 m2 hv hx))
  refine bodyPost_ret (v := .agg #[.bool false, .slice sa sn sc]) ?_ rfl ⟨_, _, rfl, ⟨sa, sn, sc, rfl, HV.out.trans eq_comm⟩, fun _ => rfl, Tryz.set_ext (Tryz.set_ext HE2.out (by omega) _) (by omega) _⟩
  exact results_cell_row (p := 4) rfl _ _ _ 190 _ (0, 0) _ rfl (Tryz.bset (j := 1) (v := .slice sa sn sc) (Tryz.bset (j := 0) (v := .bool false) M2.out)) Tryz.underlying190 rfl (by kernel_rfl)
set_option maxRecDepth 100000 in
set_option maxHeartbeats 4000000 in
theorem Tryz.sum123cf (l r : List Nat) (b cap d cap2 : Nat) (w : World) (hl : l.length ≤ 200) (hr : r.length ≤ 200) (dl : Tryz.Dig l) (dr : Tryz.Dig r) (tl : Tryz.Trim l) (tr : Tryz.Trim r) (hcmp : Tryz.dv l < Tryz.dv r)
    (h : ∀ (i : Nat) (x : Nat), l[i]? = some x → w.cell? ⟨b, i, none⟩ = some (.int .i64 (x : Int))) (h2 : ∀ (i : Nat) (x : Nat), r[i]? = some x → w.cell? ⟨d, i, none⟩ = some (.int .i64 (x : Int))) :
    Calls Tryz.prog 123 #[.agg #[.bool false, .slice (some ⟨b, 0, none⟩) l.length cap], .agg #[.bool true, .slice (some ⟨d, 0, none⟩) r.length cap2]] w fun e w' =>
      ∃ bb v, e = .returned (.agg #[.bool bb, v]) ∧ Tryz.SlLen v (Tryz.dv l = Tryz.dv r) ∧ (Tryz.dv l ≠ Tryz.dv r → bb = true) ∧ Tryz.Ext w w' := by
  have hb1 : ∀ i x : Nat, l[i]? = some x → b < w.heap.size := fun i x hx => World.block_lt_of_cell? w _ (h i x hx)
  have hb2 : ∀ i x : Nat, r[i]? = some x → d < w.heap.size := fun i x hx => World.block_lt_of_cell? w _ (h2 i x hx)
  have ho := fun (w' : World) (e : Tryz.Ext w w') => Tryz.order194 l r b cap d cap2 w' (by omega) (by omega) (fun i x hx => by rw [World.cell?_of_block (w := w) (e.old b (hb1 i x hx))]; exact h i x hx) (fun i x hx => by rw [World.cell?_of_block (w := w) (e.old d (hb2 i x hx))]; exact h2 i x hx)
  have hc := fun (w' : World) (e : Tryz.Ext w w') => Tryz.minus195 r l d cap2 b cap w' hr (Tryz.len_le dr tl (by omega)) dr dl (by omega) (fun i x hx => by rw [World.cell?_of_block (w := w) (e.old d (hb2 i x hx))]; exact h2 i x hx) (fun i x hx => by rw [World.cell?_of_block (w := w) (e.old b (hb1 i x hx))]; exact h i x hx)
  have hk : Tryz.ordF l r < 0 := by
    rw [Tryz.ordF_cmp dl dr tl tr]; unfold Tryz.cmpN; rw [if_pos hcmp]; decide
  have HO := Lib.hid ho
  have HC := Lib.hid hc
  have hE : Tryz.Ext w (((w.alloc (Obj.cells #[Value.bool false, Value.slice (some ⟨b, 0, none⟩) l.length cap] 190)).alloc (Obj.cells #[Value.bool true, Value.slice (some ⟨d, 0, none⟩) r.length cap2] 190)).alloc (Obj.cells #[Value.bool false, Value.slice none 0 0] 190)) := Tryz.alloc_ext (Tryz.alloc_ext (Tryz.alloc_ext (.refl _) _) _) _
  have hk0 : (((w.alloc (Obj.cells #[Value.bool false, Value.slice (some ⟨b, 0, none⟩) l.length cap] 190)).alloc (Obj.cells #[Value.bool true, Value.slice (some ⟨d, 0, none⟩) r.length cap2] 190)).alloc (Obj.cells #[Value.bool false, Value.slice none 0 0] 190)).heap[w.heap.size]? = some (Obj.cells #[Value.bool false, Value.slice (some ⟨b, 0, none⟩) l.length cap] 190) := Tryz.alloc_old (Tryz.alloc_old (Tryz.bnew _ _) _) _
  have hk1 : (((w.alloc (Obj.cells #[Value.bool false, Value.slice (some ⟨b, 0, none⟩) l.length cap] 190)).alloc (Obj.cells #[Value.bool true, Value.slice (some ⟨d, 0, none⟩) r.length cap2] 190)).alloc (Obj.cells #[Value.bool false, Value.slice none 0 0] 190)).heap[w.heap.size + 1]? = some (Obj.cells #[Value.bool true, Value.slice (some ⟨d, 0, none⟩) r.length cap2] 190) := Tryz.alloc_old (Tryz.alloc_at (Tryz.alloc_sz rfl _) _) _
  have hk2 : (((w.alloc (Obj.cells #[Value.bool false, Value.slice (some ⟨b, 0, none⟩) l.length cap] 190)).alloc (Obj.cells #[Value.bool true, Value.slice (some ⟨d, 0, none⟩) r.length cap2] 190)).alloc (Obj.cells #[Value.bool false, Value.slice none 0 0] 190)).heap[w.heap.size + 1 + 1]? = some (Obj.cells #[Value.bool false, Value.slice none 0 0] 190) := Tryz.alloc_at (Tryz.alloc_sz (Tryz.alloc_sz rfl _) _) _
  have HE := Lib.hid hE
  have HK0 := Lib.hid hk0
  have HK1 := Lib.hid hk1
  have HK2 := Lib.hid hk2
  clear h h2 hb1 hb2 hc dl dr hl hr tl tr ho hE hk0 hk1 hk2 hcmp
  go_enter Tryz.func123, Tryz.ntmps123
  go_wp2_with (first
    | (go_at_call 194; refine (HO.out _ HE.out).mono ?_; rintro e w1 ⟨rfl, hx⟩
       have HE1 := Lib.hid (HE.out.trans hx)
       have q0 := (hx.old _ (Array.getElem?_eq_some_iff.1 HK0.out).1).trans HK0.out
       have q1 := (hx.old _ (Array.getElem?_eq_some_iff.1 HK1.out).1).trans HK1.out
       have q2 := (hx.old _ (Array.getElem?_eq_some_iff.1 HK2.out).1).trans HK2.out
       have hsz := (Array.getElem?_eq_some_iff.1 q2).1
       have a0 := Tryz.bcell (j := 0) q0 rfl; have a1 := Tryz.bcell (j := 1) q0 rfl; have b0 := Tryz.bcell (j := 0) q1 rfl; have b1 := Tryz.bcell (j := 1) q1 rfl
       have u0 := Tryz.bfrozen (j := 0) q0; have u1 := Tryz.bfrozen (j := 1) q0; have v0 := Tryz.bfrozen (j := 0) q1; have v1 := Tryz.bfrozen (j := 1) q1
       have Q0 := Lib.hid q0; have Q1 := Lib.hid q1; have Q2 := Lib.hid q2; clear q0 q1 q2 hx)
    | (go_at_call 195; refine (HC.out _ (Tryz.set_ext (Tryz.set_ext (Tryz.set_ext (Tryz.set_ext HE1.out (by omega) _) (by omega) _) (by omega) _) (by omega) _)).mono ?_; rintro e w2 ⟨v, rfl, ⟨sa, sn, sc, rfl, hv⟩, hx⟩
       have HV := Lib.hid hv
       have HE2 := Lib.hid (Tryz.Ext.trans (Tryz.set_ext (Tryz.set_ext (Tryz.set_ext (Tryz.set_ext HE1.out (by omega) _) (by omega) _) (by omega) _) (by omega) _) hx)
       have m0 := (hx.old w.heap.size (by (try simp only [Tryz.bsize]); omega)).trans ((Tryz.bother2 (by omega)).trans (Tryz.bset (j := 1) (v := (.slice (some ⟨d, 0, none⟩) r.length cap2)) (Tryz.bset (j := 0) (v := .bool true) Q0.out)))
       have m2 := (hx.old (w.heap.size + 1 + 1) (by (try simp only [Tryz.bsize]); omega)).trans ((Tryz.bother2 (by omega)).trans ((Tryz.bother2 (by omega)).trans Q2.out))
       have z0 := Tryz.bcell (j := 0) m0 rfl
       have g0 := Tryz.bcell (j := 0) m2 rfl; have g1 := Tryz.bcell (j := 1) m2 rfl; have e0 := Tryz.bfrozen (j := 0) m2; have e1 := Tryz.bfrozen (j := 1) m2
       have M2 := Lib.hid m2; clear m0 m2 hv hx))
  refine bodyPost_ret (v := .agg #[.bool (decide (0 < sn)), .slice sa sn sc]) ?_ rfl ⟨_, _, rfl, ⟨sa, sn, sc, rfl, HV.out.trans eq_comm⟩, fun hn => by have := HV.out; rw [decide_eq_true_eq]; omega, Tryz.set_ext (Tryz.set_ext HE2.out (by omega) _) (by omega) _⟩
  exact results_cell_row (p := 4) rfl _ _ _ 190 _ (0, 0) _ rfl (Tryz.bset (j := 1) (v := .slice sa sn sc) (Tryz.bset (j := 0) (v := .bool (decide (0 < sn))) M2.out)) Tryz.underlying190 rfl (by kernel_rfl)
/-- Whether a sum is zero; whether it is below it, where it is not. -/
def Tryz.sumZ (x y : Bool) (X Y : Nat) : Bool := if x = y then (X == 0 && Y == 0) else X == Y
def Tryz.sumB (x y : Bool) (X Y : Nat) : Bool := if x = y then x else if X < Y then y else x
theorem Tryz.sumZ_same {l r : List Nat} (tl : Tryz.Trim l) (tr : Tryz.Trim r) (x : Bool) : (l = [] ∧ r = []) ↔ Tryz.sumZ x x (Tryz.dv l) (Tryz.dv r) = true := by
  rw [Tryz.sumZ, if_pos rfl, Bool.and_eq_true, beq_iff_eq, beq_iff_eq, ← Tryz.trim_nil tl, ← Tryz.trim_nil tr, List.length_eq_zero_iff, List.length_eq_zero_iff]
theorem Tryz.sum123 (x y : Bool) (l r : List Nat) (b cap d cap2 : Nat) (w : World) (hl : l.length ≤ 200) (hr : r.length ≤ 200) (dl : Tryz.Dig l) (dr : Tryz.Dig r) (tl : Tryz.Trim l) (tr : Tryz.Trim r)
    (h : ∀ (i : Nat) (x : Nat), l[i]? = some x → w.cell? ⟨b, i, none⟩ = some (.int .i64 (x : Int))) (h2 : ∀ (i : Nat) (x : Nat), r[i]? = some x → w.cell? ⟨d, i, none⟩ = some (.int .i64 (x : Int))) :
    Calls Tryz.prog 123 #[.agg #[.bool x, .slice (some ⟨b, 0, none⟩) l.length cap], .agg #[.bool y, .slice (some ⟨d, 0, none⟩) r.length cap2]] w fun e w' =>
      ∃ bb v, e = .returned (.agg #[.bool bb, v]) ∧ Tryz.SlLen v (Tryz.sumZ x y (Tryz.dv l) (Tryz.dv r) = true) ∧ (Tryz.sumZ x y (Tryz.dv l) (Tryz.dv r) = false → bb = Tryz.sumB x y (Tryz.dv l) (Tryz.dv r)) ∧ Tryz.Ext w w' := by
  have sl : ∀ {v : Value} {p q : Prop}, (p ↔ q) → Tryz.SlLen v p → Tryz.SlLen v q := fun h ⟨a, n, c, h1, h2⟩ => ⟨a, n, c, h1, h2.trans h⟩
  have zd : ∀ x y : Bool, x ≠ y → ((Tryz.dv l = Tryz.dv r) ↔ Tryz.sumZ x y (Tryz.dv l) (Tryz.dv r) = true) := fun x y hxy => by rw [Tryz.sumZ, if_neg hxy, beq_iff_eq]
  have zf : ∀ x y : Bool, x ≠ y → Tryz.sumZ x y (Tryz.dv l) (Tryz.dv r) = false → Tryz.dv l ≠ Tryz.dv r := fun x y hxy hz he => by rw [(zd x y hxy).1 he] at hz; cases hz
  cases x <;> cases y
  · refine (Tryz.sum123f l r b cap d cap2 w hl hr dl dr h h2).mono fun e w' => ?_
    rintro ⟨v, h1, h3, h4⟩
    exact ⟨false, v, h1, sl (Tryz.sumZ_same tl tr false) h3, fun _ => by simp [Tryz.sumB], h4⟩
  · by_cases hlt : Tryz.dv l < Tryz.dv r
    · refine (Tryz.sum123cf l r b cap d cap2 w hl hr dl dr tl tr hlt h h2).mono fun e w' => ?_
      rintro ⟨bb, v, h1, h3, h5, h4⟩
      exact ⟨bb, v, h1, sl (zd _ _ (by decide)) h3, fun hz => by rw [h5 (zf _ _ (by decide) hz)]; simp [Tryz.sumB, hlt], h4⟩
    · refine (Tryz.sum123bf l r b cap d cap2 w hl hr dl dr tl tr (by omega) h h2).mono fun e w' => ?_
      rintro ⟨bb, v, h1, h3, h5, h4⟩
      exact ⟨bb, v, h1, sl (zd _ _ (by decide)) h3, fun hz => by rw [h5 (zf _ _ (by decide) hz)]; simp [Tryz.sumB, hlt], h4⟩
  · by_cases hlt : Tryz.dv l < Tryz.dv r
    · refine (Tryz.sum123ct l r b cap d cap2 w hl hr dl dr tl tr hlt h h2).mono fun e w' => ?_
      rintro ⟨bb, v, h1, h3, h5, h4⟩
      exact ⟨bb, v, h1, sl (zd _ _ (by decide)) h3, fun hz => by rw [h5 (zf _ _ (by decide) hz)]; simp [Tryz.sumB, hlt], h4⟩
    · refine (Tryz.sum123bt l r b cap d cap2 w hl hr dl dr tl tr (by omega) h h2).mono fun e w' => ?_
      rintro ⟨bb, v, h1, h3, h5, h4⟩
      exact ⟨bb, v, h1, sl (zd _ _ (by decide)) h3, fun hz => by rw [h5 (zf _ _ (by decide) hz)]; simp [Tryz.sumB, hlt], h4⟩
  · refine (Tryz.sum123t l r b cap d cap2 w hl hr dl dr h h2).mono fun e w' => ?_
    rintro ⟨v, h1, h3, h4⟩
    exact ⟨true, v, h1, sl (Tryz.sumZ_same tl tr true) h3, fun _ => by simp [Tryz.sumB], h4⟩
/-- The order by the sign of a difference. -/
def Tryz.ordS (x y : Bool) (X Y : Nat) : Int := if Tryz.sumZ x y X Y = true then 0 else if Tryz.sumB x y X Y = true then -1 else 1
theorem Tryz.ordS_cmp {N M : Int} {X Y : Nat} (hx : N < 0 → 0 < X) (hy : M < 0 → 0 < Y) : Tryz.ordS (decide (N < 0)) (!decide (M < 0)) X Y = Tryz.cmpS N M X Y := by
  unfold Tryz.ordS Tryz.cmpS Tryz.sumZ Tryz.sumB Tryz.cmpN
  by_cases hn : N < 0
  · have h1 := hx hn
    by_cases hm : M < 0
    · have h2 := hy hm
      simp only [hn, hm, decide_true, Bool.not_true, if_true, if_false, Bool.true_eq_false, beq_iff_eq]
      rcases Nat.lt_trichotomy X Y with h | h | h
      · have e1 : ¬ X = Y := by omega
        have e2 : ¬ Y < X := by omega
        simp [h, e1, e2]
      · subst h; simp
      · have e1 : ¬ X = Y := by omega
        have e2 : ¬ X < Y := by omega
        simp [h, e1, e2]
    · have e : ¬ X = 0 := by omega
      simp [hn, hm, e]
  · by_cases hm : M < 0
    · have h2 := hy hm
      have e : ¬ Y = 0 := by omega
      simp [hn, hm, e]
    · simp only [hn, hm, decide_false, Bool.not_false, if_false, Bool.false_eq_true, beq_iff_eq]
      rcases Nat.lt_trichotomy X Y with h | h | h
      · have e1 : ¬ X = Y := by omega
        simp [h, e1]
      · subst h; simp
      · have e1 : ¬ X = Y := by omega
        have e2 : ¬ X < Y := by omega
        simp [h, e1, e2]
end Go.Proofs
