/- Part 15 of the proof. -/
import Derived.Test.YtnmkgbomiillgaaGreatDoorP14
/- The concrete evaluator: the world beside it. -/
namespace Go.XR

def NoFz (f : Nat × Nat) (n : Nat) : Prop := ∀ o, o < n → ¬ (f.1 ≤ o ∧ o < f.2)
def CellsOk (ρ : Pm) (cs : List CV) (c : Array Value) : Prop := ∀ (i : Nat) (v : CV), cs[i]? = some v → ∃ u, den ρ v = some u ∧ c[i]? = some u
structure BlkOk (B : World) (ρ : Pm) (w : World) (k : Blk) (r : Nat × Nat) (c : Array Value) (f : Nat × Nat) : Prop where
  at_ : w.heap[r.1]? = some (.cells c k.ty f)
  size : c.size = r.2
  ex : k.ex = true → k.cs.length = r.2
  own : k.fz = false → NoFz f r.2 ∧ B.heap.size ≤ r.1
  cells : CellsOk ρ k.cs c
/-- What is known of package-level variables holds at the beginning. -/
structure GlOk (B : World) (ρ : Pm) (gl : Gl) : Prop where
  v : ∀ g v, lookG g gl.v = some v → g < B.heap.size ∧ ∃ u, den ρ v = some u ∧ B.cell? ⟨g, 0, none⟩ = some u
  a : ∀ k l, lookA k gl.a = some l → ∃ p, ρ k = some p ∧ p.1 < B.heap.size ∧ ∀ (i : Nat) (v : Value), l[i]? = some v → B.cell? ⟨p.1, p.2 + i, none⟩ = some v
  n : ∀ g k, lookA g gl.n = some k → ρ k = some (g, 0)
theorem GlOk.mono {B : World} {ρ ρ' : Pm} {gl : Gl} (h : GlOk B ρ gl) (k : Ext ρ ρ') : GlOk B ρ' gl := {
  v g v hg := by
    obtain ⟨k1, u, k2, k3⟩ := h.v g v hg
    exact ⟨k1, u, den_mono k k2, k3⟩
  a x l hl := by
    obtain ⟨p, h1, h2⟩ := h.a x l hl
    exact ⟨p, k _ _ h1, h2⟩
  n g x hg := k _ _ (h.n g x hg) }
def SameOut (w B : World) : Prop := w.os = B.os ∧ w.output = B.output
theorem SameOut.refl (w : World) : SameOut w w := ⟨rfl, rfl⟩
theorem SameOut.trans {a b c : World} (h : SameOut a b) (k : SameOut b c) : SameOut a c := ⟨h.1.trans k.1, h.2.trans k.2⟩
structure HRel (B : World) (ρ : Pm) (s : VS) (w : World) : Prop where
  dom : ∀ b, s.next ≤ b → ρ b = none
  blk : ∀ b k r, s.blk b = some k → ρ b = some r → ∃ c f, BlkOk B ρ w k r c f
  inj : ∀ b b' k k' r r', s.blk b = some k → s.blk b' = some k' → ρ b = some r → ρ b' = some r' → k.fz = false → r.1 = r'.1 → b = b'
  low : ∀ b r, ρ b = some r → r.1 < w.heap.size
  size : B.heap.size ≤ w.heap.size
  old : ∀ r, r < B.heap.size → w.heap[r]? = B.heap[r]?
  gl : GlOk B ρ s.gl
  out : SameOut w B
structure Ev (s s' : VS) : Prop where
  next : s.next ≤ s'.next
  low : s'.low ≤ s.low
  gl : s'.gl = s.gl
  same : ∀ b, b < s.next → b < s'.low → s'.blk b = s.blk b
  ver : s' = s ∨ s.ver < s'.ver
theorem Ev.refl (s : VS) : Ev s s := ⟨Nat.le_refl _, Nat.le_refl _, rfl, fun _ _ _ => rfl, .inl rfl⟩
theorem Ev.trans {a b c : VS} (h : Ev a b) (k : Ev b c) : Ev a c := {
  next := Nat.le_trans h.next k.next
  low := Nat.le_trans k.low h.low
  gl := k.gl.trans h.gl
  same x h1 h2 := (k.same x (Nat.lt_of_lt_of_le h1 h.next) h2).trans (h.same x h1 (Nat.lt_of_lt_of_le h2 k.low))
  ver := by
    rcases h.ver with rfl | h1
    · exact k.ver
    · rcases k.ver with rfl | h2
      · exact .inr h1
      · exact .inr (Nat.lt_trans h1 h2) }
theorem blk_put (s : VS) (b : Nat) (k : Option Blk) (x : Nat) : (s.put b k).blk x = if x = b then k else s.blk x := by
  unfold VS.blk VS.put
  simp only [Tr.get_set]
  split <;> rfl
theorem blk_new (s : VS) (k : Option Blk) (x : Nat) : (s.new k).blk x = if x = s.next then k else s.blk x := by
  unfold VS.blk VS.new
  simp only [Tr.get_set]
  split <;> rfl
theorem Ev.put (s : VS) (b : Nat) (k : Option Blk) : Ev s (s.put b k) := {
  next := Nat.le_refl _
  low := Nat.min_le_left _ _
  gl := rfl
  same x h1 h2 := by
    have : x < b := Nat.lt_of_lt_of_le h2 (Nat.min_le_right _ _)
    rw [blk_put, if_neg (by omega)]
  ver := .inr (Nat.lt_succ_self _) }
theorem Ev.new (s : VS) (k : Option Blk) : Ev s (s.new k) := {
  next := Nat.le_succ _
  low := Nat.le_refl _
  gl := rfl
  same x h1 h2 := by rw [blk_new, if_neg (by omega)]
  ver := .inr (Nat.lt_succ_self _) }

def ExtAt (n : Nat) (ρ ρ' : Pm) : Prop := ∀ b, b < n → ρ' b = ρ b
theorem ExtAt.refl (n : Nat) (ρ : Pm) : ExtAt n ρ ρ := fun _ _ => rfl
theorem ExtAt.trans {n m : Nat} {a b c : Pm} (h : ExtAt n a b) (k : ExtAt m b c) (hn : n ≤ m) : ExtAt n a c := fun x hx => (k x (Nat.lt_of_lt_of_le hx hn)).trans (h x hx)
section
variable {B w w' : World} {ρ ρ' : Pm} {s : VS}
theorem HRel.ext (h : HRel B ρ s w) (k : ExtAt s.next ρ ρ') : Ext ρ ρ' := fun b r hb => by
  by_cases hlt : b < s.next
  · rw [k b hlt]; exact hb
  · rw [h.dom b (by omega)] at hb; cases hb
theorem CellsOk.mono (h : Ext ρ ρ') {cs : List CV} {c : Array Value} (k : CellsOk ρ cs c) : CellsOk ρ' cs c := fun i v hi => by
  obtain ⟨u, h1, h2⟩ := k i v hi
  exact ⟨u, den_mono h h1, h2⟩
/-- Only the heap counts. -/
theorem HRel.heap (h : HRel B ρ s w) (e : w'.heap = w.heap) (eo : SameOut w' w := by exact ⟨rfl, rfl⟩) : HRel B ρ s w' := {
  dom := h.dom
  blk b k r h1 h2 := by
    obtain ⟨c, f, h3⟩ := h.blk b k r h1 h2
    exact ⟨c, f, by rw [e]; exact h3.at_, h3.size, h3.ex, h3.own, h3.cells⟩
  inj := h.inj
  low b r hb := by rw [e]; exact h.low b r hb
  size := by rw [e]; exact h.size
  old r hr := by rw [e]; exact h.old r hr
  gl := h.gl
  out := eo.trans h.out }
/-- A block that is not there yet. -/
theorem HRel.virt (h : HRel B ρ s w) (k : Option Blk) : HRel B ρ (s.new k) w := by
  have hn : ρ s.next = none := h.dom _ (Nat.le_refl _)
  have hb : ∀ b r, ρ b = some r → b ≠ s.next := fun b r hb e => by rw [e, hn] at hb; cases hb
  refine ⟨fun b hb' => h.dom b (Nat.le_trans (Nat.le_succ _) hb'), fun b k' r h1 h2 => ?_, fun b b' k1 k2 r r' h1 h2 h3 h4 => ?_, h.low, h.size, h.old, h.gl, h.out⟩
  · rw [blk_new, if_neg (hb b r h2)] at h1
    exact h.blk b k' r h1 h2
  · rw [blk_new, if_neg (hb b r h3)] at h1
    rw [blk_new, if_neg (hb b' r' h4)] at h2
    exact h.inj b b' k1 k2 r r' h1 h2 h3 h4
def upd (ρ : Pm) (b : Nat) (r : Nat × Nat) : Pm := fun x => if x = b then some r else ρ x
theorem upd_ext {b : Nat} {r : Nat × Nat} (h : ρ b = none) : Ext ρ (upd ρ b r) := fun x y hx => by
  unfold upd
  rw [if_neg]
  · exact hx
  · rintro rfl
    rw [h] at hx; cases hx
/-- It is made. -/
theorem HRel.real (h : HRel B ρ s w) {b : Nat} (hb : b < s.next) (hn : ρ b = none) {o : Obj} (hw : w'.heap = w.heap.push o) {n : Nat}
    (hk : ∀ k, s.blk b = some k → ∃ c f, o = .cells c k.ty f ∧ c.size = n ∧ (k.ex = true → k.cs.length = n) ∧ NoFz f n ∧ CellsOk ρ k.cs c) (eo : SameOut w' w := by exact ⟨rfl, rfl⟩) : HRel B (upd ρ b (w.heap.size, n)) s w' := by
  have hext := upd_ext (r := (w.heap.size, n)) hn
  have hold : ∀ r, r < w.heap.size → w'.heap[r]? = w.heap[r]? := fun r hr => by rw [hw, Array.getElem?_push]; rw [if_neg (by omega)]
  refine ⟨fun x hx => ?_, fun x k r h1 h2 => ?_, fun x y k1 k2 r r' h1 h2 h3 h4 h5 h6 => ?_, fun x r hx => ?_, ?_, fun r hr => ?_, ?_, eo.trans h.out⟩
  · unfold upd
    rw [if_neg (by omega)]
    exact h.dom x hx
  · unfold upd at h2
    split at h2
    · rename_i e
      subst e
      cases h2
      obtain ⟨c, f, rfl, k1, k2, k3, k4⟩ := hk k h1
      refine ⟨c, f, by rw [hw]; simp, k1, k2, fun _ => ⟨k3, h.size⟩, k4.mono hext⟩
    · obtain ⟨c, f, k1⟩ := h.blk x k r h1 h2
      exact ⟨c, f, by rw [hold _ (h.low x r h2)]; exact k1.at_, k1.size, k1.ex, k1.own, k1.cells.mono hext⟩
  · unfold upd at h3 h4
    split at h3
    · rename_i e
      split at h4
      · rename_i e'; rw [e, e']
      · cases h3
        have := h.low y r' h4
        simp only at h6
        omega
    · split at h4
      · cases h4
        have := h.low x r h3
        simp only at h6
        omega
      · exact h.inj x y k1 k2 r r' h1 h2 h3 h4 h5 h6
  · rw [hw, Array.size_push]
    unfold upd at hx
    split at hx
    · cases hx; exact Nat.lt_succ_self _
    · exact Nat.lt_succ_of_lt (h.low x r hx)
  · rw [hw, Array.size_push]; exact Nat.le_succ_of_le h.size
  · rw [hold r (Nat.lt_of_lt_of_le hr h.size)]; exact h.old r hr
  · exact h.gl.mono hext
/-- A new block. -/
theorem HRel.new (h : HRel B ρ s w) {ty : TypeId} {cs : List CV} {ex : Bool} {c : Array Value} {f : Nat × Nat} (hw : w'.heap = w.heap.push (.cells c ty f)) (hx : ex = true → cs.length = c.size) (hf : NoFz f c.size) (hc : CellsOk ρ cs c) (eo : SameOut w' w := by exact ⟨rfl, rfl⟩) :
    HRel B (upd ρ s.next (w.heap.size, c.size)) (newC s ty cs ex) w' ∧ ExtAt s.next ρ (upd ρ s.next (w.heap.size, c.size)) := by
  refine ⟨(h.virt (some ⟨ty, cs, ex, false⟩)).real (b := s.next) (Nat.lt_succ_self _) (h.dom _ (Nat.le_refl _)) hw (fun k hk => ?_) eo, fun b hb => ?_⟩
  · rw [blk_new, if_pos rfl] at hk
    cases hk
    exact ⟨c, f, rfl, rfl, hx, hf, hc⟩
  · unfold upd; rw [if_neg (by omega)]
/-- A block is written. -/
theorem HRel.write (h : HRel B ρ s w) {b : Nat} {k k' : Blk} {r : Nat × Nat} (hk : s.blk b = some k) (hr : ρ b = some r) (hf : k.fz = false) {c' : Array Value} {f' : Nat × Nat} (hty : k'.ty = k.ty)
    (hat : w'.heap[r.1]? = some (.cells c' k.ty f')) (hsz : c'.size = r.2) (hoth : ∀ x, x ≠ r.1 → w'.heap[x]? = w.heap[x]?) (hlen : w'.heap.size = w.heap.size) (hex : k'.ex = true → k'.cs.length = r.2) (hnf : k'.fz = false → NoFz f' r.2)
    (hc : CellsOk ρ k'.cs c') (eo : SameOut w' w := by exact ⟨rfl, rfl⟩) : HRel B ρ (s.put b (some k')) w' := by
  obtain ⟨c, f, hb⟩ := h.blk b k r hk hr
  obtain ⟨_, hown⟩ := hb.own hf
  refine ⟨h.dom, fun x k1 r1 h1 h2 => ?_, fun x y k1 k2 r1 r2 h1 h2 h3 h4 h5 h6 => ?_, fun x r1 hx => by rw [hlen]; exact h.low x r1 hx, by rw [hlen]; exact h.size, fun x hx => by rw [hoth x (by omega)]; exact h.old x hx, h.gl, eo.trans h.out⟩
  · rw [blk_put] at h1
    split at h1
    · rename_i e
      subst e
      cases h1
      rw [hr] at h2
      cases h2
      exact ⟨c', f', by rw [hty]; exact hat, hsz, hex, fun e => ⟨hnf e, hown⟩, hc⟩
    · rename_i e
      obtain ⟨c1, f1, g1⟩ := h.blk x k1 r1 h1 h2
      refine ⟨c1, f1, ?_, g1.size, g1.ex, g1.own, g1.cells⟩
      rw [hoth _ fun e2 => e (h.inj b x k k1 r r1 hk h1 hr h2 hf e2.symm).symm]
      exact g1.at_
  · rw [blk_put] at h1 h2
    split at h1
    · rename_i e
      subst e
      split at h2
      · rename_i e2; exact e2.symm
      · exact h.inj x y k k2 r1 r2 hk h2 h3 h4 hf h6
    · split at h2
      · rename_i e2
        subst e2
        exact h.inj x y k1 k r1 r2 h1 hk h3 h4 h5 h6
      · exact h.inj x y k1 k2 r1 r2 h1 h2 h3 h4 h5 h6
/-- A block is no longer looked at. -/
theorem HRel.kill (h : HRel B ρ s w) (b : Nat) : HRel B ρ (s.put b none) w := by
  have hb : ∀ x k, (s.put b none).blk x = some k → x ≠ b ∧ s.blk x = some k := fun x k hx => by
    rw [blk_put] at hx
    split at hx
    · cases hx
    · exact ⟨by assumption, hx⟩
  exact ⟨h.dom, fun x k r h1 h2 => h.blk x k r (hb x k h1).2 h2, fun x y k1 k2 r r' h1 h2 => h.inj x y k1 k2 r r' (hb x k1 h1).2 (hb y k2 h2).2, h.low, h.size, h.old, h.gl, h.out⟩
/-- A block goes on under another number. -/
theorem HRel.move (h : HRel B ρ s w) {b : Nat} {k k' : Blk} {r : Nat × Nat} (hk : s.blk b = some k) (hr : ρ b = some r) (hf : k.fz = false) {c' : Array Value} {f' : Nat × Nat} (hty : k'.ty = k.ty)
    (hat : w'.heap[r.1]? = some (.cells c' k.ty f')) (hsz : c'.size = r.2) (hoth : ∀ x, x ≠ r.1 → w'.heap[x]? = w.heap[x]?) (hlen : w'.heap.size = w.heap.size) (hex : k'.ex = true → k'.cs.length = r.2) (hnf : NoFz f' r.2)
    (hc : CellsOk ρ k'.cs c') (eo : SameOut w' w := by exact ⟨rfl, rfl⟩) : HRel B (upd ρ s.next r) ((s.put b none).new (some k')) w' ∧ ExtAt s.next ρ (upd ρ s.next r) := by
  obtain ⟨c, f, hb⟩ := h.blk b k r hk hr
  obtain ⟨_, hown⟩ := hb.own hf
  have hbn : b < s.next := by
    rcases Nat.lt_or_ge b s.next with h1 | h1
    · exact h1
    · rw [h.dom b h1] at hr; cases hr
  have hn := h.dom _ (Nat.le_refl s.next)
  have hext := upd_ext (r := r) hn
  have hbl : ∀ x k, ((s.put b none).new (some k')).blk x = some k → (x = s.next ∧ k = k') ∨ (x ≠ s.next ∧ x ≠ b ∧ s.blk x = some k) := fun x k1 hx => by
    rw [blk_new] at hx
    split at hx
    · rename_i e
      cases hx
      exact .inl ⟨e, rfl⟩
    · rename_i e
      rw [blk_put] at hx
      split at hx
      · cases hx
      · exact .inr ⟨e, by assumption, hx⟩
  refine ⟨⟨fun x hx => ?_, fun x k1 r1 h1 h2 => ?_, fun x y k1 k2 r1 r2 h1 h2 h3 h4 h5 h6 => ?_, fun x r1 hx => ?_, by rw [hlen]; exact h.size, fun x hx => by rw [hoth x (by omega)]; exact h.old x hx, ?_, eo.trans h.out⟩, fun x hx => ?_⟩
  · have : s.next + 1 ≤ x := hx
    unfold upd
    rw [if_neg (by omega)]
    exact h.dom x (by omega)
  · rcases hbl x k1 h1 with ⟨rfl, rfl⟩ | ⟨e1, e2, e3⟩
    · unfold upd at h2
      rw [if_pos rfl] at h2
      cases h2
      exact ⟨c', f', by rw [hty]; exact hat, hsz, hex, fun _ => ⟨hnf, hown⟩, hc.mono hext⟩
    · unfold upd at h2
      rw [if_neg e1] at h2
      obtain ⟨c1, f1, g1⟩ := h.blk x k1 r1 e3 h2
      refine ⟨c1, f1, ?_, g1.size, g1.ex, g1.own, g1.cells.mono hext⟩
      rw [hoth _ fun e => e2 (h.inj b x k k1 r r1 hk e3 hr h2 hf e.symm).symm]
      exact g1.at_
  · rcases hbl x k1 h1 with ⟨rfl, rfl⟩ | ⟨e1, e2, e3⟩ <;> rcases hbl y k2 h2 with ⟨rfl, rfl⟩ | ⟨d1, d2, d3⟩
    · rfl
    · unfold upd at h3 h4
      rw [if_pos rfl] at h3
      cases h3
      rw [if_neg d1] at h4
      exact absurd (h.inj b y k k2 r r2 hk d3 hr h4 hf h6).symm d2
    · unfold upd at h3 h4
      rw [if_neg e1] at h3
      rw [if_pos rfl] at h4
      cases h4
      exact absurd (h.inj b x k k1 r r1 hk e3 hr h3 hf h6.symm).symm e2
    · unfold upd at h3 h4
      rw [if_neg e1] at h3
      rw [if_neg d1] at h4
      exact h.inj x y k1 k2 r1 r2 e3 d3 h3 h4 h5 h6
  · rw [hlen]
    unfold upd at hx
    split at hx
    · cases hx; exact h.low b r hr
    · exact h.low x r1 hx
  · exact h.gl.mono hext
  · unfold upd; rw [if_neg (by omega)]
/-- Behind a call that has changed nothing that was there. -/
theorem HRel.back {s1 s2 : VS} (h : HRel B ρ s w) (h2 : HRel B ρ' s2 w') (he : Ev s1 s2) (h1 : s1.blk = s.blk) (hn : s1.next = s.next) (hgl : s1.gl = s.gl) (hl : s.next ≤ s2.low) (hx : ExtAt s.next ρ ρ') : HRel B ρ s w' := by
  have hlt : ∀ b r, ρ b = some r → b < s.next := fun b r hb => by
    rcases Nat.lt_or_ge b s.next with h1 | h1
    · exact h1
    · rw [h.dom b h1] at hb; cases hb
  have hb2 : ∀ b r, ρ b = some r → s2.blk b = s.blk b ∧ ρ' b = some r := fun b r hb => by
    have := hlt b r hb
    exact ⟨(he.same b (by omega) (by omega)).trans (by rw [h1]), by rw [hx b this]; exact hb⟩
  refine ⟨h.dom, fun b k r g1 g2 => ?_, fun b b' k k' r r' g1 g2 g3 g4 => ?_, fun b r hb => h2.low b r (hb2 b r hb).2, h2.size, h2.old, h.gl, h2.out⟩
  · obtain ⟨e1, e2⟩ := hb2 b r g2
    obtain ⟨c, f, k1⟩ := h2.blk b k r (by rw [e1]; exact g1) e2
    obtain ⟨c0, f0, k0⟩ := h.blk b k r g1 g2
    refine ⟨c, f, k1.at_, k1.size, k1.ex, k1.own, fun i v hi => ?_⟩
    obtain ⟨u, d1, d2⟩ := k1.cells i v hi
    obtain ⟨u0, d3, _⟩ := k0.cells i v hi
    rw [den_mono (h.ext hx) d3] at d1
    cases d1
    exact ⟨_, d3, d2⟩
  · obtain ⟨e1, e2⟩ := hb2 b r g3
    obtain ⟨e3, e4⟩ := hb2 b' r' g4
    exact h2.inj b b' k k' r r' (by rw [e1]; exact g1) (by rw [e3]; exact g2) e2 e4
/-- A block's cells, read. -/
theorem HRel.read (h : HRel B ρ s w) {b : Nat} {k : Blk} {r : Nat × Nat} (hk : s.blk b = some k) (hr : ρ b = some r) {o n : Nat} (hn : o + n ≤ k.cs.length) :
    ∃ us, denL ρ ((k.cs.drop o).take n) = some us ∧ us.length = n ∧ ∀ (j : Nat) (v : Value), us[j]? = some v → w.cell? ⟨r.1, o + j, none⟩ = some v := by
  obtain ⟨c, f, hb⟩ := h.blk b k r hk hr
  have hsz : k.cs.length ≤ c.size := by
    rcases Nat.eq_zero_or_pos k.cs.length with h0 | h0
    · omega
    · obtain ⟨u, _, h2⟩ := hb.cells (k.cs.length - 1) k.cs[k.cs.length - 1] (by simp)
      have := (Array.getElem?_eq_some_iff.1 h2).1
      omega
  refine ⟨(c.toList.drop o).take n, denL_of (by simp; omega) fun i v hi => ?_, by simp; omega, fun j v hj => ?_⟩
  · rw [List.getElem?_take] at hi ⊢
    split at hi
    · rename_i hc
      rw [if_pos hc]
      rw [List.getElem?_drop] at hi ⊢
      obtain ⟨u, h1, h2⟩ := hb.cells _ v hi
      exact ⟨u, by simpa using h2, h1⟩
    · cases hi
  · rw [List.getElem?_take] at hj
    split at hj
    · rw [List.getElem?_drop] at hj
      simp only [World.cell?, hb.at_]
      simpa using hj
    · cases hj
theorem HRel.len (h : HRel B ρ s w) {b : Nat} {k : Blk} {r : Nat × Nat} (hk : s.blk b = some k) (hr : ρ b = some r) : k.cs.length ≤ r.2 := by
  obtain ⟨c, f, hb⟩ := h.blk b k r hk hr
  rcases Nat.eq_zero_or_pos k.cs.length with h0 | h0
  · omega
  · obtain ⟨u, _, h2⟩ := hb.cells (k.cs.length - 1) k.cs[k.cs.length - 1] (by simp)
    have := (Array.getElem?_eq_some_iff.1 h2).1
    have := hb.size
    omega
end
end Go.XR
/- The concrete evaluator: operations, part one. -/
namespace Go.XR

def TRel (ρ : Pm) (t : Tr CV) (a : Act) : Prop := ∀ i, den ρ ((t.get i).getD (.at undef)) = some (a.tmps.getD i undef)
section
variable {P : Program} {B w w' : World} {ρ ρ' : Pm} {s s' : VS} {t : Tr CV} {a : Act} {o : Oper} {v x y : CV} {vx vy : Value}

theorem TRel.mono (h : TRel ρ t a) (k : Ext ρ ρ') : TRel ρ' t a := fun i => den_mono k (h i)
theorem ev_ok (h : TRel ρ t a) (x : Operand) : den ρ (ev t x) = some (a.eval x) := by
  cases x with
  | tmp n => exact h n
  | _ => rfl
theorem mapC_ok (h : TRel ρ t a) : ∀ (l : List Operand), denL ρ (mapC t l) = some (l.map a.eval)
  | [] => rfl
  | x :: r => by
    have := mapC_ok h r
    unfold mapC at this ⊢
    simp [denL, ev_ok h x, this]
/-- What an operation that enters no function does. -/
def OpGo (P : Program) (B : World) (ρ : Pm) (s : VS) (w : World) (a : Act) (o : Oper) (v : CV) (s' : VS) : Prop :=
  ∃ n u w' ρ', (execOp a.eval o).run P w = .ok n w' ∧ (n = .value u ∨ (n = .skip ∧ u = undef)) ∧ den ρ' v = some u ∧ HRel B ρ' s' w' ∧ ExtAt s.next ρ ρ'
theorem OpGo.val (h : HRel B ρ s w) {u : Value} (hr : (execOp a.eval o).run P w = .ok (.value u) w) (hd : den ρ v = some u) : OpGo P B ρ s w a o v s :=
  ⟨_, u, w, ρ, hr, .inl rfl, hd, h, .refl _ _⟩
theorem OpGo.new (h : HRel B ρ s w) {u : Value} {ty : TypeId} {cs : List CV} {ex : Bool} {c : Array Value} {f : Nat × Nat} (hr : (execOp a.eval o).run P w = .ok (.value u) w') (hw : w'.heap = w.heap.push (.cells c ty f))
    (hx : ex = true → cs.length = c.size) (hf : NoFz f c.size) (hc : CellsOk ρ cs c) (hd : den (upd ρ s.next (w.heap.size, c.size)) v = some u) (eo : SameOut w' w := by exact ⟨rfl, rfl⟩) : OpGo P B ρ s w a o v (newC s ty cs ex) := by
  obtain ⟨h1, h2⟩ := h.new hw hx hf hc eo
  exact ⟨_, u, w', _, hr, .inl rfl, hd, h1, h2⟩
theorem nofz0 (n : Nat) : NoFz (0, 0) n := fun o _ h => by simp at h
theorem cells_of {cs : List CV} {us : List Value} (h : denL ρ cs = some us) : CellsOk ρ cs us.toArray := fun i v hi => by
  obtain ⟨u, h1, h2⟩ := denL_get h i v hi
  exact ⟨u, h2, by simpa using h1⟩
theorem pure1 {f : Value → Sem Value} (h : at1 P s f x = some (v, s')) (hx : den ρ x = some vx) : ∃ r, (∀ w, (f vx).run P w = .ok r w) ∧ v = .at r ∧ s' = s := by
  unfold at1 at h
  split at h
  · rename_i a ha
    have := toVal_den ρ ha
    rw [hx] at this
    cases this
    split at h
    · rename_i r hr
      cases h
      exact ⟨r, run_pure hr, rfl, rfl⟩
    · cases h
  · cases h
theorem pure2 {f : Value → Value → Sem Value} (h : at2 P s f x y = some (v, s')) (hx : den ρ x = some vx) (hy : den ρ y = some vy) : ∃ r, (∀ w, (f vx vy).run P w = .ok r w) ∧ v = .at r ∧ s' = s := by
  unfold at2 at h
  split at h
  · rename_i a b ha hb
    have h1 := toVal_den ρ ha
    have h2 := toVal_den ρ hb
    rw [hx] at h1
    rw [hy] at h2
    cases h1
    cases h2
    split at h
    · rename_i r hr
      cases h
      exact ⟨r, run_pure hr, rfl, rfl⟩
    · cases h
  · cases h
theorem intOf_eq {n : Int} (h : intOf x = some n) (hx : den ρ x = some vx) : ∃ k, vx = .int k n := by
  unfold intOf at h
  split at h
  · cases h; cases hx; exact ⟨_, rfl⟩
  · cases h
theorem boolOf_eq {b : Bool} (h : boolOf x = some b) (hx : den ρ x = some vx) : vx = .bool b := by
  unfold boolOf at h
  split at h
  · cases h; cases hx; rfl
  · cases h
theorem den_ptr {b o : Nat} (h : den ρ (.ptr b o) = some vx) : ∃ r, ρ b = some r ∧ vx = .pointer (some ⟨r.1, o, none⟩) := by
  simp only [den, Option.map_eq_some_iff] at h
  obtain ⟨p, h1, h2⟩ := h
  exact ⟨p, h1, h2.symm⟩
theorem den_sl {b o n e : Nat} (h : den ρ (.sl b o n e) = some vx) : ∃ r, ρ b = some r ∧ 0 < e ∧ o + n * e ≤ r.2 ∧ (r.2 - o) % e = 0 ∧ vx = .slice (some ⟨r.1, o, none⟩) n ((r.2 - o) / e) := by
  simp only [den, Option.bind_eq_some_iff] at h
  obtain ⟨p, h1, h2⟩ := h
  split at h2
  · rename_i hc
    cases h2
    exact ⟨p, h1, hc.1, hc.2.1, hc.2.2, rfl⟩
  · cases h2
theorem den_esl {b o n e : Nat} (h : den ρ (.esl b o n e) = some vx) : ∃ r ad, ρ b = some r ∧ vx = .slice (some ad) 0 ((r.2 - o) / e - n) := by
  simp only [den, Option.bind_eq_some_iff] at h
  obtain ⟨p, h1, h2⟩ := h
  split at h2
  · cases h2
    exact ⟨p, _, h1, rfl⟩
  · cases h2
theorem sl_den {b o n e : Nat} {r : Nat × Nat} (h : ρ b = some r) (h1 : 0 < e) (h2 : o + n * e ≤ r.2) (h3 : (r.2 - o) % e = 0) : den ρ (.sl b o n e) = some (.slice (some ⟨r.1, o, none⟩) n ((r.2 - o) / e)) := by
  simp [den, h, h1, h2, h3]

/-! ### Equality -/
theorem guard_ptr (op : BinOp) (t : TypeId) (x y : Operand) (p : Option Addr) (b : Value) (w : World) : (eqGuard op t x y (.pointer p) b).run P w = .ok () w := by
  unfold eqGuard
  cases op <;> simp
theorem guard_sl (op : BinOp) (t : TypeId) (x y : Operand) (p : Option Addr) (n c : Nat) (b : Value) (w : World) : (eqGuard op t x y (.slice p n c) b).run P w = .ok () w := by
  unfold eqGuard
  cases op <;> simp
theorem guard_map (op : BinOp) (t : TypeId) (x y : Operand) (p : Option Nat) (b : Value) (w : World) : (eqGuard op t x y (.map p) b).run P w = .ok () w := by
  unfold eqGuard
  cases op <;> simp
theorem guard_fn (op : BinOp) (t : TypeId) (x y : Operand) (f : Fn) (p q : Array Value) (b : Value) (w : World) : (eqGuard op t x y (.func f p q) b).run P w = .ok () w := by
  unfold eqGuard
  cases op <;> simp
theorem guard_if (op : BinOp) (t : TypeId) (x y : Operand) (u : TypeId) (p : Value) (b : Value) (w : World) : (eqGuard op t x y (.iface u p) b).run P w = .ok () w := by
  unfold eqGuard
  cases op <;> simp
theorem guard_if' (op : BinOp) (t : TypeId) (x y : Operand) (u : TypeId) (p : Value) (w : World) : (eqGuard op t x y .nilIface (.iface u p)).run P w = .ok () w := by
  unfold eqGuard
  cases op <;> simp
theorem eqC_ok {ty : TypeId} {b : Bool} {xo yo : Operand} (h : eqC P ty x y = some b) (hx : den ρ x = some vx) (hy : den ρ y = some vy) (op : BinOp) (w : World) :
    (eqGuard op ty xo yo vx vy).run P w = .ok () w ∧ (∀ d, (Op.equalIn (d + 1) ty vx vy).run P w = .ok b w) ∧ (∀ o : BinOp, o = .eql ∨ o = .neq → Go.binOp o ty vx vy = match o with | .eql => (do pure (.bool (← Op.equal ty vx vy))) | _ => (do pure (.bool (!(← Op.equal ty vx vy))))) := by
  unfold eqC at h
  split at h
  · rename_i hu
    cases h
    obtain ⟨r, _, rfl⟩ := den_ptr hx
    cases hy
    exact ⟨guard_ptr _ _ _ _ _ _ _, fun d => by simp [Op.equalIn, run_underlying hu], fun o ho => by rcases ho with rfl | rfl <;> rfl⟩
  · rename_i hu
    cases h
    obtain ⟨r, _, rfl⟩ := den_ptr hy
    cases hx
    exact ⟨guard_ptr _ _ _ _ _ _ _, fun d => by simp [Op.equalIn, run_underlying hu], fun o ho => by rcases ho with rfl | rfl <;> rfl⟩
  · rename_i hu
    cases h
    obtain ⟨r, _, _, _, _, rfl⟩ := den_sl hx
    cases hy
    exact ⟨guard_sl _ _ _ _ _ _ _ _ _, fun d => by simp [Op.equalIn, run_underlying hu], fun o ho => by rcases ho with rfl | rfl <;> rfl⟩
  · rename_i hu
    cases h
    simp only [den, Option.bind_eq_some_iff, Option.map_eq_some_iff] at hx
    obtain ⟨_, _, _, _, rfl⟩ := hx
    cases hy
    exact ⟨guard_sl _ _ _ _ _ _ _ _ _, fun d => by simp [Op.equalIn, run_underlying hu], fun o ho => by rcases ho with rfl | rfl <;> rfl⟩
  · rename_i hu
    cases h
    obtain ⟨r, _, _, _, _, rfl⟩ := den_sl hy
    cases hx
    exact ⟨guard_sl _ _ _ _ _ _ _ _ _, fun d => by simp [Op.equalIn, run_underlying hu], fun o ho => by rcases ho with rfl | rfl <;> rfl⟩
  · rename_i hu
    cases h
    simp only [den, Option.map_eq_some_iff] at hx
    obtain ⟨r, _, rfl⟩ := hx
    cases hy
    exact ⟨guard_map _ _ _ _ _ _ _, fun d => by simp [Op.equalIn, run_underlying hu], fun o ho => by rcases ho with rfl | rfl <;> rfl⟩
  · rename_i hu
    cases h
    simp only [den, Option.bind_eq_some_iff, Option.map_eq_some_iff] at hx
    obtain ⟨_, _, _, _, rfl⟩ := hx
    cases hy
    exact ⟨guard_fn _ _ _ _ _ _ _ _ _, fun d => by simp [Op.equalIn, run_underlying hu], fun o ho => by rcases ho with rfl | rfl <;> rfl⟩
  · rename_i hu
    cases h
    simp only [den, Option.map_eq_some_iff] at hx
    obtain ⟨_, _, rfl⟩ := hx
    cases hy
    exact ⟨guard_if _ _ _ _ _ _ _ _, fun d => by simp [Op.equalIn, run_underlying hu], fun o ho => by rcases ho with rfl | rfl <;> rfl⟩
  · rename_i hu
    cases h
    simp only [den, Option.map_eq_some_iff] at hy
    obtain ⟨_, _, rfl⟩ := hy
    cases hx
    exact ⟨guard_if' _ _ _ _ _ _ _, fun d => by simp [Op.equalIn, run_underlying hu], fun o ho => by rcases ho with rfl | rfl <;> rfl⟩
  · rename_i e b1 o1 b2 o2 hu
    split at h
    · rename_i z hz
      cases hb : Nat.beq b1 b2 with
      | false => rw [hb] at h; cases h
      | true =>
        rw [hb] at h
        have := Nat.eq_of_beq_eq_true hb
        subst this
        cases h
        obtain ⟨r, hr, rfl⟩ := den_ptr hx
        obtain ⟨r', hr', rfl⟩ := den_ptr hy
        rw [hr] at hr'
        cases hr'
        unfold szOf at hz
        simp only [Option.map_eq_some_iff] at hz
        obtain ⟨i, hi, hz⟩ := hz
        refine ⟨guard_ptr _ _ _ _ _ _ _, fun d => ?_, fun o ho => by rcases ho with rfl | rfl <;> rfl⟩
        have hne : ¬ i.size = 0 := by omega
        by_cases e12 : o1 = o2
        · subst e12
          simp [Op.equalIn, run_underlying hu, sizeOf, typeInfo, hi, hne, sameAddr]
        · simp [Op.equalIn, run_underlying hu, sizeOf, typeInfo, hi, hne, sameAddr, e12, XE.nbeq e12]
    · cases h
  · cases h

/-! ### Operations without memory -/
theorem move_go (h : HRel B ρ s w) (r : TRel ρ t a) {x : Operand} (ho : o.op = .move x ∨ o.op = .assign x) : OpGo P B ρ s w a o (ev t x) s := by
  refine OpGo.val h ?_ (ev_ok r x)
  rcases ho with ho | ho <;> simp [execOp, ho]
theorem pick_go (h : HRel B ρ s w) (r : TRel ρ t a) {c x y : Operand} (ho : o.op = .pick c x y) {b : Bool} (hb : boolOf (ev t c) = some b) : OpGo P B ρ s w a o (ev t (cond b x y)) s := by
  refine OpGo.val h ?_ (ev_ok r _)
  have := boolOf_eq hb (ev_ok r c)
  cases b <;> simp [execOp, ho, this, asBool]
theorem unOp_go (h : HRel B ρ s w) (r : TRel ρ t a) {op : UnOp} {ty : TypeId} {x : Operand} (ho : o.op = .unOp op ty x) (he : at1 P s (Op.unary op) (ev t x) = some (v, s')) : OpGo P B ρ s w a o v s' := by
  obtain ⟨u, h1, rfl, rfl⟩ := pure1 he (ev_ok r x)
  refine OpGo.val h ?_ rfl
  simp [execOp, ho, Sem.run_bind, h1]
theorem binOp_go (h : HRel B ρ s w) (r : TRel ρ t a) {op : BinOp} {ty ty2 : TypeId} {x y : Operand} (ho : o.op = .binOp op ty x y ty2) (he : binC P s op ty x y (ev t x) (ev t y) = some (v, s')) : OpGo P B ρ s w a o v s' := by
  unfold binC at he
  split at he
  · rename_i q hq
    cases he
    obtain ⟨u, h1, rfl, rfl⟩ := pure2 hq (ev_ok r x) (ev_ok r y)
    refine OpGo.val h ?_ rfl
    simp only [execOp, ho]
    rw [Sem.run_bind, h1 w]
    rfl
  · have key : ∀ b, (op = .eql ∨ op = .neq) → eqC P ty (ev t x) (ev t y) = some b → (execOp a.eval o).run P w = .ok (.value (.bool (match op with | .eql => b | _ => !b))) w := fun b hop hb => by
      obtain ⟨h1, h2', h3⟩ := eqC_ok (xo := x) (yo := y) hb (ev_ok r x) (ev_ok r y) op w
      have h2 : (Op.equal ty (a.eval x) (a.eval y)).run P w = .ok b w := h2' 9999
      simp only [execOp, ho]
      rw [Sem.run_bind, Sem.run_bind, h1, Result.andThen_ok, h3 op hop]
      rcases hop with rfl | rfl <;> simp [Sem.run_bind, h2]
    cases op <;> simp only [Option.map_eq_some_iff, reduceCtorEq] at he
    · obtain ⟨b, hb, e⟩ := he
      cases e
      exact OpGo.val h (key b (.inl rfl) hb) rfl
    · obtain ⟨b, hb, e⟩ := he
      cases e
      exact OpGo.val h (key b (.inr rfl) hb) rfl
theorem nilCheck_go (h : HRel B ρ s w) (r : TRel ρ t a) {x : Operand} (ho : o.op = .nilCheck x) (he : nilCheckC (ev t x) = some v) : OpGo P B ρ s w a o v s := by
  have hx := ev_ok r x
  generalize ev t x = X at he hx
  have key : v = X ∧ ((execOp a.eval o).run P w = .ok (.value (a.eval x)) w) := by
    unfold nilCheckC at he
    split at he <;> cases he <;> refine ⟨rfl, ?_⟩
    · have e := Option.some.inj (show some _ = some _ from hx); simp [execOp, ho, ← e]
    · obtain ⟨q, _, e⟩ := den_ptr hx; simp [execOp, ho, e]
    · simp only [den, Option.map_eq_some_iff] at hx
      obtain ⟨_, _, e⟩ := hx
      simp [execOp, ho, ← e]
    · simp only [den, Option.bind_eq_some_iff, Option.map_eq_some_iff] at hx
      obtain ⟨_, _, _, _, e⟩ := hx
      simp [execOp, ho, ← e]
    · have e := Option.some.inj (show some _ = some _ from hx); simp [execOp, ho, ← e]
    · simp only [den, Option.map_eq_some_iff] at hx
      obtain ⟨_, _, e⟩ := hx
      simp [execOp, ho, ← e]
    · have e := Option.some.inj (show some _ = some _ from hx); simp [execOp, ho, ← e]
  obtain ⟨rfl, hr⟩ := key
  exact OpGo.val h hr hx
theorem extract_go (h : HRel B ρ s w) (r : TRel ρ t a) {x : Operand} {i : Nat} (ho : o.op = .extract x i) (he : extractC i (ev t x) = some v) : OpGo P B ρ s w a o v s := by
  have hx := ev_ok r x
  generalize ev t x = X at he hx
  unfold extractC at he
  split at he
  · simp only [den, Option.map_eq_some_iff] at hx
    obtain ⟨us, hus, e⟩ := hx
    obtain ⟨u, h1, h2⟩ := denL_get hus i v he
    refine OpGo.val h ?_ h2
    simp [execOp, ho, ← e, Instr.extract, h1]
  · rename_i vs
    have e := Option.some.inj (show some _ = some _ from hx)
    simp only [Option.map_eq_some_iff] at he
    obtain ⟨u, h1, rfl⟩ := he
    refine OpGo.val h (u := u) ?_ rfl
    have h1' : vs[i]? = some u := by simpa using h1
    simp [execOp, ho, ← e, Instr.extract, h1']
  · cases he
theorem makeIf_go (h : HRel B ρ s w) (r : TRel ρ t a) {ty : TypeId} {x : Operand} (ho : o.op = .makeInterface ty x) {d : TypeDesc} (hd : P.underlying ty = some d) (hn : ∀ ms, d ≠ .interface ms) : OpGo P B ρ s w a o (.ifc ty (ev t x)) s := by
  refine OpGo.val h (u := .iface ty (a.eval x)) ?_ (by simp [den, ev_ok r x])
  simp only [execOp, ho, Instr.makeInterface, Sem.run_bind, run_underlying hd, Result.andThen_ok]
  cases d <;> first | rfl | exact absurd rfl (hn _)
theorem makeFn_go (h : HRel B ρ s w) (r : TRel ρ t a) {f : FuncId} {p q : Array Operand} (ho : o.op = .makeFunc (.func f) p q) : OpGo P B ρ s w a o (.fn f (mapC t p.toList) (mapC t q.toList)) s := by
  refine OpGo.val h (u := .func (.func f) (p.map a.eval) (q.map a.eval)) ?_ ?_
  · simp [execOp, ho, Instr.makeFunc]
  · simp only [den, mapC_ok r, Option.bind_some, Option.map_some]
    congr 2 <;> (apply Array.ext'; simp)
end
end Go.XR
/- The concrete evaluator: operations, part two: memory. -/
namespace Go.XR
section
variable {P : Program} {B w w' : World} {ρ ρ' : Pm} {s s' : VS} {t : Tr CV} {a : Act} {o : Oper} {v x y : CV} {vx vy : Value}

theorem agg_run {ty : TypeId} {b : Bool} (h : aggB P ty = some b) (w : World) : (isAgg ty).run P w = .ok b w := by
  unfold aggB at h
  unfold isAgg
  split at h <;> first
    | (rename_i hu; cases h; simp [run_underlying hu])
    | (rename_i hu hn; cases h; rw [Sem.run_bind, run_underlying hu]; simp only [Result.andThen_ok]; split <;> simp_all)
    | cases h
theorem sz_run {ty : TypeId} {n : Nat} (h : szOf P ty = some n) (w : World) : (sizeOf ty).run P w = .ok n w := by
  unfold szOf at h
  simp only [Option.map_eq_some_iff] at h
  obtain ⟨i, hi, rfl⟩ := h
  simp [sizeOf, typeInfo, hi]
theorem zero_run {ty : TypeId} {z : Value} (h : zeroOf P ty = some z) (w : World) : (zeroValue ty).run P w = .ok z w := by
  unfold zeroOf at h
  simp only [Option.bind_eq_some_iff] at h
  obtain ⟨i, hi, hz⟩ := h
  simp [zeroValue, typeInfo, hi, hz]
theorem extract_list (us : List Value) (o n : Nat) : us.toArray.extract o (o + n) = ((us.drop o).take n).toArray := by
  simp [List.extract_toArray]
theorem part_ok {ty : TypeId} {cs : List CV} {us : List Value} {off : Nat} (h : partC P ty cs off = some v) (hc : denL ρ cs = some us) (w : World) : ∃ u, den ρ v = some u ∧ (part ty us.toArray off).run P w = .ok u w := by
  unfold partC at h
  split at h
  · rename_i n ha hs
    cases hb : Nat.ble (off + n) cs.length with
    | false => rw [hb] at h; cases h
    | true =>
      rw [hb] at h
      cases h
      refine ⟨.agg ((us.drop off).take n).toArray, by simp [den, denL_take (denL_drop hc off) n], ?_⟩
      simp only [part, Sem.run_bind, agg_run ha, Result.andThen_ok, if_true, sz_run hs, extract_list]
      rfl
  · rename_i ha hs
    obtain ⟨u, h1, h2⟩ := denL_get hc off v h
    refine ⟨u, h2, ?_⟩
    simp [part, Sem.run_bind, agg_run ha, h1]
  · cases h
theorem load_ok (h : HRel B ρ s w) {ty : TypeId} (he : loadC P s ty x = some v) (hx : den ρ x = some vx) : ∃ u, den ρ v = some u ∧ (Instr.loadAt ty vx).run P w = .ok u w := by
  unfold loadC at he
  split at he
  · rename_i g
    cases hx
    split at he
    · rename_i ha
      obtain ⟨h1, u, h2, h3⟩ := h.gl.v g v he
      refine ⟨u, h2, ?_⟩
      have h4 : w.cell? ⟨g, 0, none⟩ = some u := by
        rw [← h3]; simp only [World.cell?]; rw [h.old g h1]
      simp [Instr.loadAt, Instr.sureAddr, loadVar, agg_run ha, load, Sem.run, h4]
    · cases he
  · rename_i k i
    split at he
    · rename_i l ha hl
      obtain ⟨p, h1, h2, h3⟩ := h.gl.a k l hl
      simp only [Option.map_eq_some_iff] at he
      obtain ⟨u, h4, rfl⟩ := he
      refine ⟨u, rfl, ?_⟩
      simp only [den, h1, Option.map_some, Option.some.injEq] at hx
      subst hx
      have h5 : w.cell? ⟨p.1, p.2 + i, none⟩ = some u := by
        rw [← h3 i u h4]; simp only [World.cell?]; rw [h.old _ h2]
      simp [Instr.loadAt, Instr.sureAddr, loadVar, agg_run ha, load, Sem.run, h5]
    · cases he
  · rename_i b off
    obtain ⟨r, hr, rfl⟩ := den_ptr hx
    split at he
    · rename_i k hk
      unfold partC at he
      split at he
      · rename_i n ha hs
        cases hb : Nat.ble (off + n) k.cs.length with
        | false => rw [hb] at he; cases he
        | true =>
          rw [hb] at he
          cases he
          obtain ⟨us, h1, h2, h3⟩ := h.read hk hr (Nat.le_of_ble_eq_true hb)
          refine ⟨.agg us.toArray, by simp [den, h1], ?_⟩
          have h4 := run_loadCells_list (P := P) w ⟨r.1, off, none⟩ us (fun j v hv => by rw [XE.add_mk]; exact h3 j v hv)
          rw [h2] at h4
          simp [Instr.loadAt, Instr.sureAddr, loadVar, agg_run ha, sz_run hs, h4]
      · rename_i ha hs
        have hlt : off < k.cs.length := (List.getElem?_eq_some_iff.1 he).1
        obtain ⟨us, h1, h2, h3⟩ := h.read (o := off) (n := 1) hk hr (by omega)
        have hv : (List.drop off k.cs).take 1 = [v] := by
          apply List.ext_getElem?
          intro i
          cases i with
          | zero => simpa using he
          | succ i => simp [List.getElem?_take]
        rw [hv] at h1
        simp only [denL, Option.bind_eq_some_iff, Option.map_eq_some_iff] at h1
        obtain ⟨u, h5, z, h6, h7⟩ := h1
        subst h7
        refine ⟨u, h5, ?_⟩
        have h4 := h3 0 u rfl
        simp only [Nat.add_zero] at h4
        simp [Instr.loadAt, Instr.sureAddr, loadVar, agg_run ha, load, Sem.run, h4]
      · cases he
    · cases he
  · cases he
theorem loadAt_go (h : HRel B ρ s w) (r : TRel ρ t a) {ty : TypeId} {x : Operand} (ho : o.op = .load ty x) (he : loadC P s ty (ev t x) = some v) : OpGo P B ρ s w a o v s := by
  obtain ⟨u, h1, h2⟩ := load_ok h he (ev_ok r x)
  refine OpGo.val h ?_ h1
  simp [execOp, ho, h2]

/-! ### Stores -/
theorem run_storeNF (g o : Nat) (ty : TypeId) (fz : Nat × Nat) : ∀ (vs : List Value) (i : Nat) (cur : Array Value) (w : World), w.heap[g]? = some (.cells cur ty fz) → NoFz fz cur.size → o + i + vs.length ≤ cur.size → (∀ v ∈ vs, v.oneCell' = true) →
    (storeCells ⟨g, o, none⟩ vs i).run P w = .ok () (w.setRow g (cur.toList.take (o + i) ++ vs ++ cur.toList.drop (o + i + vs.length)).toArray)
  | [], i, cur, w, hg, _, _, _ => by
    simp only [storeCells, List.append_nil, List.length_nil, Nat.add_zero, List.take_append_drop, Array.toArray_toList]
    rw [setRow_self w g cur ty fz hg]
    rfl
  | v :: rest, i, cur, w, hg, hfz, hl, h1 => by
    have hi : o + i < cur.size := by simp at hl; omega
    have hadd : (⟨g, o, none⟩ : Addr).add i = ⟨g, o + i, none⟩ := by unfold Addr.add; split <;> simp_all
    have hcell : w.cell? ⟨g, o + i, none⟩ = some cur[o + i] := by simp [World.cell?, hg, hi]
    have hfro : w.frozen? ⟨g, o + i, none⟩ = false := by
      have := hfz (o + i) hi
      obtain ⟨lo, hi'⟩ := fz
      simp only [World.frozen?, hg]
      simp only at this
      by_cases h1 : lo ≤ o + i <;> by_cases h2 : o + i < hi' <;> simp_all
    have hst : (store ((⟨g, o, none⟩ : Addr).add i) v).run P w = .ok () (w.setRow g (cur.setIfInBounds (o + i) v)) := by
      rw [hadd, run_store P w _ v _ (h1 v (by simp)), hcell]
      simp [hfro, setCell_eq_setRow w g (o + i) cur ty fz v hg]
    have ih := run_storeNF g o ty fz rest (i + 1) (cur.setIfInBounds (o + i) v) (w.setRow g (cur.setIfInBounds (o + i) v)) (setRow_heap w g cur _ ty _ hg) (by simpa using hfz) (by simp at hl ⊢; omega) (fun x hx => h1 x (by simp [hx]))
    simp only [storeCells, Sem.run_bind, hst, Result.andThen_ok, ih, setRow_setRow]
    congr 3
    have e := list_seg_step cur.toList (o + i) v rest (by simp at hl ⊢; omega)
    simpa [Array.toList_setIfInBounds, Nat.add_assoc] using e
/-- The cells behind a write. -/
theorem write_cells {cs xs : List CV} {c : Array Value} {us : List Value} (hc : CellsOk ρ cs c) (hu : denL ρ xs = some us) {off : Nat} (hle : off ≤ cs.length) (hfit : off + us.length ≤ c.size) :
    CellsOk ρ (writeC cs off xs) (c.toList.take off ++ us ++ c.toList.drop (off + us.length)).toArray := fun i v hi => by
  have hl := denL_len hu
  rw [List.getElem?_toArray, XE.splice_get c.toList us off us.length rfl (by simpa using hfit)]
  unfold writeC at hi
  rw [List.append_assoc] at hi
  by_cases h1 : i < off
  · rw [List.getElem?_append_left (by simp; omega), List.getElem?_take, if_pos h1] at hi
    rw [if_neg (by omega)]
    obtain ⟨u, k1, k2⟩ := hc i v hi
    exact ⟨u, k1, by simpa using k2⟩
  · have ht : (cs.take off).length = off := by simp; omega
    rw [List.getElem?_append_right (by omega), ht] at hi
    by_cases h2 : i < off + us.length
    · rw [List.getElem?_append_left (by omega)] at hi
      rw [if_pos ⟨by omega, h2⟩]
      obtain ⟨u, k1, k2⟩ := denL_get hu _ v hi
      exact ⟨u, k2, k1⟩
    · rw [List.getElem?_append_right (by omega), List.getElem?_drop] at hi
      rw [if_neg (by omega)]
      rw [show off + xs.length + (i - off - xs.length) = i by omega] at hi
      obtain ⟨u, k1, k2⟩ := hc i v hi
      exact ⟨u, k1, by simpa using k2⟩
theorem writeC_len {cs xs : List CV} {off : Nat} (h : off + xs.length ≤ cs.length) : (writeC cs off xs).length = cs.length := by
  unfold writeC; simp; omega
/-- Cells of a block are overwritten. -/
theorem HRel.over (h : HRel B ρ s w) {b : Nat} {k : Blk} {r : Nat × Nat} (hk : s.blk b = some k) (hr : ρ b = some r) (hf : k.fz = false) {xs : List CV} {us : List Value} (hu : denL ρ xs = some us) {off : Nat} (hfit : off + xs.length ≤ k.cs.length) (h1 : ∀ u ∈ us, u.oneCell' = true) :
    ∃ c', (storeCells ⟨r.1, off, none⟩ us 0).run P w = .ok () (w.setRow r.1 c') ∧ HRel B ρ (s.put b (some { k with cs := writeC k.cs off xs })) (w.setRow r.1 c') := by
  obtain ⟨c, f, hb⟩ := h.blk b k r hk hr
  have hl := denL_len hu
  have hle := h.len hk hr
  obtain ⟨hnf, hown⟩ := hb.own hf
  have hsz := hb.size
  have hst := run_storeNF (P := P) r.1 off k.ty f us 0 c w hb.at_ (by rw [hsz]; exact hnf) (by omega) h1
  refine ⟨_, hst, h.write hk hr hf (k' := { k with cs := writeC k.cs off xs }) rfl (setRow_heap w r.1 c _ k.ty f hb.at_) ?_ (fun x hx => setRow_other w r.1 x _ hx) (by simp) ?_ (fun _ => hnf) ?_⟩
  · simp; omega
  · intro he
    rw [← hb.ex he]
    exact writeC_len hfit
  · have := write_cells hb.cells hu (off := off) (by omega) (by omega)
    simpa using this
theorem store_go (h : HRel B ρ s w) (r : TRel ρ t a) {ty : TypeId} {x y : Operand} (ho : o.op = .store ty x y) (he : storeC P s ty (ev t x) (ev t y) = some s') : OpGo P B ρ s w a o (.at undef) s' := by
  have hx := ev_ok r x
  have hy := ev_ok r y
  generalize ev t x = X at he hx
  generalize ev t y = Y at he hy
  unfold storeC at he
  split at he
  · rename_i b off n hs
    obtain ⟨q, hq, e⟩ := den_ptr hx
    split at he
    · rename_i k hk
      cases hc : (!k.fz && Nat.beq (cellsC Y).length n && Nat.ble (off + n) k.cs.length && (cellsC Y).all isCell) with
      | false => rw [hc] at he; cases he
      | true =>
        rw [hc] at he
        cases he
        simp only [Bool.and_eq_true, Bool.not_eq_true', Nat.ble_eq] at hc
        obtain ⟨⟨⟨c1, c2⟩, c3⟩, c4⟩ := hc
        replace c2 := Nat.eq_of_beq_eq_true c2
        have hd := den_cells hy
        obtain ⟨c', k3, k2⟩ := h.over (P := P) hk hq c1 hd (off := off) (by omega) (denL_isCell hd c4)
        have hl : (a.eval y).cells.size = n := by have := denL_len hd; simp at this; omega
        refine ⟨.skip, undef, _, ρ, ?_, .inr ⟨rfl, rfl⟩, rfl, k2, .refl _ _⟩
        simp [execOp, ho, e, Instr.storeAt, Instr.sureAddr, storeVar, sz_run hs, hl, k3]
    · cases he
  · cases he

/-! ### Places -/
theorem fieldAddr_go (h : HRel B ρ s w) (r : TRel ρ t a) {ty : TypeId} {x : Operand} {f : Nat} (ho : o.op = .fieldAddr ty x f) (he : fieldAddrC P ty (ev t x) f = some v) : OpGo P B ρ s w a o v s := by
  have hx := ev_ok r x
  generalize ev t x = X at he hx
  unfold fieldAddrC at he
  split at he
  · rename_i fs b off hu
    obtain ⟨q, hq, e⟩ := den_ptr hx
    split at he
    · rename_i fd hfd
      split at he
      · rename_i z hz
        cases he
        refine OpGo.val h (u := .pointer (some ⟨q.1, off + fd.offset, none⟩)) ?_ (by simp [den, hq])
        simp [execOp, ho, e, Instr.fieldAt, Instr.sureAddr, run_underlying hu, hfd, fieldPlace, sz_run hz, XE.add_mk]
      · cases he
    · cases he
  · cases he
theorem indexAddr_go (h : HRel B ρ s w) (r : TRel ρ t a) {ty : TypeId} {x y : Operand} (ho : o.op = .indexAddr ty x y) (he : indexAddrC P s ty (ev t x) (ev t y) = some v) : OpGo P B ρ s w a o v s := by
  have hx := ev_ok r x
  have hy := ev_ok r y
  generalize ev t x = X at he hx
  generalize ev t y = Y at he hy
  unfold indexAddrC at he
  split at he
  · rename_i n et b off i hu hi
    obtain ⟨q, hq, e⟩ := den_ptr hx
    obtain ⟨kd, e2⟩ := intOf_eq hi hy
    split at he
    · rename_i z hz
      cases hc : (decide (0 ≤ i) && decide (i < n)) with
      | false => rw [hc] at he; cases he
      | true =>
        rw [hc] at he
        cases he
        simp only [Bool.and_eq_true, decide_eq_true_eq] at hc
        refine OpGo.val h (u := .pointer (some ⟨q.1, off + i.toNat * z, none⟩)) ?_ (by simp [den, hq])
        simp [execOp, ho, e, e2, Instr.indexAt, Instr.sureAddr, asIntOf, run_underlying hu, hc.1, hc.2, sz_run hz, XE.add_mk]
    · cases he
  · rename_i et b off n e' i hu hi
    obtain ⟨q, hq, g1, g2, g3, e⟩ := den_sl hx
    obtain ⟨kd, e2⟩ := intOf_eq hi hy
    split at he
    · rename_i z hz
      cases hc : (Nat.beq z e' && decide (0 ≤ i) && decide (i < n)) with
      | false => rw [hc] at he; cases he
      | true =>
        rw [hc] at he
        cases he
        simp only [Bool.and_eq_true, decide_eq_true_eq] at hc
        refine OpGo.val h (u := .pointer (some ⟨q.1, off + i.toNat * z, none⟩)) ?_ (by simp [den, hq])
        simp [execOp, ho, e, e2, Instr.indexAt, asIntOf, run_underlying hu, hc.1.2, hc.2, sz_run hz, XE.add_mk]
    · cases he
  · rename_i et k n i hu hi
    simp only [den, Option.bind_eq_some_iff, Option.map_eq_some_iff] at hx
    obtain ⟨p, hp, q, hq, e⟩ := hx
    obtain ⟨kd, e2⟩ := intOf_eq hi hy
    split at he
    · rename_i hz
      cases hc : (decide (0 ≤ i) && decide (i < n)) with
      | false => rw [hc] at he; cases he
      | true =>
        rw [hc] at he
        cases he
        simp only [Bool.and_eq_true, decide_eq_true_eq] at hc
        refine OpGo.val h (u := .pointer (some ⟨p.1, p.2 + i.toNat * 1, none⟩)) ?_ (by simp [den, hp])
        simp [execOp, ho, ← e, e2, Instr.indexAt, asIntOf, run_underlying hu, hc.1, hc.2, sz_run hz, XE.add_mk]
    · cases he
  · rename_i n et g i hu hi
    have e := Option.some.inj (show some _ = some _ from hx)
    obtain ⟨kd, e2⟩ := intOf_eq hi hy
    split at he
    · rename_i k hz hk
      cases hc : (decide (0 ≤ i) && decide (i < n)) with
      | false => rw [hc] at he; cases he
      | true =>
        rw [hc] at he
        cases he
        simp only [Bool.and_eq_true, decide_eq_true_eq] at hc
        refine OpGo.val h (u := .pointer (some ⟨g, 0 + i.toNat * 1, none⟩)) ?_ (by simp [den, h.gl.n g k hk])
        simp [execOp, ho, ← e, e2, Instr.indexAt, Instr.sureAddr, asIntOf, run_underlying hu, hc.1, hc.2, sz_run hz, XE.add_mk]
    · cases he
  · cases he
theorem field_go (h : HRel B ρ s w) (r : TRel ρ t a) {ty : TypeId} {x : Operand} {f : Nat} (ho : o.op = .field ty x f) (he : (match at1 P s (fun a => Instr.field ty a f) (ev t x) with | some r => some r | none => (fieldC P ty f (ev t x)).map fun v => (v, s)) = some (v, s')) : OpGo P B ρ s w a o v s' := by
  have hx := ev_ok r x
  generalize ev t x = X at he hx
  split at he
  · rename_i q hq
    cases he
    obtain ⟨u, h1, rfl, rfl⟩ := pure1 hq hx
    exact OpGo.val h (by simp [execOp, ho, h1]) rfl
  · rename_i hno
    clear hno
    simp only [Option.map_eq_some_iff] at he
    obtain ⟨v', he, e⟩ := he
    cases e
    unfold fieldC at he
    split at he
    · rename_i fs l hu
      simp only [den, Option.map_eq_some_iff] at hx
      obtain ⟨us, hus, e⟩ := hx
      split at he
      · rename_i fd hfd
        obtain ⟨u, h1, h2⟩ := part_ok he hus w
        refine OpGo.val h (u := u) ?_ h1
        simp [execOp, ho, ← e, Instr.field, run_underlying hu, hfd, asAgg, h2]
      · cases he
    · cases he
theorem index_go (h : HRel B ρ s w) (r : TRel ρ t a) {ty : TypeId} {x y : Operand} (ho : o.op = .index ty x y) (he : (match at2 P s (fun a b => Instr.index ty a b) (ev t x) (ev t y) with | some r => some r | none => (indexC P ty (ev t x) (ev t y)).map fun v => (v, s)) = some (v, s')) : OpGo P B ρ s w a o v s' := by
  have hx := ev_ok r x
  have hy := ev_ok r y
  generalize ev t x = X at he hx
  generalize ev t y = Y at he hy
  split at he
  · rename_i q hq
    cases he
    obtain ⟨u, h1, rfl, rfl⟩ := pure2 hq hx hy
    exact OpGo.val h (by simp [execOp, ho, h1]) rfl
  · rename_i hno
    clear hno
    simp only [Option.map_eq_some_iff] at he
    obtain ⟨v', he, e⟩ := he
    cases e
    unfold indexC at he
    split at he
    · rename_i n et l i hu hi
      simp only [den, Option.map_eq_some_iff] at hx
      obtain ⟨us, hus, e⟩ := hx
      obtain ⟨kd, e2⟩ := intOf_eq hi hy
      split at he
      · rename_i z hz
        cases hc : (decide (0 ≤ i) && decide (i < n)) with
        | false => rw [hc] at he; cases he
        | true =>
          rw [hc] at he
          simp only [Bool.and_eq_true, decide_eq_true_eq] at hc
          obtain ⟨u, h1, h2⟩ := part_ok he hus w
          refine OpGo.val h (u := u) ?_ h1
          simp [execOp, ho, ← e, e2, Instr.index, asIntOf, run_underlying hu, hc.1, hc.2, sz_run hz, h2]
      · cases he
    · cases he

/-! ### Slices -/
theorem bound_ok {d m : Nat} {z : Option Operand} {n : Nat} {code : BoundsCode} (r : TRel ρ t a) (h : boundC d (z.map (ev t)) = some n) (hn : n ≤ m) (w : World) :
    (match z.map a.eval with | some q => Instr.sliceBound q m code | none => pure d).run P w = .ok n w := by
  cases z with
  | none => cases h; rfl
  | some q =>
    simp only [Option.map_some, boundC] at h ⊢
    split at h
    · rename_i i hi
      cases hc : decide (0 ≤ i) with
      | false => rw [hc] at h; cases h
      | true =>
        rw [hc] at h
        cases h
        obtain ⟨kd, e⟩ := intOf_eq hi (ev_ok r q)
        have h0 : 0 ≤ i := by simpa using hc
        have h1 : i ≤ m := by omega
        simp [Instr.sliceBound, e, asIntOf, h0, h1]
    · cases h
theorem sliceAt_go (h : HRel B ρ s w) (r : TRel ρ t a) {ty : TypeId} {x : Operand} {lo hi mx : Option Operand} (ho : o.op = .slice ty x lo hi mx) (he : sliceC P s ty (ev t x) (lo.map (ev t)) (hi.map (ev t)) (mx.map (ev t)) = some v) : OpGo P B ρ s w a o v s := by
  have hx := ev_ok r x
  generalize ev t x = X at he hx
  unfold sliceC at he
  cases mx with
  | some q => cases he
  | none =>
    simp only [Option.map_none] at he
    split at he
    · rename_i et b off n e' hu
      obtain ⟨q, hq, g1, g2, g3, e⟩ := den_sl hx
      split at he
      · rename_i z l k hz hl hk
        cases hc : (Nat.beq z e' && Nat.ble l k && Nat.ble k n) with
        | false => rw [hc] at he; cases he
        | true =>
          rw [hc] at he
          simp only [Bool.and_eq_true, Nat.ble_eq] at hc
          obtain ⟨⟨c1, c2⟩, c3⟩ := hc
          replace c1 := Nat.eq_of_beq_eq_true c1
          subst c1
          have hcap : n ≤ (q.2 - off) / z := by
            rw [Nat.le_div_iff_mul_le g1]; omega
          have hb : (Instr.sliceBounds true n ((q.2 - off) / z) (lo.map a.eval) (hi.map a.eval) none).run P w = .ok (l, k, (q.2 - off) / z) w := by
            have hk' : (match hi.map a.eval with | some v => Instr.sliceBound v ((q.2 - off) / z) BoundsCode.sliceAcap | none => pure n : Sem Nat).run P w = .ok k w := bound_ok r hk (by omega) w
            have hl' : (match lo.map a.eval with | some v => Instr.sliceBound v k BoundsCode.sliceB | none => pure 0 : Sem Nat).run P w = .ok l w := bound_ok r hl c2 w
            unfold Instr.sliceBounds
            cases hi with
            | none =>
              cases lo with
              | none => simp_all
              | some _ => simp_all
            | some _ =>
              cases lo with
              | none => simp_all
              | some _ => simp_all
          have hrun : (execOp a.eval o).run P w = .ok (.value (.slice (if (q.2 - off) / z = l then some ⟨q.1, off, none⟩ else some ⟨q.1, off + l * z, none⟩) (k - l) ((q.2 - off) / z - l))) w := by
            simp only [execOp, ho, e, Instr.sliceAt, Instr.slice, Sem.run_bind, run_underlying hu, Result.andThen_ok, Option.map_none, hb, sz_run hz]
            by_cases hcl : (q.2 - off) / z = l <;> simp [hcl, XE.add_mk]
          cases hd : (Nat.beq l 0 || Nat.blt l n) with
          | true =>
            rw [hd] at he
            cases he
            simp only [Bool.or_eq_true, Nat.blt_eq] at hd
            refine OpGo.val h hrun ?_
            have ha : (if (q.2 - off) / z = l then some (⟨q.1, off, none⟩ : Addr) else some ⟨q.1, off + l * z, none⟩) = some ⟨q.1, off + l * z, none⟩ := by
              split
              · rcases hd with h0 | h0
                · have := Nat.eq_of_beq_eq_true h0; subst this; simp
                · omega
              · rfl
            rw [ha]
            have hlz : off + l * z ≤ q.2 := by
              have : l * z ≤ n * z := Nat.mul_le_mul_right _ (by omega)
              omega
            have e1 : (q.2 - (off + l * z)) % z = 0 := by
              rw [← Nat.sub_sub]
              obtain ⟨j, hj⟩ := Nat.dvd_of_mod_eq_zero g3
              rw [hj, Nat.mul_comm l z, ← Nat.mul_sub]
              exact Nat.mul_mod_right _ _
            have e2 : (q.2 - (off + l * z)) / z = (q.2 - off) / z - l := by
              rw [← Nat.sub_sub, Nat.mul_comm l z, Nat.sub_mul_div]
            rw [← e2]
            refine sl_den hq g1 ?_ e1
            have : off + l * z + (k - l) * z = off + k * z := by
              rw [Nat.add_assoc, ← Nat.add_mul, show l + (k - l) = k by omega]
            have hkz : k * z ≤ n * z := Nat.mul_le_mul_right _ c3
            omega
          | false =>
            rw [hd] at he
            cases he
            simp only [Bool.or_eq_false_iff] at hd
            have hln : l = n := by
              have : ¬ l < n := fun h => by rw [show Nat.blt l n = true by rw [Nat.blt_eq]; exact h] at hd; cases hd.2
              omega
            have hkl : k = l := by omega
            refine OpGo.val h hrun ?_
            subst hln
            subst hkl
            simp only [den, hq, Option.bind_some, Nat.sub_self]
            rw [if_pos ⟨g1, g2, g3⟩]
            split <;> rfl
      · cases he
    · rename_i n et b off hu
      obtain ⟨q, hq, e⟩ := den_ptr hx
      split at he
      · rename_i z l k kb hz hl hk hkb
        cases hc : (kb.ex && Nat.beq kb.cs.length (off + n * z) && Nat.blt 0 z && Nat.ble l k && Nat.ble k n && Nat.blt l n) with
        | false => rw [hc] at he; cases he
        | true =>
          rw [hc] at he
          cases he
          simp only [Bool.and_eq_true, Nat.ble_eq, Nat.blt_eq] at hc
          obtain ⟨⟨⟨⟨⟨c1, c2⟩, c3⟩, c4⟩, c5⟩, c6⟩ := hc
          replace c2 := Nat.eq_of_beq_eq_true c2
          obtain ⟨c, f, hB⟩ := h.blk b kb q hkb hq
          have hsz := hB.ex c1
          have hb : (Instr.sliceBounds false n n (lo.map a.eval) (hi.map a.eval) none).run P w = .ok (l, k, n) w := by
            have hk' : (match hi.map a.eval with | some v => Instr.sliceBound v n BoundsCode.sliceAlen | none => pure n : Sem Nat).run P w = .ok k w := bound_ok r hk c5 w
            have hl' : (match lo.map a.eval with | some v => Instr.sliceBound v k BoundsCode.sliceB | none => pure 0 : Sem Nat).run P w = .ok l w := bound_ok r hl c4 w
            unfold Instr.sliceBounds
            cases hi with
            | none =>
              cases lo with
              | none => simp_all
              | some _ => simp_all
            | some _ =>
              cases lo with
              | none => simp_all
              | some _ => simp_all
          have hnl : ¬ n = l := by omega
          have hm : l * z + (n - l) * z = n * z := by rw [← Nat.add_mul, show l + (n - l) = n by omega]
          refine OpGo.val h (u := .slice (some ⟨q.1, off + l * z, none⟩) (k - l) (n - l)) ?_ ?_
          · simp [execOp, ho, e, Instr.sliceAt, Instr.sureAddr, run_underlying hu, hb, sz_run hz, hnl, XE.add_mk]
          · have e3 : q.2 - (off + l * z) = (n - l) * z := by omega
            have := sl_den hq (b := b) (o := off + l * z) (n := k - l) (e := z) c3 (by
              have : (k - l) * z ≤ (n - l) * z := Nat.mul_le_mul_right _ (by omega)
              omega) (by rw [e3, Nat.mul_mod_left])
            rw [this, e3, Nat.mul_div_cancel _ c3]
      · cases he
    · cases he
theorem pureSlice_go (h : HRel B ρ s w) (r : TRel ρ t a) {ty : TypeId} {x : Operand} {lo hi mx : Option Operand} (ho : o.op = .slice ty x lo hi mx) (he : at1 P s (sliceF ty (lo.map fun y => toVal (ev t y)) (hi.map fun y => toVal (ev t y)) mx) (ev t x) = some (v, s')) : OpGo P B ρ s w a o v s' := by
  obtain ⟨u, h1, rfl, rfl⟩ := pure1 he (ev_ok r x)
  have ex : ∀ z : Operand, ∀ q, toVal (ev t z) = some q → a.eval z = q := fun z q hq => by
    have h1 := toVal_den ρ hq
    rw [ev_ok r z] at h1
    exact Option.some.inj h1
  refine OpGo.val h (u := u) ?_ rfl
  have h2 := h1 w
  unfold sliceF at h2
  cases mx with
  | some q => revert h2; cases lo <;> cases hi <;> simp <;> split <;> simp_all [Sem.run]
  | none =>
    have h3 : (Instr.sliceAt ty (a.eval x) (lo.map a.eval) (hi.map a.eval) none).run P w = .ok u w := by
      cases lo with
      | none =>
        cases hi with
        | none => simpa using h2
        | some q =>
          cases hq : toVal (ev t q) with
          | none => simp [hq, Sem.run] at h2
          | some z => simpa [hq, ex q z hq] using h2
      | some p =>
        cases hp : toVal (ev t p) with
        | none => cases hi <;> simp [hp, Sem.run] at h2
        | some y =>
          cases hi with
          | none => simpa [hp, ex p y hp] using h2
          | some q =>
            cases hq : toVal (ev t q) with
            | none => simp [hp, hq, Sem.run] at h2
            | some z => simpa [hp, hq, ex p y hp, ex q z hq] using h2
    simp [execOp, ho, h3]
end
end Go.XR
