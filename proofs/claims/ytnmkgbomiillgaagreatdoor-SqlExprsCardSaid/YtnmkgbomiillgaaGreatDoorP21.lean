/- Part 21 of the proof. -/
import Derived.Test.YtnmkgbomiillgaaGreatDoorP19
import Derived.Test.YtnmkgbomiillgaaGreatDoorP20
/- The concrete evaluator over the program: isTree by its contract. -/
namespace Go.XR
open Proofs
section
variable {B w w' : World} {ρ ρ' : Pm} {s s' : VS} {v : CV}
def intsC : List CV → Option (List Int)
  | [] => some []
  | .at (.int .i64 z) :: r => (intsC r).map fun l => z :: l
  | _ => none
def argsOfC (s : VS) : CV → Option (List Int)
  | .at (.slice none 0 0) => some []
  | .sl b o n 1 => match s.blk b with
    | some k => cond (Nat.ble (o + n) k.cs.length && Nat.ble n 1000) (intsC ((k.cs.drop o).take n)) none
    | none => none
  | _ => none
def nodesC (s : VS) : List CV → Option (List (List Int))
  | [] => some []
  | .at (.int .i64 _) :: .at (.int .i64 _) :: .at (.int .i64 _) :: .at (.string _) :: .at (.string _) :: a :: r => match argsOfC s a, nodesC s r with
    | some zs, some l => some (zs :: l)
    | _, _ => none
  | _ => none
def treeC (ft : FuncId) (f : FuncId) (args : List CV) (s : VS) : Option Res :=
  cond (Nat.beq f ft) (match args with
    | [.sl b o n 6] => match s.blk b with
      | some k => cond (Nat.ble (o + n * 6) k.cs.length && Nat.blt 0 n && Nat.ble n 1000) (match nodesC s ((k.cs.drop o).take (n * 6)) with
        | some zss => cond (zss.all fun zs => zs.all fun z => decide (0 ≤ z) && decide (z < n)) (some (some (.at (.bool (Tryz.treeF zss)), s))) none
        | none => none) none
      | none => none
    | _ => none) none
theorem ints_ok : ∀ {l : List CV} {zs : List Int} {us : List Value}, intsC l = some zs → denL ρ l = some us → us = zs.map (.int .i64)
  | [], zs, us, h, k => by cases h; cases k; rfl
  | x :: r, zs, us, h, k => by
    unfold intsC at h
    split at h
    · rename_i e; cases e
    · rename_i z r' e
      cases e
      simp only [Option.map_eq_some_iff] at h
      obtain ⟨l, h1, rfl⟩ := h
      simp only [denL, den, Option.bind_some, Option.map_eq_some_iff] at k
      obtain ⟨us', k1, rfl⟩ := k
      rw [ints_ok h1 k1]; rfl
    · cases h
theorem argsOf_ok (h : HRel B ρ s w) {a : CV} {zs : List Int} {u : Value} (ha : argsOfC s a = some zs) (hd : den ρ a = some u) : ∃ sa sl sc, u = .slice sa sl sc ∧ Tryz.Ints w (.slice sa sl sc) zs ∧ zs.length ≤ 1000 := by
  unfold argsOfC at ha
  split at ha
  · cases ha
    cases hd
    exact ⟨none, 0, 0, rfl, .inl ⟨⟨_, _, rfl⟩, rfl⟩, by simp⟩
  · rename_i b o n
    split at ha
    · rename_i k hk
      cases hb : (Nat.ble (o + n) k.cs.length && Nat.ble n 1000) with
      | false => rw [hb] at ha; cases ha
      | true =>
        rw [hb] at ha
        simp only [Bool.and_eq_true] at hb
        have hn := Nat.le_of_ble_eq_true hb.2
        obtain ⟨r, hr, g1, g2, g3, rfl⟩ := den_sl hd
        obtain ⟨us, h1, h2, h3⟩ := h.read hk hr (Nat.le_of_ble_eq_true hb.1)
        have hus := ints_ok ha h1
        have hlen : zs.length = n := by rw [← h2, hus]; simp
        refine ⟨some ⟨r.1, o, none⟩, n, (r.2 - o) / 1, rfl, .inr ⟨r.1, o, (r.2 - o) / 1, by rw [hlen], h.low b r hr, fun j hj => h3 j _ ?_⟩, by omega⟩
        rw [hus]
        simp [hj]
    · cases ha
  · cases ha
theorem nodes_ok (h : HRel B ρ s w) : ∀ (n : Nat) {l : List CV} {zss : List (List Int)} {us : List Value}, l.length ≤ n → nodesC s l = some zss → denL ρ l = some us →
    ∃ es : List Tryz.Nd, us = es.flatMap Tryz.Nd.cells ∧ es.map (·.zs) = zss ∧ ∀ x ∈ es, Tryz.Ints w (.slice x.sa x.sl x.sc) x.zs ∧ x.zs.length ≤ 1000
  | 0, l, zss, us, hn, hl, hd => by
    cases l with
    | nil => cases hl; cases hd; exact ⟨[], rfl, rfl, fun x hx => by cases hx⟩
    | cons x r => simp at hn
  | n + 1, l, zss, us, hn, hl, hd => by
    unfold nodesC at hl
    split at hl
    · cases hl; cases hd; exact ⟨[], rfl, rfl, fun x hx => by cases hx⟩
    · rename_i k1 k2 k3 f t a r
      split at hl
      · rename_i zs l' h1 h2
        cases hl
        simp only [denL, den, Option.bind_some, Option.map_eq_some_iff, Option.bind_eq_some_iff] at hd
        obtain ⟨_, ⟨_, ⟨_, ⟨_, ⟨_, ⟨u, hu, us', hr, rfl⟩, rfl⟩, rfl⟩, rfl⟩, rfl⟩, rfl⟩ := hd
        obtain ⟨sa, sl, sc, rfl, hi, hz⟩ := argsOf_ok h h1 hu
        obtain ⟨es, e1, e2, e3⟩ := nodes_ok h n (by simp at hn; omega) h2 hr
        refine ⟨⟨k1, k2, k3, f, t, sa, sl, sc, zs⟩ :: es, by rw [e1]; rfl, by rw [List.map_cons, e2], fun x hx => ?_⟩
        rcases List.mem_cons.1 hx with rfl | hx
        · exact ⟨hi, hz⟩
        · exact e3 x hx
      · cases hl
    · cases hl
theorem flat_get : ∀ (es : List Tryz.Nd) (i : Nat) (x : Tryz.Nd), es[i]? = some x → ∀ (j : Nat) (v : Value), x.cells[j]? = some v → (es.flatMap Tryz.Nd.cells)[i * 6 + j]? = some v
  | [], i, x, h, _, _, _ => by cases h
  | y :: es, 0, x, h, j, v, hj => by
    cases h
    have hlt := (List.getElem?_eq_some_iff.1 hj).1
    rw [List.flatMap_cons, Nat.zero_mul, Nat.zero_add, List.getElem?_append_left hlt]; exact hj
  | y :: es, i + 1, x, h, j, v, hj => by
    have := flat_get es i x (by simpa using h) j v hj
    rw [List.flatMap_cons, List.getElem?_append_right (by simp [Tryz.Nd.cells]; omega)]
    rw [← this]
    congr 1
    simp [Tryz.Nd.cells]; omega
theorem tree_ok : OrcOk Tryz.prog B (treeC 20) := fun f args s v s' he => by
  unfold treeC at he
  cases hf : Nat.beq f 20 with
  | false => rw [hf] at he; cases he
  | true =>
    rw [hf, cond_true] at he
    have ef := Nat.eq_of_beq_eq_true hf
    subst ef
    split at he
    · rename_i b o n
      split at he
      · rename_i k hk
        cases hb : (Nat.ble (o + n * 6) k.cs.length && Nat.blt 0 n && Nat.ble n 1000) with
        | false => rw [hb] at he; cases he
        | true =>
          rw [hb, cond_true] at he
          simp only [Bool.and_eq_true, Nat.ble_eq, Nat.blt_eq] at hb
          obtain ⟨⟨hb1, hb2⟩, hb3⟩ := hb
          split at he
          · rename_i zss hz
            cases ha : (zss.all fun zs => zs.all fun z => decide (0 ≤ z) && decide (z < n)) with
            | false => rw [ha] at he; cases he
            | true =>
              rw [ha] at he
              cases he
              refine ⟨.refl _, fun ρ w us hr hd => ?_⟩
              simp only [denL, Option.bind_eq_some_iff, Option.map_eq_some_iff] at hd
              obtain ⟨u, hu, y, hy, rfl⟩ := hd
              cases hy
              obtain ⟨r, hr1, g1, g2, g3, rfl⟩ := den_sl hu
              obtain ⟨vs, h1, h2, h3⟩ := hr.read hk hr1 hb1
              obtain ⟨es, e1, e2, e3⟩ := nodes_ok hr _ (Nat.le_refl _) hz h1
              have hlen : es.length = n := by
                have : vs.length = es.length * 6 := by
                  rw [e1]
                  clear e1 e2 e3
                  induction es with
                  | nil => rfl
                  | cons x es ih => rw [List.flatMap_cons, List.length_append, ih]; simp [Tryz.Nd.cells]; omega
                omega
              have hN : Tryz.NodesAt w r.1 o es := by
                refine ⟨hr.low b r hr1, fun i x hi => ⟨fun j v hj => ?_, ?_⟩⟩
                · have := flat_get es i x hi j v hj
                  rw [← e1] at this
                  rw [Nat.add_assoc]
                  exact h3 _ _ this
                · have := e3 x (List.mem_of_getElem? hi)
                  exact ⟨this.1, by omega⟩
              have hcall := Tryz.isTree_calls r.1 o ((r.2 - o) / 6) es (by omega) (by omega) (fun i x hi z hz => by
                rw [List.all_eq_true] at ha
                have h4 := ha x.zs (by rw [← e2]; exact List.mem_map_of_mem (List.mem_of_getElem? hi))
                rw [List.all_eq_true] at h4
                have h5 := h4 z hz
                simp only [Bool.and_eq_true, decide_eq_true_eq] at h5
                rw [hlen]; exact h5) w hN
              rw [hlen, e2] at hcall
              refine .enter ?_ (hcall.mono fun e w' ⟨he, hb⟩ => ⟨_, ρ, he, rfl, hr.grow hb.size hb.block ⟨hb.os, hb.output⟩, .refl _ _⟩)
              exact enters_of Tryz.func20 (by kernel_rfl) rfl _ _
          · cases he
      · cases he
    · cases he
end
end Go.XR
