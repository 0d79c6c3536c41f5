/- Part 18 of the proof. -/
import Derived.Test.YtnmkgbomiillgaaGreatDoorP17
import Derived.Test.YtnmkgbomiillgaaGreatDoorP11
/- The concrete evaluator: regions whose order is drawn, in any order. -/
namespace Go.XR
section
variable {P : Program} {B w w' : World} {ρ ρ' : Pm} {s s' : VS} {t t' : Tr CV} {a : Act} {o : Oper} {v x y : CV} {callF : FuncId → List CV → VS → Res}

theorem waits_back {all : List Oper} (hb : ∀ (i : Nat) (o : Oper), all[i]? = some o → ∀ e ∈ o.after.toList, Region.binds .any e = true → e.on < i) : ∀ i j, Nat.testBit ((XE.waitMasks all []).getD i 0) j = true → j < i := by
  intro i
  induction i using Nat.strongRecOn with
  | _ i ih =>
    intro j hj
    cases ho : all[i]? with
    | none =>
      exfalso
      have hl : (XE.waitMasks all []).length = all.length := by
        have : ∀ (l : List Oper) (acc : List Nat), (XE.waitMasks l acc).length = acc.length + l.length := by
          intro l
          induction l with
          | nil => intro acc; simp [XE.waitMasks]
          | cons o r ih => intro acc; simp only [XE.waitMasks]; rw [ih]; simp; omega
        simpa using this all []
      rw [List.getD_eq_getElem?_getD, List.getElem?_eq_none (by rw [hl]; exact List.getElem?_eq_none_iff.1 ho)] at hj
      simp at hj
    | some o =>
      obtain ⟨e, e1, e2, e3⟩ := XE.masks_ok all [] i o ho j (by simpa using hj)
      have h1 := hb i o ho e e1 e2
      rcases e3 with rfl | e3
      · exact h1
      · have := ih e.on h1 j e3; omega
theorem fids_ok : ∀ (l : List Oper) (n : Nat), (fidsC l n).length = l.length ∧ (∀ (i b : Nat), ((fidsC l n)[i]?).join = some b → n ≤ b ∧ b < (floatsC P l s).next + n - s.next) ∧ s.next ≤ (floatsC P l s).next ∧ ∀ (i i' b : Nat), i < i' → ((fidsC l n)[i]?).join = some b → ((fidsC l n)[i']?).join ≠ some b := by
  intro l
  induction l generalizing s with
  | nil => exact fun n => ⟨rfl, fun i b h => by simp [fidsC] at h, Nat.le_refl _, fun i i' b _ h => by simp [fidsC] at h⟩
  | cons o r ih =>
    intro n
    have other : (∀ et, o.op ≠ .alloc et) → fidsC (o :: r) n = none :: fidsC r n ∧ floatsC P (o :: r) s = floatsC P r s := fun h => by
      constructor
      · simp only [fidsC]
        all_goals (split <;> first | (rename_i e; exact absurd e (h _)) | rfl)
      · simp only [floatsC]
        all_goals (split <;> first | (rename_i e; exact absurd e (h _)) | rfl)
    by_cases hal : ∃ et, o.op = .alloc et
    · obtain ⟨et, ho⟩ := hal
      have e1 : fidsC (o :: r) n = some n :: fidsC r (n + 1) := by simp only [fidsC, ho]
      obtain ⟨s2, e2, e3⟩ : ∃ s2 : VS, floatsC P (o :: r) s = floatsC P r s2 ∧ s2.next = s.next + 1 := by
        simp only [floatsC, ho]
        refine ⟨_, rfl, ?_⟩
        split <;> rfl
      obtain ⟨h1, h2, h3, h4⟩ := ih (s := s2) (n + 1)
      rw [e1, e2]
      refine ⟨by simp [h1], fun i b hb => ?_, by omega, fun i i' b hi hb hb' => ?_⟩
      · cases i with
        | zero => simp at hb; omega
        | succ i => have := h2 i b (by simpa using hb); omega
      · cases i' with
        | zero => omega
        | succ i' =>
          cases i with
          | zero =>
            simp at hb
            have := h2 i' b (by simpa using hb')
            omega
          | succ i => exact h4 i i' b (by omega) (by simpa using hb) (by simpa using hb')
    · obtain ⟨e1, e2⟩ := other fun et h => hal ⟨et, h⟩
      obtain ⟨h1, h2, h3, h4⟩ := ih (s := s) n
      rw [e1, e2]
      refine ⟨by simp [h1], fun i b hb => ?_, h3, fun i i' b hi hb hb' => ?_⟩
      · cases i with
        | zero => simp at hb
        | succ i => exact h2 i b (by simpa using hb)
      · cases i' with
        | zero => omega
        | succ i' =>
          cases i with
          | zero => simp at hb
          | succ i => exact h4 i i' b (by omega) (by simpa using hb) (by simpa using hb')
theorem floats_rel : ∀ (l : List Oper) {s : VS}, HRel B ρ s w → HRel B ρ (floatsC P l s) w ∧ Ev s (floatsC P l s)
  | [], s, h => ⟨h, .refl _⟩
  | o :: r, s, h => by
    simp only [floatsC]
    split
    · split
      · obtain ⟨h1, h2⟩ := floats_rel r (h.virt (some ⟨_, _, true, false⟩))
        exact ⟨h1, (Ev.new _ _).trans h2⟩
      · obtain ⟨h1, h2⟩ := floats_rel r (h.virt none)
        exact ⟨h1, (Ev.new _ _).trans h2⟩
    · exact floats_rel r h
theorem floats_ev : ∀ (l : List Oper) {s : VS}, Ev s (floatsC P l s)
  | [], s => .refl _
  | o :: r, s => by
    simp only [floatsC]
    split
    · split
      · exact (Ev.new _ _).trans (floats_ev r)
      · exact (Ev.new _ _).trans (floats_ev r)
    · exact floats_ev r
/-- What is known of a region whose order is drawn. -/
structure DF (P : Program) (callF : FuncId → List CV → VS → Res) (all : List Oper) (fids : List (Option Nat)) (sts : List Stp) (H : List VS) (T : Nat → Tr CV) (S : Nat → VS) (nx : Nat) : Prop where
  len : sts.length = all.length
  step : ∀ (i : Nat) (o : Oper), all[i]? = some o → ∃ x, sts[i]? = some x ∧ x.t = T i ∧ stepC P callF all o (fids[i]?).join (T i) (S i) = some (x.v, S (i + 1)) ∧ T (i + 1) = putC (T i) o.dst x.v ∧ (x.eff = false → S (i + 1) = S i)
  heap : ∀ k, k ≤ all.length → H[countE (fun q => decide (q < k)) 0 sts]? = some (S k)
  num : H.length = countE (fun _ => true) 0 sts + 1
  back : ∀ (i : Nat) (o : Oper), all[i]? = some o → ∀ e ∈ o.after.toList, Region.binds .any e = true → e.on < i
  apart : ∀ (i : Nat) (o : Oper) (q : Nat) (o' : Oper), all[i]? = some o → all[q]? = some o' → q ≠ i → ∀ d, o'.dst = some d → o.dst ≠ some d ∧ (d ∈ slotsOf all o → Nat.testBit ((XE.waitMasks all []).getD i 0) q = true ∨ Nat.testBit ((XE.waitMasks all []).getD q 0) i = true)
  effs : ∀ (i q : Nat) (x y : Stp), sts[i]? = some x → x.eff = true → sts[q]? = some y → y.eff = true → q ≠ i → Nat.testBit ((XE.waitMasks all []).getD i 0) q = true ∨ Nat.testBit ((XE.waitMasks all []).getD q 0) i = true
  quiet : ∀ (i : Nat) (o : Oper) (x : Stp), all[i]? = some o → sts[i]? = some x → x.eff = false → ∀ (j : Nat) (h : VS), countE (fun q => Nat.testBit ((XE.waitMasks all []).getD i 0) q) 0 sts ≤ j → j + countE (fun q => Nat.testBit ((XE.waitMasks all []).getD q 0) i) 0 sts < H.length → H[j]? = some h → stepC P callF all o (fids[i]?).join (T i) h = some (x.v, h)
  fid : ∀ (i b : Nat), (fids[i]?).join = some b → nx ≤ b ∧ (∀ (j : Nat) (h : VS), H[j]? = some h → b < h.next) ∧ ∀ (i' b' : Nat), i' ≠ i → (fids[i']?).join = some b' → b' ≠ b
  next : ∀ (j : Nat) (h : VS), H[j]? = some h → nx ≤ h.next
theorem trace_next {all : List Oper} {fids : List (Option Nat)} (hC : CallOk P B callF) : ∀ {l : List Oper} {i : Nat} {t : Tr CV} {s : VS} {sts : List Stp} {hs : List VS} {t' : Tr CV} {s' : VS}, traceC P callF all fids i l t s = some (sts, hs, t', s') → Ev s s' ∧ ∀ h ∈ hs, s.next ≤ h.next
  | [], _, t, s, sts, hs, t', s', h => by cases h; exact ⟨.refl _, fun h hm => by cases hm⟩
  | o :: r, i, t, s, sts, hs, t', s', h => by
    simp only [traceC] at h
    split at h
    · rename_i v s1 hst
      split at h
      · rename_i st hs1 t1 s2 hr
        obtain ⟨h1, h2⟩ := trace_next hC hr
        have hev := stepC_ev hC hst
        cases hv : Nat.beq s.ver s1.ver with
        | true =>
          rw [hv] at h
          cases h
          exact ⟨hev.trans h1, fun q hq => Nat.le_trans hev.next (h2 q hq)⟩
        | false =>
          rw [hv] at h
          cases h
          refine ⟨hev.trans h1, fun q hq => ?_⟩
          rcases List.mem_cons.1 hq with rfl | hq
          · exact hev.next
          · exact Nat.le_trans hev.next (h2 q hq)
      · cases h
    · cases h
theorem draw_ev (hC : CallOk P B callF) {all : List Oper} (h : drawC P callF all t s = some (t', s')) : Ev s s' := by
  unfold drawC at h
  split at h
  · rename_i sts hs t1 s1 htr
    simp only [Bool.cond_eq_ite] at h
    split at h
    · cases h
      exact (floats_ev all).trans (trace_next hC htr).1
    · cases h
  · cases h
theorem draw_facts (hC : CallOk P B callF) {all : List Oper} (h : drawC P callF all t s = some (t', s')) : ∃ (sts : List Stp) (hs : List VS) (T : Nat → Tr CV) (S : Nat → VS), T 0 = t ∧ S 0 = floatsC P all s ∧ T all.length = t' ∧ S all.length = s' ∧ DF P callF all (fidsC all s.next) sts (floatsC P all s :: hs) T S s.next := by
  unfold drawC at h
  split at h
  · rename_i sts hs t1 s1 htr
    cases hc : (XE.backOnly all 0 && apartAll all (XE.waitMasks all []) 0 all && quietAll P callF all (fidsC all s.next) (XE.waitMasks all []) sts (floatsC P all s :: hs) 0 0 all sts) with
    | false => rw [hc] at h; cases h
    | true =>
      rw [hc] at h
      cases h
      simp only [Bool.and_eq_true] at hc
      obtain ⟨⟨c1, c2⟩, c3⟩ := hc
      obtain ⟨T, S, h1, h2, h3, h4, tr⟩ := trace_ok hC all 0 t _ sts hs t' s' htr
      obtain ⟨g1, g2⟩ := trace_next hC htr
      obtain ⟨f1, f2, f3, f4⟩ := fids_ok (P := P) (s := s) all s.next
      have hnext : ∀ (j : Nat) (h : VS), (floatsC P all s :: hs)[j]? = some h → (floatsC P all s).next ≤ h.next := fun j h hj => by
        rcases List.mem_cons.1 (List.mem_of_getElem? hj) with rfl | hm
        · exact Nat.le_refl _
        · exact g2 h hm
      refine ⟨sts, hs, T, S, h1, h2, h3, h4, ?_⟩
      refine { len := tr.len, step := fun i o ho => ?_, heap := tr.heap, num := by simp [tr.num], back := fun i o ho e he hb => ?_, apart := fun i o q o' ho ho' hq d hd => ?_, effs := fun i q x y hx hex hy hey hq => ?_, quiet := fun i o x ho hx he j h hlo hhi hj => ?_, fid := fun i b hb => ?_, next := fun j h hj => Nat.le_trans f3 (hnext j h hj) }
      · have := tr.step i o ho
        simpa using this
      · have := XE.backOnly_ok c1 i o ho e he hb
        omega
      · have := apart_one (apart_all c2 i o ho) q o' ho' (by omega) d hd
        simpa using this
      · have hlt : i < all.length := by rw [← tr.len]; exact (List.getElem?_eq_some_iff.1 hx).1
        have := (quiet_ok c3 i all[i] x (by simp [hlt]) hx).1 hex
        have := effB_ok this q y hy hey (by omega)
        simpa using this
      · have h5 := (quiet_ok c3 i o x ho hx).2 he
        simp only [Nat.zero_add] at h5
        obtain ⟨x', k1, k2, k3, k4, k5⟩ := tr.step i o ho
        rw [hx] at k1
        cases k1
        have hi : i ≤ all.length := Nat.le_of_lt (List.getElem?_eq_some_iff.1 ho).1
        by_cases hjc : j = countE (fun q => decide (q < i)) 0 sts
        · have := tr.heap i hi
          rw [← hjc, hj] at this
          cases this
          rw [k5 he] at k3
          simpa using k3
        · have h6 := allAt_ok h5 j h hj (by omega) (by simp only [List.length_cons] at hhi ⊢; omega) (by omega)
          unfold sameAt at h6
          split at h6
          · rename_i v' h' hst
            simp only [Bool.and_eq_true] at h6
            have e1 := beqCV_eq h6.1
            have e2 := Nat.eq_of_beq_eq_true h6.2
            rw [k2] at hst
            have : h' = h := by
              rcases (stepC_ev hC hst).ver with e | e
              · exact e
              · omega
            rw [this, e1] at hst
            exact hst
          · cases h6
      · obtain ⟨b1, b2⟩ := f2 i b hb
        refine ⟨b1, fun j h hj => by have := hnext j h hj; omega, fun i' b' hi hb' e => ?_⟩
        subst e
        rcases Nat.lt_or_gt_of_ne hi with hlt | hlt
        · exact f4 i' i b' hlt hb' hb
        · exact f4 i i' b' hlt hb hb'
  · cases h
section
variable {all : List Oper} {fids : List (Option Nat)} {sts : List Stp} {H : List VS} {T : Nat → Tr CV} {S : Nat → VS} {nx : Nat}
theorem DF.get (D : DF P callF all fids sts H T S nx) : ∀ k, k ≤ all.length → (∀ (i : Nat) (o : Oper) (x : Stp), i < k → all[i]? = some o → sts[i]? = some x → ∀ d, o.dst = some d → (T k).get d = some x.v) ∧ ∀ d, (∀ (i : Nat) (o : Oper), i < k → all[i]? = some o → o.dst ≠ some d) → (T k).get d = (T 0).get d
  | 0, _ => ⟨fun i o x h => by omega, fun _ _ => rfl⟩
  | k + 1, hk => by
    obtain ⟨ih1, ih2⟩ := D.get k (by omega)
    have hok : all[k]? = some all[k] := by simp
    obtain ⟨x, g1, _, _, g4, _⟩ := D.step k all[k] hok
    have hput : ∀ d, (T (k + 1)).get d = if all[k].dst = some d then some x.v else (T k).get d := fun d => by
      rw [g4]
      cases hd : all[k].dst with
      | none => simp [putC]
      | some e =>
        simp only [putC, Tr.get_set, Option.some.injEq]
        by_cases h : d = e
        · rw [if_pos h, if_pos h.symm]
        · rw [if_neg h, if_neg (Ne.symm h)]
    refine ⟨fun i o x' hi ho hx d hd => ?_, fun d hd => ?_⟩
    · rw [hput]
      by_cases e : i = k
      · subst e
        rw [hok] at ho
        cases ho
        rw [g1] at hx
        cases hx
        rw [if_pos hd]
      · rw [if_neg fun h => (D.apart k all[k] i o hok ho e d hd).1 h]
        exact ih1 i o x' (by omega) ho hx d hd
    · rw [hput, if_neg (hd k all[k] (by omega) hok)]
      exact ih2 d fun i o hi ho => hd i o (by omega) ho
/-- How far a run has come. -/
structure DI (B : World) (all : List Oper) (fids : List (Option Nat)) (sts : List Stp) (H : List VS) (t0 : Tr CV) (nx : Nat) (ρ0 : Pm) (listed : Array Bool) (cur : Tr CV) (ρ : Pm) (w : World) (a : Act) : Prop where
  size : listed.size = all.length
  closed : ∀ i, i < all.length → listed.getD i false = true → ∀ j, Nat.testBit ((XE.waitMasks all []).getD i 0) j = true → listed.getD j false = true
  rel : ∃ h, H[countE (fun q => listed.getD q false) 0 sts]? = some h ∧ HRel B ρ h w
  tmps : TRel ρ cur a
  done : ∀ (i : Nat) (o : Oper) (x : Stp), all[i]? = some o → sts[i]? = some x → listed.getD i false = true → ∀ d, o.dst = some d → cur.get d = some x.v
  keep : ∀ d, (∀ (i : Nat) (o : Oper), all[i]? = some o → listed.getD i false = true → o.dst ≠ some d) → cur.get d = t0.get d
  flo : ∀ (i b : Nat), i < all.length → (fids[i]?).join = some b → listed.getD i false = false → ρ b = none
  ext : ∀ x, x < nx → ρ x = ρ0 x
theorem draw_any (hC : CallOk P B callF) (D : DF P callF all fids sts H T S nx) (hfl : fids.length = all.length) {ρ0 : Pm} {a0 : Act} {Q : Exit → Act → World → Prop} (hd0 : DstsIn a0.tmps.size all)
    (hQ : ∀ a w ρ, HRel B ρ (S all.length) w → TRel ρ (T all.length) a → ExtAt nx ρ0 ρ → a.tmps.size = a0.tmps.size → a.defers = a0.defers → Q .normal a w) :
    ∀ (fuel : Nat) (listed : Array Bool) (cur : Tr CV) (ρ : Pm) (a : Act) (w : World), XE.left listed all.length ≤ fuel → DI B all fids sts H (T 0) nx ρ0 listed cur ρ w a → a.tmps.size = a0.tmps.size → a.defers = a0.defers →
      wpAny P .any all.toArray Q fuel listed a w := by
  intro fuel
  have wb := waits_back D.back
  have done : ∀ (listed : Array Bool) (cur : Tr CV) (ρ : Pm) (a : Act) (w : World), DI B all fids sts H (T 0) nx ρ0 listed cur ρ w a → a.tmps.size = a0.tmps.size → a.defers = a0.defers → Region.ready .any all.toArray listed = [] → Q .normal a w := fun listed cur ρ a w I hs hd hr => by
    have hall : ∀ k, k < all.length → listed.getD k false = true := by
      intro k
      induction k using Nat.strongRecOn with
      | _ k ih =>
        intro hk
        cases hb : listed.getD k false with
        | true => rfl
        | false =>
          exfalso
          have : k ∈ Region.ready .any all.toArray listed := XE.mem_ready.2 ⟨by rw [XE.getD_both (by rw [I.size]; exact hk) true false]; exact hb, all[k], by simp [hk], fun e he hb => by
            have h1 := D.back k all[k] (by simp) e he hb
            exact ih e.on h1 (by omega)⟩
          rw [hr] at this; cases this
    obtain ⟨h, h1, h2⟩ := I.rel
    have hcn : countE (fun q => listed.getD q false) 0 sts = countE (fun q => decide (q < all.length)) 0 sts := countE_cong _ _ fun q x hq _ => by
      have hlt : q < all.length := by rw [← D.len]; exact (List.getElem?_eq_some_iff.1 hq).1
      simp only [Nat.zero_add]
      rw [hall q hlt]
      simp [hlt]
    rw [hcn, D.heap _ (Nat.le_refl _)] at h1
    cases h1
    obtain ⟨g1, g2⟩ := D.get all.length (Nat.le_refl _)
    refine hQ a w ρ h2 (fun d => ?_) (fun x hx => I.ext x hx) hs hd
    have : (T all.length).get d = cur.get d := by
      by_cases hex : ∃ (i : Nat) (o : Oper), all[i]? = some o ∧ o.dst = some d
      · obtain ⟨i, o, ho, hd⟩ := hex
        have hlt := (List.getElem?_eq_some_iff.1 ho).1
        obtain ⟨x, k1, _⟩ := D.step i o ho
        rw [g1 i o x hlt ho k1 d hd, I.done i o x ho k1 (hall i hlt) d hd]
      · rw [g2 d fun i o _ ho hd => hex ⟨i, o, ho, hd⟩, I.keep d fun i o ho _ hd => hex ⟨i, o, ho, hd⟩]
    rw [this]
    exact I.tmps d
  induction fuel with
  | zero =>
    intro listed cur ρ a w hle I hs hd
    have hr : Region.ready .any all.toArray listed = [] := by
      cases hq : Region.ready .any all.toArray listed with
      | nil => rfl
      | cons x xs =>
        obtain ⟨h1, o, h2, _⟩ := XE.mem_ready.1 (show x ∈ Region.ready .any all.toArray listed by rw [hq]; exact List.mem_cons_self)
        have hlt : x < all.length := by have := (Array.getElem?_eq_some_iff.1 h2).1; simpa using this
        rw [XE.left_zero all.length (by omega) x hlt] at h1; cases h1
    exact ⟨hr, done listed cur ρ a w I hs hd hr⟩
  | succ fuel ih =>
    intro listed cur ρ a w hle I hs hd
    refine ⟨done listed cur ρ a w I hs hd, fun i hi => ?_⟩
    obtain ⟨h1, o, h2, h3⟩ := XE.mem_ready.1 hi
    have hlt : i < all.length := by have := (Array.getElem?_eq_some_iff.1 h2).1; simpa using this
    have hli : listed.getD i false = false := by rw [XE.getD_both (by rw [I.size]; exact hlt) false true]; exact h1
    have ho : all[i]? = some o := by simpa using h2
    have hwait : ∀ j, Nat.testBit ((XE.waitMasks all []).getD i 0) j = true → listed.getD j false = true := fun j hj => by
      obtain ⟨e, e1, e2, e3⟩ := XE.masks_ok all [] i o ho j (by simpa using hj)
      have hb := D.back i o ho e e1 e2
      have hl := h3 e e1 e2
      rcases e3 with rfl | e3
      · exact hl
      · exact I.closed e.on (by omega) hl j e3
    have hfol : ∀ q, q < all.length → Nat.testBit ((XE.waitMasks all []).getD q 0) i = true → listed.getD q false = false := fun q hq hb => by
      cases hl : listed.getD q false with
      | false => rfl
      | true => rw [I.closed q hq hl i hb] at hli; cases hli
    obtain ⟨x, k1, k2, k3, k4, k5⟩ := D.step i o ho
    obtain ⟨h, j1, j2⟩ := I.rel
    obtain ⟨g1, g2⟩ := D.get i (by omega)
    -- the slots that it looks at
    have hsl : ∀ d ∈ slotsOf all o, cur.get d = (T i).get d := fun d hdm => by
      by_cases hex : ∃ (q : Nat) (o' : Oper), all[q]? = some o' ∧ o'.dst = some d
      · obtain ⟨q, o', ho', hd'⟩ := hex
        have hqlt := (List.getElem?_eq_some_iff.1 ho').1
        have uniq : ∀ (p : Nat) (o'' : Oper), all[p]? = some o'' → o''.dst = some d → p = q := fun p o'' hp hpd => by
          by_cases e : p = q
          · exact e
          · exact absurd hd' (D.apart q o' p o'' ho' hp e d hpd).1
        obtain ⟨x', l1, _⟩ := D.step q o' ho'
        have none_ : listed.getD q false = false → i ≤ q → cur.get d = (T i).get d := fun hq hiq => by
          rw [I.keep d (fun p o'' hp hl hpd => by have := uniq p o'' hp hpd; subst this; rw [hq] at hl; cases hl),
            g2 d fun p o'' hpi hp hpd => by have := uniq p o'' hp hpd; omega]
        by_cases e : q = i
        · subst e
          exact none_ hli (Nat.le_refl _)
        · rcases (D.apart i o q o' ho ho' e d hd').2 hdm with hb | hb
          · rw [I.done q o' x' ho' l1 (hwait q hb) d hd', g1 q o' x' (wb i q hb) ho' l1 d hd']
          · exact none_ (hfol q hqlt hb) (Nat.le_of_lt (wb q i hb))
      · rw [I.keep d fun p o' hp _ hpd => hex ⟨p, o', hp, hpd⟩, g2 d fun p o' _ hp hpd => hex ⟨p, o', hp, hpd⟩]
    -- the step, where the run stands
    have hset : ∀ k b, (listed.setIfInBounds i true).getD k b = if k = i then true else listed.getD k b := fun k b => by
      have hsz : i < listed.size := by rw [I.size]; exact hlt
      rw [XE.set_getD]; by_cases e : k = i <;> simp [e, hsz]
    have hstep : ∃ h', stepC P callF all o (fids[i]?).join cur h = some (x.v, h') ∧ H[countE (fun q => (listed.setIfInBounds i true).getD q false) 0 sts]? = some h' := by
      cases he : x.eff with
      | false =>
        have hcn : countE (fun q => (listed.setIfInBounds i true).getD q false) 0 sts = countE (fun q => listed.getD q false) 0 sts := countE_cong _ _ fun q y hy hye => by
          simp only [Nat.zero_add, hset]
          rw [if_neg]
          rintro rfl
          rw [k1] at hy
          cases hy
          rw [he] at hye; cases hye
        refine ⟨h, ?_, by rw [hcn]; exact j1⟩
        rw [stepC_congr hsl]
        refine D.quiet i o x ho k1 he _ h (countE_mono _ _ fun q y hy hye hq => hwait _ (by simpa using hq)) ?_ j1
        rw [D.num]
        have := countE_disj (f := fun q => listed.getD q false) (g := fun q => Nat.testBit ((XE.waitMasks all []).getD q 0) i) sts 0 fun q y hy hye hf hg => by
          have hq : q < all.length := by rw [← D.len]; exact (List.getElem?_eq_some_iff.1 hy).1
          simp only [Nat.zero_add] at hf hg
          rw [hfol q hq hg] at hf; cases hf
        omega
      | true =>
        have hcur : countE (fun q => listed.getD q false) 0 sts = countE (fun q => decide (q < i)) 0 sts := countE_cong _ _ fun q y hy hye => by
          have hq : q < all.length := by rw [← D.len]; exact (List.getElem?_eq_some_iff.1 hy).1
          simp only [Nat.zero_add]
          by_cases e : q = i
          · subst e; rw [hli]; simp
          · rcases D.effs i q x y k1 he hy hye e with hb | hb
            · rw [hwait q hb]; simp [wb i q hb]
            · have := wb q i hb
              rw [hfol q hq hb]
              simp; omega
        have hnew : countE (fun q => (listed.setIfInBounds i true).getD q false) 0 sts = countE (fun q => listed.getD q false) 0 sts + 1 := by
          refine countE_succ sts 0 i x k1 he ?_ ?_ fun q y hy hye hq => ?_
          · simpa using hli
          · simp [hset]
          · simp only [Nat.zero_add, hset]; rw [if_neg hq]
        have hnew2 : countE (fun q => decide (q < i + 1)) 0 sts = countE (fun q => decide (q < i)) 0 sts + 1 := by
          refine countE_succ sts 0 i x k1 he ?_ ?_ fun q y hy hye hq => ?_
          · simp
          · simp
          · simp only [Nat.zero_add, decide_eq_decide]; omega
        rw [hcur, D.heap i (by omega)] at j1
        cases j1
        refine ⟨S (i + 1), by rw [stepC_congr hsl]; exact k3, ?_⟩
        rw [hnew, hcur, ← hnew2]
        exact D.heap (i + 1) (by omega)
    obtain ⟨h', m1, m2⟩ := hstep
    refine step_ok hC h2 m1 j2 I.tmps (fun b hb => ⟨I.flo i b hlt hb hli, (D.fid i b hb).2.1 _ h j1⟩) fun u w' ρ' n1 n2 n3 n4 => ?_
    have hleft := XE.left_set (by rw [I.size]; exact hlt) h1 all.length
    rw [if_pos hlt] at hleft
    have hdi : ∀ n, o.dst = some n → n < a.tmps.size := fun n e => by rw [hs]; exact hd0 o (List.mem_of_getElem? ho) n e
    refine ih (listed.setIfInBounds i true) (putC cur o.dst x.v) ρ' (a.put o.dst u) w' (by omega) ⟨by simp [I.size], fun p hp hlp j hj => ?_, ⟨h', m2, n2⟩, (I.tmps.mono n3).put n1 hdi, fun p o' x' hp hx' hlp d hd' => ?_, fun d hd' => ?_, fun p b hp hb hlp => ?_, fun z hz => ?_⟩ ((XE.put_size a _ u).trans hs) ((XE.put_defers a _ u).trans hd)
    · rw [hset] at hlp ⊢
      by_cases e : j = i
      · rw [if_pos e]
      · rw [if_neg e]
        by_cases e2 : p = i
        · subst e2; exact hwait j hj
        · rw [if_neg e2] at hlp; exact I.closed p hp hlp j hj
    · rw [hset] at hlp
      by_cases e : p = i
      · subst e
        rw [ho] at hp
        cases hp
        rw [k1] at hx'
        cases hx'
        rw [hd']
        simp [putC, Tr.get_set]
      · rw [if_neg e] at hlp
        have hne := (D.apart i o p o' ho hp e d hd').1
        have := I.done p o' x' hp hx' hlp d hd'
        cases hod : o.dst with
        | none => exact this
        | some d2 =>
          simp only [putC, Tr.get_set]
          rw [if_neg fun h => hne (by rw [hod, h])]
          exact this
    · have h6 : o.dst ≠ some d := hd' i o ho (by rw [hset, if_pos rfl])
      have h7 := I.keep d fun p o' hp hl => hd' p o' hp (by rw [hset]; split <;> first | rfl | exact hl)
      cases hod : o.dst with
      | none => exact h7
      | some d2 =>
        simp only [putC, Tr.get_set]
        rw [if_neg fun h => h6 (by rw [hod, h])]
        exact h7
    · rw [hset] at hlp
      by_cases e : p = i
      · rw [if_pos e] at hlp; cases hlp
      · rw [if_neg e] at hlp
        have hb2 := (D.fid p b hb).2.1 _ h j1
        rw [n4 b hb2 fun hf => (D.fid p b hb).2.2 i b (Ne.symm e) hf rfl]
        exact I.flo p b hp hb hlp
    · rw [n4 z (Nat.lt_of_lt_of_le hz (D.next _ h j1)) fun hf => by have := (D.fid i z hf).1; omega]
      exact I.ext z hz
end
theorem region_draw (hm : P.follows .mixedOrders = true) (hC : CallOk P B callF) {id : Nat} {ops : Array Oper} {Q : Exit → Act → World → Prop} (h : HRel B ρ s w) (r : TRel ρ t a) (hd : DstsIn a.tmps.size ops.toList) (he : drawC P callF ops.toList t s = some (t', s'))
    (hQ : ∀ a' w' ρ', HRel B ρ' s' w' → TRel ρ' t' a' → ExtAt s.next ρ ρ' → a'.tmps.size = a.tmps.size → a'.defers = a.defers → Q .normal a' w') : (Code.region id ops true).wp P Q a w := by
  obtain ⟨sts, hs, T, S, h1, h2, h3, h4, D⟩ := draw_facts hC he
  obtain ⟨f1, f2, f3, f4⟩ := fids_ok (P := P) (s := s) ops.toList s.next
  refine wp_region_any hm ?_
  have hr0 := (floats_rel (P := P) ops.toList h).1.heap (w' := { w with drawn := w.drawn + 1 }) rfl
  have hrep : ∀ k, (Array.replicate ops.size false).getD k false = false := fun k => by
    simp only [Array.getD_eq_getD_getElem?, Array.getElem?_replicate]
    split <;> rfl
  have key := draw_any hC D f1 (ρ0 := ρ) (a0 := a) (Q := Q) hd (fun a' w' ρ' g1 g2 g3 g4 g5 => hQ a' w' ρ' (by rw [← h4]; exact g1) (by rw [← h3]; exact g2) g3 g4 g5) ops.toList.length (Array.replicate ops.size false) t ρ a { w with drawn := w.drawn + 1 }
    (by rw [show ops.size = ops.toList.length by simp, XE.left_all _ _ (Nat.le_refl _)]; exact Nat.le_refl _)
    ⟨by simp, (fun i _ hl => by rw [hrep] at hl; cases hl), ⟨floatsC P ops.toList s, (by rw [countE_none _ _ fun q x _ _ => hrep _]; rfl), hr0⟩, r, (fun i o x _ _ hl => by rw [hrep] at hl; cases hl), (fun d _ => by rw [h1]), fun i b _ hb _ => h.dom b (f2 i b hb).1, fun _ _ => rfl⟩ rfl rfl
  simpa using key
end
end Go.XR
/- The concrete evaluator: code and calls; the evaluator is sound. -/
namespace Go.XR
section
variable {P : Program} {B w w' : World} {ρ ρ' : Pm} {s s' : VS} {t t' : Tr CV} {a : Act} {v : CV}

/-- All slots that regions write are there. -/
def dstsB (n : Nat) : Code → Bool
  | .region _ ops _ => ops.toList.all fun o => match o.dst with | some d => Nat.blt d n | none => true
  | .seq a b => dstsB n a && dstsB n b
  | .cond _ a b => dstsB n a && dstsB n b
  | .block _ c => dstsB n c
  | .loop c => dstsB n c
  | _ => true
theorem dstsB_mono {n m : Nat} (h : n ≤ m) : ∀ {c : Code}, dstsB n c = true → dstsB m c = true
  | .region _ ops _, k => by
    simp only [dstsB, List.all_eq_true] at k ⊢
    intro o ho
    have := k o ho
    cases hd : o.dst with
    | none => rfl
    | some d =>
      rw [hd] at this
      simp only [Nat.blt_eq] at this ⊢
      omega
  | .seq a b, k => by
    simp only [dstsB, Bool.and_eq_true] at k ⊢
    exact ⟨dstsB_mono h k.1, dstsB_mono h k.2⟩
  | .cond _ a b, k => by
    simp only [dstsB, Bool.and_eq_true] at k ⊢
    exact ⟨dstsB_mono h k.1, dstsB_mono h k.2⟩
  | .block _ c, k => dstsB_mono (c := c) h k
  | .loop c, k => dstsB_mono (c := c) h k
  | .skip, _ => rfl
  | .exit _, _ => rfl
  | .ret, _ => rfl
  | .rangeFunc .., _ => rfl
  | .scope _, _ => rfl
  | .label _, _ => rfl
  | .goto _, _ => rfl
  | .refuse _, _ => rfl
theorem dsts_in {n : Nat} {id : Nat} {ops : Array Oper} {d : Bool} (h : dstsB n (.region id ops d) = true) : DstsIn n ops.toList := fun o ho x hx => by
  simp only [dstsB, List.all_eq_true] at h
  have := h o ho
  rw [hx] at this
  simpa using this

/-- A call, as 'go' makes it. -/
def callGo (P : Program) (funs : FuncId → Option Func) (orc : FuncId → List CV → VS → Option Res) (idf : FuncId → Bool) (n : Nat) : FuncId → List CV → VS → Res := fun f args s => match orc f args s with
  | some r => r
  | none => match funs f with
    | some fn => (match fn.body with
      | some c => endC P fn s (go P funs orc idf n c (argsT args 0 .nil) { s with low := s.next })
      | none => (match idf f, args with
        | true, [v] => some (v, s)
        | _, _ => externC P s f args))
    | none => none
theorem go_region {funs : FuncId → Option Func} {orc : FuncId → List CV → VS → Option Res} {idf : FuncId → Bool} {n id : Nat} {ops : Array Oper} {draw : Bool} :
    go P funs orc idf (n + 1) (.region id ops draw) t s = match (cond draw (drawC P) fun callF all t s => opsC P callF all all t s) (callGo P funs orc idf n) ops.toList t s with
      | some (t', s') => some (.norm, t', s')
      | none => none := rfl

/-- What is known of the functions. -/
structure FOk (P : Program) (B : World) (funs : FuncId → Option Func) (orc : FuncId → List CV → VS → Option Res) (idf : FuncId → Bool) : Prop where
  mixed : P.follows .mixedOrders = true
  funs : ∀ f fn, funs f = some fn → P.funcs[f]? = some fn ∧ (fn.name == "runtime.NumGoroutine") = false ∧ ∀ c, fn.body = some c → dstsB fn.ntmps c = true
  orc : ∀ f args s v s', orc f args s = some (some (v, s')) → Ev s s' ∧ ∀ ρ w us, HRel B ρ s w → denL ρ args = some us → CallV P B ρ s w f us v s'
  idf : ∀ f, idf f = true → ∀ v w, (callFunc f #[v]).run P w = .ok (.value v) w

def exOf : Ex → Exit
  | .norm => .normal
  | .ext i => .exit i
  | .ret => .ret
def LeafR (B : World) (ρ : Pm) (s : VS) (a : Act) (e : Ex) (t' : Tr CV) (s' : VS) : Exit → Act → World → Prop := fun x a' w' =>
  x = exOf e ∧ ∃ ρ', HRel B ρ' s' w' ∧ TRel ρ' t' a' ∧ ExtAt s.next ρ ρ' ∧ a'.tmps.size = a.tmps.size ∧ a'.defers = a.defers

/-! ### Arguments and results -/
theorem argsT_get : ∀ (l : List CV) (n : Nat) (t : Tr CV) (i : Nat), (argsT l n t).get i = if n ≤ i ∧ i < n + l.length then l[i - n]? else t.get i
  | [], n, t, i => by simp [argsT]; intro h1 h2; omega
  | v :: r, n, t, i => by
    simp only [argsT]
    rw [argsT_get r (n + 1) _ i, Tr.get_set]
    simp only [List.length_cons]
    by_cases h : i = n
    · subst h
      rw [if_neg (by omega), if_pos rfl, if_pos (by omega)]
      simp
    · by_cases h2 : n + 1 ≤ i ∧ i < n + 1 + r.length
      · rw [if_pos h2, if_pos (by omega)]
        obtain ⟨k, rfl⟩ : ∃ k, i = n + (k + 1) := ⟨i - n - 1, by omega⟩
        rw [show n + (k + 1) - (n + 1) = k by omega, show n + (k + 1) - n = k + 1 by omega]
        rfl
      · rw [if_neg h2, if_neg h, if_neg (by omega)]
theorem Tr.get_nil {α : Type} (i : Nat) : (Tr.nil : Tr α).get i = none := rfl
theorem args_rel {args : List CV} {us : List Value} (h : denL ρ args = some us) (n : Nat) : TRel ρ (argsT args 0 .nil) { tmps := us.toArray ++ Array.replicate n undef, defers := [] } := fun i => by
  have hl := denL_len h
  rw [argsT_get]
  by_cases hi : i < args.length
  · rw [if_pos (by omega), Nat.sub_zero]
    obtain ⟨u, h1, h2⟩ := denL_get h i args[i] (by simp [hi])
    rw [List.getElem?_eq_getElem hi]
    simp only [Option.getD_some, h2, Array.getD_eq_getD_getElem?]
    rw [Array.getElem?_append_left (by simp; omega)]
    simp [h1]
  · rw [if_neg (by omega), Tr.get_nil]
    simp only [Option.getD_none, den, Array.getD_eq_getD_getElem?]
    rw [Array.getElem?_append_right (by simp; omega)]
    by_cases hj : i - us.toArray.size < n
    · rw [Array.getElem?_replicate, if_pos hj]; rfl
    · rw [Array.getElem?_replicate, if_neg hj]; rfl
theorem load_res (h : HRel B ρ s w) {ty : TypeId} {x v : CV} {vx : Value} (he : loadC P s ty x = some v) (hx : den ρ x = some vx) : ∃ u, den ρ v = some u ∧ (do loadVar ty (← asAddr vx)).run P w = .ok u w := by
  obtain ⟨u, h1, h2⟩ := load_ok (P := P) h he hx
  refine ⟨u, h1, ?_⟩
  have : ∃ p, vx = .pointer (some p) := by
    unfold loadC at he
    split at he
    · rename_i g
      cases hx
      exact ⟨_, rfl⟩
    · simp only [den, Option.map_eq_some_iff] at hx
      obtain ⟨_, _, e⟩ := hx
      exact ⟨_, e.symm⟩
    · rename_i b o
      obtain ⟨r, _, e⟩ := den_ptr hx
      exact ⟨_, e⟩
    · cases he
  obtain ⟨p, rfl⟩ := this
  simpa [Instr.loadAt, Instr.sureAddr, asAddr] using h2
theorem res_ok (h : HRel B ρ s w) (r : TRel ρ t a) : ∀ {l : List ResultVar} {vs : List CV}, resC P t s l = some vs → ∃ us, (l.mapM (XE.getRes a.tmps)).run P w = .ok us w ∧ denL ρ vs = some us
  | [], vs, hl => by cases hl; exact ⟨[], rfl, rfl⟩
  | x :: l, vs, hl => by
    simp only [resC] at hl
    split at hl
    · rename_i v vs' h1 h2
      cases hl
      obtain ⟨us, g1, g2⟩ := res_ok h r h2
      have : ∃ u, (XE.getRes a.tmps x).run P w = .ok u w ∧ den ρ v = some u := by
        cases x with
        | tmp n =>
          cases h1
          exact ⟨_, rfl, r n⟩
        | cell c ty =>
          obtain ⟨u, k1, k2⟩ := load_res h h1 (r c)
          exact ⟨u, k2, k1⟩
      obtain ⟨u, k1, k2⟩ := this
      refine ⟨u :: us, ?_, by simp [denL, k2, g2]⟩
      simp only [List.mapM_cons, Sem.run_bind, k1, Result.andThen_ok, g1, Sem.run_pure]
    · cases hl
theorem pack_ok {vs : List CV} {us : List Value} (h : denL ρ vs = some us) : den ρ (packC vs) = some (if h : us.length = 1 then us[0] else .tuple us.toArray) := by
  have hl := denL_len h
  match vs, us, hl, h with
  | [], [], _, _ => rfl
  | [v], [u], _, h =>
    simp only [denL, Option.bind_eq_some_iff, Option.map_eq_some_iff] at h
    obtain ⟨u', h1, y, h2, e⟩ := h
    cases h2
    cases e
    simpa [packC] using h1
  | v :: v2 :: vs, u :: u2 :: us, _, h =>
    rw [dif_neg (by simp)]
    show den ρ (.tup _) = _
    simp only [den, h, Option.map_some]

/-! ### Calls -/
theorem HRel.lowered (h : HRel B ρ s w) (n : Nat) : HRel B ρ { s with low := n } w := ⟨h.dom, h.blk, h.inj, h.low, h.size, h.old, h.gl, h.out⟩
theorem HRel.aged (h : HRel B ρ s w) (n m : Nat) : HRel B ρ { s with low := n, ver := m } w := ⟨h.dom, h.blk, h.inj, h.low, h.size, h.old, h.gl, h.out⟩
section
variable {funs : FuncId → Option Func} {orc : FuncId → List CV → VS → Option Res} {idf : FuncId → Bool}
/-- What 'go' says of code. -/
def GoOk (P : Program) (B : World) (funs : FuncId → Option Func) (orc : FuncId → List CV → VS → Option Res) (idf : FuncId → Bool) (n : Nat) : Prop :=
  ∀ (c : Code) (t : Tr CV) (s : VS) (e : Ex) (t' : Tr CV) (s' : VS), go P funs orc idf n c t s = some (e, t', s') → Ev s s' ∧ ∀ (ρ : Pm) (w : World) (a : Act), HRel B ρ s w → TRel ρ t a → dstsB a.tmps.size c = true →
    c.wp P (LeafR B ρ s a e t' s') a w ∧ ∀ d, c = .loop d → XE.InLoop P d (LeafR B ρ s a e t' s') a w
theorem call_ok (F : FOk P B funs orc idf) {n : Nat} (ih : GoOk P B funs orc idf n) : CallOk P B (callGo P funs orc idf n) := fun f args s v s' he => by
  unfold callGo at he
  split at he
  · rename_i r hr
    rw [he] at hr
    exact F.orc f args s v s' hr
  · split at he
    · rename_i fn hfn
      obtain ⟨f1, f2, f3⟩ := F.funs f fn hfn
      split at he
      · rename_i c hc
        -- the body
        unfold endC at he
        have key : ∃ e t2 s2 l, go P funs orc idf n c (argsT args 0 .nil) { s with low := s.next } = some (e, t2, s2) ∧ (e = .norm ∨ e = .ret) ∧ resC P t2 s2 fn.results.toList = some l ∧
            ((∃ u, toVal (packC l) = some u ∧ s.next ≤ s2.low ∧ v = .at u ∧ s' = s) ∨ (∃ u, toVal (packC l) = some u ∧ v = .at u ∧ s' = { s2 with low := Nat.min s.low s2.low, ver := s2.ver + 1 }) ∨ (v = packC l ∧ s' = { s2 with low := Nat.min s.low s2.low, ver := s2.ver + 1 })) := by
          have inner : ∀ (t2 : Tr CV) (s2 : VS), (match resC P t2 s2 fn.results.toList with
              | some l => match toVal (packC l) with
                | some v => cond (Nat.ble s.next s2.low) (some (.at v, s)) (some (.at v, { s2 with low := Nat.min s.low s2.low, ver := s2.ver + 1 }))
                | none => some (packC l, { s2 with low := Nat.min s.low s2.low, ver := s2.ver + 1 })
              | none => none) = some (v, s') → ∃ l, resC P t2 s2 fn.results.toList = some l ∧
            ((∃ u, toVal (packC l) = some u ∧ s.next ≤ s2.low ∧ v = .at u ∧ s' = s) ∨ (∃ u, toVal (packC l) = some u ∧ v = .at u ∧ s' = { s2 with low := Nat.min s.low s2.low, ver := s2.ver + 1 }) ∨ (v = packC l ∧ s' = { s2 with low := Nat.min s.low s2.low, ver := s2.ver + 1 })) := fun t2 s2 h => by
            split at h
            · rename_i l hl
              refine ⟨l, hl, ?_⟩
              split at h
              · rename_i u hu
                cases hb : Nat.ble s.next s2.low with
                | true =>
                  rw [hb] at h
                  cases h
                  exact .inl ⟨u, hu, Nat.le_of_ble_eq_true hb, rfl, rfl⟩
                | false =>
                  rw [hb] at h
                  cases h
                  exact .inr (.inl ⟨u, hu, rfl, rfl⟩)
              · cases h
                exact .inr (.inr ⟨rfl, rfl⟩)
            · cases h
          split at he
          · rename_i t2 s2 hgo
            obtain ⟨l, h1, h2⟩ := inner t2 s2 he
            exact ⟨.norm, t2, s2, l, hgo, .inl rfl, h1, h2⟩
          · rename_i t2 s2 hgo
            obtain ⟨l, h1, h2⟩ := inner t2 s2 he
            exact ⟨.ret, t2, s2, l, hgo, .inr rfl, h1, h2⟩
          · cases he
        obtain ⟨e, t2, s2, l, hgo, hex, hres, hv⟩ := key
        obtain ⟨hev, hwp⟩ := ih _ _ _ _ _ _ hgo
        have ev2 : Ev s { s2 with low := Nat.min s.low s2.low, ver := s2.ver + 1 } := by
          refine ⟨hev.next, Nat.min_le_left _ _, hev.gl, fun b h1 h2 => ?_, .inr ?_⟩
          · have h3 : b < s2.low := Nat.lt_of_lt_of_le h2 (Nat.min_le_right _ _)
            exact hev.same b h1 h3
          · rcases hev.ver with h1 | h1
            · rw [h1]; exact Nat.lt_succ_self _
            · exact Nat.lt_succ_of_lt h1
        refine ⟨?_, fun ρ w us hr hargs => ?_⟩
        · rcases hv with ⟨u, _, _, _, rfl⟩ | ⟨u, _, _, rfl⟩ | ⟨_, rfl⟩
          · exact .refl _
          · exact ev2
          · exact ev2
        · refine .enter ?_ ?_
          · have f2' : ¬ fn.name = "runtime.NumGoroutine" := by simpa using f2
            simp [callFunc, Sem.run_bind, Result.andThen_ok, Sem.run_pure, program, Sem.run, f1, f2', hc]
          · refine calls_of_wp f1 hc ?_
            have hw := (hwp ρ w { tmps := us.toArray ++ Array.replicate (fn.ntmps - us.toArray.size) undef, defers := [] } (hr.lowered _) (args_rel hargs _) (dstsB_mono (by simp; omega) (f3 c hc))).1
            refine wp_mono hw fun x a' w' hx => ?_
            obtain ⟨rfl, ρ', k1, k2, k3, k4, k5⟩ := hx
            obtain ⟨vs, r1, r2⟩ := res_ok k1 k2 hres
            have r3 := XE.run_results r1
            have r4 := pack_ok r2
            have fin : a'.defers = [] ∧ ∃ u, (results fn a'.tmps).run P w' = .ok u w' ∧ ∃ u' ρ', Ending.returned u = .returned u' ∧ den ρ' v = some u' ∧ HRel B ρ' s' w' ∧ ExtAt s.next ρ ρ' := by
              refine ⟨k5, _, r3, ?_⟩
              rcases hv with ⟨u, g1, g2, rfl, rfl⟩ | ⟨u, g1, rfl, rfl⟩ | ⟨rfl, rfl⟩
              · have := toVal_den ρ' g1
                rw [r4] at this
                exact ⟨_, ρ, rfl, this.symm, hr.back k1 hev rfl rfl rfl g2 k3, .refl _ _⟩
              · have := toVal_den ρ' g1
                rw [r4] at this
                exact ⟨_, ρ', rfl, this.symm, k1.aged _ _, k3⟩
              · exact ⟨_, ρ', rfl, r4, k1.aged _ _, k3⟩
            rcases hex with rfl | rfl
            · exact fin
            · exact fin
      · rename_i hc
        split at he
        · rename_i v0 hid _
          cases he
          refine ⟨.refl _, fun ρ w us hr hargs => ?_⟩
          simp only [denL, Option.bind_eq_some_iff, Option.map_eq_some_iff] at hargs
          obtain ⟨u, h1, y, h2, rfl⟩ := hargs
          cases h2
          exact .value (F.idf f hid u w) h1 id
        · unfold externC at he
          split at he
          · rename_i us hus
            split at he
            · rename_i u hp
              cases he
              refine ⟨.refl _, fun ρ w us' hr hargs => ?_⟩
              have := toVals_den ρ hus
              rw [hargs] at this
              cases this
              exact .value (run_pure hp w) rfl id
            · cases he
          · cases he
    · cases he

/-! ### Code -/
theorem LeafR.more {s1 : VS} {ρ1 : Pm} {a1 : Act} {e : Ex} {x : Exit} {a' : Act} (h : LeafR B ρ1 s1 a1 e t' s' x a' w') (hx : ExtAt s.next ρ ρ1) (hn : s.next ≤ s1.next) (h1 : a1.tmps.size = a.tmps.size) (h2 : a1.defers = a.defers) : LeafR B ρ s a e t' s' x a' w' := by
  obtain ⟨g1, ρ', g2, g3, g4, g5, g6⟩ := h
  exact ⟨g1, ρ', g2, g3, hx.trans g4 hn, g5.trans h1, g6.trans h2⟩
theorem go_ok (F : FOk P B funs orc idf) : ∀ n, GoOk P B funs orc idf n
  | 0 => fun c t s e t' s' h => by cases h
  | n + 1 => by
    have ih := go_ok F n
    have hC := call_ok F ih
    intro c t s e t' s' he
    cases c with
    | skip =>
      cases he
      exact ⟨.refl _, fun ρ w a hr ht _ => ⟨wp_skip ⟨rfl, ρ, hr, ht, .refl _ _, rfl, rfl⟩, fun d hd => by cases hd⟩⟩
    | exit i =>
      cases he
      exact ⟨.refl _, fun ρ w a hr ht _ => ⟨wp_exit ⟨rfl, ρ, hr, ht, .refl _ _, rfl, rfl⟩, fun d hd => by cases hd⟩⟩
    | ret =>
      cases he
      exact ⟨.refl _, fun ρ w a hr ht _ => ⟨wp_ret ⟨rfl, ρ, hr, ht, .refl _ _, rfl, rfl⟩, fun d hd => by cases hd⟩⟩
    | region id ops draw =>
      rw [go_region] at he
      split at he
      · rename_i t1 s1 hop
        cases he
        cases draw with
        | false =>
          rw [cond_false] at hop
          refine ⟨opsC_ev hC hop, fun ρ w a hr ht hd => ⟨region_ok hC hr ht (dsts_in hd) hop fun a' w' ρ' g1 g2 g3 g4 g5 => ⟨rfl, ρ', g1, g2, g3, g4, g5⟩, fun d hd => by cases hd⟩⟩
        | true =>
          rw [cond_true] at hop
          refine ⟨draw_ev hC hop, fun ρ w a hr ht hd => ⟨region_draw F.mixed hC hr ht (dsts_in hd) hop fun a' w' ρ' g1 g2 g3 g4 g5 => ⟨rfl, ρ', g1, g2, g3, g4, g5⟩, fun d hd => by cases hd⟩⟩
      · cases he
    | seq x y =>
      simp only [go] at he
      split at he
      · rename_i t1 s1 h1
        obtain ⟨v1, w1⟩ := ih _ _ _ _ _ _ h1
        obtain ⟨v2, w2⟩ := ih _ _ _ _ _ _ he
        refine ⟨v1.trans v2, fun ρ w a hr ht hd => ⟨?_, fun d hd => by cases hd⟩⟩
        simp only [dstsB, Bool.and_eq_true] at hd
        refine wp_seq (wp_mono (w1 ρ w a hr ht hd.1).1 fun x a' w' hx => ?_)
        obtain ⟨rfl, ρ', k1, k2, k3, k4, k5⟩ := hx
        refine wp_mono (w2 ρ' w' a' k1 k2 (by rw [k4]; exact hd.2)).1 fun x a2 w2 hx => hx.more k3 v1.next k4 k5
      · rename_i r hne
        obtain ⟨v1, w1⟩ := ih _ _ _ _ _ _ he
        refine ⟨v1, fun ρ w a hr ht hd => ⟨?_, fun d hd => by cases hd⟩⟩
        simp only [dstsB, Bool.and_eq_true] at hd
        refine wp_seq (wp_mono (w1 ρ w a hr ht hd.1).1 fun x a' w' hx => ?_)
        obtain ⟨rfl, hx2⟩ := hx
        cases e with
        | norm => exact absurd he (hne _ _)
        | ext i => exact ⟨rfl, hx2⟩
        | ret => exact ⟨rfl, hx2⟩
    | cond x y z =>
      simp only [go] at he
      split at he
      · rename_i hb
        obtain ⟨v1, w1⟩ := ih _ _ _ _ _ _ he
        refine ⟨v1, fun ρ w a hr ht hd => ⟨?_, fun d hd => by cases hd⟩⟩
        simp only [dstsB, Bool.and_eq_true] at hd
        exact wp_cond_true (boolOf_eq hb (ev_ok ht x)) (w1 ρ w a hr ht hd.1).1
      · rename_i hb
        obtain ⟨v1, w1⟩ := ih _ _ _ _ _ _ he
        refine ⟨v1, fun ρ w a hr ht hd => ⟨?_, fun d hd => by cases hd⟩⟩
        simp only [dstsB, Bool.and_eq_true] at hd
        exact wp_cond_false (boolOf_eq hb (ev_ok ht x)) (w1 ρ w a hr ht hd.2).1
      · cases he
    | block i x =>
      simp only [go] at he
      split at he
      · rename_i j t1 s1 h1
        obtain ⟨v1, w1⟩ := ih _ _ _ _ _ _ h1
        cases hb : Nat.beq i j with
        | true =>
          rw [hb] at he
          cases he
          refine ⟨v1, fun ρ w a hr ht hd => ⟨?_, fun d hd => by cases hd⟩⟩
          refine wp_block (wp_mono (w1 ρ w a hr ht hd).1 fun x a' w' hx => ?_)
          obtain ⟨rfl, hx2⟩ := hx
          show (if j = i then _ else _)
          rw [if_pos (Nat.eq_of_beq_eq_true hb).symm]
          exact ⟨rfl, hx2⟩
        | false =>
          rw [hb] at he
          cases he
          refine ⟨v1, fun ρ w a hr ht hd => ⟨?_, fun d hd => by cases hd⟩⟩
          refine wp_block (wp_mono (w1 ρ w a hr ht hd).1 fun x a' w' hx => ?_)
          obtain ⟨rfl, hx2⟩ := hx
          show (if j = i then _ else _)
          rw [if_neg fun e => by rw [e, Nat.beq_refl] at hb; cases hb]
          exact ⟨rfl, hx2⟩
      · rename_i r hne
        obtain ⟨v1, w1⟩ := ih _ _ _ _ _ _ he
        refine ⟨v1, fun ρ w a hr ht hd => ⟨?_, fun d hd => by cases hd⟩⟩
        refine wp_block (wp_mono (w1 ρ w a hr ht hd).1 fun x a' w' hx => ?_)
        obtain ⟨rfl, hx2⟩ := hx
        cases e with
        | norm => exact ⟨rfl, hx2⟩
        | ext j => exact absurd he (hne _ _ _)
        | ret => exact ⟨rfl, hx2⟩
    | loop x =>
      have main : Ev s s' ∧ ∀ (ρ : Pm) (w : World) (a : Act), HRel B ρ s w → TRel ρ t a → dstsB a.tmps.size x = true → XE.InLoop P x (LeafR B ρ s a e t' s') a w := by
        simp only [go] at he
        split at he
        · rename_i t1 s1 h1
          obtain ⟨v1, w1⟩ := ih _ _ _ _ _ _ h1
          obtain ⟨v2, w2⟩ := ih _ _ _ _ _ _ he
          refine ⟨v1.trans v2, fun ρ w a hr ht hd => XE.in_round (wp_mono (w1 ρ w a hr ht hd).1 fun y a' w' hx => ?_)⟩
          obtain ⟨rfl, ρ', k1, k2, k3, k4, k5⟩ := hx
          have := (w2 ρ' w' a' k1 k2 (by rw [k4]; exact hd)).2 x rfl
          intro b k cs
          obtain ⟨e2, a2, w2, q, r⟩ := this b k cs
          exact ⟨e2, a2, w2, q.more k3 v1.next k4 k5, r⟩
        · rename_i r hne
          obtain ⟨v1, w1⟩ := ih _ _ _ _ _ _ he
          refine ⟨v1, fun ρ w a hr ht hd => XE.in_round (wp_mono (w1 ρ w a hr ht hd).1 fun y a' w' hx => ?_)⟩
          obtain ⟨rfl, hx2⟩ := hx
          cases e with
          | norm => exact absurd he (hne _ _)
          | ext j => exact ⟨rfl, hx2⟩
          | ret => exact ⟨rfl, hx2⟩
      exact ⟨main.1, fun ρ w a hr ht hd => ⟨XE.loop_of_in (main.2 ρ w a hr ht hd), fun d e => by cases e; exact main.2 ρ w a hr ht hd⟩⟩
    | rangeFunc _ _ _ _ => cases he
    | scope _ => cases he
    | label _ => cases he
    | goto _ => cases he
    | refuse _ => cases he

/-- A call of a function, from what 'go' makes of it. -/
theorem calls_go (F : FOk P B funs orc idf) {n : Nat} {f : FuncId} {args : List CV} {us : List Value} (he : callGo P funs orc idf n f args s = some (v, s')) (h : HRel B ρ s w) (ha : denL ρ args = some us) : CallV P B ρ s w f us v s' :=
  ((call_ok F (go_ok F n)) f args s v s' he).2 ρ w us h ha
end
end
end Go.XR
