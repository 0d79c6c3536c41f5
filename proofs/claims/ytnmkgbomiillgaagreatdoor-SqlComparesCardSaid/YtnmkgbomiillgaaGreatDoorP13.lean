/- Part 13 of the proof. -/
import Derived.Test.YtnmkgbomiillgaaGreatDoorP12
import Derived.Test.YtnmkgbomiillgaaGreatDoorP09
/- The concrete evaluator: regions whose order is drawn, in any order. -/
namespace Go.XR
section
variable {P : Program} {B w w' : World} {ρ ρ' : Pm} {s s' : VS} {t t' : Tr CV} {a : Act} {o : Oper} {v x y : CV} {callF : FuncId → List CV → VS → Res}

theorem waits_back {all : List Oper} (hb : ∀ (i : Nat) (o : Oper), all[i]? = some o → ∀ e ∈ o.after.toList, Region.binds .any e = true → e.on < i) : ∀ i j, Nat.testBit ((XE.waitMasks all []).getD i 0) j = true → j < i := by
  intro i
  induction i using Nat.strongRecOn with
  | _ i ih =>
    intro j hj
    cases ho : all[i]? with
    | none =>
      exfalso
      have hl : (XE.waitMasks all []).length = all.length := by
        have : ∀ (l : List Oper) (acc : List Nat), (XE.waitMasks l acc).length = acc.length + l.length := by
          intro l
          induction l with
          | nil => intro acc; simp [XE.waitMasks]
          | cons o r ih => intro acc; simp only [XE.waitMasks]; rw [ih]; simp; omega
        simpa using this all []
      rw [List.getD_eq_getElem?_getD, List.getElem?_eq_none (by rw [hl]; exact List.getElem?_eq_none_iff.1 ho)] at hj
      simp at hj
    | some o =>
      obtain ⟨e, e1, e2, e3⟩ := XE.masks_ok all [] i o ho j (by simpa using hj)
      have h1 := hb i o ho e e1 e2
      rcases e3 with rfl | e3
      · exact h1
      · have := ih e.on h1 j e3; omega
theorem fids_ok : ∀ (l : List Oper) (n : Nat), (fidsC l n).length = l.length ∧ (∀ (i b : Nat), ((fidsC l n)[i]?).join = some b → n ≤ b ∧ b < (floatsC P l s).next + n - s.next) ∧ s.next ≤ (floatsC P l s).next ∧ ∀ (i i' b : Nat), i < i' → ((fidsC l n)[i]?).join = some b → ((fidsC l n)[i']?).join ≠ some b := by
  intro l
  induction l generalizing s with
  | nil => exact fun n => ⟨rfl, fun i b h => by simp [fidsC] at h, Nat.le_refl _, fun i i' b _ h => by simp [fidsC] at h⟩
  | cons o r ih =>
    intro n
    have other : (∀ et, o.op ≠ .alloc et) → fidsC (o :: r) n = none :: fidsC r n ∧ floatsC P (o :: r) s = floatsC P r s := fun h => by
      constructor
      · simp only [fidsC]
        all_goals (split <;> first | (rename_i e; exact absurd e (h _)) | rfl)
      · simp only [floatsC]
        all_goals (split <;> first | (rename_i e; exact absurd e (h _)) | rfl)
    by_cases hal : ∃ et, o.op = .alloc et
    · obtain ⟨et, ho⟩ := hal
      have e1 : fidsC (o :: r) n = some n :: fidsC r (n + 1) := by simp only [fidsC, ho]
      obtain ⟨s2, e2, e3⟩ : ∃ s2 : VS, floatsC P (o :: r) s = floatsC P r s2 ∧ s2.next = s.next + 1 := by
        simp only [floatsC, ho]
        refine ⟨_, rfl, ?_⟩
        split <;> rfl
      obtain ⟨h1, h2, h3, h4⟩ := ih (s := s2) (n + 1)
      rw [e1, e2]
      refine ⟨by simp [h1], fun i b hb => ?_, by omega, fun i i' b hi hb hb' => ?_⟩
      · cases i with
        | zero => simp at hb; omega
        | succ i => have := h2 i b (by simpa using hb); omega
      · cases i' with
        | zero => omega
        | succ i' =>
          cases i with
          | zero =>
            simp at hb
            have := h2 i' b (by simpa using hb')
            omega
          | succ i => exact h4 i i' b (by omega) (by simpa using hb) (by simpa using hb')
    · obtain ⟨e1, e2⟩ := other fun et h => hal ⟨et, h⟩
      obtain ⟨h1, h2, h3, h4⟩ := ih (s := s) n
      rw [e1, e2]
      refine ⟨by simp [h1], fun i b hb => ?_, h3, fun i i' b hi hb hb' => ?_⟩
      · cases i with
        | zero => simp at hb
        | succ i => exact h2 i b (by simpa using hb)
      · cases i' with
        | zero => omega
        | succ i' =>
          cases i with
          | zero => simp at hb
          | succ i => exact h4 i i' b (by omega) (by simpa using hb) (by simpa using hb')
theorem floats_rel : ∀ (l : List Oper) {s : VS}, HRel B ρ s w → HRel B ρ (floatsC P l s) w ∧ Ev s (floatsC P l s)
  | [], s, h => ⟨h, .refl _⟩
  | o :: r, s, h => by
    simp only [floatsC]
    split
    · split
      · obtain ⟨h1, h2⟩ := floats_rel r (h.virt (some ⟨_, _, true, false⟩))
        exact ⟨h1, (Ev.new _ _).trans h2⟩
      · obtain ⟨h1, h2⟩ := floats_rel r (h.virt none)
        exact ⟨h1, (Ev.new _ _).trans h2⟩
    · exact floats_rel r h
theorem floats_ev : ∀ (l : List Oper) {s : VS}, Ev s (floatsC P l s)
  | [], s => .refl _
  | o :: r, s => by
    simp only [floatsC]
    split
    · split
      · exact (Ev.new _ _).trans (floats_ev r)
      · exact (Ev.new _ _).trans (floats_ev r)
    · exact floats_ev r
/-- What is known of a region whose order is drawn. -/
structure DF (P : Program) (callF : FuncId → List CV → VS → Res) (all : List Oper) (fids : List (Option Nat)) (sts : List Stp) (H : List VS) (T : Nat → Tr CV) (S : Nat → VS) (nx : Nat) : Prop where
  len : sts.length = all.length
  step : ∀ (i : Nat) (o : Oper), all[i]? = some o → ∃ x, sts[i]? = some x ∧ x.t = T i ∧ stepC P callF all o (fids[i]?).join (T i) (S i) = some (x.v, S (i + 1)) ∧ T (i + 1) = putC (T i) o.dst x.v ∧ (x.eff = false → S (i + 1) = S i)
  heap : ∀ k, k ≤ all.length → H[countE (fun q => decide (q < k)) 0 sts]? = some (S k)
  num : H.length = countE (fun _ => true) 0 sts + 1
  back : ∀ (i : Nat) (o : Oper), all[i]? = some o → ∀ e ∈ o.after.toList, Region.binds .any e = true → e.on < i
  apart : ∀ (i : Nat) (o : Oper) (q : Nat) (o' : Oper), all[i]? = some o → all[q]? = some o' → q ≠ i → ∀ d, o'.dst = some d → o.dst ≠ some d ∧ (d ∈ slotsOf all o → Nat.testBit ((XE.waitMasks all []).getD i 0) q = true ∨ Nat.testBit ((XE.waitMasks all []).getD q 0) i = true)
  effs : ∀ (i q : Nat) (x y : Stp), sts[i]? = some x → x.eff = true → sts[q]? = some y → y.eff = true → q ≠ i → Nat.testBit ((XE.waitMasks all []).getD i 0) q = true ∨ Nat.testBit ((XE.waitMasks all []).getD q 0) i = true
  quiet : ∀ (i : Nat) (o : Oper) (x : Stp), all[i]? = some o → sts[i]? = some x → x.eff = false → ∀ (j : Nat) (h : VS), countE (fun q => Nat.testBit ((XE.waitMasks all []).getD i 0) q) 0 sts ≤ j → j + countE (fun q => Nat.testBit ((XE.waitMasks all []).getD q 0) i) 0 sts < H.length → H[j]? = some h → stepC P callF all o (fids[i]?).join (T i) h = some (x.v, h)
  fid : ∀ (i b : Nat), (fids[i]?).join = some b → nx ≤ b ∧ (∀ (j : Nat) (h : VS), H[j]? = some h → b < h.next) ∧ ∀ (i' b' : Nat), i' ≠ i → (fids[i']?).join = some b' → b' ≠ b
  next : ∀ (j : Nat) (h : VS), H[j]? = some h → nx ≤ h.next
theorem trace_next {all : List Oper} {fids : List (Option Nat)} (hC : CallOk P B callF) : ∀ {l : List Oper} {i : Nat} {t : Tr CV} {s : VS} {sts : List Stp} {hs : List VS} {t' : Tr CV} {s' : VS}, traceC P callF all fids i l t s = some (sts, hs, t', s') → Ev s s' ∧ ∀ h ∈ hs, s.next ≤ h.next
  | [], _, t, s, sts, hs, t', s', h => by cases h; exact ⟨.refl _, fun h hm => by cases hm⟩
  | o :: r, i, t, s, sts, hs, t', s', h => by
    simp only [traceC] at h
    split at h
    · rename_i v s1 hst
      split at h
      · rename_i st hs1 t1 s2 hr
        obtain ⟨h1, h2⟩ := trace_next hC hr
        have hev := stepC_ev hC hst
        cases hv : Nat.beq s.ver s1.ver with
        | true =>
          rw [hv] at h
          cases h
          exact ⟨hev.trans h1, fun q hq => Nat.le_trans hev.next (h2 q hq)⟩
        | false =>
          rw [hv] at h
          cases h
          refine ⟨hev.trans h1, fun q hq => ?_⟩
          rcases List.mem_cons.1 hq with rfl | hq
          · exact hev.next
          · exact Nat.le_trans hev.next (h2 q hq)
      · cases h
    · cases h
theorem draw_ev (hC : CallOk P B callF) {all : List Oper} (h : drawC P callF all t s = some (t', s')) : Ev s s' := by
  unfold drawC at h
  split at h
  · rename_i sts hs t1 s1 htr
    simp only [Bool.cond_eq_ite] at h
    split at h
    · cases h
      exact (floats_ev all).trans (trace_next hC htr).1
    · cases h
  · cases h
theorem draw_facts (hC : CallOk P B callF) {all : List Oper} (h : drawC P callF all t s = some (t', s')) : ∃ (sts : List Stp) (hs : List VS) (T : Nat → Tr CV) (S : Nat → VS), T 0 = t ∧ S 0 = floatsC P all s ∧ T all.length = t' ∧ S all.length = s' ∧ DF P callF all (fidsC all s.next) sts (floatsC P all s :: hs) T S s.next := by
  unfold drawC at h
  split at h
  · rename_i sts hs t1 s1 htr
    cases hc : (XE.backOnly all 0 && apartAll all (XE.waitMasks all []) 0 all && quietAll P callF all (fidsC all s.next) (XE.waitMasks all []) sts (floatsC P all s :: hs) 0 0 all sts) with
    | false => rw [hc] at h; cases h
    | true =>
      rw [hc] at h
      cases h
      simp only [Bool.and_eq_true] at hc
      obtain ⟨⟨c1, c2⟩, c3⟩ := hc
      obtain ⟨T, S, h1, h2, h3, h4, tr⟩ := trace_ok hC all 0 t _ sts hs t' s' htr
      obtain ⟨g1, g2⟩ := trace_next hC htr
      obtain ⟨f1, f2, f3, f4⟩ := fids_ok (P := P) (s := s) all s.next
      have hnext : ∀ (j : Nat) (h : VS), (floatsC P all s :: hs)[j]? = some h → (floatsC P all s).next ≤ h.next := fun j h hj => by
        rcases List.mem_cons.1 (List.mem_of_getElem? hj) with rfl | hm
        · exact Nat.le_refl _
        · exact g2 h hm
      refine ⟨sts, hs, T, S, h1, h2, h3, h4, ?_⟩
      refine { len := tr.len, step := fun i o ho => ?_, heap := tr.heap, num := by simp [tr.num], back := fun i o ho e he hb => ?_, apart := fun i o q o' ho ho' hq d hd => ?_, effs := fun i q x y hx hex hy hey hq => ?_, quiet := fun i o x ho hx he j h hlo hhi hj => ?_, fid := fun i b hb => ?_, next := fun j h hj => Nat.le_trans f3 (hnext j h hj) }
      · have := tr.step i o ho
        simpa using this
      · have := XE.backOnly_ok c1 i o ho e he hb
        omega
      · have := apart_one (apart_all c2 i o ho) q o' ho' (by omega) d hd
        simpa using this
      · have hlt : i < all.length := by rw [← tr.len]; exact (List.getElem?_eq_some_iff.1 hx).1
        have := (quiet_ok c3 i all[i] x (by simp [hlt]) hx).1 hex
        have := effB_ok this q y hy hey (by omega)
        simpa using this
      · have h5 := (quiet_ok c3 i o x ho hx).2 he
        simp only [Nat.zero_add] at h5
        obtain ⟨x', k1, k2, k3, k4, k5⟩ := tr.step i o ho
        rw [hx] at k1
        cases k1
        have hi : i ≤ all.length := Nat.le_of_lt (List.getElem?_eq_some_iff.1 ho).1
        by_cases hjc : j = countE (fun q => decide (q < i)) 0 sts
        · have := tr.heap i hi
          rw [← hjc, hj] at this
          cases this
          rw [k5 he] at k3
          simpa using k3
        · have h6 := allAt_ok h5 j h hj (by omega) (by simp only [List.length_cons] at hhi ⊢; omega) (by omega)
          unfold sameAt at h6
          split at h6
          · rename_i v' h' hst
            simp only [Bool.and_eq_true] at h6
            have e1 := beqCV_eq h6.1
            have e2 := Nat.eq_of_beq_eq_true h6.2
            rw [k2] at hst
            have : h' = h := by
              rcases (stepC_ev hC hst).ver with e | e
              · exact e
              · omega
            rw [this, e1] at hst
            exact hst
          · cases h6
      · obtain ⟨b1, b2⟩ := f2 i b hb
        refine ⟨b1, fun j h hj => by have := hnext j h hj; omega, fun i' b' hi hb' e => ?_⟩
        subst e
        rcases Nat.lt_or_gt_of_ne hi with hlt | hlt
        · exact f4 i' i b' hlt hb' hb
        · exact f4 i i' b' hlt hb hb'
  · cases h
section
variable {all : List Oper} {fids : List (Option Nat)} {sts : List Stp} {H : List VS} {T : Nat → Tr CV} {S : Nat → VS} {nx : Nat}
theorem DF.get (D : DF P callF all fids sts H T S nx) : ∀ k, k ≤ all.length → (∀ (i : Nat) (o : Oper) (x : Stp), i < k → all[i]? = some o → sts[i]? = some x → ∀ d, o.dst = some d → (T k).get d = some x.v) ∧ ∀ d, (∀ (i : Nat) (o : Oper), i < k → all[i]? = some o → o.dst ≠ some d) → (T k).get d = (T 0).get d
  | 0, _ => ⟨fun i o x h => by omega, fun _ _ => rfl⟩
  | k + 1, hk => by
    obtain ⟨ih1, ih2⟩ := D.get k (by omega)
    have hok : all[k]? = some all[k] := by simp
    obtain ⟨x, g1, _, _, g4, _⟩ := D.step k all[k] hok
    have hput : ∀ d, (T (k + 1)).get d = if all[k].dst = some d then some x.v else (T k).get d := fun d => by
      rw [g4]
      cases hd : all[k].dst with
      | none => simp [putC]
      | some e =>
        simp only [putC, Tr.get_set, Option.some.injEq]
        by_cases h : d = e
        · rw [if_pos h, if_pos h.symm]
        · rw [if_neg h, if_neg (Ne.symm h)]
    refine ⟨fun i o x' hi ho hx d hd => ?_, fun d hd => ?_⟩
    · rw [hput]
      by_cases e : i = k
      · subst e
        rw [hok] at ho
        cases ho
        rw [g1] at hx
        cases hx
        rw [if_pos hd]
      · rw [if_neg fun h => (D.apart k all[k] i o hok ho e d hd).1 h]
        exact ih1 i o x' (by omega) ho hx d hd
    · rw [hput, if_neg (hd k all[k] (by omega) hok)]
      exact ih2 d fun i o hi ho => hd i o (by omega) ho
/-- How far a run has come. -/
structure DI (B : World) (all : List Oper) (fids : List (Option Nat)) (sts : List Stp) (H : List VS) (t0 : Tr CV) (nx : Nat) (ρ0 : Pm) (listed : Array Bool) (cur : Tr CV) (ρ : Pm) (w : World) (a : Act) : Prop where
  size : listed.size = all.length
  closed : ∀ i, i < all.length → listed.getD i false = true → ∀ j, Nat.testBit ((XE.waitMasks all []).getD i 0) j = true → listed.getD j false = true
  rel : ∃ h, H[countE (fun q => listed.getD q false) 0 sts]? = some h ∧ HRel B ρ h w
  tmps : TRel ρ cur a
  done : ∀ (i : Nat) (o : Oper) (x : Stp), all[i]? = some o → sts[i]? = some x → listed.getD i false = true → ∀ d, o.dst = some d → cur.get d = some x.v
  keep : ∀ d, (∀ (i : Nat) (o : Oper), all[i]? = some o → listed.getD i false = true → o.dst ≠ some d) → cur.get d = t0.get d
  flo : ∀ (i b : Nat), i < all.length → (fids[i]?).join = some b → listed.getD i false = false → ρ b = none
  ext : ∀ x, x < nx → ρ x = ρ0 x
theorem draw_any (hC : CallOk P B callF) (D : DF P callF all fids sts H T S nx) (hfl : fids.length = all.length) {ρ0 : Pm} {a0 : Act} {Q : Exit → Act → World → Prop} (hd0 : DstsIn a0.tmps.size all)
    (hQ : ∀ a w ρ, HRel B ρ (S all.length) w → TRel ρ (T all.length) a → ExtAt nx ρ0 ρ → a.tmps.size = a0.tmps.size → a.defers = a0.defers → Q .normal a w) :
    ∀ (fuel : Nat) (listed : Array Bool) (cur : Tr CV) (ρ : Pm) (a : Act) (w : World), XE.left listed all.length ≤ fuel → DI B all fids sts H (T 0) nx ρ0 listed cur ρ w a → a.tmps.size = a0.tmps.size → a.defers = a0.defers →
      wpAny P .any all.toArray Q fuel listed a w := by
  intro fuel
  have wb := waits_back D.back
  have done : ∀ (listed : Array Bool) (cur : Tr CV) (ρ : Pm) (a : Act) (w : World), DI B all fids sts H (T 0) nx ρ0 listed cur ρ w a → a.tmps.size = a0.tmps.size → a.defers = a0.defers → Region.ready .any all.toArray listed = [] → Q .normal a w := fun listed cur ρ a w I hs hd hr => by
    have hall : ∀ k, k < all.length → listed.getD k false = true := by
      intro k
      induction k using Nat.strongRecOn with
      | _ k ih =>
        intro hk
        cases hb : listed.getD k false with
        | true => rfl
        | false =>
          exfalso
          have : k ∈ Region.ready .any all.toArray listed := XE.mem_ready.2 ⟨by rw [XE.getD_both (by rw [I.size]; exact hk) true false]; exact hb, all[k], by simp [hk], fun e he hb => by
            have h1 := D.back k all[k] (by simp) e he hb
            exact ih e.on h1 (by omega)⟩
          rw [hr] at this; cases this
    obtain ⟨h, h1, h2⟩ := I.rel
    have hcn : countE (fun q => listed.getD q false) 0 sts = countE (fun q => decide (q < all.length)) 0 sts := countE_cong _ _ fun q x hq _ => by
      have hlt : q < all.length := by rw [← D.len]; exact (List.getElem?_eq_some_iff.1 hq).1
      simp only [Nat.zero_add]
      rw [hall q hlt]
      simp [hlt]
    rw [hcn, D.heap _ (Nat.le_refl _)] at h1
    cases h1
    obtain ⟨g1, g2⟩ := D.get all.length (Nat.le_refl _)
    refine hQ a w ρ h2 (fun d => ?_) (fun x hx => I.ext x hx) hs hd
    have : (T all.length).get d = cur.get d := by
      by_cases hex : ∃ (i : Nat) (o : Oper), all[i]? = some o ∧ o.dst = some d
      · obtain ⟨i, o, ho, hd⟩ := hex
        have hlt := (List.getElem?_eq_some_iff.1 ho).1
        obtain ⟨x, k1, _⟩ := D.step i o ho
        rw [g1 i o x hlt ho k1 d hd, I.done i o x ho k1 (hall i hlt) d hd]
      · rw [g2 d fun i o _ ho hd => hex ⟨i, o, ho, hd⟩, I.keep d fun i o ho _ hd => hex ⟨i, o, ho, hd⟩]
    rw [this]
    exact I.tmps d
  induction fuel with
  | zero =>
    intro listed cur ρ a w hle I hs hd
    have hr : Region.ready .any all.toArray listed = [] := by
      cases hq : Region.ready .any all.toArray listed with
      | nil => rfl
      | cons x xs =>
        obtain ⟨h1, o, h2, _⟩ := XE.mem_ready.1 (show x ∈ Region.ready .any all.toArray listed by rw [hq]; exact List.mem_cons_self)
        have hlt : x < all.length := by have := (Array.getElem?_eq_some_iff.1 h2).1; simpa using this
        rw [XE.left_zero all.length (by omega) x hlt] at h1; cases h1
    exact ⟨hr, done listed cur ρ a w I hs hd hr⟩
  | succ fuel ih =>
    intro listed cur ρ a w hle I hs hd
    refine ⟨done listed cur ρ a w I hs hd, fun i hi => ?_⟩
    obtain ⟨h1, o, h2, h3⟩ := XE.mem_ready.1 hi
    have hlt : i < all.length := by have := (Array.getElem?_eq_some_iff.1 h2).1; simpa using this
    have hli : listed.getD i false = false := by rw [XE.getD_both (by rw [I.size]; exact hlt) false true]; exact h1
    have ho : all[i]? = some o := by simpa using h2
    have hwait : ∀ j, Nat.testBit ((XE.waitMasks all []).getD i 0) j = true → listed.getD j false = true := fun j hj => by
      obtain ⟨e, e1, e2, e3⟩ := XE.masks_ok all [] i o ho j (by simpa using hj)
      have hb := D.back i o ho e e1 e2
      have hl := h3 e e1 e2
      rcases e3 with rfl | e3
      · exact hl
      · exact I.closed e.on (by omega) hl j e3
    have hfol : ∀ q, q < all.length → Nat.testBit ((XE.waitMasks all []).getD q 0) i = true → listed.getD q false = false := fun q hq hb => by
      cases hl : listed.getD q false with
      | false => rfl
      | true => rw [I.closed q hq hl i hb] at hli; cases hli
    obtain ⟨x, k1, k2, k3, k4, k5⟩ := D.step i o ho
    obtain ⟨h, j1, j2⟩ := I.rel
    obtain ⟨g1, g2⟩ := D.get i (by omega)
    -- the slots that it looks at
    have hsl : ∀ d ∈ slotsOf all o, cur.get d = (T i).get d := fun d hdm => by
      by_cases hex : ∃ (q : Nat) (o' : Oper), all[q]? = some o' ∧ o'.dst = some d
      · obtain ⟨q, o', ho', hd'⟩ := hex
        have hqlt := (List.getElem?_eq_some_iff.1 ho').1
        have uniq : ∀ (p : Nat) (o'' : Oper), all[p]? = some o'' → o''.dst = some d → p = q := fun p o'' hp hpd => by
          by_cases e : p = q
          · exact e
          · exact absurd hd' (D.apart q o' p o'' ho' hp e d hpd).1
        obtain ⟨x', l1, _⟩ := D.step q o' ho'
        have none_ : listed.getD q false = false → i ≤ q → cur.get d = (T i).get d := fun hq hiq => by
          rw [I.keep d (fun p o'' hp hl hpd => by have := uniq p o'' hp hpd; subst this; rw [hq] at hl; cases hl),
            g2 d fun p o'' hpi hp hpd => by have := uniq p o'' hp hpd; omega]
        by_cases e : q = i
        · subst e
          exact none_ hli (Nat.le_refl _)
        · rcases (D.apart i o q o' ho ho' e d hd').2 hdm with hb | hb
          · rw [I.done q o' x' ho' l1 (hwait q hb) d hd', g1 q o' x' (wb i q hb) ho' l1 d hd']
          · exact none_ (hfol q hqlt hb) (Nat.le_of_lt (wb q i hb))
      · rw [I.keep d fun p o' hp _ hpd => hex ⟨p, o', hp, hpd⟩, g2 d fun p o' _ hp hpd => hex ⟨p, o', hp, hpd⟩]
    -- the step, where the run stands
    have hset : ∀ k b, (listed.setIfInBounds i true).getD k b = if k = i then true else listed.getD k b := fun k b => by
      have hsz : i < listed.size := by rw [I.size]; exact hlt
      rw [XE.set_getD]; by_cases e : k = i <;> simp [e, hsz]
    have hstep : ∃ h', stepC P callF all o (fids[i]?).join cur h = some (x.v, h') ∧ H[countE (fun q => (listed.setIfInBounds i true).getD q false) 0 sts]? = some h' := by
      cases he : x.eff with
      | false =>
        have hcn : countE (fun q => (listed.setIfInBounds i true).getD q false) 0 sts = countE (fun q => listed.getD q false) 0 sts := countE_cong _ _ fun q y hy hye => by
          simp only [Nat.zero_add, hset]
          rw [if_neg]
          rintro rfl
          rw [k1] at hy
          cases hy
          rw [he] at hye; cases hye
        refine ⟨h, ?_, by rw [hcn]; exact j1⟩
        rw [stepC_congr hsl]
        refine D.quiet i o x ho k1 he _ h (countE_mono _ _ fun q y hy hye hq => hwait _ (by simpa using hq)) ?_ j1
        rw [D.num]
        have := countE_disj (f := fun q => listed.getD q false) (g := fun q => Nat.testBit ((XE.waitMasks all []).getD q 0) i) sts 0 fun q y hy hye hf hg => by
          have hq : q < all.length := by rw [← D.len]; exact (List.getElem?_eq_some_iff.1 hy).1
          simp only [Nat.zero_add] at hf hg
          rw [hfol q hq hg] at hf; cases hf
        omega
      | true =>
        have hcur : countE (fun q => listed.getD q false) 0 sts = countE (fun q => decide (q < i)) 0 sts := countE_cong _ _ fun q y hy hye => by
          have hq : q < all.length := by rw [← D.len]; exact (List.getElem?_eq_some_iff.1 hy).1
          simp only [Nat.zero_add]
          by_cases e : q = i
          · subst e; rw [hli]; simp
          · rcases D.effs i q x y k1 he hy hye e with hb | hb
            · rw [hwait q hb]; simp [wb i q hb]
            · have := wb q i hb
              rw [hfol q hq hb]
              simp; omega
        have hnew : countE (fun q => (listed.setIfInBounds i true).getD q false) 0 sts = countE (fun q => listed.getD q false) 0 sts + 1 := by
          refine countE_succ sts 0 i x k1 he ?_ ?_ fun q y hy hye hq => ?_
          · simpa using hli
          · simp [hset]
          · simp only [Nat.zero_add, hset]; rw [if_neg hq]
        have hnew2 : countE (fun q => decide (q < i + 1)) 0 sts = countE (fun q => decide (q < i)) 0 sts + 1 := by
          refine countE_succ sts 0 i x k1 he ?_ ?_ fun q y hy hye hq => ?_
          · simp
          · simp
          · simp only [Nat.zero_add, decide_eq_decide]; omega
        rw [hcur, D.heap i (by omega)] at j1
        cases j1
        refine ⟨S (i + 1), by rw [stepC_congr hsl]; exact k3, ?_⟩
        rw [hnew, hcur, ← hnew2]
        exact D.heap (i + 1) (by omega)
    obtain ⟨h', m1, m2⟩ := hstep
    refine step_ok hC h2 m1 j2 I.tmps (fun b hb => ⟨I.flo i b hlt hb hli, (D.fid i b hb).2.1 _ h j1⟩) fun u w' ρ' n1 n2 n3 n4 => ?_
    have hleft := XE.left_set (by rw [I.size]; exact hlt) h1 all.length
    rw [if_pos hlt] at hleft
    have hdi : ∀ n, o.dst = some n → n < a.tmps.size := fun n e => by rw [hs]; exact hd0 o (List.mem_of_getElem? ho) n e
    refine ih (listed.setIfInBounds i true) (putC cur o.dst x.v) ρ' (a.put o.dst u) w' (by omega) ⟨by simp [I.size], fun p hp hlp j hj => ?_, ⟨h', m2, n2⟩, (I.tmps.mono n3).put n1 hdi, fun p o' x' hp hx' hlp d hd' => ?_, fun d hd' => ?_, fun p b hp hb hlp => ?_, fun z hz => ?_⟩ ((XE.put_size a _ u).trans hs) ((XE.put_defers a _ u).trans hd)
    · rw [hset] at hlp ⊢
      by_cases e : j = i
      · rw [if_pos e]
      · rw [if_neg e]
        by_cases e2 : p = i
        · subst e2; exact hwait j hj
        · rw [if_neg e2] at hlp; exact I.closed p hp hlp j hj
    · rw [hset] at hlp
      by_cases e : p = i
      · subst e
        rw [ho] at hp
        cases hp
        rw [k1] at hx'
        cases hx'
        rw [hd']
        simp [putC, Tr.get_set]
      · rw [if_neg e] at hlp
        have hne := (D.apart i o p o' ho hp e d hd').1
        have := I.done p o' x' hp hx' hlp d hd'
        cases hod : o.dst with
        | none => exact this
        | some d2 =>
          simp only [putC, Tr.get_set]
          rw [if_neg fun h => hne (by rw [hod, h])]
          exact this
    · have h6 : o.dst ≠ some d := hd' i o ho (by rw [hset, if_pos rfl])
      have h7 := I.keep d fun p o' hp hl => hd' p o' hp (by rw [hset]; split <;> first | rfl | exact hl)
      cases hod : o.dst with
      | none => exact h7
      | some d2 =>
        simp only [putC, Tr.get_set]
        rw [if_neg fun h => h6 (by rw [hod, h])]
        exact h7
    · rw [hset] at hlp
      by_cases e : p = i
      · rw [if_pos e] at hlp; cases hlp
      · rw [if_neg e] at hlp
        have hb2 := (D.fid p b hb).2.1 _ h j1
        rw [n4 b hb2 fun hf => (D.fid p b hb).2.2 i b (Ne.symm e) hf rfl]
        exact I.flo p b hp hb hlp
    · rw [n4 z (Nat.lt_of_lt_of_le hz (D.next _ h j1)) fun hf => by have := (D.fid i z hf).1; omega]
      exact I.ext z hz
end
theorem region_draw (hm : P.follows .mixedOrders = true) (hC : CallOk P B callF) {id : Nat} {ops : Array Oper} {Q : Exit → Act → World → Prop} (h : HRel B ρ s w) (r : TRel ρ t a) (hd : DstsIn a.tmps.size ops.toList) (he : drawC P callF ops.toList t s = some (t', s'))
    (hQ : ∀ a' w' ρ', HRel B ρ' s' w' → TRel ρ' t' a' → ExtAt s.next ρ ρ' → a'.tmps.size = a.tmps.size → a'.defers = a.defers → Q .normal a' w') : (Code.region id ops true).wp P Q a w := by
  obtain ⟨sts, hs, T, S, h1, h2, h3, h4, D⟩ := draw_facts hC he
  obtain ⟨f1, f2, f3, f4⟩ := fids_ok (P := P) (s := s) ops.toList s.next
  refine wp_region_any hm ?_
  have hr0 := (floats_rel (P := P) ops.toList h).1.heap (w' := { w with drawn := w.drawn + 1 }) rfl
  have hrep : ∀ k, (Array.replicate ops.size false).getD k false = false := fun k => by
    simp only [Array.getD_eq_getD_getElem?, Array.getElem?_replicate]
    split <;> rfl
  have key := draw_any hC D f1 (ρ0 := ρ) (a0 := a) (Q := Q) hd (fun a' w' ρ' g1 g2 g3 g4 g5 => hQ a' w' ρ' (by rw [← h4]; exact g1) (by rw [← h3]; exact g2) g3 g4 g5) ops.toList.length (Array.replicate ops.size false) t ρ a { w with drawn := w.drawn + 1 }
    (by rw [show ops.size = ops.toList.length by simp, XE.left_all _ _ (Nat.le_refl _)]; exact Nat.le_refl _)
    ⟨by simp, (fun i _ hl => by rw [hrep] at hl; cases hl), ⟨floatsC P ops.toList s, (by rw [countE_none _ _ fun q x _ _ => hrep _]; rfl), hr0⟩, r, (fun i o x _ _ hl => by rw [hrep] at hl; cases hl), (fun d _ => by rw [h1]), fun i b _ hb _ => h.dom b (f2 i b hb).1, fun _ _ => rfl⟩ rfl rfl
  simpa using key
end
end Go.XR
/- Calls: the arguments. -/
namespace Go.XE
section
variable {P : Program} {G : Nat → Option GV} {Γ : Env} {m : Mem} {s s' : St} {a : Act}

/-! ### Values that name no local object -/
structure Cool (m mc : Mem) : Prop where
  pre : Pre (fun b j => m.C b j ∨ m.K b j) m.w mc.w
  C : ∀ b j, m.C b j → mc.C b j
  CK : ∀ b j, m.C b j ∨ m.K b j → mc.C b j ∨ mc.K b j
def V.cold : V → Bool
  | .bp _ _ _ | .ep _ _ _ _ | .own _ => false
  | _ => true
theorem PAt.cool {mc : Mem} (h : Cool m mc) {d : D} {b o : Nat} (r : PAt m d b o) : PAt mc d b o := by
  obtain ⟨vs, h1, h2, h3⟩ := r
  exact ⟨vs, h1.mono h.pre fun j hj => h3 j (h2.len ▸ hj), h2.mono (h.pre.mono fun _ _ _ hc => .inl hc) h.C, fun j hj => h.CK _ _ (h3 j hj)⟩
theorem GAt.cool {mc : Mem} (h : Cool m mc) : ∀ {v : GV} {g : Nat}, GAt m v g → GAt mc v g
  | .d _, _, r => PAt.cool h r
  | .o _, g, r => ⟨(h.pre.heap (Array.getElem?_eq_some_iff.1 r.1).1 r.2).trans r.1, fun j => h.CK _ _ (r.2 j)⟩
theorem PtrTo.cool {mc : Mem} (h : Cool m mc) {d : D} {v : Value} (r : PtrTo m d v) : PtrTo mc d v := by
  obtain ⟨a, h1, h2, h3⟩ := r
  exact ⟨a, h1, h2, h3.cool h⟩
theorem FunOk.cool {mc : Mem} (h : Cool m mc) {A R : Ty} {g : den A → Option (den R)} {v : Value} (r : FunOk P m A R g v) : FunOk P mc A R g v := by
  obtain ⟨f, caps, h1, h2, h3⟩ := r
  exact ⟨f, caps, h1, h2, fun w' C' hp hc hb x vx y hx hg => h3 w' C' (h.pre.trans hp fun b j _ hs => h.CK b j hs) (fun b j hj => hc b j (h.C b j hj)) hb x vx y hx hg⟩
theorem RV0.cool {mc : Mem} (h : Cool m mc) : ∀ {V : V} {v : Value}, V.cold = true → RV0 P m V v → RV0 P mc V v
  | .bot, _, _, _ => trivial
  | .und, _, _, r => r
  | .nilsl, _, _, r => r
  | .kb _, _, _, r => r
  | .dat _ _, _, _, r => r.mono (h.pre.mono fun _ _ _ hc => .inl hc) h.C
  | .rp _, _, _, r => PtrTo.cool h r
  | .pv _, _, _, r => by
    obtain ⟨a, u, h1, h2, h3, h4, h5⟩ := r
    exact ⟨a, u, h1, h2, h.pre.cell h3 h4, h.CK _ _ h4, h5.cool h⟩
  | .fn _ _, _, _, r => r.elim
  | .fun1 _ _ _, _, _, r => FunOk.cool h r
  | .tup _, _, _, r => by
    obtain ⟨vs, h1, h2⟩ := r
    exact ⟨vs, h1, h2.mono (h.pre.mono fun _ _ _ hc => .inl hc) h.C⟩
/-- Made arrays are frozen. -/
structure Frz (m m1 : Mem) : Prop where
  w : m1.w = m.w
  fr : Fr m m1
  L : m1.L = m.L
  ad : m1.ad = m.ad
  U : m1.U = m.U
  tip : ∀ l e v, (∀ i, l ≠ .obj i) → TipAt m l e v → TipAt m1 l e v
theorem Frz.refl (m : Mem) : Frz m m := ⟨rfl, .refl m, rfl, rfl, rfl, fun _ _ _ _ h => h⟩
theorem Frz.trans {m m1 m2 : Mem} (h : Frz m m1) (k : Frz m1 m2) : Frz m m2 := ⟨k.w.trans h.w, h.fr.trans k.fr, k.L.trans h.L, k.ad.trans h.ad, k.U.trans h.U, fun l e v hl t => k.tip l e v hl (h.tip l e v hl t)⟩
/-- What of a state an argument may change: made arrays, frozen. -/
structure SFrz (s s1 : St) : Prop where
  slots : s1.slots = s.slots
  stips : s1.stips = s.stips
  otips : s1.otips = s.otips
  fresh : s1.fresh = s.fresh
  box : ∀ id d, lookObj id s1.objs = some (.box d) ↔ lookObj id s.objs = some (.box d)
theorem SFrz.refl (s : St) : SFrz s s := ⟨rfl, rfl, rfl, rfl, fun _ _ => .rfl⟩
theorem SFrz.trans {a b c : St} (h : SFrz a b) (k : SFrz b c) : SFrz a c := ⟨k.slots.trans h.slots, k.stips.trans h.stips, k.otips.trans h.otips, k.fresh.trans h.fresh, fun id d => (k.box id d).trans (h.box id d)⟩
theorem SFrz.of_same {a b : St} (h : Same a b) : SFrz a b := ⟨h.slots, h.stips, h.otips, h.fresh, fun id d => by rw [h.objs]⟩
theorem asD_frz {vars : Nat} {tm : Array Value} (r : Rel P G vars m s tm) {V : V} {d : D} {v : Value} (h : runR (asD V) s = some (d, s')) (hv : RV P m V v) :
    ∃ m1, Frz m m1 ∧ Rel P G vars m1 s' tm ∧ RepV m1.w m1.C d.T d.x v ∧ SFrz s s' := by
  cases V with
  | dat e p => obtain ⟨rfl, rfl⟩ := ret_inv h; exact ⟨m, .refl m, r, hv, .refl _⟩
  | kb b =>
    obtain ⟨rfl, rfl⟩ := ret_inv h
    have : v = .bool b := hv
    subst this
    exact ⟨m, .refl m, r, RepV.bool b, .refl _⟩
  | own i =>
    simp only [asD] at h
    obtain ⟨o, s1, h1, h2⟩ := bind_inv h
    obtain ⟨h3, k1⟩ := getO_inv h1
    obtain ⟨hu, hv⟩ := hv
    split at h2
    · rename_i e xs fr
      obtain ⟨_, s2, h4, h5⟩ := bind_inv h2
      obtain ⟨rfl, rfl⟩ := ret_inv h5
      have k2 := setO_inv h4
      obtain ⟨_, ok⟩ := r.objs i _ h3
      obtain ⟨g1, g2, g3, g4, g5, g6, cur, et, g7, g8, g9⟩ := ok
      have wr : Wrote m m.w (m.ad i).b (fun _ => True) := .same g7 fun j _ => g5 j
      have r1 := r.le (le_noObj s i)
      have r2 := r1.write wr (by rw [g3]; exact dead_noObj s i)
      have kp := keeps_write r wr
      have ok2 : ObjOk (m.write m.w (m.ad i).b fun _ => True) i (.arr e xs true) := by
        refine ⟨g1, g2, g3, g4, g5, fun h => (by cases h), cur, et, g7, g8, fun j y hy => ?_⟩
        obtain ⟨us, q1, q2⟩ := g9 j y hy
        exact ⟨us, q1, kp.toTo.rep q2⟩
      have r3 := r2.putObj (id := i) hu ok2 (fun d h => by cases h)
      have hs : Same { s with objs := setObj i (some (.arr e xs true)) s.objs } s' := by
        have := k1.objs
        exact ⟨k2.slots.trans k1.slots, k2.stips.trans k1.stips, k2.objs.trans (by simp only [k1.objs]), k2.otips.trans k1.otips, k2.fresh.trans k1.fresh⟩
      refine ⟨m.write m.w (m.ad i).b fun _ => True, ⟨rfl, .write wr, rfl, rfl, rfl, fun l e v hl t => t.to kp (by rw [g3]; exact hl i)⟩, (r3.le (le_again s i _)).same hs, .inr ⟨rfl, ?_⟩, hs.slots, hs.stips, hs.otips, hs.fresh, fun id d => ?_⟩
      · subst hv
        subst g1
        rw [g2]
        refine ⟨_, _, rfl, Nat.le_refl _, fun h => (by cases h), fun ad had => ?_⟩
        cases had
        refine ⟨rfl, fun j y hy => ?_⟩
        obtain ⟨us, q1, q2⟩ := g9 j y hy
        exact ⟨us, by rw [Nat.zero_add]; exact q1, fun k _ => .inr ⟨rfl, trivial⟩, kp.toTo.rep q2⟩
      · rw [hs.objs, lookObj_setObj]
        by_cases e : id = i
        · subst e; rw [if_pos rfl, h3]; simp
        · rw [if_neg e]
    · exact (fail_inv h2).elim
  | _ => exact (fail_inv h).elim
theorem asT_frz {vars : Nat} {tm : Array Value} (r : Rel P G vars m s tm) {T : Ty} {V : V} {y : den T} {v : Value} (h : runR (asT T V) s = some (y, s')) (hv : RV P m V v) :
    ∃ m1, Frz m m1 ∧ Rel P G vars m1 s' tm ∧ RepV m1.w m1.C T y v ∧ SFrz s s' := by
  unfold asT at h
  split at h
  · obtain ⟨rfl, rfl⟩ := ret_inv h
    have : v = .slice none 0 0 := hv
    subst this
    exact ⟨m, .refl m, r, .inr ⟨rfl, none, 0, rfl, Nat.le_refl _, fun _ => rfl, fun a h => by cases h⟩, .refl _⟩
  · obtain ⟨d, s1, h1, h2⟩ := bind_inv h
    obtain ⟨h3, rfl⟩ := lift_inv h2
    obtain ⟨m1, k1, k2, k3, k4⟩ := asD_frz r h1 hv
    have := as_eq h3
    subst this
    exact ⟨m1, k1, k2, k3, k4⟩
/-- The callee's memory, for the arguments' sake. 'ms': the objects that it may change; 'b': what it sees it may not hand back. -/
structure Suit (m : Mem) (ms : List Nat) (b : Bool) (mc : Mem) : Prop where
  w : mc.w = m.w
  C : ∀ x j, m.C x j → mc.C x j
  CK : ∀ x j, m.C x j ∨ m.K x j → mc.C x j ∨ mc.K x j
  obj : ∀ x id j, m.L x = .obj id → id ∉ ms → mc.C x j ∨ mc.K x j
  lend : b = true → ∀ x id j, m.L x = .obj id → id ∉ ms → mc.C x j
  old : ∀ x j, mc.C x j ∨ mc.K x j → x < m.w.heap.size
theorem Suit.cool {ms : List Nat} {b : Bool} {mc : Mem} (h : Suit m ms b mc) : Cool m mc := ⟨by rw [h.w]; exact .refl _ _, h.C, h.CK⟩
theorem Suit.frz {ms : List Nat} {b : Bool} {m1 mc : Mem} (f : Frz m m1) (h : Suit m1 ms b mc) : Suit m ms b mc :=
  ⟨h.w.trans f.w, fun x j hc => h.C x j (f.fr.to.C x j hc), fun x j hc => h.CK x j (hc.imp (f.fr.to.C x j) fun q => by rw [f.fr.to.K]; exact q), fun x id j hl => h.obj x id j (by rw [f.L]; exact hl), fun hb x id j hl => h.lend hb x id j (by rw [f.L]; exact hl), fun x j hc => by rw [← f.w]; exact h.old x j hc⟩
theorem Suit.weak {ms : List Nat} {b : Bool} {mc : Mem} (h : Suit m ms b mc) : Suit m ms false mc := ⟨h.w, h.C, h.CK, h.obj, fun e => (by cases e), h.old⟩
theorem peekT_ok {vars : Nat} {tm : Array Value} (r : Rel P G vars m s tm) {ms : List Nat} {T : Ty} {V : V} {y : den T} {v : Value} (h : runR (peekT T V) s = some (y, s')) (hn : notOwnIn ms V = true) (hv : RV P m V v) :
    Same s s' ∧ ∀ mc, Suit m ms true mc → RepV mc.w mc.C T y v := by
  unfold peekT at h
  split at h
  · obtain ⟨rfl, rfl⟩ := ret_inv h
    have : v = .slice none 0 0 := hv
    subst this
    exact ⟨.refl _, fun mc _ => .inr ⟨rfl, none, 0, rfl, Nat.le_refl _, fun _ => rfl, fun a h => by cases h⟩⟩
  · obtain ⟨d, s1, h1, h2⟩ := bind_inv h
    obtain ⟨h3, rfl⟩ := lift_inv h2
    have := as_eq h3
    subst this
    cases V with
    | dat e p =>
      obtain ⟨e2, rfl⟩ := ret_inv h1
      cases e2
      exact ⟨.refl _, fun mc hm => RV0.cool (P := P) (V := .dat ⟨T, y⟩ p) hm.cool rfl hv⟩
    | kb b =>
      obtain ⟨e2, rfl⟩ := ret_inv h1
      cases e2
      have : v = .bool b := hv
      subst this
      exact ⟨.refl _, fun mc _ => RepV.bool b⟩
    | own i =>
      simp only [peekD] at h1
      obtain ⟨o, s1, h4, h5⟩ := bind_inv h1
      obtain ⟨h6, k1⟩ := getO_inv h4
      obtain ⟨hu, hv⟩ := hv
      split at h5
      · rename_i e xs fr
        obtain ⟨e2, rfl⟩ := ret_inv h5
        cases e2
        refine ⟨k1, fun mc hm => .inr ⟨rfl, ?_⟩⟩
        obtain ⟨_, ok⟩ := r.objs i _ h6
        obtain ⟨g1, g2, g3, g4, g5, g6, cur, et, g7, g8, g9⟩ := ok
        subst hv
        subst g1
        rw [g2]
        refine ⟨_, _, rfl, Nat.le_refl _, fun h => (by cases h), fun ad had => ?_⟩
        cases had
        refine ⟨rfl, fun j y hy => ?_⟩
        obtain ⟨us, q1, q2⟩ := g9 j y hy
        have hni : i ∉ ms := fun hi => by
          simp only [notOwnIn, hasN_mem.2 hi] at hn; cases hn
        refine ⟨us, by rw [Nat.zero_add, hm.w]; exact q1, fun k _ => hm.lend rfl _ i _ g3 hni, ?_⟩
        rw [hm.w]
        exact q2.mono (.refl _ _) hm.C
      · exact (fail_inv h5).elim
    | _ => exact (fail_inv h1).elim
theorem argD_ok {vars : Nat} {tm : Array Value} (r : Rel P G vars m s tm) {b : Bool} {ms : List Nat} {T : Ty} {V : V} {y : den T} {v : Value} (h : runR (argD b ms T V) s = some (y, s')) (hv : RV P m V v) :
    ∃ m1, Frz m m1 ∧ Rel P G vars m1 s' tm ∧ SFrz s s' ∧ ∀ mc, Suit m1 ms b mc → RepV mc.w mc.C T y v := by
  cases b with
  | false =>
    obtain ⟨m1, h1, h2, h3, h4⟩ := asT_frz r (show runR (asT T V) s = some (y, s') from h) hv
    exact ⟨m1, h1, h2, h4, fun mc hm => RV0.cool (P := P) (V := .dat ⟨T, y⟩ none) hm.cool rfl h3⟩
  | true =>
    simp only [argD, cond_true, M.guard] at h
    cases hn : notOwnIn ms V with
    | false => rw [hn] at h; exact (fail_inv h).elim
    | true =>
      rw [hn] at h
      obtain ⟨h1, h2⟩ := peekT_ok r (show runR (peekT T V) s = some (y, s') from h) hn hv
      exact ⟨m, .refl m, r.same h1, .of_same h1, h2⟩
theorem part {ms : List Nat} {b : Bool} {mc : Mem} (hm : Suit m ms b mc) {i : Nat} (hi : hasN i ms = false) {x o : Nat} (hL : m.L x = .obj i) {v : Value} (hv : v = .pointer (some ⟨x, o, none⟩)) {cs : List Value} (hc : cellsAt m.w x o cs) {d : D} (hr : Rep m.w m.C d.T d.x cs)
    {T : Ty} {y : den T} (he : d.as T = some y) : PtrTo mc ⟨T, y⟩ v := by
  have := as_eq he
  subst this
  refine ⟨_, hv, rfl, cs, by rw [hm.w]; exact hc, by rw [hm.w]; exact hr.mono (.refl _ _) hm.C, fun j _ => hm.obj _ i _ hL fun hc => ?_⟩
  rw [hasN_mem.2 hc] at hi; cases hi
theorem argP_ok {vars : Nat} {tm : Array Value} (r : Rel P G vars m s tm) {ms : List Nat} {T : Ty} {V : V} {y : den T} {v : Value} (h : runR (argP ms T V) s = some (y, s')) (hv : RV P m V v) :
    Same s s' ∧ ∀ b mc, Suit m ms b mc → PtrTo mc ⟨T, y⟩ v := by
  cases V with
  | rp d =>
    obtain ⟨h3, rfl⟩ := lift_inv h
    have := as_eq h3
    subst this
    exact ⟨.refl _, fun b mc hm => PtrTo.cool hm.cool hv⟩
  | bp i p U =>
    simp only [argP] at h
    cases hi : hasN i ms with
    | true => rw [hi] at h; exact (fail_inv h).elim
    | false =>
      simp only [hi, cond_false] at h
      obtain ⟨q, s1, h1, h2⟩ := bind_inv h
      obtain ⟨h3, rfl⟩ := lift_inv h2
      obtain ⟨k1, b, o, cs, k2, k3, k4, _⟩ := loadP_ok r h1 hv
      obtain ⟨_, o', _, hv2⟩ := hv
      rw [k2] at hv2
      cases hv2
      have hL : m.L (m.ad i).b = .obj i := by
        simp only [loadP] at h1
        obtain ⟨ob, s2, c1, c2⟩ := bind_inv h1
        obtain ⟨c3, _⟩ := getO_inv c1
        split at c2
        · exact (r.objs i _ c3).2.2.1
        · exact (fail_inv c2).elim
      exact ⟨k1, fun b mc hm => part hm hi hL k2 k3 k4 h3⟩
  | ep i n p U =>
    simp only [argP] at h
    cases hi : hasN i ms with
    | true => rw [hi] at h; exact (fail_inv h).elim
    | false =>
      simp only [hi, cond_false] at h
      obtain ⟨q, s1, h1, h2⟩ := bind_inv h
      obtain ⟨h3, rfl⟩ := lift_inv h2
      obtain ⟨k1, b, o, cs, k2, k3, k4, _⟩ := loadP_ok r h1 hv
      obtain ⟨_, _, _, o', _, hv2⟩ := hv
      rw [k2] at hv2
      cases hv2
      have hL : m.L (m.ad i).b = .obj i := by
        simp only [loadP] at h1
        obtain ⟨ob, s2, c1, c2⟩ := bind_inv h1
        obtain ⟨c3, _⟩ := getO_inv c1
        split at c2
        · exact (r.objs i _ c3).2.2.2.1
        · exact (fail_inv c2).elim
      exact ⟨k1, fun b mc hm => part hm hi hL k2 k3 k4 h3⟩
  | _ => exact (fail_inv h).elim
theorem argW_ok {vars : Nat} {tm : Array Value} (r : Rel P G vars m s tm) {ms : List Nat} {T : Ty} {V : V} {y : den T} {v : Value} (h : runR (argW ms T V) s = some (y, s')) (hv : RV P m V v) :
    Same s s' ∧ ∀ b mc, Suit m ms b mc → RV0 P mc (.pv ⟨T, y⟩) v := by
  unfold argW at h
  split at h
  · rename_i d
    obtain ⟨h3, rfl⟩ := lift_inv h
    have := as_eq h3
    subst this
    exact ⟨.refl _, fun b mc hm => RV0.cool (P := P) (V := .pv ⟨T, y⟩) hm.cool rfl hv⟩
  · rename_i i U
    cases hi : hasN i ms with
    | true => rw [hi] at h; exact (fail_inv h).elim
    | false =>
      have hni : i ∉ ms := fun hc => by rw [hasN_mem.2 hc] at hi; cases hi
      simp only [hi, cond_false] at h
      obtain ⟨ob, s1, h1, h2⟩ := bind_inv h
      obtain ⟨h3, k1⟩ := getO_inv h1
      obtain ⟨_, o', g8, rfl⟩ := hv
      simp only [pathOff, Option.some.injEq, Prod.mk.injEq] at g8
      obtain ⟨rfl, _⟩ := g8
      split at h2
      · rename_i d
        obtain ⟨h4, rfl⟩ := lift_inv h2
        have := as_eq h4
        subst this
        obtain ⟨_, g1, g2, u, g3, g4⟩ := r.objs i _ h3
        exact ⟨k1, fun b mc hm => ⟨_, u, rfl, rfl, by rw [hm.w]; exact g3, hm.obj _ i _ g1 hni, g4.cool hm.cool⟩⟩
      · rename_i j q W
        obtain ⟨_, g1, g2, u, g3, g4⟩ := r.objs i _ h3
        have h2' : runR (argP ms T (.bp j q W)) s1 = some (y, s') := h2
        obtain ⟨k2, k3⟩ := argP_ok (r.same k1) h2' (show RV P m (.bp j q W) u from g4)
        exact ⟨k1.trans k2, fun b mc hm => ⟨_, u, rfl, rfl, by rw [hm.w]; exact g3, hm.obj _ i _ g1 hni, k3 b mc hm⟩⟩
      · exact (fail_inv h2).elim
  · exact (fail_inv h).elim
theorem RV.of0 {V : V} {v : Value} (h : RV0 P m V v) : RV P m V v := by
  cases V <;> first | exact h.elim | exact h
theorem RV.to0 {V : V} {v : Value} (h : RV P m V v) (hc : ∀ f cs, V ≠ .fn f cs) : RV0 P m V v := by
  cases V <;> first | exact absurd rfl (hc _ _) | exact h
theorem Frz.to {m1 : Mem} (h : Frz m m1) : m.To m1 := h.fr.to
/-- Arguments that are data. -/
theorem argsC_ok {vars : Nat} {tm : Array Value} {b : Bool} {ms : List Nat} {vs : List V} {vals : List Value} : ∀ {l : List (Nat × SK)} {x : slotsH l} {m : Mem} {s s' : St}, Rel P G vars m s tm → (∀ i, RV P m (nthV vs i) (vals.getD i undef)) → runR (argsC b ms l vs) s = some (x, s') →
    ∃ m1, Frz m m1 ∧ Rel P G vars m1 s' tm ∧ SFrz s s' ∧ ∀ mc, Suit m1 ms b mc → ∀ n V ts, (n, V, ts) ∈ entries l x → V.cold = true ∧ RV0 P mc V (vals.getD n undef)
  | [], x, m, s, s', r, hv, h => by
    obtain ⟨_, rfl⟩ := ret_inv h
    exact ⟨m, .refl m, r, .refl _, fun mc _ n V ts h => by cases h⟩
  | (k, .dat T us) :: l, x, m, s, s', r, hv, h => by
    simp only [argsC] at h
    obtain ⟨y, s1, h1, h2⟩ := bind_inv h
    obtain ⟨m1, k1, k2, k3, k4⟩ := argD_ok r h1 (hv k)
    obtain ⟨z, s2, h3, h4⟩ := bind_inv h2
    obtain ⟨rfl, rfl⟩ := ret_inv h4
    obtain ⟨m2, g1, g2, g3, g4⟩ := argsC_ok k2 (fun i => (hv i).to k1.to) h3
    refine ⟨m2, k1.trans g1, g2, k3.trans g3, fun mc hm n V ts he => ?_⟩
    rcases List.mem_cons.1 he with he | he
    · cases he; exact ⟨rfl, k4 mc (.frz g1 hm)⟩
    · exact g4 mc hm n V ts he
  | (k, .rp T) :: l, x, m, s, s', r, hv, h => by
    simp only [argsC] at h
    obtain ⟨y, s1, h1, h2⟩ := bind_inv h
    obtain ⟨k1, k2⟩ := argP_ok r h1 (hv k)
    obtain ⟨z, s2, h3, h4⟩ := bind_inv h2
    obtain ⟨rfl, rfl⟩ := ret_inv h4
    obtain ⟨m2, g1, g2, g3, g4⟩ := argsC_ok (r.same k1) hv h3
    refine ⟨m2, g1, g2, (SFrz.of_same k1).trans g3, fun mc hm n V ts he => ?_⟩
    rcases List.mem_cons.1 he with he | he
    · cases he; exact ⟨rfl, k2 b mc (.frz g1 hm)⟩
    · exact g4 mc hm n V ts he
  | (k, .pv T) :: l, x, m, s, s', r, hv, h => by
    simp only [argsC] at h
    obtain ⟨y, s1, h1, h2⟩ := bind_inv h
    obtain ⟨k1, k2⟩ := argW_ok r h1 (hv k)
    obtain ⟨z, s2, h3, h4⟩ := bind_inv h2
    obtain ⟨rfl, rfl⟩ := ret_inv h4
    obtain ⟨m2, g1, g2, g3, g4⟩ := argsC_ok (r.same k1) hv h3
    refine ⟨m2, g1, g2, (SFrz.of_same k1).trans g3, fun mc hm n V ts he => ?_⟩
    rcases List.mem_cons.1 he with he | he
    · cases he; exact ⟨rfl, k2 b mc (.frz g1 hm)⟩
    · exact g4 mc hm n V ts he
  | (k, .bp i p T) :: l, x, m, s, s', r, hv, h => (fail_inv h).elim
  | (k, .own i) :: l, x, m, s, s', r, hv, h => (fail_inv h).elim
  | (k, .fun1 A R) :: l, x, m, s, s', r, hv, h => (fail_inv h).elim
  | (k, .fnb _ _) :: l, x, m, s, s', r, hv, h => (fail_inv h).elim
theorem entry_tips {l : List (Nat × SK)} (h : l.all (fun p => p.2.argOk) = true) : ∀ {x : slotsH l} {n : Nat} {V : V} {ts : List Nat}, (n, V, ts) ∈ entries l x → ts = [] := by
  induction l with
  | nil => intro x n V ts h; cases h
  | cons p l ih =>
    obtain ⟨k, sk⟩ := p
    simp only [List.all_cons, Bool.and_eq_true] at h
    intro x n V ts hm
    cases sk <;> (rcases List.mem_cons.1 hm with he | he)
    all_goals first
      | (cases he; rfl)
      | (cases he; exact List.isEmpty_iff.1 h.1)
      | exact ih h.2 he
theorem entry_mem {l : List (Nat × SK)} : ∀ {x : slotsH l} {n : Nat} {V : V} {ts : List Nat}, (n, V, ts) ∈ entries l x → n ∈ l.map (·.1) := by
  induction l with
  | nil => intro x n V ts h; cases h
  | cons p l ih =>
    obtain ⟨k, sk⟩ := p
    intro x n V ts hm
    cases sk <;> (rcases List.mem_cons.1 hm with he | he)
    all_goals first
      | (cases he; exact List.mem_cons_self)
      | exact List.mem_cons_of_mem _ (ih he)
theorem padA_getD (n : Nat) (vals : List Value) (k : Nat) : (padA n vals.toArray).getD k undef = vals.getD k undef := by
  unfold padA
  rw [Array.getD_eq_getD_getElem?, Array.getElem?_append]
  split
  · simp [List.getD_eq_getElem?_getD]
  · rename_i hk
    simp only [List.size_toArray] at hk
    rw [Array.getElem?_replicate, List.getD_eq_getElem?_getD, List.getElem?_eq_none (by omega)]
    split <;> rfl
theorem padA_size (n : Nat) (vals : Array Value) : n ≤ (padA n vals).size := by
  simp [padA]; omega
/-- A closure, given as an argument. -/
theorem fn_fun1 {f : FuncId} {A R : Ty} {ts : List Nat} {l : List (Nat × SK)} {nt nx : Nat} {total : Bool} {tips : List Nat} {F : (⟨(0, .dat A ts) :: l, [], nt, nx⟩ : Skel).H → Option (den R)} (S : Sound P G f ⟨⟨(0, .dat A ts) :: l, [], nt, nx⟩, R, false, total, tips, F⟩)
    {ms : List Nat} {b : Bool} {mc : Mem} (hm : Suit m ms b mc) (hg : ∀ g d, G g = some d → GAt m d g) {ds : slotsH l} {vs : List Value} (hb : ∀ mx, Suit m ms (noSl R) mx → ∀ n V ts, (n, V, ts) ∈ entries l ds → V.cold = true ∧ RV0 P mx V ((undef :: vs).getD n undef)) :
    FunOk P mc A R (fun x => F ((x, ds), ())) (.func (.func f) #[] vs.toArray) := by
  obtain ⟨hE, hok, hS⟩ := S
  refine ⟨f, vs.toArray, rfl, hE, fun w' C' hp hc hbd x vx y hx hy => ?_⟩
  have hsub : ∀ X Y : Cells, (∀ p q, X p q → p < m.w.heap.size ∨ Y p q) → (∀ p q, Y p q → p < w'.heap.size) → ∀ p q, X p q → p < w'.heap.size := fun X Y h1 h2 p q h3 => (h1 p q h3).elim (fun h => Nat.lt_of_lt_of_le h (by rw [← hm.w]; exact hp.size)) (h2 p q)
  let mx : Mem := { mc with C := fun p q => mc.C p q ∨ (noSl R = true ∧ mc.K p q) }
  have hmx : Suit m ms (noSl R) mx := ⟨hm.w, fun p q h => .inl (hm.C p q h), fun p q h => (hm.CK p q h).imp .inl fun h => h, fun p i q h1 h2 => (hm.obj p i q h1 h2).imp .inl fun h => h, fun e p i q h1 h2 => (hm.obj p i q h1 h2).imp (fun h => h) fun h => ⟨e, h⟩, fun p q h => hm.old p q (h.elim (fun h => h.elim .inl fun h => .inr h.2) .inr)⟩
  let m2 : Mem := { w := w', C := fun p q => C' p q ∨ mx.C p q, K := fun p q => p < w'.heap.size, L := fun _ => .no, ad := fun _ => ⟨0, 0, 0, .unit⟩, U := fun _ => False }
  have hCb : ∀ p q, mx.C p q → p < w'.heap.size := fun p q h => Nat.lt_of_lt_of_le (hmx.old p q (.inl h)) (by rw [← hm.w]; exact hp.size)
  have hKb : ∀ p q, mx.C p q ∨ mx.K p q → p < w'.heap.size := fun p q h => Nat.lt_of_lt_of_le (hmx.old p q h) (by rw [← hm.w]; exact hp.size)
  have cool : Cool mx m2 := ⟨hp.mono fun p q _ h => h.elim (fun h => h.elim .inl fun h => .inr h.2) .inr, fun p q h => .inr h, fun p q h => .inr (hKb p q h)⟩
  simp only [Spec.okB, Bool.and_eq_true] at hok
  have hall := hok.1.1
  have rel : Rel P G 0 m2 ((⟨(0, .dat A ts) :: l, [], nt, nx⟩ : Skel).st ((x, ds), ())) (padA nt (#[vx] ++ vs.toArray)) := by
    refine rel_st (fun p q h => h.elim (hbd p q) (hCb p q)) (fun p q h => h) (fun p h => absurd rfl h) (fun g d h => ((hg g d h).cool hmx.cool).cool cool) (padA_size _ _) (fun n V us hm' => ?_) fun id o us hm' => by cases hm'
    have ht := entry_tips hall hm'
    subst ht
    refine ⟨?_, fun d _ off ho => by cases ho⟩
    rw [show (#[vx] ++ vs.toArray) = (vx :: vs).toArray by simp, padA_getD]
    rcases List.mem_cons.1 hm' with he | he
    · cases he
      exact hx.mono (.refl _ _) fun p q h => .inl h
    · obtain ⟨c1, c2⟩ := hb mx hmx n V [] he
      refine RV.of0 ?_
      have c3 := RV0.cool cool c1 c2
      cases n with
      | zero =>
        have h0 := hok.1.2.2
        simp only [List.map_cons, distinctN, Bool.and_eq_true, Bool.not_eq_true'] at h0
        rw [hasN_mem.2 (entry_mem he)] at h0
        cases h0.1
      | succ n => simpa using c3
  refine Calls.mono (hS m2 ((x, ds), ()) y _ rel (fun _ h => h.elim) hy) fun e w'' he => ?_
  obtain ⟨v, rfl, m', e1, fr, b1, b2, ⟨r1, _, _⟩, _⟩ := he
  subst e1
  refine ⟨v, (if noSl R = true then C' else m'.C), rfl, fr.to.pre.mono fun p q hlt _ => .inr hlt, fun p q h => ?_, fun p q h => ?_, fun p q h hlt => ?_, ?_⟩
  · split
    · exact h
    · exact fr.to.C p q (.inl h)
  · split at h
    · exact Nat.lt_of_lt_of_le (hbd p q h) fr.to.pre.size
    · exact b1 p q h
  · split at h
    · exact h
    · rename_i hn
      rcases fr.gC p q h hlt with h1 | h1
      · rcases h1 with h1 | h1 | h1
        · exact h1
        · exact hc p q h1
        · exact absurd h1.1 hn
      · exact absurd hlt h1
  · split
    · rename_i hn
      rcases r1 rfl with ⟨q1, cs, q2, q3⟩ | ⟨q1, q2⟩
      · exact .inl ⟨q1, cs, q2, q3.noSl hn⟩
      · exact .inr ⟨q1, q2.noSl hn⟩
    · exact r1 rfl
theorem argF_ok (hΓ : GOk P G Γ) {vars : Nat} {tm : Array Value} (r : Rel P G vars m s tm) {ms : List Nat} {A R : Ty} {V : V} {g : den A → Option (den R)} {v : Value} (h : runR (argF Γ ms A R V) s = some (g, s')) (hv : RV P m V v) :
    ∃ m1, Frz m m1 ∧ Rel P G vars m1 s' tm ∧ SFrz s s' ∧ ∀ b mc, Suit m1 ms b mc → FunOk P mc A R g v := by
  unfold argF at h
  split at h
  · rename_i A' R' g'
    split at h
    · rename_i e1 e2 _ _
      subst e1
      subst e2
      obtain ⟨rfl, rfl⟩ := ret_inv h
      exact ⟨m, .refl m, r, .refl _, fun b mc hm => FunOk.cool hm.cool hv⟩
    · exact (fail_inv h).elim
  · rename_i f cs
    split at h
    · rename_i A' us l nt nx R' total tips F hF
      split at h
      · rename_i e1 e2 _ _
        subst e1
        subst e2
        obtain ⟨ds, s1, h1, h2⟩ := bind_inv h
        obtain ⟨rfl, rfl⟩ := ret_inv h2
        obtain ⟨ws, rfl, hl, hw⟩ := hv
        obtain ⟨m1, k1, k2, k3, k4⟩ := argsC_ok (vals := undef :: ws) r (fun i => by
          cases i with
          | zero => exact trivial
          | succ i => simpa [nthV] using RV.of0 (hw i)) h1
        exact ⟨m1, k1, k2, k3, fun b mc hm => fn_fun1 (hΓ.Φ f _ hF) hm k2.glob k4⟩
      · exact (fail_inv h).elim
    · exact (fail_inv h).elim
  · exact (fail_inv h).elim
/-- The arguments of a call. -/
theorem argsH_ok (hΓ : GOk P G Γ) {vars : Nat} {tm : Array Value} {b : Bool} {ms : List Nat} {vs : List V} {vals : List Value} : ∀ {l : List (Nat × SK)} {x : slotsH l} {m : Mem} {s s' : St}, Rel P G vars m s tm → (∀ i, RV P m (nthV vs i) (vals.getD i undef)) → runR (argsH Γ b ms l vs) s = some (x, s') →
    ∃ m1, Frz m m1 ∧ Rel P G vars m1 s' tm ∧ SFrz s s' ∧ ∀ mc, Suit m1 ms b mc → ∀ n V ts, (n, V, ts) ∈ entries l x → (∃ i p T, V = .bp i p T ∧ (n, SK.bp i p T) ∈ l) ∨ RV0 P mc V (vals.getD n undef)
  | [], x, m, s, s', r, hv, h => by
    obtain ⟨_, rfl⟩ := ret_inv h
    exact ⟨m, .refl m, r, .refl _, fun mc _ n V ts h => by cases h⟩
  | (k, .dat T us) :: l, x, m, s, s', r, hv, h => by
    simp only [argsH] at h
    obtain ⟨y, s1, h1, h2⟩ := bind_inv h
    obtain ⟨m1, k1, k2, k3, k4⟩ := argD_ok r h1 (hv k)
    obtain ⟨z, s2, h3, h4⟩ := bind_inv h2
    obtain ⟨rfl, rfl⟩ := ret_inv h4
    obtain ⟨m2, g1, g2, g3, g4⟩ := argsH_ok hΓ k2 (fun i => (hv i).to k1.to) h3
    refine ⟨m2, k1.trans g1, g2, k3.trans g3, fun mc hm n V ts he => ?_⟩
    rcases List.mem_cons.1 he with he | he
    · cases he; exact .inr (k4 mc (.frz g1 hm))
    · exact (g4 mc hm n V ts he).imp (fun ⟨i, p, T, e, q⟩ => ⟨i, p, T, e, List.mem_cons_of_mem _ q⟩) id
  | (k, .rp T) :: l, x, m, s, s', r, hv, h => by
    simp only [argsH] at h
    obtain ⟨y, s1, h1, h2⟩ := bind_inv h
    obtain ⟨k1, k2⟩ := argP_ok r h1 (hv k)
    obtain ⟨z, s2, h3, h4⟩ := bind_inv h2
    obtain ⟨rfl, rfl⟩ := ret_inv h4
    obtain ⟨m2, g1, g2, g3, g4⟩ := argsH_ok hΓ (r.same k1) hv h3
    refine ⟨m2, g1, g2, (SFrz.of_same k1).trans g3, fun mc hm n V ts he => ?_⟩
    rcases List.mem_cons.1 he with he | he
    · cases he; exact .inr (k2 b mc (.frz g1 hm))
    · exact (g4 mc hm n V ts he).imp (fun ⟨i, p, T, e, q⟩ => ⟨i, p, T, e, List.mem_cons_of_mem _ q⟩) id
  | (k, .pv T) :: l, x, m, s, s', r, hv, h => by
    simp only [argsH] at h
    obtain ⟨y, s1, h1, h2⟩ := bind_inv h
    obtain ⟨k1, k2⟩ := argW_ok r h1 (hv k)
    obtain ⟨z, s2, h3, h4⟩ := bind_inv h2
    obtain ⟨rfl, rfl⟩ := ret_inv h4
    obtain ⟨m2, g1, g2, g3, g4⟩ := argsH_ok hΓ (r.same k1) hv h3
    refine ⟨m2, g1, g2, (SFrz.of_same k1).trans g3, fun mc hm n V ts he => ?_⟩
    rcases List.mem_cons.1 he with he | he
    · cases he; exact .inr (k2 b mc (.frz g1 hm))
    · exact (g4 mc hm n V ts he).imp (fun ⟨i, p, T, e, q⟩ => ⟨i, p, T, e, List.mem_cons_of_mem _ q⟩) id
  | (k, .bp i p T) :: l, x, m, s, s', r, hv, h => by
    simp only [argsH] at h
    obtain ⟨m2, g1, g2, g3, g4⟩ := argsH_ok hΓ r hv h
    refine ⟨m2, g1, g2, g3, fun mc hm n V ts he => ?_⟩
    rcases List.mem_cons.1 he with he | he
    · cases he; exact .inl ⟨i, p, T, rfl, List.mem_cons_self⟩
    · exact (g4 mc hm n V ts he).imp (fun ⟨i, p, T, e, q⟩ => ⟨i, p, T, e, List.mem_cons_of_mem _ q⟩) id
  | (k, .own i) :: l, x, m, s, s', r, hv, h => (fail_inv h).elim
  | (k, .fnb _ _) :: l, x, m, s, s', r, hv, h => (fail_inv h).elim
  | (k, .fun1 A R) :: l, x, m, s, s', r, hv, h => by
    simp only [argsH] at h
    obtain ⟨y, s1, h1, h2⟩ := bind_inv h
    obtain ⟨m1, k1, k2, k3, k4⟩ := argF_ok hΓ r h1 (hv k)
    obtain ⟨z, s2, h3, h4⟩ := bind_inv h2
    obtain ⟨rfl, rfl⟩ := ret_inv h4
    obtain ⟨m2, g1, g2, g3, g4⟩ := argsH_ok hΓ k2 (fun i => (hv i).to k1.to) h3
    refine ⟨m2, k1.trans g1, g2, k3.trans g3, fun mc hm n V ts he => ?_⟩
    rcases List.mem_cons.1 he with he | he
    · cases he; exact .inr (k4 b mc (.frz g1 hm))
    · exact (g4 mc hm n V ts he).imp (fun ⟨i, p, T, e, q⟩ => ⟨i, p, T, e, List.mem_cons_of_mem _ q⟩) id
end
end Go.XE
