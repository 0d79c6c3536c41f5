/- Part 12 of the proof. -/
import Derived.Test.YtnmkgbomiillgaaGreatDoorP11
import Derived.Lib.Fields
/- Calls that are entered in place. -/
namespace Go.XE
section
variable {P : Program} {G : Nat → Option GV} {Γ Δ : Env} {m : Mem} {s s' : St} {a : Act}

theorem opndV_ok (hΓ : GOk P G Γ) {vars : Nat} (r : Rel P G vars m s a.tmps) {x : Operand} {V : V} (h : opndV Γ s x = some V) : RV P m V (a.eval x) := by
  have : runR (opnd Γ x) s = some (V, (match x with | .tmp t => { s with rd := addLoc (.slot t) s.rd } | _ => s)) := by
    cases x with
    | tmp t => cases h; rfl
    | const c => cases h; rfl
    | func f => cases h; rfl
    | global g =>
      simp only [opndV] at h
      simp only [opnd]
      split at h
      · cases h; rfl
      · cases h
  exact (opnd_ok hΓ r this).2.1
theorem opndsV_ok (hΓ : GOk P G Γ) {vars : Nat} (r : Rel P G vars m s a.tmps) : ∀ {l : List Operand} {vs : List V}, opndsV Γ s l = some vs → vs.length = l.length ∧ ∀ i, RV P m (nthV vs i) ((l.map a.eval).getD i undef)
  | [], vs, h => by cases h; exact ⟨rfl, fun i => by simp [nthV]; trivial⟩
  | x :: l, vs, h => by
    simp only [opndsV] at h
    split at h
    · rename_i v ws h1 h2
      cases h
      obtain ⟨k1, k2⟩ := opndsV_ok hΓ r h2
      refine ⟨by simp [k1], fun i => ?_⟩
      cases i with
      | zero => simpa [nthV] using opndV_ok hΓ r h1
      | succ i => simpa [nthV] using k2 i
    · cases h
theorem lenL_eq {α : Type} : ∀ l : List α, lenL l = l.length
  | [] => rfl
  | _ :: r => by simp [lenL, lenL_eq r]
theorem nthV_app (l r : List V) (n : Nat) : nthV (l ++ r) n = if n < l.length then nthV l n else nthV r (n - l.length) := nthV_append l r n
theorem nthT_clear : ∀ (l : List (List Nat)) (n : Nat), nthT (clearT l) n = []
  | [], _ => rfl
  | _ :: _, 0 => rfl
  | _ :: r, n + 1 => nthT_clear r n
theorem length_clear : ∀ l : List (List Nat), (clearT l).length = l.length
  | [] => rfl
  | _ :: r => by simp [clearT, length_clear r]
theorem nthT_repl (n k : Nat) : nthT (List.replicate n []) k = [] := by
  induction n generalizing k with
  | zero => rfl
  | succ n ih => cases k <;> simp [List.replicate_succ, nthT, ih]
/-- Labels of temporaries are struck. -/
def noTs : Lab → Lab
  | .ts _ _ => .no
  | l => l
theorem RV.strip {V : XE.V} {v : Value} (h : RV P m V v) : RV P m (stripV V) v := by cases V <;> exact h
theorem RV.relabel {ρ : Lab → Lab} {V : XE.V} {v : Value} (h0 : ρ .no = .no) (h : RV P m V v) : RV P (m.relabel ρ) V v := h.to (Fr.relabel m h0).to
/-- The callee's state, at its entry. -/
theorem enter_rel {vars vars' : Nat} {tm : Array Value} (r : Rel P G vars m s tm) {vs : List V} {vals : List Value} (hlen : vs.length ≤ vals.length) (hv : ∀ i, RV P m (nthV vs i) (vals.getD i undef)) (nt n : Nat) :
    Rel P G vars' (m.relabel noTs) (enterSt nt vs s n) (padA nt vals.toArray) := {
  bC := r.bC
  bK := r.bK
  bL b hb := r.bL b fun e => hb (by simp [Mem.relabel, e, noTs])
  glob g d hg := (r.glob g d hg).to (Fr.relabel m rfl).to
  len := by
    simp only [enterSt, List.length_append, length_strip, List.length_replicate, lenL_eq, padA, Array.size_append, Array.size_replicate, List.size_toArray]
    omega
  slots k := by
    rw [padA_getD]
    show RV P _ (nthV (stripVs vs ++ List.replicate (nt - lenL vs) .bot) k) _
    rw [nthV_app]
    split
    · rw [nthV_strip]; exact (hv k).strip.relabel rfl
    · rw [nthV_replicate]; trivial
  stips k d _ off ho := by
    have : nthT (enterSt nt vs s n).stips k = [] := nthT_repl nt k
    rw [this] at ho; cases ho
  objs id o ho := by
    obtain ⟨h1, h2⟩ := r.objs id o ho
    refine ⟨h1, ?_⟩
    have kp : m.Keeps (m.relabel noTs) (fun l => l = .obj id) := ⟨(Fr.relabel m rfl).to, r.bC, fun b hb => r.bL b fun e => hb (by simp [Mem.relabel, e, noTs]), fun b hb => ⟨by simp [Mem.relabel, hb, noTs], rfl, fun _ h => h⟩⟩
    exact h2.to kp h1 rfl
  otips id d hd off ho e he := by
    obtain ⟨v, h1, h2⟩ := r.otips id d hd off ho e he
    exact ⟨v, h1, by have := h2.relabel (ρ := noTs); exact this⟩
  prov hf := by cases hf }

/-! ### Leaves -/
theorem hasLoc_objLocs {l : Loc} : ∀ {r : List Loc}, hasLoc l (objLocs r) = false → (∀ i, l = .obj i ∨ l = .otip i → hasLoc l r = false)
  | [], _, _, _ => rfl
  | k :: r, h, i, hl => by
    have ih := hasLoc_objLocs (l := l) (r := r)
    cases k with
    | obj j =>
      simp only [objLocs, hasLoc, Bool.or_eq_false_iff] at h ⊢
      exact ⟨h.1, ih h.2 i hl⟩
    | otip j =>
      simp only [objLocs, hasLoc, Bool.or_eq_false_iff] at h ⊢
      exact ⟨h.1, ih h.2 i hl⟩
    | slot j => simp only [objLocs] at h; simp only [hasLoc, Bool.or_eq_false_iff]; exact ⟨by rcases hl with rfl | rfl <;> rfl, ih h i hl⟩
    | stip j => simp only [objLocs] at h; simp only [hasLoc, Bool.or_eq_false_iff]; exact ⟨by rcases hl with rfl | rfl <;> rfl, ih h i hl⟩
    | fresh => simp only [objLocs] at h; simp only [hasLoc, Bool.or_eq_false_iff]; exact ⟨by rcases hl with rfl | rfl <;> rfl, ih h i hl⟩
theorem stipLocs_none : ∀ {l : List (List Nat)} {n k : Nat}, hasLoc (.stip (n + k)) (stipLocs l n) = false → nthT l k = []
  | [], _, _, _ => rfl
  | [] :: r, n, 0, _ => rfl
  | [] :: r, n, k + 1, h => stipLocs_none (l := r) (n := n + 1) (k := k) (by rw [show n + 1 + k = n + (k + 1) by omega]; exact h)
  | (x :: y) :: r, n, 0, h => by
    simp only [stipLocs, hasLoc, Bool.or_eq_false_iff] at h
    have := h.1
    simp [Loc.beq] at this
  | (x :: y) :: r, n, k + 1, h => by
    simp only [stipLocs, hasLoc, Bool.or_eq_false_iff] at h
    exact stipLocs_none (l := r) (n := n + 1) (k := k) (by rw [show n + 1 + k = n + (k + 1) by omega]; exact h.2)
theorem leave_agr {S0 t : St} {fn : Func} {o : Oper} {nt n : Nat} {vs : List V} (h : Agr S0 s) (ht : Agr (enterSt nt vs s n) t) : (leaveSt Γ Δ fn o s t).All (Agr S0) := by
  unfold leaveSt
  split
  · trivial
  · rename_i v ts _
    have h1 : Agr S0 { s with stips := clearT s.stips, objs := t.objs, otips := t.otips, fresh := false, next := t.next, dirty := addLocs (objLocs t.dirty) (addLocs (stipLocs s.stips 0) s.dirty), all := s.all || t.all, rd := [], wr := [] } := by
      refine ⟨h.len, ?_⟩
      cases ha : s.all with
      | true => exact .inl (by simp)
      | false =>
        cases hta : t.all with
        | true => exact .inl (by simp)
        | false =>
          have he := h.eq.resolve_left (by rw [ha]; simp)
          have hte := ht.eq.resolve_left (by rw [hta]; simp)
          refine .inr fun l hl => ?_
          obtain ⟨l1, l23⟩ := hasLoc_adds.1 hl
          obtain ⟨l2, l3⟩ := hasLoc_adds.1 l23
          have e0 := he l l3
          cases l with
          | slot k => exact e0
          | stip k =>
            show nthT (clearT s.stips) k = _
            rw [nthT_clear]
            have := stipLocs_none (l := s.stips) (n := 0) (k := k) (by rw [Nat.zero_add]; exact l2)
            have e1 : nthT s.stips k = nthT S0.stips k := e0
            rw [← e1, this]
          | obj k =>
            have e1 : lookObj k t.objs = lookObj k s.objs := hte (.obj k) (hasLoc_objLocs l1 k (.inl rfl))
            show lookObj k t.objs = _
            rw [e1]; exact e0
          | otip k =>
            have e1 : lookT k t.otips = lookT k s.otips := hte (.otip k) (hasLoc_objLocs l1 k (.inr rfl))
            show lookT k t.otips = _
            rw [e1]; exact e0
          | fresh => trivial
    simp only
    split
    · exact h1
    · rename_i d _
      cases Nat.testBit Γ.vars d with
      | true => trivial
      | false =>
        have h2 := (h1.put (.stip d) (.t ts)).put (.slot d) (.v v)
        exact ⟨h2.len, h2.eq.imp id fun he k hk => by have := he k hk; cases k <;> exact this⟩
theorem leave_all {S0 B : St} {d0 : List Loc} {a0 : Bool} {f : St → Out} (hf : ∀ t, Agr B t → (f t).All (Agr S0)) : ∀ {o : Out}, o.All (Agr B) → (o.leave d0 a0 f).All (Agr S0)
  | .norm s, h => hf s h
  | .ret s, h => hf s h
  | .ext _ _, _ => trivial
  | .br c t e, h => by
    have h1 := leave_all (d0 := d0) (a0 := a0) hf h.1
    have h2 := leave_all (d0 := d0) (a0 := a0) hf h.2
    show Out.All _ (cond (joinable (t.leave d0 a0 f) (e.leave d0 a0 f)) (join1 d0 a0 c (e.leave d0 a0 f) (t.leave d0 a0 f)) (.br c (t.leave d0 a0 f) (e.leave d0 a0 f)))
    cases joinable (t.leave d0 a0 f) (e.leave d0 a0 f) with
    | true => exact join1_all0 h2 h1
    | false => exact ⟨h1, h2⟩
  | .need c o, h => leave_all hf (o := o) h
  | .opt d o k, h => fun x => leave_all hf (h x)
  | .bad, _ => trivial
def Leaf.left (f : St → Out) : Leaf → Option Leaf
  | .norm s => (f s).res
  | .ret s => (f s).res
  | .ext _ _ => none
theorem leave_res {S0 B : St} {d0 : List Loc} {a0 : Bool} {f : St → Out} (hf : ∀ t, Agr B t → (f t).All (Agr S0)) : ∀ {o : Out} {l : Leaf}, o.All (Agr B) → (o.leave d0 a0 f).res = some l → ∃ l0 l1, o.res = some l0 ∧ l0.left f = some l1 ∧ LeafLe S0.slots.length l1 l
  | .norm s, l, h, e => ⟨_, l, rfl, e, .refl _ _⟩
  | .ret s, l, h, e => ⟨_, l, rfl, e, .refl _ _⟩
  | .ext _ _, _, _, e => by cases e
  | .br c t g, l, h, e => by
    have h1 := leave_all (d0 := d0) (a0 := a0) hf h.1
    have h2 := leave_all (d0 := d0) (a0 := a0) hf h.2
    have main : ∃ l1, (cond c (t.leave d0 a0 f) (g.leave d0 a0 f)).res = some l1 ∧ LeafLe S0.slots.length l1 l := by
      replace e : (cond (joinable (t.leave d0 a0 f) (g.leave d0 a0 f)) (join1 d0 a0 c (g.leave d0 a0 f) (t.leave d0 a0 f)) (.br c (t.leave d0 a0 f) (g.leave d0 a0 f))).res = some l := e
      cases hj : joinable (t.leave d0 a0 f) (g.leave d0 a0 f) with
      | true => rw [hj] at e; exact join1_res h1 h2 e
      | false =>
        rw [hj] at e
        cases c with
        | true => exact ⟨l, e, .refl _ _⟩
        | false => exact ⟨l, e, .refl _ _⟩
    obtain ⟨l1, m1, m2⟩ := main
    cases c with
    | true =>
      obtain ⟨l0, l2, g1, g2, g3⟩ := leave_res hf (o := t) h.1 m1
      exact ⟨l0, l2, g1, g2, g3.trans m2⟩
    | false =>
      obtain ⟨l0, l2, g1, g2, g3⟩ := leave_res hf (o := g) h.2 m1
      exact ⟨l0, l2, g1, g2, g3.trans m2⟩
  | .need c o, l, h, e => by
    cases c with
    | true => exact leave_res hf (o := o) h e
    | false => cases e
  | .opt d o k, l, h, e => by
    cases o with
    | none => cases e
    | some b => exact leave_res hf (o := k b) (h b) e
  | .bad, _, _, e => by cases e
theorem inl_all (hΔ : HooksAll Δ) {fn : Func} {f : FuncId} {low : Nat} : InlAll (inlRun Γ Δ fn f low) := fun i o S0 s h => by
  unfold inlRun
  split
  · split
    · split
      · rename_i g cs vs _ _
        cases (Nat.beq g f && Nat.ble (s.next + i + 1) low) with
        | false => trivial
        | true => exact leave_all (fun t ht => leave_agr h ht) (evCode_all hΔ _ _ _ (.refl _))
      · trivial
    · trivial
  · trivial

/-! ### Results -/
theorem res_plain (hΓ : GOk P G Γ) {vars : Nat} {tm : Array Value} (r : Rel P G vars m s tm) {x : ResultVar} {d : D × List Nat} (hn : noOwn s [x] = true) (h : resD Γ s x = some d) :
    ∃ v, (getRes tm x).run P m.w = .ok v m.w ∧ RepV m.w m.C d.1.T d.1.x v := by
  cases x with
  | tmp t =>
    have hs := r.slots t
    simp only [resD] at h
    split at h
    · rename_i d' p hV
      cases h
      rw [hV] at hs
      exact ⟨_, rfl, hs⟩
    · rename_i b hV
      cases h
      rw [hV] at hs
      have hb : tm.getD t undef = .bool b := hs
      exact ⟨_, rfl, by rw [hb]; exact RepV.bool b⟩
    · rename_i i hV
      simp only [noOwn, hV, Bool.false_and] at hn
      cases hn
    · cases h
  | cell a t =>
    obtain ⟨m1, s1, v, k1, _, _, k4, k5, _⟩ := res_one hΓ r h
    -- a cell freezes nothing: its reading stands in the memory as it is
    have hs := r.slots a
    simp only [resD] at h
    split at h
    · rename_i i p T hV
      rw [hV] at hs
      split at h
      · rename_i d' U ho hU
        split at h
        · rename_i y q e hg hq ht
          obtain ⟨e⟩ := e
          subst e
          cases h
          obtain ⟨hu, g1, g2, cur, et, us, g3, g4, g5, g6, g7⟩ := r.objs i _ ho
          obtain ⟨_, o', c1, c2⟩ := hs
          rw [g1, hq] at c1
          simp only [Option.some.injEq] at c1
          subst c1
          obtain ⟨o2, b1, b2⟩ := g6.getp hg
          rw [hq] at b1
          simp only [Option.some.injEq, Prod.mk.injEq] at b1
          obtain ⟨rfl, hT⟩ := b1
          obtain ⟨Y, y⟩ := y
          simp only at hT b2 hg
          subst hT
          have hrun := run_loadVar (P := P) (hΓ.τ t _ hU) (g5.sub o' U.size) b2
          refine ⟨toV U ((us.drop o').take U.size), ?_, (RepV.of b2).1⟩
          simp only [getRes, Sem.run_bind, c2, asAddr, Sem.run_pure, Result.andThen_ok]
          exact hrun
        · cases h
      · cases h
    · cases h
theorem noOwn_cons {x : ResultVar} {l : List ResultVar} (h : noOwn s (x :: l) = true) : noOwn s [x] = true ∧ noOwn s l = true := by
  cases x with
  | tmp t =>
    simp only [noOwn, Bool.and_eq_true] at h ⊢
    exact ⟨⟨h.1, trivial⟩, h.2⟩
  | cell a t => exact ⟨rfl, h⟩
theorem res_plains (hΓ : GOk P G Γ) {vars : Nat} {tm : Array Value} (r : Rel P G vars m s tm) : ∀ {l : List ResultVar} {ds : List (D × List Nat)}, noOwn s l = true → resL Γ s l = some ds →
    ∃ vs, (l.mapM (getRes tm)).run P m.w = .ok vs m.w ∧ RepT m.w m.C (packD ds).1.T (packD ds).1.x vs ∧ vs.length = l.length ∧ ds.length = l.length ∧ ∀ d v, ds = [d] → vs = [v] → RepV m.w m.C d.1.T d.1.x v
  | [], ds, _, h => by
    cases h
    exact ⟨[], rfl, rfl, rfl, rfl, fun d v e => (by cases e)⟩
  | x :: l, ds, hn, h => by
    obtain ⟨n1, n2⟩ := noOwn_cons hn
    simp only [resL] at h
    split at h
    · rename_i d ds' h1 h2
      cases h
      obtain ⟨v, k1, k2⟩ := res_plain hΓ r n1 h1
      obtain ⟨vs, g1, g2, g3, g4, _⟩ := res_plains hΓ r n2 h2
      refine ⟨v :: vs, ?_, ⟨v, vs, rfl, k2, g2⟩, by simp [g3], by simp [g4], fun d' v' e1 e2 => ?_⟩
      · simp only [List.mapM_cons, Sem.run_bind, k1, Result.andThen_ok, g1, Sem.run_pure]
      · cases e1; cases e2; exact k2
    · cases h
def onlyTs (r : Nat) : Lab → Lab
  | .ts n off => if n = r then .fl 0 off else .no
  | l => l
/-- What stays of the labels. -/
structure Mild (ρ : Lab → Lab) : Prop where
  no : ρ .no = .no
  obj : ∀ i, ρ (.obj i) = .obj i
  to : ∀ i off, ρ (.to i off) = .to i off
theorem resV_ok (hΓ : GOk P G Γ) {vars : Nat} {tm : Array Value} (r : Rel P G vars m s tm) {fn : Func} {V : XE.V} {ts : List Nat} (h : resV Γ fn s = some (V, ts)) :
    ∃ v ρ, (results fn tm).run P m.w = .ok v m.w ∧ Mild ρ ∧ RV P m V v ∧ (∀ D, datOf V = some D → TipsAt (m.relabel ρ) (.fl 0) D.T (tcells v) ts) ∧ ∀ D p, V ≠ .dat D (some p) := by
  have mild0 : Mild noTs := ⟨rfl, fun _ => rfl, fun _ _ => rfl⟩
  unfold resV at h
  split at h
  · rename_i t hres
    have hrun : (results fn tm).run P m.w = .ok (tm.getD t undef) m.w := by
      have : fn.results = #[.tmp t] := by apply Array.ext'; simpa using hres
      exact results_tmp this tm P m.w
    have hs := r.slots t
    have ht := r.stips t
    have plain : ∀ V', nthV s.slots t = V' → some (V', ([] : List Nat)) = some (V, ts) → (∀ D p, V' ≠ .dat D (some p)) → ∃ v ρ, (results fn tm).run P m.w = .ok v m.w ∧ Mild ρ ∧ RV P m V v ∧ (∀ D, datOf V = some D → TipsAt (m.relabel ρ) (.fl 0) D.T (tcells v) ts) ∧ ∀ D p, V ≠ .dat D (some p) := fun V' e h hp => by
      cases h
      rw [e] at hs
      exact ⟨_, noTs, hrun, mild0, hs, fun D _ off ho => (by cases ho), hp⟩
    split at h
    · rename_i d p hV
      cases h
      rw [hV] at hs ht
      refine ⟨_, onlyTs t, hrun, ⟨rfl, fun _ => rfl, fun _ _ => rfl⟩, hs, fun D hD off ho e he => ?_, fun D p e => by cases e⟩
      cases hD
      obtain ⟨u, c1, c2⟩ := ht d rfl off ho e he
      refine ⟨u, c1, ?_⟩
      have := c2.relabel (ρ := onlyTs t)
      simpa [onlyTs] using this
    · cases h
    · cases h
    · cases h
    · cases h
    · rename_i n1 _ _ _ _
      exact plain _ rfl h fun D p e => n1 D (some p) e
  · rename_i l _
    cases hno : noOwn s fn.results.toList with
    | false => rw [hno] at h; cases h
    | true =>
      rw [hno, cond_true] at h
      cases hr : resL Γ s fn.results.toList with
      | none => rw [hr] at h; cases h
      | some ds =>
        rw [hr] at h
        obtain ⟨vs, k1, k2, k3, k4, k5⟩ := res_plains hΓ r hno hr
        have hrun := run_results k1
        match ds, h with
        | [x], h =>
          cases h
          have hl : vs.length = 1 := by rw [k3, ← k4]; rfl
          match vs, hl with
          | [v], _ => exact ⟨v, noTs, hrun, mild0, k5 x v rfl rfl, fun D _ off ho => (by cases ho), fun D p e => by cases e⟩
        | [], h =>
          cases h
          have hl : vs.length ≠ 1 := by rw [k3, ← k4]; simp
          rw [dif_neg hl] at hrun
          exact ⟨_, noTs, hrun, mild0, ⟨_, rfl, k2⟩, fun D _ off ho => (by cases ho), fun D p e => by cases e⟩
        | x :: y :: ds, h =>
          cases h
          have hl : vs.length ≠ 1 := by rw [k3, ← k4]; simp
          rw [dif_neg hl] at hrun
          exact ⟨_, noTs, hrun, mild0, ⟨_, rfl, k2⟩, fun D _ off ho => (by cases ho), fun D p e => by cases e⟩
/-- Back in the caller's state. -/
theorem leave_rel {vars vars' low : Nat} {tm tm' : Array Value} {t : St} {m1 : Mem} {ρ : Lab → Lab} (r : Rel P G vars m s tm) (hU : ∀ id, m.U id → id < low) (r1 : Rel P G vars' m1 t tm') (f1 : FrL low (m.relabel noTs) m1) (hρ : Mild ρ) (dl : List Loc) (al : Bool) :
    Rel P G vars (m1.relabel ρ) { s with stips := clearT s.stips, objs := t.objs, otips := t.otips, fresh := false, next := t.next, dirty := dl, all := al, rd := [], wr := [] } tm ∧ Fr m (m1.relabel ρ) := by
  have to1 : m.To (m1.relabel ρ) := ⟨f1.pre, f1.C, f1.K, fun id hu => (f1.ad id (hU id hu) hu).2, fun id hu => (f1.ad id (hU id hu) hu).1⟩
  have to2 : m1.To (m1.relabel ρ) := (Fr.relabel m1 hρ.no).to
  refine ⟨⟨r1.bC, r1.bK, fun b hb => r1.bL b fun e => hb (by simp [Mem.relabel, e, hρ.no]), fun g d hg => (r1.glob g d hg).to to2, r.len, fun n => (r.slots n).to to1, fun n d _ off ho => ?_, fun id o ho => ?_, fun id d hd off ho e he => ?_, fun hf => by cases hf⟩, ⟨to1, f1.gC, fun b hb hl => ?_⟩⟩
  · have : nthT (clearT s.stips) n = [] := nthT_clear s.stips n
    replace ho : off ∈ nthT (clearT s.stips) n := ho
    rw [this] at ho; cases ho
  · obtain ⟨h1, h2⟩ := r1.objs id o ho
    refine ⟨h1, ?_⟩
    have kp : m1.Keeps (m1.relabel ρ) (fun l => l = .obj id) := ⟨to2, r1.bC, fun b hb => r1.bL b fun e => hb (by simp [Mem.relabel, e, hρ.no]), fun b hb => ⟨by simp [Mem.relabel, hb, hρ.obj], rfl, fun _ h => h⟩⟩
    exact h2.to kp h1 rfl
  · obtain ⟨v, h1, h2⟩ := r1.otips id d hd off ho e he
    refine ⟨v, h1, ?_⟩
    have := h2.relabel (ρ := ρ)
    rwa [hρ.to] at this
  · have h1 : (m.relabel noTs).L b = .no := by simp [Mem.relabel, hl, noTs]
    have h2 := f1.no b hb h1
    simp [Mem.relabel, h2, hρ.no]
theorem inl_ok (hm : P.follows .mixedOrders = true) (hΓ : GOk P G Γ) {Δ : Nat → Env} {k vars low : Nat} {f : FuncId} {fn : Func} {tbl : List LoopE} (hf : P.funcs[f]? = some fn) (hE : Enter P f) (L : Loops Δ vars low tbl fn (bodyOf fn))
    (hΔ : ∀ j, j ≤ k → GOk P G (Δ j)) (hI : ∀ j, j ≤ k → ∀ id i h, (Δ j).inls id i = some h → InlOk P G (Δ j) h) : InlOk P G Γ (inlRun Γ (Δ k) fn f low) := fun i o m s a leaf r hU hres => by
  unfold inlRun at hres
  split at hres
  · rename_i c ho
    split at hres
    · rename_i x hc
      split at hres
      · rename_i g cs vs h1 h2
        cases hcond : (Nat.beq g f && Nat.ble (s.next + i + 1) low) with
        | false => rw [hcond] at hres; cases hres
        | true =>
          rw [hcond, cond_true] at hres
          simp only [Bool.and_eq_true, Nat.ble_eq] at hcond
          have hgf := Nat.eq_of_beq_eq_true hcond.1
          subst hgf
          have hA := L.all k
          obtain ⟨l0, l1, q1, q2, q3⟩ := leave_res (S0 := s) (B := enterSt fn.ntmps (vs ++ cs) s (s.next + i + 1)) (fun t ht => leave_agr (.refl s) ht) (evCode_all hA _ _ _ (.refl _)) hres
          obtain ⟨ws, hx, hl, hw⟩ := opndV_ok hΓ r h1
          obtain ⟨k4, k5⟩ := opndsV_ok hΓ r h2
          have hv : ∀ i, RV P m (nthV (vs ++ cs) i) ((c.args.toList.map a.eval ++ ws).getD i undef) := fun i => by
            rw [nthV_append, k4, List.getD_eq_getElem?_getD, List.getElem?_append]
            simp only [List.length_map]
            split
            · have := k5 i
              rwa [List.getD_eq_getElem?_getD] at this
            · have := RV.of0 (hw (i - c.args.toList.length))
              rwa [List.getD_eq_getElem?_getD] at this
          have hlow : ∀ id, m.U id → id < low := fun id hid => by have := hU id hid; omega
          have rE := enter_rel (vars' := (Δ k).vars) r (vals := c.args.toList.map a.eval ++ ws) (by simp [k4, hl]) hv fn.ntmps (s.next + i + 1)
          have hR := fun j (hj : j ≤ k) => regOk (P := P) (G := G) hm (hΔ j hj) (fun id i h e => ⟨hI j hj id i h e, L.inls j id i h e⟩) low
          have hcode := code_ok (P := P) (G := G) (Γ := Δ k) (hR k (Nat.le_refl _)) hA (bodyOf fn) (fun c' hc' f' hf' => by
            rw [L.loops] at hf'
            obtain ⟨e', g1, g2, rfl⟩ := loopsOf_some hf'
            exact (loops_ok L k (fun j hj => hR j (Nat.le_of_lt hj)) e' g1 c' (loopsIn_all hc') g2.symm).enter (L.vars k) (L.ok e' g1))
            (m.relabel noTs) _ { tmps := padA fn.ntmps (c.args.toList.map a.eval ++ ws).toArray, defers := [] } l0 rE (fun id hid => by have := hU id hid; show id < s.next + i + 1; omega) q1
          have fin : ∀ t, (leaveSt Γ (Δ k) fn o s t).res = some l1 → ∃ s1, l1 = .norm s1 ∧ ∀ (K : Act → World → Prop), (∀ v m', Rel P G Γ.vars m' s1 (a.put o.dst v).tmps → Fr m m' → (∀ id, m'.U id → id < s1.next) → K (a.put o.dst v) m'.w) →
              ∀ (m1 : Mem) (tm' : Array Value), Rel P G (Δ k).vars m1 t tm' → FrL low (m.relabel noTs) m1 → (∀ id, m1.U id → id < t.next) → ∃ v, (results fn tm').run P m1.w = .ok v m1.w ∧ K (a.put o.dst v) m1.w := fun t ht => by
            unfold leaveSt at ht
            split at ht
            · cases ht
            · rename_i V ts hV
              simp only at ht
              cases hd : o.dst with
              | none =>
                rw [hd] at ht
                cases ht
                refine ⟨_, rfl, fun K hK m1 tm' r1 f1 u1 => ?_⟩
                obtain ⟨v, ρ, e1, e2, _⟩ := resV_ok (hΔ k (Nat.le_refl _)) r1 hV
                obtain ⟨r2, f2⟩ := leave_rel r hlow r1 f1 e2 (addLocs (objLocs t.dirty) (addLocs (stipLocs s.stips 0) s.dirty)) (s.all || t.all)
                exact ⟨v, e1, hK v (m1.relabel ρ) r2 f2 u1⟩
              | some d =>
                rw [hd] at ht
                simp only at ht
                cases hb : Nat.testBit Γ.vars d with
                | true => rw [hb] at ht; cases ht
                | false =>
                  rw [hb] at ht
                  cases ht
                  refine ⟨_, rfl, fun K hK m1 tm' r1 f1 u1 => ?_⟩
                  obtain ⟨v, ρ, e1, e2, e3, e4, e5⟩ := resV_ok (hΔ k (Nat.le_refl _)) r1 hV
                  obtain ⟨r2, f2⟩ := leave_rel r hlow r1 f1 e2 (addLocs (objLocs t.dirty) (addLocs (stipLocs s.stips 0) s.dirty)) (s.all || t.all)
                  obtain ⟨m3, g1, g2, g3, g4⟩ := set_ok (a := a) r2 (d := d) (e3.relabel e2.no) e4 (fun h => by cases h) (fun h => by cases h)
                  refine ⟨v, e1, ?_⟩
                  rw [show m1.w = m3.w from g1.symm]
                  exact hK v m3 (g2.same ⟨rfl, rfl, rfl, rfl, rfl⟩) (f2.trans g3) fun id hid => by rw [g4] at hid; exact u1 id hid
          have fin2 : ∃ s1, l1 = .norm s1 ∧ ∀ (K : Act → World → Prop) (Q : Exit → Act → World → Prop), (∀ v m', Rel P G Γ.vars m' s1 (a.put o.dst v).tmps → Fr m m' → (∀ id, m'.U id → id < s1.next) → K (a.put o.dst v) m'.w) → o.wp P a m.w K Q := by
            have go : ∀ t, l0.st = t → (l0 = .norm t ∨ l0 = .ret t) → (leaveSt Γ (Δ k) fn o s t).res = some l1 → ∃ s1, l1 = .norm s1 ∧ ∀ (K : Act → World → Prop) (Q : Exit → Act → World → Prop), (∀ v m', Rel P G Γ.vars m' s1 (a.put o.dst v).tmps → Fr m m' → (∀ id, m'.U id → id < s1.next) → K (a.put o.dst v) m'.w) → o.wp P a m.w K Q := fun t hst hlt ht => by
              obtain ⟨s1, rfl, hfin⟩ := fin t ht
              refine ⟨s1, rfl, fun K Q hK => ?_⟩
              unfold Oper.wp
              rw [call_run ho hc hx hE, Oper.upon_enter]
              have e1 : c.args.map a.eval ++ ws.toArray = (c.args.toList.map a.eval ++ ws).toArray := by
                apply Array.ext'; simp
              rw [e1]
              refine calls_of_wp hf L.body (wp_mono hcode fun e a' w' hl => ?_)
              obtain ⟨m1, rfl, r1, f1, u1, _, d1, rfl⟩ := hl
              rw [hst] at r1 u1
              obtain ⟨v, g1, g2⟩ := hfin K hK m1 a'.tmps r1 f1 u1
              rcases hlt with rfl | rfl
              · exact ⟨d1, v, g1, g2⟩
              · exact ⟨d1, v, g1, g2⟩
            cases l0 with
            | norm t => exact go t rfl (.inl rfl) q2
            | ret t => exact go t rfl (.inr rfl) q2
            | ext j t => cases q2
          obtain ⟨s1, rfl, hop⟩ := fin2
          cases q3 with
          | norm hle =>
            refine ⟨_, rfl, fun K Q hK => hop K Q fun v m' r' f' u' => hK v m' (r'.stLe hle (by rw [put_size]; exact r.len)) f' fun id hid => ?_⟩
            have := u' id hid
            have := hle.next
            omega
      · cases hres
    · cases hres
  · cases hres

/-! ### The calls of a function that are entered in place -/
def InlAlls : List (Nat × Nat × (Nat → Oper → St → Out)) → Prop
  | [] => True
  | e :: l => InlAll e.2.2 ∧ InlAlls l
def InlOks (P : Program) (G : Nat → Option GV) (Γ : Env) : List (Nat × Nat × (Nat → Oper → St → Out)) → Prop
  | [] => True
  | e :: l => InlOk P G Γ e.2.2 ∧ InlOks P G Γ l
theorem inlAlls_of : ∀ {l : List (Nat × Nat × (Nat → Oper → St → Out))}, InlAlls l → ∀ id i h, inlsOf l id i = some h → InlAll h
  | [], _, id, i, h, e => by cases e
  | (r, j, g) :: l, hl, id, i, h, e => by
    simp only [inlsOf] at e
    cases hb : (Nat.beq r id && Nat.beq j i) with
    | true => rw [hb] at e; cases e; exact hl.1
    | false => rw [hb] at e; exact inlAlls_of hl.2 id i h e
theorem inlOks_of : ∀ {l : List (Nat × Nat × (Nat → Oper → St → Out))}, InlOks P G Γ l → ∀ id i h, inlsOf l id i = some h → InlOk P G Γ h
  | [], _, id, i, h, e => by cases e
  | (r, j, g) :: l, hl, id, i, h, e => by
    simp only [inlsOf] at e
    cases hb : (Nat.beq r id && Nat.beq j i) with
    | true => rw [hb] at e; cases e; exact hl.1
    | false => rw [hb] at e; exact inlOks_of hl.2 id i h e
end
end Go.XE

namespace Go.XE
abbrev errors_errorString : Ty := .pair .str .unit
abbrev sql_printer : Ty := .pair (.sl .str) .unit
abbrev api_KeyField : Ty := .pair .str (.pair .bool .unit)
abbrev api_Record : Ty := .pair .bool errors_errorString
abbrev runtime_errorAddressString : Ty := .pair .str (.pair (.int .u64) .unit)
abbrev api_Value : Ty := .pair (.int .i64) errors_errorString
abbrev api_SqlOrder : Ty := .pair (.int .i64) (.pair .bool .unit)
abbrev utf8_acceptRange : Ty := .pair (.int .u8) (.pair (.int .u8) .unit)
abbrev api_Number : Ty := .pair (.int .i64) (.pair (.int .i64) .unit)
abbrev midrangeref01_Long : Ty := .pair .bool (.pair (.sl (.int .i64)) .unit)
abbrev api_DataType : Ty := .pair (.int .i64) api_Number
abbrev api_Field : Ty := .pair .str (.pair api_DataType .unit)
abbrev api_Format : Ty := .pair .str (.pair (.sl api_Field) .unit)
abbrev api_SqlNode : Ty := .pair (.int .i64) (.pair (.int .i64) (.pair (.int .i64) (.pair .str (.pair .str (.pair (.sl (.int .i64)) .unit)))))
abbrev api_SqlItem : Ty := .pair .str (.pair (.sl api_SqlNode) .unit)
abbrev sql_token : Ty := .pair (.int .i64) (.pair .str (.pair (.int .i64) .unit))
abbrev unicode_Range16 : Ty := .pair (.int .u16) (.pair (.int .u16) (.pair (.int .u16) .unit))
abbrev unicode_Range32 : Ty := .pair (.int .u32) (.pair (.int .u32) (.pair (.int .u32) .unit))
abbrev unicode_RangeTable : Ty := .pair (.sl unicode_Range16) (.pair (.sl unicode_Range32) (.pair (.int .i64) .unit))
abbrev api_File : Ty := .pair .str (.pair api_Format (.pair (.sl api_KeyField) (.pair .bool .unit)))
abbrev api_SqlValue : Ty := .pair (.int .i64) (.pair api_Number errors_errorString)
abbrev sql_evaluator : Ty := .pair (.sl api_File) (.pair (.sl api_SqlNode) (.pair (.sl (.sl (.sl api_SqlValue))) .unit))
abbrev api_SqlSelect : Ty := .pair .bool (.pair (.sl api_SqlItem) (.pair (.sl .str) (.pair (.sl api_SqlNode) (.pair (.sl api_SqlNode) (.pair (.sl api_SqlNode) .unit)))))
abbrev api_SqlQuery : Ty := .pair (.sl api_SqlSelect) (.pair .bool (.pair (.sl api_SqlOrder) .unit))
abbrev runtime_boundsError : Ty := .pair (.int .i64) (.pair (.int .i64) (.pair .bool (.pair (.int .u8) .unit)))
abbrev sql_result : Ty := .pair api_SqlValue (.pair .bool .unit)
abbrev sql_parser : Ty := .pair (.sl sql_token) (.pair (.int .i64) (.pair (.int .i64) (.pair (.int .i64) (.pair (.sl api_SqlNode) .unit))))
abbrev api_Table : Ty := .pair api_File (.pair (.sl api_Record) .unit)
abbrev sql_checker : Ty := .pair (.sl api_File) (.pair .bool (.pair .bool (.pair (.sl api_SqlNode) (.pair (.sl (.int .i64)) (.pair (.sl .bool) .unit)))))
abbrev api_SqlStatement : Ty := .pair (.int .i64) (.pair api_SqlQuery (.pair .str (.pair (.sl .str) (.pair (.sl (.sl api_SqlNode)) (.pair (.sl api_SqlNode) .unit)))))
/-- strings.Fields of bytes below 128. -/
def strings_Fields (s : List UInt8) : Option (List (List UInt8)) := cond (Nat.ble s.length 4294967280 && s.all fun b => Nat.blt b.toNat 128) (some (Go.Lib.fields s)) none
def treeStep (beg : List Int) (nx : Int) (x : Nat × Int) : Option Int := if x.2 = nx then some (beg[x.2.toNat]?.getD 0 - 1) else none
def treePairs (zs : List Int) : List (Nat × Int) := (List.range zs.length).map fun j => (zs.length - 1 - j, zs[zs.length - 1 - j]?.getD 0)
def treeUpto (N : Nat) (es : List (List Int)) : Nat → Option (List Int)
  | 0 => some (List.replicate N 0)
  | k + 1 => (treeUpto N es k).bind fun beg => ((treePairs (es[k]?.getD [])).foldlM (treeStep beg) ((k : Int) - 1)).map fun nx => beg.set k (nx + 1)
def treeB (es : List (List Int)) : Bool := match treeUpto es.length es es.length with
  | some beg => decide (beg[es.length - 1]?.getD 0 = 0)
  | none => false
/-- isTree where each operand stands before its node's number. -/
def sql_isTree (e : List (den api_SqlNode)) : Option Bool :=
  cond (Nat.blt 0 (List.length e) && (Nat.ble (List.length e) 1000 && e.all fun n => Nat.ble (List.length n.2.2.2.2.2.1) 1000 && n.2.2.2.2.2.1.all fun z => decide (0 ≤ z) && decide (z < (List.length e : Int)))) (some (treeB (e.map fun n => n.2.2.2.2.2.1))) none
/-- The run without inputs. -/
def law30_awake : Option Bool := some true
noncomputable def law30_fewExpr.l0 : Nat → (List (den api_SqlNode)) → Int → Option (Bool × (Unit × Unit) × (Bool × Unit) × Unit)
  | 0, _, _ => none
  | k + 1, x0, x3 => (mergeO (decide (x3 < (List.length x0 : Int))) (cond (decide (0 ≤ x3) && decide (x3 < (List.length x0 : Int))) (cond (cond (decide ((List.length (((((((List.getD x0 (Int.toNat x3) (dflt api_SqlNode)).2).2).2).2).2).1) : Int) > (12:Int))) true (decide (0 ≤ x3) && decide (x3 < (List.length x0 : Int)))) (mergeO (cond (decide ((List.length (((((((List.getD x0 (Int.toNat x3) (dflt api_SqlNode)).2).2).2).2).2).1) : Int) > (12:Int))) true (decide ((List.length ((((((List.getD x0 (Int.toNat x3) (dflt api_SqlNode)).2).2).2).2).1) : Int) > (296:Int)))) (some (false, (dflt (.pair .unit .unit)), (false, ()), ())) (law30_fewExpr.l0 k x0 (IntKind.i64.wrap (x3 + (1:Int))))) none) none) (some (true, ((), ()), (dflt (.pair (.pair .bool .unit) .unit)))))
noncomputable def law30_fewExpr (k : Nat) (a0 : List (den api_SqlNode)) : Option Bool := (mergeO (decide ((List.length a0 : Int) > (41:Int))) (some false) ((law30_fewExpr.l0 k a0 (0:Int)).bind fun y1 => (mergeO y1.1 (some true) (some y1.2.2.1.1))))
noncomputable def sql_cond (a0 : Bool) (a1 : Int) : Int := (cond a0 a1 (0:Int))
noncomputable def sql_in (a0 : Int) (a1 : Int) (a2 : Int) : Bool := (cond (decide (a1 ≤ a0)) (decide (a0 ≤ a2)) false)
noncomputable def sql_first.l0 : Nat → (List Int) → Int → Int → Option (Bool × (Unit × Unit) × (Int × Unit) × Unit)
  | 0, _, _, _ => none
  | k + 1, x5, x6, x7 => (mergeO (decide (x7 < x6)) (cond (decide (0 ≤ x7) && decide (x7 < (List.length x5 : Int))) (mergeO ((List.getD x5 (Int.toNat x7) (0:Int)) != (0:Int)) (some (false, (dflt (.pair .unit .unit)), ((List.getD x5 (Int.toNat x7) (0:Int)), ()), ())) (sql_first.l0 k x5 x6 (IntKind.i64.wrap (x7 + (1:Int))))) none) (some (true, ((), ()), (dflt (.pair (.pair (.int .i64) .unit) .unit)))))
noncomputable def sql_first (k : Nat) (a0 : List Int) : Option Int := ((sql_first.l0 k a0 (List.length a0 : Int) (0:Int)).bind fun y2 => (mergeO y2.1 (some (0:Int)) (some y2.2.2.1.1)))
noncomputable def sql_arity (a0 : Int) : den api_Number := (cond (cond (a0 == (3:Int)) true (cond (a0 == (10:Int)) true (cond (a0 == (14:Int)) true (cond (a0 == (15:Int)) true (cond (a0 == (16:Int)) true (a0 == (8:Int))))))) ((1:Int), (1:Int), ()) (cond (cond (a0 == (4:Int)) true (cond (a0 == (5:Int)) true (cond (a0 == (6:Int)) true (cond (a0 == (7:Int)) true (cond (a0 == (11:Int)) true (a0 == (12:Int))))))) ((2:Int), (2:Int), ()) (cond (a0 == (9:Int)) ((2:Int), (10:Int), ()) ((0:Int), (0:Int), ()))))
noncomputable def slices_IndexFunc_int_int.l0 : Nat → (List Int) → (Int → Option Bool) → Int → Int → Option (Bool × (Unit × Unit) × (Int × Unit) × Unit)
  | 0, _, _, _, _ => none
  | k + 1, x0, x1, x7, x8 => (mergeO (decide (x8 < x7)) (cond (decide (0 ≤ x8) && decide (x8 < (List.length x0 : Int))) ((x1 (List.getD x0 (Int.toNat x8) (0:Int))).bind fun r3 => (mergeO r3 (some (false, (dflt (.pair .unit .unit)), (x8, ()), ())) (slices_IndexFunc_int_int.l0 k x0 x1 x7 (IntKind.i64.wrap (x8 + (1:Int)))))) none) (some (true, ((), ()), (dflt (.pair (.pair (.int .i64) .unit) .unit)))))
noncomputable def slices_IndexFunc_int_int (k : Nat) (a0 : List Int) (a1 : Int → Option Bool) : Option Int := ((slices_IndexFunc_int_int.l0 k a0 a1 (List.length a0 : Int) (0:Int)).bind fun y4 => (mergeO y4.1 (some (-1:Int)) (some y4.2.2.1.1)))
noncomputable def slices_ContainsFunc_int_int (k : Nat) (a0 : List Int) (a1 : Int → Option Bool) : Option Bool := ((slices_IndexFunc_int_int k a0 a1).bind fun r5 => some (decide (r5 ≥ (0:Int))))
noncomputable def numeric_cond (a0 : Bool) (a1 : Int) : Int := (cond a0 a1 (0:Int))
noncomputable def numeric_in (a0 : Int) (a1 : Int) (a2 : Int) : Bool := (cond (decide (a1 ≤ a0)) (decide (a0 ≤ a2)) false)
noncomputable def numeric_CheckNumber (a0 : den api_Number) : Int := (cond (!(numeric_in a0.1 (-999999999999999:Int) (999999999999999:Int))) (numeric_cond true (3:Int)) (numeric_cond (!(numeric_in a0.2.1 (0:Int) (15:Int))) (3:Int)))
noncomputable def sql_formErr (a0 : den api_SqlNode) : Int := (cond (!(cond (a0.1 == (0:Int)) true (cond (a0.1 == (2:Int)) true (a0.1 == (8:Int))))) (cond (!(a0.2.2.2.2.1 == ([] : List UInt8))) (sql_cond true (5:Int)) (cond (a0.1 != (0:Int)) (cond (!(a0.2.2.2.1 == ([] : List UInt8))) (sql_cond true (5:Int)) (cond (!(cond (a0.1 == (1:Int)) true (a0.1 == (7:Int)))) (cond (a0.2.1 != (0:Int)) (sql_cond true (5:Int)) (cond (a0.1 != (1:Int)) (sql_cond (a0.2.2.1 != (0:Int)) (5:Int)) (sql_cond false (5:Int)))) (cond (a0.1 != (1:Int)) (sql_cond (a0.2.2.1 != (0:Int)) (5:Int)) (sql_cond false (5:Int))))) (cond (!(cond (a0.1 == (1:Int)) true (a0.1 == (7:Int)))) (cond (a0.2.1 != (0:Int)) (sql_cond true (5:Int)) (cond (a0.1 != (1:Int)) (sql_cond (a0.2.2.1 != (0:Int)) (5:Int)) (sql_cond false (5:Int)))) (cond (a0.1 != (1:Int)) (sql_cond (a0.2.2.1 != (0:Int)) (5:Int)) (sql_cond false (5:Int)))))) (cond (a0.1 != (0:Int)) (cond (!(a0.2.2.2.1 == ([] : List UInt8))) (sql_cond true (5:Int)) (cond (!(cond (a0.1 == (1:Int)) true (a0.1 == (7:Int)))) (cond (a0.2.1 != (0:Int)) (sql_cond true (5:Int)) (cond (a0.1 != (1:Int)) (sql_cond (a0.2.2.1 != (0:Int)) (5:Int)) (sql_cond false (5:Int)))) (cond (a0.1 != (1:Int)) (sql_cond (a0.2.2.1 != (0:Int)) (5:Int)) (sql_cond false (5:Int))))) (cond (!(cond (a0.1 == (1:Int)) true (a0.1 == (7:Int)))) (cond (a0.2.1 != (0:Int)) (sql_cond true (5:Int)) (cond (a0.1 != (1:Int)) (sql_cond (a0.2.2.1 != (0:Int)) (5:Int)) (sql_cond false (5:Int)))) (cond (a0.1 != (1:Int)) (sql_cond (a0.2.2.1 != (0:Int)) (5:Int)) (sql_cond false (5:Int))))))
noncomputable def sql_isLetter (a0 : Int) : Bool := (cond (decide ((65:Int) ≤ a0)) (cond (decide (a0 ≤ (90:Int))) true (cond (a0 == (36:Int)) true (cond (a0 == (35:Int)) true (a0 == (64:Int))))) (cond (a0 == (36:Int)) true (cond (a0 == (35:Int)) true (a0 == (64:Int)))))
noncomputable def slices_Index_string_string.l0 : Nat → (List (List UInt8)) → (List UInt8) → Int → Int → Option (Bool × (Unit × Unit) × (Int × Unit) × Unit)
  | 0, _, _, _, _ => none
  | k + 1, x0, x1, x7, x8 => (mergeO (decide (x8 < x7)) (cond (decide (0 ≤ x8) && decide (x8 < (List.length x0 : Int))) (mergeO (x1 == (List.getD x0 (Int.toNat x8) ([] : List UInt8))) (some (false, (dflt (.pair .unit .unit)), (x8, ()), ())) (slices_Index_string_string.l0 k x0 x1 x7 (IntKind.i64.wrap (x8 + (1:Int))))) none) (some (true, ((), ()), (dflt (.pair (.pair (.int .i64) .unit) .unit)))))
noncomputable def slices_Index_string_string (k : Nat) (a0 : List (List UInt8)) (a1 : List UInt8) : Option Int := ((slices_Index_string_string.l0 k a0 a1 (List.length a0 : Int) (0:Int)).bind fun y6 => (mergeO y6.1 (some (-1:Int)) (some y6.2.2.1.1)))
noncomputable def slices_Contains_string_string (k : Nat) (a0 : List (List UInt8)) (a1 : List UInt8) : Option Bool := ((slices_Index_string_string k a0 a1).bind fun r7 => some (decide (r7 ≥ (0:Int))))
noncomputable def sql_reserved  : Option (List (List UInt8)) := ((strings_Fields ([65, 76, 76, 32, 65, 78, 68, 32, 65, 83, 32, 66, 89, 32, 67, 79, 85, 78, 84, 32, 68, 69, 76, 69, 84, 69, 32, 68, 69, 83, 67, 32, 68, 73, 83, 84, 73, 78, 67, 84, 32, 70, 82, 79, 77, 32, 71, 82, 79, 85, 80, 32, 72, 65, 86, 73, 78, 71, 32, 73, 78, 32, 73, 78, 83, 69, 82, 84, 32, 73, 78, 84, 79, 32, 76, 73, 75, 69, 32, 77, 65, 88, 32, 77, 73, 78, 32, 78, 79, 84, 32, 79, 82, 32, 79, 82, 68, 69, 82, 32, 83, 69, 76, 69, 67, 84, 32, 83, 69, 84, 32, 83, 85, 77, 32, 85, 78, 73, 79, 78, 32, 85, 80, 68, 65, 84, 69, 32, 86, 65, 76, 85, 69, 83, 32, 87, 72, 69, 82, 69] : List UInt8)).bind fun r8 => some r8)
noncomputable def slices_IndexFunc_byte_byte.l0 : Nat → (List Int) → (Int → Option Bool) → Int → Int → Option (Bool × (Unit × Unit) × (Int × Unit) × Unit)
  | 0, _, _, _, _ => none
  | k + 1, x0, x1, x7, x8 => (mergeO (decide (x8 < x7)) (cond (decide (0 ≤ x8) && decide (x8 < (List.length x0 : Int))) ((x1 (List.getD x0 (Int.toNat x8) (0:Int))).bind fun r9 => (mergeO r9 (some (false, (dflt (.pair .unit .unit)), (x8, ()), ())) (slices_IndexFunc_byte_byte.l0 k x0 x1 x7 (IntKind.i64.wrap (x8 + (1:Int)))))) none) (some (true, ((), ()), (dflt (.pair (.pair (.int .i64) .unit) .unit)))))
noncomputable def slices_IndexFunc_byte_byte (k : Nat) (a0 : List Int) (a1 : Int → Option Bool) : Option Int := ((slices_IndexFunc_byte_byte.l0 k a0 a1 (List.length a0 : Int) (0:Int)).bind fun y10 => (mergeO y10.1 (some (-1:Int)) (some y10.2.2.1.1)))
noncomputable def slices_ContainsFunc_byte_byte (k : Nat) (a0 : List Int) (a1 : Int → Option Bool) : Option Bool := ((slices_IndexFunc_byte_byte k a0 a1).bind fun r11 => some (decide (r11 ≥ (0:Int))))
noncomputable def sql_isOther (a0 : Int) : Bool := (cond (sql_isLetter a0) true (cond (decide ((48:Int) ≤ a0)) (cond (decide (a0 ≤ (57:Int))) true (a0 == (95:Int))) (a0 == (95:Int))))
noncomputable def sql_isName_1 (a0 : Int) : Bool := (!(sql_isOther a0))
noncomputable def sql_isName (k : Nat) (a0 : List UInt8) (a1 : Int) : Option Bool := (cond (cond (a0 == ([] : List UInt8)) true (cond (decide ((List.length a0 : Int) > a1)) true (decide (0 ≤ (0:Int)) && decide ((0:Int) < (List.length a0 : Int))))) ((cond (a0 == ([] : List UInt8)) (some ([] : List (List UInt8))) (cond (decide ((List.length a0 : Int) > a1)) (some ([] : List (List UInt8))) (cond (!(sql_isLetter ((List.getD a0 (Int.toNat (0:Int)) 0).toNat : Int))) (some ([] : List (List UInt8))) sql_reserved))).bind fun r12 => ((cond (a0 == ([] : List UInt8)) (some false) (cond (decide ((List.length a0 : Int) > a1)) (some false) (cond (!(sql_isLetter ((List.getD a0 (Int.toNat (0:Int)) 0).toNat : Int))) (some false) (slices_Contains_string_string k r12 a0)))).bind fun r13 => (mergeO (cond (a0 == ([] : List UInt8)) true (cond (decide ((List.length a0 : Int) > a1)) true (cond (!(sql_isLetter ((List.getD a0 (Int.toNat (0:Int)) 0).toNat : Int))) true r13))) (some false) (cond (Nat.ble (List.length a0) lim) ((slices_ContainsFunc_byte_byte k (List.map (fun b : UInt8 => ((b.toNat : Nat) : Int)) a0) (fun x => some (sql_isName_1 x))).bind fun r14 => some (!r14)) none)))) none)
noncomputable def sql_isShown_1 (a0 : Int) : Bool := (cond (decide (a0 < (32:Int))) true (decide (a0 > (126:Int))))
noncomputable def sql_isShown (k : Nat) (a0 : List UInt8) : Option Bool := (cond (Nat.ble (List.length a0) lim) ((slices_ContainsFunc_byte_byte k (List.map (fun b : UInt8 => ((b.toNat : Nat) : Int)) a0) (fun x => some (sql_isShown_1 x))).bind fun r15 => some (!r15)) none)
noncomputable def sql_nodeErr_1 (a0 : Int) (a1 : Int) : Bool := (!(sql_in a0 (0:Int) (IntKind.i64.wrap (a1 - (1:Int)))))
noncomputable def sql_nodeErr (k : Nat) (a0 : den api_SqlNode) (a1 : Int) : Option Int := (mergeO (!(sql_in a0.1 (0:Int) (16:Int))) (some (4:Int)) (mergeO (!(sql_in (List.length a0.2.2.2.2.2.1 : Int) ((sql_arity a0.1).1) (((sql_arity a0.1).2).1))) (some (37:Int)) ((slices_ContainsFunc_int_int k a0.2.2.2.2.2.1 (fun x => some (sql_nodeErr_1 x a1))).bind fun r16 => ((sql_first k ([(sql_cond (cond (cond r16 true (cond (a0.1 == (1:Int)) (cond (decide (a0.2.1 < (0:Int))) true ((numeric_CheckNumber (a0.2.1, a0.2.2.1, ())) != (0:Int))) false)) true (cond (a0.1 == (7:Int)) (!(sql_in a0.2.1 (0:Int) (5:Int))) false)) (3:Int)), (sql_formErr a0)] : List Int)).bind fun r17 => (mergeO (r17 != (0:Int)) (some r17) (mergeO (a0.1 == (0:Int)) ((sql_isName k a0.2.2.2.2.1 (10:Int)).bind fun r18 => ((cond (!r18) (some false) (cond (!(a0.2.2.2.1 == ([] : List UInt8))) (sql_isName k a0.2.2.2.1 (10:Int)) (some false))).bind fun r19 => some (cond (!r18) (sql_cond true (7:Int)) (cond (!(a0.2.2.2.1 == ([] : List UInt8))) (sql_cond (!r19) (7:Int)) (sql_cond false (7:Int)))))) (mergeO (cond (a0.1 == (2:Int)) true (a0.1 == (8:Int))) ((sql_isShown k a0.2.2.2.2.1).bind fun r20 => ((sql_first k ([(sql_cond (decide ((List.length a0.2.2.2.2.1 : Int) > (256:Int))) (2:Int)), (sql_cond (!r20) (8:Int))] : List Int)).bind fun r21 => some r21)) (some (0:Int)))))))))
noncomputable def sql_CheckExpr.l0 : Nat → (List (den api_SqlNode)) → (List (den api_SqlNode)) → Int → Int → Option (Bool × (((List (den api_SqlNode)) × Unit) × Unit) × (Int × Unit) × Unit)
  | 0, _, _, _, _ => none
  | k + 1, x0, x12, x13, x14 => (mergeO (decide (x14 < x13)) (cond (decide (0 ≤ x14) && decide (x14 < (List.length x12 : Int))) ((sql_nodeErr k (List.getD x12 (Int.toNat x14) (dflt api_SqlNode)) x14).bind fun r22 => (mergeO (r22 != (0:Int)) (some (false, (dflt (.pair (.pair (.sl api_SqlNode) .unit) .unit)), (r22, ()), ())) (sql_CheckExpr.l0 k x0 x12 x13 (IntKind.i64.wrap (x14 + (1:Int)))))) none) (some (true, ((x0, ()), ()), (dflt (.pair (.pair (.int .i64) .unit) .unit)))))
noncomputable def sql_CheckExpr (k : Nat) (a0 : List (den api_SqlNode)) : Option Int := (mergeO ((List.length a0 : Int) == (0:Int)) (some (1:Int)) (mergeO (decide ((List.length a0 : Int) > (40:Int))) (some (2:Int)) ((sql_CheckExpr.l0 k a0 a0 (List.length a0 : Int) (0:Int)).bind fun y23 => (mergeO y23.1 ((sql_isTree y23.2.1.1.1).bind fun r24 => some (sql_cond (!r24) (6:Int))) (some y23.2.2.1.1)))))
noncomputable def base_CopyInts (a0 : List Int) : Option (List Int) := (cond (Nat.ble (List.length a0) lim) (some a0) none)
noncomputable def ref30_OwnExpr.l0 : Nat → (List (den api_SqlNode)) → (List (den api_SqlNode)) → Int → Option (((List (den api_SqlNode)) × Unit) × Unit)
  | 0, _, _, _ => none
  | k + 1, x0, x3, x4 => (mergeO (decide (x4 < (List.length x0 : Int))) (cond (decide (0 ≤ x4) && decide (x4 < (List.length x0 : Int))) ((base_CopyInts (((((((List.getD x0 (Int.toNat x4) (dflt api_SqlNode)).2).2).2).2).2).1)).bind fun r25 => (cond (Nat.ble (List.length x3 + List.length ([((List.getD x0 (Int.toNat x4) (dflt api_SqlNode)).1, ((List.getD x0 (Int.toNat x4) (dflt api_SqlNode)).2).1, (((List.getD x0 (Int.toNat x4) (dflt api_SqlNode)).2).2).1, ((((List.getD x0 (Int.toNat x4) (dflt api_SqlNode)).2).2).2).1, (((((List.getD x0 (Int.toNat x4) (dflt api_SqlNode)).2).2).2).2).1, r25, ((((((List.getD x0 (Int.toNat x4) (dflt api_SqlNode)).2).2).2).2).2).2)] : List (den api_SqlNode))) lim) (ref30_OwnExpr.l0 k x0 (List.append x3 ([((List.getD x0 (Int.toNat x4) (dflt api_SqlNode)).1, ((List.getD x0 (Int.toNat x4) (dflt api_SqlNode)).2).1, (((List.getD x0 (Int.toNat x4) (dflt api_SqlNode)).2).2).1, ((((List.getD x0 (Int.toNat x4) (dflt api_SqlNode)).2).2).2).1, (((((List.getD x0 (Int.toNat x4) (dflt api_SqlNode)).2).2).2).2).1, r25, ((((((List.getD x0 (Int.toNat x4) (dflt api_SqlNode)).2).2).2).2).2).2)] : List (den api_SqlNode))) (IntKind.i64.wrap (x4 + (1:Int)))) none)) none) (some ((x3, ()), ())))
noncomputable def ref30_OwnExpr (k : Nat) (a0 : List (den api_SqlNode)) : Option (List (den api_SqlNode)) := ((ref30_OwnExpr.l0 k a0 ([] : List (den api_SqlNode)) (0:Int)).bind fun y26 => some y26.1.1)
noncomputable def base_Within (a0 : Int) (a1 : Int) (a2 : Int) : Bool := (cond (decide (a1 ≤ a0)) (decide (a0 ≤ a2)) false)
noncomputable def ref30_arity (a0 : Int) : den api_Number := (cond (cond (a0 == (0:Int)) true (cond (a0 == (1:Int)) true (cond (a0 == (2:Int)) true (a0 == (13:Int))))) ((0:Int), (0:Int), ()) (cond (cond (a0 == (3:Int)) true (cond (a0 == (8:Int)) true (cond (a0 == (10:Int)) true (cond (a0 == (14:Int)) true (cond (a0 == (15:Int)) true (a0 == (16:Int))))))) ((1:Int), (1:Int), ()) (cond (a0 == (9:Int)) ((2:Int), (10:Int), ()) ((2:Int), (2:Int), ()))))
noncomputable def base_Count (a0 : Bool) : Int := (cond a0 (1:Int) (0:Int))
noncomputable def ref01_NumberErr (a0 : den api_Number) : Int := (IntKind.i64.wrap ((3:Int) * (base_Count (!(cond (base_Within a0.1 (-999999999999999:Int) (999999999999999:Int)) (base_Within a0.2.1 (0:Int) (15:Int)) false)))))
noncomputable def base_IndexOfString.l0 : Nat → (List (List UInt8)) → (List UInt8) → Int → Option (Bool × (Unit × Unit) × (Int × Unit) × Unit)
  | 0, _, _, _ => none
  | k + 1, x0, x1, x5 => (mergeO (decide (x5 < (List.length x0 : Int))) (cond (decide (0 ≤ x5) && decide (x5 < (List.length x0 : Int))) (mergeO ((List.getD x0 (Int.toNat x5) ([] : List UInt8)) == x1) (some (false, (dflt (.pair .unit .unit)), (x5, ()), ())) (base_IndexOfString.l0 k x0 x1 (IntKind.i64.wrap (x5 + (1:Int))))) none) (some (true, ((), ()), (dflt (.pair (.pair (.int .i64) .unit) .unit)))))
noncomputable def base_IndexOfString (k : Nat) (a0 : List (List UInt8)) (a1 : List UInt8) : Option Int := ((base_IndexOfString.l0 k a0 a1 (0:Int)).bind fun y27 => (mergeO y27.1 (some (-1:Int)) (some y27.2.2.1.1)))
noncomputable def ref30_words  : List (List UInt8) := ([([65, 76, 76] : List UInt8), ([65, 78, 68] : List UInt8), ([65, 83] : List UInt8), ([66, 89] : List UInt8), ([67, 79, 85, 78, 84] : List UInt8), ([68, 69, 76, 69, 84, 69] : List UInt8), ([68, 69, 83, 67] : List UInt8), ([68, 73, 83, 84, 73, 78, 67, 84] : List UInt8), ([70, 82, 79, 77] : List UInt8), ([71, 82, 79, 85, 80] : List UInt8), ([72, 65, 86, 73, 78, 71] : List UInt8), ([73, 78] : List UInt8), ([73, 78, 83, 69, 82, 84] : List UInt8), ([73, 78, 84, 79] : List UInt8), ([76, 73, 75, 69] : List UInt8), ([77, 65, 88] : List UInt8), ([77, 73, 78] : List UInt8), ([78, 79, 84] : List UInt8), ([79, 82] : List UInt8), ([79, 82, 68, 69, 82] : List UInt8), ([83, 69, 76, 69, 67, 84] : List UInt8), ([83, 69, 84] : List UInt8), ([83, 85, 77] : List UInt8), ([85, 78, 73, 79, 78] : List UInt8), ([85, 80, 68, 65, 84, 69] : List UInt8), ([86, 65, 76, 85, 69, 83] : List UInt8), ([87, 72, 69, 82, 69] : List UInt8)] : List (List UInt8))
noncomputable def base_IsUpper (a0 : Int) : Bool := (cond (decide ((65:Int) ≤ a0)) (decide (a0 ≤ (90:Int))) false)
noncomputable def base_IsDigit (a0 : Int) : Bool := (cond (decide ((48:Int) ≤ a0)) (decide (a0 ≤ (57:Int))) false)
noncomputable def ref30_isNamed.l0 : Nat → (List UInt8) → Int → Option (Bool × (Unit × Unit) × (Bool × Unit) × Unit)
  | 0, _, _ => none
  | k + 1, x0, x5 => (mergeO (decide (x5 < (List.length x0 : Int))) (cond (decide (0 ≤ x5) && decide (x5 < (List.length x0 : Int))) (mergeO (cond (!(cond (base_IsUpper ((List.getD x0 (Int.toNat x5) 0).toNat : Int)) true (cond (((List.getD x0 (Int.toNat x5) 0).toNat : Int) == (36:Int)) true (cond (((List.getD x0 (Int.toNat x5) 0).toNat : Int) == (35:Int)) true (((List.getD x0 (Int.toNat x5) 0).toNat : Int) == (64:Int)))))) (cond (x5 == (0:Int)) true (cond (!(base_IsDigit ((List.getD x0 (Int.toNat x5) 0).toNat : Int))) (((List.getD x0 (Int.toNat x5) 0).toNat : Int) != (95:Int)) false)) false) (some (false, (dflt (.pair .unit .unit)), (false, ()), ())) (ref30_isNamed.l0 k x0 (IntKind.i64.wrap (x5 + (1:Int))))) none) (some (true, ((), ()), (dflt (.pair (.pair .bool .unit) .unit)))))
noncomputable def ref30_isNamed (k : Nat) (a0 : List UInt8) (a1 : Int) : Option Bool := ((cond (!(base_Within (List.length a0 : Int) (1:Int) a1)) (some (0:Int)) (base_IndexOfString k ref30_words a0)).bind fun r28 => (mergeO (cond (!(base_Within (List.length a0 : Int) (1:Int) a1)) true (r28 != (-1:Int))) (some false) ((ref30_isNamed.l0 k a0 (0:Int)).bind fun y29 => (mergeO y29.1 (some true) (some y29.2.2.1.1)))))
noncomputable def ref30_nodeErr.l0 : Nat → Int → Int → (den api_SqlNode) → Option (Bool × (Unit × (den api_SqlNode) × Unit) × (Int × Unit) × Unit)
  | 0, _, _, _ => none
  | k + 1, x1, x8, o5 => (mergeO (decide (x8 < (List.length o5.2.2.2.2.2.1 : Int))) (cond (decide (0 ≤ x8) && decide (x8 < (List.length o5.2.2.2.2.2.1 : Int))) (mergeO (!(base_Within (List.getD o5.2.2.2.2.2.1 (Int.toNat x8) (0:Int)) (0:Int) (IntKind.i64.wrap (x1 - (1:Int))))) (some (false, (dflt (.pair .unit (.pair api_SqlNode .unit))), ((3:Int), ()), ())) (ref30_nodeErr.l0 k x1 (IntKind.i64.wrap (x8 + (1:Int))) o5)) none) (some (true, ((), o5, ()), (dflt (.pair (.pair (.int .i64) .unit) .unit)))))
noncomputable def ref30_nodeErr.l1 : Nat → Int → (den api_SqlNode) → Option (Bool × (Unit × Unit) × (Int × Unit) × Unit)
  | 0, _, _ => none
  | k + 1, x11, o5 => (mergeO (decide (x11 < (List.length o5.2.2.2.2.1 : Int))) (cond (decide (0 ≤ x11) && decide (x11 < (List.length o5.2.2.2.2.1 : Int))) (cond (cond (decide (((List.getD o5.2.2.2.2.1 (Int.toNat x11) 0).toNat : Int) < (32:Int))) true (decide (0 ≤ x11) && decide (x11 < (List.length o5.2.2.2.2.1 : Int)))) (mergeO (cond (decide (((List.getD o5.2.2.2.2.1 (Int.toNat x11) 0).toNat : Int) < (32:Int))) true (decide (((List.getD o5.2.2.2.2.1 (Int.toNat x11) 0).toNat : Int) > (126:Int)))) (some (false, (dflt (.pair .unit .unit)), ((8:Int), ()), ())) (ref30_nodeErr.l1 k (IntKind.i64.wrap (x11 + (1:Int))) o5)) none) none) (some (true, ((), ()), (dflt (.pair (.pair (.int .i64) .unit) .unit)))))
noncomputable def ref30_nodeErr (k : Nat) (a0 : List (den api_SqlNode)) (a1 : Int) : Option Int := (cond (decide (0 ≤ a1) && decide (a1 < (List.length a0 : Int))) (mergeO (!(base_Within ((List.getD a0 (Int.toNat a1) (dflt api_SqlNode)).1) (0:Int) (16:Int))) (some (4:Int)) (mergeO (!(base_Within (List.length (((((((List.getD a0 (Int.toNat a1) (dflt api_SqlNode)).2).2).2).2).2).1) : Int) ((ref30_arity ((List.getD a0 (Int.toNat a1) (dflt api_SqlNode)).1)).1) (((ref30_arity ((List.getD a0 (Int.toNat a1) (dflt api_SqlNode)).1)).2).1))) (some (37:Int)) ((ref30_nodeErr.l0 k a1 (0:Int) (List.getD a0 (Int.toNat a1) (dflt api_SqlNode))).bind fun y30 => (mergeO y30.1 (mergeO (cond (y30.2.1.2.1.1 == (1:Int)) (cond (decide (y30.2.1.2.1.2.1 < (0:Int))) true (cond ((ref01_NumberErr (y30.2.1.2.1.2.1, y30.2.1.2.1.2.2.1, ())) != (0:Int)) true (cond (y30.2.1.2.1.1 == (7:Int)) (!(base_Within y30.2.1.2.1.2.1 (0:Int) (5:Int))) false))) (cond (y30.2.1.2.1.1 == (7:Int)) (!(base_Within y30.2.1.2.1.2.1 (0:Int) (5:Int))) false)) (some (3:Int)) (mergeO (cond (!(cond (y30.2.1.2.1.1 == (1:Int)) (cond (y30.2.1.2.1.1 == (0:Int)) true (cond (y30.2.1.2.1.1 == (2:Int)) true true)) (cond (y30.2.1.2.1.1 == (0:Int)) (y30.2.1.2.1.1 == (7:Int)) (cond (y30.2.1.2.1.1 == (2:Int)) (y30.2.1.2.1.1 == (7:Int)) (y30.2.1.2.1.1 == (7:Int)))))) (cond (y30.2.1.2.1.2.1 != (0:Int)) true (cond (y30.2.1.2.1.1 != (1:Int)) (cond (y30.2.1.2.1.2.2.1 != (0:Int)) true (cond (y30.2.1.2.1.1 != (0:Int)) (cond (!(y30.2.1.2.1.2.2.2.1 == ([] : List UInt8))) true (cond (!(cond (y30.2.1.2.1.1 == (1:Int)) (cond (y30.2.1.2.1.1 == (0:Int)) true (cond (y30.2.1.2.1.1 == (2:Int)) true (y30.2.1.2.1.1 == (8:Int)))) (cond (y30.2.1.2.1.1 == (0:Int)) true (cond (y30.2.1.2.1.1 == (2:Int)) true (y30.2.1.2.1.1 == (8:Int)))))) (!(y30.2.1.2.1.2.2.2.2.1 == ([] : List UInt8))) false)) (cond (!(cond (y30.2.1.2.1.1 == (1:Int)) (cond (y30.2.1.2.1.1 == (0:Int)) true (cond (y30.2.1.2.1.1 == (2:Int)) true (y30.2.1.2.1.1 == (8:Int)))) (cond (y30.2.1.2.1.1 == (0:Int)) true (cond (y30.2.1.2.1.1 == (2:Int)) true (y30.2.1.2.1.1 == (8:Int)))))) (!(y30.2.1.2.1.2.2.2.2.1 == ([] : List UInt8))) false))) (cond (y30.2.1.2.1.1 != (0:Int)) (cond (!(y30.2.1.2.1.2.2.2.1 == ([] : List UInt8))) true (cond (!(cond (y30.2.1.2.1.1 == (1:Int)) (cond (y30.2.1.2.1.1 == (0:Int)) true (cond (y30.2.1.2.1.1 == (2:Int)) true (y30.2.1.2.1.1 == (8:Int)))) (cond (y30.2.1.2.1.1 == (0:Int)) true (cond (y30.2.1.2.1.1 == (2:Int)) true (y30.2.1.2.1.1 == (8:Int)))))) (!(y30.2.1.2.1.2.2.2.2.1 == ([] : List UInt8))) false)) (cond (!(cond (y30.2.1.2.1.1 == (1:Int)) (cond (y30.2.1.2.1.1 == (0:Int)) true (cond (y30.2.1.2.1.1 == (2:Int)) true (y30.2.1.2.1.1 == (8:Int)))) (cond (y30.2.1.2.1.1 == (0:Int)) true (cond (y30.2.1.2.1.1 == (2:Int)) true (y30.2.1.2.1.1 == (8:Int)))))) (!(y30.2.1.2.1.2.2.2.2.1 == ([] : List UInt8))) false)))) (cond (y30.2.1.2.1.1 != (1:Int)) (cond (y30.2.1.2.1.2.2.1 != (0:Int)) true (cond (y30.2.1.2.1.1 != (0:Int)) (cond (!(y30.2.1.2.1.2.2.2.1 == ([] : List UInt8))) true (cond (!(cond (y30.2.1.2.1.1 == (1:Int)) (cond (y30.2.1.2.1.1 == (0:Int)) true (cond (y30.2.1.2.1.1 == (2:Int)) true (y30.2.1.2.1.1 == (8:Int)))) (cond (y30.2.1.2.1.1 == (0:Int)) true (cond (y30.2.1.2.1.1 == (2:Int)) true (y30.2.1.2.1.1 == (8:Int)))))) (!(y30.2.1.2.1.2.2.2.2.1 == ([] : List UInt8))) false)) (cond (!(cond (y30.2.1.2.1.1 == (1:Int)) (cond (y30.2.1.2.1.1 == (0:Int)) true (cond (y30.2.1.2.1.1 == (2:Int)) true (y30.2.1.2.1.1 == (8:Int)))) (cond (y30.2.1.2.1.1 == (0:Int)) true (cond (y30.2.1.2.1.1 == (2:Int)) true (y30.2.1.2.1.1 == (8:Int)))))) (!(y30.2.1.2.1.2.2.2.2.1 == ([] : List UInt8))) false))) (cond (y30.2.1.2.1.1 != (0:Int)) (cond (!(y30.2.1.2.1.2.2.2.1 == ([] : List UInt8))) true (cond (!(cond (y30.2.1.2.1.1 == (1:Int)) (cond (y30.2.1.2.1.1 == (0:Int)) true (cond (y30.2.1.2.1.1 == (2:Int)) true (y30.2.1.2.1.1 == (8:Int)))) (cond (y30.2.1.2.1.1 == (0:Int)) true (cond (y30.2.1.2.1.1 == (2:Int)) true (y30.2.1.2.1.1 == (8:Int)))))) (!(y30.2.1.2.1.2.2.2.2.1 == ([] : List UInt8))) false)) (cond (!(cond (y30.2.1.2.1.1 == (1:Int)) (cond (y30.2.1.2.1.1 == (0:Int)) true (cond (y30.2.1.2.1.1 == (2:Int)) true (y30.2.1.2.1.1 == (8:Int)))) (cond (y30.2.1.2.1.1 == (0:Int)) true (cond (y30.2.1.2.1.1 == (2:Int)) true (y30.2.1.2.1.1 == (8:Int)))))) (!(y30.2.1.2.1.2.2.2.2.1 == ([] : List UInt8))) false)))) (some (5:Int)) ((cond (y30.2.1.2.1.1 == (0:Int)) (ref30_isNamed k y30.2.1.2.1.2.2.2.2.1 (10:Int)) (some false)).bind fun r31 => ((cond (y30.2.1.2.1.1 == (0:Int)) (cond (!r31) (some false) (cond (!(y30.2.1.2.1.2.2.2.1 == ([] : List UInt8))) (ref30_isNamed k y30.2.1.2.1.2.2.2.1 (10:Int)) (some false))) (some false)).bind fun r32 => (mergeO (cond (y30.2.1.2.1.1 == (0:Int)) (cond (!r31) true (cond (!(y30.2.1.2.1.2.2.2.1 == ([] : List UInt8))) (!r32) false)) false) (some (7:Int)) (mergeO (cond (y30.2.1.2.1.1 == (2:Int)) true (y30.2.1.2.1.1 == (8:Int))) (mergeO (decide ((List.length y30.2.1.2.1.2.2.2.2.1 : Int) > (256:Int))) (some (2:Int)) ((ref30_nodeErr.l1 k (0:Int) y30.2.1.2.1).bind fun y33 => (mergeO y33.1 (some (0:Int)) (some y33.2.2.1.1)))) (some (0:Int)))))))) (some y30.2.2.1.1))))) none)
noncomputable def ref30_ExprErr.l0 : Nat → (List (den api_SqlNode)) → Int → Option (Bool × (((List (den api_SqlNode)) × Unit) × Unit) × (Int × Unit) × Unit)
  | 0, _, _ => none
  | k + 1, x0, x3 => (mergeO (decide (x3 < (List.length x0 : Int))) ((ref30_nodeErr k x0 x3).bind fun r34 => (mergeO (r34 != (0:Int)) (some (false, (dflt (.pair (.pair (.sl api_SqlNode) .unit) .unit)), (r34, ()), ())) (ref30_ExprErr.l0 k x0 (IntKind.i64.wrap (x3 + (1:Int)))))) (some (true, ((x0, ()), ()), (dflt (.pair (.pair (.int .i64) .unit) .unit)))))
noncomputable def ref30_ExprErr.l2 : Nat → (List (den api_SqlNode)) → (List Int) → Int → Int → Int → Option (Bool × (((List (den api_SqlNode)) × (List Int) × (den api_Number)) × Unit) × (Int × Unit) × Unit)
  | 0, _, _, _, _, _ => none
  | k + 1, x0, x5, x6, x7, x8 => (mergeO (decide (x8 ≥ (0:Int))) (cond (decide (0 ≤ x6) && decide (x6 < (List.length x0 : Int))) (cond (decide (0 ≤ x8) && decide (x8 < (List.length (((((((List.getD x0 (Int.toNat x6) (dflt api_SqlNode)).2).2).2).2).2).1) : Int))) (mergeO ((List.getD (((((((List.getD x0 (Int.toNat x6) (dflt api_SqlNode)).2).2).2).2).2).1) (Int.toNat x8) (0:Int)) != (IntKind.i64.wrap (x7 - (1:Int)))) (some (false, (dflt (.pair (.pair (.sl api_SqlNode) (.pair (.sl (.int .i64)) api_Number)) .unit)), ((6:Int), ()), ())) (cond (decide (0 ≤ (IntKind.i64.wrap (x7 - (1:Int)))) && decide ((IntKind.i64.wrap (x7 - (1:Int))) < (List.length x5 : Int))) (ref30_ExprErr.l2 k x0 x5 x6 (List.getD x5 (Int.toNat (IntKind.i64.wrap (x7 - (1:Int)))) (0:Int)) (IntKind.i64.wrap (x8 - (1:Int)))) none)) none) none) (some (true, ((x0, x5, x6, x7, ()), ()), (dflt (.pair (.pair (.int .i64) .unit) .unit)))))
noncomputable def ref30_ExprErr.l1 : Nat → (List (den api_SqlNode)) → (List Int) → Int → Option (Bool × (((List (den api_SqlNode)) × (List Int) × Unit) × Unit) × (Int × Unit) × Unit)
  | 0, _, _, _ => none
  | k + 1, x0, x5, x6 => (mergeO (decide (x6 < (List.length x0 : Int))) (cond (decide (0 ≤ x6) && decide (x6 < (List.length x0 : Int))) ((ref30_ExprErr.l2 k x0 x5 x6 x6 (IntKind.i64.wrap ((List.length (((((((List.getD x0 (Int.toNat x6) (dflt api_SqlNode)).2).2).2).2).2).1) : Int) - (1:Int)))).bind fun y36 => (mergeO y36.1 (cond (Nat.ble (List.length y36.2.1.1.2.1 + List.length ([y36.2.1.1.2.2.2.1] : List Int)) lim) (ref30_ExprErr.l1 k y36.2.1.1.1 (List.append y36.2.1.1.2.1 ([y36.2.1.1.2.2.2.1] : List Int)) (IntKind.i64.wrap (y36.2.1.1.2.2.1 + (1:Int)))) none) (some (false, (dflt (.pair (.pair (.sl api_SqlNode) (.pair (.sl (.int .i64)) .unit)) .unit)), (y36.2.2.1.1, ()), ())))) none) (some (true, ((x0, x5, ()), ()), (dflt (.pair (.pair (.int .i64) .unit) .unit)))))
noncomputable def ref30_ExprErr (k : Nat) (a0 : List (den api_SqlNode)) : Option Int := (mergeO ((List.length a0 : Int) == (0:Int)) (some (1:Int)) (mergeO (decide ((List.length a0 : Int) > (40:Int))) (some (2:Int)) ((ref30_ExprErr.l0 k a0 (0:Int)).bind fun y35 => (mergeO y35.1 ((ref30_ExprErr.l1 k y35.2.1.1.1 ([] : List Int) (0:Int)).bind fun y37 => (mergeO y37.1 (cond (decide (0 ≤ (IntKind.i64.wrap ((List.length y37.2.1.1.1 : Int) - (1:Int)))) && decide ((IntKind.i64.wrap ((List.length y37.2.1.1.1 : Int) - (1:Int))) < (List.length y37.2.1.1.2.1 : Int))) (some (IntKind.i64.wrap ((6:Int) * (base_Count ((List.getD y37.2.1.1.2.1 (Int.toNat (IntKind.i64.wrap ((List.length y37.2.1.1.1 : Int) - (1:Int)))) (0:Int)) != (0:Int)))))) none) (some y37.2.2.1.1))) (some y35.2.2.1.1)))))
noncomputable def law30_SqlExprs (k : Nat) (a0 : List (den api_SqlNode)) : Option Bool := ((law30_awake).bind fun r38 => (mergeO (!r38) (some false) ((law30_fewExpr k a0).bind fun r39 => ((cond (!r39) (some ([] : List (den api_SqlNode))) (ref30_OwnExpr k a0)).bind fun r40 => ((cond (!r39) (some (0:Int)) (sql_CheckExpr k r40)).bind fun r41 => ((cond (!r39) (some (0:Int)) (ref30_ExprErr k a0)).bind fun r42 => some (cond (!r39) true (r41 == r42))))))))
end Go.XE
