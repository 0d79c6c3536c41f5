/- Part 8 of the proof. -/
import Derived.Test.YtnmkgbomiillgaaGreatDoorP07
/- Code: what a block catches, what a test gives; what must hold behind a piece of code. -/
namespace Go.XE

/-- 's'' tells no more than 's'; its slots are at most n. -/
def StLe (n : Nat) (s s' : St) : Prop := Same s s' ∧ s'.next = s.next ∨ (s.LeJ s' ∧ s'.slots.length ≤ n ∧ s.next ≤ s'.next)
inductive LeafLe (n : Nat) : Leaf → Leaf → Prop where
  | norm {s s' : St} (h : StLe n s s') : LeafLe n (.norm s) (.norm s')
  | ext {i : Nat} {s s' : St} (h : StLe n s s') : LeafLe n (.ext i s) (.ext i s')
  | ret {s s' : St} (h : StLe n s s') : LeafLe n (.ret s) (.ret s')
theorem StLe.refl (n : Nat) (s : St) : StLe n s s := .inl ⟨.refl s, rfl⟩
theorem joinSt_next {d0 : List Loc} {a0 c : Bool} (s t : St) : (joinSt d0 a0 c s t).next = Nat.max s.next t.next := by
  unfold joinSt
  cases (s.all || t.all) <;> rfl
theorem addDirty_same (d0 : List Loc) (a0 : Bool) (s : St) : Same s (s.addDirty d0 a0) := ⟨rfl, rfl, rfl, rfl, rfl⟩
theorem addDirty_res {d0 : List Loc} {a0 : Bool} {n : Nat} : ∀ {o : Out} {l : Leaf}, (o.addDirty d0 a0).res = some l → ∃ l0, o.res = some l0 ∧ LeafLe n l0 l
  | .norm s, l, h => by cases h; exact ⟨_, rfl, .norm (.inl ⟨addDirty_same d0 a0 s, rfl⟩)⟩
  | .ext i s, l, h => by cases h; exact ⟨_, rfl, .ext (.inl ⟨addDirty_same d0 a0 s, rfl⟩)⟩
  | .ret s, l, h => by cases h; exact ⟨_, rfl, .ret (.inl ⟨addDirty_same d0 a0 s, rfl⟩)⟩
  | .br c t e, l, h => by
    cases c with
    | true => exact addDirty_res (o := t) h
    | false => exact addDirty_res (o := e) h
  | .need c o, l, h => by
    cases c with
    | true => exact addDirty_res (o := o) h
    | false => cases h
  | .opt d o k, l, h => by
    cases o with
    | none => cases h
    | some b => exact addDirty_res (o := k b) h
  | .bad, l, h => by cases h
theorem addDirty_agr {S0 b s : St} (hb : Agr S0 b) (hs : Agr b s) : Agr S0 (s.addDirty b.dirty b.all) := by
  refine ⟨Nat.le_trans hs.len hb.len, ?_⟩
  rcases hb.eq with ha | hb
  · exact .inl (by simp [St.addDirty, ha])
  · rcases hs.eq with ha | hs
    · exact .inl (by simp [St.addDirty, ha])
    · refine .inr fun l hl => ?_
      obtain ⟨h1, h2⟩ := hasLoc_adds.1 hl
      have := (hb l h2).trans (hs l h1)
      cases l <;> exact this
theorem addDirty_all {S0 b : St} (hb : Agr S0 b) : ∀ {o : Out}, o.All (Agr b) → (o.addDirty b.dirty b.all).All (Agr S0)
  | .norm s, h => addDirty_agr hb h
  | .ext i s, h => addDirty_agr hb h
  | .ret s, h => addDirty_agr hb h
  | .br c t e, h => ⟨addDirty_all hb h.1, addDirty_all hb h.2⟩
  | .need c o, h => addDirty_all hb (o := o) h
  | .opt d o k, h => fun b => addDirty_all hb (h b)
  | .bad, _ => trivial
theorem mkBr_all {S0 b : St} {c : Bool} {t e : Out} (hb : Agr S0 b) (ht : t.All (Agr b)) (he : e.All (Agr b)) : (mkBr b.dirty b.all c t e).All (Agr S0) := by
  unfold mkBr
  cases joinable t e with
  | true => exact join1_all he hb ht
  | false => exact ⟨addDirty_all hb ht, addDirty_all hb he⟩
theorem join1_tt {d0 : List Loc} {a0 : Bool} {e : Out} : ∀ {t : Out} {l : Leaf}, (join1 d0 a0 true e t).res = some l → ∃ s s', t.res = some (.norm s) ∧ l = .norm (joinSt d0 a0 true s s')
  | .norm s, l, h => by
    obtain ⟨t, rfl⟩ := join2_true h
    exact ⟨s, t, rfl, rfl⟩
  | .need n o, l, h => by
    cases n with
    | true => exact join1_tt (t := o) h
    | false => cases h
  | .opt d o k, l, h => by
    cases o with
    | none => cases h
    | some b => exact join1_tt (t := k b) h
  | .ext _ _, _, h => by cases h
  | .ret _, _, h => by cases h
  | .br _ _ _, _, h => by cases h
  | .bad, _, h => by cases h
theorem join2_ff {d0 : List Loc} {a0 : Bool} {s : St} : ∀ {e : Out} {l : Leaf}, (join2 d0 a0 false s e).res = some l → ∃ t, e.res = some (.norm t) ∧ l = .norm (joinSt d0 a0 false s t)
  | .norm t, l, h => by cases h; exact ⟨t, rfl, rfl⟩
  | .need n o, l, h => by
    cases n with
    | true => exact join2_ff (e := o) h
    | false => cases h
  | .opt d o k, l, h => by
    cases o with
    | none => cases h
    | some x => exact join2_ff (e := k x) h
  | .ext _ _, _, h => by cases h
  | .ret _, _, h => by cases h
  | .br _ _ _, _, h => by cases h
  | .bad, _, h => by cases h
theorem join1_ff {d0 : List Loc} {a0 : Bool} {b : St} {e : Out} : ∀ {t : Out} {l : Leaf}, t.All (Agr b) → (join1 d0 a0 false e t).res = some l → ∃ s s', Agr b s ∧ e.res = some (.norm s') ∧ l = .norm (joinSt d0 a0 false s s')
  | .norm s, l, hs, h => by
    obtain ⟨t, h1, h2⟩ := join2_ff h
    exact ⟨s, t, hs, h1, h2⟩
  | .need n o, l, hs, h => join1_ff (t := o) hs h
  | .opt d o k, l, hs, h => join1_ff (t := k d) (hs d) h
  | .ext _ _, _, _, h => by cases h
  | .ret _, _, _, h => by cases h
  | .br _ _ _, _, _, h => by cases h
  | .bad, _, _, h => by cases h
theorem join1_res {d0 : List Loc} {a0 c : Bool} {b : St} {t e : Out} {l : Leaf} (ht : t.All (Agr b)) (he : e.All (Agr b)) (h : (join1 d0 a0 c e t).res = some l) : ∃ l0, (cond c t e).res = some l0 ∧ LeafLe b.slots.length l0 l := by
  cases c with
  | true =>
    obtain ⟨s, s', h1, rfl⟩ := join1_tt h
    have hs : Agr b s := All.res ht h1
    exact ⟨_, h1, .norm (.inr ⟨joinSt_true s s', Nat.le_trans (joinSt_len s s') hs.len, by rw [joinSt_next]; exact Nat.le_max_left _ _⟩)⟩
  | false =>
    obtain ⟨s, s', h1, h2, rfl⟩ := join1_ff ht h
    have hs : Agr b s' := All.res he h2
    exact ⟨_, h2, .norm (.inr ⟨joinSt_false h1 hs, Nat.le_trans (joinSt_len s s') h1.len, by rw [joinSt_next]; exact Nat.le_max_right _ _⟩)⟩
/-- What comes of a test comes of the way taken. -/
theorem mkBr_res {d0 : List Loc} {a0 c : Bool} {b : St} {t e : Out} {l : Leaf} (ht : t.All (Agr b)) (he : e.All (Agr b)) (h : (mkBr d0 a0 c t e).res = some l) : ∃ l0, (cond c t e).res = some l0 ∧ LeafLe b.slots.length l0 l := by
  unfold mkBr at h
  cases hj : joinable t e with
  | true => rw [hj] at h; exact join1_res ht he h
  | false =>
    rw [hj] at h
    cases c with
    | true => exact addDirty_res (o := t) h
    | false => exact addDirty_res (o := e) h
/-- What a block does with the way out that is its own. -/
def Leaf.caught (id : Nat) : Leaf → Leaf
  | .ext j s => cond (Nat.beq j id) (.norm s) (.ext j s)
  | l => l
theorem StLe.trans {n : Nat} {a b c : St} (h : StLe n a b) (k : StLe n b c) : StLe n a c := by
  rcases h with ⟨h1, h2⟩ | ⟨h1, h2, h3⟩
  · rcases k with ⟨k1, k2⟩ | ⟨k1, k2, k3⟩
    · exact .inl ⟨h1.trans k1, k2.trans h2⟩
    · refine .inr ⟨⟨fun n => ?_, fun n off ho => ?_, fun id o ho => ?_, fun id off ho => ?_, k1.fresh⟩, k2, by rw [← h2]; exact k3⟩
      · rw [← h1.slots]; exact k1.slots n
      · rw [← h1.stips]; exact k1.stips n off ho
      · rw [← h1.objs]; exact k1.objs id o ho
      · rw [← h1.otips]; exact k1.otips id off ho
  · rcases k with ⟨k1, k2⟩ | ⟨k1, k2, k3⟩
    · refine .inr ⟨⟨fun n => ?_, fun n off ho => ?_, fun id o ho => ?_, fun id off ho => ?_, k1.fresh.trans h1.fresh⟩, by rw [k1.slots]; exact h2, by rw [k2]; exact h3⟩
      · rw [k1.slots]; exact h1.slots n
      · rw [k1.stips] at ho; exact h1.stips n off ho
      · rw [k1.objs] at ho; exact h1.objs id o ho
      · rw [k1.otips] at ho; exact h1.otips id off ho
    · refine .inr ⟨⟨fun n => ⟨fun P m v r => (k1.slots n).rv P m v ((h1.slots n).rv P m v r), fun d hd => ((k1.slots n).dat d hd).elim (fun e => (h1.slots n).dat d e) .inr⟩, fun n off ho => h1.stips n off (k1.stips n off ho), fun id o ho => ?_, fun id off ho => h1.otips id off (k1.otips id off ho), k1.fresh⟩, k2, Nat.le_trans h3 k3⟩
      obtain ⟨o1, g1, g2⟩ := k1.objs id o ho
      obtain ⟨o2, g3, g4⟩ := h1.objs id o1 g1
      exact ⟨o2, g3, g4.trans g2⟩
theorem Rel.stLe {P : Program} {G : Nat → Option GV} {vars n : Nat} {m : Mem} {s s' : St} {tm : Array Value} (r : Rel P G vars m s tm) (h : StLe n s s') (hn : n ≤ tm.size) : Rel P G vars m s' tm := by
  rcases h with ⟨h1, _⟩ | ⟨h1, h2, _⟩
  · exact r.same h1
  · exact r.leJ h1 (Nat.le_trans h2 hn)
theorem StLe.next {n : Nat} {s s' : St} (h : StLe n s s') : s.next ≤ s'.next := by
  rcases h with ⟨_, h⟩ | ⟨_, _, h⟩
  · exact Nat.le_of_eq h.symm
  · exact h
theorem LeafLe.trans {n : Nat} {a b c : Leaf} (h : LeafLe n a b) (k : LeafLe n b c) : LeafLe n a c := by
  cases h with
  | norm h => cases k with | norm k => exact .norm (h.trans k)
  | ext h => cases k with | ext k => exact .ext (h.trans k)
  | ret h => cases k with | ret k => exact .ret (h.trans k)
theorem LeafLe.refl (n : Nat) : ∀ l : Leaf, LeafLe n l l
  | .norm s => .norm (.refl n s)
  | .ext _ s => .ext (.refl n s)
  | .ret s => .ret (.refl n s)
theorem LeafLe.st {n : Nat} {a b : Leaf} (h : LeafLe n a b) : StLe n a.st b.st := by cases h <;> assumption
theorem joinSt_agr0 {S0 s t : St} {d0 : List Loc} {a0 c : Bool} (hs : Agr S0 s) (_ht : Agr S0 t) : Agr S0 (joinSt d0 a0 c s t) := by
  refine ⟨Nat.le_trans (joinSt_len s t) hs.len, ?_⟩
  unfold joinSt
  cases h : (s.all || t.all) with
  | true => exact .inl rfl
  | false =>
    simp only [Bool.or_eq_false_iff] at h
    have es := hs.eq.resolve_left (by rw [h.1]; simp)
    refine .inr fun l hl => ?_
    obtain ⟨h1, h2⟩ := hasLoc_adds.1 hl
    obtain ⟨h3, h4⟩ := hasLoc_adds.1 h1
    have e1 : EqAt s (joinLocs c s t (addLocs s.dirty t.dirty) s) l := eqAt_joinLocs _ _ h1
    have e2 := (es l h3).trans e1
    cases l <;> exact e2
theorem join2_all0 {S0 s : St} {d0 : List Loc} {a0 c : Bool} (hs : Agr S0 s) : ∀ {e : Out}, e.All (Agr S0) → (join2 d0 a0 c s e).All (Agr S0)
  | .norm t, h => joinSt_agr0 hs h
  | .need n o, h => join2_all0 hs (e := o) h
  | .opt d o k, h => fun x => join2_all0 hs (h x)
  | .ext _ _, _ => trivial
  | .ret _, _ => trivial
  | .br _ _ _, _ => trivial
  | .bad, _ => trivial
theorem join1_all0 {S0 : St} {d0 : List Loc} {a0 c : Bool} {e : Out} (he : e.All (Agr S0)) : ∀ {t : Out}, t.All (Agr S0) → (join1 d0 a0 c e t).All (Agr S0)
  | .norm s, h => join2_all0 h he
  | .need n o, h => join1_all0 he (t := o) h
  | .opt d o k, h => fun x => join1_all0 he (h x)
  | .ext _ _, _ => trivial
  | .ret _, _ => trivial
  | .br _ _ _, _ => trivial
  | .bad, _ => trivial
theorem catch_all {S0 : St} {d0 : List Loc} {a0 : Bool} {id : Nat} : ∀ {o : Out}, o.All (Agr S0) → (o.catchExit d0 a0 id).All (Agr S0)
  | .norm s, h => h
  | .ext j s, h => by
    show Out.All _ (cond (Nat.beq j id) (.norm s) (.ext j s))
    cases Nat.beq j id <;> exact h
  | .ret s, h => h
  | .br c t e, h => by
    have h1 := catch_all (d0 := d0) (a0 := a0) (id := id) h.1
    have h2 := catch_all (d0 := d0) (a0 := a0) (id := id) h.2
    show Out.All _ (cond (joinable (t.catchExit d0 a0 id) (e.catchExit d0 a0 id)) (join1 d0 a0 c (e.catchExit d0 a0 id) (t.catchExit d0 a0 id)) (.br c (t.catchExit d0 a0 id) (e.catchExit d0 a0 id)))
    cases joinable (t.catchExit d0 a0 id) (e.catchExit d0 a0 id) with
    | true => exact join1_all0 h2 h1
    | false => exact ⟨h1, h2⟩
  | .need c o, h => catch_all (o := o) h
  | .opt d o k, h => fun x => catch_all (h x)
  | .bad, _ => trivial
theorem catch_res {S0 : St} {d0 : List Loc} {a0 : Bool} {id : Nat} : ∀ {o : Out} {l : Leaf}, o.All (Agr S0) → (o.catchExit d0 a0 id).res = some l → ∃ l0, o.res = some l0 ∧ LeafLe S0.slots.length (l0.caught id) l
  | .norm s, l, h, e => by cases e; exact ⟨_, rfl, .refl _ _⟩
  | .ext j s, l, h, e => by
    refine ⟨_, rfl, ?_⟩
    replace e : (cond (Nat.beq j id) (Out.norm s) (.ext j s)).res = some l := e
    show LeafLe _ (cond (Nat.beq j id) (.norm s) (.ext j s)) l
    cases hb : Nat.beq j id with
    | true => rw [hb] at e; cases e; exact .refl _ _
    | false => rw [hb] at e; cases e; exact .refl _ _
  | .ret s, l, h, e => by cases e; exact ⟨_, rfl, .refl _ _⟩
  | .br c t f, l, h, e => by
    have h1 := catch_all (d0 := d0) (a0 := a0) (id := id) h.1
    have h2 := catch_all (d0 := d0) (a0 := a0) (id := id) h.2
    have main : ∃ l1, (cond c (t.catchExit d0 a0 id) (f.catchExit d0 a0 id)).res = some l1 ∧ LeafLe S0.slots.length l1 l := by
      replace e : (cond (joinable (t.catchExit d0 a0 id) (f.catchExit d0 a0 id)) (join1 d0 a0 c (f.catchExit d0 a0 id) (t.catchExit d0 a0 id)) (.br c (t.catchExit d0 a0 id) (f.catchExit d0 a0 id))).res = some l := e
      cases hj : joinable (t.catchExit d0 a0 id) (f.catchExit d0 a0 id) with
      | true => rw [hj] at e; exact join1_res h1 h2 e
      | false =>
        rw [hj] at e
        cases c with
        | true => exact ⟨l, e, .refl _ _⟩
        | false => exact ⟨l, e, .refl _ _⟩
    obtain ⟨l1, m1, m2⟩ := main
    cases c with
    | true =>
      obtain ⟨l0, g1, g2⟩ := catch_res (o := t) h.1 m1
      exact ⟨l0, g1, g2.trans m2⟩
    | false =>
      obtain ⟨l0, g1, g2⟩ := catch_res (o := f) h.2 m1
      exact ⟨l0, g1, g2.trans m2⟩
  | .need c o, l, h, e => by
    cases c with
    | true => exact catch_res (o := o) h e
    | false => cases e
  | .opt d o k, l, h, e => by
    cases o with
    | none => cases e
    | some b => exact catch_res (o := k b) (h b) e
  | .bad, _, _, e => by cases e
end Go.XE
/- Every leaf of a walk tells what it has written. -/
namespace Go.XE
section
variable {Γ : Env} {S0 : St}

theorem agr_slot {s : St} (h : Agr S0 s) (d : Nat) (V : XE.V) : Agr s { s with slots := setV s.slots d V, dirty := [.slot d], all := false } := by
  refine ⟨by simp [length_setV], .inr fun l hl => ?_⟩
  have hne : Loc.slot d ≠ l := fun e => by subst e; simp [hasLoc, Loc.beq] at hl
  have : EqAt s (s.put (.slot d) (.v V)) l := eqAt_put hne
  cases l <;> exact this
theorem sharpen_all {gs : List Nat} {dst : Option Nat} {s : St} {k : St → Out} (h : Agr S0 s) (hk : ∀ B s, Agr B s → (k s).All (Agr B)) : (sharpen gs dst s k).All (Agr S0) := by
  unfold sharpen
  cases dst with
  | none => exact hk S0 s h
  | some d =>
    simp only
    cases hasN d gs with
    | false => exact hk S0 s h
    | true =>
      simp only [cond_true]
      split
      · exact mkBr_all h (hk s _ (agr_slot h d _)) (hk s _ (agr_slot h d _))
      · exact hk S0 s h
def InlAll (h : Nat → Oper → St → Out) : Prop := ∀ i o S0 s, Agr S0 s → (h i o s).All (Agr S0)
theorem evOps_all {inls : Nat → Option (Nat → Oper → St → Out)} (hI : ∀ i h, inls i = some h → InlAll h) (all : List Oper) (gs : List Nat) (chk : List Tr → Bool) : ∀ (l : List Oper) (i : Nat) (trs : List Tr) (S0 s : St), Agr S0 s → (evOps Γ all gs chk inls l i trs s).All (Agr S0)
  | [], i, trs, S0, s, h => by
    show Out.All _ (cond (chk trs) (.norm s) .bad)
    cases chk trs
    · trivial
    · exact h
  | o :: r, i, trs, S0, s, h => by
    have run : ∀ (rd : List Loc) (S0 s : St), Agr S0 s → (match inls i with
      | some h => (h i o s).bind fun s' => sharpen gs o.dst s' (evOps Γ all gs chk inls r (i + 1) (trs ++ [([], [])]))
      | none => runM (evOp Γ o (s.next + i)) { s with rd := rd, wr := [] } fun _ s' => sharpen gs o.dst s' (evOps Γ all gs chk inls r (i + 1) (trs ++ [(s'.rd, dstWr o.dst s'.wr)])) : Out).All (Agr S0) := fun rd S0 s h => by
      cases hi : inls i with
      | some f => exact All.bind (Q := Agr S0) (fun s' hs => sharpen_all hs fun B s hB => evOps_all hI all gs chk r _ _ B s hB) (fun _ hs => hs) (hI i f hi i o S0 s h)
      | none =>
        exact All.runM (Q := Agr S0) (fun _ s' hs => sharpen_all hs fun B s hB => evOps_all hI all gs chk r _ _ B s hB) (fun s l hs => ⟨hs.len, hs.eq.imp id fun he k hk => by have := he k hk; cases k <;> exact this⟩) (fun s l x hs => hs.put l x)
          ⟨h.len, h.eq.imp id fun he k hk => by have := he k hk; cases k <;> exact this⟩
    have skip : ∀ (g : Nat) (S0 s : St), Agr S0 s → (match o.dst with
          | some d => cond (Nat.testBit Γ.vars d) .bad (evOps Γ all gs chk inls r (i + 1) (trs ++ [([.slot g], [.slot d, .stip d])]) { s with slots := setV s.slots d .und, stips := setT s.stips d [], dirty := addLoc (.slot d) (addLoc (.stip d) s.dirty) })
          | none => evOps Γ all gs chk inls r (i + 1) (trs ++ [([.slot g], [])]) s : Out).All (Agr S0) := fun g S0 s h => by
      cases o.dst with
      | none => exact evOps_all hI all gs chk r _ _ S0 s h
      | some d =>
        simp only
        cases Nat.testBit Γ.vars d with
        | true => trivial
        | false =>
          have h1 := (h.put (.stip d) (.t [])).put (.slot d) (.v .und)
          refine evOps_all hI all gs chk r _ _ S0 _ ⟨h1.len, h1.eq.imp id fun he k hk => ?_⟩
          have := he k hk
          cases k <;> exact this
    simp only [evOps]
    split
    · exact run [] S0 s h
    · split
      · trivial
      · rename_i g _
        split
        · rename_i b _
          cases bEq b _ with
          | true => exact run _ S0 s h
          | false => exact skip g S0 s h
        · exact skip g S0 s h
        · trivial
theorem nthV_strip : ∀ (l : List V) (n : Nat), nthV (stripVs l) n = stripV (nthV l n)
  | [], n => by simp [stripVs, nthV, stripV]
  | v :: r, 0 => rfl
  | v :: r, n + 1 => nthV_strip r n
theorem length_strip : ∀ l : List V, (stripVs l).length = l.length
  | [] => rfl
  | v :: r => by simp [stripVs, length_strip r]
theorem strip_strip (V : XE.V) : stripV (stripV V) = stripV V := by cases V <;> rfl
theorem begin_agr {s : St} (h : Agr S0 s) : Agr S0 s.begin := by
  unfold St.begin
  cases s.fresh with
  | true => exact h
  | false =>
    refine ⟨by simpa [length_strip] using h.len, h.eq.imp id fun he k hk => ?_⟩
    have := he k hk
    cases k with
    | slot n =>
      show stripV (nthV (stripVs s.slots) n) = _
      rw [nthV_strip, strip_strip]
      exact this
    | _ => exact this
theorem next_agr {s : St} (h : Agr S0 s) (n : Nat) : Agr S0 { s with next := n } := ⟨h.len, h.eq.imp id fun he k hk => by have := he k hk; cases k <;> exact this⟩
def HooksAll (Γ : Env) : Prop := (∀ r f, Γ.loops r = some f → ∀ S0 s, Agr S0 s → (f s).All (Agr S0)) ∧ ∀ id i h, Γ.inls id i = some h → InlAll h
theorem evRegion_all (hI : ∀ id i h, Γ.inls id i = some h → InlAll h) {id : Nat} {ops : Array Oper} {draw : Bool} {s : St} (h : Agr S0 s) : (evRegion Γ id ops draw s).All (Agr S0) :=
  All.bind (Q := Agr S0) (R := Agr S0) (f := fun s' => .norm { s' with next := s'.next + ops.toList.length }) (fun s hs => next_agr hs (s.next + ops.toList.length)) (fun _ hs => hs) (evOps_all (fun i f hf => by
    cases draw with
    | true => cases hf
    | false => exact hI id i f hf) _ _ _ _ _ _ S0 _ (begin_agr h))
theorem evCode_all (hl : HooksAll Γ) : ∀ (c : Code) (S0 s : St), Agr S0 s → (evCode Γ c s).All (Agr S0)
  | .skip, S0, s, h => h
  | .region _ ops draw, S0, s, h => evRegion_all hl.2 h
  | .seq a b, S0, s, h => All.bind (fun s hs => evCode_all hl b S0 s hs) (fun _ hs => hs) (evCode_all hl a S0 s h)
  | .cond c a b, S0, s, h => by
    cases c with
    | tmp t =>
      simp only [evCode]
      split
      · exact evCode_all hl a S0 s h
      · exact evCode_all hl b S0 s h
      · exact mkBr_all h (evCode_all hl a s _ (agr_slot h t _)) (evCode_all hl b s _ (agr_slot h t _))
      · trivial
    | _ => trivial
  | .block id c, S0, s, h => catch_all (evCode_all hl c S0 s h)
  | .loop c, S0, s, h => by
    simp only [evCode]
    split
    · rename_i f hf
      exact hl.1 _ f hf S0 s h
    · trivial
  | .exit id, S0, s, h => h
  | .ret, S0, s, h => h
  | .rangeFunc .., _, _, _ => trivial
  | .scope _, _, _, _ => trivial
  | .label _, _, _, _ => trivial
  | .goto _, _, _, _ => trivial
  | .refuse _, _, _, _ => trivial
end
end Go.XE
/- Regions in the order of the text. -/
namespace Go.XE
section
variable {P : Program} {G : Nat → Option GV} {Γ : Env} {m : Mem} {s s' : St} {a : Act}

theorem next_put (s : St) (l : Loc) (x : LV) : (s.put l x).next = s.next := by cases l <;> cases x <;> rfl
theorem runR_next {α : Type} : ∀ {mm : M α} {s : St} {p : α × St}, runR mm s = some p → p.2.next = s.next
  | .ret a, s, p, h => by cases h; rfl
  | .get l k, s, p, h => runR_next (mm := k (s.get l)) (s := { s with rd := addLoc l s.rd }) h
  | .put l x k, s, p, h => (runR_next (mm := k) (s := { s.put l x with wr := addLoc l s.wr, dirty := addLoc l s.dirty }) h).trans (next_put s l x)
  | .need c k, s, p, h => by
    cases c with
    | true => exact runR_next (mm := k) h
    | false => cases h
  | .opt d o k, s, p, h => by
    cases o with
    | none => cases h
    | some b => exact runR_next (mm := k b) h
  | .fail, _, _, h => by cases h
/-- A bit, known. -/
theorem kb_le (b : Bool) (d : Nat) (s : St) (h : ∃ p, nthV s.slots d = .dat ⟨.bool, b⟩ p) : s.Le { s with slots := setV s.slots d (.kb b) } := by
  obtain ⟨p, hp⟩ := h
  refine ⟨fun n => ?_, by simp [length_setV], fun _ _ h => h, fun id o h => ⟨o, h, .refl _ _⟩, fun _ _ h => h, fun h => h⟩
  simp only [nthV_setV]
  split
  · rename_i hc
    rw [hc.1, hp]
    exact ⟨fun P m v h => RepV.bool_eq h, fun d' h => by simp [datOf] at h, fun d' q h => by cases h⟩
  · exact .refl _
theorem sharpen_res {gs : List Nat} {dst : Option Nat} {k : St → Out} {l : Leaf} (hk : ∀ B s, Agr B s → (k s).All (Agr B)) (h : (sharpen gs dst s k).res = some l) :
    ∃ s1 l0, (k s1).res = some l0 ∧ LeafLe s.slots.length l0 l ∧ s.Le s1 ∧ s1.next = s.next := by
  have plain : (k s).res = some l → ∃ s1 l0, (k s1).res = some l0 ∧ LeafLe s.slots.length l0 l ∧ s.Le s1 ∧ s1.next = s.next := fun h => ⟨s, l, h, .refl _ _, .refl s, rfl⟩
  unfold sharpen at h
  cases dst with
  | none => exact plain h
  | some d =>
    simp only at h
    cases hd : hasN d gs with
    | false => rw [hd] at h; exact plain h
    | true =>
      simp only [hd, cond_true] at h
      split at h
      · rename_i b p hb
        obtain ⟨l0, h1, h2⟩ := mkBr_res (b := s) (hk s _ (agr_slot (S0 := s) (.refl s) d _)) (hk s _ (agr_slot (S0 := s) (.refl s) d _)) h
        have le : s.Le { s with slots := setV s.slots d (.kb b), dirty := [.slot d], all := false } := (kb_le b d s ⟨p, hb⟩).trans ⟨fun _ => .refl _, Nat.le_refl _, fun _ _ h => h, fun _ o h => ⟨o, h, .refl _ _⟩, fun _ _ h => h, fun h => h⟩
        cases b with
        | true => exact ⟨_, l0, h1, h2, le, rfl⟩
        | false => exact ⟨_, l0, h1, h2, le, rfl⟩
      · exact plain h
/-- What each operation is known to do. -/
def OpsOk (P : Program) (G : Nat → Option GV) (Γ : Env) : Prop := ∀ (o : Oper) (nid : Nat) (m : Mem) (s s' : St) (a : Act) (u : Unit), Rel P G Γ.vars m s a.tmps → ¬ m.U nid → runR (evOp Γ o nid) s = some (u, s') → OpWp P G Γ.vars nid m s' o a
theorem put_size (a : Act) (d : Option Nat) (v : Value) : (a.put d v).tmps.size = a.tmps.size := by cases d <;> simp [Act.put]
theorem put_defers (a : Act) (d : Option Nat) (v : Value) : (a.put d v).defers = a.defers := by cases d <;> rfl
theorem getD_bool {tm : Array Value} {g : Nat} {b : Bool} (h : tm.getD g undef = .bool b) : tm[g]? = some (.bool b) := by
  rw [Array.getD_eq_getD_getElem?] at h
  cases ht : tm[g]? with
  | none => rw [ht] at h; cases h
  | some v => rw [ht] at h; simp at h; rw [h]
theorem yielded_kb {all : List Oper} {tm : Array Value} {j g : Nat} {b : Bool} (hd : dstAt all j = some g) (h : tm.getD g undef = .bool b) : yielded all.toArray tm j = some b := by
  have h1 : ((all.toArray[j]?).bind (·.dst)) = some g := by simpa [dstAt] using hd
  simp only [yielded, h1, Option.bind_some, getD_bool h]
theorem yielded_und {all : List Oper} {tm : Array Value} {j g : Nat} (hd : dstAt all j = some g) (h : tm.getD g undef = undef) : yielded all.toArray tm j = none := by
  have h1 : ((all.toArray[j]?).bind (·.dst)) = some g := by simpa [dstAt] using hd
  simp only [yielded, h1, Option.bind_some]
  cases ht : tm[g]? with
  | none => rfl
  | some v =>
    rw [Array.getD_eq_getD_getElem?, ht] at h
    simp at h
    rw [h]
    rfl
/-- A call that is entered in place. -/
def InlOk (P : Program) (G : Nat → Option GV) (Γ : Env) (h : Nat → Oper → St → Out) : Prop := ∀ (i : Nat) (o : Oper) (m : Mem) (s : St) (a : Act) (leaf : Leaf), Rel P G Γ.vars m s a.tmps → (∀ id, m.U id → id < s.next + i) → (h i o s).res = some leaf →
  ∃ s', leaf = .norm s' ∧ ∀ (K : Act → World → Prop) (Q : Exit → Act → World → Prop), (∀ v m', Rel P G Γ.vars m' s' (a.put o.dst v).tmps → Fr m m' → (∀ id, m'.U id → id < s'.next + (i + 1)) → K (a.put o.dst v) m'.w) → o.wp P a m.w K Q
theorem evOps_text (H : OpsOk P G Γ) {inls : Nat → Option (Nat → Oper → St → Out)} (hI : ∀ i h, inls i = some h → InlOk P G Γ h ∧ InlAll h) {all : List Oper} {gs : List Nat} {chk : List Tr → Bool} {Q : Exit → Act → World → Prop} : ∀ (l : List Oper) (i : Nat) (trs : List Tr) (s : St) (m : Mem) (a : Act) (leaf : Leaf), all.drop i = l → Rel P G Γ.vars m s a.tmps →
    (∀ id, m.U id → id < s.next + i) → (evOps Γ all gs chk inls l i trs s).res = some leaf →
    (∀ (a' : Act) (m' : Mem) (s'' : St), leaf = .norm s'' → Rel P G Γ.vars m' s'' a'.tmps → Fr m m' → (∀ id, m'.U id → id < s''.next + i + l.length) → a'.tmps.size = a.tmps.size → a'.defers = a.defers → Q .normal a' m'.w) →
    wpOps P all.toArray Q (List.range' i l.length) a m.w
  | [], i, trs, s, m, a, leaf, hdrop, r, hU, h, hQ => by
    replace h : (cond (chk trs) (Out.norm s) .bad).res = some leaf := h
    cases hc : chk trs with
    | false => rw [hc] at h; cases h
    | true =>
      rw [hc] at h
      cases h
      exact hQ a m s rfl r (.refl m) (fun id h => by have := hU id h; simpa using this) rfl rfl
  | o :: rest, i, trs, s, m, a, leaf, hdrop, r, hU, h, hQ => by
    have hget : all.toArray[i]? = some o := by
      have : (all.drop i)[0]? = some o := by rw [hdrop]; rfl
      simpa using this
    have hdrop' : all.drop (i + 1) = rest := by
      rw [← List.drop_drop, hdrop]; rfl
    have hI' : ∀ i h, inls i = some h → InlAll h := fun i h e => (hI i h e).2
    have run : ∀ (rd : List Loc), Region.wanted o (yielded all.toArray a.tmps) = true → (match inls i with
      | some h => (h i o s).bind fun s' => sharpen gs o.dst s' (evOps Γ all gs chk inls rest (i + 1) (trs ++ [([], [])]))
      | none => runM (evOp Γ o (s.next + i)) { s with rd := rd, wr := [] } fun _ s' => sharpen gs o.dst s' (evOps Γ all gs chk inls rest (i + 1) (trs ++ [(s'.rd, dstWr o.dst s'.wr)])) : Out).res = some leaf →
        wpOps P all.toArray Q (List.range' i (o :: rest).length) a m.w := fun rd hw h => by
      cases hi : inls i with
      | some f =>
        rw [hi] at h
        simp only [res_bind] at h
        cases hr : (f i o s).res with
        | none => rw [hr] at h; cases h
        | some lf =>
          rw [hr] at h
          obtain ⟨s1, rfl, hop⟩ := (hI i f hi).1 i o m s a lf r hU hr
          replace h : (sharpen gs o.dst s1 (evOps Γ all gs chk inls rest (i + 1) (trs ++ [([], [])]))).res = some leaf := h
          obtain ⟨s2, l0, g1, g2, g3, g4⟩ := sharpen_res (fun B s hB => evOps_all hI' all gs chk rest _ _ B s hB) h
          simp only [List.length_cons, List.range'_succ, wpOps, hget, hw, if_true]
          refine .inl (hop _ Q fun v m' r' f' hU' => ?_)
          refine evOps_text H hI rest (i + 1) _ s2 m' (a.put o.dst v) l0 hdrop' (r'.le g3) (fun id hid => by rw [g4]; exact hU' id hid) g1 fun a2 m2 s3 e3 r3 f3 hU3 hs3 hd3 => ?_
          subst e3
          cases g2 with
          | norm hle =>
            refine hQ a2 m2 _ rfl (r3.stLe hle (by rw [hs3]; exact r'.len)) (f'.trans f3) (fun id hid => ?_) (hs3.trans (put_size a _ v)) (hd3.trans (put_defers a _ v))
            have h1 := hU3 id hid
            have h2 := hle.next
            simp only [List.length_cons]
            omega
      | none =>
        rw [hi] at h
        simp only [res_runM] at h
        cases hr : runR (evOp Γ o (s.next + i)) { s with rd := rd, wr := [] } with
        | none => rw [hr] at h; cases h
        | some p =>
          obtain ⟨u, s1⟩ := p
          rw [hr] at h
          replace h : (sharpen gs o.dst s1 (evOps Γ all gs chk inls rest (i + 1) (trs ++ [(s1.rd, dstWr o.dst s1.wr)]))).res = some leaf := h
          obtain ⟨s2, l0, g1, g2, g3, g4⟩ := sharpen_res (fun B s hB => evOps_all hI' all gs chk rest _ _ B s hB) h
          have hn : s1.next = s.next := runR_next hr
          have hop := H o (s.next + i) m { s with rd := rd, wr := [] } s1 a u (r.same ⟨rfl, rfl, rfl, rfl, rfl⟩) (fun hu => by have := hU _ hu; omega) hr
          simp only [List.length_cons, List.range'_succ, wpOps, hget, hw, if_true]
          refine .inl (hop _ Q fun v m' r' f' hU' => ?_)
          refine evOps_text H hI rest (i + 1) _ s2 m' (a.put o.dst v) l0 hdrop' (r'.le g3) (fun id hid => ?_) g1 fun a2 m2 s3 e3 r3 f3 hU3 hs3 hd3 => ?_
          · rcases hU' id hid with h1 | h1
            · have := hU id h1; omega
            · omega
          · subst e3
            cases g2 with
            | norm hle =>
              refine hQ a2 m2 _ rfl (r3.stLe hle (by rw [hs3]; exact r'.len)) (f'.trans f3) (fun id hid => ?_) (hs3.trans (put_size a _ v)) (hd3.trans (put_defers a _ v))
              have h1 := hU3 id hid
              have h2 := hle.next
              simp only [List.length_cons]
              omega
    have skip : ∀ (g : Nat), Region.wanted o (yielded all.toArray a.tmps) = false → (match o.dst with
          | some d => cond (Nat.testBit Γ.vars d) .bad (evOps Γ all gs chk inls rest (i + 1) (trs ++ [([.slot g], [.slot d, .stip d])]) { s with slots := setV s.slots d .und, stips := setT s.stips d [], dirty := addLoc (.slot d) (addLoc (.stip d) s.dirty) })
          | none => evOps Γ all gs chk inls rest (i + 1) (trs ++ [([.slot g], [])]) s : Out).res = some leaf → wpOps P all.toArray Q (List.range' i (o :: rest).length) a m.w := fun g hw h => by
      simp only [List.length_cons, List.range'_succ, wpOps, hget, hw, Bool.false_eq_true, if_false]
      cases hd : o.dst with
      | none =>
        simp only [hd] at h
        refine evOps_text H hI rest (i + 1) _ s m (a.put none undef) leaf hdrop' r (fun id hid => by have := hU id hid; omega) h fun a2 m2 s3 e3 r3 f3 hU3 hs3 hd3 => ?_
        exact hQ a2 m2 s3 e3 r3 f3 (fun id hid => by have := hU3 id hid; simp only [List.length_cons]; omega) hs3 hd3
      | some d =>
        simp only [hd] at h
        cases hb : Nat.testBit Γ.vars d with
        | true => rw [hb] at h; cases h
        | false =>
          simp only [hb, cond_false] at h
          have r' : Rel P G Γ.vars m { s with slots := setV s.slots d .und, stips := setT s.stips d [], dirty := addLoc (.slot d) (addLoc (.stip d) s.dirty) } (a.put (some d) undef).tmps :=
            (r.setSlot (n := d) (V := .und) (ts := []) (v := undef) rfl (fun D hD => by cases hD) (fun _ D p e => by cases e) (fun _ => hb)).same ⟨rfl, rfl, rfl, rfl, rfl⟩
          refine evOps_text H hI rest (i + 1) _ _ m (a.put (some d) undef) leaf hdrop' r' (fun id hid => by have := hU id hid; show id < s.next + _; omega) h fun a2 m2 s3 e3 r3 f3 hU3 hs3 hd3 => ?_
          exact hQ a2 m2 s3 e3 r3 f3 (fun id hid => by have := hU3 id hid; simp only [List.length_cons]; omega) (hs3.trans (put_size a _ _)) (hd3.trans (put_defers a _ _))
    simp only [evOps] at h
    cases hg : o.guard with
    | none =>
      simp only [hg] at h
      exact run [] (by simp [Region.wanted, hg]) h
    | some jw =>
      obtain ⟨j, want⟩ := jw
      simp only [hg] at h
      cases hd : dstAt all j with
      | none => simp only [hd] at h; cases h
      | some g =>
        simp only [hd] at h
        have hs := r.slots g
        cases hV : nthV s.slots g with
        | kb b =>
          simp only [hV] at h
          rw [hV] at hs
          have hy := yielded_kb hd (show a.tmps.getD g undef = .bool b from hs)
          cases hq : bEq b want with
          | true =>
            rw [hq] at h
            exact run [.slot g] (by cases b <;> cases want <;> simp_all [Region.wanted, bEq]) h
          | false =>
            rw [hq] at h
            exact skip g (by cases b <;> cases want <;> simp_all [Region.wanted, bEq]) h
        | und =>
          simp only [hV] at h
          rw [hV] at hs
          have hy := yielded_und hd (show a.tmps.getD g undef = undef from hs)
          exact skip g (by simp [Region.wanted, hg, hy]) h
        | _ => simp only [hV] at h; cases h
theorem begin_le {s : St} (hf : s.fresh = false) : s.LeJ { s with slots := stripVs s.slots, fresh := false } := ⟨fun n => by
    show VLe0 _ (nthV (stripVs s.slots) n)
    rw [nthV_strip]
    exact strip_le (strip_strip _).symm, fun _ _ h => h, fun _ o h => ⟨o, h, .refl _ _⟩, fun _ _ h => h, rfl⟩
theorem begin_rel {vars : Nat} {tm : Array Value} (r : Rel P G vars m s tm) : Rel P G vars m s.begin tm := by
  unfold St.begin
  cases hf : s.fresh with
  | true => exact r
  | false =>
    have r1 := r.leJ (begin_le hf) (by show (stripVs s.slots).length ≤ _; rw [length_strip]; exact r.len)
    refine { r1 with prov := fun _ n d p hp => ?_ }
    replace hp : nthV (stripVs s.slots) n = .dat d (some p) := hp
    rw [nthV_strip] at hp
    cases hV : nthV s.slots n <;> rw [hV] at hp <;> cases hp
theorem begin_next (s : St) : s.begin.next = s.next := by unfold St.begin; cases s.fresh <;> rfl
theorem region_text (H : OpsOk P G Γ) (hI : ∀ id i h, Γ.inls id i = some h → InlOk P G Γ h ∧ InlAll h) {id : Nat} {ops : Array Oper} {Q : Exit → Act → World → Prop} {leaf : Leaf} (r : Rel P G Γ.vars m s a.tmps) (hU : ∀ id, m.U id → id < s.next) (h : (evRegion Γ id ops false s).res = some leaf)
    (hQ : ∀ (a' : Act) (m' : Mem) (s'' : St), leaf = .norm s'' → Rel P G Γ.vars m' s'' a'.tmps → Fr m m' → (∀ id, m'.U id → id < s''.next) → a'.tmps.size = a.tmps.size → a'.defers = a.defers → Q .normal a' m'.w) :
    (Code.region id ops false).wp P Q a m.w := by
  unfold evRegion at h
  simp only [res_bind, cond_false] at h
  cases he : (evOps Γ ops.toList (guardsOf ops.toList ops.toList) (fun _ => true) (Γ.inls id) ops.toList 0 [] s.begin).res with
  | none => rw [he] at h; cases h
  | some l0 =>
    rw [he] at h
    refine wp_region ?_
    have := evOps_text (Q := Q) H (hI id) ops.toList 0 [] s.begin m a l0 rfl (begin_rel r) (fun id hid => by rw [begin_next]; exact hU id hid) he fun a' m' s'' e r' f hU' hs hd => by
      subst e
      cases h
      exact hQ a' m' _ rfl (r'.same ⟨rfl, rfl, rfl, rfl, rfl⟩) f (fun id hid => by have := hU' id hid; show id < s''.next + _; omega) hs hd
    rwa [List.range_eq_range', ← Array.length_toList]
end
end Go.XE
/- Code: what holds behind it. -/
namespace Go.XE
section
variable {P : Program} {G : Nat → Option GV} {Γ : Env} {m : Mem} {s s' : St} {a : Act}

/-- How a frame's memory goes on; of the numbers of objects those below 'low' alone. -/
structure FrL (low : Nat) (m m' : Mem) : Prop where
  pre : Pre (fun b j => m.C b j ∨ m.K b j) m.w m'.w
  C : ∀ b j, m.C b j → m'.C b j
  K : m'.K = m.K
  gC : ∀ b j, m'.C b j → b < m.w.heap.size → m.C b j ∨ ¬ m.K b j
  no : ∀ b, b < m.w.heap.size → m.L b = .no → m'.L b = .no
  ad : ∀ id, id < low → m.U id → m'.U id ∧ m'.ad id = m.ad id
theorem Fr.low {m m' : Mem} (h : Fr m m') (low : Nat) : FrL low m m' := ⟨h.to.pre, h.to.C, h.to.K, h.gC, h.no, fun id _ hu => ⟨h.to.U id hu, h.to.ad id hu⟩⟩
theorem FrL.trans {low : Nat} {m m' m'' : Mem} (h : FrL low m m') (k : FrL low m' m'') : FrL low m m'' where
  pre := h.pre.trans k.pre fun b j _ hs => hs.elim (fun a => .inl (h.C _ _ a)) fun a => .inr (by rw [h.K]; exact a)
  C b j hc := k.C _ _ (h.C _ _ hc)
  K := k.K.trans h.K
  gC b j hc hb := by
    rcases k.gC b j hc (Nat.lt_of_lt_of_le hb h.pre.size) with h1 | h1
    · exact h.gC b j h1 hb
    · exact .inr (by rw [← h.K]; exact h1)
  no b hb hl := k.no b (Nat.lt_of_lt_of_le hb h.pre.size) (h.no b hb hl)
  ad id hid hu := by
    obtain ⟨h1, h2⟩ := h.ad id hid hu
    obtain ⟨k1, k2⟩ := k.ad id hid h1
    exact ⟨k1, k2.trans h2⟩
theorem FrL.shrink (low : Nat) (m : Mem) {n : Nat} (h : low ≤ n) : FrL low m (m.shrink n) :=
  ⟨.refl _ _, fun _ _ h => h, rfl, fun _ _ h _ => .inl h, fun _ _ h => h, fun id hid hu => ⟨⟨hu, by omega⟩, rfl⟩⟩
def Leaf.exit : Leaf → Exit
  | .norm _ => .normal
  | .ext i _ => .exit i
  | .ret _ => .ret
/-- Behind a piece of code: the leaf. -/
def LeafOk (P : Program) (G : Nat → Option GV) (vars low : Nat) (m0 : Mem) (a0 : Act) (leaf : Leaf) : Exit → Act → World → Prop := fun e a' w' =>
  ∃ m' : Mem, m'.w = w' ∧ Rel P G vars m' leaf.st a'.tmps ∧ FrL low m0 m' ∧ (∀ id, m'.U id → id < leaf.st.next) ∧ a'.tmps.size = a0.tmps.size ∧ a'.defers = a0.defers ∧ e = leaf.exit
theorem LeafOk.le {vars low n : Nat} {m0 : Mem} {a0 a' : Act} {l0 l : Leaf} {e : Exit} {w' : World} (h : LeafOk P G vars low m0 a0 l0 e a' w') (hle : LeafLe n l0 l) (hn : n ≤ a0.tmps.size) : LeafOk P G vars low m0 a0 l e a' w' := by
  obtain ⟨m', h1, h2, h3, h4, h5, h6, h7⟩ := h
  refine ⟨m', h1, h2.stLe hle.st (by rw [h5]; exact hn), h3, fun id hid => Nat.lt_of_lt_of_le (h4 id hid) hle.st.next, h5, h6, ?_⟩
  cases hle <;> exact h7
def RegOk (P : Program) (G : Nat → Option GV) (Γ : Env) (low : Nat) : Prop := ∀ (id : Nat) (ops : Array Oper) (draw : Bool) (m : Mem) (s : St) (a : Act) (leaf : Leaf), Rel P G Γ.vars m s a.tmps → (∀ id, m.U id → id < s.next) →
  (evRegion Γ id ops draw s).res = some leaf → (Code.region id ops draw).wp P (LeafOk P G Γ.vars low m a leaf) a m.w
def LoopOk (P : Program) (G : Nat → Option GV) (Γ : Env) (low : Nat) (c : Code) (f : St → Out) : Prop := ∀ (m : Mem) (s : St) (a : Act) (leaf : Leaf), Rel P G Γ.vars m s a.tmps → (∀ id, m.U id → id < s.next) →
  (f s).res = some leaf → (Code.loop c).wp P (LeafOk P G Γ.vars low m a leaf) a m.w
/-- The bodies of the outermost loops. -/
def loopsIn : Code → List Code
  | .seq a b => loopsIn a ++ loopsIn b
  | .cond _ a b => loopsIn a ++ loopsIn b
  | .block _ c => loopsIn c
  | .loop c => [c]
  | _ => []
theorem LeafOk.then {vars low : Nat} {m m1 : Mem} {a a1 : Act} {l : Leaf} (hf : FrL low m m1) (hs : a1.tmps.size = a.tmps.size) (hd : a1.defers = a.defers) {e : Exit} {a' : Act} {w' : World} (h : LeafOk P G vars low m1 a1 l e a' w') : LeafOk P G vars low m a l e a' w' := by
  obtain ⟨m', h1, h2, h3, h4, h5, h6, h7⟩ := h
  exact ⟨m', h1, h2, hf.trans h3, h4, h5.trans hs, h6.trans hd, h7⟩
theorem code_ok {low : Nat} (hR : RegOk P G Γ low) (hA : HooksAll Γ) : ∀ (c : Code), (∀ c' ∈ loopsIn c, ∀ f, Γ.loops (firstRegion c') = some f → LoopOk P G Γ low c' f) →
    ∀ (m : Mem) (s : St) (a : Act) (leaf : Leaf), Rel P G Γ.vars m s a.tmps → (∀ id, m.U id → id < s.next) → (evCode Γ c s).res = some leaf → c.wp P (LeafOk P G Γ.vars low m a leaf) a m.w
  | .skip, _, m, s, a, leaf, r, hU, h => by
    cases h
    exact wp_skip ⟨m, rfl, r, (Fr.refl m).low low, hU, rfl, rfl, rfl⟩
  | .region id ops draw, _, m, s, a, leaf, r, hU, h => hR id ops draw m s a leaf r hU h
  | .seq x y, hL, m, s, a, leaf, r, hU, h => by
    simp only [evCode, res_bind] at h
    cases hx : (evCode Γ x s).res with
    | none => rw [hx] at h; cases h
    | some l0 =>
      rw [hx] at h
      have h1 := code_ok hR hA x (fun c' hc => hL c' (by simp [loopsIn, hc])) m s a l0 r hU hx
      refine wp_seq (wp_mono h1 fun e a1 w1 hl => ?_)
      obtain ⟨m1, e1, r1, f1, u1, s1, d1, x1⟩ := hl
      cases l0 with
      | norm s2 =>
        subst x1
        subst e1
        show y.wp P _ a1 m1.w
        exact wp_mono (code_ok hR hA y (fun c' hc => hL c' (by simp [loopsIn, hc])) m1 s2 a1 leaf r1 u1 h) fun e a2 w2 h2 => h2.then f1 s1 d1
      | ext i s2 =>
        subst x1
        cases h
        exact ⟨m1, e1, r1, f1, u1, s1, d1, rfl⟩
      | ret s2 =>
        subst x1
        cases h
        exact ⟨m1, e1, r1, f1, u1, s1, d1, rfl⟩
  | .exit id, _, m, s, a, leaf, r, hU, h => by
    cases h
    exact wp_exit ⟨m, rfl, r, (Fr.refl m).low low, hU, rfl, rfl, rfl⟩
  | .ret, _, m, s, a, leaf, r, hU, h => by
    cases h
    exact wp_ret ⟨m, rfl, r, (Fr.refl m).low low, hU, rfl, rfl, rfl⟩
  | .loop c, hL, m, s, a, leaf, r, hU, h => by
    simp only [evCode] at h
    split at h
    · rename_i f hf
      exact hL c (by simp [loopsIn]) f hf m s a leaf r hU h
    · cases h
  | .block id c, hL, m, s, a, leaf, r, hU, h => by
    obtain ⟨l0, h1, h2⟩ := catch_res (S0 := s) (evCode_all hA c s s (.refl s)) h
    refine wp_block (wp_mono (code_ok hR hA c hL m s a l0 r hU h1) fun e a1 w1 hl => ?_)
    obtain ⟨m1, e1, r1, f1, u1, s1, d1, x1⟩ := hl
    subst x1
    cases l0 with
    | norm s2 => exact LeafOk.le (l0 := .norm s2) ⟨m1, e1, r1, f1, u1, s1, d1, rfl⟩ h2 r.len
    | ret s2 => exact LeafOk.le (l0 := .ret s2) ⟨m1, e1, r1, f1, u1, s1, d1, rfl⟩ h2 r.len
    | ext i s2 =>
      replace h2 : LeafLe s.slots.length (cond (Nat.beq i id) (.norm s2) (.ext i s2)) leaf := h2
      show (if i = id then _ else _)
      by_cases hi : i = id
      · subst hi
        rw [if_pos rfl]
        rw [show Nat.beq i i = true by simp] at h2
        exact LeafOk.le (l0 := .norm s2) ⟨m1, e1, r1, f1, u1, s1, d1, rfl⟩ h2 r.len
      · rw [if_neg hi]
        rw [nbeq hi] at h2
        exact LeafOk.le (l0 := .ext i s2) ⟨m1, e1, r1, f1, u1, s1, d1, rfl⟩ h2 r.len
  | .cond c x y, hL, m, s, a, leaf, r, hU, h => by
    cases c with
    | tmp t =>
      have hs := r.slots t
      simp only [evCode] at h
      split at h
      · rename_i hV
        rw [hV] at hs
        exact wp_cond_true (show a.eval (.tmp t) = .bool true from hs) (code_ok hR hA x (fun c' hc => hL c' (by simp [loopsIn, hc])) m s a leaf r hU h)
      · rename_i hV
        rw [hV] at hs
        exact wp_cond_false (show a.eval (.tmp t) = .bool false from hs) (code_ok hR hA y (fun c' hc => hL c' (by simp [loopsIn, hc])) m s a leaf r hU h)
      · rename_i b p hV
        rw [hV] at hs
        have hb : a.eval (.tmp t) = .bool b := RepV.bool_eq hs
        obtain ⟨l0, h1, h2⟩ := mkBr_res (b := s) (evCode_all hA x s _ (agr_slot (S0 := s) (.refl s) t _)) (evCode_all hA y s _ (agr_slot (S0 := s) (.refl s) t _)) h
        have r' : Rel P G Γ.vars m { s with slots := setV s.slots t (.kb b), dirty := [.slot t], all := false } a.tmps := (r.le (kb_le b t s ⟨p, hV⟩)).same ⟨rfl, rfl, rfl, rfl, rfl⟩
        cases b with
        | true => exact wp_cond_true hb (wp_mono (code_ok hR hA x (fun c' hc => hL c' (by simp [loopsIn, hc])) m _ a l0 r' hU h1) fun e a1 w1 hl => hl.le h2 r.len)
        | false => exact wp_cond_false hb (wp_mono (code_ok hR hA y (fun c' hc => hL c' (by simp [loopsIn, hc])) m _ a l0 r' hU h1) fun e a1 w1 hl => hl.le h2 r.len)
      · cases h
    | _ => simp only [evCode] at h; cases h
  | .rangeFunc .., _, _, _, _, _, _, _, h => by cases h
  | .scope _, _, _, _, _, _, _, _, h => by cases h
  | .label _, _, _, _, _, _, _, _, h => by cases h
  | .goto _, _, _, _, _, _, _, _, h => by cases h
  | .refuse _, _, _, _, _, _, _, _, h => by cases h
end
end Go.XE
/- Loops, round by round. -/
namespace Go.XE
/-- A loop that stands before a round. -/
def InLoop (P : Program) (c : Code) (Q : Exit → Act → World → Prop) (a : Act) (w : World) : Prop :=
  ∀ (b : Frame) (k : List Item) (cs : List Frame), ∃ e a' w', Q e a' w' ∧ Arrives P (lone (b.at a (.code c :: .inLoop c :: k)) cs w) b k cs e a' w'
theorem loop_of_in {P : Program} {c : Code} {Q : Exit → Act → World → Prop} {a : Act} {w : World} (h : InLoop P c Q a w) : (Code.loop c).wp P Q a w := fun b k cs => by
  obtain ⟨e, a', w', hq, harr⟩ := h b k cs
  exact ⟨e, a', w', hq, .of_steps (.one step_loop) harr⟩
theorem in_round {P : Program} {c : Code} {Q : Exit → Act → World → Prop} {a : Act} {w : World} (h : c.wp P (Exit.then (InLoop P c Q) Q) a w) : InLoop P c Q a w := fun b k cs => by
  obtain ⟨e, a₁, w₁, hq, harr⟩ := h b (.inLoop c :: k) cs
  cases e with
  | normal =>
    obtain ⟨e₂, a₂, w₂, hq₂, harr₂⟩ := hq b k cs
    exact ⟨e₂, a₂, w₂, hq₂, .of_steps (Steps.trans harr (.one step_inLoop)) harr₂⟩
  | exit id => exact ⟨_, a₁, w₁, hq, .pass (x := .inLoop c) rfl (fun _ _ => .inl (by simp)) harr⟩
  | goto l => exact ⟨_, a₁, w₁, hq, .pass (x := .inLoop c) rfl (fun _ _ => .inl (by simp)) harr⟩
  | ret => exact ⟨_, a₁, w₁, hq, .pass (x := .inLoop c) rfl (fun _ _ => .inl (by simp)) harr⟩
  | panic ch => exact ⟨_, a₁, w₁, hq, .pass (x := .inLoop c) rfl (fun _ _ => .inl (by simp)) harr⟩
  | outgrown => exact ⟨_, a₁, w₁, hq, .pass (x := .inLoop c) rfl (fun _ _ => .inl (by simp)) harr⟩
theorem mergeO_cond {β : Type} (c : Bool) (a b : Option β) : mergeO c a b = cond c a b := by
  cases a <;> cases b <;> cases c <;> rfl
/-- A round's end. -/
def Loop.ends (l : Loop) (f : l.head.H → Option l.Y) : Leaf → Option l.Y
  | .norm s => (l.head.load s).bind f
  | .ext j s => cond (Nat.beq j l.id) ((l.out.load s).bind fun y => some (l.mkOut y)) none
  | .ret s => l.mkBack s
theorem round_res (l : Loop) (f : l.head.H → Option l.Y) : ∀ o : Out, o.round l f = o.res.bind (l.ends f)
  | .norm s => by simp only [Out.round, Out.res, Option.bind_some, Loop.ends]; cases l.head.load s <;> rfl
  | .ext j s => by simp only [Out.round, Out.res, Option.bind_some, Loop.ends]; cases l.out.load s <;> rfl
  | .ret s => rfl
  | .br c t e => by simp only [Out.round, mergeO_cond, Out.res, round_res l f t, round_res l f e]; cases c <;> rfl
  | .need c o => by simp only [Out.round, Out.res, round_res l f o]; cases c <;> rfl
  | .opt d o k => by cases o <;> simp [Out.round, Out.res, round_res l f]
  | .bad => rfl
/-! ### The loops of a function -/
def Loop.okB (low : Nat) (l : Loop) : Bool :=
  Nat.ble low l.head.next && (Nat.ble low l.out.next && Nat.ble l.out.ntmps l.head.ntmps) && (match l.back with | none => true | some b => Nat.ble low b.next && Nat.ble b.ntmps l.head.ntmps)
structure LoopE where
  r : Nat
  L : Loop
  H : Nat → L.head.H → Option L.Y
def loopsOf : List LoopE → Nat → Nat → Option (St → Out)
  | [], _, _ => none
  | e :: t, k, r => cond (Nat.beq e.r r) (some (e.L.enter (e.H k))) (loopsOf t k r)
theorem loopsOf_some {k r : Nat} {f : St → Out} : ∀ {tbl : List LoopE}, loopsOf tbl k r = some f → ∃ e ∈ tbl, e.r = r ∧ f = e.L.enter (e.H k)
  | [], h => by cases h
  | e :: t, h => by
    simp only [loopsOf] at h
    cases hb : Nat.beq e.r r with
    | true => rw [hb] at h; cases h; exact ⟨e, List.mem_cons_self, Nat.eq_of_beq_eq_true hb, rfl⟩
    | false => rw [hb] at h; obtain ⟨e', h1, h2⟩ := loopsOf_some h; exact ⟨e', List.mem_cons_of_mem _ h1, h2⟩
def allLoops : Code → List Code
  | .seq a b => allLoops a ++ allLoops b
  | .cond _ a b => allLoops a ++ allLoops b
  | .block _ c => allLoops c
  | .loop c => c :: allLoops c
  | _ => []
theorem findLoop_eq (r : Nat) : ∀ c : Code, findLoop r c = (allLoops c).find? fun d => Nat.beq (firstRegion d) r
  | .seq a b => by
    simp only [findLoop, allLoops, List.find?_append, findLoop_eq r a, findLoop_eq r b]
    cases (allLoops a).find? _ <;> rfl
  | .cond _ a b => by
    simp only [findLoop, allLoops, List.find?_append, findLoop_eq r a, findLoop_eq r b]
    cases (allLoops a).find? _ <;> rfl
  | .block _ c => by simp only [findLoop, allLoops, findLoop_eq r c]
  | .loop c => by
    simp only [findLoop, allLoops, List.find?_cons, findLoop_eq r c]
    cases Nat.beq (firstRegion c) r <;> rfl
  | .skip => rfl
  | .region _ _ _ => rfl
  | .exit _ => rfl
  | .ret => rfl
  | .rangeFunc .. => rfl
  | .scope _ => rfl
  | .label _ => rfl
  | .goto _ => rfl
  | .refuse _ => rfl
theorem loopsIn_all {d : Code} : ∀ {c : Code}, d ∈ loopsIn c → d ∈ allLoops c
  | .seq a b, h => by
    rcases List.mem_append.1 h with h | h
    · exact List.mem_append_left _ (loopsIn_all h)
    · exact List.mem_append_right _ (loopsIn_all h)
  | .cond _ a b, h => by
    rcases List.mem_append.1 h with h | h
    · exact List.mem_append_left _ (loopsIn_all h)
    · exact List.mem_append_right _ (loopsIn_all h)
  | .block _ c, h => loopsIn_all (c := c) h
  | .loop c, h => by
    simp only [loopsIn, List.mem_singleton] at h
    subst h
    exact List.mem_cons_self
  | .skip, h => by cases h
  | .region _ _ _, h => by cases h
  | .exit _, h => by cases h
  | .ret, h => by cases h
  | .rangeFunc .., h => by cases h
  | .scope _, h => by cases h
  | .label _, h => by cases h
  | .goto _, h => by cases h
  | .refuse _, h => by cases h
theorem allLoops_trans {d e : Code} : ∀ {c : Code}, d ∈ allLoops c → e ∈ allLoops d → e ∈ allLoops c
  | .seq a b, h, k => by
    rcases List.mem_append.1 h with h | h
    · exact List.mem_append_left _ (allLoops_trans h k)
    · exact List.mem_append_right _ (allLoops_trans h k)
  | .cond _ a b, h, k => by
    rcases List.mem_append.1 h with h | h
    · exact List.mem_append_left _ (allLoops_trans h k)
    · exact List.mem_append_right _ (allLoops_trans h k)
  | .block _ c, h, k => allLoops_trans (c := c) h k
  | .loop c, h, k => by
    rcases List.mem_cons.1 h with h | h
    · subst h; exact List.mem_cons_of_mem _ k
    · exact List.mem_cons_of_mem _ (allLoops_trans h k)
  | .skip, h, _ => by cases h
  | .region _ _ _, h, _ => by cases h
  | .exit _, h, _ => by cases h
  | .ret, h, _ => by cases h
  | .rangeFunc .., h, _ => by cases h
  | .scope _, h, _ => by cases h
  | .label _, h, _ => by cases h
  | .goto _, h, _ => by cases h
  | .refuse _, h, _ => by cases h
theorem find_first {r : Nat} {d : Code} : ∀ {l : List Code}, distinctN (l.map firstRegion) = true → d ∈ l → firstRegion d = r → l.find? (fun d => Nat.beq (firstRegion d) r) = some d
  | c :: l, hd, hm, hr => by
    simp only [List.map_cons, distinctN, Bool.and_eq_true, Bool.not_eq_true'] at hd
    simp only [List.find?_cons]
    rcases List.mem_cons.1 hm with h | h
    · subst h; rw [hr]; simp
    · have : Nat.beq (firstRegion c) r = false := by
        cases hb : Nat.beq (firstRegion c) r with
        | false => rfl
        | true =>
          have e := Nat.eq_of_beq_eq_true hb
          have : hasN (firstRegion c) (l.map firstRegion) = true := hasN_mem.2 (List.mem_map.2 ⟨d, h, by rw [hr, e]⟩)
          rw [this] at hd; cases hd.1
      rw [this]
      exact find_first hd.2 h hr
theorem loopAt_of {fn : Func} {c0 d : Code} (hb : fn.body = some c0) (hd : distinctN ((allLoops c0).map firstRegion) = true) (hm : d ∈ allLoops c0) : loopAt (firstRegion d) fn = d := by
  unfold loopAt
  rw [hb]
  simp only [findLoop_eq, find_first hd hm rfl]
theorem st_len (k : Skel) (x : k.H) : (k.st x).slots.length = k.ntmps := by
  show (fillV k.slots x.1 _).length = _
  rw [fillV_eq, length_setVs]; simp
theorem load_ntmps {k : Skel} {s : St} {x : k.H} (h : k.load s = some x) : k.ntmps ≤ s.slots.length := by
  unfold Skel.load at h
  cases hc : (k.idsOk && Nat.ble k.ntmps s.slots.length) with
  | false => rw [hc] at h; cases h
  | true => simp only [Bool.and_eq_true, Nat.ble_eq] at hc; exact hc.2
theorem enter_all {low : Nat} {l : Loop} (hl : l.okB low = true) (f : l.head.H → Option l.Y) {S0 s : St} (h : Agr S0 s) : (l.enter f s).All (Agr S0) := by
  unfold Loop.enter
  cases hx : l.head.load s with
  | none => trivial
  | some x =>
    have h1 := Nat.le_trans (load_ntmps hx) h.len
    obtain ⟨head, i, out, back⟩ := l
    simp only [Loop.okB, Bool.and_eq_true, Nat.ble_eq] at hl
    intro y
    cases back with
    | none => exact ⟨Nat.le_trans (Nat.le_of_eq (st_len out _)) (Nat.le_trans hl.1.2.2 h1), .inl rfl⟩
    | some b =>
      simp only [Bool.and_eq_true, Nat.ble_eq] at hl
      exact ⟨⟨Nat.le_trans (Nat.le_of_eq (st_len out _)) (Nat.le_trans hl.1.2.2 h1), .inl rfl⟩, ⟨Nat.le_trans (Nat.le_of_eq (st_len b _)) (Nat.le_trans hl.2.2 h1), .inl rfl⟩⟩
section
variable {P : Program} {G : Nat → Option GV}
/-- What is asked of a function's loops. -/
structure Loops (Γ : Nat → Env) (vars low : Nat) (tbl : List LoopE) (fn : Func) (c0 : Code) : Prop where
  body : fn.body = some c0
  dist : distinctN ((allLoops c0).map firstRegion) = true
  loops : ∀ k, (Γ k).loops = loopsOf tbl k
  vars : ∀ k, (Γ k).vars = vars
  inls : ∀ k id i h, (Γ k).inls id i = some h → InlAll h
  ok : ∀ e ∈ tbl, e.L.okB low = true
  h0 : ∀ e ∈ tbl, ∀ x, e.H 0 x = none
  hs : ∀ e ∈ tbl, ∀ k x, e.H (k + 1) x = Out.round e.L (e.H k) (evCode (Γ k) (loopAt e.r fn) (e.L.head.st x))
theorem Loops.all {Γ : Nat → Env} {vars low : Nat} {tbl : List LoopE} {fn : Func} {c0 : Code} (h : Loops Γ vars low tbl fn c0) (k : Nat) : HooksAll (Γ k) := ⟨fun r f hf S0 s hs => by
  rw [h.loops] at hf
  obtain ⟨e, h1, _, rfl⟩ := loopsOf_some hf
  exact enter_all (h.ok e h1) _ hs, h.inls k⟩
/-- From the head. -/
def HeadOk (P : Program) (G : Nat → Option GV) (vars low : Nat) (c : Code) (l : Loop) (f : l.head.H → Option l.Y) : Prop := ∀ (m0 m : Mem) (x : l.head.H) (y : l.Y) (a0 a : Act) (leaf : Leaf), Rel P G vars m (l.head.st x) a.tmps → (∀ id, m.U id → id < l.head.next) →
  FrL low m0 m → a.tmps.size = a0.tmps.size → a.defers = a0.defers → f x = some y → (l.leaf y).res = some leaf → InLoop P c (LeafOk P G vars low m0 a0 leaf) a m.w
theorem HeadOk.enter {Γ : Env} {vars low : Nat} (hv : Γ.vars = vars) {c : Code} {l : Loop} (hl : l.okB low = true) {f : l.head.H → Option l.Y} (h : HeadOk P G vars low c l f) : LoopOk P G Γ low c (l.enter f) := fun m s a leaf r hU hres => by
  rw [hv] at r ⊢
  unfold Loop.enter at hres
  cases hx : l.head.load s with
  | none => rw [hx] at hres; cases hres
  | some x =>
    rw [hx] at hres
    simp only [Out.res] at hres
    cases hy : f x with
    | none => rw [hy] at hres; cases hres
    | some y =>
      rw [hy] at hres
      simp only [Loop.okB, Bool.and_eq_true, Nat.ble_eq] at hl
      exact loop_of_in (h m (m.shrink l.head.next) x y a a leaf (load_rel r hx) (fun id hid => hid.2) (FrL.shrink low m hl.1.1) rfl rfl hy hres)
theorem loops_ok {Γ : Nat → Env} {vars low : Nat} {tbl : List LoopE} {fn : Func} {c0 : Code} (h : Loops Γ vars low tbl fn c0) : ∀ k, (∀ j, j < k → RegOk P G (Γ j) low) → ∀ e ∈ tbl, ∀ c ∈ allLoops c0, firstRegion c = e.r → HeadOk P G vars low c e.L (e.H k)
  | 0, _, e, he, c, _, _ => fun m0 m x y a0 a leaf _ _ _ _ _ hy _ => by rw [h.h0 e he] at hy; cases hy
  | k + 1, hR, e, he, c, hc, hr => fun m0 m x y a0 a leaf r hU hf hs hd hy hleaf => by
    have ih := loops_ok h k (fun j hj => hR j (by omega))
    have hh := ih e he c hc hr
    have hl := h.ok e he
    have hloop : loopAt e.r fn = c := by rw [← hr]; exact loopAt_of h.body h.dist hc
    rw [h.hs e he, hloop, round_res] at hy
    obtain ⟨r0, L, H⟩ := e
    simp only at hh hl hr hy x y r hU hleaf
    cases ho : (evCode (Γ k) c (L.head.st x)).res with
    | none => rw [ho] at hy; cases hy
    | some l0 =>
      rw [ho] at hy
      replace hy : L.ends (H k) l0 = some y := hy
      have hcode := code_ok (P := P) (G := G) (Γ := Γ k) (hR k (by omega)) (h.all k) c (fun c' hc' f hf => by
        have hin := allLoops_trans hc (loopsIn_all hc')
        rw [h.loops] at hf
        obtain ⟨e', h1, h2, rfl⟩ := loopsOf_some hf
        exact (ih e' h1 c' hin h2.symm).enter (h.vars k) (h.ok e' h1)) m (L.head.st x) a l0 (by rw [h.vars]; exact r) hU ho
      refine in_round (wp_mono hcode fun ex a1 w1 hlf => ?_)
      obtain ⟨m1, e1, r1, f1, u1, s1, d1, x1⟩ := hlf
      rw [h.vars] at r1
      subst e1
      subst x1
      cases l0 with
      | norm s2 =>
        show InLoop P c _ a1 m1.w
        simp only [Loop.ends] at hy
        cases hx2 : L.head.load s2 with
        | none => rw [hx2] at hy; cases hy
        | some x2 =>
          rw [hx2] at hy
          simp only [Loop.okB, Bool.and_eq_true, Nat.ble_eq] at hl
          exact hh m0 (m1.shrink L.head.next) x2 y a0 a1 leaf (load_rel r1 hx2) (fun id hid => hid.2) ((hf.trans f1).trans (FrL.shrink low m1 hl.1.1)) (s1.trans hs) (d1.trans hd) hy hleaf
      | ext j s2 =>
        show LeafOk P G vars low m0 a0 leaf (.exit j) a1 m1.w
        simp only [Loop.ends] at hy
        cases hj : Nat.beq j L.id with
        | false => rw [hj] at hy; cases hy
        | true =>
          rw [hj] at hy
          have hj' := Nat.eq_of_beq_eq_true hj
          cases hz : L.out.load s2 with
          | none => rw [hz] at hy; cases hy
          | some z =>
            rw [hz] at hy
            cases hy
            have hlf : leaf = .ext L.id (L.out.st z) := by
              obtain ⟨head, i, out, back⟩ := L
              cases back <;> (cases hleaf; rfl)
            subst hlf
            simp only [Loop.okB, Bool.and_eq_true, Nat.ble_eq] at hl
            exact ⟨m1.shrink L.out.next, rfl, load_rel r1 hz, (hf.trans f1).trans (FrL.shrink low m1 hl.1.2.1), fun id hid => hid.2, s1.trans hs, d1.trans hd, by rw [hj']; rfl⟩
      | ret s2 =>
        show LeafOk P G vars low m0 a0 leaf .ret a1 m1.w
        simp only [Loop.ends] at hy
        obtain ⟨head, i, out, back⟩ := L
        cases back with
        | none => cases hy
        | some b =>
          simp only [Loop.mkBack] at hy
          split at hy
          · rename_i z hz
            cases hy
            cases hleaf
            simp only [Loop.okB, Bool.and_eq_true, Nat.ble_eq] at hl
            exact ⟨m1.shrink b.next, rfl, load_rel r1 hz, (hf.trans f1).trans (FrL.shrink low m1 hl.2.1), fun id hid => hid.2, s1.trans hs, d1.trans hd, rfl⟩
          · cases hy
end
end Go.XE
