/- Part 9 of the proof. -/
import Derived.Test.YtnmkgbomiillgaaGreatDoorP08
import Derived.Test.YtnmkgbomiillgaaGreatDoorP02
/- Regions whose order is drawn: operations that don't wait for each other don't meet. -/
namespace Go.XE
section
variable {P : Program} {G : Nat → Option GV} {Γ : Env} {m : Mem} {s s' : St} {a : Act}

/-! ### A run elsewhere -/
structure Lens (s t : St) : Prop where
  slots : s.slots.length = t.slots.length
  stips : s.stips.length = t.stips.length
theorem length_setT' : ∀ (l : List (List Nat)) (n : Nat) (x : List Nat), (setT l n x).length = l.length := length_setT
theorem lens_put {s t : St} (h : Lens s t) (l : Loc) (x : LV) : Lens (s.put l x) (t.put l x) := by
  have h1 := h.slots
  have h2 := h.stips
  cases l <;> cases x <;> refine ⟨?_, ?_⟩ <;> simp [St.put, length_setV, length_setT, h1, h2]
theorem get_put_ne {s : St} {l k : Loc} {x : LV} (h : l ≠ k) : (s.put l x).get k = s.get k := by
  cases l <;> cases x <;> cases k <;> first
    | rfl
    | (simp only [St.get, St.put, nthV_setV]; rw [if_neg (fun e => h (by rw [e.1]))])
    | (simp only [St.get, St.put, nthT_setT]; rw [if_neg (fun e => h (by rw [e.1]))])
    | (simp only [St.get, St.put, lookObj_setObj]; rw [if_neg (fun e => h (by rw [e]))])
    | (simp only [St.get, St.put, lookT_setTips]; rw [if_neg (fun e => h (by rw [e]))])
    | exact absurd rfl h
theorem get_put_eq {s t : St} (hl : Lens s t) {l : Loc} {x : LV} (h : s.get l = t.get l) : (s.put l x).get l = (t.put l x).get l := by
  have h1 := hl.slots
  have h2 := hl.stips
  cases l <;> cases x <;> first
    | exact h
    | rfl
    | (simp only [St.get, LV.v.injEq] at h; simp only [St.get, St.put, nthV_setV, h1, h]; done)
    | (simp only [St.get, LV.t.injEq] at h; simp only [St.get, St.put, nthT_setT, h2, h]; done)
    | (simp [St.get, St.put, lookObj_setObj]; done)
    | (simp [St.get, St.put, lookT_setTips]; done)
theorem hasLoc_mem {l : Loc} : ∀ {r : List Loc}, hasLoc l r = true ↔ l ∈ r
  | [] => by simp [hasLoc]
  | k :: r => by
    simp only [hasLoc, Bool.or_eq_true, hasLoc_mem (r := r), List.mem_cons, loc_beq]
    constructor
    · rintro (h | h)
      · exact .inl h.symm
      · exact .inr h
    · rintro (h | h)
      · exact .inl h.symm
      · exact .inr h
theorem mem_addLoc {l k : Loc} {r : List Loc} : l ∈ addLoc k r ↔ l = k ∨ l ∈ r := by
  unfold addLoc
  cases h : hasLoc k r with
  | true =>
    simp only [cond_true]
    constructor
    · exact .inr
    · rintro (rfl | h')
      · exact hasLoc_mem.1 h
      · exact h'
  | false => simp
theorem runR_mono {α : Type} : ∀ {mm : M α} {s : St} {p : α × St}, runR mm s = some p → (∀ l, l ∈ s.rd → l ∈ p.2.rd) ∧ ∀ l, l ∈ s.wr → l ∈ p.2.wr
  | .ret a, s, p, h => by cases h; exact ⟨fun _ h => h, fun _ h => h⟩
  | .get l k, s, p, h => by
    obtain ⟨h1, h2⟩ := runR_mono (mm := k (s.get l)) (s := { s with rd := addLoc l s.rd }) h
    exact ⟨fun x hx => h1 x (mem_addLoc.2 (.inr hx)), h2⟩
  | .put l x k, s, p, h => by
    obtain ⟨h1, h2⟩ := runR_mono (mm := k) (s := { s.put l x with wr := addLoc l s.wr, dirty := addLoc l s.dirty }) h
    exact ⟨fun y hy => h1 y (by show y ∈ (s.put l x).rd; cases l <;> cases x <;> exact hy), fun y hy => h2 y (mem_addLoc.2 (.inr hy))⟩
  | .need c k, s, p, h => by
    cases c with
    | true => exact runR_mono (mm := k) h
    | false => cases h
  | .opt d o k, s, p, h => by
    cases o with
    | none => cases h
    | some b => exact runR_mono (mm := k b) h
  | .fail, _, _, h => by cases h
theorem runR_lens {α : Type} : ∀ {mm : M α} {s : St} {p : α × St}, runR mm s = some p → Lens p.2 s
  | .ret a, s, p, h => by cases h; exact ⟨rfl, rfl⟩
  | .get l k, s, p, h => by
    have h1 := runR_lens (mm := k (s.get l)) (s := { s with rd := addLoc l s.rd }) h
    exact ⟨h1.slots, h1.stips⟩
  | .put l x k, s, p, h => by
    have h1 := runR_lens (mm := k) (s := { s.put l x with wr := addLoc l s.wr, dirty := addLoc l s.dirty }) h
    refine ⟨h1.slots.trans (len_put s l x), h1.stips.trans ?_⟩
    show (s.put l x).stips.length = _
    cases l <;> cases x <;> first | rfl | exact length_setT _ _ _
  | .need c k, s, p, h => by
    cases c with
    | true => exact runR_lens (mm := k) h
    | false => cases h
  | .opt d o k, s, p, h => by
    cases o with
    | none => cases h
    | some b => exact runR_lens (mm := k b) h
  | .fail, _, _, h => by cases h
theorem runR_frame {α : Type} (S : Loc → Prop) : ∀ {mm : M α} {s t : St} {b : α} {s' : St}, runR mm s = some (b, s') → (∀ l, l ∈ s'.rd → S l) → (∀ l, l ∈ s'.wr → S l) → (∀ l, S l → s.get l = t.get l) → Lens s t →
    ∃ t', runR mm t = some (b, t') ∧ (∀ l, S l → s'.get l = t'.get l) ∧ Lens s' t' ∧ ∀ l, l ∉ s'.wr → t'.get l = t.get l ∧ s'.get l = s.get l
  | .ret a, s, t, b, s', h, _, _, he, hl => by cases h; exact ⟨t, rfl, he, hl, fun _ _ => ⟨rfl, rfl⟩⟩
  | .get l k, s, t, b, s', h, hr, hw, he, hl => by
    replace h : runR (k (s.get l)) { s with rd := addLoc l s.rd } = some (b, s') := h
    have hm := runR_mono h
    have e := he l (hr l (hm.1 l (mem_addLoc.2 (.inl rfl))))
    obtain ⟨t', h1, h2, h3, h4⟩ := runR_frame S (t := { t with rd := addLoc l t.rd }) h hr hw (fun l hl => by have := he l hl; cases l <;> exact this) ⟨hl.slots, hl.stips⟩
    refine ⟨t', ?_, h2, h3, fun k hk => ?_⟩
    · show runR (k (t.get l)) _ = _
      rw [← e]; exact h1
    · have := h4 k hk
      cases k <;> exact this
  | .put l x k, s, t, b, s', h, hr, hw, he, hl => by
    replace h : runR k { s.put l x with wr := addLoc l s.wr, dirty := addLoc l s.dirty } = some (b, s') := h
    have hm := runR_mono h
    have hlw : l ∈ s'.wr := hm.2 l (mem_addLoc.2 (.inl rfl))
    have hS := hw l hlw
    have lp := lens_put hl l x
    obtain ⟨t', h1, h2, h3, h4⟩ := runR_frame S (t := { t.put l x with wr := addLoc l t.wr, dirty := addLoc l t.dirty }) h hr hw (fun q hq => by
      have : (s.put l x).get q = (t.put l x).get q := by
        by_cases e : l = q
        · subst e; exact get_put_eq hl (he l hS)
        · rw [get_put_ne e, get_put_ne e]; exact he q hq
      cases q <;> exact this) ⟨lp.slots, lp.stips⟩
    refine ⟨t', h1, h2, h3, fun q hq => ?_⟩
    have e : l ≠ q := fun e => hq (e ▸ hlw)
    obtain ⟨k1, k2⟩ := h4 q hq
    have g1 : (t.put l x).get q = t.get q := get_put_ne e
    have g2 : (s.put l x).get q = s.get q := get_put_ne e
    refine ⟨k1.trans ?_, k2.trans ?_⟩
    · rw [← g1]; cases q <;> rfl
    · rw [← g2]; cases q <;> rfl
  | .need c k, s, t, b, s', h, hr, hw, he, hl => by
    cases c with
    | true =>
      obtain ⟨t', h1⟩ := runR_frame S (mm := k) h hr hw he hl
      exact ⟨t', h1⟩
    | false => cases h
  | .opt d o k, s, t, b, s', h, hr, hw, he, hl => by
    cases o with
    | none => cases h
    | some c =>
      obtain ⟨t', h1⟩ := runR_frame S (mm := k c) h hr hw he hl
      exact ⟨t', h1⟩
  | .fail, _, _, _, _, h, _, _, _, _ => by cases h

/-! ### The steps of a region -/
def Wants (all : List Oper) (o : Oper) (s : St) (rd : List Loc) : Prop :=
  (o.guard = none ∧ rd = []) ∨ ∃ j want g b, o.guard = some (j, want) ∧ dstAt all j = some g ∧ nthV s.slots g = .kb b ∧ bEq b want = true ∧ rd = [.slot g]
def Unwanted (all : List Oper) (o : Oper) (s : St) (g : Nat) : Prop :=
  ∃ j want, o.guard = some (j, want) ∧ dstAt all j = some g ∧ (nthV s.slots g = .und ∨ ∃ b, nthV s.slots g = .kb b ∧ bEq b want = false)
def Sharp (dst : Option Nat) (s s' : St) : Prop :=
  s' = s ∨ ∃ d b p, dst = some d ∧ nthV s.slots d = .dat ⟨.bool, b⟩ p ∧ s' = { s with slots := setV s.slots d (.kb b), dirty := [.slot d], all := false }
def skipSt (dst : Option Nat) (s : St) : St :=
  match dst with
  | some d => { s with slots := setV s.slots d .und, stips := setT s.stips d [], dirty := addLoc (.slot d) (addLoc (.stip d) s.dirty) }
  | none => s
def skipTr (g : Nat) : Option Nat → Tr
  | some d => ([.slot g], [.slot d, .stip d])
  | none => ([.slot g], [])
inductive Stp (Γ : Env) (all : List Oper) (nx i : Nat) (o : Oper) : Tr → St → St → Prop
  | run {rd : List Loc} {s s1 s2 : St} {u : Unit} (hw : Wants all o s rd) (h : runR (evOp Γ o (nx + i)) { s with rd := rd, wr := [] } = some (u, s1)) (hs : Sharp o.dst s1 s2) : Stp Γ all nx i o (s1.rd, dstWr o.dst s1.wr) s s2
  | skip {g : Nat} {s : St} (hg : Unwanted all o s g) (hv : ∀ d, o.dst = some d → Nat.testBit Γ.vars d = false) : Stp Γ all nx i o (skipTr g o.dst) s (skipSt o.dst s)
theorem mem_dstWr {l : Loc} {d : Option Nat} {wr : List Loc} : l ∈ dstWr d wr ↔ (∃ n, d = some n ∧ l = .slot n) ∨ l ∈ wr := by
  cases d with
  | none => simp [dstWr]
  | some d => simp [dstWr, mem_addLoc]
theorem put_two (s : St) (d : Nat) (V : V) (ts : List Nat) (l : Loc) : St.get { s with slots := setV s.slots d V, stips := setT s.stips d ts, dirty := addLoc (.slot d) (addLoc (.stip d) s.dirty) } l = ((s.put (.slot d) (.v V)).put (.stip d) (.t ts)).get l := by
  cases l <;> rfl
theorem put_one (s : St) (d : Nat) (V : V) (l : Loc) : St.get { s with slots := setV s.slots d V, dirty := [.slot d], all := false } l = (s.put (.slot d) (.v V)).get l := by
  cases l <;> rfl
theorem get_slot {s t : St} {g : Nat} (h : s.get (.slot g) = t.get (.slot g)) : nthV t.slots g = nthV s.slots g := by
  simp only [St.get, LV.v.injEq] at h; exact h.symm
theorem Stp.frame {all : List Oper} {nx i : Nat} {o : Oper} {tr : Tr} {t : St} (S : Loc → Prop) (h : Stp Γ all nx i o tr s s') (hr : ∀ l, l ∈ tr.1 → S l) (hw : ∀ l, l ∈ tr.2 → S l) (he : ∀ l, S l → s.get l = t.get l) (hl : Lens s t) :
    ∃ t' tr', Stp Γ all nx i o tr' t t' ∧ (∀ l, S l → s'.get l = t'.get l) ∧ Lens s' t' ∧ ∀ l, l ∉ tr.2 → t'.get l = t.get l ∧ s'.get l = s.get l := by
  cases h with
  | run hwn hrun hs =>
    rename_i rd s1 u
    have hm := runR_mono hrun
    have hw' : Wants all o t rd := by
      rcases hwn with ⟨h1, h2⟩ | ⟨j, want, g, b, h1, h2, h3, h4, h5⟩
      · exact .inl ⟨h1, h2⟩
      · refine .inr ⟨j, want, g, b, h1, h2, ?_, h4, h5⟩
        rw [get_slot (he (.slot g) (hr _ (hm.1 _ (by simp [h5]))))]
        exact h3
    obtain ⟨t1, k1, k2, k3, k4⟩ := runR_frame S (t := { t with rd := rd, wr := [] }) hrun hr (fun l hl => hw l (mem_dstWr.2 (.inr hl))) (fun l hl => by have := he l hl; cases l <;> exact this) ⟨hl.slots, hl.stips⟩
    have k4' : ∀ l, l ∉ s1.wr → t1.get l = t.get l ∧ s1.get l = s.get l := fun l hl => by
      have := k4 l hl
      cases l <;> exact this
    rcases hs with rfl | ⟨d, b, p, e1, e2, rfl⟩
    · exact ⟨t1, _, .run hw' k1 (.inl rfl), k2, k3, fun l hl => k4' l fun h => hl (mem_dstWr.2 (.inr h))⟩
    · have hd : S (.slot d) := hw _ (mem_dstWr.2 (.inl ⟨d, e1, rfl⟩))
      have e3 := get_slot (k2 _ hd)
      have lp := lens_put k3 (.slot d) (.v (.kb b))
      refine ⟨{ t1 with slots := setV t1.slots d (.kb b), dirty := [.slot d], all := false }, _, .run hw' k1 (.inr ⟨d, b, p, e1, by rw [e3]; exact e2, rfl⟩), fun l hl => ?_, ⟨lp.slots, lp.stips⟩, fun l hl => ?_⟩
      · rw [put_one, put_one]
        by_cases e : Loc.slot d = l
        · subst e; exact get_put_eq k3 (k2 _ hl)
        · rw [get_put_ne e, get_put_ne e]; exact k2 l hl
      · have e : Loc.slot d ≠ l := fun e => hl (mem_dstWr.2 (.inl ⟨d, e1, e.symm⟩))
        rw [put_one, put_one, get_put_ne e, get_put_ne e]
        exact k4' l fun h => hl (mem_dstWr.2 (.inr h))
  | skip hg hv =>
    rename_i g
    have hgS : S (.slot g) := hr _ (by cases o.dst <;> simp [skipTr])
    have hg' : Unwanted all o t g := by
      obtain ⟨j, want, h1, h2, h3⟩ := hg
      refine ⟨j, want, h1, h2, ?_⟩
      rw [get_slot (he _ hgS)]
      exact h3
    refine ⟨skipSt o.dst t, _, .skip hg' hv, ?_⟩
    cases hd : o.dst with
    | none => exact ⟨he, hl, fun _ _ => ⟨rfl, rfl⟩⟩
    | some d =>
      have lp := lens_put (lens_put hl (.slot d) (.v .und)) (.stip d) (.t [])
      rw [hd] at hw
      refine ⟨fun l hl' => ?_, ⟨lp.slots, lp.stips⟩, fun l hl' => ?_⟩
      · simp only [skipSt, put_two]
        by_cases e : Loc.stip d = l
        · subst e
          refine get_put_eq (lens_put hl _ _) ?_
          rw [get_put_ne (by simp), get_put_ne (by simp)]; exact he _ hl'
        · rw [get_put_ne e, get_put_ne e]
          by_cases e2 : Loc.slot d = l
          · subst e2; exact get_put_eq hl (he _ hl')
          · rw [get_put_ne e2, get_put_ne e2]; exact he l hl'
      · simp only [skipTr, List.mem_cons, List.not_mem_nil, or_false, not_or] at hl'
        simp only [skipSt, put_two]
        rw [get_put_ne (Ne.symm hl'.2), get_put_ne (Ne.symm hl'.1), get_put_ne (Ne.symm hl'.2), get_put_ne (Ne.symm hl'.1)]
        exact ⟨rfl, rfl⟩
theorem Stp.next {all : List Oper} {nx i : Nat} {o : Oper} {tr : Tr} (h : Stp Γ all nx i o tr s s') : s'.next = s.next := by
  cases h with
  | run _ hrun hs =>
    have := runR_next hrun
    rcases hs with rfl | ⟨d, b, p, _, _, rfl⟩ <;> exact this
  | skip _ _ => cases o.dst <;> rfl
theorem Stp.lens {all : List Oper} {nx i : Nat} {o : Oper} {tr : Tr} (h : Stp Γ all nx i o tr s s') : Lens s' s := by
  cases h with
  | run _ hrun hs =>
    have := runR_lens hrun
    rcases hs with rfl | ⟨d, b, p, _, _, rfl⟩
    · exact ⟨this.slots, this.stips⟩
    · exact ⟨(length_setV _ _ _).trans this.slots, this.stips⟩
  | skip _ _ =>
    cases o.dst with
    | none => exact ⟨rfl, rfl⟩
    | some d => exact ⟨length_setV _ _ _, length_setT _ _ _⟩
/-- What a step does. -/
theorem Stp.wp (H : OpsOk P G Γ) {all : List Oper} {nx i : Nat} {o : Oper} {tr : Tr} {Q : Exit → Act → World → Prop} {K : Act → World → Prop} (h : Stp Γ all nx i o tr s s') (hget : all.toArray[i]? = some o) (r : Rel P G Γ.vars m s a.tmps) (hf : ¬ m.U (nx + i))
    (hK : ∀ v m', Rel P G Γ.vars m' s' (a.put o.dst v).tmps → Fr m m' → (∀ id, m'.U id → m.U id ∨ id = nx + i) → K (a.put o.dst v) m'.w) : wpOp P all.toArray Q i K a m.w := by
  unfold wpOp
  simp only [hget]
  cases h with
  | run hwn hrun hs =>
    have hw : Region.wanted o (yielded all.toArray a.tmps) = true := by
      rcases hwn with ⟨h1, h2⟩ | ⟨j, want, g, b, h1, h2, h3, h4, h5⟩
      · simp [Region.wanted, h1]
      · have hsl := r.slots g
        rw [h3] at hsl
        have hy := yielded_kb h2 (show a.tmps.getD g undef = .bool b from hsl)
        cases b <;> cases want <;> simp_all [Region.wanted, bEq]
    rw [if_pos hw]
    rename_i rd s1 u
    have hop := H o (nx + i) m { s with rd := rd, wr := [] } s1 a u (r.same ⟨rfl, rfl, rfl, rfl, rfl⟩) hf hrun
    refine .inl (hop _ Q fun v m' r' f' hU' => hK v m' ?_ f' hU')
    rcases hs with rfl | ⟨d, b, p, _, h2, rfl⟩
    · exact r'
    · exact (r'.le (kb_le b d _ ⟨p, h2⟩)).same ⟨rfl, rfl, rfl, rfl, rfl⟩
  | skip hg hv =>
    obtain ⟨j, want, h1, h2, h3⟩ := hg
    rename_i g
    have hw : Region.wanted o (yielded all.toArray a.tmps) = false := by
      have hsl := r.slots g
      rcases h3 with h3 | ⟨b, h3, h4⟩
      · rw [h3] at hsl
        have hy := yielded_und h2 (show a.tmps.getD g undef = undef from hsl)
        simp [Region.wanted, h1, hy]
      · rw [h3] at hsl
        have hy := yielded_kb h2 (show a.tmps.getD g undef = .bool b from hsl)
        cases b <;> cases want <;> simp_all [Region.wanted, bEq]
    rw [hw]
    simp only [Bool.false_eq_true, if_false]
    refine hK undef m ?_ (.refl m) fun id h => .inl h
    cases hd : o.dst with
    | none => exact r
    | some d => exact (r.setSlot (n := d) (V := .und) (ts := []) (v := undef) rfl (fun D hD => by cases hD) (fun _ D p e => by cases e) (fun _ => hv d hd)).same ⟨rfl, rfl, rfl, rfl, rfl⟩

/-! ### The steps in the order of the text -/
theorem sharpen_steps {gs : List Nat} {dst : Option Nat} {k : St → Out} {l : Leaf} (hk : ∀ B s, Agr B s → (k s).All (Agr B)) (h : (sharpen gs dst s k).res = some l) :
    ∃ s1 l0, (k s1).res = some l0 ∧ LeafLe s.slots.length l0 l ∧ Sharp dst s s1 := by
  have plain : (k s).res = some l → ∃ s1 l0, (k s1).res = some l0 ∧ LeafLe s.slots.length l0 l ∧ Sharp dst s s1 := fun h => ⟨s, l, h, .refl _ _, .inl rfl⟩
  unfold sharpen at h
  cases dst with
  | none => exact plain h
  | some d =>
    simp only at h
    cases hd : hasN d gs with
    | false => rw [hd] at h; exact plain h
    | true =>
      simp only [hd, cond_true] at h
      split at h
      · rename_i b p hb
        obtain ⟨l0, h1, h2⟩ := mkBr_res (b := s) (hk s _ (agr_slot (S0 := s) (.refl s) d _)) (hk s _ (agr_slot (S0 := s) (.refl s) d _)) h
        cases b with
        | true => exact ⟨_, l0, h1, h2, .inr ⟨d, true, p, rfl, hb, rfl⟩⟩
        | false => exact ⟨_, l0, h1, h2, .inr ⟨d, false, p, rfl, hb, rfl⟩⟩
      · exact plain h
theorem evOps_steps {all : List Oper} {gs : List Nat} {chk : List Tr → Bool} : ∀ (l : List Oper) (i : Nat) (trs : List Tr) (s : St) (leaf : Leaf), (evOps Γ all gs chk (fun _ => none) l i trs s).res = some leaf →
    ∃ (ts : List Tr) (S : Nat → St), S 0 = s ∧ (∀ k o, l[k]? = some o → ∃ tr, ts[k]? = some tr ∧ Stp Γ all s.next (i + k) o tr (S k) (S (k + 1))) ∧ ts.length = l.length ∧ chk (trs ++ ts) = true ∧ LeafLe s.slots.length (.norm (S l.length)) leaf
  | [], i, trs, s, leaf, h => by
    replace h : (cond (chk trs) (Out.norm s) .bad).res = some leaf := h
    cases hc : chk trs with
    | false => rw [hc] at h; cases h
    | true =>
      rw [hc] at h
      cases h
      exact ⟨[], fun _ => s, rfl, fun k o h => (by simp at h), rfl, by simpa using hc, LeafLe.refl _ _⟩
  | o :: rest, i, trs, s, leaf, h => by
    have cons : ∀ (tr : Tr) (s1 : St) (l0 : Leaf), Stp Γ all s.next i o tr s s1 → (evOps Γ all gs chk (fun _ => none) rest (i + 1) (trs ++ [tr]) s1).res = some l0 → LeafLe s.slots.length l0 leaf →
        ∃ (ts : List Tr) (S : Nat → St), S 0 = s ∧ (∀ k o', (o :: rest)[k]? = some o' → ∃ tr, ts[k]? = some tr ∧ Stp Γ all s.next (i + k) o' tr (S k) (S (k + 1))) ∧ ts.length = (o :: rest).length ∧ chk (trs ++ ts) = true ∧ LeafLe s.slots.length (.norm (S (o :: rest).length)) leaf := fun tr s1 l0 hst he hle => by
      obtain ⟨ts, S, h1, h2, h3, h4, h5⟩ := evOps_steps rest (i + 1) (trs ++ [tr]) s1 l0 he
      refine ⟨tr :: ts, fun | 0 => s | k + 1 => S k, rfl, fun k o' hk => ?_, by simp [h3], by simpa using h4, ?_⟩
      · cases k with
        | zero => cases hk; exact ⟨tr, rfl, by show Stp Γ all s.next i o tr s (S 0); rw [h1]; exact hst⟩
        | succ k =>
          obtain ⟨tr', g1, g2⟩ := h2 k o' (by simpa using hk)
          refine ⟨tr', by simpa using g1, ?_⟩
          rw [hst.next] at g2
          rw [show i + (k + 1) = i + 1 + k by omega]
          exact g2
      · rw [hst.lens.slots] at h5
        exact h5.trans hle
    have run : ∀ (rd : List Loc), Wants all o s rd → (runM (evOp Γ o (s.next + i)) { s with rd := rd, wr := [] } fun _ s' => sharpen gs o.dst s' (evOps Γ all gs chk (fun _ => none) rest (i + 1) (trs ++ [(s'.rd, dstWr o.dst s'.wr)]))).res = some leaf →
        ∃ (ts : List Tr) (S : Nat → St), S 0 = s ∧ (∀ k o', (o :: rest)[k]? = some o' → ∃ tr, ts[k]? = some tr ∧ Stp Γ all s.next (i + k) o' tr (S k) (S (k + 1))) ∧ ts.length = (o :: rest).length ∧ chk (trs ++ ts) = true ∧ LeafLe s.slots.length (.norm (S (o :: rest).length)) leaf := fun rd hw h => by
      rw [res_runM] at h
      cases hr : runR (evOp Γ o (s.next + i)) { s with rd := rd, wr := [] } with
      | none => rw [hr] at h; cases h
      | some p =>
        obtain ⟨u, s1⟩ := p
        rw [hr] at h
        replace h : (sharpen gs o.dst s1 (evOps Γ all gs chk (fun _ => none) rest (i + 1) (trs ++ [(s1.rd, dstWr o.dst s1.wr)]))).res = some leaf := h
        obtain ⟨s2, l0, g1, g2, g3⟩ := sharpen_steps (fun B s hB => evOps_all (inls := fun _ => none) (fun _ _ h => by cases h) all gs chk rest _ _ B s hB) h
        have hl := (runR_lens hr).slots
        exact cons _ s2 l0 (.run hw hr g3) g1 (by rw [hl] at g2; exact g2)
    have skip : ∀ (g : Nat), Unwanted all o s g → (match o.dst with
          | some d => cond (Nat.testBit Γ.vars d) .bad (evOps Γ all gs chk (fun _ => none) rest (i + 1) (trs ++ [([.slot g], [.slot d, .stip d])]) { s with slots := setV s.slots d .und, stips := setT s.stips d [], dirty := addLoc (.slot d) (addLoc (.stip d) s.dirty) })
          | none => evOps Γ all gs chk (fun _ => none) rest (i + 1) (trs ++ [([.slot g], [])]) s : Out).res = some leaf →
        ∃ (ts : List Tr) (S : Nat → St), S 0 = s ∧ (∀ k o', (o :: rest)[k]? = some o' → ∃ tr, ts[k]? = some tr ∧ Stp Γ all s.next (i + k) o' tr (S k) (S (k + 1))) ∧ ts.length = (o :: rest).length ∧ chk (trs ++ ts) = true ∧ LeafLe s.slots.length (.norm (S (o :: rest).length)) leaf := fun g hw h => by
      cases hd : o.dst with
      | none =>
        simp only [hd] at h
        have := Stp.skip (Γ := Γ) (all := all) (nx := s.next) (i := i) hw (fun d e => by rw [hd] at e; cases e)
        rw [hd] at this
        exact cons _ s leaf this h (.refl _ _)
      | some d =>
        simp only [hd] at h
        cases hb : Nat.testBit Γ.vars d with
        | true => rw [hb] at h; cases h
        | false =>
          simp only [hb, cond_false] at h
          have := Stp.skip (Γ := Γ) (all := all) (nx := s.next) (i := i) hw (fun d' e => by rw [hd] at e; cases e; exact hb)
          rw [hd] at this
          exact cons _ _ leaf this h (.refl _ _)
    simp only [evOps] at h
    cases hg : o.guard with
    | none =>
      simp only [hg] at h
      exact run [] (.inl ⟨hg, rfl⟩) h
    | some jw =>
      obtain ⟨j, want⟩ := jw
      simp only [hg] at h
      cases hd : dstAt all j with
      | none => simp only [hd] at h; cases h
      | some g =>
        simp only [hd] at h
        cases hV : nthV s.slots g with
        | kb b =>
          simp only [hV] at h
          cases hq : bEq b want with
          | true =>
            rw [hq] at h
            exact run [.slot g] (.inr ⟨j, want, g, b, hg, hd, hV, hq, rfl⟩) h
          | false =>
            rw [hq] at h
            exact skip g ⟨j, want, hg, hd, .inr ⟨b, hV, hq⟩⟩ h
        | und =>
          simp only [hV] at h
          exact skip g ⟨j, want, hg, hd, .inl hV⟩ h
        | _ => simp only [hV] at h; cases h
end
end Go.XE
/- Regions whose order is drawn: any order that keeps what must wait comes to the same. -/
namespace Go.XE

/-! ### Masks -/
theorem meets_false {a b : List Loc} (h : meets a b = false) : ∀ l, l ∈ a → l ∉ b := by
  induction a with
  | nil => exact fun l h => by cases h
  | cons x r ih =>
    simp only [meets, Bool.or_eq_false_iff] at h
    intro l hl hb
    rcases List.mem_cons.1 hl with rfl | hl
    · rw [hasLoc_mem.2 hb] at h; cases h.1
    · exact ih h.2 l hl hb
def NoMeet (t u : Tr) : Prop := ∀ l, (l ∈ t.2 → l ∉ u.1 ∧ l ∉ u.2) ∧ (l ∈ t.1 → l ∉ u.2)
theorem freeOf_ok {masks : List Nat} {i : Nat} {t : Tr} : ∀ {l : List Tr} {j : Nat}, freeOf masks i t j l = true → ∀ k u, l[k]? = some u → Nat.testBit (masks.getD (j + k) 0) i = true ∨ NoMeet t u
  | [], _, _, k, u, h => by cases h
  | x :: r, j, h, k, u, hk => by
    simp only [freeOf, Bool.and_eq_true] at h
    cases k with
    | zero =>
      cases hk
      rcases Bool.or_eq_true_iff.1 h.1 with h1 | h1
      · exact .inl h1
      · simp only [Bool.not_eq_true', Bool.or_eq_false_iff] at h1
        exact .inr fun l => ⟨fun hl => ⟨meets_false h1.1.1 l hl, meets_false h1.1.2 l hl⟩, fun hl => meets_false h1.2 l hl⟩
    | succ k =>
      have := freeOf_ok h.2 k u (by simpa using hk)
      rwa [show j + 1 + k = j + (k + 1) by omega] at this
theorem allFree_ok {masks : List Nat} : ∀ {l : List Tr} {i : Nat}, allFree masks i l = true → ∀ p q t u, p < q → l[p]? = some t → l[q]? = some u → Nat.testBit (masks.getD (i + q) 0) (i + p) = true ∨ NoMeet t u
  | [], _, _, p, q, t, u, _, h, _ => by cases h
  | x :: r, i, h, p, q, t, u, hpq, hp, hq => by
    simp only [allFree, Bool.and_eq_true] at h
    cases q with
    | zero => omega
    | succ q =>
      cases p with
      | zero =>
        cases hp
        have := freeOf_ok h.1 q u (by simpa using hq)
        rwa [show i + 1 + q = i + (q + 1) by omega] at this
      | succ p =>
        have := allFree_ok h.2 p q t u (by omega) (by simpa using hp) (by simpa using hq)
        rwa [show i + 1 + q = i + (q + 1) by omega, show i + 1 + p = i + (p + 1) by omega] at this
theorem backOnly_ok : ∀ {l : List Oper} {i : Nat}, backOnly l i = true → ∀ k o, l[k]? = some o → ∀ e ∈ o.after.toList, Region.binds .any e = true → e.on < i + k
  | [], _, _, k, o, h => by cases h
  | x :: r, i, h, k, o, hk => by
    simp only [backOnly, Bool.and_eq_true, List.all_eq_true] at h
    cases k with
    | zero =>
      cases hk
      intro e he hb
      have := h.1 e he
      simpa [hb, Nat.blt_eq] using this
    | succ k =>
      intro e he hb
      have := backOnly_ok h.2 k o (by simpa using hk) e he hb
      omega
theorem fold_bits {acc : List Nat} {j : Nat} : ∀ {l : List Edge} {x : Nat}, Nat.testBit (l.foldl (fun s e => if Region.binds .any e then s ||| 2 ^ e.on ||| acc.getD e.on 0 else s) x) j = true → Nat.testBit x j = true ∨ ∃ e ∈ l, Region.binds .any e = true ∧ (e.on = j ∨ Nat.testBit (acc.getD e.on 0) j = true)
  | [], x, h => .inl h
  | e :: l, x, h => by
    simp only [List.foldl_cons] at h
    rcases fold_bits h with h1 | ⟨e', h1, h2⟩
    · split at h1
      · rename_i hb
        simp only [Nat.testBit_or, Bool.or_eq_true, Nat.testBit_two_pow, decide_eq_true_eq] at h1
        rcases h1 with (h1 | h1) | h1
        · exact .inl h1
        · exact .inr ⟨e, List.mem_cons_self, hb, .inl h1⟩
        · exact .inr ⟨e, List.mem_cons_self, hb, .inr h1⟩
      · exact .inl h1
    · exact .inr ⟨e', List.mem_cons_of_mem _ h1, h2⟩
theorem waitMasks_pre : ∀ (l : List Oper) (acc : List Nat), ∃ r, waitMasks l acc = acc ++ r
  | [], acc => ⟨[], by simp [waitMasks]⟩
  | o :: l, acc => by
    simp only [waitMasks]
    obtain ⟨r, h⟩ := waitMasks_pre l (acc ++ [_])
    exact ⟨_ :: r, by rw [h, List.append_assoc]; rfl⟩
theorem getD_pre {acc r : List Nat} {k j : Nat} (h : Nat.testBit (acc.getD k 0) j = true) : Nat.testBit ((acc ++ r).getD k 0) j = true := by
  by_cases hk : k < acc.length
  · simpa [List.getD_eq_getElem?_getD, List.getElem?_append_left hk] using h
  · rw [List.getD_eq_getElem?_getD, List.getElem?_eq_none (by omega)] at h; simp at h
theorem masks_ok : ∀ (l : List Oper) (acc : List Nat) (k : Nat) (o : Oper), l[k]? = some o → ∀ j, Nat.testBit ((waitMasks l acc).getD (acc.length + k) 0) j = true →
    ∃ e ∈ o.after.toList, Region.binds .any e = true ∧ (e.on = j ∨ Nat.testBit ((waitMasks l acc).getD e.on 0) j = true)
  | [], _, k, o, h, _, _ => by cases h
  | x :: l, acc, k, o, hk, j, hj => by
    simp only [waitMasks] at hj ⊢
    cases k with
    | zero =>
      have hxo : x = o := by simpa using hk
      subst hxo
      obtain ⟨r, hr⟩ := waitMasks_pre l (acc ++ [x.after.toList.foldl (fun s e => if Region.binds .any e then s ||| 2 ^ e.on ||| acc.getD e.on 0 else s) 0])
      rw [hr] at hj ⊢
      have e1 : ∀ y : Nat, ((acc ++ [y]) ++ r).getD (acc.length + 0) 0 = y := fun y => by
        rw [List.append_assoc, List.getD_eq_getElem?_getD, List.getElem?_append_right (by omega)]; simp
      rw [e1] at hj
      rcases fold_bits hj with h1 | ⟨e, h1, h2, h3⟩
      · simp at h1
      · refine ⟨e, h1, h2, h3.imp id fun h3 => ?_⟩
        rw [List.append_assoc]; exact getD_pre h3
    | succ k =>
      have := masks_ok l (acc ++ [x.after.toList.foldl (fun s e => if Region.binds .any e then s ||| 2 ^ e.on ||| acc.getD e.on 0 else s) 0]) k o (by simpa using hk) j (by
        rw [List.length_append, List.length_singleton, show acc.length + 1 + k = acc.length + (k + 1) by omega]; exact hj)
      exact this

/-! ### Who wrote last -/
section
variable (T : Nat → Tr) (S : Nat → St)
open Classical in
noncomputable def lastW (L : Nat → Bool) (l : Loc) : Nat → Nat
  | 0 => 0
  | k + 1 => if L k = true ∧ l ∈ (T k).2 then k + 1 else lastW L l k
variable {T S} {n : Nat} {L : Nat → Bool} {l : Loc}
theorem lw_all (hS : ∀ k, k < n → ∀ l, l ∉ (T k).2 → (S (k + 1)).get l = (S k).get l) : ∀ k, k ≤ n → (∀ j, j < k → l ∈ (T j).2 → L j = true) → (S (lastW T L l k)).get l = (S k).get l
  | 0, _, _ => rfl
  | k + 1, hk, h => by
    simp only [lastW]
    split
    · rfl
    · rename_i hc
      have hw : l ∉ (T k).2 := fun hw => hc ⟨h k (by omega) hw, hw⟩
      rw [hS k (by omega) l hw]
      exact lw_all hS k (by omega) fun j hj => h j (by omega)
theorem lw_ext {i : Nat} : ∀ k, i ≤ k → (∀ j, i ≤ j → j < k → L j = true → l ∉ (T j).2) → lastW T L l k = lastW T L l i
  | 0, h, _ => by rw [show i = 0 by omega]
  | k + 1, hk, h => by
    by_cases e : i = k + 1
    · rw [e]
    · simp only [lastW]
      rw [if_neg fun hc => h k (by omega) (by omega) hc.1 hc.2]
      exact lw_ext k (by omega) fun j h1 h2 => h j h1 (by omega)
theorem lw_cong {L' : Nat → Bool} : ∀ k, (∀ j, j < k → l ∈ (T j).2 → L j = L' j) → lastW T L l k = lastW T L' l k
  | 0, _ => rfl
  | k + 1, h => by
    simp only [lastW]
    by_cases hw : l ∈ (T k).2
    · rw [h k (by omega) hw, lw_cong k fun j hj => h j (by omega)]
    · rw [if_neg fun hc => hw hc.2, if_neg fun hc => hw hc.2]
      exact lw_cong k fun j hj => h j (by omega)
end

/-! ### Any order -/
def left (listed : Array Bool) : Nat → Nat
  | 0 => 0
  | k + 1 => left listed k + (if listed.getD k true = false then 1 else 0)
theorem left_zero {listed : Array Bool} : ∀ n, left listed n = 0 → ∀ k, k < n → listed.getD k true = true
  | 0, _, k, hk => by omega
  | n + 1, h, k, hk => by
    simp only [left] at h
    by_cases e : k = n
    · subst e
      cases hb : listed.getD k true with
      | true => rfl
      | false => rw [if_pos hb] at h; omega
    · exact left_zero n (by omega) k (by omega)
theorem set_getD (listed : Array Bool) (i k : Nat) (b : Bool) : (listed.setIfInBounds i true).getD k b = if k = i ∧ i < listed.size then true else listed.getD k b := by
  simp only [Array.getD_eq_getD_getElem?, Array.getElem?_setIfInBounds]
  by_cases h : i = k
  · subst h
    by_cases h2 : i < listed.size
    · simp [h2]
    · simp [h2]
  · simp [h, Ne.symm h]
theorem left_set {listed : Array Bool} {i : Nat} (hi : i < listed.size) (hl : listed.getD i true = false) : ∀ n, left (listed.setIfInBounds i true) n + (if i < n then 1 else 0) = left listed n
  | 0 => rfl
  | n + 1 => by
    have ih := left_set hi hl n
    simp only [left, set_getD]
    by_cases e : n = i
    · subst e
      rw [if_neg (Nat.lt_irrefl _)] at ih
      simp [hi, hl]
      omega
    · have h1 : ¬ (n = i ∧ i < listed.size) := fun h => e h.1
      rw [if_neg h1]
      by_cases h2 : i < n
      · rw [if_pos h2] at ih
        rw [if_pos (show i < n + 1 by omega)]
        omega
      · rw [if_neg h2] at ih
        rw [if_neg (show ¬ i < n + 1 by omega)]
        omega
theorem left_all (n k : Nat) (h : k ≤ n) : left (Array.replicate n false) k = k := by
  induction k with
  | zero => rfl
  | succ k ih =>
    simp only [left, ih (by omega)]
    have : (Array.replicate n false).getD k true = false := by
      rw [Array.getD_eq_getD_getElem?]; simp [show k < n by omega]
    rw [if_pos this]

section
variable {P : Program} {G : Nat → Option GV} {Γ : Env}
theorem mem_ready {ops : Array Oper} {listed : Array Bool} {i : Nat} : i ∈ Region.ready .any ops listed ↔ listed.getD i true = false ∧ ∃ o, ops[i]? = some o ∧ ∀ e ∈ o.after.toList, Region.binds .any e = true → listed.getD e.on false = true := by
  unfold Region.ready
  simp only [List.mem_filter, List.mem_range, Bool.and_eq_true, Bool.not_eq_true']
  constructor
  · rintro ⟨h1, h2, h3⟩
    refine ⟨h2, ops[i], by simp [h1], fun e he hb => ?_⟩
    simp only [Array.getElem?_eq_getElem h1, Option.map_some, Option.getD_some, Array.all_eq_true_iff_forall_mem] at h3
    have := h3 e (by simpa using he)
    simpa [hb] using this
  · rintro ⟨h1, o, h2, h3⟩
    have hlt := (Array.getElem?_eq_some_iff.1 h2).1
    refine ⟨hlt, h1, ?_⟩
    simp only [h2, Option.map_some, Option.getD_some, Array.all_eq_true_iff_forall_mem]
    intro e he
    cases hb : Region.binds .any e with
    | false => simp
    | true => simp [h3 e (by simpa using he) hb]
/-- What is known of a region's steps in the order of the text. -/
structure Text (Γ : Env) (all : List Oper) (nx : Nat) (T : Nat → Tr) (S : Nat → St) : Prop where
  step : ∀ (i : Nat) (o : Oper), all[i]? = some o → Stp Γ all nx i o (T i) (S i) (S (i + 1))
  free : ∀ (p q : Nat), p < q → q < all.length → Nat.testBit ((waitMasks all []).getD q 0) p = true ∨ NoMeet (T p) (T q)
  back : ∀ (i : Nat) (o : Oper), all[i]? = some o → ∀ e ∈ o.after.toList, Region.binds .any e = true → e.on < i
structure AnyInv (all : List Oper) (nx : Nat) (T : Nat → Tr) (S : Nat → St) (listed : Array Bool) (cur : St) (m0 m : Mem) : Prop where
  size : listed.size = all.length
  closed : ∀ i, i < all.length → listed.getD i false = true → ∀ j, Nat.testBit ((waitMasks all []).getD i 0) j = true → listed.getD j false = true
  lens : Lens (S 0) cur
  get : ∀ l, (S (lastW T (fun k => listed.getD k false) l all.length)).get l = cur.get l
  U : ∀ id, m.U id → id < nx ∨ ∃ j, j < all.length ∧ listed.getD j false = true ∧ id = nx + j
  fr : Fr m0 m
theorem getD_both {listed : Array Bool} {i : Nat} (h : i < listed.size) (b c : Bool) : listed.getD i b = listed.getD i c := by
  simp [Array.getD_eq_getD_getElem?, h]
theorem lens_all {all : List Oper} {nx : Nat} {T : Nat → Tr} {S : Nat → St} (tx : Text Γ all nx T S) : ∀ k, k ≤ all.length → Lens (S k) (S 0)
  | 0, _ => ⟨rfl, rfl⟩
  | k + 1, hk => by
    have h1 := (tx.step k all[k] (by simp)).lens
    have h2 := lens_all tx k (by omega)
    exact ⟨h1.slots.trans h2.slots, h1.stips.trans h2.stips⟩
theorem keep_all {all : List Oper} {nx : Nat} {T : Nat → Tr} {S : Nat → St} (tx : Text Γ all nx T S) : ∀ k, k < all.length → ∀ l, l ∉ (T k).2 → (S (k + 1)).get l = (S k).get l := fun k hk l hl => by
  obtain ⟨_, _, _, _, _, h⟩ := (tx.step k all[k] (by simp)).frame (t := S k) (fun _ => True) (fun _ _ => trivial) (fun _ _ => trivial) (fun _ _ => rfl) ⟨rfl, rfl⟩
  exact (h l hl).2
theorem any_ok (H : OpsOk P G Γ) {all : List Oper} {nx : Nat} {T : Nat → Tr} {S : Nat → St} (tx : Text Γ all nx T S) {Q : Exit → Act → World → Prop} {m0 : Mem} {a0 : Act}
    (hQ : ∀ (a : Act) (m : Mem), Rel P G Γ.vars m (S all.length) a.tmps → Fr m0 m → (∀ id, m.U id → id < nx + all.length) → a.tmps.size = a0.tmps.size → a.defers = a0.defers → Q .normal a m.w) :
    ∀ (fuel : Nat) (listed : Array Bool) (a : Act) (m : Mem) (cur : St), left listed all.length ≤ fuel → AnyInv all nx T S listed cur m0 m → Rel P G Γ.vars m cur a.tmps → a.tmps.size = a0.tmps.size → a.defers = a0.defers →
      wpAny P .any all.toArray Q fuel listed a m.w := by
  intro fuel
  have done : ∀ (listed : Array Bool) (a : Act) (m : Mem) (cur : St), AnyInv all nx T S listed cur m0 m → Rel P G Γ.vars m cur a.tmps → a.tmps.size = a0.tmps.size → a.defers = a0.defers → Region.ready .any all.toArray listed = [] → Q .normal a m.w := fun listed a m cur hI r hs hd hr => by
    have hall : ∀ k, k < all.length → listed.getD k false = true := by
      intro k
      induction k using Nat.strongRecOn with
      | _ k ih =>
        intro hk
        cases hb : listed.getD k false with
        | true => rfl
        | false =>
          exfalso
          have : k ∈ Region.ready .any all.toArray listed := mem_ready.2 ⟨by rw [getD_both (by rw [hI.size]; exact hk) true false]; exact hb, all[k], by simp [hk], fun e he hb => by
            have h1 := tx.back k all[k] (by simp) e he hb
            exact ih e.on h1 (by omega)⟩
          rw [hr] at this; cases this
    refine hQ a m (r.le ?_) hI.fr (fun id hid => ?_) hs hd
    · have hg : ∀ l, (S all.length).get l = cur.get l := fun l => (lw_all (keep_all tx) all.length (Nat.le_refl _) fun j hj _ => hall j hj).symm.trans (hI.get l)
      have hl := lens_all tx all.length (Nat.le_refl _)
      refine ⟨fun n => ?_, by rw [hl.slots, hI.lens.slots]; exact Nat.le_refl _, fun n off ho => ?_, fun id o ho => ⟨o, ?_, .refl _ _⟩, fun id off ho => ?_, fun hf => ?_⟩
      · have := hg (.slot n)
        simp only [St.get, LV.v.injEq] at this
        rw [this]; exact .refl _
      · have := hg (.stip n)
        simp only [St.get, LV.t.injEq] at this
        rw [← this]; exact ho
      · have := hg (.obj id)
        simp only [St.get, LV.o.injEq] at this
        rw [← this]; exact ho
      · have := hg (.otip id)
        simp only [St.get, LV.t.injEq] at this
        rw [← this]; exact ho
      · have := hg .fresh
        simp only [St.get, LV.b.injEq] at this
        rw [← this]; exact hf
    · rcases hI.U id hid with h1 | ⟨j, h1, _, h2⟩ <;> omega
  induction fuel with
  | zero =>
    intro listed a m cur hle hI r hs hd
    have hr : Region.ready .any all.toArray listed = [] := by
      cases hq : Region.ready .any all.toArray listed with
      | nil => rfl
      | cons x xs =>
        obtain ⟨h1, o, h2, _⟩ := mem_ready.1 (show x ∈ Region.ready .any all.toArray listed by rw [hq]; exact List.mem_cons_self)
        have hlt : x < all.length := by have := (Array.getElem?_eq_some_iff.1 h2).1; simpa using this
        rw [left_zero all.length (by omega) x hlt] at h1; cases h1
    exact ⟨hr, done listed a m cur hI r hs hd hr⟩
  | succ fuel ih =>
    intro listed a m cur hle hI r hs hd
    refine ⟨done listed a m cur hI r hs hd, fun i hi => ?_⟩
    obtain ⟨h1, o, h2, h3⟩ := mem_ready.1 hi
    have hlt : i < all.length := by have := (Array.getElem?_eq_some_iff.1 h2).1; simpa using this
    have hli : listed.getD i false = false := by rw [getD_both (by rw [hI.size]; exact hlt) false true]; exact h1
    have ho : all[i]? = some o := by simpa using h2
    -- what i waits for is listed
    have hwait : ∀ j, Nat.testBit ((waitMasks all []).getD i 0) j = true → listed.getD j false = true := fun j hj => by
      obtain ⟨e, e1, e2, e3⟩ := masks_ok all [] i o ho j (by simpa using hj)
      have hb := tx.back i o ho e e1 e2
      have hl := h3 e e1 e2
      rcases e3 with rfl | e3
      · exact hl
      · exact hI.closed e.on (by omega) hl j e3
    -- the places that i looks at
    have hbefore : ∀ j, j < i → ∀ l, l ∈ (T i).1 ∨ l ∈ (T i).2 → l ∈ (T j).2 → listed.getD j false = true := fun j hj l hl hw => by
      rcases tx.free j i hj hlt with h | h
      · exact hwait j h
      · exact (hl.elim (fun q => ((h l).1 hw).1 q) fun q => ((h l).1 hw).2 q).elim
    have hafter : ∀ j, i ≤ j → j < all.length → ∀ l, l ∈ (T i).1 ∨ l ∈ (T i).2 → listed.getD j false = true → l ∉ (T j).2 := fun j hj hjl l hl hlj hw => by
      by_cases e : j = i
      · rw [e, hli] at hlj; cases hlj
      · rcases tx.free i j (by omega) hjl with h | h
        · rw [hI.closed j hjl hlj i h] at hli; cases hli
        · exact hl.elim (fun q => (h l).2 q hw) fun q => ((h l).1 q).2 hw
    have hat : ∀ l, l ∈ (T i).1 ∨ l ∈ (T i).2 → (S i).get l = cur.get l := fun l hl => by
      rw [← hI.get l, lw_ext (i := i) all.length (by omega) fun j hj1 hj2 hj3 => hafter j hj1 hj2 l hl hj3]
      exact (lw_all (keep_all tx) i (by omega) fun j hj hw => hbefore j hj l hl hw).symm
    have hst := tx.step i o ho
    have hls := lens_all tx i (by omega)
    obtain ⟨cur', tr', k1, k2, k3, k4⟩ := hst.frame (t := cur) (fun l => l ∈ (T i).1 ∨ l ∈ (T i).2) (fun l h => .inl h) (fun l h => .inr h) hat ⟨hls.slots.trans hI.lens.slots, hls.stips.trans hI.lens.stips⟩
    refine k1.wp H h2 r (fun hu => ?_) fun v m' r' f' hU' => ?_
    · rcases hI.U _ hu with h | ⟨j, j1, j2, j3⟩
      · omega
      · rw [show j = i by omega, hli] at j2; cases j2
    · have hsz : i < listed.size := by rw [hI.size]; exact hlt
      have hleft := left_set hsz h1 all.length
      rw [if_pos hlt] at hleft
      have hset : ∀ k b, (listed.setIfInBounds i true).getD k b = if k = i then true else listed.getD k b := fun k b => by
        rw [set_getD]; by_cases e : k = i <;> simp [e, hsz]
      refine ih (listed.setIfInBounds i true) (a.put o.dst v) m' cur' (by omega) ⟨by simp [hI.size], fun p hp hlp j hj => ?_, ?_, fun l => ?_, fun id hid => ?_, hI.fr.trans f'⟩ r' ((put_size a _ v).trans hs) ((put_defers a _ v).trans hd)
      · rw [hset] at hlp ⊢
        by_cases e : j = i
        · rw [if_pos e]
        · rw [if_neg e]
          by_cases e2 : p = i
          · subst e2; exact hwait j hj
          · rw [if_neg e2] at hlp; exact hI.closed p hp hlp j hj
      · exact ⟨hI.lens.slots.trans k1.lens.slots.symm, hI.lens.stips.trans k1.lens.stips.symm⟩
      · by_cases hw : l ∈ (T i).2
        · rw [← k2 l (.inr hw)]
          rw [lw_ext (i := i + 1) all.length (by omega) fun j hj1 hj2 hj3 => by
            rw [hset, if_neg (by omega)] at hj3
            exact hafter j (by omega) hj2 l (.inr hw) hj3]
          simp only [lastW]
          rw [if_pos ⟨by rw [hset, if_pos rfl], hw⟩]
        · rw [(k4 l hw).1, ← hI.get l]
          refine congrArg (fun k => (S k).get l) (lw_cong (L' := fun k => listed.getD k false) all.length fun j _ hj => ?_)
          have hne : j ≠ i := fun e => by subst e; exact hw hj
          show (listed.setIfInBounds i true).getD j false = _
          rw [hset, if_neg hne]
      · rcases hU' id hid with h | h
        · rcases hI.U id h with h | ⟨j, j1, j2, j3⟩
          · exact .inl h
          · exact .inr ⟨j, j1, by rw [hset]; split <;> first | rfl | exact j2, j3⟩
        · exact .inr ⟨i, hlt, by rw [hset, if_pos rfl], h⟩
theorem drawn_rel {vars : Nat} {m : Mem} {s : St} {tm : Array Value} (r : Rel P G vars m s tm) (k : Nat) : Rel P G vars { m with w := { m.w with drawn := k } } s tm ∧ Fr m { m with w := { m.w with drawn := k } } := by
  have fr : Fr m { m with w := { m.w with drawn := k } } := ⟨⟨⟨Nat.le_refl _, fun b c e f h => ⟨c, h, rfl, fun _ _ => rfl⟩, fun b o h _ => h⟩, fun _ _ h => h, rfl, fun _ _ => rfl, fun _ h => h⟩, fun _ _ h _ => .inl h, fun _ _ h => h⟩
  exact ⟨r.move ⟨fr.to, r.bC, r.bL, fun b _ => ⟨rfl, rfl, fun _ h => h⟩⟩, fr⟩
theorem region_any (hm : P.follows .mixedOrders = true) (H : OpsOk P G Γ) {m : Mem} {s : St} {a : Act} {id : Nat} {ops : Array Oper} {Q : Exit → Act → World → Prop} {leaf : Leaf} (r : Rel P G Γ.vars m s a.tmps) (hU : ∀ id, m.U id → id < s.next)
    (h : (evRegion Γ id ops true s).res = some leaf)
    (hQ : ∀ (a' : Act) (m' : Mem) (s'' : St), leaf = .norm s'' → Rel P G Γ.vars m' s'' a'.tmps → Fr m m' → (∀ id, m'.U id → id < s''.next) → a'.tmps.size = a.tmps.size → a'.defers = a.defers → Q .normal a' m'.w) :
    (Code.region id ops true).wp P Q a m.w := by
  unfold evRegion at h
  simp only [res_bind, cond_true] at h
  cases he : (evOps Γ ops.toList (guardsOf ops.toList ops.toList) (fun trs => backOnly ops.toList 0 && allFree (waitMasks ops.toList []) 0 trs) (fun _ => none) ops.toList 0 [] s.begin).res with
  | none => rw [he] at h; cases h
  | some l0 =>
    rw [he] at h
    obtain ⟨ts, S, h1, h2, h3, h4, h5⟩ := evOps_steps ops.toList 0 [] s.begin l0 he
    simp only [List.nil_append, Bool.and_eq_true] at h4
    have hT : ∀ k, k < ops.toList.length → ts[k]? = some (ts.getD k ([], [])) := fun k hk => by
      rw [List.getD_eq_getElem?_getD, List.getElem?_eq_getElem (by omega)]; rfl
    have tx : Text Γ ops.toList s.begin.next (fun k => ts.getD k ([], [])) S := by
      refine ⟨fun i o ho => ?_, fun p q hpq hq => ?_, fun i o ho e he hb => ?_⟩
      · obtain ⟨tr, g1, g2⟩ := h2 i o ho
        rw [hT i (List.getElem?_eq_some_iff.1 ho).1] at g1
        cases g1
        rw [Nat.zero_add] at g2; exact g2
      · have := allFree_ok h4.2 p q _ _ hpq (hT p (by omega)) (hT q hq)
        simpa using this
      · have := backOnly_ok h4.1 i o ho e he hb
        omega
    obtain ⟨r0, f0⟩ := drawn_rel r (m.w.drawn + 1)
    refine wp_region_any hm ?_
    have key := any_ok H tx (Q := Q) (m0 := m) (a0 := a) (fun a' m' r' f' hU' hs hd => by
      cases h5 with
      | norm hle =>
        cases h
        have hln := lens_all tx ops.toList.length (Nat.le_refl _)
        have r2 := r'.stLe (by rw [← h1, ← hln.slots] at hle; exact hle) (by rw [← h1, ← hln.slots] at *; exact r'.len)
        refine hQ a' m' _ rfl (r2.same ⟨rfl, rfl, rfl, rfl, rfl⟩) f' (fun id hid => ?_) hs hd
        have := hU' id hid
        have hn : ∀ k, k ≤ ops.toList.length → (S k).next = s.begin.next := fun k => by
          induction k with
          | zero => intro _; rw [h1]
          | succ k ih => intro hk; rw [(tx.step k ops.toList[k] (by simp)).next]; exact ih (by omega)
        have h7 := hle.next
        rw [hn _ (Nat.le_refl _)] at h7
        show id < _ + _
        omega) ops.toList.length (Array.replicate ops.size false) a { m with w := { m.w with drawn := m.w.drawn + 1 } } s.begin
      (by rw [show ops.size = ops.toList.length by simp, left_all _ _ (Nat.le_refl _)]; exact Nat.le_refl _)
      ⟨by simp, fun i hi hl => by simp [Array.getD_eq_getD_getElem?, Array.getElem?_replicate] at hl; split at hl <;> simp at hl, by rw [h1]; exact ⟨rfl, rfl⟩, fun l => by
        rw [lw_ext (i := 0) ops.toList.length (by omega) fun j _ _ hj => by
          simp [Array.getD_eq_getD_getElem?, Array.getElem?_replicate] at hj; split at hj <;> simp at hj]
        simp only [lastW, h1], fun id hid => .inl (by rw [begin_next]; exact hU id hid), f0⟩
      (begin_rel r0) rfl rfl
    simpa using key
end
end Go.XE
/- The concrete evaluator: what its values stand for. -/
namespace Go.XR

/-! ### Trees -/
section
variable {α : Type}
theorem Tr.get_eq (t : Tr α) (k : Nat) : t.get k = if k = 0 then t.top else if k % 2 = 1 then t.left.get (k / 2) else t.right.get (k / 2 - 1) := by
  cases t with
  | nil => simp [Tr.get, Tr.top, Tr.left, Tr.right]
  | node x l r =>
    simp only [Tr.get, Tr.top, Tr.left, Tr.right]
    by_cases h : k = 0
    · simp [h]
    · have : Nat.beq k 0 = false := XE.nbeq h
      rw [this, if_neg h]
      by_cases h2 : k % 2 = 1
      · rw [show Nat.beq (k % 2) 1 = true by rw [h2]; rfl, if_pos h2]; rfl
      · rw [XE.nbeq h2, if_neg h2]; rfl
theorem Tr.setF_succ (f : Nat) (t : Tr α) (n : Nat) (v : α) : Tr.setF (f + 1) t n v = cond (Nat.beq n 0) (.node (some v) t.left t.right) (cond (Nat.beq (n % 2) 1) (.node t.top (Tr.setF f t.left (n / 2) v) t.right) (.node t.top t.left (Tr.setF f t.right (n / 2 - 1) v))) := by
  have hL : ∀ (x : Option α) (u r : Tr α), Tr.inL x u r = .node x u r := fun x u r => by cases u <;> rfl
  have hR : ∀ (x : Option α) (l u : Tr α), Tr.inR x l u = .node x l u := fun x l u => by cases u <;> rfl
  cases t <;> simp only [Tr.setF, hL, hR, Tr.top, Tr.left, Tr.right]
theorem Tr.get_setF : ∀ (f : Nat) (t : Tr α) (n : Nat) (v : α) (k : Nat), n < f → (Tr.setF f t n v).get k = if k = n then some v else t.get k
  | 0, _, _, _, _, h => by omega
  | f + 1, t, n, v, k, h => by
    rw [Tr.setF_succ]
    by_cases h0 : n = 0
    · subst h0
      rw [show Nat.beq 0 0 = true by rfl, cond_true, Tr.get_eq, Tr.get_eq t k]
      simp only [Tr.top, Tr.left, Tr.right]
      by_cases hk : k = 0 <;> simp [hk]
    · rw [XE.nbeq h0, cond_false]
      by_cases h1 : n % 2 = 1
      · rw [show Nat.beq (n % 2) 1 = true by rw [h1]; rfl, cond_true, Tr.get_eq, Tr.get_eq t k]
        simp only [Tr.top, Tr.left, Tr.right]
        by_cases hk : k = 0
        · simp [hk, Ne.symm h0]
        · rw [if_neg hk, if_neg hk]
          by_cases h2 : k % 2 = 1
          · rw [if_pos h2, if_pos h2, Tr.get_setF f _ _ _ _ (by omega)]
            by_cases e : k = n
            · simp [e]
            · rw [if_neg e, if_neg (by omega)]
          · rw [if_neg h2, if_neg h2, if_neg (by omega)]
      · rw [XE.nbeq h1, cond_false, Tr.get_eq, Tr.get_eq t k]
        simp only [Tr.top, Tr.left, Tr.right]
        by_cases hk : k = 0
        · simp [hk, Ne.symm h0]
        · rw [if_neg hk, if_neg hk]
          by_cases h2 : k % 2 = 1
          · rw [if_pos h2, if_pos h2, if_neg (by omega)]
          · rw [if_neg h2, if_neg h2, Tr.get_setF f _ _ _ _ (by omega)]
            by_cases e : k = n
            · simp [e]
            · rw [if_neg e, if_neg (by omega)]
theorem Tr.get_set (t : Tr α) (n : Nat) (v : α) (k : Nat) : (t.set n v).get k = if k = n then some v else t.get k := Tr.get_setF _ _ _ _ _ (by omega)
end

/-! ### What a value stands for -/
/-- Where a block lies, and how many cells it has. -/
abbrev Pm := Nat → Option (Nat × Nat)
mutual
def den (ρ : Pm) : CV → Option Value
  | .at v => some v
  | .ptr b o => (ρ b).map fun p => .pointer (some ⟨p.1, o, none⟩)
  | .sl b o n e => (ρ b).bind fun p => if 0 < e ∧ o + n * e ≤ p.2 ∧ (p.2 - o) % e = 0 then some (.slice (some ⟨p.1, o, none⟩) n ((p.2 - o) / e)) else none
  | .esl b o l e => (ρ b).bind fun p => if 0 < e ∧ o + l * e ≤ p.2 ∧ (p.2 - o) % e = 0 then some (.slice (some (if (p.2 - o) / e = l then ⟨p.1, o, none⟩ else ⟨p.1, o + l * e, none⟩)) 0 ((p.2 - o) / e - l)) else none
  | .fn f a b => (denL ρ a).bind fun x => (denL ρ b).map fun y => .func (.func f) x.toArray y.toArray
  | .ifc t v => (den ρ v).map (.iface t)
  | .agg l => (denL ρ l).map fun x => .agg x.toArray
  | .tup l => (denL ρ l).map fun x => .tuple x.toArray
  | .mp b => (ρ b).map fun p => .map (some p.1)
  | .gp k i => (ρ k).map fun p => .pointer (some ⟨p.1, p.2 + i, none⟩)
  | .gs k n => (ρ k).bind fun p => (ρ (k + 1)).map fun q => .slice (some ⟨p.1, p.2, none⟩) n q.2
def denL (ρ : Pm) : List CV → Option (List Value)
  | [] => some []
  | v :: r => (den ρ v).bind fun u => (denL ρ r).map fun us => u :: us
end
def Ext (ρ ρ' : Pm) : Prop := ∀ b r, ρ b = some r → ρ' b = some r
theorem Ext.refl (ρ : Pm) : Ext ρ ρ := fun _ _ h => h
mutual
theorem den_mono {ρ ρ' : Pm} (h : Ext ρ ρ') : ∀ {v : CV} {u : Value}, den ρ v = some u → den ρ' v = some u
  | .at v, u, hv => hv
  | .ptr b o, u, hv => by
    simp only [den, Option.map_eq_some_iff] at hv ⊢
    obtain ⟨p, hp, e⟩ := hv
    exact ⟨p, h _ _ hp, e⟩
  | .sl b o n e, u, hv => by
    simp only [den, Option.bind_eq_some_iff] at hv ⊢
    obtain ⟨p, hp, e⟩ := hv
    exact ⟨p, h _ _ hp, e⟩
  | .esl b o n e, u, hv => by
    simp only [den, Option.bind_eq_some_iff] at hv ⊢
    obtain ⟨p, hp, e⟩ := hv
    exact ⟨p, h _ _ hp, e⟩
  | .fn f a b, u, hv => by
    simp only [den, Option.bind_eq_some_iff, Option.map_eq_some_iff] at hv ⊢
    obtain ⟨x, hx, y, hy, e⟩ := hv
    exact ⟨x, denL_mono h hx, y, denL_mono h hy, e⟩
  | .ifc t v, u, hv => by
    simp only [den, Option.map_eq_some_iff] at hv ⊢
    obtain ⟨x, hx, e⟩ := hv
    exact ⟨x, den_mono h hx, e⟩
  | .agg l, u, hv => by
    simp only [den, Option.map_eq_some_iff] at hv ⊢
    obtain ⟨x, hx, e⟩ := hv
    exact ⟨x, denL_mono h hx, e⟩
  | .tup l, u, hv => by
    simp only [den, Option.map_eq_some_iff] at hv ⊢
    obtain ⟨x, hx, e⟩ := hv
    exact ⟨x, denL_mono h hx, e⟩
  | .mp b, u, hv => by
    simp only [den, Option.map_eq_some_iff] at hv ⊢
    obtain ⟨p, hp, e⟩ := hv
    exact ⟨p, h _ _ hp, e⟩
  | .gp k i, u, hv => by
    simp only [den, Option.map_eq_some_iff] at hv ⊢
    obtain ⟨p, hp, e⟩ := hv
    exact ⟨p, h _ _ hp, e⟩
  | .gs k n, u, hv => by
    simp only [den, Option.bind_eq_some_iff, Option.map_eq_some_iff] at hv ⊢
    obtain ⟨p, hp, q, hq, e⟩ := hv
    exact ⟨p, h _ _ hp, q, h _ _ hq, e⟩
theorem denL_mono {ρ ρ' : Pm} (h : Ext ρ ρ') : ∀ {l : List CV} {us : List Value}, denL ρ l = some us → denL ρ' l = some us
  | [], us, hl => hl
  | v :: r, us, hl => by
    simp only [denL, Option.bind_eq_some_iff, Option.map_eq_some_iff] at hl ⊢
    obtain ⟨u, hu, y, hy, e⟩ := hl
    exact ⟨u, den_mono h hu, y, denL_mono h hy, e⟩
end
mutual
theorem toVal_den (ρ : Pm) : ∀ {v : CV} {u : Value}, toVal v = some u → den ρ v = some u
  | .at v, u, h => h
  | .ptr _ _, u, h => by cases h
  | .sl _ _ _ _, u, h => by cases h
  | .esl _ _ _ _, u, h => by cases h
  | .fn _ _ _, u, h => by cases h
  | .mp _, u, h => by cases h
  | .gp _ _, u, h => by cases h
  | .gs _ _, u, h => by cases h
  | .ifc t v, u, h => by
    simp only [toVal] at h
    split at h
    · rename_i x hx
      cases h
      simp [den, toVal_den ρ hx]
    · cases h
  | .agg l, u, h => by
    simp only [toVal] at h
    split at h
    · rename_i x hx
      cases h
      simp [den, toVals_den ρ hx]
    · cases h
  | .tup l, u, h => by
    simp only [toVal] at h
    split at h
    · rename_i x hx
      cases h
      simp [den, toVals_den ρ hx]
    · cases h
theorem toVals_den (ρ : Pm) : ∀ {l : List CV} {us : List Value}, toVals l = some us → denL ρ l = some us
  | [], us, h => h
  | v :: r, us, h => by
    simp only [toVals] at h
    split at h
    · rename_i x hx
      split at h
      · rename_i y hy
        cases h
        simp [denL, toVal_den ρ hx, toVals_den ρ hy]
      · cases h
    · cases h
end
theorem denL_at (ρ : Pm) : ∀ (l : List Value), denL ρ (l.map .at) = some l
  | [] => rfl
  | v :: r => by simp [denL, den, denL_at ρ r]
theorem denL_append {ρ : Pm} : ∀ {a b : List CV} {x y : List Value}, denL ρ a = some x → denL ρ b = some y → denL ρ (a ++ b) = some (x ++ y)
  | [], b, x, y, h, k => by cases h; exact k
  | v :: a, b, x, y, h, k => by
    simp only [denL, Option.bind_eq_some_iff, Option.map_eq_some_iff] at h
    obtain ⟨u, hu, z, hz, e⟩ := h
    subst e
    simp [denL, hu, denL_append hz k]
theorem denL_len {ρ : Pm} : ∀ {l : List CV} {us : List Value}, denL ρ l = some us → us.length = l.length
  | [], us, h => by cases h; rfl
  | v :: r, us, h => by
    simp only [denL, Option.bind_eq_some_iff, Option.map_eq_some_iff] at h
    obtain ⟨u, hu, y, hy, e⟩ := h
    subst e
    simp [denL_len hy]
theorem denL_get {ρ : Pm} : ∀ {l : List CV} {us : List Value}, denL ρ l = some us → ∀ (i : Nat) (v : CV), l[i]? = some v → ∃ u, us[i]? = some u ∧ den ρ v = some u
  | [], us, h, i, v, hi => by cases hi
  | x :: r, us, h, i, v, hi => by
    simp only [denL, Option.bind_eq_some_iff, Option.map_eq_some_iff] at h
    obtain ⟨u, hu, y, hy, e⟩ := h
    subst e
    cases i with
    | zero => cases hi; exact ⟨u, rfl, hu⟩
    | succ i => simpa using denL_get hy i v (by simpa using hi)
theorem denL_of {ρ : Pm} : ∀ {l : List CV} {us : List Value}, us.length = l.length → (∀ (i : Nat) (v : CV), l[i]? = some v → ∃ u, us[i]? = some u ∧ den ρ v = some u) → denL ρ l = some us
  | [], us, h, _ => by cases us <;> simp_all [denL]
  | x :: r, [], h, _ => by simp at h
  | x :: r, u :: us, h, hi => by
    obtain ⟨u', h1, h2⟩ := hi 0 x rfl
    cases h1
    simp [denL, h2, denL_of (l := r) (us := us) (by simpa using h) fun i v hv => by simpa using hi (i + 1) v (by simpa using hv)]
theorem denL_take {ρ : Pm} {l : List CV} {us : List Value} (h : denL ρ l = some us) (n : Nat) : denL ρ (l.take n) = some (us.take n) := by
  have hl := denL_len h
  refine denL_of (by simp [hl]) fun i v hi => ?_
  rw [List.getElem?_take] at hi ⊢
  split at hi
  · rename_i hc
    rw [if_pos hc]; exact denL_get h i v hi
  · cases hi
theorem denL_drop {ρ : Pm} {l : List CV} {us : List Value} (h : denL ρ l = some us) (n : Nat) : denL ρ (l.drop n) = some (us.drop n) := by
  have hl := denL_len h
  refine denL_of (by simp [hl]) fun i v hi => ?_
  rw [List.getElem?_drop] at hi ⊢
  exact denL_get h _ v hi
theorem denL_write {ρ : Pm} {l xs : List CV} {us ys : List Value} (h : denL ρ l = some us) (k : denL ρ xs = some ys) (o : Nat) : denL ρ (writeC l o xs) = some (us.take o ++ ys ++ us.drop (o + ys.length)) := by
  unfold writeC
  rw [denL_len k]
  exact denL_append (denL_append (denL_take h o) k) (denL_drop h _)
theorem den_cells {ρ : Pm} {v : CV} {u : Value} (h : den ρ v = some u) : denL ρ (cellsC v) = some u.cells.toList := by
  cases v with
  | «at» v =>
    cases h
    cases u <;> first
      | exact denL_at ρ _
      | simp [cellsC, denL, den, Value.cells]
  | agg l =>
    simp only [den, Option.map_eq_some_iff] at h
    obtain ⟨x, hx, e⟩ := h
    subst e
    simpa [cellsC, Value.cells] using hx
  | ptr b o =>
    have h' := h
    simp only [den, Option.map_eq_some_iff] at h
    obtain ⟨x, hx, e⟩ := h
    subst e
    simp [cellsC, denL, h', Value.cells]
  | sl b o n e =>
    have h' := h
    simp only [den, Option.bind_eq_some_iff] at h
    obtain ⟨x, hx, e⟩ := h
    split at e
    · cases e; simp [cellsC, denL, h', Value.cells]
    · cases e
  | esl b o n e =>
    have h' := h
    simp only [den, Option.bind_eq_some_iff] at h
    obtain ⟨x, hx, e⟩ := h
    split at e
    · cases e; simp [cellsC, denL, h', Value.cells]
    · cases e
  | fn f a b =>
    have h' := h
    simp only [den, Option.bind_eq_some_iff, Option.map_eq_some_iff] at h
    obtain ⟨x, hx, y, hy, e⟩ := h
    subst e
    simp [cellsC, denL, h', Value.cells]
  | ifc t v =>
    have h' := h
    simp only [den, Option.map_eq_some_iff] at h
    obtain ⟨x, hx, e⟩ := h
    subst e
    simp [cellsC, denL, h', Value.cells]
  | tup l =>
    have h' := h
    simp only [den, Option.map_eq_some_iff] at h
    obtain ⟨x, hx, e⟩ := h
    subst e
    simp [cellsC, denL, h', Value.cells]
  | mp b =>
    have h' := h
    simp only [den, Option.map_eq_some_iff] at h
    obtain ⟨x, hx, e⟩ := h
    subst e
    simp [cellsC, denL, h', Value.cells]
  | gp k i =>
    have h' := h
    simp only [den, Option.map_eq_some_iff] at h
    obtain ⟨x, hx, e⟩ := h
    subst e
    simp [cellsC, denL, h', Value.cells]
  | gs k n =>
    have h' := h
    simp only [den, Option.bind_eq_some_iff, Option.map_eq_some_iff] at h
    obtain ⟨x, hx, y, hy, e⟩ := h
    subst e
    simp [cellsC, denL, h', Value.cells]
theorem den_isCell {ρ : Pm} {v : CV} {u : Value} (h : den ρ v = some u) (hc : isCell v = true) : u.oneCell' = true := by
  cases v with
  | «at» v => cases h; cases u <;> first | rfl | (simp [isCell] at hc)
  | agg l => cases hc
  | tup l => cases hc
  | ptr b o => simp only [den, Option.map_eq_some_iff] at h; obtain ⟨x, hx, e⟩ := h; subst e; rfl
  | sl b o n e =>
    simp only [den, Option.bind_eq_some_iff] at h
    obtain ⟨x, hx, e⟩ := h
    split at e
    · cases e; rfl
    · cases e
  | esl b o n e =>
    simp only [den, Option.bind_eq_some_iff] at h
    obtain ⟨x, hx, e⟩ := h
    split at e
    · cases e; rfl
    · cases e
  | fn f a b => simp only [den, Option.bind_eq_some_iff, Option.map_eq_some_iff] at h; obtain ⟨x, hx, y, hy, e⟩ := h; subst e; rfl
  | ifc t v => simp only [den, Option.map_eq_some_iff] at h; obtain ⟨x, hx, e⟩ := h; subst e; rfl
  | mp b => simp only [den, Option.map_eq_some_iff] at h; obtain ⟨x, hx, e⟩ := h; subst e; rfl
  | gp k i => simp only [den, Option.map_eq_some_iff] at h; obtain ⟨x, hx, e⟩ := h; subst e; rfl
  | gs k n => simp only [den, Option.bind_eq_some_iff, Option.map_eq_some_iff] at h; obtain ⟨x, hx, y, hy, e⟩ := h; subst e; rfl
theorem denL_isCell {ρ : Pm} : ∀ {l : List CV} {us : List Value}, denL ρ l = some us → l.all isCell = true → ∀ u ∈ us, u.oneCell' = true
  | [], us, h, _, u, hu => by cases h; cases hu
  | x :: r, us, h, hc, u, hu => by
    simp only [denL, Option.bind_eq_some_iff, Option.map_eq_some_iff] at h
    obtain ⟨y, hy, z, hz, e⟩ := h
    subst e
    simp only [List.all_cons, Bool.and_eq_true] at hc
    rcases List.mem_cons.1 hu with rfl | hu
    · exact den_isCell hy hc.1
    · exact denL_isCell hz hc.2 u hu

/-! ### Operations that look at no memory -/
theorem run_pure {α : Type} {P : Program} : ∀ {s : Sem α} {a : α}, pureRun P s = some a → ∀ w, s.run P w = .ok a w
  | .pure a, b, h, w => by cases h; rfl
  | .program k, b, h, w => run_pure (s := k P) h w
  | .mark _ k, b, h, w => run_pure (s := k) h w
  | .load .., _, h, _ => by cases h
  | .store .., _, h, _ => by cases h
  | .new .., _, h, _ => by cases h
  | .shape .., _, h, _ => by cases h
  | .freeze .., _, h, _ => by cases h
  | .frozen .., _, h, _ => by cases h
  | .getObj .., _, h, _ => by cases h
  | .setObj .., _, h, _ => by cases h
  | .choose .., _, h, _ => by cases h
  | .sys .., _, h, _ => by cases h
  | .halt .., _, h, _ => by cases h
end Go.XR
