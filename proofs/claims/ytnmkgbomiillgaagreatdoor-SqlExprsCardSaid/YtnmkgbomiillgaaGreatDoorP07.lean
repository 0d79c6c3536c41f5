/- Part 7 of the proof. -/
import Derived.Test.YtnmkgbomiillgaaGreatDoorP06
/- Joins: the joined state tells nothing that the way taken does not. -/
namespace Go.XE

structure VLe0 (V V' : XE.V) : Prop where
  rv : ∀ P m v, RV P m V v → RV P m V' v
  dat : ∀ d', datOf V' = some d' → datOf V = some d' ∨ noSl d'.T = true
theorem VLe.zero {V V' : XE.V} (h : VLe V V') : VLe0 V V' := ⟨h.rv, h.dat⟩
structure St.LeJ (s s' : St) : Prop where
  slots : ∀ n, VLe0 (nthV s.slots n) (nthV s'.slots n)
  stips : ∀ n off, off ∈ nthT s'.stips n → off ∈ nthT s.stips n
  objs : ∀ id o', lookObj id s'.objs = some o' → ∃ o, lookObj id s.objs = some o ∧ OLe id o o'
  otips : ∀ id off, off ∈ lookT id s'.otips → off ∈ lookT id s.otips
  fresh : s'.fresh = false
theorem Rel.leJ {P : Program} {G : Nat → Option GV} {vars : Nat} {m : Mem} {s s' : St} {tm : Array Value} (r : Rel P G vars m s tm) (h : s.LeJ s') (hlen : s'.slots.length ≤ tm.size) : Rel P G vars m s' tm := {
  bC := r.bC
  bK := r.bK
  bL := r.bL
  glob := r.glob
  len := hlen
  slots n := (h.slots n).rv P m _ (r.slots n)
  stips n d hd off ho e he := by
    rcases (h.slots n).dat d hd with h1 | h1
    · exact r.stips n d h1 off (h.stips n off ho) e he
    · rw [tipTy_noSl h1] at he; cases he
  objs id o' ho' := by
    obtain ⟨o, h1, h2⟩ := h.objs id o' ho'
    exact ⟨(r.objs id o h1).1, h2.ok m (r.objs id o h1).2⟩
  otips id d hd off ho e he := by
    obtain ⟨o, h1, h2⟩ := h.objs id _ hd
    rw [h2.box d rfl] at h1
    exact r.otips id d h1 off (h.otips id off ho) e he
  prov hf := by rw [h.fresh] at hf; cases hf }

theorem mem_bothN {x : Nat} {t : List Nat} : ∀ {r : List Nat}, x ∈ bothN t r → x ∈ r ∧ x ∈ t
  | [], h => by cases h
  | p :: r, h => by
    simp only [bothN] at h
    cases hp : hasN p t with
    | true =>
      rw [hp] at h
      rcases List.mem_cons.1 h with rfl | h
      · exact ⟨List.mem_cons_self, hasN_mem.1 hp⟩
      · exact ⟨List.mem_cons_of_mem _ (mem_bothN h).1, (mem_bothN h).2⟩
    | false =>
      rw [hp] at h
      exact ⟨List.mem_cons_of_mem _ (mem_bothN h).1, (mem_bothN h).2⟩
theorem arr_set {e : Ty} {xs : List (den e)} {f : Bool} (id : Nat) (g : Bool) : OLe id (.arr e xs f) (.arr e xs (f || g)) :=
  ⟨fun m h => by
    obtain ⟨h1, h2, h3, h4, h5, h6, h7⟩ := h
    refine ⟨h1, h2, h3, h4, h5, fun hf => h6 ?_, h7⟩
    cases f <;> simp_all, fun d h => by cases h⟩
theorem arr_set' {e : Ty} {xs : List (den e)} {f : Bool} (id : Nat) (g : Bool) : OLe id (.arr e xs f) (.arr e xs (g || f)) := by
  rw [Bool.or_comm]; exact arr_set id g
theorem mergeObj_true {id : Nat} {a b : Option Obj} {o : Obj} (h : mergeObj true a b = some o) : ∃ o', a = some o' ∧ OLe id o' o := by
  unfold mergeObj at h
  split at h
  · split at h
    · rename_i d hd
      cases h
      exact ⟨_, rfl, by rw [mergeD_true hd]; exact .refl _ _⟩
    · cases h
  · split at h
    · cases h; exact ⟨_, rfl, arr_set _ _⟩
    · cases h
  · cases h
theorem mergeObj_false {id : Nat} {a b : Option Obj} {o : Obj} (h : mergeObj false a b = some o) : ∃ o', b = some o' ∧ OLe id o' o := by
  unfold mergeObj at h
  split at h
  · split at h
    · rename_i d hd
      cases h
      exact ⟨_, rfl, by rw [mergeD_false hd]; exact .refl _ _⟩
    · cases h
  · split at h
    · rename_i e xs f e' ys g hh _
      subst hh
      cases h; exact ⟨_, rfl, arr_set' _ _⟩
    · cases h
  · cases h
theorem nthV_mergeVs (c : Bool) : ∀ (x y : List V) (n : Nat), nthV (mergeVs c x y) n = .bot ∨ nthV (mergeVs c x y) n = mergeV c (nthV x n) (nthV y n)
  | a :: x, b :: y, 0 => .inr rfl
  | a :: x, b :: y, n + 1 => nthV_mergeVs c x y n
  | [], _, n => .inl (by simp [mergeVs, nthV])
  | _ :: _, [], n => .inl (by simp [mergeVs, nthV])
theorem nthT_bothTs : ∀ (x y : List (List Nat)) (n off : Nat), off ∈ nthT (bothTs x y) n → off ∈ nthT x n ∧ off ∈ nthT y n
  | a :: x, b :: y, 0, off, h => (mem_bothN h).symm
  | a :: x, b :: y, n + 1, off, h => nthT_bothTs x y n off h
  | [], _, n, off, h => by simp [bothTs, nthT] at h
  | _ :: _, [], n, off, h => by simp [bothTs, nthT] at h
theorem look_mergeObjs (c : Bool) (t : List (Nat × Option Obj)) : ∀ (x : List (Nat × Option Obj)) (i : Nat), lookObj i (mergeObjs c t x) = none ∨ lookObj i (mergeObjs c t x) = mergeObj c (lookObj i x) (lookObj i t)
  | [], i => .inl rfl
  | (j, o) :: r, i => by
    simp only [mergeObjs, lookObj]
    cases h : Nat.beq j i with
    | true => have := Nat.eq_of_beq_eq_true h; subst this; exact .inr rfl
    | false => exact look_mergeObjs c t r i
theorem look_bothOs (t : List (Nat × List Nat)) : ∀ (x : List (Nat × List Nat)) (i off : Nat), off ∈ lookT i (bothOs t x) → off ∈ lookT i x ∧ off ∈ lookT i t
  | [], i, off, h => by cases h
  | (j, o) :: r, i, off, h => by
    simp only [bothOs, lookT] at h ⊢
    cases hb : Nat.beq j i with
    | true =>
      rw [hb] at h
      have := Nat.eq_of_beq_eq_true hb
      subst this
      have := mem_bothN h
      exact ⟨this.2, this.1⟩
    | false => rw [hb] at h; exact look_bothOs t r i off h
theorem beq_comm_false {l k : Loc} (h : l ≠ k) : l.beq k = false := by
  cases hb : l.beq k with
  | false => rfl
  | true => exact absurd (loc_beq.1 hb) h
/-- A place of a state, and what a join puts there. -/
theorem joinLocs_slots (c : Bool) (s t : St) : ∀ (d : List Loc) (r : St), (joinLocs c s t d r).slots.length = r.slots.length ∧ ∀ n,
    (hasLoc (.slot n) d = false → nthV (joinLocs c s t d r).slots n = nthV r.slots n) ∧ (hasLoc (.slot n) d = true → n < r.slots.length → nthV (joinLocs c s t d r).slots n = mergeV c (nthV s.slots n) (nthV t.slots n))
  | [], r => ⟨rfl, fun n => ⟨fun _ => rfl, fun h => by cases h⟩⟩
  | l :: q, r => by
    obtain ⟨h1, h2⟩ := joinLocs_slots c s t q (joinLoc c s t l r)
    have hlen : (joinLoc c s t l r).slots.length = r.slots.length := by
      cases l <;> first | rfl | exact length_setV _ _ _
    refine ⟨h1.trans hlen, fun n => ⟨fun hn => ?_, fun hn hlt => ?_⟩⟩
    · simp only [hasLoc, Bool.or_eq_false_iff] at hn
      simp only [joinLocs]
      rw [(h2 n).1 hn.2]
      cases l with
      | slot k =>
        have hk : ¬ n = k := fun e => by subst e; rw [loc_beq.2 rfl] at hn; exact absurd hn.1 (by simp)
        simp only [joinLoc, nthV_setV]
        rw [if_neg (fun h => hk h.1)]
      | _ => rfl
    · simp only [joinLocs]
      cases hq : hasLoc (.slot n) q with
      | true => exact (h2 n).2 hq (by rw [hlen]; exact hlt)
      | false =>
        rw [(h2 n).1 hq]
        simp only [hasLoc, hq, Bool.or_false] at hn
        have := loc_beq.1 hn
        subst this
        simp only [joinLoc, nthV_setV]
        rw [if_pos ⟨trivial, hlt⟩]
theorem joinLocs_stips (c : Bool) (s t : St) : ∀ (d : List Loc) (r : St), (∀ n off, off ∈ nthT (joinLocs c s t d r).stips n → (hasLoc (.stip n) d = false → off ∈ nthT r.stips n) ∧
    (hasLoc (.stip n) d = true → n < r.stips.length → off ∈ nthT s.stips n ∧ off ∈ nthT t.stips n)) ∧ (joinLocs c s t d r).stips.length = r.stips.length
  | [], r => ⟨fun n off h => ⟨fun _ => h, fun h => by cases h⟩, rfl⟩
  | l :: q, r => by
    obtain ⟨h2, h1⟩ := joinLocs_stips c s t q (joinLoc c s t l r)
    have hlen : (joinLoc c s t l r).stips.length = r.stips.length := by
      cases l <;> first | rfl | exact length_setT _ _ _
    refine ⟨fun n off ho => ⟨fun hn => ?_, fun hn hlt => ?_⟩, h1.trans hlen⟩
    · simp only [hasLoc, Bool.or_eq_false_iff] at hn
      have := (h2 n off ho).1 hn.2
      cases l with
      | stip k =>
        have hk : ¬ n = k := fun e => by subst e; rw [loc_beq.2 rfl] at hn; exact absurd hn.1 (by simp)
        simp only [joinLoc, nthT_setT] at this
        rwa [if_neg (fun h => hk h.1)] at this
      | _ => exact this
    · cases hq : hasLoc (.stip n) q with
      | true => exact (h2 n off ho).2 hq (by rw [hlen]; exact hlt)
      | false =>
        have := (h2 n off ho).1 hq
        simp only [hasLoc, hq, Bool.or_false] at hn
        have e := loc_beq.1 hn
        subst e
        simp only [joinLoc, nthT_setT] at this
        rw [if_pos ⟨trivial, hlt⟩] at this
        have := mem_bothN this
        exact ⟨this.2, this.1⟩
theorem joinLocs_objs (c : Bool) (s t : St) : ∀ (d : List Loc) (r : St) (i : Nat), (hasLoc (.obj i) d = false → lookObj i (joinLocs c s t d r).objs = lookObj i r.objs) ∧ (hasLoc (.obj i) d = true → lookObj i (joinLocs c s t d r).objs = mergeObj c (lookObj i s.objs) (lookObj i t.objs))
  | [], r, i => ⟨fun _ => rfl, fun h => by cases h⟩
  | l :: q, r, i => by
    obtain ⟨h1, h2⟩ := joinLocs_objs c s t q (joinLoc c s t l r) i
    refine ⟨fun hn => ?_, fun hn => ?_⟩
    · simp only [hasLoc, Bool.or_eq_false_iff] at hn
      simp only [joinLocs]
      rw [h1 hn.2]
      cases l with
      | obj k =>
        have hk : ¬ i = k := fun e => by subst e; rw [loc_beq.2 rfl] at hn; exact absurd hn.1 (by simp)
        simp only [joinLoc, lookObj_setObj]
        rw [if_neg hk]
      | _ => rfl
    · simp only [joinLocs]
      cases hq : hasLoc (.obj i) q with
      | true => exact h2 hq
      | false =>
        rw [h1 hq]
        simp only [hasLoc, hq, Bool.or_false] at hn
        have := loc_beq.1 hn
        subst this
        simp only [joinLoc, lookObj_setObj]
        rw [if_pos trivial]
theorem joinLocs_otips (c : Bool) (s t : St) : ∀ (d : List Loc) (r : St) (i off : Nat), off ∈ lookT i (joinLocs c s t d r).otips → (hasLoc (.otip i) d = false → off ∈ lookT i r.otips) ∧ (hasLoc (.otip i) d = true → off ∈ lookT i s.otips ∧ off ∈ lookT i t.otips)
  | [], r, i, off, h => ⟨fun _ => h, fun h => by cases h⟩
  | l :: q, r, i, off, h => by
    obtain ⟨h1, h2⟩ := joinLocs_otips c s t q (joinLoc c s t l r) i off h
    refine ⟨fun hn => ?_, fun hn => ?_⟩
    · simp only [hasLoc, Bool.or_eq_false_iff] at hn
      have := h1 hn.2
      cases l with
      | otip k =>
        have hk : ¬ i = k := fun e => by subst e; rw [loc_beq.2 rfl] at hn; exact absurd hn.1 (by simp)
        simp only [joinLoc, lookT_setTips] at this
        rwa [if_neg hk] at this
      | _ => exact this
    · cases hq : hasLoc (.otip i) q with
      | true => exact h2 hq
      | false =>
        have := h1 hq
        simp only [hasLoc, hq, Bool.or_false] at hn
        have e := loc_beq.1 hn
        subst e
        simp only [joinLoc, lookT_setTips] at this
        rw [if_pos trivial] at this
        have := mem_bothN this
        exact ⟨this.2, this.1⟩
theorem strip_le {V W : XE.V} (h : stripV V = stripV W) : VLe0 V W := by
  cases V <;> cases W <;> simp [stripV] at h <;> first | (obtain ⟨rfl⟩ := h; exact ⟨fun _ _ _ h => h, fun _ h => .inl h⟩) | (subst h; exact ⟨fun _ _ _ h => h, fun _ h => .inl h⟩) | (obtain ⟨rfl, rfl⟩ := h; exact ⟨fun _ _ _ h => h, fun _ h => .inl h⟩) | (obtain ⟨rfl, rfl, rfl⟩ := h; exact ⟨fun _ _ _ h => h, fun _ h => .inl h⟩) | (obtain ⟨rfl, rfl, rfl, rfl⟩ := h; exact ⟨fun _ _ _ h => h, fun _ h => .inl h⟩) | exact ⟨fun _ _ _ h => h, fun _ h => .inl h⟩ | skip
/-- The first way taken. -/
theorem joinSt_true {d0 : List Loc} {a0 : Bool} (s t : St) : s.LeJ (joinSt d0 a0 true s t) := by
  unfold joinSt
  cases h : (s.all || t.all) with
  | true =>
    refine ⟨fun n => ?_, fun n off ho => (nthT_bothTs _ _ n off ho).1, fun id o ho => ?_, fun id off ho => (look_bothOs _ _ id off ho).1, rfl⟩
    · rcases nthV_mergeVs true s.slots t.slots n with e | e
      · show VLe0 _ (nthV (mergeVs true s.slots t.slots) n); rw [e]; exact (VLe.bot _).zero
      · show VLe0 _ (nthV (mergeVs true s.slots t.slots) n); rw [e]; exact (merge_true _ _).zero
    · replace ho : lookObj id (mergeObjs true t.objs s.objs) = some o := ho
      rcases look_mergeObjs true t.objs s.objs id with e | e
      · rw [e] at ho; cases ho
      · rw [e] at ho; exact mergeObj_true ho
  | false =>
    obtain ⟨h1, h2⟩ := joinLocs_slots true s t (addLocs s.dirty t.dirty) s
    refine ⟨fun n => ?_, fun n off ho => ?_, fun id o ho => ?_, fun id off ho => ?_, rfl⟩
    · show VLe0 _ (nthV (joinLocs true s t (addLocs s.dirty t.dirty) s).slots n)
      cases hd : hasLoc (.slot n) (addLocs s.dirty t.dirty) with
      | false => rw [(h2 n).1 hd]; exact (VLe.refl _).zero
      | true =>
        by_cases hlt : n < s.slots.length
        · rw [(h2 n).2 hd hlt]; exact (merge_true _ _).zero
        · rw [nthV_of_le (joinLocs true s t (addLocs s.dirty t.dirty) s).slots n (by omega)]; exact (VLe.bot _).zero
    · obtain ⟨g1, g2⟩ := joinLocs_stips true s t (addLocs s.dirty t.dirty) s
      obtain ⟨g3, g4⟩ := g1 n off ho
      cases hd : hasLoc (.stip n) (addLocs s.dirty t.dirty) with
      | false => exact g3 hd
      | true =>
        by_cases hlt : n < s.stips.length
        · exact (g4 hd hlt).1
        · replace ho : off ∈ nthT (joinLocs true s t (addLocs s.dirty t.dirty) s).stips n := ho
          rw [nthT_of_le (joinLocs true s t (addLocs s.dirty t.dirty) s).stips n (by omega)] at ho; cases ho
    · replace ho : lookObj id (joinLocs true s t (addLocs s.dirty t.dirty) s).objs = some o := ho
      obtain ⟨g1, g2⟩ := joinLocs_objs true s t (addLocs s.dirty t.dirty) s id
      cases hd : hasLoc (.obj id) (addLocs s.dirty t.dirty) with
      | false => rw [g1 hd] at ho; exact ⟨o, ho, .refl _ _⟩
      | true => rw [g2 hd] at ho; exact mergeObj_true ho
    · obtain ⟨g1, g2⟩ := joinLocs_otips true s t (addLocs s.dirty t.dirty) s id off ho
      cases hd : hasLoc (.otip id) (addLocs s.dirty t.dirty) with
      | false => exact g1 hd
      | true => exact (g2 hd).1
/-- The second way taken: what neither has written is as it was. -/
theorem joinSt_false {d0 : List Loc} {a0 : Bool} {s0 s t : St} (hs : Agr s0 s) (ht : Agr s0 t) : t.LeJ (joinSt d0 a0 false s t) := by
  unfold joinSt
  cases h : (s.all || t.all) with
  | true =>
    refine ⟨fun n => ?_, fun n off ho => (nthT_bothTs _ _ n off ho).2, fun id o ho => ?_, fun id off ho => (look_bothOs _ _ id off ho).2, rfl⟩
    · rcases nthV_mergeVs false s.slots t.slots n with e | e
      · show VLe0 _ (nthV (mergeVs false s.slots t.slots) n); rw [e]; exact (VLe.bot _).zero
      · show VLe0 _ (nthV (mergeVs false s.slots t.slots) n); rw [e]; exact (merge_false _ _).zero
    · replace ho : lookObj id (mergeObjs false t.objs s.objs) = some o := ho
      rcases look_mergeObjs false t.objs s.objs id with e | e
      · rw [e] at ho; cases ho
      · rw [e] at ho; exact mergeObj_false ho
  | false =>
    simp only [Bool.or_eq_false_iff] at h
    have es := hs.eq.resolve_left (by rw [h.1]; simp)
    have et := ht.eq.resolve_left (by rw [h.2]; simp)
    obtain ⟨h1, h2⟩ := joinLocs_slots false s t (addLocs s.dirty t.dirty) s
    refine ⟨fun n => ?_, fun n off ho => ?_, fun id o ho => ?_, fun id off ho => ?_, rfl⟩
    · show VLe0 _ (nthV (joinLocs false s t (addLocs s.dirty t.dirty) s).slots n)
      cases hd : hasLoc (.slot n) (addLocs s.dirty t.dirty) with
      | false =>
        obtain ⟨d1, d2⟩ := hasLoc_adds.1 hd
        rw [(h2 n).1 hd]
        have e1 : stripV (nthV t.slots n) = stripV (nthV s0.slots n) := et _ d2
        have e2 : stripV (nthV s.slots n) = stripV (nthV s0.slots n) := es _ d1
        exact strip_le (e1.trans e2.symm)
      | true =>
        by_cases hlt : n < s.slots.length
        · rw [(h2 n).2 hd hlt]; exact (merge_false _ _).zero
        · rw [nthV_of_le (joinLocs false s t (addLocs s.dirty t.dirty) s).slots n (by omega)]; exact (VLe.bot _).zero
    · obtain ⟨g1, g2⟩ := joinLocs_stips false s t (addLocs s.dirty t.dirty) s
      obtain ⟨g3, g4⟩ := g1 n off ho
      cases hd : hasLoc (.stip n) (addLocs s.dirty t.dirty) with
      | false =>
        obtain ⟨d1, d2⟩ := hasLoc_adds.1 hd
        have e : nthT t.stips n = nthT s.stips n := Eq.trans (et _ d2) (Eq.symm (es _ d1))
        rw [e]
        exact g3 hd
      | true =>
        by_cases hlt : n < s.stips.length
        · exact (g4 hd hlt).2
        · replace ho : off ∈ nthT (joinLocs false s t (addLocs s.dirty t.dirty) s).stips n := ho
          rw [nthT_of_le (joinLocs false s t (addLocs s.dirty t.dirty) s).stips n (by omega)] at ho; cases ho
    · replace ho : lookObj id (joinLocs false s t (addLocs s.dirty t.dirty) s).objs = some o := ho
      obtain ⟨g1, g2⟩ := joinLocs_objs false s t (addLocs s.dirty t.dirty) s id
      cases hd : hasLoc (.obj id) (addLocs s.dirty t.dirty) with
      | false =>
        obtain ⟨d1, d2⟩ := hasLoc_adds.1 hd
        have e : lookObj id t.objs = lookObj id s.objs := Eq.trans (et _ d2) (Eq.symm (es _ d1))
        rw [g1 hd, ← e] at ho; exact ⟨o, ho, .refl _ _⟩
      | true => rw [g2 hd] at ho; exact mergeObj_false ho
    · obtain ⟨g1, g2⟩ := joinLocs_otips false s t (addLocs s.dirty t.dirty) s id off ho
      cases hd : hasLoc (.otip id) (addLocs s.dirty t.dirty) with
      | false =>
        obtain ⟨d1, d2⟩ := hasLoc_adds.1 hd
        have e : lookT id t.otips = lookT id s.otips := Eq.trans (et _ d2) (Eq.symm (es _ d1))
        rw [e]
        exact g1 hd
      | true => exact (g2 hd).2
end Go.XE
/- Tests: what comes of a joined test comes of the way taken, and tells no more. -/
namespace Go.XE

theorem eqAt_joinLoc {c : Bool} {s t r : St} {k l : Loc} (h : k ≠ l) : EqAt r (joinLoc c s t k r) l := by
  cases k <;> cases l <;> first
    | rfl
    | trivial
    | (simp only [EqAt, joinLoc, nthV_setV]; rw [if_neg (fun e => h (by rw [e.1]))])
    | (simp only [EqAt, joinLoc, nthT_setT]; rw [if_neg (fun e => h (by rw [e.1]))])
    | (simp only [EqAt, joinLoc, lookObj_setObj]; rw [if_neg (fun e => h (by rw [e]))])
    | (simp only [EqAt, joinLoc, lookT_setTips]; rw [if_neg (fun e => h (by rw [e]))])
theorem EqAt.refl (s : St) (l : Loc) : EqAt s s l := by cases l <;> first | rfl | trivial
theorem eqAt_joinLocs {c : Bool} {s t : St} {l : Loc} : ∀ (d : List Loc) (r : St), hasLoc l d = false → EqAt r (joinLocs c s t d r) l
  | [], r, _ => .refl r l
  | k :: q, r, h => by
    simp only [hasLoc, Bool.or_eq_false_iff] at h
    have hk : k ≠ l := fun e => by rw [loc_beq.2 e] at h; exact absurd h.1 (by simp)
    exact (eqAt_joinLoc hk).trans (eqAt_joinLocs q _ h.2)
theorem length_mergeVs (c : Bool) : ∀ x y : List V, (mergeVs c x y).length ≤ x.length
  | a :: x, b :: y => by simpa [mergeVs] using length_mergeVs c x y
  | [], _ => by simp [mergeVs]
  | _ :: _, [] => by simp [mergeVs]
theorem joinSt_len {d0 : List Loc} {a0 c : Bool} (s t : St) : (joinSt d0 a0 c s t).slots.length ≤ s.slots.length := by
  unfold joinSt
  cases (s.all || t.all) with
  | true => exact length_mergeVs c _ _
  | false => exact Nat.le_of_eq (joinLocs_slots c s t (addLocs s.dirty t.dirty) s).1
theorem joinSt_agr {S0 b s t : St} {c : Bool} (hs : Agr b s) (_ht : Agr b t) (hb : Agr S0 b) : Agr S0 (joinSt b.dirty b.all c s t) := by
  refine ⟨Nat.le_trans (joinSt_len s t) (Nat.le_trans hs.len hb.len), ?_⟩
  unfold joinSt
  cases h : (s.all || t.all) with
  | true => exact .inl rfl
  | false =>
    simp only [Bool.or_eq_false_iff] at h
    have es := hs.eq.resolve_left (by rw [h.1]; simp)
    rcases hb.eq with ha | hb
    · exact .inl ha
    · refine .inr fun l hl => ?_
      obtain ⟨h1, h2⟩ := hasLoc_adds.1 hl
      obtain ⟨h3, h4⟩ := hasLoc_adds.1 h1
      have e1 : EqAt s (joinLocs c s t (addLocs s.dirty t.dirty) s) l := eqAt_joinLocs _ _ h1
      have e2 := ((hb l h2).trans (es l h3)).trans e1
      cases l <;> exact e2
theorem join2_all {S0 b s : St} {c : Bool} (hs : Agr b s) (hb : Agr S0 b) : ∀ {e : Out}, e.All (Agr b) → (join2 b.dirty b.all c s e).All (Agr S0)
  | .norm t, h => joinSt_agr hs h hb
  | .need n o, h => join2_all hs hb (e := o) h
  | .opt d o k, h => fun x => join2_all hs hb (h x)
  | .ext _ _, _ => trivial
  | .ret _, _ => trivial
  | .br _ _ _, _ => trivial
  | .bad, _ => trivial
theorem join1_all {S0 b : St} {c : Bool} {e : Out} (he : e.All (Agr b)) (hb : Agr S0 b) : ∀ {t : Out}, t.All (Agr b) → (join1 b.dirty b.all c e t).All (Agr S0)
  | .norm s, h => join2_all h hb he
  | .need n o, h => join1_all he hb (t := o) h
  | .opt d o k, h => fun x => join1_all he hb (h x)
  | .ext _ _, _ => trivial
  | .ret _, _ => trivial
  | .br _ _ _, _ => trivial
  | .bad, _ => trivial
theorem join2_true {d0 : List Loc} {a0 : Bool} {s : St} : ∀ {e : Out} {l : Leaf}, (join2 d0 a0 true s e).res = some l → ∃ t, l = .norm (joinSt d0 a0 true s t)
  | .norm t, l, h => by cases h; exact ⟨t, rfl⟩
  | .need n o, l, h => join2_true (e := o) h
  | .opt d o k, l, h => join2_true (e := k d) h
  | .ext _ _, _, h => by cases h
  | .ret _, _, h => by cases h
  | .br _ _ _, _, h => by cases h
  | .bad, _, h => by cases h
theorem join1_true {d0 : List Loc} {a0 : Bool} {e : Out} : ∀ {t : Out} {l : Leaf}, (join1 d0 a0 true e t).res = some l → ∃ s s', t.res = some (.norm s) ∧ l = .norm s' ∧ s.LeJ s' ∧ s'.slots.length ≤ s.slots.length
  | .norm s, l, h => by
    obtain ⟨t, rfl⟩ := join2_true h
    exact ⟨s, _, rfl, rfl, joinSt_true s t, joinSt_len s t⟩
  | .need n o, l, h => by
    cases n with
    | true => exact join1_true (t := o) h
    | false => cases h
  | .opt d o k, l, h => by
    cases o with
    | none => cases h
    | some b => exact join1_true (t := k b) h
  | .ext _ _, _, h => by cases h
  | .ret _, _, h => by cases h
  | .br _ _ _, _, h => by cases h
  | .bad, _, h => by cases h
theorem join2_false {d0 : List Loc} {a0 : Bool} {b s : St} (hs : Agr b s) : ∀ {e : Out} {l : Leaf}, e.All (Agr b) → (join2 d0 a0 false s e).res = some l → ∃ t s', e.res = some (.norm t) ∧ l = .norm s' ∧ t.LeJ s' ∧ s'.slots.length ≤ b.slots.length
  | .norm t, l, he, h => by cases h; exact ⟨t, _, rfl, rfl, joinSt_false hs he, Nat.le_trans (joinSt_len s t) hs.len⟩
  | .need n o, l, he, h => by
    cases n with
    | true => exact join2_false hs (e := o) he h
    | false => cases h
  | .opt d o k, l, he, h => by
    cases o with
    | none => cases h
    | some x => exact join2_false hs (e := k x) (he x) h
  | .ext _ _, _, _, h => by cases h
  | .ret _, _, _, h => by cases h
  | .br _ _ _, _, _, h => by cases h
  | .bad, _, _, h => by cases h
theorem join1_false {d0 : List Loc} {a0 : Bool} {b : St} {e : Out} (he : e.All (Agr b)) : ∀ {t : Out} {l : Leaf}, t.All (Agr b) → (join1 d0 a0 false e t).res = some l → ∃ s s', e.res = some (.norm s) ∧ l = .norm s' ∧ s.LeJ s' ∧ s'.slots.length ≤ b.slots.length
  | .norm s, l, hs, h => join2_false hs he h
  | .need n o, l, hs, h => join1_false he (t := o) hs h
  | .opt d o k, l, hs, h => join1_false he (t := k d) (hs d) h
  | .ext _ _, _, _, h => by cases h
  | .ret _, _, _, h => by cases h
  | .br _ _ _, _, _, h => by cases h
  | .bad, _, _, h => by cases h
end Go.XE
/- Code: what a block catches, what a test gives; what must hold behind a piece of code. -/
namespace Go.XE

/-- 's'' tells no more than 's'; its slots are at most n. -/
def StLe (n : Nat) (s s' : St) : Prop := Same s s' ∧ s'.next = s.next ∨ (s.LeJ s' ∧ s'.slots.length ≤ n ∧ s.next ≤ s'.next)
inductive LeafLe (n : Nat) : Leaf → Leaf → Prop where
  | norm {s s' : St} (h : StLe n s s') : LeafLe n (.norm s) (.norm s')
  | ext {i : Nat} {s s' : St} (h : StLe n s s') : LeafLe n (.ext i s) (.ext i s')
  | ret {s s' : St} (h : StLe n s s') : LeafLe n (.ret s) (.ret s')
theorem StLe.refl (n : Nat) (s : St) : StLe n s s := .inl ⟨.refl s, rfl⟩
theorem joinSt_next {d0 : List Loc} {a0 c : Bool} (s t : St) : (joinSt d0 a0 c s t).next = Nat.max s.next t.next := by
  unfold joinSt
  cases (s.all || t.all) <;> rfl
theorem addDirty_same (d0 : List Loc) (a0 : Bool) (s : St) : Same s (s.addDirty d0 a0) := ⟨rfl, rfl, rfl, rfl, rfl⟩
theorem addDirty_res {d0 : List Loc} {a0 : Bool} {n : Nat} : ∀ {o : Out} {l : Leaf}, (o.addDirty d0 a0).res = some l → ∃ l0, o.res = some l0 ∧ LeafLe n l0 l
  | .norm s, l, h => by cases h; exact ⟨_, rfl, .norm (.inl ⟨addDirty_same d0 a0 s, rfl⟩)⟩
  | .ext i s, l, h => by cases h; exact ⟨_, rfl, .ext (.inl ⟨addDirty_same d0 a0 s, rfl⟩)⟩
  | .ret s, l, h => by cases h; exact ⟨_, rfl, .ret (.inl ⟨addDirty_same d0 a0 s, rfl⟩)⟩
  | .br c t e, l, h => by
    cases c with
    | true => exact addDirty_res (o := t) h
    | false => exact addDirty_res (o := e) h
  | .need c o, l, h => by
    cases c with
    | true => exact addDirty_res (o := o) h
    | false => cases h
  | .opt d o k, l, h => by
    cases o with
    | none => cases h
    | some b => exact addDirty_res (o := k b) h
  | .bad, l, h => by cases h
theorem addDirty_agr {S0 b s : St} (hb : Agr S0 b) (hs : Agr b s) : Agr S0 (s.addDirty b.dirty b.all) := by
  refine ⟨Nat.le_trans hs.len hb.len, ?_⟩
  rcases hb.eq with ha | hb
  · exact .inl (by simp [St.addDirty, ha])
  · rcases hs.eq with ha | hs
    · exact .inl (by simp [St.addDirty, ha])
    · refine .inr fun l hl => ?_
      obtain ⟨h1, h2⟩ := hasLoc_adds.1 hl
      have := (hb l h2).trans (hs l h1)
      cases l <;> exact this
theorem addDirty_all {S0 b : St} (hb : Agr S0 b) : ∀ {o : Out}, o.All (Agr b) → (o.addDirty b.dirty b.all).All (Agr S0)
  | .norm s, h => addDirty_agr hb h
  | .ext i s, h => addDirty_agr hb h
  | .ret s, h => addDirty_agr hb h
  | .br c t e, h => ⟨addDirty_all hb h.1, addDirty_all hb h.2⟩
  | .need c o, h => addDirty_all hb (o := o) h
  | .opt d o k, h => fun b => addDirty_all hb (h b)
  | .bad, _ => trivial
theorem mkBr_all {S0 b : St} {c : Bool} {t e : Out} (hb : Agr S0 b) (ht : t.All (Agr b)) (he : e.All (Agr b)) : (mkBr b.dirty b.all c t e).All (Agr S0) := by
  unfold mkBr
  cases joinable t e with
  | true => exact join1_all he hb ht
  | false => exact ⟨addDirty_all hb ht, addDirty_all hb he⟩
theorem join1_tt {d0 : List Loc} {a0 : Bool} {e : Out} : ∀ {t : Out} {l : Leaf}, (join1 d0 a0 true e t).res = some l → ∃ s s', t.res = some (.norm s) ∧ l = .norm (joinSt d0 a0 true s s')
  | .norm s, l, h => by
    obtain ⟨t, rfl⟩ := join2_true h
    exact ⟨s, t, rfl, rfl⟩
  | .need n o, l, h => by
    cases n with
    | true => exact join1_tt (t := o) h
    | false => cases h
  | .opt d o k, l, h => by
    cases o with
    | none => cases h
    | some b => exact join1_tt (t := k b) h
  | .ext _ _, _, h => by cases h
  | .ret _, _, h => by cases h
  | .br _ _ _, _, h => by cases h
  | .bad, _, h => by cases h
theorem join2_ff {d0 : List Loc} {a0 : Bool} {s : St} : ∀ {e : Out} {l : Leaf}, (join2 d0 a0 false s e).res = some l → ∃ t, e.res = some (.norm t) ∧ l = .norm (joinSt d0 a0 false s t)
  | .norm t, l, h => by cases h; exact ⟨t, rfl, rfl⟩
  | .need n o, l, h => by
    cases n with
    | true => exact join2_ff (e := o) h
    | false => cases h
  | .opt d o k, l, h => by
    cases o with
    | none => cases h
    | some x => exact join2_ff (e := k x) h
  | .ext _ _, _, h => by cases h
  | .ret _, _, h => by cases h
  | .br _ _ _, _, h => by cases h
  | .bad, _, h => by cases h
theorem join1_ff {d0 : List Loc} {a0 : Bool} {b : St} {e : Out} : ∀ {t : Out} {l : Leaf}, t.All (Agr b) → (join1 d0 a0 false e t).res = some l → ∃ s s', Agr b s ∧ e.res = some (.norm s') ∧ l = .norm (joinSt d0 a0 false s s')
  | .norm s, l, hs, h => by
    obtain ⟨t, h1, h2⟩ := join2_ff h
    exact ⟨s, t, hs, h1, h2⟩
  | .need n o, l, hs, h => join1_ff (t := o) hs h
  | .opt d o k, l, hs, h => join1_ff (t := k d) (hs d) h
  | .ext _ _, _, _, h => by cases h
  | .ret _, _, _, h => by cases h
  | .br _ _ _, _, _, h => by cases h
  | .bad, _, _, h => by cases h
theorem join1_res {d0 : List Loc} {a0 c : Bool} {b : St} {t e : Out} {l : Leaf} (ht : t.All (Agr b)) (he : e.All (Agr b)) (h : (join1 d0 a0 c e t).res = some l) : ∃ l0, (cond c t e).res = some l0 ∧ LeafLe b.slots.length l0 l := by
  cases c with
  | true =>
    obtain ⟨s, s', h1, rfl⟩ := join1_tt h
    have hs : Agr b s := All.res ht h1
    exact ⟨_, h1, .norm (.inr ⟨joinSt_true s s', Nat.le_trans (joinSt_len s s') hs.len, by rw [joinSt_next]; exact Nat.le_max_left _ _⟩)⟩
  | false =>
    obtain ⟨s, s', h1, h2, rfl⟩ := join1_ff ht h
    have hs : Agr b s' := All.res he h2
    exact ⟨_, h2, .norm (.inr ⟨joinSt_false h1 hs, Nat.le_trans (joinSt_len s s') h1.len, by rw [joinSt_next]; exact Nat.le_max_right _ _⟩)⟩
/-- What comes of a test comes of the way taken. -/
theorem mkBr_res {d0 : List Loc} {a0 c : Bool} {b : St} {t e : Out} {l : Leaf} (ht : t.All (Agr b)) (he : e.All (Agr b)) (h : (mkBr d0 a0 c t e).res = some l) : ∃ l0, (cond c t e).res = some l0 ∧ LeafLe b.slots.length l0 l := by
  unfold mkBr at h
  cases hj : joinable t e with
  | true => rw [hj] at h; exact join1_res ht he h
  | false =>
    rw [hj] at h
    cases c with
    | true => exact addDirty_res (o := t) h
    | false => exact addDirty_res (o := e) h
/-- What a block does with the way out that is its own. -/
def Leaf.caught (id : Nat) : Leaf → Leaf
  | .ext j s => cond (Nat.beq j id) (.norm s) (.ext j s)
  | l => l
theorem StLe.trans {n : Nat} {a b c : St} (h : StLe n a b) (k : StLe n b c) : StLe n a c := by
  rcases h with ⟨h1, h2⟩ | ⟨h1, h2, h3⟩
  · rcases k with ⟨k1, k2⟩ | ⟨k1, k2, k3⟩
    · exact .inl ⟨h1.trans k1, k2.trans h2⟩
    · refine .inr ⟨⟨fun n => ?_, fun n off ho => ?_, fun id o ho => ?_, fun id off ho => ?_, k1.fresh⟩, k2, by rw [← h2]; exact k3⟩
      · rw [← h1.slots]; exact k1.slots n
      · rw [← h1.stips]; exact k1.stips n off ho
      · rw [← h1.objs]; exact k1.objs id o ho
      · rw [← h1.otips]; exact k1.otips id off ho
  · rcases k with ⟨k1, k2⟩ | ⟨k1, k2, k3⟩
    · refine .inr ⟨⟨fun n => ?_, fun n off ho => ?_, fun id o ho => ?_, fun id off ho => ?_, k1.fresh.trans h1.fresh⟩, by rw [k1.slots]; exact h2, by rw [k2]; exact h3⟩
      · rw [k1.slots]; exact h1.slots n
      · rw [k1.stips] at ho; exact h1.stips n off ho
      · rw [k1.objs] at ho; exact h1.objs id o ho
      · rw [k1.otips] at ho; exact h1.otips id off ho
    · refine .inr ⟨⟨fun n => ⟨fun P m v r => (k1.slots n).rv P m v ((h1.slots n).rv P m v r), fun d hd => ((k1.slots n).dat d hd).elim (fun e => (h1.slots n).dat d e) .inr⟩, fun n off ho => h1.stips n off (k1.stips n off ho), fun id o ho => ?_, fun id off ho => h1.otips id off (k1.otips id off ho), k1.fresh⟩, k2, Nat.le_trans h3 k3⟩
      obtain ⟨o1, g1, g2⟩ := k1.objs id o ho
      obtain ⟨o2, g3, g4⟩ := h1.objs id o1 g1
      exact ⟨o2, g3, g4.trans g2⟩
theorem Rel.stLe {P : Program} {G : Nat → Option GV} {vars n : Nat} {m : Mem} {s s' : St} {tm : Array Value} (r : Rel P G vars m s tm) (h : StLe n s s') (hn : n ≤ tm.size) : Rel P G vars m s' tm := by
  rcases h with ⟨h1, _⟩ | ⟨h1, h2, _⟩
  · exact r.same h1
  · exact r.leJ h1 (Nat.le_trans h2 hn)
theorem StLe.next {n : Nat} {s s' : St} (h : StLe n s s') : s.next ≤ s'.next := by
  rcases h with ⟨_, h⟩ | ⟨_, _, h⟩
  · exact Nat.le_of_eq h.symm
  · exact h
theorem LeafLe.trans {n : Nat} {a b c : Leaf} (h : LeafLe n a b) (k : LeafLe n b c) : LeafLe n a c := by
  cases h with
  | norm h => cases k with | norm k => exact .norm (h.trans k)
  | ext h => cases k with | ext k => exact .ext (h.trans k)
  | ret h => cases k with | ret k => exact .ret (h.trans k)
theorem LeafLe.refl (n : Nat) : ∀ l : Leaf, LeafLe n l l
  | .norm s => .norm (.refl n s)
  | .ext _ s => .ext (.refl n s)
  | .ret s => .ret (.refl n s)
theorem LeafLe.st {n : Nat} {a b : Leaf} (h : LeafLe n a b) : StLe n a.st b.st := by cases h <;> assumption
theorem joinSt_agr0 {S0 s t : St} {d0 : List Loc} {a0 c : Bool} (hs : Agr S0 s) (_ht : Agr S0 t) : Agr S0 (joinSt d0 a0 c s t) := by
  refine ⟨Nat.le_trans (joinSt_len s t) hs.len, ?_⟩
  unfold joinSt
  cases h : (s.all || t.all) with
  | true => exact .inl rfl
  | false =>
    simp only [Bool.or_eq_false_iff] at h
    have es := hs.eq.resolve_left (by rw [h.1]; simp)
    refine .inr fun l hl => ?_
    obtain ⟨h1, h2⟩ := hasLoc_adds.1 hl
    obtain ⟨h3, h4⟩ := hasLoc_adds.1 h1
    have e1 : EqAt s (joinLocs c s t (addLocs s.dirty t.dirty) s) l := eqAt_joinLocs _ _ h1
    have e2 := (es l h3).trans e1
    cases l <;> exact e2
theorem join2_all0 {S0 s : St} {d0 : List Loc} {a0 c : Bool} (hs : Agr S0 s) : ∀ {e : Out}, e.All (Agr S0) → (join2 d0 a0 c s e).All (Agr S0)
  | .norm t, h => joinSt_agr0 hs h
  | .need n o, h => join2_all0 hs (e := o) h
  | .opt d o k, h => fun x => join2_all0 hs (h x)
  | .ext _ _, _ => trivial
  | .ret _, _ => trivial
  | .br _ _ _, _ => trivial
  | .bad, _ => trivial
theorem join1_all0 {S0 : St} {d0 : List Loc} {a0 c : Bool} {e : Out} (he : e.All (Agr S0)) : ∀ {t : Out}, t.All (Agr S0) → (join1 d0 a0 c e t).All (Agr S0)
  | .norm s, h => join2_all0 h he
  | .need n o, h => join1_all0 he (t := o) h
  | .opt d o k, h => fun x => join1_all0 he (h x)
  | .ext _ _, _ => trivial
  | .ret _, _ => trivial
  | .br _ _ _, _ => trivial
  | .bad, _ => trivial
theorem catch_all {S0 : St} {d0 : List Loc} {a0 : Bool} {id : Nat} : ∀ {o : Out}, o.All (Agr S0) → (o.catchExit d0 a0 id).All (Agr S0)
  | .norm s, h => h
  | .ext j s, h => by
    show Out.All _ (cond (Nat.beq j id) (.norm s) (.ext j s))
    cases Nat.beq j id <;> exact h
  | .ret s, h => h
  | .br c t e, h => by
    have h1 := catch_all (d0 := d0) (a0 := a0) (id := id) h.1
    have h2 := catch_all (d0 := d0) (a0 := a0) (id := id) h.2
    show Out.All _ (cond (joinable (t.catchExit d0 a0 id) (e.catchExit d0 a0 id)) (join1 d0 a0 c (e.catchExit d0 a0 id) (t.catchExit d0 a0 id)) (.br c (t.catchExit d0 a0 id) (e.catchExit d0 a0 id)))
    cases joinable (t.catchExit d0 a0 id) (e.catchExit d0 a0 id) with
    | true => exact join1_all0 h2 h1
    | false => exact ⟨h1, h2⟩
  | .need c o, h => catch_all (o := o) h
  | .opt d o k, h => fun x => catch_all (h x)
  | .bad, _ => trivial
theorem catch_res {S0 : St} {d0 : List Loc} {a0 : Bool} {id : Nat} : ∀ {o : Out} {l : Leaf}, o.All (Agr S0) → (o.catchExit d0 a0 id).res = some l → ∃ l0, o.res = some l0 ∧ LeafLe S0.slots.length (l0.caught id) l
  | .norm s, l, h, e => by cases e; exact ⟨_, rfl, .refl _ _⟩
  | .ext j s, l, h, e => by
    refine ⟨_, rfl, ?_⟩
    replace e : (cond (Nat.beq j id) (Out.norm s) (.ext j s)).res = some l := e
    show LeafLe _ (cond (Nat.beq j id) (.norm s) (.ext j s)) l
    cases hb : Nat.beq j id with
    | true => rw [hb] at e; cases e; exact .refl _ _
    | false => rw [hb] at e; cases e; exact .refl _ _
  | .ret s, l, h, e => by cases e; exact ⟨_, rfl, .refl _ _⟩
  | .br c t f, l, h, e => by
    have h1 := catch_all (d0 := d0) (a0 := a0) (id := id) h.1
    have h2 := catch_all (d0 := d0) (a0 := a0) (id := id) h.2
    have main : ∃ l1, (cond c (t.catchExit d0 a0 id) (f.catchExit d0 a0 id)).res = some l1 ∧ LeafLe S0.slots.length l1 l := by
      replace e : (cond (joinable (t.catchExit d0 a0 id) (f.catchExit d0 a0 id)) (join1 d0 a0 c (f.catchExit d0 a0 id) (t.catchExit d0 a0 id)) (.br c (t.catchExit d0 a0 id) (f.catchExit d0 a0 id))).res = some l := e
      cases hj : joinable (t.catchExit d0 a0 id) (f.catchExit d0 a0 id) with
      | true => rw [hj] at e; exact join1_res h1 h2 e
      | false =>
        rw [hj] at e
        cases c with
        | true => exact ⟨l, e, .refl _ _⟩
        | false => exact ⟨l, e, .refl _ _⟩
    obtain ⟨l1, m1, m2⟩ := main
    cases c with
    | true =>
      obtain ⟨l0, g1, g2⟩ := catch_res (o := t) h.1 m1
      exact ⟨l0, g1, g2.trans m2⟩
    | false =>
      obtain ⟨l0, g1, g2⟩ := catch_res (o := f) h.2 m1
      exact ⟨l0, g1, g2.trans m2⟩
  | .need c o, l, h, e => by
    cases c with
    | true => exact catch_res (o := o) h e
    | false => cases e
  | .opt d o k, l, h, e => by
    cases o with
    | none => cases e
    | some b => exact catch_res (o := k b) (h b) e
  | .bad, _, _, e => by cases e
end Go.XE
/- Every leaf of a walk tells what it has written. -/
namespace Go.XE
section
variable {Γ : Env} {S0 : St}

theorem agr_slot {s : St} (h : Agr S0 s) (d : Nat) (V : XE.V) : Agr s { s with slots := setV s.slots d V, dirty := [.slot d], all := false } := by
  refine ⟨by simp [length_setV], .inr fun l hl => ?_⟩
  have hne : Loc.slot d ≠ l := fun e => by subst e; simp [hasLoc, Loc.beq] at hl
  have : EqAt s (s.put (.slot d) (.v V)) l := eqAt_put hne
  cases l <;> exact this
theorem sharpen_all {gs : List Nat} {dst : Option Nat} {s : St} {k : St → Out} (h : Agr S0 s) (hk : ∀ B s, Agr B s → (k s).All (Agr B)) : (sharpen gs dst s k).All (Agr S0) := by
  unfold sharpen
  cases dst with
  | none => exact hk S0 s h
  | some d =>
    simp only
    cases hasN d gs with
    | false => exact hk S0 s h
    | true =>
      simp only [cond_true]
      split
      · exact mkBr_all h (hk s _ (agr_slot h d _)) (hk s _ (agr_slot h d _))
      · exact hk S0 s h
def InlAll (h : Nat → Oper → St → Out) : Prop := ∀ i o S0 s, Agr S0 s → (h i o s).All (Agr S0)
theorem evOps_all {inls : Nat → Option (Nat → Oper → St → Out)} (hI : ∀ i h, inls i = some h → InlAll h) (all : List Oper) (gs : List Nat) (chk : List Tr → Bool) : ∀ (l : List Oper) (i : Nat) (trs : List Tr) (S0 s : St), Agr S0 s → (evOps Γ all gs chk inls l i trs s).All (Agr S0)
  | [], i, trs, S0, s, h => by
    show Out.All _ (cond (chk trs) (.norm s) .bad)
    cases chk trs
    · trivial
    · exact h
  | o :: r, i, trs, S0, s, h => by
    have run : ∀ (rd : List Loc) (S0 s : St), Agr S0 s → (match inls i with
      | some h => (h i o s).bind fun s' => sharpen gs o.dst s' (evOps Γ all gs chk inls r (i + 1) (trs ++ [([], [])]))
      | none => runM (evOp Γ o (s.next + i)) { s with rd := rd, wr := [] } fun _ s' => sharpen gs o.dst s' (evOps Γ all gs chk inls r (i + 1) (trs ++ [(s'.rd, dstWr o.dst s'.wr)])) : Out).All (Agr S0) := fun rd S0 s h => by
      cases hi : inls i with
      | some f => exact All.bind (Q := Agr S0) (fun s' hs => sharpen_all hs fun B s hB => evOps_all hI all gs chk r _ _ B s hB) (fun _ hs => hs) (hI i f hi i o S0 s h)
      | none =>
        exact All.runM (Q := Agr S0) (fun _ s' hs => sharpen_all hs fun B s hB => evOps_all hI all gs chk r _ _ B s hB) (fun s l hs => ⟨hs.len, hs.eq.imp id fun he k hk => by have := he k hk; cases k <;> exact this⟩) (fun s l x hs => hs.put l x)
          ⟨h.len, h.eq.imp id fun he k hk => by have := he k hk; cases k <;> exact this⟩
    have skip : ∀ (g : Nat) (S0 s : St), Agr S0 s → (match o.dst with
          | some d => cond (Nat.testBit Γ.vars d) .bad (evOps Γ all gs chk inls r (i + 1) (trs ++ [([.slot g], [.slot d, .stip d])]) { s with slots := setV s.slots d .und, stips := setT s.stips d [], dirty := addLoc (.slot d) (addLoc (.stip d) s.dirty) })
          | none => evOps Γ all gs chk inls r (i + 1) (trs ++ [([.slot g], [])]) s : Out).All (Agr S0) := fun g S0 s h => by
      cases o.dst with
      | none => exact evOps_all hI all gs chk r _ _ S0 s h
      | some d =>
        simp only
        cases Nat.testBit Γ.vars d with
        | true => trivial
        | false =>
          have h1 := (h.put (.stip d) (.t [])).put (.slot d) (.v .und)
          refine evOps_all hI all gs chk r _ _ S0 _ ⟨h1.len, h1.eq.imp id fun he k hk => ?_⟩
          have := he k hk
          cases k <;> exact this
    simp only [evOps]
    split
    · exact run [] S0 s h
    · split
      · trivial
      · rename_i g _
        split
        · rename_i b _
          cases bEq b _ with
          | true => exact run _ S0 s h
          | false => exact skip g S0 s h
        · exact skip g S0 s h
        · trivial
theorem nthV_strip : ∀ (l : List V) (n : Nat), nthV (stripVs l) n = stripV (nthV l n)
  | [], n => by simp [stripVs, nthV, stripV]
  | v :: r, 0 => rfl
  | v :: r, n + 1 => nthV_strip r n
theorem length_strip : ∀ l : List V, (stripVs l).length = l.length
  | [] => rfl
  | v :: r => by simp [stripVs, length_strip r]
theorem strip_strip (V : XE.V) : stripV (stripV V) = stripV V := by cases V <;> rfl
theorem begin_agr {s : St} (h : Agr S0 s) : Agr S0 s.begin := by
  unfold St.begin
  cases s.fresh with
  | true => exact h
  | false =>
    refine ⟨by simpa [length_strip] using h.len, h.eq.imp id fun he k hk => ?_⟩
    have := he k hk
    cases k with
    | slot n =>
      show stripV (nthV (stripVs s.slots) n) = _
      rw [nthV_strip, strip_strip]
      exact this
    | _ => exact this
theorem next_agr {s : St} (h : Agr S0 s) (n : Nat) : Agr S0 { s with next := n } := ⟨h.len, h.eq.imp id fun he k hk => by have := he k hk; cases k <;> exact this⟩
def HooksAll (Γ : Env) : Prop := (∀ r f, Γ.loops r = some f → ∀ S0 s, Agr S0 s → (f s).All (Agr S0)) ∧ ∀ id i h, Γ.inls id i = some h → InlAll h
theorem evRegion_all (hI : ∀ id i h, Γ.inls id i = some h → InlAll h) {id : Nat} {ops : Array Oper} {draw : Bool} {s : St} (h : Agr S0 s) : (evRegion Γ id ops draw s).All (Agr S0) :=
  All.bind (Q := Agr S0) (R := Agr S0) (f := fun s' => .norm { s' with next := s'.next + ops.toList.length }) (fun s hs => next_agr hs (s.next + ops.toList.length)) (fun _ hs => hs) (evOps_all (fun i f hf => by
    cases draw with
    | true => cases hf
    | false => exact hI id i f hf) _ _ _ _ _ _ S0 _ (begin_agr h))
theorem evCode_all (hl : HooksAll Γ) : ∀ (c : Code) (S0 s : St), Agr S0 s → (evCode Γ c s).All (Agr S0)
  | .skip, S0, s, h => h
  | .region _ ops draw, S0, s, h => evRegion_all hl.2 h
  | .seq a b, S0, s, h => All.bind (fun s hs => evCode_all hl b S0 s hs) (fun _ hs => hs) (evCode_all hl a S0 s h)
  | .cond c a b, S0, s, h => by
    cases c with
    | tmp t =>
      simp only [evCode]
      split
      · exact evCode_all hl a S0 s h
      · exact evCode_all hl b S0 s h
      · exact mkBr_all h (evCode_all hl a s _ (agr_slot h t _)) (evCode_all hl b s _ (agr_slot h t _))
      · trivial
    | _ => trivial
  | .block id c, S0, s, h => catch_all (evCode_all hl c S0 s h)
  | .loop c, S0, s, h => by
    simp only [evCode]
    split
    · rename_i f hf
      exact hl.1 _ f hf S0 s h
    · trivial
  | .exit id, S0, s, h => h
  | .ret, S0, s, h => h
  | .rangeFunc .., _, _, _ => trivial
  | .scope _, _, _, _ => trivial
  | .label _, _, _, _ => trivial
  | .goto _, _, _, _ => trivial
  | .refuse _, _, _, _ => trivial
end
end Go.XE
/- Regions in the order of the text. -/
namespace Go.XE
section
variable {P : Program} {G : Nat → Option GV} {Γ : Env} {m : Mem} {s s' : St} {a : Act}

theorem next_put (s : St) (l : Loc) (x : LV) : (s.put l x).next = s.next := by cases l <;> cases x <;> rfl
theorem runR_next {α : Type} : ∀ {mm : M α} {s : St} {p : α × St}, runR mm s = some p → p.2.next = s.next
  | .ret a, s, p, h => by cases h; rfl
  | .get l k, s, p, h => runR_next (mm := k (s.get l)) (s := { s with rd := addLoc l s.rd }) h
  | .put l x k, s, p, h => (runR_next (mm := k) (s := { s.put l x with wr := addLoc l s.wr, dirty := addLoc l s.dirty }) h).trans (next_put s l x)
  | .need c k, s, p, h => by
    cases c with
    | true => exact runR_next (mm := k) h
    | false => cases h
  | .opt d o k, s, p, h => by
    cases o with
    | none => cases h
    | some b => exact runR_next (mm := k b) h
  | .fail, _, _, h => by cases h
/-- A bit, known. -/
theorem kb_le (b : Bool) (d : Nat) (s : St) (h : ∃ p, nthV s.slots d = .dat ⟨.bool, b⟩ p) : s.Le { s with slots := setV s.slots d (.kb b) } := by
  obtain ⟨p, hp⟩ := h
  refine ⟨fun n => ?_, by simp [length_setV], fun _ _ h => h, fun id o h => ⟨o, h, .refl _ _⟩, fun _ _ h => h, fun h => h⟩
  simp only [nthV_setV]
  split
  · rename_i hc
    rw [hc.1, hp]
    exact ⟨fun P m v h => RepV.bool_eq h, fun d' h => by simp [datOf] at h, fun d' q h => by cases h⟩
  · exact .refl _
theorem sharpen_res {gs : List Nat} {dst : Option Nat} {k : St → Out} {l : Leaf} (hk : ∀ B s, Agr B s → (k s).All (Agr B)) (h : (sharpen gs dst s k).res = some l) :
    ∃ s1 l0, (k s1).res = some l0 ∧ LeafLe s.slots.length l0 l ∧ s.Le s1 ∧ s1.next = s.next := by
  have plain : (k s).res = some l → ∃ s1 l0, (k s1).res = some l0 ∧ LeafLe s.slots.length l0 l ∧ s.Le s1 ∧ s1.next = s.next := fun h => ⟨s, l, h, .refl _ _, .refl s, rfl⟩
  unfold sharpen at h
  cases dst with
  | none => exact plain h
  | some d =>
    simp only at h
    cases hd : hasN d gs with
    | false => rw [hd] at h; exact plain h
    | true =>
      simp only [hd, cond_true] at h
      split at h
      · rename_i b p hb
        obtain ⟨l0, h1, h2⟩ := mkBr_res (b := s) (hk s _ (agr_slot (S0 := s) (.refl s) d _)) (hk s _ (agr_slot (S0 := s) (.refl s) d _)) h
        have le : s.Le { s with slots := setV s.slots d (.kb b), dirty := [.slot d], all := false } := (kb_le b d s ⟨p, hb⟩).trans ⟨fun _ => .refl _, Nat.le_refl _, fun _ _ h => h, fun _ o h => ⟨o, h, .refl _ _⟩, fun _ _ h => h, fun h => h⟩
        cases b with
        | true => exact ⟨_, l0, h1, h2, le, rfl⟩
        | false => exact ⟨_, l0, h1, h2, le, rfl⟩
      · exact plain h
/-- What each operation is known to do. -/
def OpsOk (P : Program) (G : Nat → Option GV) (Γ : Env) : Prop := ∀ (o : Oper) (nid : Nat) (m : Mem) (s s' : St) (a : Act) (u : Unit), Rel P G Γ.vars m s a.tmps → ¬ m.U nid → runR (evOp Γ o nid) s = some (u, s') → OpWp P G Γ.vars nid m s' o a
theorem put_size (a : Act) (d : Option Nat) (v : Value) : (a.put d v).tmps.size = a.tmps.size := by cases d <;> simp [Act.put]
theorem put_defers (a : Act) (d : Option Nat) (v : Value) : (a.put d v).defers = a.defers := by cases d <;> rfl
theorem getD_bool {tm : Array Value} {g : Nat} {b : Bool} (h : tm.getD g undef = .bool b) : tm[g]? = some (.bool b) := by
  rw [Array.getD_eq_getD_getElem?] at h
  cases ht : tm[g]? with
  | none => rw [ht] at h; cases h
  | some v => rw [ht] at h; simp at h; rw [h]
theorem yielded_kb {all : List Oper} {tm : Array Value} {j g : Nat} {b : Bool} (hd : dstAt all j = some g) (h : tm.getD g undef = .bool b) : yielded all.toArray tm j = some b := by
  have h1 : ((all.toArray[j]?).bind (·.dst)) = some g := by simpa [dstAt] using hd
  simp only [yielded, h1, Option.bind_some, getD_bool h]
theorem yielded_und {all : List Oper} {tm : Array Value} {j g : Nat} (hd : dstAt all j = some g) (h : tm.getD g undef = undef) : yielded all.toArray tm j = none := by
  have h1 : ((all.toArray[j]?).bind (·.dst)) = some g := by simpa [dstAt] using hd
  simp only [yielded, h1, Option.bind_some]
  cases ht : tm[g]? with
  | none => rfl
  | some v =>
    rw [Array.getD_eq_getD_getElem?, ht] at h
    simp at h
    rw [h]
    rfl
/-- A call that is entered in place. -/
def InlOk (P : Program) (G : Nat → Option GV) (Γ : Env) (h : Nat → Oper → St → Out) : Prop := ∀ (i : Nat) (o : Oper) (m : Mem) (s : St) (a : Act) (leaf : Leaf), Rel P G Γ.vars m s a.tmps → (∀ id, m.U id → id < s.next + i) → (h i o s).res = some leaf →
  ∃ s', leaf = .norm s' ∧ ∀ (K : Act → World → Prop) (Q : Exit → Act → World → Prop), (∀ v m', Rel P G Γ.vars m' s' (a.put o.dst v).tmps → Fr m m' → (∀ id, m'.U id → id < s'.next + (i + 1)) → K (a.put o.dst v) m'.w) → o.wp P a m.w K Q
theorem evOps_text (H : OpsOk P G Γ) {inls : Nat → Option (Nat → Oper → St → Out)} (hI : ∀ i h, inls i = some h → InlOk P G Γ h ∧ InlAll h) {all : List Oper} {gs : List Nat} {chk : List Tr → Bool} {Q : Exit → Act → World → Prop} : ∀ (l : List Oper) (i : Nat) (trs : List Tr) (s : St) (m : Mem) (a : Act) (leaf : Leaf), all.drop i = l → Rel P G Γ.vars m s a.tmps →
    (∀ id, m.U id → id < s.next + i) → (evOps Γ all gs chk inls l i trs s).res = some leaf →
    (∀ (a' : Act) (m' : Mem) (s'' : St), leaf = .norm s'' → Rel P G Γ.vars m' s'' a'.tmps → Fr m m' → (∀ id, m'.U id → id < s''.next + i + l.length) → a'.tmps.size = a.tmps.size → a'.defers = a.defers → Q .normal a' m'.w) →
    wpOps P all.toArray Q (List.range' i l.length) a m.w
  | [], i, trs, s, m, a, leaf, hdrop, r, hU, h, hQ => by
    replace h : (cond (chk trs) (Out.norm s) .bad).res = some leaf := h
    cases hc : chk trs with
    | false => rw [hc] at h; cases h
    | true =>
      rw [hc] at h
      cases h
      exact hQ a m s rfl r (.refl m) (fun id h => by have := hU id h; simpa using this) rfl rfl
  | o :: rest, i, trs, s, m, a, leaf, hdrop, r, hU, h, hQ => by
    have hget : all.toArray[i]? = some o := by
      have : (all.drop i)[0]? = some o := by rw [hdrop]; rfl
      simpa using this
    have hdrop' : all.drop (i + 1) = rest := by
      rw [← List.drop_drop, hdrop]; rfl
    have hI' : ∀ i h, inls i = some h → InlAll h := fun i h e => (hI i h e).2
    have run : ∀ (rd : List Loc), Region.wanted o (yielded all.toArray a.tmps) = true → (match inls i with
      | some h => (h i o s).bind fun s' => sharpen gs o.dst s' (evOps Γ all gs chk inls rest (i + 1) (trs ++ [([], [])]))
      | none => runM (evOp Γ o (s.next + i)) { s with rd := rd, wr := [] } fun _ s' => sharpen gs o.dst s' (evOps Γ all gs chk inls rest (i + 1) (trs ++ [(s'.rd, dstWr o.dst s'.wr)])) : Out).res = some leaf →
        wpOps P all.toArray Q (List.range' i (o :: rest).length) a m.w := fun rd hw h => by
      cases hi : inls i with
      | some f =>
        rw [hi] at h
        simp only [res_bind] at h
        cases hr : (f i o s).res with
        | none => rw [hr] at h; cases h
        | some lf =>
          rw [hr] at h
          obtain ⟨s1, rfl, hop⟩ := (hI i f hi).1 i o m s a lf r hU hr
          replace h : (sharpen gs o.dst s1 (evOps Γ all gs chk inls rest (i + 1) (trs ++ [([], [])]))).res = some leaf := h
          obtain ⟨s2, l0, g1, g2, g3, g4⟩ := sharpen_res (fun B s hB => evOps_all hI' all gs chk rest _ _ B s hB) h
          simp only [List.length_cons, List.range'_succ, wpOps, hget, hw, if_true]
          refine .inl (hop _ Q fun v m' r' f' hU' => ?_)
          refine evOps_text H hI rest (i + 1) _ s2 m' (a.put o.dst v) l0 hdrop' (r'.le g3) (fun id hid => by rw [g4]; exact hU' id hid) g1 fun a2 m2 s3 e3 r3 f3 hU3 hs3 hd3 => ?_
          subst e3
          cases g2 with
          | norm hle =>
            refine hQ a2 m2 _ rfl (r3.stLe hle (by rw [hs3]; exact r'.len)) (f'.trans f3) (fun id hid => ?_) (hs3.trans (put_size a _ v)) (hd3.trans (put_defers a _ v))
            have h1 := hU3 id hid
            have h2 := hle.next
            simp only [List.length_cons]
            omega
      | none =>
        rw [hi] at h
        simp only [res_runM] at h
        cases hr : runR (evOp Γ o (s.next + i)) { s with rd := rd, wr := [] } with
        | none => rw [hr] at h; cases h
        | some p =>
          obtain ⟨u, s1⟩ := p
          rw [hr] at h
          replace h : (sharpen gs o.dst s1 (evOps Γ all gs chk inls rest (i + 1) (trs ++ [(s1.rd, dstWr o.dst s1.wr)]))).res = some leaf := h
          obtain ⟨s2, l0, g1, g2, g3, g4⟩ := sharpen_res (fun B s hB => evOps_all hI' all gs chk rest _ _ B s hB) h
          have hn : s1.next = s.next := runR_next hr
          have hop := H o (s.next + i) m { s with rd := rd, wr := [] } s1 a u (r.same ⟨rfl, rfl, rfl, rfl, rfl⟩) (fun hu => by have := hU _ hu; omega) hr
          simp only [List.length_cons, List.range'_succ, wpOps, hget, hw, if_true]
          refine .inl (hop _ Q fun v m' r' f' hU' => ?_)
          refine evOps_text H hI rest (i + 1) _ s2 m' (a.put o.dst v) l0 hdrop' (r'.le g3) (fun id hid => ?_) g1 fun a2 m2 s3 e3 r3 f3 hU3 hs3 hd3 => ?_
          · rcases hU' id hid with h1 | h1
            · have := hU id h1; omega
            · omega
          · subst e3
            cases g2 with
            | norm hle =>
              refine hQ a2 m2 _ rfl (r3.stLe hle (by rw [hs3]; exact r'.len)) (f'.trans f3) (fun id hid => ?_) (hs3.trans (put_size a _ v)) (hd3.trans (put_defers a _ v))
              have h1 := hU3 id hid
              have h2 := hle.next
              simp only [List.length_cons]
              omega
    have skip : ∀ (g : Nat), Region.wanted o (yielded all.toArray a.tmps) = false → (match o.dst with
          | some d => cond (Nat.testBit Γ.vars d) .bad (evOps Γ all gs chk inls rest (i + 1) (trs ++ [([.slot g], [.slot d, .stip d])]) { s with slots := setV s.slots d .und, stips := setT s.stips d [], dirty := addLoc (.slot d) (addLoc (.stip d) s.dirty) })
          | none => evOps Γ all gs chk inls rest (i + 1) (trs ++ [([.slot g], [])]) s : Out).res = some leaf → wpOps P all.toArray Q (List.range' i (o :: rest).length) a m.w := fun g hw h => by
      simp only [List.length_cons, List.range'_succ, wpOps, hget, hw, Bool.false_eq_true, if_false]
      cases hd : o.dst with
      | none =>
        simp only [hd] at h
        refine evOps_text H hI rest (i + 1) _ s m (a.put none undef) leaf hdrop' r (fun id hid => by have := hU id hid; omega) h fun a2 m2 s3 e3 r3 f3 hU3 hs3 hd3 => ?_
        exact hQ a2 m2 s3 e3 r3 f3 (fun id hid => by have := hU3 id hid; simp only [List.length_cons]; omega) hs3 hd3
      | some d =>
        simp only [hd] at h
        cases hb : Nat.testBit Γ.vars d with
        | true => rw [hb] at h; cases h
        | false =>
          simp only [hb, cond_false] at h
          have r' : Rel P G Γ.vars m { s with slots := setV s.slots d .und, stips := setT s.stips d [], dirty := addLoc (.slot d) (addLoc (.stip d) s.dirty) } (a.put (some d) undef).tmps :=
            (r.setSlot (n := d) (V := .und) (ts := []) (v := undef) rfl (fun D hD => by cases hD) (fun _ D p e => by cases e) (fun _ => hb)).same ⟨rfl, rfl, rfl, rfl, rfl⟩
          refine evOps_text H hI rest (i + 1) _ _ m (a.put (some d) undef) leaf hdrop' r' (fun id hid => by have := hU id hid; show id < s.next + _; omega) h fun a2 m2 s3 e3 r3 f3 hU3 hs3 hd3 => ?_
          exact hQ a2 m2 s3 e3 r3 f3 (fun id hid => by have := hU3 id hid; simp only [List.length_cons]; omega) (hs3.trans (put_size a _ _)) (hd3.trans (put_defers a _ _))
    simp only [evOps] at h
    cases hg : o.guard with
    | none =>
      simp only [hg] at h
      exact run [] (by simp [Region.wanted, hg]) h
    | some jw =>
      obtain ⟨j, want⟩ := jw
      simp only [hg] at h
      cases hd : dstAt all j with
      | none => simp only [hd] at h; cases h
      | some g =>
        simp only [hd] at h
        have hs := r.slots g
        cases hV : nthV s.slots g with
        | kb b =>
          simp only [hV] at h
          rw [hV] at hs
          have hy := yielded_kb hd (show a.tmps.getD g undef = .bool b from hs)
          cases hq : bEq b want with
          | true =>
            rw [hq] at h
            exact run [.slot g] (by cases b <;> cases want <;> simp_all [Region.wanted, bEq]) h
          | false =>
            rw [hq] at h
            exact skip g (by cases b <;> cases want <;> simp_all [Region.wanted, bEq]) h
        | und =>
          simp only [hV] at h
          rw [hV] at hs
          have hy := yielded_und hd (show a.tmps.getD g undef = undef from hs)
          exact skip g (by simp [Region.wanted, hg, hy]) h
        | _ => simp only [hV] at h; cases h
theorem begin_le {s : St} (hf : s.fresh = false) : s.LeJ { s with slots := stripVs s.slots, fresh := false } := ⟨fun n => by
    show VLe0 _ (nthV (stripVs s.slots) n)
    rw [nthV_strip]
    exact strip_le (strip_strip _).symm, fun _ _ h => h, fun _ o h => ⟨o, h, .refl _ _⟩, fun _ _ h => h, rfl⟩
theorem begin_rel {vars : Nat} {tm : Array Value} (r : Rel P G vars m s tm) : Rel P G vars m s.begin tm := by
  unfold St.begin
  cases hf : s.fresh with
  | true => exact r
  | false =>
    have r1 := r.leJ (begin_le hf) (by show (stripVs s.slots).length ≤ _; rw [length_strip]; exact r.len)
    refine { r1 with prov := fun _ n d p hp => ?_ }
    replace hp : nthV (stripVs s.slots) n = .dat d (some p) := hp
    rw [nthV_strip] at hp
    cases hV : nthV s.slots n <;> rw [hV] at hp <;> cases hp
theorem begin_next (s : St) : s.begin.next = s.next := by unfold St.begin; cases s.fresh <;> rfl
theorem region_text (H : OpsOk P G Γ) (hI : ∀ id i h, Γ.inls id i = some h → InlOk P G Γ h ∧ InlAll h) {id : Nat} {ops : Array Oper} {Q : Exit → Act → World → Prop} {leaf : Leaf} (r : Rel P G Γ.vars m s a.tmps) (hU : ∀ id, m.U id → id < s.next) (h : (evRegion Γ id ops false s).res = some leaf)
    (hQ : ∀ (a' : Act) (m' : Mem) (s'' : St), leaf = .norm s'' → Rel P G Γ.vars m' s'' a'.tmps → Fr m m' → (∀ id, m'.U id → id < s''.next) → a'.tmps.size = a.tmps.size → a'.defers = a.defers → Q .normal a' m'.w) :
    (Code.region id ops false).wp P Q a m.w := by
  unfold evRegion at h
  simp only [res_bind, cond_false] at h
  cases he : (evOps Γ ops.toList (guardsOf ops.toList ops.toList) (fun _ => true) (Γ.inls id) ops.toList 0 [] s.begin).res with
  | none => rw [he] at h; cases h
  | some l0 =>
    rw [he] at h
    refine wp_region ?_
    have := evOps_text (Q := Q) H (hI id) ops.toList 0 [] s.begin m a l0 rfl (begin_rel r) (fun id hid => by rw [begin_next]; exact hU id hid) he fun a' m' s'' e r' f hU' hs hd => by
      subst e
      cases h
      exact hQ a' m' _ rfl (r'.same ⟨rfl, rfl, rfl, rfl, rfl⟩) f (fun id hid => by have := hU' id hid; show id < s''.next + _; omega) hs hd
    rwa [List.range_eq_range', ← Array.length_toList]
end
end Go.XE
