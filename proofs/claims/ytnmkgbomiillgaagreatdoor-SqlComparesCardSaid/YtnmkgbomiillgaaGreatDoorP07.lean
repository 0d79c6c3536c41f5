/- Part 7 of the proof. -/
import Derived.Test.YtnmkgbomiillgaaGreatDoorP06
/- Calls: the state at a function's entry. -/
namespace Go.XE
section
variable {P : Program} {G : Nat → Option GV} {Γ : Env} {m : Mem} {s s' : St} {a : Act}

/-- What an operation must do: in the words of 'Oper.wp'. -/
def OpWp (P : Program) (G : Nat → Option GV) (vars nid : Nat) (m : Mem) (s' : St) (o : Oper) (a : Act) : Prop :=
  ∀ (K : Act → World → Prop) (Q : Exit → Act → World → Prop),
    (∀ v m', Rel P G vars m' s' (a.put o.dst v).tmps → Fr m m' → (∀ id, m'.U id → m.U id ∨ id = nid) → K (a.put o.dst v) m'.w) → o.wp P a m.w K Q
theorem Goes.wp {vars nid : Nat} {o : Oper} (h : Goes P G vars nid m s' o a) : OpWp P G vars nid m s' o a := fun K Q hK => by
  obtain ⟨n, v, m', h1, h2, h3, h4, h5⟩ := h
  unfold Oper.wp
  rw [h1]
  rcases h2 with rfl | ⟨rfl, rfl⟩
  · exact hK v m' h3 h4 h5
  · exact hK undef m' h3 h4 h5
/-- The entries of a shape: slot, value, tips. -/
def entries : (l : List (Nat × SK)) → slotsH l → List (Nat × V × List Nat)
  | [], _ => []
  | (n, .dat T ts) :: r, x => (n, .dat ⟨T, x.1⟩ none, ts) :: entries r x.2
  | (n, .rp T) :: r, x => (n, .rp ⟨T, x.1⟩, []) :: entries r x.2
  | (n, .pv T) :: r, x => (n, .pv ⟨T, x.1⟩, []) :: entries r x.2
  | (n, .bp i p T) :: r, x => (n, .bp i p T, []) :: entries r x
  | (n, .own i) :: r, x => (n, .own i, []) :: entries r x
  | (n, .fun1 A R) :: r, x => (n, .fun1 A R x.1, []) :: entries r x.2
  | (n, .fnb f cs) :: r, x => (n, .fn f (bpsV cs), []) :: entries r x
def setVs : List (Nat × V × List Nat) → List V → List V
  | [], v => v
  | (n, V, _) :: r, v => setV (setVs r v) n V
def setTs : List (Nat × V × List Nat) → List (List Nat) → List (List Nat)
  | [], v => v
  | (n, _, ts) :: r, v => setT (setTs r v) n ts
theorem fillV_eq : ∀ (l : List (Nat × SK)) (x : slotsH l) (v : List V), fillV l x v = setVs (entries l x) v
  | [], _, _ => rfl
  | (_, .dat _ _) :: r, x, v => by simp only [fillV, entries, setVs, fillV_eq r x.2 v]
  | (_, .rp _) :: r, x, v => by simp only [fillV, entries, setVs, fillV_eq r x.2 v]
  | (_, .pv _) :: r, x, v => by simp only [fillV, entries, setVs, fillV_eq r x.2 v]
  | (_, .bp _ _ _) :: r, x, v => by simp only [fillV, entries, setVs]; rw [fillV_eq r x v]
  | (_, .own _) :: r, x, v => by simp only [fillV, entries, setVs]; rw [fillV_eq r x v]
  | (_, .fun1 _ _) :: r, x, v => by simp only [fillV, entries, setVs, fillV_eq r x.2 v]
  | (_, .fnb _ _) :: r, x, v => by simp only [fillV, entries, setVs]; rw [fillV_eq r x v]
theorem fillT_eq : ∀ (l : List (Nat × SK)) (x : slotsH l) (v : List (List Nat)), fillTips l v = setTs (entries l x) v
  | [], _, _ => rfl
  | (_, .dat _ _) :: r, x, v => by simp only [fillTips, entries, setTs, SK.tips, fillT_eq r x.2 v]
  | (_, .rp _) :: r, x, v => by simp only [fillTips, entries, setTs, SK.tips, fillT_eq r x.2 v]
  | (_, .pv _) :: r, x, v => by simp only [fillTips, entries, setTs, SK.tips, fillT_eq r x.2 v]
  | (_, .bp _ _ _) :: r, x, v => by simp only [fillTips, entries, setTs, SK.tips]; rw [fillT_eq r x v]
  | (_, .own _) :: r, x, v => by simp only [fillTips, entries, setTs, SK.tips]; rw [fillT_eq r x v]
  | (_, .fun1 _ _) :: r, x, v => by simp only [fillTips, entries, setTs, SK.tips, fillT_eq r x.2 v]
  | (_, .fnb _ _) :: r, x, v => by simp only [fillTips, entries, setTs, SK.tips]; rw [fillT_eq r x v]
theorem length_setT : ∀ (l : List (List Nat)) (n : Nat) (x : List Nat), (setT l n x).length = l.length
  | [], _, _ => rfl
  | _ :: _, 0, _ => rfl
  | v :: r, n + 1, x => by simp [setT, length_setT r n x]
theorem length_setVs : ∀ (l : List (Nat × V × List Nat)) (v : List V), (setVs l v).length = v.length
  | [], _ => rfl
  | (n, V, ts) :: r, v => by simp only [setVs, length_setV, length_setVs r v]
theorem length_setTs : ∀ (l : List (Nat × V × List Nat)) (v : List (List Nat)), (setTs l v).length = v.length
  | [], _ => rfl
  | (n, V, ts) :: r, v => by simp only [setTs, length_setT, length_setTs r v]
theorem nth_set : ∀ (l : List (Nat × V × List Nat)) (v : List V) (t : List (List Nat)), v.length = t.length → ∀ n, (∃ V ts, (n, V, ts) ∈ l ∧ nthV (setVs l v) n = V ∧ nthT (setTs l t) n = ts) ∨ (nthV (setVs l v) n = nthV v n ∧ nthT (setTs l t) n = nthT t n)
  | [], v, t, _, n => .inr ⟨rfl, rfl⟩
  | (k, W, us) :: r, v, t, hl, n => by
    simp only [setVs, setTs, nthV_setV, nthT_setT, length_setVs, length_setTs, hl]
    by_cases h : n = k ∧ k < t.length
    · simp only [if_pos h]
      exact .inl ⟨W, us, by rw [h.1]; exact List.mem_cons_self, rfl, rfl⟩
    · simp only [if_neg h]
      rcases nth_set r v t hl n with ⟨V, ts, h1, h2, h3⟩ | h1
      · exact .inl ⟨V, ts, List.mem_cons_of_mem _ h1, h2, h3⟩
      · exact .inr h1
theorem nthV_replicate (n k : Nat) : nthV (List.replicate n .bot) k = .bot := by
  induction n generalizing k with
  | zero => rfl
  | succ n ih =>
    cases k with
    | zero => rfl
    | succ k => exact ih k
/-- The entries of objects. -/
def objEntries : (l : List (Nat × OK)) → den (objsX l) → List (Nat × Obj × List Nat)
  | [], _ => []
  | (i, .box T ts) :: r, x => (i, .box ⟨T, x.1⟩, ts) :: objEntries r x.2
  | (i, .vrp T) :: r, x => (i, .vrp ⟨T, x.1⟩, []) :: objEntries r x.2
  | (i, .vbp j q T) :: r, x => (i, .vbp j q T, []) :: objEntries r x
  | (i, .arr e) :: r, x => (i, .arr e x.1 false, []) :: objEntries r x.2
theorem look_fill : ∀ (l : List (Nat × OK)) (x : den (objsX l)) (id : Nat), (∃ o ts, (id, o, ts) ∈ objEntries l x ∧ lookObj id (fillObjs l x) = some o ∧ lookT id (fillOT l) = ts) ∨ (lookObj id (fillObjs l x) = none ∧ lookT id (fillOT l) = [])
  | [], _, _ => .inr ⟨rfl, rfl⟩
  | (i, .box T ts) :: r, x, id => by
    simp only [fillObjs, fillOT, lookObj, lookT, objEntries, OK.tips]
    cases h : Nat.beq i id with
    | true => have := Nat.eq_of_beq_eq_true h; subst this; exact .inl ⟨_, _, List.mem_cons_self, rfl, rfl⟩
    | false =>
      rcases look_fill r x.2 id with ⟨o, us, h1, h2⟩ | h1
      · exact .inl ⟨o, us, List.mem_cons_of_mem _ h1, h2⟩
      · exact .inr h1
  | (i, .vrp T) :: r, x, id => by
    simp only [fillObjs, fillOT, lookObj, lookT, objEntries, OK.tips]
    cases h : Nat.beq i id with
    | true => have := Nat.eq_of_beq_eq_true h; subst this; exact .inl ⟨_, _, List.mem_cons_self, rfl, rfl⟩
    | false =>
      rcases look_fill r x.2 id with ⟨o, us, h1, h2⟩ | h1
      · exact .inl ⟨o, us, List.mem_cons_of_mem _ h1, h2⟩
      · exact .inr h1
  | (i, .vbp j q T) :: r, x, id => by
    simp only [fillObjs, fillOT, lookObj, lookT, objEntries, OK.tips]
    cases h : Nat.beq i id with
    | true => have := Nat.eq_of_beq_eq_true h; subst this; exact .inl ⟨_, _, List.mem_cons_self, rfl, rfl⟩
    | false =>
      rcases look_fill r x id with ⟨o, us, h1, h2⟩ | h1
      · exact .inl ⟨o, us, List.mem_cons_of_mem _ h1, h2⟩
      · exact .inr h1
  | (i, .arr e) :: r, x, id => by
    simp only [fillObjs, fillOT, lookObj, lookT, objEntries, OK.tips]
    cases h : Nat.beq i id with
    | true => have := Nat.eq_of_beq_eq_true h; subst this; exact .inl ⟨_, _, List.mem_cons_self, rfl, rfl⟩
    | false =>
      rcases look_fill r x.2 id with ⟨o, us, h1, h2⟩ | h1
      · exact .inl ⟨o, us, List.mem_cons_of_mem _ h1, h2⟩
      · exact .inr h1
/-- A state of a given shape holds if its entries do. -/
theorem rel_st {vars : Nat} {tm : Array Value} {k : Skel} {x : k.H} (bC : ∀ b j, m.C b j → b < m.w.heap.size) (bK : ∀ b j, m.K b j → b < m.w.heap.size) (bL : ∀ b, m.L b ≠ .no → b < m.w.heap.size) (glob : ∀ g d, G g = some d → GAt m d g)
    (len : k.ntmps ≤ tm.size) (hs : ∀ n V ts, (n, V, ts) ∈ entries k.slots x.1 → RV P m V (tm.getD n undef) ∧ ∀ d, datOf V = some d → TipsAt m (.ts n) d.T (tcells (tm.getD n undef)) ts)
    (ho : ∀ id o ts, (id, o, ts) ∈ objEntries k.objs x.2 → m.U id ∧ ObjOk m id o ∧ ∀ d, o = .box d → ∀ off, off ∈ ts → ∀ e, tipTy d.T off = some e → ∃ v, m.w.cell? ⟨(m.ad id).b, (m.ad id).o + off, none⟩ = some v ∧ TipAt m (.to id off) e v) :
    Rel P G vars m (k.st x) tm where
  bC := bC
  bK := bK
  bL := bL
  glob := glob
  len := by
    show (fillV k.slots x.1 _).length ≤ _
    rw [fillV_eq, length_setVs]
    simpa using len
  slots n := by
    show RV P m (nthV (fillV k.slots x.1 _) n) _
    rw [fillV_eq]
    rcases nth_set (entries k.slots x.1) (List.replicate k.ntmps .bot) (List.replicate k.ntmps []) (by simp) n with ⟨V, ts, h1, h2, _⟩ | ⟨h1, _⟩
    · rw [h2]; exact (hs n V ts h1).1
    · rw [h1, nthV_replicate]; trivial
  stips n d hd := by
    replace hd : datOf (nthV (fillV k.slots x.1 _) n) = some d := hd
    show TipsAt m _ _ _ (nthT (fillTips k.slots _) n)
    rw [fillV_eq] at hd
    rw [fillT_eq k.slots x.1]
    rcases nth_set (entries k.slots x.1) (List.replicate k.ntmps .bot) (List.replicate k.ntmps []) (by simp) n with ⟨V, ts, h1, h2, h3⟩ | ⟨h1, _⟩
    · rw [h2] at hd; rw [h3]; exact (hs n V ts h1).2 d hd
    · rw [h1, nthV_replicate] at hd; cases hd
  objs id o h := by
    replace h : lookObj id (fillObjs k.objs x.2) = some o := h
    rcases look_fill k.objs x.2 id with ⟨o', ts, h1, h2, _⟩ | ⟨h1, _⟩
    · rw [h2] at h; cases h; exact ⟨(ho id _ ts h1).1, (ho id _ ts h1).2.1⟩
    · rw [h1] at h; cases h
  otips id d h off hoff e he := by
    replace h : lookObj id (fillObjs k.objs x.2) = some (.box d) := h
    replace hoff : off ∈ lookT id (fillOT k.objs) := hoff
    rcases look_fill k.objs x.2 id with ⟨o', ts, h1, h2, h3⟩ | ⟨h1, _⟩
    · rw [h2] at h; cases h; rw [h3] at hoff; exact (ho id _ ts h1).2.2 d rfl off hoff e he
    · rw [h1] at h; cases h
  prov hf := by cases hf
/-! ### A state read in a shape -/
/-- Numbers of objects from n on may be given again. -/
def Mem.shrink (m : Mem) (n : Nat) : Mem := { m with U := fun id => m.U id ∧ id < n }
theorem RV0.shrink {n : Nat} : ∀ {V : V} {v : Value}, RV0 P m V v → (∀ i p T, V = .bp i p T → i < n) → (∀ i, V = .own i → i < n) → (∀ i k p T, V ≠ .ep i k p T) → RV0 P (m.shrink n) V v
  | .bot, _, h, _, _, _ => h
  | .und, _, h, _, _, _ => h
  | .nilsl, _, h, _, _, _ => h
  | .kb _, _, h, _, _, _ => h
  | .dat _ _, _, h, _, _, _ => h
  | .rp _, _, h, _, _, _ => h
  | .pv _, _, h, _, _, _ => h
  | .bp i p T, _, h, h1, _, _ => ⟨⟨h.1, h1 i p T rfl⟩, h.2⟩
  | .ep i k p T, _, _, _, _, h3 => absurd rfl (h3 i k p T)
  | .own i, _, h, _, h2, _ => ⟨⟨h.1, h2 i rfl⟩, h.2⟩
  | .fn _ _, _, h, _, _, _ => h
  | .fun1 _ _ _, _, h, _, _, _ => h
  | .tup _, _, h, _, _, _ => h
theorem bps_ok {nx : Nat} : ∀ {cs : List (Nat × List Nat × Ty)} {vs : List XE.V} {ws : List Value}, bpsEq cs vs = true → (cs.all fun c => Nat.blt c.1 nx) = true → (∀ i, RV0 P m (nthV vs i) (ws.getD i undef)) →
    vs.length = (bpsV cs).length ∧ ∀ i, RV0 P (m.shrink nx) (nthV (bpsV cs) i) (ws.getD i undef)
  | [], [], ws, _, _, _ => ⟨rfl, fun i => by simp [bpsV, nthV]; trivial⟩
  | (i0, p, T) :: cs, v :: vs, ws, h, hi, hw => by
    cases v with
    | bp j q U =>
      simp only [bpsEq, Bool.and_eq_true] at h
      simp only [List.all_cons, Bool.and_eq_true, Nat.blt_eq] at hi
      obtain ⟨⟨⟨h1, h2⟩, h3⟩, h4⟩ := h
      cases ht : tyEq U T with
      | none => rw [ht] at h1; cases h1
      | some e =>
        obtain ⟨e⟩ := e
        subst e
        have e2 := Nat.eq_of_beq_eq_true h2
        have e3 := beqNats_eq h3
        subst e2
        subst e3
        have hw' : ∀ i, RV0 P m (nthV vs i) ((ws.drop 1).getD i undef) := fun i => by
          have := hw (i + 1)
          simp only [nthV] at this
          rwa [List.getD_eq_getElem?_getD, List.getElem?_drop, Nat.add_comm, ← List.getD_eq_getElem?_getD]
        obtain ⟨k1, k2⟩ := bps_ok h4 (by simpa [Nat.blt_eq] using hi.2) hw'
        refine ⟨by simp [bpsV, k1], fun i => ?_⟩
        cases i with
        | zero =>
          have h0 := hw 0
          exact RV0.shrink (P := P) (V := .bp i0 p U) h0 (fun i' p' T' e => by cases e; exact hi.1) (fun _ e => by cases e) (fun _ _ _ _ e => by cases e)
        | succ i =>
          have := k2 i
          rwa [List.getD_eq_getElem?_getD, List.getElem?_drop, Nat.add_comm, ← List.getD_eq_getElem?_getD] at this
    | _ => simp [bpsEq] at h
  | [], _ :: _, _, h, _, _ => by simp [bpsEq] at h
  | _ :: _, [], _, h, _, _ => by simp [bpsEq] at h
theorem headSlots_ok {vars : Nat} {tm : Array Value} (r : Rel P G vars m s tm) {nx : Nat} : ∀ {l : List (Nat × SK)} {x : slotsH l}, headSlots s l = some x → (l.all fun p => p.2.idOk nx) = true →
    ∀ n V ts, (n, V, ts) ∈ entries l x → RV P (m.shrink nx) V (tm.getD n undef) ∧ ∀ d, datOf V = some d → TipsAt m (.ts n) d.T (tcells (tm.getD n undef)) ts
  | [], _, _, _, n, V, ts, h => by cases h
  | (k, .dat T us) :: l, x, h, ok, n, V, ts, hm => by
    simp only [List.all_cons, Bool.and_eq_true] at ok
    have hs := r.slots k
    have ht := r.stips k
    simp only [headSlots] at h
    split at h
    · rename_i d p y hV hy
      split at h
      · rename_i z hz
        cases hc : us.all (hasN · (nthT s.stips k)) with
        | false => rw [hc] at h; cases h
        | true =>
          rw [hc] at h
          cases h
          rcases List.mem_cons.1 hm with he | hm
          · cases he
            have := as_eq hz
            subst this
            rw [hV] at hs ht
            refine ⟨hs, fun d hd off hoff e he => ?_⟩
            simp [datOf] at hd
            subst hd
            exact ht _ rfl off (hasN_mem.1 (List.all_eq_true.1 hc off hoff)) e he
          · exact headSlots_ok r hy ok.2 n V ts hm
      · cases h
    · rename_i b y hV hy
      split at h
      · rename_i z hz
        cases hc : us.isEmpty with
        | false => rw [hc] at h; cases h
        | true =>
          rw [hc] at h
          cases h
          rcases List.mem_cons.1 hm with he | hm
          · cases he
            have := as_eq hz
            have hT : T = .bool := by have := congrArg D.T this; exact this.symm
            subst hT
            have hz' : b = z := by simpa using this
            subst hz'
            rw [hV] at hs
            have hv : tm.getD k undef = .bool b := hs
            refine ⟨?_, fun d hd off hoff e he => ?_⟩
            · show RepV _ _ _ _ _
              rw [hv]; exact RepV.bool b
            · rw [List.isEmpty_iff.1 hc] at hoff; cases hoff
          · exact headSlots_ok r hy ok.2 n V ts hm
      · cases h
    · cases h
  | (k, .rp T) :: l, x, h, ok, n, V, ts, hm => by
    simp only [List.all_cons, Bool.and_eq_true] at ok
    have hs := r.slots k
    simp only [headSlots] at h
    split at h
    · rename_i d y hV hy
      split at h
      · rename_i z hz
        cases h
        rcases List.mem_cons.1 hm with he | hm
        · cases he
          have := as_eq hz
          subst this
          rw [hV] at hs
          exact ⟨hs, fun d hd => by cases hd⟩
        · exact headSlots_ok r hy ok.2 n V ts hm
      · cases h
    · cases h
  | (k, .pv T) :: l, x, h, ok, n, V, ts, hm => by
    simp only [List.all_cons, Bool.and_eq_true] at ok
    have hs := r.slots k
    simp only [headSlots] at h
    split at h
    · rename_i d y hV hy
      split at h
      · rename_i z hz
        cases h
        rcases List.mem_cons.1 hm with he | hm
        · cases he
          have := as_eq hz
          subst this
          rw [hV] at hs
          exact ⟨hs, fun d hd => by cases hd⟩
        · exact headSlots_ok r hy ok.2 n V ts hm
      · cases h
    · cases h
  | (k, .bp i p T) :: l, x, h, ok, n, V, ts, hm => by
    simp only [List.all_cons, Bool.and_eq_true] at ok
    have hs := r.slots k
    simp only [headSlots] at h
    split at h
    · rename_i j q U hV
      split at h
      · rename_i e _
        obtain ⟨e⟩ := e
        subst e
        cases hc : (Nat.beq i j && beqNats p q) with
        | false => rw [hc] at h; cases h
        | true =>
          rw [hc] at h
          simp only [Bool.and_eq_true] at hc
          have e1 := Nat.eq_of_beq_eq_true hc.1
          have e2 := beqNats_eq hc.2
          subst e1
          subst e2
          rcases List.mem_cons.1 hm with he | hm
          · cases he
            rw [hV] at hs
            exact ⟨RV0.shrink (P := P) (V := .bp i p U) hs (fun i' p' T' e => by cases e; simpa [SK.idOk, Nat.blt_eq] using ok.1) (fun _ e => by cases e) (fun _ _ _ _ e => by cases e), fun d hd => by cases hd⟩
          · exact headSlots_ok r h ok.2 n V ts hm
      · cases h
    · cases h
  | (k, .own i) :: l, x, h, ok, n, V, ts, hm => by
    simp only [List.all_cons, Bool.and_eq_true] at ok
    have hs := r.slots k
    simp only [headSlots] at h
    split at h
    · rename_i j hV
      cases hc : Nat.beq i j with
      | false => rw [hc] at h; cases h
      | true =>
        rw [hc] at h
        have e1 := Nat.eq_of_beq_eq_true hc
        subst e1
        rcases List.mem_cons.1 hm with he | hm
        · cases he
          rw [hV] at hs
          exact ⟨RV0.shrink (P := P) (V := .own i) hs (fun _ _ _ e => by cases e) (fun i' e => by cases e; simpa [SK.idOk, Nat.blt_eq] using ok.1) (fun _ _ _ _ e => by cases e), fun d hd => by cases hd⟩
        · exact headSlots_ok r h ok.2 n V ts hm
    · cases h
  | (k, .fun1 A R) :: l, x, h, ok, n, V, ts, hm => by
    simp only [List.all_cons, Bool.and_eq_true] at ok
    have hs := r.slots k
    simp only [headSlots] at h
    split at h
    · rename_i A' R' g y hV hy
      split at h
      · rename_i e1 e2 _ _
        subst e1
        subst e2
        cases h
        rcases List.mem_cons.1 hm with he | hm
        · cases he
          rw [hV] at hs
          exact ⟨hs, fun d hd => by cases hd⟩
        · exact headSlots_ok r hy ok.2 n V ts hm
      · cases h
    · cases h
  | (k, .fnb f cs) :: l, x, h, ok, n, V, ts, hm => by
    simp only [List.all_cons, Bool.and_eq_true] at ok
    have hs := r.slots k
    simp only [headSlots] at h
    split at h
    · rename_i g vs hV
      cases hc : (Nat.beq f g && bpsEq cs vs) with
      | false => rw [hc] at h; cases h
      | true =>
        rw [hc] at h
        simp only [Bool.and_eq_true] at hc
        have e1 := Nat.eq_of_beq_eq_true hc.1
        subst e1
        rcases List.mem_cons.1 hm with he | hm
        · cases he
          rw [hV] at hs
          obtain ⟨ws, h1, h2, h3⟩ := hs
          obtain ⟨k1, k2⟩ := bps_ok hc.2 ok.1 h3
          exact ⟨⟨ws, h1, h2.trans k1, k2⟩, fun d hd => by cases hd⟩
        · exact headSlots_ok r h ok.2 n V ts hm
    · cases h
theorem ObjOk.shrink {id n : Nat} : ∀ {o : Obj}, ObjOk m id o → (∀ j p T, o = .vbp j p T → j < n) → ObjOk (m.shrink n) id o
  | .box _, h, _ => h
  | .vrp _, h, _ => h
  | .vbp j p T, h, hj => by
    obtain ⟨h1, h2, u, h3, h4, h5⟩ := h
    exact ⟨h1, h2, u, h3, ⟨h4, hj j p T rfl⟩, h5⟩
  | .arr _ _ _, h, _ => h
theorem loadObjs_ok {vars : Nat} {tm : Array Value} (r : Rel P G vars m s tm) {nx : Nat} : ∀ {l : List (Nat × OK)} {x : den (objsX l)}, loadObjs s l = some x → (l.all fun p => Nat.blt p.1 nx && p.2.idOk nx) = true →
    ∀ id o ts, (id, o, ts) ∈ objEntries l x → (m.shrink nx).U id ∧ ObjOk (m.shrink nx) id o ∧ ∀ d, o = .box d → ∀ off, off ∈ ts → ∀ e, tipTy d.T off = some e → ∃ v, m.w.cell? ⟨(m.ad id).b, (m.ad id).o + off, none⟩ = some v ∧ TipAt m (.to id off) e v
  | [], _, _, _, n, V, ts, h => by cases h
  | (k, .box T us) :: l, x, h, ok, id, o, ts, hm => by
    simp only [List.all_cons, Bool.and_eq_true, Nat.blt_eq] at ok
    simp only [loadObjs] at h
    split at h
    · rename_i d y hV hy
      split at h
      · rename_i z hz
        cases hc : us.all (hasN · (lookT k s.otips)) with
        | false => rw [hc] at h; cases h
        | true =>
          rw [hc] at h
          cases h
          rcases List.mem_cons.1 hm with he | hm
          · cases he
            have := as_eq hz
            subst this
            have ho := r.objs k _ hV
            refine ⟨⟨ho.1, ok.1.1⟩, ho.2.shrink fun _ _ _ e => (by cases e), fun d hd off hoff e he => ?_⟩
            cases hd
            exact r.otips k _ hV off (hasN_mem.1 (List.all_eq_true.1 hc off hoff)) e he
          · exact loadObjs_ok r hy (by simpa [Nat.blt_eq] using ok.2) id o ts hm
      · cases h
    · cases h
  | (k, .vrp T) :: l, x, h, ok, id, o, ts, hm => by
    simp only [List.all_cons, Bool.and_eq_true, Nat.blt_eq] at ok
    simp only [loadObjs] at h
    split at h
    · rename_i d y hV hy
      split at h
      · rename_i z hz
        cases h
        rcases List.mem_cons.1 hm with he | hm
        · cases he
          have := as_eq hz
          subst this
          have ho := r.objs k _ hV
          exact ⟨⟨ho.1, ok.1.1⟩, ho.2.shrink fun _ _ _ e => (by cases e), fun d hd => by cases hd⟩
        · exact loadObjs_ok r hy (by simpa [Nat.blt_eq] using ok.2) id o ts hm
      · cases h
    · cases h
  | (k, .vbp j q T) :: l, x, h, ok, id, o, ts, hm => by
    simp only [List.all_cons, Bool.and_eq_true, Nat.blt_eq] at ok
    simp only [loadObjs] at h
    split at h
    · rename_i j' q' U hV
      split at h
      · rename_i e _
        obtain ⟨e⟩ := e
        subst e
        cases hc : (Nat.beq j j' && beqNats q q') with
        | false => rw [hc] at h; cases h
        | true =>
          rw [hc] at h
          simp only [Bool.and_eq_true] at hc
          have e1 := Nat.eq_of_beq_eq_true hc.1
          have e2 := beqNats_eq hc.2
          subst e1
          subst e2
          rcases List.mem_cons.1 hm with he | hm
          · cases he
            have ho := r.objs k _ hV
            exact ⟨⟨ho.1, ok.1.1⟩, ho.2.shrink fun _ _ _ e => (by cases e; simpa [OK.idOk, Nat.blt_eq] using ok.1.2), fun d hd => by cases hd⟩
          · exact loadObjs_ok r h (by simpa [Nat.blt_eq] using ok.2) id o ts hm
      · cases h
    · cases h
  | (k, .arr e) :: l, x, h, ok, id, o, ts, hm => by
    simp only [List.all_cons, Bool.and_eq_true, Nat.blt_eq] at ok
    simp only [loadObjs] at h
    split at h
    · rename_i e' xs y hV hy
      split at h
      · rename_i z hz
        cases h
        rcases List.mem_cons.1 hm with he | hm
        · cases he
          have h1 := as_eq hz
          have hT : e' = e := by have := congrArg D.T h1; simpa using this
          subst hT
          have hx : xs = z := by simpa using h1
          subst hx
          have ho := r.objs k _ hV
          exact ⟨⟨ho.1, ok.1.1⟩, ho.2.shrink fun _ _ _ e => (by cases e), fun d hd => by cases hd⟩
        · exact loadObjs_ok r hy (by simpa [Nat.blt_eq] using ok.2) id o ts hm
      · cases h
    · cases h
/-- A state that has been read in a shape. -/
theorem load_rel {vars : Nat} {tm : Array Value} (r : Rel P G vars m s tm) {k : Skel} {x : k.H} (h : k.load s = some x) : Rel P G vars (m.shrink k.next) (k.st x) tm := by
  unfold Skel.load at h
  cases hc : (k.idsOk && Nat.ble k.ntmps s.slots.length) with
  | false => rw [hc] at h; cases h
  | true =>
    rw [hc] at h
    simp only [Bool.and_eq_true, Nat.ble_eq, Skel.idsOk] at hc
    simp only [cond_true] at h
    split at h
    · rename_i y z hy hz
      cases h
      refine rel_st r.bC r.bK r.bL r.glob (Nat.le_trans hc.2 r.len) (headSlots_ok r hy hc.1.1) fun id o ts hm => ?_
      exact loadObjs_ok r hz (by simpa [Nat.blt_eq] using hc.1.2) id o ts hm
    · cases h
end
end Go.XE
/- Outcomes, resolved; joins. -/
namespace Go.XE

inductive Leaf : Type 1 where
  | norm (s : St)
  | ext (id : Nat) (s : St)
  | ret (s : St)
def Leaf.st : Leaf → St
  | .norm s => s
  | .ext _ s => s
  | .ret s => s
def Out.res : Out → Option Leaf
  | .norm s => some (.norm s)
  | .ext i s => some (.ext i s)
  | .ret s => some (.ret s)
  | .br c t e => cond c t.res e.res
  | .need c o => cond c o.res none
  | .opt _ o k => o.bind fun b => (k b).res
  | .bad => none
def Leaf.then (f : St → Out) : Leaf → Option Leaf
  | .norm s => (f s).res
  | l => some l
theorem res_bind (f : St → Out) : ∀ o : Out, (o.bind f).res = o.res.bind (Leaf.then f)
  | .norm s => rfl
  | .ext i s => rfl
  | .ret s => rfl
  | .br c t e => by cases c <;> simp [Out.bind, Out.res, res_bind f t, res_bind f e]
  | .need c o => by cases c <;> simp [Out.bind, Out.res, res_bind f o]
  | .opt d o k => by cases o <;> simp [Out.bind, Out.res, res_bind f]
  | .bad => rfl
theorem res_runM {α : Type} (k : α → St → Out) : ∀ (m : M α) (s : St), (runM m s k).res = (runR m s).bind fun p => (k p.1 p.2).res
  | .ret a, s => rfl
  | .get l m, s => res_runM k (m (s.get l)) _
  | .put l x m, s => res_runM k m _
  | .need c m, s => by cases c <;> simp [runM, Out.res, runR, res_runM k m s]
  | .opt d o m, s => by cases o <;> simp [runM, Out.res, runR, res_runM k]
  | .fail, s => rfl
/-- All leaves. -/
def Out.All (Q : St → Prop) : Out → Prop
  | .norm s => Q s
  | .ext _ s => Q s
  | .ret s => Q s
  | .br _ t e => t.All Q ∧ e.All Q
  | .need _ o => o.All Q
  | .opt _ _ k => ∀ b, (k b).All Q
  | .bad => True
theorem All.res {Q : St → Prop} : ∀ {o : Out} {l : Leaf}, o.All Q → o.res = some l → Q l.st
  | .norm s, l, h, e => by cases e; exact h
  | .ext i s, l, h, e => by cases e; exact h
  | .ret s, l, h, e => by cases e; exact h
  | .br c t f, l, h, e => by
    cases c with
    | true => exact All.res (o := t) h.1 e
    | false => exact All.res (o := f) h.2 e
  | .need c o, l, h, e => by
    cases c with
    | true => exact All.res (o := o) h e
    | false => cases e
  | .opt d o k, l, h, e => by
    cases o with
    | none => cases e
    | some b => exact All.res (o := k b) (h b) e
  | .bad, l, h, e => by cases e
theorem All.mono {Q R : St → Prop} (hqr : ∀ s, Q s → R s) : ∀ {o : Out}, o.All Q → o.All R
  | .norm s, h => hqr s h
  | .ext i s, h => hqr s h
  | .ret s, h => hqr s h
  | .br c t f, h => ⟨All.mono hqr h.1, All.mono hqr h.2⟩
  | .need c o, h => All.mono hqr (o := o) h
  | .opt d o k, h => fun b => All.mono hqr (h b)
  | .bad, _ => trivial
theorem All.bind {Q R : St → Prop} {f : St → Out} (hf : ∀ s, Q s → (f s).All R) (hqr : ∀ s, Q s → R s) : ∀ {o : Out}, o.All Q → (o.bind f).All R
  | .norm s, h => hf s h
  | .ext i s, h => hqr s h
  | .ret s, h => hqr s h
  | .br c t e, h => ⟨All.bind hf hqr h.1, All.bind hf hqr h.2⟩
  | .need c o, h => All.bind hf hqr (o := o) h
  | .opt d o k, h => fun b => All.bind hf hqr (h b)
  | .bad, _ => trivial
theorem All.runM {α : Type} {Q R : St → Prop} {k : α → St → Out} (hk : ∀ a s, Q s → (k a s).All R) (hget : ∀ s l, Q s → Q { s with rd := addLoc l s.rd }) (hput : ∀ s l x, Q s → Q { s.put l x with wr := addLoc l s.wr, dirty := addLoc l s.dirty }) :
    ∀ {m : M α} {s : St}, Q s → (XE.runM m s k).All R
  | .ret a, s, h => hk a s h
  | .get l m, s, h => All.runM hk hget hput (m := m (s.get l)) (hget s l h)
  | .put l x m, s, h => All.runM hk hget hput (m := m) (hput s l x h)
  | .need c m, s, h => All.runM hk hget hput (m := m) h
  | .opt d o m, s, h => fun b => All.runM hk hget hput (m := m b) h
  | .fail, _, _ => trivial

/-! ### What has not been written is as it was -/
def EqAt (s0 s : St) : Loc → Prop
  | .slot n => stripV (nthV s.slots n) = stripV (nthV s0.slots n)
  | .stip n => nthT s.stips n = nthT s0.stips n
  | .obj i => lookObj i s.objs = lookObj i s0.objs
  | .otip i => lookT i s.otips = lookT i s0.otips
  | .fresh => True
structure Agr (s0 s : St) : Prop where
  len : s.slots.length ≤ s0.slots.length
  eq : s.all = true ∨ ∀ l, hasLoc l s.dirty = false → EqAt s0 s l
theorem loc_beq {l k : Loc} : l.beq k = true ↔ l = k := by
  cases l <;> cases k <;> simp [Loc.beq]
theorem hasLoc_add {l k : Loc} {r : List Loc} : hasLoc l (addLoc k r) = false ↔ hasLoc l r = false ∧ k ≠ l := by
  unfold addLoc
  cases h : hasLoc k r with
  | true =>
    simp only [cond_true]
    constructor
    · intro h1
      exact ⟨h1, fun e => by subst e; rw [h] at h1; cases h1⟩
    · exact fun h => h.1
  | false =>
    simp only [cond_false, hasLoc, Bool.or_eq_false_iff]
    constructor
    · rintro ⟨h1, h2⟩
      exact ⟨h2, fun e => by rw [loc_beq.2 e] at h1; cases h1⟩
    · rintro ⟨h1, h2⟩
      refine ⟨?_, h1⟩
      cases hb : k.beq l with
      | false => rfl
      | true => exact absurd (loc_beq.1 hb) h2
theorem hasLoc_adds {l : Loc} : ∀ {q r : List Loc}, hasLoc l (addLocs q r) = false ↔ hasLoc l q = false ∧ hasLoc l r = false
  | [], r => by simp [addLocs, hasLoc]
  | k :: q, r => by
    simp only [addLocs, hasLoc_adds (q := q), hasLoc_add, hasLoc, Bool.or_eq_false_iff]
    constructor
    · rintro ⟨h1, h2, h3⟩
      refine ⟨⟨?_, h1⟩, h2⟩
      cases hb : k.beq l with
      | false => rfl
      | true => exact absurd (loc_beq.1 hb) h3
    · rintro ⟨⟨h1, h2⟩, h3⟩
      exact ⟨h2, h3, fun e => by rw [loc_beq.2 e] at h1; cases h1⟩
theorem Agr.refl (s : St) : Agr s s := ⟨Nat.le_refl _, .inr fun l _ => by cases l <;> first | rfl | trivial⟩
theorem eqAt_put {s : St} {l k : Loc} {x : LV} (h : l ≠ k) : EqAt s (s.put l x) k := by
  cases l <;> cases x <;> cases k <;> first
    | rfl
    | trivial
    | (simp only [EqAt, St.put, nthV_setV]; rw [if_neg (fun e => h (by rw [e.1]))])
    | (simp only [EqAt, St.put, nthT_setT]; rw [if_neg (fun e => h (by rw [e.1]))])
    | (simp only [EqAt, St.put, lookObj_setObj]; rw [if_neg (fun e => h (by rw [e]))])
    | (simp only [EqAt, St.put, lookT_setTips]; rw [if_neg (fun e => h (by rw [e]))])
theorem len_put (s : St) (l : Loc) (x : LV) : (s.put l x).slots.length = s.slots.length := by
  cases l <;> cases x <;> first | rfl | exact length_setV _ _ _
theorem EqAt.trans {a b c : St} {l : Loc} (h : EqAt a b l) (k : EqAt b c l) : EqAt a c l := by
  cases l <;> first | exact Eq.trans k h | trivial
theorem all_put (s : St) (l : Loc) (x : LV) : (s.put l x).all = s.all ∧ (s.put l x).dirty = s.dirty := by
  cases l <;> cases x <;> exact ⟨rfl, rfl⟩
theorem Agr.put {s0 s : St} (h : Agr s0 s) (l : Loc) (x : LV) : Agr s0 { s.put l x with wr := addLoc l s.wr, dirty := addLoc l s.dirty } := by
  refine ⟨by show (s.put l x).slots.length ≤ _; rw [len_put]; exact h.len, ?_⟩
  rcases h.eq with ha | he
  · exact .inl (by show (s.put l x).all = true; rw [(all_put s l x).1]; exact ha)
  · refine .inr fun k hk => ?_
    obtain ⟨h1, h2⟩ := hasLoc_add.1 hk
    have h3 : EqAt s (s.put l x) k := eqAt_put h2
    have h4 := (he k h1).trans h3
    cases k <;> exact h4
end Go.XE
/- Joins: the joined state tells nothing that the way taken does not. -/
namespace Go.XE

structure VLe0 (V V' : XE.V) : Prop where
  rv : ∀ P m v, RV P m V v → RV P m V' v
  dat : ∀ d', datOf V' = some d' → datOf V = some d' ∨ noSl d'.T = true
theorem VLe.zero {V V' : XE.V} (h : VLe V V') : VLe0 V V' := ⟨h.rv, h.dat⟩
structure St.LeJ (s s' : St) : Prop where
  slots : ∀ n, VLe0 (nthV s.slots n) (nthV s'.slots n)
  stips : ∀ n off, off ∈ nthT s'.stips n → off ∈ nthT s.stips n
  objs : ∀ id o', lookObj id s'.objs = some o' → ∃ o, lookObj id s.objs = some o ∧ OLe id o o'
  otips : ∀ id off, off ∈ lookT id s'.otips → off ∈ lookT id s.otips
  fresh : s'.fresh = false
theorem Rel.leJ {P : Program} {G : Nat → Option GV} {vars : Nat} {m : Mem} {s s' : St} {tm : Array Value} (r : Rel P G vars m s tm) (h : s.LeJ s') (hlen : s'.slots.length ≤ tm.size) : Rel P G vars m s' tm where
  bC := r.bC
  bK := r.bK
  bL := r.bL
  glob := r.glob
  len := hlen
  slots n := (h.slots n).rv P m _ (r.slots n)
  stips n d hd off ho e he := by
    rcases (h.slots n).dat d hd with h1 | h1
    · exact r.stips n d h1 off (h.stips n off ho) e he
    · rw [tipTy_noSl h1] at he; cases he
  objs id o' ho' := by
    obtain ⟨o, h1, h2⟩ := h.objs id o' ho'
    exact ⟨(r.objs id o h1).1, h2.ok m (r.objs id o h1).2⟩
  otips id d hd off ho e he := by
    obtain ⟨o, h1, h2⟩ := h.objs id _ hd
    rw [h2.box d rfl] at h1
    exact r.otips id d h1 off (h.otips id off ho) e he
  prov hf := by rw [h.fresh] at hf; cases hf

theorem mem_bothN {x : Nat} {t : List Nat} : ∀ {r : List Nat}, x ∈ bothN t r → x ∈ r ∧ x ∈ t
  | [], h => by cases h
  | p :: r, h => by
    simp only [bothN] at h
    cases hp : hasN p t with
    | true =>
      rw [hp] at h
      rcases List.mem_cons.1 h with rfl | h
      · exact ⟨List.mem_cons_self, hasN_mem.1 hp⟩
      · exact ⟨List.mem_cons_of_mem _ (mem_bothN h).1, (mem_bothN h).2⟩
    | false =>
      rw [hp] at h
      exact ⟨List.mem_cons_of_mem _ (mem_bothN h).1, (mem_bothN h).2⟩
theorem arr_set {e : Ty} {xs : List (den e)} {f : Bool} (id : Nat) (g : Bool) : OLe id (.arr e xs f) (.arr e xs (f || g)) :=
  ⟨fun m h => by
    obtain ⟨h1, h2, h3, h4, h5, h6, h7⟩ := h
    refine ⟨h1, h2, h3, h4, h5, fun hf => h6 ?_, h7⟩
    cases f <;> simp_all, fun d h => by cases h⟩
theorem arr_set' {e : Ty} {xs : List (den e)} {f : Bool} (id : Nat) (g : Bool) : OLe id (.arr e xs f) (.arr e xs (g || f)) := by
  rw [Bool.or_comm]; exact arr_set id g
theorem mergeObj_true {id : Nat} {a b : Option Obj} {o : Obj} (h : mergeObj true a b = some o) : ∃ o', a = some o' ∧ OLe id o' o := by
  unfold mergeObj at h
  split at h
  · split at h
    · rename_i d hd
      cases h
      exact ⟨_, rfl, by rw [mergeD_true hd]; exact .refl _ _⟩
    · cases h
  · split at h
    · cases h; exact ⟨_, rfl, arr_set _ _⟩
    · cases h
  · cases h
theorem mergeObj_false {id : Nat} {a b : Option Obj} {o : Obj} (h : mergeObj false a b = some o) : ∃ o', b = some o' ∧ OLe id o' o := by
  unfold mergeObj at h
  split at h
  · split at h
    · rename_i d hd
      cases h
      exact ⟨_, rfl, by rw [mergeD_false hd]; exact .refl _ _⟩
    · cases h
  · split at h
    · rename_i e xs f e' ys g hh _
      subst hh
      cases h; exact ⟨_, rfl, arr_set' _ _⟩
    · cases h
  · cases h
theorem nthV_mergeVs (c : Bool) : ∀ (x y : List V) (n : Nat), nthV (mergeVs c x y) n = .bot ∨ nthV (mergeVs c x y) n = mergeV c (nthV x n) (nthV y n)
  | a :: x, b :: y, 0 => .inr rfl
  | a :: x, b :: y, n + 1 => nthV_mergeVs c x y n
  | [], _, n => .inl (by simp [mergeVs, nthV])
  | _ :: _, [], n => .inl (by simp [mergeVs, nthV])
theorem nthT_bothTs : ∀ (x y : List (List Nat)) (n off : Nat), off ∈ nthT (bothTs x y) n → off ∈ nthT x n ∧ off ∈ nthT y n
  | a :: x, b :: y, 0, off, h => (mem_bothN h).symm
  | a :: x, b :: y, n + 1, off, h => nthT_bothTs x y n off h
  | [], _, n, off, h => by simp [bothTs, nthT] at h
  | _ :: _, [], n, off, h => by simp [bothTs, nthT] at h
theorem look_mergeObjs (c : Bool) (t : List (Nat × Option Obj)) : ∀ (x : List (Nat × Option Obj)) (i : Nat), lookObj i (mergeObjs c t x) = none ∨ lookObj i (mergeObjs c t x) = mergeObj c (lookObj i x) (lookObj i t)
  | [], i => .inl rfl
  | (j, o) :: r, i => by
    simp only [mergeObjs, lookObj]
    cases h : Nat.beq j i with
    | true => have := Nat.eq_of_beq_eq_true h; subst this; exact .inr rfl
    | false => exact look_mergeObjs c t r i
theorem look_bothOs (t : List (Nat × List Nat)) : ∀ (x : List (Nat × List Nat)) (i off : Nat), off ∈ lookT i (bothOs t x) → off ∈ lookT i x ∧ off ∈ lookT i t
  | [], i, off, h => by cases h
  | (j, o) :: r, i, off, h => by
    simp only [bothOs, lookT] at h ⊢
    cases hb : Nat.beq j i with
    | true =>
      rw [hb] at h
      have := Nat.eq_of_beq_eq_true hb
      subst this
      have := mem_bothN h
      exact ⟨this.2, this.1⟩
    | false => rw [hb] at h; exact look_bothOs t r i off h
theorem beq_comm_false {l k : Loc} (h : l ≠ k) : l.beq k = false := by
  cases hb : l.beq k with
  | false => rfl
  | true => exact absurd (loc_beq.1 hb) h
/-- A place of a state, and what a join puts there. -/
theorem joinLocs_slots (c : Bool) (s t : St) : ∀ (d : List Loc) (r : St), (joinLocs c s t d r).slots.length = r.slots.length ∧ ∀ n,
    (hasLoc (.slot n) d = false → nthV (joinLocs c s t d r).slots n = nthV r.slots n) ∧ (hasLoc (.slot n) d = true → n < r.slots.length → nthV (joinLocs c s t d r).slots n = mergeV c (nthV s.slots n) (nthV t.slots n))
  | [], r => ⟨rfl, fun n => ⟨fun _ => rfl, fun h => by cases h⟩⟩
  | l :: q, r => by
    obtain ⟨h1, h2⟩ := joinLocs_slots c s t q (joinLoc c s t l r)
    have hlen : (joinLoc c s t l r).slots.length = r.slots.length := by
      cases l <;> first | rfl | exact length_setV _ _ _
    refine ⟨h1.trans hlen, fun n => ⟨fun hn => ?_, fun hn hlt => ?_⟩⟩
    · simp only [hasLoc, Bool.or_eq_false_iff] at hn
      simp only [joinLocs]
      rw [(h2 n).1 hn.2]
      cases l with
      | slot k =>
        have hk : ¬ n = k := fun e => by subst e; rw [loc_beq.2 rfl] at hn; exact absurd hn.1 (by simp)
        simp only [joinLoc, nthV_setV]
        rw [if_neg (fun h => hk h.1)]
      | _ => rfl
    · simp only [joinLocs]
      cases hq : hasLoc (.slot n) q with
      | true => exact (h2 n).2 hq (by rw [hlen]; exact hlt)
      | false =>
        rw [(h2 n).1 hq]
        simp only [hasLoc, hq, Bool.or_false] at hn
        have := loc_beq.1 hn
        subst this
        simp only [joinLoc, nthV_setV]
        rw [if_pos ⟨trivial, hlt⟩]
theorem joinLocs_stips (c : Bool) (s t : St) : ∀ (d : List Loc) (r : St), (∀ n off, off ∈ nthT (joinLocs c s t d r).stips n → (hasLoc (.stip n) d = false → off ∈ nthT r.stips n) ∧
    (hasLoc (.stip n) d = true → n < r.stips.length → off ∈ nthT s.stips n ∧ off ∈ nthT t.stips n)) ∧ (joinLocs c s t d r).stips.length = r.stips.length
  | [], r => ⟨fun n off h => ⟨fun _ => h, fun h => by cases h⟩, rfl⟩
  | l :: q, r => by
    obtain ⟨h2, h1⟩ := joinLocs_stips c s t q (joinLoc c s t l r)
    have hlen : (joinLoc c s t l r).stips.length = r.stips.length := by
      cases l <;> first | rfl | exact length_setT _ _ _
    refine ⟨fun n off ho => ⟨fun hn => ?_, fun hn hlt => ?_⟩, h1.trans hlen⟩
    · simp only [hasLoc, Bool.or_eq_false_iff] at hn
      have := (h2 n off ho).1 hn.2
      cases l with
      | stip k =>
        have hk : ¬ n = k := fun e => by subst e; rw [loc_beq.2 rfl] at hn; exact absurd hn.1 (by simp)
        simp only [joinLoc, nthT_setT] at this
        rwa [if_neg (fun h => hk h.1)] at this
      | _ => exact this
    · cases hq : hasLoc (.stip n) q with
      | true => exact (h2 n off ho).2 hq (by rw [hlen]; exact hlt)
      | false =>
        have := (h2 n off ho).1 hq
        simp only [hasLoc, hq, Bool.or_false] at hn
        have e := loc_beq.1 hn
        subst e
        simp only [joinLoc, nthT_setT] at this
        rw [if_pos ⟨trivial, hlt⟩] at this
        have := mem_bothN this
        exact ⟨this.2, this.1⟩
theorem joinLocs_objs (c : Bool) (s t : St) : ∀ (d : List Loc) (r : St) (i : Nat), (hasLoc (.obj i) d = false → lookObj i (joinLocs c s t d r).objs = lookObj i r.objs) ∧ (hasLoc (.obj i) d = true → lookObj i (joinLocs c s t d r).objs = mergeObj c (lookObj i s.objs) (lookObj i t.objs))
  | [], r, i => ⟨fun _ => rfl, fun h => by cases h⟩
  | l :: q, r, i => by
    obtain ⟨h1, h2⟩ := joinLocs_objs c s t q (joinLoc c s t l r) i
    refine ⟨fun hn => ?_, fun hn => ?_⟩
    · simp only [hasLoc, Bool.or_eq_false_iff] at hn
      simp only [joinLocs]
      rw [h1 hn.2]
      cases l with
      | obj k =>
        have hk : ¬ i = k := fun e => by subst e; rw [loc_beq.2 rfl] at hn; exact absurd hn.1 (by simp)
        simp only [joinLoc, lookObj_setObj]
        rw [if_neg hk]
      | _ => rfl
    · simp only [joinLocs]
      cases hq : hasLoc (.obj i) q with
      | true => exact h2 hq
      | false =>
        rw [h1 hq]
        simp only [hasLoc, hq, Bool.or_false] at hn
        have := loc_beq.1 hn
        subst this
        simp only [joinLoc, lookObj_setObj]
        rw [if_pos trivial]
theorem joinLocs_otips (c : Bool) (s t : St) : ∀ (d : List Loc) (r : St) (i off : Nat), off ∈ lookT i (joinLocs c s t d r).otips → (hasLoc (.otip i) d = false → off ∈ lookT i r.otips) ∧ (hasLoc (.otip i) d = true → off ∈ lookT i s.otips ∧ off ∈ lookT i t.otips)
  | [], r, i, off, h => ⟨fun _ => h, fun h => by cases h⟩
  | l :: q, r, i, off, h => by
    obtain ⟨h1, h2⟩ := joinLocs_otips c s t q (joinLoc c s t l r) i off h
    refine ⟨fun hn => ?_, fun hn => ?_⟩
    · simp only [hasLoc, Bool.or_eq_false_iff] at hn
      have := h1 hn.2
      cases l with
      | otip k =>
        have hk : ¬ i = k := fun e => by subst e; rw [loc_beq.2 rfl] at hn; exact absurd hn.1 (by simp)
        simp only [joinLoc, lookT_setTips] at this
        rwa [if_neg hk] at this
      | _ => exact this
    · cases hq : hasLoc (.otip i) q with
      | true => exact h2 hq
      | false =>
        have := h1 hq
        simp only [hasLoc, hq, Bool.or_false] at hn
        have e := loc_beq.1 hn
        subst e
        simp only [joinLoc, lookT_setTips] at this
        rw [if_pos trivial] at this
        have := mem_bothN this
        exact ⟨this.2, this.1⟩
theorem strip_le {V W : XE.V} (h : stripV V = stripV W) : VLe0 V W := by
  cases V <;> cases W <;> simp [stripV] at h <;> first | (obtain ⟨rfl⟩ := h; exact ⟨fun _ _ _ h => h, fun _ h => .inl h⟩) | (subst h; exact ⟨fun _ _ _ h => h, fun _ h => .inl h⟩) | (obtain ⟨rfl, rfl⟩ := h; exact ⟨fun _ _ _ h => h, fun _ h => .inl h⟩) | (obtain ⟨rfl, rfl, rfl⟩ := h; exact ⟨fun _ _ _ h => h, fun _ h => .inl h⟩) | (obtain ⟨rfl, rfl, rfl, rfl⟩ := h; exact ⟨fun _ _ _ h => h, fun _ h => .inl h⟩) | exact ⟨fun _ _ _ h => h, fun _ h => .inl h⟩ | skip
/-- The first way taken. -/
theorem joinSt_true {d0 : List Loc} {a0 : Bool} (s t : St) : s.LeJ (joinSt d0 a0 true s t) := by
  unfold joinSt
  cases h : (s.all || t.all) with
  | true =>
    refine ⟨fun n => ?_, fun n off ho => (nthT_bothTs _ _ n off ho).1, fun id o ho => ?_, fun id off ho => (look_bothOs _ _ id off ho).1, rfl⟩
    · rcases nthV_mergeVs true s.slots t.slots n with e | e
      · show VLe0 _ (nthV (mergeVs true s.slots t.slots) n); rw [e]; exact (VLe.bot _).zero
      · show VLe0 _ (nthV (mergeVs true s.slots t.slots) n); rw [e]; exact (merge_true _ _).zero
    · replace ho : lookObj id (mergeObjs true t.objs s.objs) = some o := ho
      rcases look_mergeObjs true t.objs s.objs id with e | e
      · rw [e] at ho; cases ho
      · rw [e] at ho; exact mergeObj_true ho
  | false =>
    obtain ⟨h1, h2⟩ := joinLocs_slots true s t (addLocs s.dirty t.dirty) s
    refine ⟨fun n => ?_, fun n off ho => ?_, fun id o ho => ?_, fun id off ho => ?_, rfl⟩
    · show VLe0 _ (nthV (joinLocs true s t (addLocs s.dirty t.dirty) s).slots n)
      cases hd : hasLoc (.slot n) (addLocs s.dirty t.dirty) with
      | false => rw [(h2 n).1 hd]; exact (VLe.refl _).zero
      | true =>
        by_cases hlt : n < s.slots.length
        · rw [(h2 n).2 hd hlt]; exact (merge_true _ _).zero
        · rw [nthV_of_le (joinLocs true s t (addLocs s.dirty t.dirty) s).slots n (by omega)]; exact (VLe.bot _).zero
    · obtain ⟨g1, g2⟩ := joinLocs_stips true s t (addLocs s.dirty t.dirty) s
      obtain ⟨g3, g4⟩ := g1 n off ho
      cases hd : hasLoc (.stip n) (addLocs s.dirty t.dirty) with
      | false => exact g3 hd
      | true =>
        by_cases hlt : n < s.stips.length
        · exact (g4 hd hlt).1
        · replace ho : off ∈ nthT (joinLocs true s t (addLocs s.dirty t.dirty) s).stips n := ho
          rw [nthT_of_le (joinLocs true s t (addLocs s.dirty t.dirty) s).stips n (by omega)] at ho; cases ho
    · replace ho : lookObj id (joinLocs true s t (addLocs s.dirty t.dirty) s).objs = some o := ho
      obtain ⟨g1, g2⟩ := joinLocs_objs true s t (addLocs s.dirty t.dirty) s id
      cases hd : hasLoc (.obj id) (addLocs s.dirty t.dirty) with
      | false => rw [g1 hd] at ho; exact ⟨o, ho, .refl _ _⟩
      | true => rw [g2 hd] at ho; exact mergeObj_true ho
    · obtain ⟨g1, g2⟩ := joinLocs_otips true s t (addLocs s.dirty t.dirty) s id off ho
      cases hd : hasLoc (.otip id) (addLocs s.dirty t.dirty) with
      | false => exact g1 hd
      | true => exact (g2 hd).1
/-- The second way taken: what neither has written is as it was. -/
theorem joinSt_false {d0 : List Loc} {a0 : Bool} {s0 s t : St} (hs : Agr s0 s) (ht : Agr s0 t) : t.LeJ (joinSt d0 a0 false s t) := by
  unfold joinSt
  cases h : (s.all || t.all) with
  | true =>
    refine ⟨fun n => ?_, fun n off ho => (nthT_bothTs _ _ n off ho).2, fun id o ho => ?_, fun id off ho => (look_bothOs _ _ id off ho).2, rfl⟩
    · rcases nthV_mergeVs false s.slots t.slots n with e | e
      · show VLe0 _ (nthV (mergeVs false s.slots t.slots) n); rw [e]; exact (VLe.bot _).zero
      · show VLe0 _ (nthV (mergeVs false s.slots t.slots) n); rw [e]; exact (merge_false _ _).zero
    · replace ho : lookObj id (mergeObjs false t.objs s.objs) = some o := ho
      rcases look_mergeObjs false t.objs s.objs id with e | e
      · rw [e] at ho; cases ho
      · rw [e] at ho; exact mergeObj_false ho
  | false =>
    simp only [Bool.or_eq_false_iff] at h
    have es := hs.eq.resolve_left (by rw [h.1]; simp)
    have et := ht.eq.resolve_left (by rw [h.2]; simp)
    obtain ⟨h1, h2⟩ := joinLocs_slots false s t (addLocs s.dirty t.dirty) s
    refine ⟨fun n => ?_, fun n off ho => ?_, fun id o ho => ?_, fun id off ho => ?_, rfl⟩
    · show VLe0 _ (nthV (joinLocs false s t (addLocs s.dirty t.dirty) s).slots n)
      cases hd : hasLoc (.slot n) (addLocs s.dirty t.dirty) with
      | false =>
        obtain ⟨d1, d2⟩ := hasLoc_adds.1 hd
        rw [(h2 n).1 hd]
        have e1 : stripV (nthV t.slots n) = stripV (nthV s0.slots n) := et _ d2
        have e2 : stripV (nthV s.slots n) = stripV (nthV s0.slots n) := es _ d1
        exact strip_le (e1.trans e2.symm)
      | true =>
        by_cases hlt : n < s.slots.length
        · rw [(h2 n).2 hd hlt]; exact (merge_false _ _).zero
        · rw [nthV_of_le (joinLocs false s t (addLocs s.dirty t.dirty) s).slots n (by omega)]; exact (VLe.bot _).zero
    · obtain ⟨g1, g2⟩ := joinLocs_stips false s t (addLocs s.dirty t.dirty) s
      obtain ⟨g3, g4⟩ := g1 n off ho
      cases hd : hasLoc (.stip n) (addLocs s.dirty t.dirty) with
      | false =>
        obtain ⟨d1, d2⟩ := hasLoc_adds.1 hd
        have e : nthT t.stips n = nthT s.stips n := Eq.trans (et _ d2) (Eq.symm (es _ d1))
        rw [e]
        exact g3 hd
      | true =>
        by_cases hlt : n < s.stips.length
        · exact (g4 hd hlt).2
        · replace ho : off ∈ nthT (joinLocs false s t (addLocs s.dirty t.dirty) s).stips n := ho
          rw [nthT_of_le (joinLocs false s t (addLocs s.dirty t.dirty) s).stips n (by omega)] at ho; cases ho
    · replace ho : lookObj id (joinLocs false s t (addLocs s.dirty t.dirty) s).objs = some o := ho
      obtain ⟨g1, g2⟩ := joinLocs_objs false s t (addLocs s.dirty t.dirty) s id
      cases hd : hasLoc (.obj id) (addLocs s.dirty t.dirty) with
      | false =>
        obtain ⟨d1, d2⟩ := hasLoc_adds.1 hd
        have e : lookObj id t.objs = lookObj id s.objs := Eq.trans (et _ d2) (Eq.symm (es _ d1))
        rw [g1 hd, ← e] at ho; exact ⟨o, ho, .refl _ _⟩
      | true => rw [g2 hd] at ho; exact mergeObj_false ho
    · obtain ⟨g1, g2⟩ := joinLocs_otips false s t (addLocs s.dirty t.dirty) s id off ho
      cases hd : hasLoc (.otip id) (addLocs s.dirty t.dirty) with
      | false =>
        obtain ⟨d1, d2⟩ := hasLoc_adds.1 hd
        have e : lookT id t.otips = lookT id s.otips := Eq.trans (et _ d2) (Eq.symm (es _ d1))
        rw [e]
        exact g1 hd
      | true => exact (g2 hd).2
end Go.XE
/- Tests: what comes of a joined test comes of the way taken, and tells no more. -/
namespace Go.XE

theorem eqAt_joinLoc {c : Bool} {s t r : St} {k l : Loc} (h : k ≠ l) : EqAt r (joinLoc c s t k r) l := by
  cases k <;> cases l <;> first
    | rfl
    | trivial
    | (simp only [EqAt, joinLoc, nthV_setV]; rw [if_neg (fun e => h (by rw [e.1]))])
    | (simp only [EqAt, joinLoc, nthT_setT]; rw [if_neg (fun e => h (by rw [e.1]))])
    | (simp only [EqAt, joinLoc, lookObj_setObj]; rw [if_neg (fun e => h (by rw [e]))])
    | (simp only [EqAt, joinLoc, lookT_setTips]; rw [if_neg (fun e => h (by rw [e]))])
theorem EqAt.refl (s : St) (l : Loc) : EqAt s s l := by cases l <;> first | rfl | trivial
theorem eqAt_joinLocs {c : Bool} {s t : St} {l : Loc} : ∀ (d : List Loc) (r : St), hasLoc l d = false → EqAt r (joinLocs c s t d r) l
  | [], r, _ => .refl r l
  | k :: q, r, h => by
    simp only [hasLoc, Bool.or_eq_false_iff] at h
    have hk : k ≠ l := fun e => by rw [loc_beq.2 e] at h; exact absurd h.1 (by simp)
    exact (eqAt_joinLoc hk).trans (eqAt_joinLocs q _ h.2)
theorem length_mergeVs (c : Bool) : ∀ x y : List V, (mergeVs c x y).length ≤ x.length
  | a :: x, b :: y => by simpa [mergeVs] using length_mergeVs c x y
  | [], _ => by simp [mergeVs]
  | _ :: _, [] => by simp [mergeVs]
theorem joinSt_len {d0 : List Loc} {a0 c : Bool} (s t : St) : (joinSt d0 a0 c s t).slots.length ≤ s.slots.length := by
  unfold joinSt
  cases (s.all || t.all) with
  | true => exact length_mergeVs c _ _
  | false => exact Nat.le_of_eq (joinLocs_slots c s t (addLocs s.dirty t.dirty) s).1
theorem joinSt_agr {S0 b s t : St} {c : Bool} (hs : Agr b s) (_ht : Agr b t) (hb : Agr S0 b) : Agr S0 (joinSt b.dirty b.all c s t) := by
  refine ⟨Nat.le_trans (joinSt_len s t) (Nat.le_trans hs.len hb.len), ?_⟩
  unfold joinSt
  cases h : (s.all || t.all) with
  | true => exact .inl rfl
  | false =>
    simp only [Bool.or_eq_false_iff] at h
    have es := hs.eq.resolve_left (by rw [h.1]; simp)
    rcases hb.eq with ha | hb
    · exact .inl ha
    · refine .inr fun l hl => ?_
      obtain ⟨h1, h2⟩ := hasLoc_adds.1 hl
      obtain ⟨h3, h4⟩ := hasLoc_adds.1 h1
      have e1 : EqAt s (joinLocs c s t (addLocs s.dirty t.dirty) s) l := eqAt_joinLocs _ _ h1
      have e2 := ((hb l h2).trans (es l h3)).trans e1
      cases l <;> exact e2
theorem join2_all {S0 b s : St} {c : Bool} (hs : Agr b s) (hb : Agr S0 b) : ∀ {e : Out}, e.All (Agr b) → (join2 b.dirty b.all c s e).All (Agr S0)
  | .norm t, h => joinSt_agr hs h hb
  | .need n o, h => join2_all hs hb (e := o) h
  | .opt d o k, h => fun x => join2_all hs hb (h x)
  | .ext _ _, _ => trivial
  | .ret _, _ => trivial
  | .br _ _ _, _ => trivial
  | .bad, _ => trivial
theorem join1_all {S0 b : St} {c : Bool} {e : Out} (he : e.All (Agr b)) (hb : Agr S0 b) : ∀ {t : Out}, t.All (Agr b) → (join1 b.dirty b.all c e t).All (Agr S0)
  | .norm s, h => join2_all h hb he
  | .need n o, h => join1_all he hb (t := o) h
  | .opt d o k, h => fun x => join1_all he hb (h x)
  | .ext _ _, _ => trivial
  | .ret _, _ => trivial
  | .br _ _ _, _ => trivial
  | .bad, _ => trivial
theorem join2_true {d0 : List Loc} {a0 : Bool} {s : St} : ∀ {e : Out} {l : Leaf}, (join2 d0 a0 true s e).res = some l → ∃ t, l = .norm (joinSt d0 a0 true s t)
  | .norm t, l, h => by cases h; exact ⟨t, rfl⟩
  | .need n o, l, h => join2_true (e := o) h
  | .opt d o k, l, h => join2_true (e := k d) h
  | .ext _ _, _, h => by cases h
  | .ret _, _, h => by cases h
  | .br _ _ _, _, h => by cases h
  | .bad, _, h => by cases h
theorem join1_true {d0 : List Loc} {a0 : Bool} {e : Out} : ∀ {t : Out} {l : Leaf}, (join1 d0 a0 true e t).res = some l → ∃ s s', t.res = some (.norm s) ∧ l = .norm s' ∧ s.LeJ s' ∧ s'.slots.length ≤ s.slots.length
  | .norm s, l, h => by
    obtain ⟨t, rfl⟩ := join2_true h
    exact ⟨s, _, rfl, rfl, joinSt_true s t, joinSt_len s t⟩
  | .need n o, l, h => by
    cases n with
    | true => exact join1_true (t := o) h
    | false => cases h
  | .opt d o k, l, h => by
    cases o with
    | none => cases h
    | some b => exact join1_true (t := k b) h
  | .ext _ _, _, h => by cases h
  | .ret _, _, h => by cases h
  | .br _ _ _, _, h => by cases h
  | .bad, _, h => by cases h
theorem join2_false {d0 : List Loc} {a0 : Bool} {b s : St} (hs : Agr b s) : ∀ {e : Out} {l : Leaf}, e.All (Agr b) → (join2 d0 a0 false s e).res = some l → ∃ t s', e.res = some (.norm t) ∧ l = .norm s' ∧ t.LeJ s' ∧ s'.slots.length ≤ b.slots.length
  | .norm t, l, he, h => by cases h; exact ⟨t, _, rfl, rfl, joinSt_false hs he, Nat.le_trans (joinSt_len s t) hs.len⟩
  | .need n o, l, he, h => by
    cases n with
    | true => exact join2_false hs (e := o) he h
    | false => cases h
  | .opt d o k, l, he, h => by
    cases o with
    | none => cases h
    | some x => exact join2_false hs (e := k x) (he x) h
  | .ext _ _, _, _, h => by cases h
  | .ret _, _, _, h => by cases h
  | .br _ _ _, _, _, h => by cases h
  | .bad, _, _, h => by cases h
theorem join1_false {d0 : List Loc} {a0 : Bool} {b : St} {e : Out} (he : e.All (Agr b)) : ∀ {t : Out} {l : Leaf}, t.All (Agr b) → (join1 d0 a0 false e t).res = some l → ∃ s s', e.res = some (.norm s) ∧ l = .norm s' ∧ s.LeJ s' ∧ s'.slots.length ≤ b.slots.length
  | .norm s, l, hs, h => join2_false hs he h
  | .need n o, l, hs, h => join1_false he (t := o) hs h
  | .opt d o k, l, hs, h => join1_false he (t := k d) (hs d) h
  | .ext _ _, _, _, h => by cases h
  | .ret _, _, _, h => by cases h
  | .br _ _ _, _, _, h => by cases h
  | .bad, _, _, h => by cases h
end Go.XE
