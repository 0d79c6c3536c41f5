/- Part 4 of the proof. -/
import Derived.Test.YtnmkgbomiillgaaGreatDoorP03
/- Operations, part D: assignments, picks, loads, addresses. -/
namespace Go.XE
section
variable {P : Program} {G : Nat → Option GV} {Γ : Env} {m : Mem} {s s' : St} {a : Act}

theorem le_stale (s : St) : s.Le { s with fresh := false } := ⟨fun _ => .refl _, Nat.le_refl _, fun _ _ h => h, fun _ o h => ⟨o, h, .refl _ _⟩, fun _ _ h => h, fun h => by cases h⟩
theorem dstA_ok (r : Rel P G Γ.vars m s a.tmps) {o : Oper} {V : V} {ts : List Nat} {v : Value} {u u' : Unit} {s1 : St} (h : runR (dstA o V ts) s = some (u, s1)) (h' : runR (setF false) s1 = some (u', s')) (hv : RV P m V v)
    (ht : ∀ D, datOf V = some D → TipsAt m (.fl 0) D.T (tcells v) ts) :
    ∃ m', m'.w = m.w ∧ Rel P G Γ.vars m' s' (a.put o.dst v).tmps ∧ Fr m m' ∧ m'.U = m.U := by
  have k := setF_inv h'
  have r1 := r.le (le_stale s)
  unfold dstA at h
  rw [put_tmps]
  cases hd : o.dst with
  | none =>
    simp only [hd] at h
    obtain ⟨_, rfl⟩ := ret_inv h
    exact ⟨m, rfl, r1.same k, .refl m, rfl⟩
  | some d =>
    simp only [hd] at h
    have k1 := setS_inv h
    obtain ⟨m', h1, h2, h3, h4⟩ := set_ok r1 (d := d) (ts := ts) hv ht (fun hf => by cases hf) (fun hf => by cases hf)
    exact ⟨m', h1, h2.same ⟨k.slots.trans k1.slots, k.stips.trans k1.stips, k.objs.trans k1.objs, k.otips.trans k1.otips, k.fresh⟩, h3, h4⟩
theorem assign_ok (hΓ : GOk P G Γ) (r : Rel P G Γ.vars m s a.tmps) {o : Oper} {nid : Nat} {x : Operand} (ho : o.op = .assign x) {u : Unit} (h : runR (evOp Γ o nid) s = some (u, s')) : Goes P G Γ.vars nid m s' o a := by
  have hrun : (execOp a.eval o).run P m.w = .ok (.value (a.eval x)) m.w := by simp [execOp, ho]
  have last : ∀ {m1 : Mem} {s1 s2 : St} {V : V} {ts : List Nat} {u : Unit}, Quiet m m1 → Rel P G Γ.vars m1 s1 a.tmps → runR ((dstA o V ts).bind fun _ => setF false) s1 = some (u, s2) → RV P m1 V (a.eval x) →
      (∀ D, datOf V = some D → TipsAt m1 (.fl 0) D.T (tcells (a.eval x)) ts) → Goes P G Γ.vars nid m s2 o a := fun q r1 h hv ht => by
    obtain ⟨_, s9, g1, g2⟩ := bind_inv h
    obtain ⟨m', h1, h2, h3, h4⟩ := dstA_ok r1 g1 g2 hv ht
    exact ⟨_, _, m', by rw [hrun, h1, q.w], .inl rfl, h2, q.fr.trans h3, fun id hid => .inl (by rw [← q.U, ← h4]; exact hid)⟩
  simp only [evOp, ho] at h
  cases hg : o.guard.isNone with
  | false => rw [hg] at h; exact (fail_inv h).elim
  | true =>
    simp only [hg, cond_true] at h
    obtain ⟨V, s1, h1, h2⟩ := bind_inv h
    obtain ⟨k1, k2, k3⟩ := opnd_ok hΓ r h1
    have r1 := r.same k1
    split at h2
    · split at h2
      · rename_i e _
        have hv : a.eval x = .slice none 0 0 := k2
        refine last (.refl m) r1 h2 (V := .dat ⟨.sl e, []⟩ none) (hv ▸ .inr ⟨rfl, none, 0, rfl, Nat.le_refl _, fun _ => rfl, fun a h => by cases h⟩) fun D hD off ho e' he => ?_
        simp [datOf] at hD
        subst hD
        simp at ho
        subst ho
        rw [hv]
        exact ⟨_, rfl, .inl rfl⟩
      · exact (fail_inv h2).elim
    · rename_i d p
      obtain ⟨ts, s2, h3, h4⟩ := bind_inv h2
      obtain ⟨m1, q1, r2, e1, e2, e3, e4, f1⟩ := takeTips_ok r1 h3
      obtain ⟨us, s3, h5, h6⟩ := bind_inv h4
      have hv1 : RV P m1 (.dat d none) (a.eval x) := RV.to q1.fr.to (V := .dat d none) k2
      have keep : us = ts ∨ us = [] → s3 = s2 → Goes P G Γ.vars nid m s' o a := fun hu hs => by
        subst hs
        refine last q1 r2 h6 hv1 fun D hD off hoff e' he => ?_
        simp [datOf] at hD
        subst hD
        rcases hu with rfl | rfl
        · cases x with
          | tmp t => exact f1 t rfl _ (by rw [k1.slots, ← k3 t rfl]; rfl) off hoff e' he
          | const c => simp only [takeTips] at h3; obtain ⟨rfl, _⟩ := ret_inv h3; cases hoff
          | global c => simp only [takeTips] at h3; obtain ⟨rfl, _⟩ := ret_inv h3; cases hoff
          | func c => simp only [takeTips] at h3; obtain ⟨rfl, _⟩ := ret_inv h3; cases hoff
        · cases hoff
      split at h5
      · rename_i t9 _
        cases hc : hasN t9 Γ.res with
        | false => rw [hc] at h5; obtain ⟨e, h7⟩ := ret_inv h5; exact keep (.inr e) h7
        | true =>
          simp only [hc, cond_true] at h5
          cases x with
          | tmp t =>
            have hV : nthV s2.slots t = .dat d p := by rw [e1, k1.slots, ← k3 t rfl]
            obtain ⟨m2, q2, r3, _, _, _, f2⟩ := steal_ok r2 rfl hV h5
            refine last (q1.trans q2) r3 h6 (RV.to q2.fr.to hv1) fun D hD off ho e' he => ?_
            simp [datOf] at hD
            subst hD
            exact f2 off ho e' he
          | const c =>
            have : p = none := by
              simp only [opnd] at h1; obtain ⟨e2, _⟩ := ret_inv h1
              unfold constV at e2; split at e2 <;> cases e2 <;> rfl
            subst this
            obtain ⟨e, h7⟩ := ret_inv h5; exact keep (.inr e) h7
          | global g =>
            simp only [opnd] at h1
            split at h1
            · obtain ⟨e2, _⟩ := ret_inv h1; cases e2
            · exact (fail_inv h1).elim
          | func f => simp only [opnd] at h1; obtain ⟨e2, _⟩ := ret_inv h1; cases e2
      · obtain ⟨e, h7⟩ := ret_inv h5; exact keep (.inl e) h7
    · rename_i b
      have hv : a.eval x = .bool b := k2
      refine last (.refl m) r1 h2 (V := ofB b) (hv ▸ RepV.bool b) fun D hD off ho => by cases ho
    · exact last (.refl m) r1 h2 k2 fun D hD off ho => by cases ho
theorem pick_ok (hΓ : GOk P G Γ) (r : Rel P G Γ.vars m s a.tmps) {o : Oper} {nid : Nat} {c x y : Operand} (ho : o.op = .pick c x y) {u : Unit} (h : runR (evOp Γ o nid) s = some (u, s')) : Goes P G Γ.vars nid m s' o a := by
  have prov : ∀ {s1 s2 : St} {z : Operand} {V : V}, Rel P G Γ.vars m s1 a.tmps → runR (opnd Γ z) s1 = some (V, s2) → s2.fresh = true → ∀ D p, V = .dat D (some p) → ProvOk Γ.vars m s2 D (tcells (a.eval z)) p := fun {s1 s2 z V} r1 h1 hf D p e => by
    obtain ⟨k1, k2, k3⟩ := opnd_ok hΓ r1 h1
    subst e
    cases z with
    | tmp t => exact (r1.same k1).prov hf t D p (by rw [k1.slots, ← k3 t rfl])
    | const c => simp only [opnd] at h1; obtain ⟨e2, _⟩ := ret_inv h1; unfold constV at e2; split at e2 <;> cases e2
    | global g =>
      simp only [opnd] at h1
      split at h1
      · obtain ⟨e2, _⟩ := ret_inv h1; cases e2
      · exact (fail_inv h1).elim
    | func f => simp only [opnd] at h1; obtain ⟨e2, _⟩ := ret_inv h1; cases e2
  simp only [evOp, ho] at h
  obtain ⟨V, s1, h1, h2⟩ := bind_inv h
  obtain ⟨k1, k2, _⟩ := opnd_ok hΓ r h1
  have r1 := r.same k1
  split at h2
  · obtain ⟨W, s2, h3, h4⟩ := bind_inv h2
    obtain ⟨k3, k4, _⟩ := opnd_ok hΓ r1 h3
    have hc : a.eval c = .bool true := k2
    exact fin (.refl m) (fun _ h => .inl h) (r1.same k3) (by simp [execOp, ho, hc, asBool]) h4 k4 noTips (prov r1 h3)
  · obtain ⟨W, s2, h3, h4⟩ := bind_inv h2
    obtain ⟨k3, k4, _⟩ := opnd_ok hΓ r1 h3
    have hc : a.eval c = .bool false := k2
    exact fin (.refl m) (fun _ h => .inl h) (r1.same k3) (by simp [execOp, ho, hc, asBool]) h4 k4 noTips (prov r1 h3)
  · obtain ⟨t, s2, h3, h4⟩ := bind_inv h2
    obtain ⟨rfl, hc⟩ := boolV_ok h3 k2
    obtain ⟨W, s3, h5, h6⟩ := bind_inv h4
    obtain ⟨k3, k4, _⟩ := opnd_ok hΓ r1 h5
    have r2 := r1.same k3
    obtain ⟨Z, s4, h7, h8⟩ := bind_inv h6
    obtain ⟨k5, k6, _⟩ := opnd_ok hΓ r2 h7
    have hn : ∀ D p, mergeV t W Z ≠ .dat D (some p) := fun D p e => by
      unfold mergeV at e
      simp only [cond_eq_ite] at e
      repeat' split at e
      all_goals cases e
    cases t with
    | true => exact fin0 (r2.same k5) (by simp [execOp, ho, hc, asBool]) h8 ((merge_true W Z).rv P m _ k4) hn
    | false => exact fin0 (r2.same k5) (by simp [execOp, ho, hc, asBool]) h8 ((merge_false W Z).rv P m _ k6) hn
/-! ### Loads -/
theorem tipTy_lt : ∀ {T : Ty} {k : Nat} {e : Ty}, tipTy T k = some e → k < T.size
  | .sl _, 0, _, _ => by simp [Ty.size]
  | .sl _, _ + 1, _, h => by simp [tipTy] at h
  | .int _, _, _, h => by simp [tipTy] at h
  | .bool, _, _, h => by simp [tipTy] at h
  | .str, _, _, h => by simp [tipTy] at h
  | .unit, _, _, h => by simp [tipTy] at h
  | .pair a b, k, e, h => by
    simp only [tipTy] at h
    split at h
    · simp [Ty.size]; omega
    · have := tipTy_lt h; simp [Ty.size]; omega
theorem tipTy_field : ∀ {T U : Ty} {j o k : Nat} {e : Ty}, fieldOff T j = some (o, U) → tipTy U k = some e → tipTy T (o + k) = some e
  | .pair a b, U, 0, o, k, e, h, ht => by
    simp [fieldOff] at h
    obtain ⟨rfl, rfl⟩ := h
    have := tipTy_lt ht
    simp [tipTy, this, ht]
  | .pair a b, U, j + 1, o, k, e, h, ht => by
    simp only [fieldOff] at h
    split at h
    · rename_i q t hq
      simp at h
      obtain ⟨rfl, rfl⟩ := h
      have := tipTy_field hq ht
      simp only [tipTy]
      rw [if_neg (by omega), show a.size + q + k - a.size = q + k by omega, this]
    · cases h
  | .int _, _, _, _, _, _, h, _ => by simp [fieldOff] at h
  | .bool, _, _, _, _, _, h, _ => by simp [fieldOff] at h
  | .str, _, _, _, _, _, h, _ => by simp [fieldOff] at h
  | .unit, _, _, _, _, _, h, _ => by simp [fieldOff] at h
  | .sl _, _, _, _, _, _, h, _ => by simp [fieldOff] at h
theorem tipTy_path : ∀ {p : List Nat} {T U : Ty} {o k : Nat} {e : Ty}, pathOff T p = some (o, U) → tipTy U k = some e → tipTy T (o + k) = some e
  | [], T, U, o, k, e, h, ht => by simp [pathOff] at h; obtain ⟨rfl, rfl⟩ := h; simpa using ht
  | j :: r, T, U, o, k, e, h, ht => by
    simp only [pathOff] at h
    split at h
    · rename_i q t hq
      split at h
      · rename_i q2 t2 hq2
        simp at h
        obtain ⟨rfl, rfl⟩ := h
        rw [Nat.add_assoc]
        exact tipTy_field hq (tipTy_path hq2 ht)
      · cases h
    · cases h
theorem cellsAt.sub {w : World} {b o : Nat} {vs : List Value} (h : cellsAt w b o vs) (k n : Nat) : cellsAt w b (o + k) ((vs.drop k).take n) := fun j v hv => by
  rw [List.getElem?_take] at hv
  split at hv
  · rw [List.getElem?_drop] at hv
    have := h (k + j) v hv
    rwa [← Nat.add_assoc] at this
  · cases hv
theorem loadP_ok {vars : Nat} {tm : Array Value} (r : Rel P G vars m s tm) {V : V} {v : Value} {q : D × Option Place} (h : runR (loadP V) s = some (q, s')) (hv : RV P m V v) :
    Same s s' ∧ ∃ b o cs, v = .pointer (some ⟨b, o, none⟩) ∧ cellsAt m.w b o cs ∧ Rep m.w m.C q.1.T q.1.x cs ∧ ∀ p, q.2 = some p → ProvOk vars m s q.1 cs p := by
  cases V with
  | rp d =>
    obtain ⟨rfl, rfl⟩ := ret_inv h
    obtain ⟨ad, rfl, h2, vs, h3, h4, _⟩ := hv
    exact ⟨.refl _, _, _, vs, by rw [← addr_eta h2], h3, h4, fun p hp => by cases hp⟩
  | bp i p T =>
    simp only [loadP] at h
    obtain ⟨ob, s1, h1, h2⟩ := bind_inv h
    obtain ⟨h3, k1⟩ := getO_inv h1
    split at h2
    · rename_i d
      obtain ⟨x, s2, h4, h5⟩ := bind_inv h2
      obtain ⟨h6, rfl⟩ := lift_inv h4
      obtain ⟨z, s3, h7, h8⟩ := bind_inv h5
      obtain ⟨h9, rfl⟩ := lift_inv h7
      obtain ⟨rfl, rfl⟩ := ret_inv h8
      obtain ⟨hu, g1, g2, cur, et, vs, g3, g4, g5, g6, g7⟩ := r.objs i _ h3
      obtain ⟨_, o, g8, rfl⟩ := hv
      obtain ⟨o', g9, g10⟩ := g6.getp h6
      rw [g1, g9] at g8
      simp at g8
      obtain ⟨rfl, rfl⟩ := g8
      rw [g9] at h9
      simp at h9
      subst h9
      refine ⟨k1, _, _, _, rfl, g5.sub _ _, g10, fun p' hp => ?_⟩
      cases hp
      refine ⟨hu, fun off ho h1 h2 e he => ?_⟩
      replace h1 : o' ≤ off := h1
      replace h2 : off < o' + x.T.size := h2
      replace he : tipTy x.T (off - o') = some e := he
      have ht := tipTy_path g9 he
      rw [show o' + (off - o') = off by omega] at ht
      obtain ⟨v, c1, c2⟩ := r.otips i d h3 off ho e ht
      refine ⟨v, ?_, c2⟩
      have hlt : off < vs.length := by have := tipTy_lt ht; rw [g6.len]; exact this
      have c3 := g5 off vs[off] (by simp)
      rw [c1] at c3
      cases c3
      show (List.take x.T.size (List.drop o' vs))[off - o']? = _
      rw [List.getElem?_take, if_pos (by omega), List.getElem?_drop, show o' + (off - o') = off by omega]
      simp
    · exact (fail_inv h2).elim
  | ep i n p T =>
    simp only [loadP] at h
    obtain ⟨ob, s1, h1, h2⟩ := bind_inv h
    obtain ⟨h3, k1⟩ := getO_inv h1
    split at h2
    · rename_i e xs fr
      obtain ⟨x, s2, h4, h5⟩ := bind_inv h2
      obtain ⟨h6, rfl⟩ := lift_inv h4
      obtain ⟨rfl, rfl⟩ := ret_inv h5
      obtain ⟨hu, g1, g2, g3, g4, g5, g6, cur, et, g7, g8, g9⟩ := r.objs i _ h3
      obtain ⟨_, c1, c2, o, c3, rfl⟩ := hv
      rw [g2] at c2
      have hlt : n.toNat < xs.length := by omega
      have hget : xs[n.toNat]? = some (xs.getD n.toNat (dflt e)) := by simp [List.getD, hlt]
      obtain ⟨us, c4, c5⟩ := g9 _ _ hget
      obtain ⟨o', c6, c7⟩ := c5.getp (d := ⟨e, xs.getD n.toNat (dflt e)⟩) h6
      rw [g1, c6] at c3
      simp at c3
      obtain ⟨rfl, rfl⟩ := c3
      refine ⟨k1, _, _, _, rfl, ?_, c7, fun p' hp => by cases hp⟩
      rw [g1]
      exact c4.sub _ _
    · exact (fail_inv h2).elim
  | _ => exact (fail_inv h).elim
theorem chkP_inv (hΓ : GOk P G Γ) {t : TypeId} {u : Unit} (h : runR (chkP Γ t) s = some (u, s')) : (∃ e, P.underlying t = some (.pointer e)) ∧ s' = s := by
  unfold chkP at h
  cases hc : hasN t Γ.pts with
  | false => rw [hc] at h; exact (fail_inv h).elim
  | true => rw [hc] at h; obtain ⟨_, rfl⟩ := ret_inv h; exact ⟨hΓ.pts t hc, rfl⟩
theorem run_loadPtr {t e : TypeId} (ht : P.underlying t = some (.pointer e)) {w : World} {b o : Nat} {u : Value} (hc : w.cell? ⟨b, o, none⟩ = some u) : (loadVar t ⟨b, o, none⟩).run P w = .ok u w := by
  have : (isAgg t).run P w = .ok false w := by
    unfold isAgg
    rw [Sem.run_bind, run_underlying ht w]
    simp
  simp [loadVar, this, load, Sem.run, hc]
theorem load_ok (hΓ : GOk P G Γ) (r : Rel P G Γ.vars m s a.tmps) {o : Oper} {nid : Nat} {t : TypeId} {x : Operand} (ho : o.op = .load t x) {u : Unit} (h : runR (evOp Γ o nid) s = some (u, s')) : Goes P G Γ.vars nid m s' o a := by
  simp only [evOp, ho] at h
  obtain ⟨V, s1, h1, h2⟩ := bind_inv h
  obtain ⟨k1, k2, _⟩ := opnd_ok hΓ r h1
  have r1 := r.same k1
  obtain ⟨W, s2, h3, h4⟩ := bind_inv h2
  have plain : ∀ {V' : XE.V} {s0 : St}, V' = V → Same s1 s0 → runR ((loadP V').bind fun r => (chkT Γ t r.1.T).bind fun _ => M.ret (.dat r.1 r.2)) s0 = some (W, s2) → Goes P G Γ.vars nid m s' o a := fun e hs0 h => by
    subst e
    replace r1 := r1.same hs0
    obtain ⟨⟨q1, q2⟩, s3, g1, g2⟩ := bind_inv h
    obtain ⟨c1, b, off, cs, c2, c3, c4, c5⟩ := loadP_ok r1 g1 k2
    obtain ⟨_, s4, g3, g4⟩ := bind_inv g2
    obtain ⟨c6, rfl⟩ := chkT_inv hΓ g3
    obtain ⟨rfl, rfl⟩ := ret_inv g4
    have hrep := RepV.of c4
    refine fin (.refl m) (fun _ h => .inl h) (r1.same c1) (v := toV q1.T cs) ?_ h4 (V := .dat q1 q2) hrep.1 noTips fun hf D p e => ?_
    · simp [execOp, ho, Instr.loadAt, Instr.sureAddr, c2, run_loadVar c6 c3 c4]
    · cases e
      rw [hrep.2]
      have := c5 p rfl
      cases p with
      | slot k o => exact ⟨this.1, this.2.1, fun off ho => this.2.2 off (by rw [c1.stips] at ho; exact ho)⟩
      | box i o => exact ⟨this.1, fun off ho => this.2 off (by rw [c1.otips] at ho; exact ho)⟩
  have ptr : ∀ {e b off : Nat} {w : Value} {W' : XE.V}, P.underlying t = some (.pointer e) → a.eval x = .pointer (some ⟨b, off, none⟩) → m.w.cell? ⟨b, off, none⟩ = some w → W = W' → (∀ D p, W' ≠ .dat D (some p)) → RV P m W' w →
      Same s1 s2 → Goes P G Γ.vars nid m s' o a := fun {e b off w W'} ht hx hc hW hn hv hs => by
    subst hW
    exact fin0 (r1.same hs) (by simp [execOp, ho, Instr.loadAt, Instr.sureAddr, hx, run_loadPtr ht hc]) h4 hv hn
  cases V with
  | pv d =>
    obtain ⟨_, s3, g1, g2⟩ := bind_inv h3
    obtain ⟨⟨e, ht⟩, rfl⟩ := chkP_inv hΓ g1
    obtain ⟨rfl, rfl⟩ := ret_inv g2
    obtain ⟨ad, w, c1, c2, c3, c4, c5⟩ := k2
    exact ptr ht (by rw [c1, addr_eta c2]) c3 rfl (fun _ _ h => by cases h) c5 (.refl _)
  | bp i p T =>
    cases p with
    | cons j p => exact plain rfl (.refl _) h3
    | nil =>
      simp only [loadV] at h3
      obtain ⟨ob, s3, g1, g2⟩ := bind_inv h3
      obtain ⟨g3, g4⟩ := getO_inv g1
      have ok := r1.objs i ob g3
      obtain ⟨_, off, c1, c2⟩ := k2
      simp [pathOff] at c1
      cases ob with
      | vrp d =>
        obtain ⟨_, s4, g5, g6⟩ := bind_inv g2
        obtain ⟨⟨e, ht⟩, rfl⟩ := chkP_inv hΓ g5
        obtain ⟨rfl, rfl⟩ := ret_inv g6
        obtain ⟨_, _, _, w, c3, c4⟩ := ok
        exact ptr ht (by rw [c2, ← c1.1]; rfl) c3 rfl (fun _ _ h => by cases h) c4 g4
      | vbp j q U =>
        obtain ⟨_, s4, g5, g6⟩ := bind_inv g2
        obtain ⟨⟨e, ht⟩, rfl⟩ := chkP_inv hΓ g5
        obtain ⟨rfl, rfl⟩ := ret_inv g6
        obtain ⟨_, _, _, w, c3, c4⟩ := ok
        exact ptr ht (by rw [c2, ← c1.1]; rfl) c3 rfl (fun _ _ h => by cases h) c4 g4
      | box d => exact plain rfl g4 g2
      | arr e xs fr => exact plain rfl g4 g2
  | _ => exact plain rfl (.refl _) h3
end
end Go.XE
/- Operations, part E: addresses of parts, elements, lengths, cuts, function values. -/
namespace Go.XE
section
variable {P : Program} {G : Nat → Option GV} {Γ : Env} {m : Mem} {s s' : St} {a : Act}

theorem lift_some {β : Type} {o : Option β} {b : β} {s s' : St} (h : runR (liftO o) s = some (b, s')) : o = some b ∧ s' = s := lift_inv h
theorem run_fieldPlace {t : TypeId} {U : Ty} {f : Field} (hs : 0 < U.size) (ht : TyOk P f.type U) (w : World) (b o : Nat) (_h : t = t) : (fieldPlace ⟨b, o, none⟩ f).run P w = .ok ⟨b, o + f.offset, none⟩ w := by
  have : ¬ U.size = 0 := by omega
  simp [fieldPlace, run_sizeOf ht, this, add_mk]
theorem fieldAddr_ok (hΓ : GOk P G Γ) (r : Rel P G Γ.vars m s a.tmps) {o : Oper} {nid : Nat} {t : TypeId} {x : Operand} {j : Nat} (ho : o.op = .fieldAddr t x j) {u : Unit} (h : runR (evOp Γ o nid) s = some (u, s')) : Goes P G Γ.vars nid m s' o a := by
  simp only [evOp, ho] at h
  obtain ⟨V, s1, h1, h2⟩ := bind_inv h
  obtain ⟨k1, k2, k2'⟩ := opnd_ok hΓ r h1
  have r1 := r.same k1
  obtain ⟨W, s2, h3, h4⟩ := bind_inv h2
  have go : ∀ {T U : Ty} {q b off : Nat}, TyOk P t T → fieldOff T j = some (q, U) → a.eval x = .pointer (some ⟨b, off, none⟩) → s2 = s1 → (∀ D p, W ≠ .dat D (some p)) → RV P m W (.pointer (some ⟨b, off + q, none⟩)) → Goes P G Γ.vars nid m s' o a := fun {T U q b off} ht hf hx hs hn hv => by
    subst hs
    obtain ⟨fs, f, g1, g2, g3, g4, g5⟩ := ht.field hf
    subst g3
    have := run_fieldPlace (P := P) (t := t) g4 g5 m.w b off rfl
    exact fin0 r1 (by simp [execOp, ho, Instr.fieldAt, run_underlying g1, g2, hx, Instr.sureAddr, this]) h4 hv hn
  cases V with
  | rp d =>
    simp only [fieldP] at h3
    obtain ⟨_, s3, g1, g2⟩ := bind_inv h3
    obtain ⟨ht, rfl⟩ := chkT_inv hΓ g1
    obtain ⟨e, s4, g3, g4⟩ := bind_inv g2
    obtain ⟨g5, rfl⟩ := lift_inv g3
    obtain ⟨rfl, rfl⟩ := ret_inv g4
    obtain ⟨ad, hx, c2, vs, c3, c4, c5⟩ := k2
    obtain ⟨q, c6, c7⟩ := c4.proj g5
    have hle := fieldOff_le c6
    refine go ht c6 (by rw [hx, addr_eta c2]) rfl (fun _ _ h => by cases h) ⟨_, rfl, rfl, _, c3.sub q _, c7, fun k hk => ?_⟩
    have := c5 (q + k) (by omega)
    rwa [← Nat.add_assoc] at this
  | bp i p T =>
    simp only [fieldP] at h3
    obtain ⟨_, s3, g1, g2⟩ := bind_inv h3
    obtain ⟨ht, rfl⟩ := chkT_inv hΓ g1
    obtain ⟨e, s4, g3, g4⟩ := bind_inv g2
    obtain ⟨g5, rfl⟩ := lift_inv g3
    obtain ⟨rfl, rfl⟩ := ret_inv g4
    obtain ⟨hu, off, c1, hx⟩ := k2
    exact go ht (U := e.2) (q := e.1) g5 hx rfl (fun _ _ h => by cases h) ⟨hu, off + e.1, pathOff_snoc c1 g5, by simp [Nat.add_assoc]⟩
  | ep i n p T =>
    simp only [fieldP] at h3
    obtain ⟨_, s3, g1, g2⟩ := bind_inv h3
    obtain ⟨ht, rfl⟩ := chkT_inv hΓ g1
    obtain ⟨e, s4, g3, g4⟩ := bind_inv g2
    obtain ⟨g5, rfl⟩ := lift_inv g3
    obtain ⟨rfl, rfl⟩ := ret_inv g4
    obtain ⟨hu, c1, c2, off, c3, hx⟩ := k2
    exact go ht (U := e.2) (q := e.1) g5 hx rfl (fun _ _ h => by cases h) ⟨hu, c1, c2, off + e.1, pathOff_snoc c3 g5, by simp [Nat.add_assoc]⟩
  | _ => exact (fail_inv h3).elim
theorem need2 {c d : Bool} {u : Unit} (h : runR (needM (c && d)) s = some (u, s')) : c = true ∧ d = true ∧ s' = s := by
  obtain ⟨h1, h2⟩ := need_inv h
  simp at h1
  exact ⟨h1.1, h1.2, h2⟩
theorem run_indexAt {t et : TypeId} {e : Ty} (hu : P.underlying t = some (.slice et)) (he : TyOk P et e) (w : World) {b off n cap : Nat} {k : IntKind} {i : Int} (h0 : 0 ≤ i) (h1 : i < n) :
    (Instr.indexAt t (.slice (some ⟨b, off, none⟩) n cap) (.int k i)).run P w = .ok (.pointer (some ⟨b, off + i.toNat * e.size, none⟩)) w := by
  simp [Instr.indexAt, asIntOf, run_underlying hu, h0, h1, run_sizeOf he, add_mk]
theorem RepV.sl_inv {w : World} {C : Cells} {e : Ty} {xs : List (den e)} {v : Value} (h : RepV w C (.sl e) xs v) : ∃ p cap, v = .slice p xs.length cap ∧ xs.length ≤ cap ∧ (p = none → cap = 0) ∧
      ∀ ad, p = some ad → (0 < cap → ad.spot = none) ∧ ∀ i y, xs[i]? = some y → ∃ us, cellsAt w ad.block (ad.off + i * e.size) us ∧ (∀ j, j < e.size → C ad.block (ad.off + i * e.size + j)) ∧ Rep w C e y us := by
  rcases h with ⟨h, _⟩ | ⟨_, h⟩
  · cases h
  · obtain ⟨p, cap, h1, h2⟩ := h
    simp at h1
    exact ⟨p, cap, h1, h2⟩
theorem indexAddr_ok (hΓ : GOk P G Γ) (r : Rel P G Γ.vars m s a.tmps) {o : Oper} {nid : Nat} {t : TypeId} {x y : Operand} (ho : o.op = .indexAddr t x y) {u : Unit} (h : runR (evOp Γ o nid) s = some (u, s')) : Goes P G Γ.vars nid m s' o a := by
  simp only [evOp, ho] at h
  obtain ⟨V, s1, h1, h2⟩ := bind_inv h
  obtain ⟨k1, k2, k2'⟩ := opnd_ok hΓ r h1
  have r1 := r.same k1
  obtain ⟨N, s2, h3, h4⟩ := bind_inv h2
  obtain ⟨k3, k4, k4'⟩ := opnd_ok hΓ r1 h3
  have r2 := r1.same k3
  obtain ⟨⟨kd, n⟩, s3, h5, h6⟩ := bind_inv h4
  obtain ⟨rfl, hy⟩ := asIntV_ok h5 k4
  simp only at hy h6
  obtain ⟨W, s4, h7, h8⟩ := bind_inv h6
  unfold indexP at h7
  split at h7
  · rename_i e xs p
    obtain ⟨_, s5, g1, g2⟩ := bind_inv h7
    obtain ⟨ht, rfl⟩ := chkT_inv hΓ g1
    obtain ⟨_, s6, g3, g4⟩ := bind_inv g2
    obtain ⟨c1, c2, rfl⟩ := need2 g3
    obtain ⟨rfl, rfl⟩ := ret_inv g4
    simp only [decide_eq_true_eq] at c1 c2
    obtain ⟨p, cap, c3, c4, c5, c6⟩ := RepV.sl_inv k2
    obtain ⟨et, c7, c8, c9⟩ := ht.2
    cases p with
    | none =>
      have h9 := c5 rfl
      have h8 : List.length (α := den e) xs ≤ cap := c4
      have h7 : n < ((List.length (α := den e) xs : Nat) : Int) := c2
      omega
    | some ad =>
      obtain ⟨d1, d2⟩ := c6 ad rfl
      have hlt : n.toNat < xs.length := by omega
      have hget : xs[n.toNat]? = some (xs.getD n.toNat (dflt e)) := by simp [List.getD, hlt]
      obtain ⟨us, d3, d4, d5⟩ := d2 _ _ hget
      have d1 := d1 (by have h8 : List.length (α := den e) xs ≤ cap := c4; omega)
      rw [addr_eta d1] at c3
      have hrun := run_indexAt (P := P) c7 c9 m.w (b := ad.block) (off := ad.off) (n := xs.length) (cap := cap) (k := kd) c1 c2
      exact fin0 r2 (v := .pointer (some ⟨ad.block, ad.off + n.toNat * e.size, none⟩)) (by simp [execOp, ho, c3, hy, hrun]) h8 (V := .rp ⟨e, xs.getD n.toNat (dflt e)⟩) ⟨_, rfl, rfl, us, d3, d5, fun j hj => .inl (d4 j hj)⟩ fun _ _ h => by cases h
  · rename_i i
    obtain ⟨ob, s5, g1, g2⟩ := bind_inv h7
    obtain ⟨g3, g4⟩ := getO_inv g1
    split at g2
    · rename_i e xs fr
      obtain ⟨_, s6, g5, g6⟩ := bind_inv g2
      obtain ⟨ht, rfl⟩ := chkT_inv hΓ g5
      obtain ⟨_, s7, g7, g8⟩ := bind_inv g6
      obtain ⟨c1, c2, rfl⟩ := need2 g7
      obtain ⟨rfl, rfl⟩ := ret_inv g8
      simp only [decide_eq_true_eq] at c1 c2
      obtain ⟨hu, d1, d2, d3, _⟩ := r2.objs i _ g3
      obtain ⟨_, hx⟩ := k2
      obtain ⟨et, c7, c8, c9⟩ := ht.2
      rw [d2] at hx
      have hrun := run_indexAt (P := P) c7 c9 m.w (b := (m.ad i).b) (off := 0) (n := xs.length) (cap := xs.length) (k := kd) c1 c2
      exact fin0 (r2.same g4) (v := .pointer (some ⟨(m.ad i).b, 0 + n.toNat * e.size, none⟩)) (by simp only [execOp, ho, hx, hy, Sem.run_bind, hrun, Result.andThen_ok, Sem.run_pure]) h8 (V := .ep i n [] e) ⟨hu, c1, by rw [d2]; exact c2, 0, by rw [d1]; rfl, by rw [d1]; simp⟩ fun _ _ h => by cases h
    · exact (fail_inv g2).elim
  · exact (fail_inv h7).elim
theorem index_ok (hΓ : GOk P G Γ) (r : Rel P G Γ.vars m s a.tmps) {o : Oper} {nid : Nat} {t : TypeId} {x y : Operand} (ho : o.op = .index t x y) {u : Unit} (h : runR (evOp Γ o nid) s = some (u, s')) : Goes P G Γ.vars nid m s' o a := by
  simp only [evOp, ho] at h
  obtain ⟨V, s1, h1, h2⟩ := bind_inv h
  obtain ⟨k1, k2, k2'⟩ := opnd_ok hΓ r h1
  have r1 := r.same k1
  obtain ⟨N, s2, h3, h4⟩ := bind_inv h2
  obtain ⟨k3, k4, k4'⟩ := opnd_ok hΓ r1 h3
  have r2 := r1.same k3
  obtain ⟨⟨kd, n⟩, s3, h5, h6⟩ := bind_inv h4
  obtain ⟨rfl, hy⟩ := asIntV_ok h5 k4
  simp only at hy h6
  split at h6
  · rename_i xs p
    obtain ⟨_, s5, g1, g2⟩ := bind_inv h6
    obtain ⟨ht, rfl⟩ := chkT_inv hΓ g1
    obtain ⟨_, s6, g3, g4⟩ := bind_inv g2
    obtain ⟨c1, c2, rfl⟩ := need2 g3
    simp only [decide_eq_true_eq] at c1 c2
    have hx : a.eval x = .string ⟨xs.toArray⟩ := RepV.str_eq k2
    have hrun := run_index_string (P := P) m.w t ⟨xs.toArray⟩ kd n ht.2
    have hs : (0 ≤ n ∧ n < ((⟨xs.toArray⟩ : ByteArray).size : Int)) := ⟨c1, by simpa [ByteArray.size_mk'] using c2⟩
    rw [dif_pos hs] at hrun
    refine fin0 r2 (v := .int .u8 (((List.getD (α := UInt8) xs n.toNat 0).toNat : Nat) : Int)) ?_ g4 (V := ofD ⟨.int .u8, ((List.getD (α := UInt8) xs n.toNat 0).toNat : Int)⟩) (RepV.int _ _) fun _ _ h => by cases h
    have hlt : n.toNat < xs.length := by have : n < xs.length := c2; omega
    have e1 : (⟨xs.toArray⟩ : ByteArray)[n.toNat]'(by rw [ByteArray.size_mk']; simpa using hlt) = List.getD (α := UInt8) xs n.toNat 0 := by
      simp [List.getD, hlt]
      rfl
    simp [execOp, ho, hx, hy, hrun, e1]
  · exact (fail_inv h6).elim
theorem nilCheck_ok (hΓ : GOk P G Γ) (r : Rel P G Γ.vars m s a.tmps) {o : Oper} {nid : Nat} {x : Operand} (ho : o.op = .nilCheck x) {u : Unit} (h : runR (evOp Γ o nid) s = some (u, s')) : Goes P G Γ.vars nid m s' o a := by
  simp only [evOp, ho] at h
  obtain ⟨V, s1, h1, h2⟩ := bind_inv h
  obtain ⟨k1, k2, k2'⟩ := opnd_ok hΓ r h1
  cases V with
  | rp d =>
    have hx : ∃ b, a.eval x = .pointer (some b) := by obtain ⟨ad, hx, _⟩ := k2; exact ⟨_, hx⟩
    obtain ⟨b, hx⟩ := hx
    exact fin0 (r.same k1) (by simp [execOp, ho, hx]) h2 (hx ▸ k2) fun _ _ h => by cases h
  | bp i p T =>
    have hx : ∃ b, a.eval x = .pointer (some b) := by obtain ⟨_, _, _, hx⟩ := k2; exact ⟨_, hx⟩
    obtain ⟨b, hx⟩ := hx
    exact fin0 (r.same k1) (by simp [execOp, ho, hx]) h2 (hx ▸ k2) fun _ _ h => by cases h
  | ep i n p T =>
    have hx : ∃ b, a.eval x = .pointer (some b) := by obtain ⟨_, _, _, _, _, hx⟩ := k2; exact ⟨_, hx⟩
    obtain ⟨b, hx⟩ := hx
    exact fin0 (r.same k1) (by simp [execOp, ho, hx]) h2 (hx ▸ k2) fun _ _ h => by cases h
  | _ => exact (fail_inv h2).elim
theorem opnds_ok (hΓ : GOk P G Γ) {vars : Nat} : ∀ {l : List Operand} {s s' : St} {vs : List V}, Rel P G vars m s a.tmps → runR (opndsL Γ l) s = some (vs, s') → Same s s' ∧ vs.length = l.length ∧ ∀ i, RV P m (nthV vs i) ((l.map a.eval).getD i undef)
  | [], s, s', vs, r, h => by
    obtain ⟨rfl, rfl⟩ := ret_inv h
    exact ⟨.refl _, rfl, fun i => by simp [nthV]; trivial⟩
  | x :: l, s, s', vs, r, h => by
    simp only [opndsL] at h
    obtain ⟨V, s1, h1, h2⟩ := bind_inv h
    obtain ⟨k1, k2, k2'⟩ := opnd_ok hΓ r h1
    obtain ⟨vs', s2, h3, h4⟩ := bind_inv h2
    obtain ⟨rfl, rfl⟩ := ret_inv h4
    obtain ⟨k3, k4, k5⟩ := opnds_ok hΓ (r.same k1) h3
    refine ⟨k1.trans k3, by simp [k4], fun i => ?_⟩
    cases i with
    | zero => simpa [nthV] using k2
    | succ i => simpa [nthV] using k5 i
theorem makeFunc_ok (hΓ : GOk P G Γ) (r : Rel P G Γ.vars m s a.tmps) {o : Oper} {nid : Nat} {f : Fn} {fs cs : Array Operand} (ho : o.op = .makeFunc f fs cs) {u : Unit} (h : runR (evOp Γ o nid) s = some (u, s')) : Goes P G Γ.vars nid m s' o a := by
  cases f with
  | func f =>
    simp only [evOp, ho] at h
    split at h
    · rename_i hfs
      obtain ⟨vs, s1, h1, h2⟩ := bind_inv h
      obtain ⟨k1, k2, k3⟩ := opnds_ok hΓ r h1
      cases hc : vs.all isCap with
      | false => rw [hc] at h2; exact (fail_inv h2).elim
      | true =>
        simp only [hc, cond_true] at h2
        have hfs' : fs = #[] := by cases fs; simpa using hfs
        refine fin0 (r.same k1) (v := .func (.func f) #[] (cs.map a.eval)) (by simp [execOp, ho, hfs', Instr.makeFunc]) h2 (V := .fn f vs) ⟨cs.toList.map a.eval, by rw [← Array.toList_map], by simp [k2], fun i => ?_⟩ fun _ _ h => by cases h
        have h3 := k3 i
        by_cases hi : i < vs.length
        · have hall : ∀ (vs : List V) (i : Nat), i < vs.length → vs.all isCap = true → isCap (nthV vs i) = true := fun vs => by
            induction vs with
            | nil => intro i hi; simp at hi
            | cons x l ih =>
              intro i hi h
              simp only [List.all_cons, Bool.and_eq_true] at h
              cases i with
              | zero => exact h.1
              | succ i => exact ih i (by simpa using hi) h.2
          have h4 := hall vs i hi hc
          cases hV : nthV vs i <;> rw [hV] at h3 h4 <;> first | exact h3 | (simp [isCap] at h4)
        · rw [nthV_of_le _ _ (by omega)]; trivial
    · exact (fail_inv h).elim
  | _ => simp only [evOp, ho] at h; exact (fail_inv h).elim
theorem RepT.proj {w : World} {C : Cells} : ∀ {T : Ty} {x : den T} {vs : List Value} {j : Nat} {e : D}, RepT w C T x vs → XE.proj T x j = some e →
    ∃ v o, vs[j]? = some v ∧ RepV w C e.T e.x v ∧ fieldOff T j = some (o, e.T) ∧ tcells v = ((vs.flatMap (·.cells.toList)).drop o).take e.T.size
  | .pair a b, x, vs, 0, e, h, hp => by
    simp [XE.proj] at hp
    subst hp
    obtain ⟨v, r, rfl, h1, h2⟩ := h
    obtain ⟨g1, g2⟩ := RepV.tcells h1
    refine ⟨v, 0, rfl, h1, rfl, ?_⟩
    rw [g2] at g1 ⊢
    simp [← g1.len]
  | .pair a b, x, vs, j + 1, e, h, hp => by
    simp only [XE.proj] at hp
    obtain ⟨v, r, rfl, h1, h2⟩ := h
    obtain ⟨g1, g2⟩ := RepV.tcells h1
    obtain ⟨u, o, k1, k2, k3, k4⟩ := RepT.proj h2 hp
    refine ⟨u, a.size + o, by simpa using k1, k2, by simp [fieldOff, k3], ?_⟩
    rw [k4, List.flatMap_cons, take_drop_append _ _ _ _ (by rw [← g2]; exact g1.len)]
  | .unit, _, _, _, _, _, hp => by simp [XE.proj] at hp
  | .int _, _, _, _, _, h, _ => h.elim
  | .bool, _, _, _, _, h, _ => h.elim
  | .str, _, _, _, _, h, _ => h.elim
  | .sl _, _, _, _, _, h, _ => h.elim
end
end Go.XE
/- Operations, part F: results of calls taken apart, cuts, lengths, conversions. -/
namespace Go.XE
section
variable {P : Program} {G : Nat → Option GV} {Γ : Env} {m : Mem} {s s' : St} {a : Act}

def cutTs (k o n : Nat) : Lab → Lab
  | .ts k' off => if k' = k ∧ o ≤ off ∧ off < o + n then .fl 0 (off - o) else .ts k' off
  | l => l
theorem cutST_ok {vars : Nat} (r : Rel P G vars m s a.tmps) {t o n : Nat} {u : Unit} {ts : List Nat} (hts : ts = nthT s.stips t) (h : runR (putST t (outRange o n ts)) s = some (u, s')) :
    ∃ m1, Quiet m m1 ∧ Rel P G vars m1 s' a.tmps ∧ s'.slots = s.slots ∧ s'.fresh = s.fresh ∧ ∀ off e v, off < n → TipAt m (.ts t (o + off)) e v → TipAt m1 (.fl 0 off) e v := by
  subst hts
  have k3 := putST_inv h
  have le : s.Le { s with stips := setT s.stips t (outRange o n (nthT s.stips t)) } := ⟨fun _ => .refl _, Nat.le_refl _, fun k off ho => by
    simp only [nthT_setT] at ho
    split at ho
    · rename_i hc; rw [hc.1]; exact (mem_outRange.1 ho).1
    · exact ho, fun id o h => ⟨o, h, .refl _ _⟩, fun _ _ h => h, fun h => h⟩
  have r2 := (r.le le).same k3
  have hl : ∀ l, Live s' l → cutTs t o n l = l := fun l hl => by
    cases l with
    | ts k off =>
      by_cases e : k = t ∧ o ≤ off ∧ off < o + n
      · obtain ⟨rfl, e⟩ := e
        have : off ∈ nthT s'.stips k := hl
        rw [k3.stips] at this
        simp only [nthT_setT] at this
        split at this
        · exact absurd e (mem_outRange.1 this).2
        · rename_i hc
          have h7 : ¬ k < s.stips.length := fun hx => hc (by simp [hx])
          rw [nthT_of_le _ _ (by omega)] at this
          cases this
      · simp [cutTs, e]
    | _ => rfl
  refine ⟨m.relabel (cutTs t o n), .relabel m rfl fun _ _ => rfl, r2.relabel rfl hl, k3.slots, k3.fresh, fun off e v hlt ht => ?_⟩
  have := ht.relabel (ρ := cutTs t o n)
  have e1 : cutTs t o n (.ts t (o + off)) = .fl 0 off := by simp [cutTs, hlt]
  rwa [e1] at this
theorem extract_ok (r : Rel P G Γ.vars m s a.tmps) {o : Oper} {nid : Nat} {t : Tmp} {k : Nat} (ho : o.op = .extract (.tmp t) k) {u : Unit} (h : runR (evOp Γ o nid) s = some (u, s')) : Goes P G Γ.vars nid m s' o a := by
  simp only [evOp, ho] at h
  obtain ⟨V, s1, h1, h2⟩ := bind_inv h
  obtain ⟨hV, k1⟩ := getS_inv h1
  have hv := r.slots t
  rw [← hV] at hv
  have r1 := r.same k1
  cases V with
  | tup d =>
    obtain ⟨vs, hx, hr⟩ := hv
    obtain ⟨e, s2, h3, h4⟩ := bind_inv h2
    obtain ⟨h5, rfl⟩ := lift_inv h3
    obtain ⟨v, off, g1, g2, g3, g4⟩ := hr.proj h5
    have hx' : a.eval (.tmp t) = .tuple vs := hx
    have g1' : vs[k]? = some v := by simpa using g1
    have hrun : (execOp a.eval o).run P m.w = .ok (.value v) m.w := by simp [execOp, ho, Instr.extract, hx', g1']
    split at h4
    · exact fin0 r1 hrun h4 g2 fun _ _ h => by cases h
    · obtain ⟨q, s3, h6, h7⟩ := bind_inv h4
      obtain ⟨h8, rfl⟩ := lift_inv h6
      rw [g3] at h8
      cases h8
      obtain ⟨ts, s4, h9, h10⟩ := bind_inv h7
      obtain ⟨rfl, k2⟩ := getST_inv h9
      obtain ⟨_, s5, h11, h12⟩ := bind_inv h10
      obtain ⟨m1, q1, r2, e1, e2, f⟩ := cutST_ok (r1.same k2) (by rw [k2.stips]) h11
      refine fin q1.fr (fun id h => .inl (by rw [← q1.U]; exact h)) r2 (by rw [hrun, q1.w]) h12 (RV.to q1.fr.to (V := .dat e none) g2) (fun D hD off' hoff e' he' => ?_) fun _ _ _ e => by cases e
      simp [datOf] at hD
      subst hD
      obtain ⟨c1, c2⟩ := mem_inRange.1 hoff
      obtain ⟨w, c3, c4⟩ := r.stips t d (by rw [← hV]; rfl) (off + off') (by rw [k1.stips] at c1; exact c1) e' (tipTy_field g3 he')
      refine ⟨w, ?_, f off' e' w c2 c4⟩
      rw [g4, List.getElem?_take, if_pos c2, List.getElem?_drop]
      rw [hx] at c3
      exact c3
  | _ => exact (fail_inv h2).elim
/-! ### Cuts -/
theorem opndI_ok (hΓ : GOk P G Γ) {vars : Nat} (r : Rel P G vars m s a.tmps) {x : Option Operand} {i : Option Int} (h : runR (opndI Γ x) s = some (i, s')) :
    Same s s' ∧ (i = none ∧ x.map a.eval = none ∨ ∃ n k, i = some n ∧ x.map a.eval = some (.int k n)) := by
  cases x with
  | none => obtain ⟨rfl, rfl⟩ := ret_inv h; exact ⟨.refl _, .inl ⟨rfl, rfl⟩⟩
  | some x =>
    simp only [opndI] at h
    obtain ⟨V, s1, h1, h2⟩ := bind_inv h
    obtain ⟨k1, k2, k3⟩ := opnd_ok hΓ r h1
    obtain ⟨⟨k, n⟩, s2, h3, h4⟩ := bind_inv h2
    obtain ⟨rfl, h5⟩ := asIntV_ok h3 k2
    obtain ⟨rfl, rfl⟩ := ret_inv h4
    exact ⟨k1, .inr ⟨n, k, rfl, by simp [h5]⟩⟩
theorem cut_rep {w : World} {C : Cells} {e : Ty} {xs : List (den e)} {p : Option Addr} {cap l h : Nat} (h1 : l ≤ h) (h2 : h ≤ xs.length) (h3 : xs.length ≤ cap) (h4 : p = none → cap = 0)
    (h5 : ∀ ad, p = some ad → (0 < cap → ad.spot = none) ∧ ∀ i y, xs[i]? = some y → ∃ us, cellsAt w ad.block (ad.off + i * e.size) us ∧ (∀ j, j < e.size → C ad.block (ad.off + i * e.size + j)) ∧ Rep w C e y us) :
    RepV w C (.sl e) ((xs.take h).drop l : List (den e)) (sliced p l h cap e.size) := by
  have hl : List.length (α := den e) ((xs.take h).drop l) = h - l := by simp; omega
  refine .inr ⟨rfl, (if cap = l then p else p.map (·.add (l * e.size))), cap - l, ?_, by rw [hl]; omega, fun hn => ?_, fun ad had => ?_⟩
  · rw [hl]; rfl
  · split at hn
    · omega
    · cases p with
      | none => have := h4 rfl; omega
      | some ad => cases hn
  · cases p with
    | none => split at had <;> cases had
    | some a0 =>
      obtain ⟨g1, g2⟩ := h5 a0 rfl
      by_cases hc : cap = l
      · rw [if_pos hc] at had
        cases had
        refine ⟨fun h => by omega, fun i y hy => ?_⟩
        have := (List.getElem?_eq_some_iff.1 hy).1
        omega
      · rw [if_neg hc] at had
        simp at had
        subst had
        rw [addr_eta (g1 (by omega)), add_mk]
        refine ⟨fun _ => rfl, fun i y hy => ?_⟩
        have hy' : xs[l + i]? = some y := by
          rw [List.getElem?_drop, List.getElem?_take] at hy
          split at hy
          · exact hy
          · cases hy
        obtain ⟨us, c1, c2, c3⟩ := g2 _ _ hy'
        have e1 : a0.off + (l + i) * e.size = a0.off + l * e.size + i * e.size := by rw [Nat.add_mul]; omega
        rw [e1] at c1 c2
        exact ⟨us, c1, c2, c3⟩
theorem bytes_extract (xs : List UInt8) (l h : Nat) : (⟨xs.toArray⟩ : ByteArray).extract l h = ⟨((xs.take h).drop l).toArray⟩ := by
  apply ByteArray.ext
  simp [ByteArray.data_extract, List.extract_eq_take_drop, List.drop_take]
theorem cut_ok {α : Type} {xs ys : List α} {lo hi : Option Int} (h : runR (cutL xs lo hi) s = some (ys, s')) :
    s' = s ∧ ∃ l h, l ≤ h ∧ h ≤ xs.length ∧ ys = (xs.take h).drop l ∧ (lo = none ∧ l = 0 ∨ ∃ n : Int, lo = some n ∧ 0 ≤ n ∧ n.toNat = l) ∧ (hi = none ∧ h = xs.length ∨ ∃ n : Int, hi = some n ∧ 0 ≤ n ∧ n.toNat = h) := by
  unfold cutL at h
  split at h
  · obtain ⟨rfl, rfl⟩ := ret_inv h
    exact ⟨rfl, 0, ys.length, Nat.zero_le _, Nat.le_refl _, by simp, .inl ⟨rfl, rfl⟩, .inl ⟨rfl, rfl⟩⟩
  · rename_i l
    obtain ⟨_, s1, h1, h2⟩ := bind_inv h
    obtain ⟨c1, c2, rfl⟩ := need2 h1
    obtain ⟨rfl, rfl⟩ := ret_inv h2
    simp only [decide_eq_true_eq] at c1 c2
    exact ⟨rfl, l.toNat, xs.length, by omega, Nat.le_refl _, by simp, .inr ⟨l, rfl, c1, rfl⟩, .inl ⟨rfl, rfl⟩⟩
  · rename_i h9
    obtain ⟨_, s1, h1, h2⟩ := bind_inv h
    obtain ⟨c1, c2, rfl⟩ := need2 h1
    obtain ⟨rfl, rfl⟩ := ret_inv h2
    simp only [decide_eq_true_eq] at c1 c2
    exact ⟨rfl, 0, h9.toNat, Nat.zero_le _, by omega, by simp, .inl ⟨rfl, rfl⟩, .inr ⟨h9, rfl, c1, rfl⟩⟩
  · rename_i l h9
    obtain ⟨_, s1, h1, h2⟩ := bind_inv h
    obtain ⟨c1, c3, rfl⟩ := need2 h1
    obtain ⟨rfl, rfl⟩ := ret_inv h2
    simp only [Bool.and_eq_true, decide_eq_true_eq] at c1 c3
    exact ⟨rfl, l.toNat, h9.toNat, by omega, by omega, rfl, .inr ⟨l, rfl, c1.1, rfl⟩, .inr ⟨h9, rfl, by omega, rfl⟩⟩
theorem optI_none {i : Option Int} {x : Option Value} (h : i = none ∧ x = none ∨ ∃ n k, i = some n ∧ x = some (.int k n)) (hi : i = none) : x = none := by
  rcases h with ⟨_, h⟩ | ⟨n, k, h, _⟩
  · exact h
  · rw [hi] at h; cases h
theorem optI_some {i : Option Int} {x : Option Value} {n : Int} (h : i = none ∧ x = none ∨ ∃ n k, i = some n ∧ x = some (.int k n)) (hi : i = some n) : ∃ k, x = some (.int k n) := by
  rcases h with ⟨h, _⟩ | ⟨n', k, h, hx⟩
  · rw [hi] at h; cases h
  · rw [hi] at h; cases h; exact ⟨k, hx⟩
theorem slice_ok (hΓ : GOk P G Γ) (r : Rel P G Γ.vars m s a.tmps) {o : Oper} {nid : Nat} {t : TypeId} {x : Operand} {lo hi : Option Operand} (ho : o.op = .slice t x lo hi none) {u : Unit}
    (h : runR (evOp Γ o nid) s = some (u, s')) : Goes P G Γ.vars nid m s' o a := by
  simp only [evOp, ho] at h
  obtain ⟨V, s1, h1, h2⟩ := bind_inv h
  obtain ⟨k1, k2, k2'⟩ := opnd_ok hΓ r h1
  have r1 := r.same k1
  obtain ⟨il, s2, h3, h4⟩ := bind_inv h2
  obtain ⟨k3, kl⟩ := opndI_ok hΓ r1 h3
  have r2 := r1.same k3
  obtain ⟨ih, s3, h5, h6⟩ := bind_inv h4
  obtain ⟨k4, kh⟩ := opndI_ok hΓ r2 h5
  have r3 := r2.same k4
  obtain ⟨d, s4, h7, h8⟩ := bind_inv h6
  obtain ⟨m1, q1, r4, hd, e1, e2, e3, e4⟩ := asD_ok r3 h7 k2
  obtain ⟨e, s5, h9, h10⟩ := bind_inv h8
  have main : s5 = s4 ∧ ∃ v, (Instr.sliceAt t (a.eval x) (lo.map a.eval) (hi.map a.eval) none).run P m.w = .ok v m.w ∧ RepV m1.w m1.C e.T e.x v := by
    unfold cutD at h9
    split at h9
    · rename_i e0 xs
      obtain ⟨_, s6, g1, g2⟩ := bind_inv h9
      obtain ⟨ht, rfl⟩ := chkT_inv hΓ g1
      obtain ⟨ys, s7, g3, g4⟩ := bind_inv g2
      obtain ⟨rfl, rfl⟩ := ret_inv g4
      obtain ⟨rfl, l, h', c1, c2, rfl, c3, c4⟩ := cut_ok g3
      obtain ⟨et, c7, c8, c9⟩ := ht.2
      obtain ⟨p, cap, d1, d2, d3, d4⟩ := RepV.sl_inv hd
      refine ⟨rfl, sliced p l h' cap e0.size, ?_, cut_rep c1 c2 d2 d3 d4⟩
      have hel : P.elem t = et := by simp [Program.elem, c7]
      have hu : P.underlying t = some (.slice (P.elem t)) := by rw [hel]; exact c7
      have hsz := run_sizeOf (P := P) c9 m.w
      rw [run_sliceAt_slice m.w t _ _ _ _ hu, d1]
      have c2' : h' ≤ List.length (α := den e0) xs := c2
      have d2' : List.length (α := den e0) xs ≤ cap := d2
      rcases c3 with ⟨n1, rfl⟩ | ⟨n, n1, n2, rfl⟩
      · rw [optI_none kl n1]
        rcases c4 with ⟨p1, rfl⟩ | ⟨n', p1, p2, rfl⟩
        · rw [optI_none kh p1, run_slice_all m.w t p _ cap hu, hel, hsz]; rfl
        · obtain ⟨k', e9⟩ := optI_some kh p1
          rw [e9, run_slice_h m.w t p _ cap hu k' n' p2 (by omega), hel, hsz]; rfl
      · obtain ⟨k, e8⟩ := optI_some kl n1
        rw [e8]
        rcases c4 with ⟨p1, rfl⟩ | ⟨n', p1, p2, rfl⟩
        · have h7 : n ≤ ((List.length (α := den e0) xs : Nat) : Int) := by omega
          rw [optI_none kh p1, run_slice_l m.w t p _ cap hu k n n2 h7, hel, hsz]; rfl
        · obtain ⟨k', e9⟩ := optI_some kh p1
          rw [e9, run_slice_lh m.w t p _ cap hu k k' n n' n2 (by omega) (by omega), hel, hsz]; rfl
    · rename_i xs
      obtain ⟨_, s6, g1, g2⟩ := bind_inv h9
      obtain ⟨ht, rfl⟩ := chkT_inv hΓ g1
      obtain ⟨ys, s7, g3, g4⟩ := bind_inv g2
      obtain ⟨rfl, rfl⟩ := ret_inv g4
      obtain ⟨rfl, l, h', c1, c2, rfl, c3, c4⟩ := cut_ok g3
      refine ⟨rfl, .string ⟨((xs.take h').drop l).toArray⟩, ?_, RepV.str _⟩
      rw [run_sliceAt_string m.w t _ _ _ _ ht.2, hd.str_eq, ← bytes_extract]
      have hsz : (⟨xs.toArray⟩ : ByteArray).size = xs.length := by simp [ByteArray.size_mk']
      have c2' : h' ≤ List.length (α := UInt8) xs := c2
      rcases c3 with ⟨n1, rfl⟩ | ⟨n, n1, n2, rfl⟩
      · rw [optI_none kl n1]
        rcases c4 with ⟨p1, rfl⟩ | ⟨n', p1, p2, rfl⟩
        · rw [optI_none kh p1]
          simp only [Instr.slice, Instr.sliceBounds, Sem.run_bind, run_underlying ht.2, Result.andThen_ok, Option.isSome_none, Bool.false_eq_true, if_false, Sem.run_pure, hsz]
        · obtain ⟨k', e9⟩ := optI_some kh p1
          have q1 := run_sliceBound (P := P) m.w k' n' xs.length .sliceAlen p2 (by omega)
          rw [e9]
          simp only [Instr.slice, Instr.sliceBounds, Sem.run_bind, run_underlying ht.2, Result.andThen_ok, Option.isSome_none, Bool.false_eq_true, if_false, Sem.run_pure, hsz, q1]
      · obtain ⟨k, e8⟩ := optI_some kl n1
        rw [e8]
        rcases c4 with ⟨p1, rfl⟩ | ⟨n', p1, p2, rfl⟩
        · have q1 := run_sliceBound (P := P) m.w k n xs.length .sliceB n2 (by omega)
          rw [optI_none kh p1]
          simp only [Instr.slice, Instr.sliceBounds, Sem.run_bind, run_underlying ht.2, Result.andThen_ok, Option.isSome_none, Bool.false_eq_true, if_false, Sem.run_pure, hsz, q1]
        · obtain ⟨k', e9⟩ := optI_some kh p1
          have q1 := run_sliceBound (P := P) m.w k' n' xs.length .sliceAlen p2 (by omega)
          have q2 := run_sliceBound (P := P) m.w k n n'.toNat .sliceB n2 (by omega)
          rw [e9]
          simp only [Instr.slice, Instr.sliceBounds, Sem.run_bind, run_underlying ht.2, Result.andThen_ok, Option.isSome_none, Bool.false_eq_true, if_false, Sem.run_pure, hsz, q1, q2]
    · exact (fail_inv h9).elim
  obtain ⟨rfl, v, g1, g2⟩ := main
  exact fin q1.fr (fun id h => .inl (by rw [← q1.U]; exact h)) r4 (by rw [q1.w]; simp [execOp, ho]; simpa using congrArg (fun z => z.andThen fun (v : Value) w => Result.ok (Next.value v) w) g1) h10 (V := ofD e) g2 noTips fun _ _ _ e => by cases e
end
end Go.XE
/- Operations, part G: new objects, stores. -/
namespace Go.XE
section
variable {P : Program} {G : Nat → Option GV} {Γ : Env} {m : Mem} {s s' : St} {a : Act}

/-- An object gets its number and its place. -/
def Mem.give (m : Mem) (id : Nat) (A : AD) : Mem := { m with ad := fun i => if i = id then A else m.ad i, U := fun i => m.U i ∨ i = id }
theorem Fr.give {id : Nat} (h : ¬ m.U id) (A : AD) : Fr m (m.give id A) :=
  ⟨⟨.refl _ _, fun _ _ h => h, rfl, fun i hi => by
    have : i ≠ id := fun e => h (e ▸ hi)
    simp [Mem.give, this], fun _ h => .inl h⟩, fun _ _ h _ => .inl h, fun _ _ h => h⟩
theorem Rel.give {vars : Nat} {tm : Array Value} (r : Rel P G vars m s tm) {id : Nat} (h : ¬ m.U id) (A : AD) : Rel P G vars (m.give id A) s tm :=
  r.move ⟨(Fr.give h A).to, r.bC, r.bL, fun _ _ => ⟨rfl, rfl, fun _ h => h⟩⟩
def toTo (id : Nat) : Lab → Lab
  | .fl 0 off => .to id off
  | l => l
def layM (m : Mem) (w' : World) (id : Nat) (A : AD) : Mem := ((m.relabel (toTo id)).alloc w' (.obj id) fun _ => False).give id A
/-- A new block for a new object. -/
theorem lay_ok {vars nid : Nat} {tm : Array Value} (r : Rel P G vars m s tm) (hn : ¬ m.U nid) {w' : World} {cur : Array Value} {et : TypeId} (hw : w'.heap = m.w.heap.push (Go.Obj.cells cur et (0, 0)) ∧ w'.os = m.w.os ∧ w'.output = m.w.output) {A : AD} (hA : A.b = m.w.heap.size)
    {o : Obj} {ts : List Nat} (ho : m.To (layM m w' nid A) → ObjOk (layM m w' nid A) nid o)
    (ht : ∀ d, o = .box d → ∀ off, off ∈ ts → ∀ e, tipTy d.T off = some e → ∃ v, cur[A.o + off]? = some v ∧ TipAt m (.fl 0 off) e v) :
    Rel P G vars (layM m w' nid A) { s with objs := setObj nid (some o) s.objs, otips := setTips nid ts s.otips } tm ∧ Fr m (layM m w' nid A) ∧ (∀ id, (layM m w' nid A).U id → m.U id ∨ id = nid) := by
  have none : lookObj nid s.objs = none := by
    cases h : lookObj nid s.objs with
    | none => rfl
    | some o => exact absurd (r.objs nid o h).1 hn
  have hl : ∀ l, Live s l → toTo nid l = l := fun l h => by cases l <;> first | rfl | exact h.elim
  have f0 : Fr m (m.relabel (toTo nid)) := .relabel m rfl
  have r0 := r.relabel (ρ := toTo nid) rfl hl
  have r1 := r0.putOT (id := nid) (ts := ts) (fun d hd => by rw [none] at hd; cases hd) fun _ => hn
  have f1 := Fr.alloc (m.relabel (toTo nid)) hw (.obj nid) fun _ => False
  have r2 := r1.alloc hw (.obj nid) fun _ => False
  have f2 : Fr _ (layM m w' nid A) := Fr.give (m := (m.relabel (toTo nid)).alloc w' (.obj nid) fun _ => False) hn A
  have r3 : Rel P G vars (layM m w' nid A) _ tm := r2.give hn A
  have f := (f0.trans f1).trans f2
  have had : (layM m w' nid A).ad nid = A := by simp [layM, Mem.give]
  have hb : w'.heap[A.b]? = some (Go.Obj.cells cur et (0, 0)) := by rw [hw.1, hA]; simp
  refine ⟨r3.putObj (id := nid) (.inr rfl) (ho f.to) fun d hd off hoff e he => ?_, f, fun id h => h⟩
  simp only [lookT_setTips, if_true] at hoff
  obtain ⟨v, c1, c2⟩ := ht d hd off hoff e he
  rw [had]
  refine ⟨v, ?_, ?_⟩
  · show w'.cell? _ = _
    simp [World.cell?, hb, c1]
  · have c3 : TipAt (m.relabel (toTo nid)) (.to nid off) e v := c2.relabel (ρ := toTo nid)
    rcases c3 with c3 | ⟨b, n, cap, cu, et', d1, d2, d3, d4, d5, d6⟩
    · exact .inl c3
    · have hlt : b < m.w.heap.size := (Array.getElem?_eq_some_iff.1 d3).1
      have hne : b ≠ m.w.heap.size := by omega
      refine .inr ⟨b, n, cap, cu, et', d1, ?_, ?_, d4, d5, fun j hj => ⟨fun hc => ?_, (d6 j hj).2⟩⟩
      · show (if b = m.w.heap.size then _ else _) = _
        rw [if_neg hne]; exact d2
      · show w'.heap[b]? = _
        rw [hw.1, Array.getElem?_push, if_neg hne]; exact d3
      · rcases hc with hc | ⟨_, hc⟩
        · exact (d6 j hj).1 hc
        · exact hc
theorem zeroV_cells (T : Ty) : (zeroV T).cells.toList = zeroCells T := by
  have h := zero_repV (default : World) (fun _ _ => False) T
  unfold zeroV at h ⊢
  cases T <;> rfl
theorem layM_free {vars nid : Nat} {tm : Array Value} (r : Rel P G vars m s tm) {w' : World} {A : AD} (hA : A.b = m.w.heap.size) (j : Nat) : ¬ (layM m w' nid A).C A.b j ∧ ¬ (layM m w' nid A).K A.b j := by
  refine ⟨fun h => ?_, fun h => ?_⟩
  · rcases h with h | ⟨_, h⟩
    · have := r.bC _ _ h; omega
    · exact h
  · have := r.bK _ _ h; omega
theorem layM_L {w' : World} {nid : Nat} {A : AD} (hA : A.b = m.w.heap.size) : (layM m w' nid A).L A.b = .obj nid := by
  show (if A.b = m.w.heap.size then _ else _) = _
  rw [if_pos hA]
theorem layM_ad {w' : World} {nid : Nat} {A : AD} : (layM m w' nid A).ad nid = A := by simp [layM, Mem.give]
theorem cellsAt_new {w w' : World} {cur : Array Value} {et : TypeId} (hw : w'.heap = w.heap.push (Go.Obj.cells cur et (0, 0))) {b : Nat} (hb : b = w.heap.size) : cellsAt w' b 0 cur.toList := fun j v hv => by
  subst hb
  have : w'.heap[w.heap.size]? = some (Go.Obj.cells cur et (0, 0)) := by rw [hw]; simp
  simp only [World.cell?, this, Nat.zero_add]
  simpa using hv
def A0 (m : Mem) (T : Ty) : AD := ⟨m.w.heap.size, 0, 0, T⟩
def newW (w : World) (v : Array Value) (t : TypeId) : World := { w with heap := w.heap.push (Go.Obj.cells v t (0, 0)) }
theorem newW_new (w : World) (v : Array Value) (t : TypeId) : (newW w v t).heap[w.heap.size]? = some (Go.Obj.cells v t (0, 0)) := by
  show (w.heap.push _)[w.heap.size]? = _
  simp
theorem run_newVar (t : TypeId) (v : Value) (w : World) : (newVar t v).run P w = .ok ⟨w.heap.size, 0, none⟩ (newW w v.cells t) := by
  simp [newVar, newRow, newObj, Sem.run, newW]
theorem boxObj_ok {vars nid : Nat} {tm : Array Value} (r : Rel P G vars m s tm) {T : Ty} {y : den T} {v : Value} (hv : RepV m.w m.C T y v) (t : TypeId) (h : m.To (layM m (newW m.w v.cells t) nid (A0 m T))) :
    ObjOk (layM m (newW m.w v.cells t) nid (A0 m T)) nid (.box ⟨T, y⟩) := by
  have hr := Rep.cells hv
  show ObjOk _ _ _
  simp only [ObjOk, layM_ad]
  refine ⟨rfl, layM_L rfl, v.cells, t, v.cells.toList, ?_, ?_, ?_, h.rep hr, fun j _ => layM_free r rfl _⟩
  · exact newW_new _ _ _
  · have := hr.len
    simp at this
    simp [A0, this]
  · exact cellsAt_new rfl rfl
theorem setOT_same {s s1 s2 : St} {nid : Nat} {o : Obj} {ts : List Nat} {u u' : Unit} (h : runR (setO nid o) s = some (u, s1)) (h' : runR (putOT nid ts) s1 = some (u', s2)) :
    Same { s with objs := setObj nid (some o) s.objs, otips := setTips nid ts s.otips } s2 := by
  have k := setO_inv h
  have k' := putOT_inv h'
  exact ⟨k'.slots.trans k.slots, k'.stips.trans k.stips, k'.objs.trans k.objs, k'.otips.trans (by simp only [k.otips]), k'.fresh.trans k.fresh⟩
theorem alloc_ok (hΓ : GOk P G Γ) (r : Rel P G Γ.vars m s a.tmps) {o : Oper} {nid : Nat} (hn : ¬ m.U nid) {t : TypeId} (ho : o.op = .alloc t) {u : Unit} (h : runR (evOp Γ o nid) s = some (u, s')) : Goes P G Γ.vars nid m s' o a := by
  simp only [evOp, ho] at h
  obtain ⟨T, s1, h1, h2⟩ := bind_inv h
  obtain ⟨h3, rfl⟩ := lift_inv h1
  have ht := hΓ.τ t T h3
  obtain ⟨_, s2, h4, h5⟩ := bind_inv h2
  obtain ⟨_, s3, h6, h7⟩ := bind_inv h5
  have hrep := zero_repV m.w m.C T
  obtain ⟨r1, f1, hU⟩ := lay_ok (nid := nid) (w' := newW m.w (zeroV T).cells t) (A := A0 m T) (o := .box ⟨T, dflt T⟩) (ts := slOffs T) r hn ⟨rfl, rfl, rfl⟩ rfl (boxObj_ok r hrep t) fun d hd off hoff e he => by
    cases hd
    have := zero_tips T off e he
    rw [← zeroV_cells] at this
    exact ⟨_, by simpa [A0] using this, .inl rfl⟩
  refine fin f1 hU (r1.same (setOT_same h4 h6)) (v := .pointer (some ⟨m.w.heap.size, 0, none⟩)) ?_ h7 (V := .bp nid [] T) ⟨.inr rfl, 0, by rw [layM_ad]; rfl, by rw [layM_ad]; rfl⟩ (fun D hD => by cases hD) fun _ _ _ e => by cases e
  simp only [execOp, ho, Instr.alloc, Sem.run_bind, run_zero ht, Result.andThen_ok, run_newVar, Sem.run_pure]
  rfl
theorem box_ok (hΓ : GOk P G Γ) (r : Rel P G Γ.vars m s a.tmps) {o : Oper} {nid : Nat} (hn : ¬ m.U nid) {t : TypeId} {x : Operand} (ho : o.op = .box t x) {u : Unit} (h : runR (evOp Γ o nid) s = some (u, s')) : Goes P G Γ.vars nid m s' o a := by
  have hrun : (execOp a.eval o).run P m.w = .ok (.value (.pointer (some ⟨m.w.heap.size, 0, none⟩))) (newW m.w (a.eval x).cells t) := by
    simp only [execOp, ho, Instr.box, Sem.run_bind, run_newVar, Result.andThen_ok, Sem.run_pure]
  simp only [evOp, ho] at h
  obtain ⟨V, s1, h1, h2⟩ := bind_inv h
  obtain ⟨k1, k2, k3⟩ := opnd_ok hΓ r h1
  have r1 := r.same k1
  have gen : runR ((liftO (Γ.τ t)).bind fun T => (asT T V).bind fun y => (takeTips x).bind fun ts =>
      (setO nid (.box ⟨T, y⟩)).bind fun _ => (putOT nid (tipsFor V ts)).bind fun _ => dstM Γ o (.bp nid [] T) []) s1 = some (u, s') → Goes P G Γ.vars nid m s' o a := fun h2 => by
    obtain ⟨T, s2, h3, h4⟩ := bind_inv h2
    obtain ⟨h5, rfl⟩ := lift_inv h3
    obtain ⟨y, s3, h6, h7⟩ := bind_inv h4
    obtain ⟨m1, q1, r2, hy, e1, e2, e3, e4⟩ := asT_ok r1 h6 k2
    obtain ⟨ts, s4, h8, h9⟩ := bind_inv h7
    obtain ⟨m2, q2, r3, e5, e6, e7, e8, f1⟩ := takeTips_ok r2 h8
    obtain ⟨_, s5, h10, h11⟩ := bind_inv h9
    obtain ⟨_, s6, h12, h13⟩ := bind_inv h11
    have hy2 : RepV m2.w m2.C T y (a.eval x) := q2.fr.to.repV hy
    have hn2 : ¬ m2.U nid := by rw [q2.U, q1.U]; exact hn
    have hw2 : m2.w = m.w := q2.w.trans q1.w
    obtain ⟨r4, f2, hU⟩ := lay_ok (nid := nid) (w' := newW m2.w (a.eval x).cells t) (A := A0 m2 T) (o := .box ⟨T, y⟩) (ts := tipsFor V ts) r3 hn2 ⟨rfl, rfl, rfl⟩ rfl (boxObj_ok r3 hy2 t) fun d hd off hoff e he => by
      cases hd
      have hcell : ∀ v, (tcells (a.eval x))[off]? = some v → (a.eval x).cells[(A0 m2 T).o + off]? = some v := fun v hv => by
        rw [(RepV.tcells hy2).2] at hv
        simpa [A0] using hv
      rcases e4 with ⟨rfl, hx⟩ | ⟨p, rfl⟩ | hd
      · simp [tipsFor] at hoff
        subst hoff
        rw [hx]
        exact ⟨_, rfl, .inl rfl⟩
      · replace hoff : off ∈ ts := hoff
        cases x with
        | tmp t0 =>
          obtain ⟨v, c1, c2⟩ := f1 t0 rfl ⟨T, y⟩ (by rw [e1, k1.slots, ← k3 t0 rfl]; rfl) off hoff e he
          exact ⟨v, hcell v c1, c2⟩
        | const c => simp only [takeTips] at h8; obtain ⟨rfl, _⟩ := ret_inv h8; cases hoff
        | global c => simp only [takeTips] at h8; obtain ⟨rfl, _⟩ := ret_inv h8; cases hoff
        | func c => simp only [takeTips] at h8; obtain ⟨rfl, _⟩ := ret_inv h8; cases hoff
      · cases V <;> first | (cases hoff; done) | (cases hd; done) | (simp [tipsFor] at hoff; done) | skip
        have hx : a.eval x = .slice none 0 0 := k2
        simp [tipsFor] at hoff
        subst hoff
        rw [hx]
        exact ⟨_, rfl, .inl rfl⟩
    refine fin ((q1.fr.trans q2.fr).trans f2) (fun id hid => ?_) (r4.same (setOT_same h10 h12)) (v := .pointer (some ⟨m2.w.heap.size, 0, none⟩)) (by rw [hrun, ← hw2]; rfl) h13 (V := .bp nid [] T) ⟨.inr rfl, 0, by rw [layM_ad]; rfl, by rw [layM_ad]; rfl⟩ (fun D hD => by cases hD) fun _ _ _ e => by cases e
    rcases hU id hid with h | h
    · exact .inl (by rw [q2.U, q1.U] at h; exact h)
    · exact .inr h
  have var : ∀ {ob : Obj}, (m.To (layM m (newW m.w (a.eval x).cells t) nid (A0 m .unit)) → ObjOk (layM m (newW m.w (a.eval x).cells t) nid (A0 m .unit)) nid ob) → (∀ d, ob ≠ .box d) →
      runR ((setO nid ob).bind fun _ => (putOT nid []).bind fun _ => dstM Γ o (.bp nid [] .unit) []) s1 = some (u, s') → Goes P G Γ.vars nid m s' o a := fun hob hnb h2 => by
    obtain ⟨_, s5, h10, h11⟩ := bind_inv h2
    obtain ⟨_, s6, h12, h13⟩ := bind_inv h11
    obtain ⟨r4, f2, hU⟩ := lay_ok (nid := nid) (w' := newW m.w (a.eval x).cells t) (A := A0 m .unit) (ts := []) r1 hn ⟨rfl, rfl, rfl⟩ rfl hob fun d hd => absurd hd (hnb d)
    exact fin f2 hU (r4.same (setOT_same h10 h12)) hrun h13 (V := .bp nid [] .unit) ⟨.inr rfl, 0, by rw [layM_ad]; rfl, by rw [layM_ad]; rfl⟩ (fun D hD => by cases hD) fun _ _ _ e => by cases e
  have one : ∀ v : Value, v.cells = #[v] → (newW m.w v.cells t).cell? ⟨m.w.heap.size, 0, none⟩ = some v := fun v hv => by
    simp [World.cell?, newW_new, hv]
  cases V with
  | rp d =>
    refine var (ob := .vrp d) (fun hto => ?_) (fun _ h => by cases h) h2
    obtain ⟨ad, hx, hrest⟩ := k2
    simp only [ObjOk, layM_ad]
    exact ⟨layM_L rfl, rfl, a.eval x, one _ (by rw [hx]; rfl), PtrTo.to hto ⟨ad, hx, hrest⟩⟩
  | bp i p T =>
    refine var (ob := .vbp i p T) (fun hto => ?_) (fun _ h => by cases h) h2
    have hx : (a.eval x).cells = #[a.eval x] := by obtain ⟨_, _, _, hx⟩ := k2; rw [hx]; rfl
    simp only [ObjOk, layM_ad]
    exact ⟨layM_L rfl, rfl, a.eval x, one _ hx, BPtr.to hto k2⟩
  | _ => exact gen h2
end
end Go.XE
