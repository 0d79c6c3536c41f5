/- Part 5 of the proof. -/
import Derived.Test.YtnmkgbomiillgaaGreatDoorP04
import Derived.Laws.MakeOwn
import Derived.Laws.Small
/- Operations, part H: stores. -/
namespace Go.XE
section
variable {P : Program} {G : Nat → Option GV} {Γ : Env} {m : Mem} {s s' : St} {a : Act}

theorem splice_get {α : Type} (L us : List α) (p n : Nat) (hn : us.length = n) (hp : p + n ≤ L.length) (k : Nat) :
    (L.take p ++ us ++ L.drop (p + n))[k]? = if p ≤ k ∧ k < p + n then us[k - p]? else L[k]? := by
  subst hn
  have hl : (L.take p).length = p := by simp; omega
  by_cases h1 : k < p
  · rw [List.append_assoc, List.getElem?_append_left (by omega), List.getElem?_take, if_pos h1, if_neg (by omega)]
  · by_cases h2 : k < p + us.length
    · rw [List.append_assoc, List.getElem?_append_right (by omega), hl, List.getElem?_append_left (by omega), if_pos ⟨by omega, h2⟩]
    · rw [List.getElem?_append_right (by simp; omega), List.getElem?_drop, if_neg (by omega)]
      congr 1
      simp; omega
theorem asT_objs {T : Ty} {V : V} {y : den T} (h : runR (asT T V) s = some (y, s')) : (∀ id d, lookObj id s.objs = some (.box d) → lookObj id s'.objs = some (.box d)) ∧ s'.otips = s.otips := by
  unfold asT at h
  split at h
  · obtain ⟨_, rfl⟩ := ret_inv h; exact ⟨fun _ _ h => h, rfl⟩
  · obtain ⟨d, s1, h1, h2⟩ := bind_inv h
    obtain ⟨h3, rfl⟩ := lift_inv h2
    unfold asD at h1
    split at h1
    · obtain ⟨_, rfl⟩ := ret_inv h1; exact ⟨fun _ _ h => h, rfl⟩
    · obtain ⟨_, rfl⟩ := ret_inv h1; exact ⟨fun _ _ h => h, rfl⟩
    · obtain ⟨o, s2, h4, h5⟩ := bind_inv h1
      obtain ⟨h6, k1⟩ := getO_inv h4
      split at h5
      · obtain ⟨_, s3, h7, h8⟩ := bind_inv h5
        obtain ⟨_, rfl⟩ := ret_inv h8
        have k2 := setO_inv h7
        refine ⟨fun id d hd => ?_, k2.otips.trans k1.otips⟩
        rw [k2.objs]
        simp only [lookObj_setObj]
        split
        · rename_i e; subst e; rw [h6] at hd; cases hd
        · rw [k1.objs]; exact hd
      · exact (fail_inv h5).elim
    · exact (fail_inv h1).elim
theorem datT_ok {T : Ty} {V : V} {y : den T} {v : Value} (h : runR (datT T V) s = some (y, s')) (hv : RV P m V v) : s' = s ∧ RepV m.w m.C T y v := by
  unfold datT at h
  split at h
  · obtain ⟨rfl, rfl⟩ := ret_inv h
    have : v = .slice none 0 0 := hv
    subst this
    exact ⟨rfl, .inr ⟨rfl, none, 0, rfl, Nat.le_refl _, fun _ => rfl, fun a h => by cases h⟩⟩
  · obtain ⟨d, s1, h1, h2⟩ := bind_inv h
    obtain ⟨h3, rfl⟩ := lift_inv h2
    obtain ⟨h4, h5, _⟩ := datD_ok h1 hv
    have := as_eq h3
    subst this
    exact ⟨h4, h5⟩
theorem tipTy_ge : ∀ {T : Ty} {k : Nat}, T.size ≤ k → tipTy T k = none := fun {T k} h => by
  cases ht : tipTy T k with
  | none => rfl
  | some e => have := tipTy_lt ht; omega
theorem tipTy_fieldEq : ∀ {T U : Ty} {j o k : Nat}, fieldOff T j = some (o, U) → k < U.size → tipTy T (o + k) = tipTy U k
  | .pair a b, U, 0, o, k, h, hk => by
    simp [fieldOff] at h
    obtain ⟨rfl, rfl⟩ := h
    simp [tipTy, hk]
  | .pair a b, U, j + 1, o, k, h, hk => by
    simp only [fieldOff] at h
    split at h
    · rename_i q t hq
      simp at h
      obtain ⟨rfl, rfl⟩ := h
      have := tipTy_fieldEq hq hk
      simp only [tipTy]
      rw [if_neg (by omega), show a.size + q + k - a.size = q + k by omega, this]
    · cases h
  | .int _, _, _, _, _, h, _ => by simp [fieldOff] at h
  | .bool, _, _, _, _, h, _ => by simp [fieldOff] at h
  | .str, _, _, _, _, h, _ => by simp [fieldOff] at h
  | .unit, _, _, _, _, h, _ => by simp [fieldOff] at h
  | .sl _, _, _, _, _, h, _ => by simp [fieldOff] at h
theorem tipTy_pathEq : ∀ {p : List Nat} {T U : Ty} {o k : Nat}, pathOff T p = some (o, U) → k < U.size → tipTy T (o + k) = tipTy U k
  | [], T, U, o, k, h, _ => by simp [pathOff] at h; obtain ⟨rfl, rfl⟩ := h; simp
  | j :: r, T, U, o, k, h, hk => by
    simp only [pathOff] at h
    split at h
    · rename_i q t hq
      split at h
      · rename_i q2 t2 hq2
        simp at h
        obtain ⟨rfl, rfl⟩ := h
        have hle := pathOff_le hq2
        rw [Nat.add_assoc, tipTy_fieldEq hq (by omega), tipTy_pathEq hq2 hk]
      · cases h
    · cases h
def toTo2 (id q : Nat) : Lab → Lab
  | .fl 0 off => .to id (q + off)
  | l => l
/-- A row is written in place: what the written block then holds. -/
theorem wrote_row {vars : Nat} {tm : Array Value} (r : Rel P G vars m s tm) {b p n : Nat} {us : List Value} {cur : Array Value} {et : TypeId} (hb : m.w.heap[b]? = some (Go.Obj.cells cur et (0, 0))) (hn : us.length = n) (hp : p + n ≤ cur.size)
    (hfree : ∀ k, p ≤ k → k < p + n → ¬ m.C b k ∧ ¬ m.K b k) {X : Nat → Prop} (hX : ∀ j, X j → ¬ m.K b j) :
    Wrote m (m.w.setRow b (cur.toList.take p ++ us ++ cur.toList.drop (p + n)).toArray) b X := by
  have hlen : (cur.toList.take p ++ us ++ cur.toList.drop (p + n)).toArray.size = cur.size := by simp; omega
  refine ⟨by simp, fun b' hb' => setRow_other m.w b b' _ hb', ⟨cur, _, et, (0, 0), hb, setRow_heap m.w b cur _ et (0, 0) hb, hlen, fun j hj => ?_⟩, hX, rfl, rfl⟩
  rw [List.getElem?_toArray, splice_get cur.toList us p n hn (by simpa using hp)]
  rw [if_neg]
  · simp
  · rintro ⟨h1, h2⟩
    have := hfree j h1 h2
    rcases hj with hj | hj
    · exact this.1 hj
    · exact this.2 hj
theorem Rel.storeBox {vars : Nat} {tm : Array Value} (r : Rel P G vars m s tm) {i : Nat} {d d' : D} (hbox : lookObj i s.objs = some (.box d)) {p : List Nat} {q : Nat} {U : Ty} {y : den U} (h8 : pathOff d.T p = some (q, U)) (h15 : setp d p ⟨U, y⟩ = some d')
    {us : List Value} (hus : Rep m.w m.C U y us) {ts : List Nat} (hts : ∀ k, k ∈ ts → k < U.size → ∀ e, tipTy U k = some e → ∃ v, us[k]? = some v ∧ TipAt m (.to i (q + k)) e v) :
    ∃ cur et m', m.w.heap[(m.ad i).b]? = some (Go.Obj.cells cur et (0, 0)) ∧ (m.ad i).o + q + U.size ≤ cur.size ∧
      m'.w = m.w.setRow (m.ad i).b (cur.toList.take ((m.ad i).o + q) ++ us ++ cur.toList.drop ((m.ad i).o + q + U.size)).toArray ∧
      Rel P G vars m' { s with fresh := false, objs := setObj i (some (.box d')) s.objs, otips := setTips i (outRange q U.size (lookT i s.otips) ++ shiftN q (inRange 0 U.size ts)) s.otips } tm ∧ Fr m m' ∧ m'.U = m.U := by
  obtain ⟨hu, c1, c2, cur, et, vs, c3, c4, c5, c6, c7⟩ := r.objs i _ hbox
  have ot := r.otips i d hbox
  have r5 := (r.le (le_stale s)).le (le_noObj _ i)
  have hle := pathOff_le h8
  have hlen := hus.len
  have wr := wrote_row r (p := (m.ad i).o + q) (us := us) (n := U.size) (X := fun _ => False) c3 hlen (by omega) (fun k h1 h2 => by
    have := c7 (k - (m.ad i).o) (by omega)
    rwa [show (m.ad i).o + (k - (m.ad i).o) = k by omega] at this) (fun _ h => h.elim)
  have kp := keeps_write r wr
  have r6 := r5.write wr (by rw [c2]; exact dead_noObj _ i)
  have fr : Fr m _ := .write wr
  have r7 := r6.putOT (id := i) (ts := outRange q U.size (lookT i s.otips) ++ shiftN q (inRange 0 U.size ts)) (fun d hd => by simp [St.noObj, lookObj_setObj] at hd) fun hf => by cases hf
  refine ⟨cur, et, _, c3, by omega, rfl, ?_, fr, rfl⟩
  have hadw : ∀ w' X, (m.write w' (m.ad i).b X).ad i = m.ad i := fun _ _ => rfl
  generalize hA : m.ad i = A at *
  generalize hw' : m.w.setRow A.b (cur.toList.take (A.o + q) ++ us ++ cur.toList.drop (A.o + q + U.size)).toArray = w' at *
  have hrow : w'.heap[A.b]? = some (Go.Obj.cells (cur.toList.take (A.o + q) ++ us ++ cur.toList.drop (A.o + q + U.size)).toArray et (0, 0)) := by rw [← hw']; exact setRow_heap _ _ _ _ _ _ c3
  have hnew : ∀ k, w'.cell? ⟨A.b, k, none⟩ = if A.o + q ≤ k ∧ k < A.o + q + U.size then us[k - (A.o + q)]? else cur[k]? := fun k => by
    rw [cell_of_row _ _ _ _ _ _ hrow, List.getElem?_toArray, splice_get cur.toList _ _ _ hlen (by simp; omega)]
    simp
  have hold : ∀ j v, vs[j]? = some v → cur[A.o + j]? = some v := fun j v hj => by
    have := c5 j v hj
    rwa [cell_of_row _ _ _ _ _ _ c3] at this
  obtain ⟨hdT, o', d1, d2⟩ := Rep.setp h15 (kp.toTo.rep c6) (us := us) (kp.toTo.rep hus)
  have e10 : o' = q := by rw [h8] at d1; exact (congrArg Prod.fst (Option.some.inj d1)).symm
  subst e10
  have hob : ObjOk (m.write w' A.b fun _ => False) i (.box d') := by
    simp only [ObjOk, hadw]
    refine ⟨by rw [hdT]; exact c1, c2, _, et, _, hrow, ?_, fun j v hj => ?_, d2, fun j hj => ⟨fun hc => (c7 j (by rw [← hdT]; exact hj)).1 (hc.resolve_right fun h => h.2), (c7 j (by rw [← hdT]; exact hj)).2⟩⟩
    · rw [hdT, List.size_toArray]; simp [hlen]; omega
    · rw [splice_get vs _ _ _ hlen (by rw [c6.len]; omega)] at hj
      refine (hnew _).trans ?_
      split at hj
      · rw [if_pos (by omega), show A.o + j - (A.o + o') = j - o' by omega]; exact hj
      · rw [if_neg (by omega)]; exact hold j v hj
  have r8 := r7.putObj (id := i) hu hob fun d0 hd0 off hoff e he => by
    cases hd0
    rw [hadw]
    simp only [lookT_setTips, if_true, List.mem_append] at hoff
    rcases hoff with hoff | hoff
    · obtain ⟨hoff, hno⟩ := mem_outRange.1 hoff
      rw [hdT] at he
      obtain ⟨v, g3, g4⟩ := ot off hoff e he
      refine ⟨v, (hnew _).trans ?_, g4.to kp (by rw [c2]; intro h; cases h)⟩
      rw [if_neg (by omega)]
      rwa [cell_of_row _ _ _ _ _ _ c3] at g3
    · obtain ⟨k, hk, rfl⟩ := mem_shiftN.1 hoff
      obtain ⟨hk1, hk2⟩ := mem_inRange.1 hk
      rw [Nat.zero_add] at hk1
      rw [hdT, tipTy_pathEq h8 hk2] at he
      obtain ⟨v, g3, g4⟩ := hts k hk1 hk2 e he
      refine ⟨v, (hnew _).trans ?_, g4.to kp (by rw [c2]; intro h; cases h)⟩
      rw [if_pos (by omega), show A.o + (o' + k) - (A.o + o') = k by omega]
      exact g3
  refine r8.le ⟨fun _ => .refl _, Nat.le_refl _, fun _ _ h => h, fun id o h => ⟨o, ?_, .refl _ _⟩, fun _ _ h => h, fun h => h⟩
  simp only [St.noObj, lookObj_setObj] at h ⊢
  split
  · rename_i hc; rw [if_pos hc] at h; exact h
  · rename_i hc; rw [if_neg hc] at h; exact h
theorem storeBox_ok (hΓ : GOk P G Γ) (r : Rel P G Γ.vars m s a.tmps) {o : Oper} {nid : Nat} {t : TypeId} {ax x : Operand} {V : XE.V} {i : Nat} {p : List Nat} {T : Ty} (ho : o.op = .store t ax x) (hd : o.dst = none)
    (hv : RV P m V (a.eval x)) (hV : ∀ t, x = .tmp t → V = nthV s.slots t) (hp : RV P m (.bp i p T) (a.eval ax)) {u : Unit} (h : runR (storeP Γ t x V (.bp i p T)) s = some (u, s')) : Goes P G Γ.vars nid m s' o a := by
  simp only [storeP] at h
  obtain ⟨_, s1, h1, h2⟩ := bind_inv h
  obtain ⟨ht, rfl⟩ := chkT_inv hΓ h1
  obtain ⟨ob, s2, h3, h4⟩ := bind_inv h2
  obtain ⟨h5, k1⟩ := getO_inv h3
  have r1 := r.same k1
  cases ob with
  | box d =>
    simp only at h4
    obtain ⟨q, s3, h6, h7⟩ := bind_inv h4
    obtain ⟨h8, rfl⟩ := lift_inv h6
    obtain ⟨y, s4, h9, h10⟩ := bind_inv h7
    obtain ⟨m1, q1, r2, hy, e1, e2, e3, e4⟩ := asT_ok r1 h9 hv
    obtain ⟨g1, g2⟩ := asT_objs h9
    obtain ⟨ts, s5, h11, h12⟩ := bind_inv h10
    obtain ⟨m2, q2, r3, e5, e6, e7, e8, f1⟩ := takeTips_ok r2 h11
    obtain ⟨d', s6, h13, h14⟩ := bind_inv h12
    obtain ⟨h15, rfl⟩ := lift_inv h13
    obtain ⟨_, s7, h16, h17⟩ := bind_inv h14
    obtain ⟨os, s8, h18, h19⟩ := bind_inv h17
    obtain ⟨_, s9, h20, h21⟩ := bind_inv h19
    have k2 := setO_inv h16
    obtain ⟨rfl, k3⟩ := getOT_inv h18
    have k4 := putOT_inv h20
    have k5 := setF_inv h21
    have hbox : lookObj i s6.objs = some (.box d) := by rw [e7]; exact g1 i d (by rw [k1.objs]; exact h5)
    have hy2 : RepV m2.w m2.C q.2 y (a.eval x) := q2.fr.to.repV hy
    have hw2 : m2.w = m.w := q2.w.trans q1.w
    -- the new tips get their label
    have hl : ∀ l, Live s6 l → toTo2 i q.1 l = l := fun l h => by cases l <;> first | rfl | exact h.elim
    have f3 : Fr m2 (m2.relabel (toTo2 i q.1)) := .relabel m2 rfl
    have r4 := r3.relabel (ρ := toTo2 i q.1) rfl hl
    -- the object is named no more, the row is written
    have r5 := (r4.le (le_stale s6)).le (le_noObj _ i)
    obtain ⟨hu, c1, c2, cur, et, vs, c3, c4, c5, c6, c7⟩ := r4.objs i _ hbox
    have had : (m2.relabel (toTo2 i q.1)).ad i = m.ad i := by
      have hu0 : m.U i := (r.objs i _ h5).1
      exact (q2.fr.to.ad i (by rw [q1.U]; exact hu0)).trans (q1.fr.to.ad i hu0)
    obtain ⟨hu, c1, _⟩ := r4.objs i _ hbox
    obtain ⟨hu0, off, c8, c9⟩ := hp
    have e11 : q.1 = off ∧ q.2 = T := by
      rw [← had, c1, h8] at c8
      have := Option.some.inj c8
      rw [this]
      exact ⟨rfl, rfl⟩
    obtain ⟨rfl, rfl⟩ := e11
    have hy3 : RepV (m2.relabel (toTo2 i q.1)).w (m2.relabel (toTo2 i q.1)).C q.2 y (a.eval x) := hy2
    obtain ⟨hyc, _⟩ := RepV.tcells hy3
    obtain ⟨cur, et, m', d1, d2, d3, d4, d5, d6⟩ := r4.storeBox hbox (q := q.1) (U := q.2) h8 h15 hyc (ts := tipsFor V ts) fun k hk1 hk2 e he => by
      have tip : ∃ v, (tcells (a.eval x))[k]? = some v ∧ TipAt m2 (.fl 0 k) e v := by
        rcases e4 with ⟨rfl, hx⟩ | ⟨p', rfl⟩ | hdn
        · simp [tipsFor] at hk1
          subst hk1
          rw [hx]
          exact ⟨_, rfl, .inl rfl⟩
        · cases x with
          | tmp t0 => exact f1 t0 rfl ⟨q.2, y⟩ (by rw [e1, k1.slots, ← hV t0 rfl]; rfl) k hk1 e he
          | const c => simp only [takeTips] at h11; obtain ⟨rfl, _⟩ := ret_inv h11; cases hk1
          | global c => simp only [takeTips] at h11; obtain ⟨rfl, _⟩ := ret_inv h11; cases hk1
          | func c => simp only [takeTips] at h11; obtain ⟨rfl, _⟩ := ret_inv h11; cases hk1
        · cases V <;> first | (cases hk1; done) | (cases hdn; done) | (simp [tipsFor] at hk1; done) | skip
          have hx : a.eval x = .slice none 0 0 := hv
          simp [tipsFor] at hk1
          subst hk1
          rw [hx]
          exact ⟨_, rfl, .inl rfl⟩
      obtain ⟨v, g3, g4⟩ := tip
      exact ⟨v, g3, g4.relabel (ρ := toTo2 i q.1)⟩
    have hrun := run_storeVar (P := P) ht hy3 (b := ((m2.relabel (toTo2 i q.1)).ad i).b) (o := ((m2.relabel (toTo2 i q.1)).ad i).o + q.1) d1 d2
    refine ⟨.skip, undef, m', ?_, .inr ⟨rfl, rfl⟩, ?_, ((q1.fr.trans q2.fr).trans f3).trans d5, fun id hid => .inl ?_⟩
    · simp only [execOp, ho, Instr.storeAt, c9, Instr.sureAddr, Sem.run_bind, Sem.run_pure, Result.andThen_ok]
      rw [had] at hrun
      have hrun' : (storeVar t ⟨(m.ad i).b, (m.ad i).o + q.1, none⟩ (a.eval x)).run P m2.w = _ := hrun
      rw [← hw2, hrun', d3, had]
      rfl
    · rw [put_tmps, hd]
      refine d4.same ⟨?_, ?_, ?_, ?_, ?_⟩
      · rw [k5.slots]; exact k4.slots.trans (k3.slots.trans k2.slots)
      · rw [k5.stips]; exact k4.stips.trans (k3.stips.trans k2.stips)
      · rw [k5.objs]; exact k4.objs.trans (k3.objs.trans k2.objs)
      · rw [k5.otips]; refine k4.otips.trans ?_; simp only [k3.otips, k2.otips]
      · exact k5.fresh
    · rw [d6] at hid
      have : m2.U id := hid
      rw [q2.U, q1.U] at this
      exact this
  | _ => exact (fail_inv h4).elim
end
end Go.XE
/- Operations, part I: stores into made arrays; stores; made arrays; lengths. -/
namespace Go.XE
section
variable {P : Program} {G : Nat → Option GV} {Γ : Env} {m : Mem} {s s' : St} {a : Act}

theorem Rel.storeArr {vars : Nat} {tm : Array Value} (r : Rel P G vars m s tm) {i : Nat} {e : Ty} {xs : List (den e)} (harr : lookObj i s.objs = some (.arr e xs false)) {n : Nat} (hn : n < xs.length) {p : List Nat} {q : Nat} {U : Ty} {y : den U} {z : den e}
    (h8 : pathOff e p = some (q, U)) (h15 : setp ⟨e, xs.getD n (dflt e)⟩ p ⟨U, y⟩ = some ⟨e, z⟩) {us : List Value} (hus : Rep m.w m.C U y us) :
    ∃ cur et m', m.w.heap[(m.ad i).b]? = some (Go.Obj.cells cur et (0, 0)) ∧ n * e.size + q + U.size ≤ cur.size ∧
      m'.w = m.w.setRow (m.ad i).b (cur.toList.take (n * e.size + q) ++ us ++ cur.toList.drop (n * e.size + q + U.size)).toArray ∧
      Rel P G vars m' { s with fresh := false, objs := setObj i (some (.arr e (xs.set n z) false)) s.objs } tm ∧ Fr m m' ∧ m'.U = m.U := by
  obtain ⟨hu, g1, g2, g3, g4, g5, g6, cur, et, g7, g8, g9⟩ := r.objs i _ harr
  have hle := pathOff_le h8
  have hlen := hus.len
  have hsz : n * e.size + e.size ≤ cur.size := by
    rw [g8, ← Nat.succ_mul]
    exact Nat.mul_le_mul_right _ hn
  have r5 := (r.le (le_stale s)).le (le_noObj _ i)
  have wr := wrote_row r (p := n * e.size + q) (us := us) (n := U.size) (X := fun _ => False) g7 hlen (by omega) (fun k _ _ => ⟨g6 rfl k, g5 k⟩) (fun _ h => h.elim)
  have kp := keeps_write r wr
  have r6 := r5.write wr (by rw [g3]; exact dead_noObj _ i)
  have fr : Fr m _ := .write wr
  refine ⟨cur, et, _, g7, by omega, rfl, ?_, fr, rfl⟩
  have hadw : ∀ w' X, (m.write w' (m.ad i).b X).ad i = m.ad i := fun _ _ => rfl
  generalize hA : m.ad i = A at *
  generalize hw' : m.w.setRow A.b (cur.toList.take (n * e.size + q) ++ us ++ cur.toList.drop (n * e.size + q + U.size)).toArray = w' at *
  have hrow : w'.heap[A.b]? = some (Go.Obj.cells (cur.toList.take (n * e.size + q) ++ us ++ cur.toList.drop (n * e.size + q + U.size)).toArray et (0, 0)) := by rw [← hw']; exact setRow_heap _ _ _ _ _ _ g7
  have hnew : ∀ k, w'.cell? ⟨A.b, k, none⟩ = if n * e.size + q ≤ k ∧ k < n * e.size + q + U.size then us[k - (n * e.size + q)]? else cur[k]? := fun k => by
    rw [cell_of_row _ _ _ _ _ _ hrow, List.getElem?_toArray, splice_get cur.toList _ _ _ hlen (by simp; omega)]
    simp
  have hget : xs[n]? = some (xs.getD n (dflt e)) := by simp [List.getD, hn]
  obtain ⟨vs, c5, c6⟩ := g9 n _ hget
  have hold : ∀ j v, vs[j]? = some v → cur[n * e.size + j]? = some v := fun j v hj => by
    have := c5 j v hj
    rwa [cell_of_row _ _ _ _ _ _ g7] at this
  obtain ⟨hdT, o', d1, d2⟩ := Rep.setp h15 (kp.toTo.rep c6) (us := us) (kp.toTo.rep hus)
  have e10 : o' = q := by rw [h8] at d1; exact (congrArg Prod.fst (Option.some.inj d1)).symm
  subst e10
  have hob : ObjOk (m.write w' A.b fun _ => False) i (.arr e (xs.set n z) false) := by
    simp only [ObjOk, hadw]
    refine ⟨g1, by rw [g2]; simp, g3, g4, g5, fun _ j hc => g6 rfl j (hc.resolve_right fun h => h.2), _, et, hrow, ?_, fun k y' hk => ?_⟩
    · rw [List.size_toArray]; simp [hlen]
      rw [← g8]; omega
    · rw [List.getElem?_set] at hk
      by_cases hkn : n = k
      · subst hkn
        rw [if_pos rfl, if_pos hn] at hk
        cases hk
        refine ⟨_, fun j v hj => ?_, d2⟩
        rw [splice_get vs _ _ _ hlen (by rw [c6.len]; omega)] at hj
        refine (hnew _).trans ?_
        split at hj
        · rw [if_pos (by omega), show n * e.size + j - (n * e.size + o') = j - o' by omega]; exact hj
        · rw [if_neg (by omega)]; exact hold j v hj
      · rw [if_neg hkn] at hk
        obtain ⟨us', f1, f2⟩ := g9 k y' hk
        refine ⟨us', fun j v hj => (hnew _).trans ?_, kp.toTo.rep f2⟩
        have hj' : j < e.size := by rw [← f2.len]; exact (List.getElem?_eq_some_iff.1 hj).1
        have f3 := f1 j v hj
        rw [cell_of_row _ _ _ _ _ _ g7] at f3
        rw [if_neg]
        · exact f3
        · rintro ⟨q1, q2⟩
          rcases Nat.lt_or_gt_of_ne hkn with hlt | hlt
          · have : (n + 1) * e.size ≤ k * e.size := Nat.mul_le_mul_right _ hlt
            rw [Nat.succ_mul] at this
            omega
          · have : (k + 1) * e.size ≤ n * e.size := Nat.mul_le_mul_right _ hlt
            rw [Nat.succ_mul] at this
            omega
  have r8 := r6.putObj (id := i) hu hob fun d0 hd0 => by cases hd0
  refine r8.le ⟨fun _ => .refl _, Nat.le_refl _, fun _ _ h => h, fun id o h => ⟨o, ?_, .refl _ _⟩, fun _ _ h => h, fun h => h⟩
  simp only [St.noObj, lookObj_setObj] at h ⊢
  split
  · rename_i hc; rw [if_pos hc] at h; exact h
  · rename_i hc; rw [if_neg hc] at h; exact h
theorem store_ok (hΓ : GOk P G Γ) (r : Rel P G Γ.vars m s a.tmps) {o : Oper} {nid : Nat} {t : TypeId} {ax x : Operand} (ho : o.op = .store t ax x) {u : Unit} (h : runR (evOp Γ o nid) s = some (u, s')) : Goes P G Γ.vars nid m s' o a := by
  simp only [evOp, ho] at h
  cases hd : o.dst with
  | some d0 => simp only [hd, Option.isNone_some, cond_false] at h; exact (fail_inv h).elim
  | none =>
    simp only [hd, Option.isNone_none, cond_true] at h
    obtain ⟨A, s1, h1, h2⟩ := bind_inv h
    obtain ⟨k1, k2, k2'⟩ := opnd_ok hΓ r h1
    have r1 := r.same k1
    obtain ⟨V, s2, h3, h4⟩ := bind_inv h2
    obtain ⟨k3, k4, k4'⟩ := opnd_ok hΓ r1 h3
    have r2 := r1.same k3
    cases A with
    | bp i p T => exact storeBox_ok hΓ r2 ho hd k4 (fun t0 ht => by rw [k3.slots]; exact k4' t0 ht) k2 h4
    | ep i n p T =>
      simp only [storeP] at h4
      obtain ⟨_, s3, h5, h6⟩ := bind_inv h4
      obtain ⟨ht, rfl⟩ := chkT_inv hΓ h5
      obtain ⟨ob, s4, h7, h8⟩ := bind_inv h6
      obtain ⟨h9, k5⟩ := getO_inv h7
      have r3 := r2.same k5
      cases ob with
      | arr e xs fr =>
        cases fr with
        | true => exact (fail_inv h8).elim
        | false =>
          simp only [cond_false] at h8
          obtain ⟨q, s5, g1, g2⟩ := bind_inv h8
          obtain ⟨g3, rfl⟩ := lift_inv g1
          obtain ⟨y, s6, g4, g5⟩ := bind_inv g2
          obtain ⟨rfl, hy⟩ := datT_ok g4 k4
          obtain ⟨d', s7, g6, g7⟩ := bind_inv g5
          obtain ⟨g8, rfl⟩ := lift_inv g6
          obtain ⟨z, s8, g9, g10⟩ := bind_inv g7
          obtain ⟨g11, rfl⟩ := lift_inv g9
          obtain ⟨_, s9, g12, g13⟩ := bind_inv g10
          have k6 := setO_inv g12
          have k7 := setF_inv g13
          have := as_eq g11
          subst this
          obtain ⟨hu, c1, c2, off, c3, c4⟩ := k2
          have ok := r2.objs i _ h9
          have e1 : (m.ad i).T = e := ok.2.1
          have e2 : (m.ad i).n = xs.length := ok.2.2.1
          have e11 : q.1 = off ∧ q.2 = T := by
            rw [e1, g3] at c3
            have := Option.some.inj c3
            rw [this]
            exact ⟨rfl, rfl⟩
          obtain ⟨rfl, rfl⟩ := e11
          rw [e2] at c2
          obtain ⟨hyc, _⟩ := RepV.tcells hy
          obtain ⟨cur, et, m', d1, d2, d3, d4, d5, d6⟩ := r3.storeArr (i := i) (n := n.toNat) (by rw [k5.objs]; exact h9) (by omega) g3 g8 hyc
          have hrun := run_storeVar (P := P) ht hy d1 d2
          refine ⟨.skip, undef, m', ?_, .inr ⟨rfl, rfl⟩, ?_, d5, fun id hid => .inl (by rw [← d6]; exact hid)⟩
          · rw [e1] at c4
            simp only [execOp, ho, Instr.storeAt, c4, Instr.sureAddr, Sem.run_bind, Sem.run_pure, Result.andThen_ok]
            rw [hrun, d3]
            rfl
          · rw [put_tmps, hd]
            exact d4.same ⟨k7.slots.trans k6.slots, k7.stips.trans k6.stips, k7.objs.trans k6.objs, k7.otips.trans k6.otips, k7.fresh⟩
      | _ => exact (fail_inv h8).elim
    | _ => exact (fail_inv h4).elim
/-! ### Made arrays -/
theorem flatten_zero (e : Ty) : ∀ n i, i < n → ((List.replicate n (zeroCells e)).flatten.drop (i * e.size)).take e.size = zeroCells e
  | 0, i, h => by omega
  | n + 1, 0, _ => by
    have hl : (zeroCells e).length = e.size := (zero_rep (default : World) (fun _ _ => False) e).len
    simp [List.replicate_succ, ← hl]
  | n + 1, i + 1, h => by
    have hl : (zeroCells e).length = e.size := (zero_rep (default : World) (fun _ _ => False) e).len
    rw [List.replicate_succ, List.flatten_cons, Nat.succ_mul, Nat.add_comm, take_drop_append _ _ _ _ hl]
    exact flatten_zero e n i (by omega)
theorem flat_get (e : Ty) (n : Nat) (he : 0 < e.size) (j : Nat) (hj : j < n * e.size) : (List.replicate n (zeroCells e)).flatten[j]? = (zeroCells e)[j % e.size]? := by
  have hlt : j / e.size < n := (Nat.div_lt_iff_lt_mul he).2 hj
  have h1 := flatten_zero e n (j / e.size) hlt
  have h2 : ((((List.replicate n (zeroCells e)).flatten).drop (j / e.size * e.size)).take e.size)[j % e.size]? = (zeroCells e)[j % e.size]? := by rw [h1]
  rw [List.getElem?_take, if_pos (Nat.mod_lt _ he), List.getElem?_drop] at h2
  rwa [Nat.mul_comm, Nat.div_add_mod] at h2
theorem made_cells (e : Ty) (n : Nat) (he : 0 < e.size) : ((Array.range (n * e.size)).map ((zeroV e).cells[· % (zeroV e).cells.size]!)).toList = (List.replicate n (zeroCells e)).flatten := by
  have hz : (zeroV e).cells.toList = zeroCells e := zeroV_cells e
  have hl : (zeroCells e).length = e.size := (zero_rep (default : World) (fun _ _ => False) e).len
  have hs : (zeroV e).cells.size = e.size := by rw [← hl, ← hz]; simp
  apply List.ext_getElem?
  intro j
  by_cases hj : j < n * e.size
  · rw [flat_get e n he j hj]
    have hm := Nat.mod_lt j he
    rw [← hz]
    simp [hj, hs, hm]
  · rw [List.getElem?_eq_none (by simp; omega), List.getElem?_eq_none]
    simp [hl]; omega
theorem makeSlice_ok (hΓ : GOk P G Γ) (r : Rel P G Γ.vars m s a.tmps) {o : Oper} {nid : Nat} (hnid : ¬ m.U nid) {t : TypeId} {l c : Operand} (ho : o.op = .makeSlice t l c) {u : Unit} (h : runR (evOp Γ o nid) s = some (u, s')) : Goes P G Γ.vars nid m s' o a := by
  simp only [evOp, ho] at h
  cases l with
  | tmp i =>
    cases c with
    | tmp j =>
      simp only at h
      cases hij : Nat.beq i j with
      | false => rw [hij] at h; exact (fail_inv h).elim
      | true =>
        have := Nat.eq_of_beq_eq_true hij
        subst this
        simp only [hij, cond_true] at h
        obtain ⟨T, s1, h1, h2⟩ := bind_inv h
        obtain ⟨h3, rfl⟩ := lift_inv h1
        have ht := hΓ.τ t T h3
        cases T with
        | sl e =>
          simp only at h2
          obtain ⟨V, s2, h4, h5⟩ := bind_inv h2
          obtain ⟨k1, k2, k2'⟩ := opnd_ok hΓ r h4
          have r1 := r.same k1
          obtain ⟨⟨kd, n⟩, s3, h6, h7⟩ := bind_inv h5
          obtain ⟨rfl, hx⟩ := asIntV_ok h6 k2
          obtain ⟨_, s4, h8, h9⟩ := bind_inv h7
          obtain ⟨c1, c2, rfl⟩ := need2 h8
          simp only [decide_eq_true_eq] at c1 c2 hx
          obtain ⟨_, s5, h10, h11⟩ := bind_inv h9
          obtain ⟨_, s6, h12, h13⟩ := bind_inv h11
          obtain ⟨et, d1, d2, d3⟩ := ht.2
          have d3' : TyOk P et e := d3
          obtain ⟨i0, b1, b2, b3, b4⟩ := d3'.base
          have c2' : n ≤ 4294967296 := c2
          let cells : Array Value := madeCells (zeroV e).cells (n.toNat * e.size)
          have hcl : cells.toList = (List.replicate n.toNat (zeroCells e)).flatten := made_cells e n.toNat d2
          have hcs : cells.size = n.toNat * e.size := size_madeCells _ _
          have hrun : (Instr.makeSlice t (.int kd n) (.int kd n)).run P m.w = .ok (.slice (some ⟨m.w.heap.size, 0, none⟩) n.toNat n.toNat) (newW m.w cells et) := by
            have hbytes : (i0.bytes : Int) * n ≤ 281474976710656 := by
              have h1 : (i0.bytes : Int) ≤ 16384 := by omega
              have : (i0.bytes : Int) * n ≤ 16384 * 4294967296 := Int.mul_le_mul h1 c2' c1 (by omega)
              omega
            have := run_make (P := P) m.w t et i0 (zeroV e) d1 b1 b4 kd kd n n c1 (Int.le_refl _) hbytes (by omega)
            rw [b2] at this
            exact this
          have hlay := lay_ok (nid := nid) (w' := newW m.w cells et) (A := ⟨m.w.heap.size, 0, n.toNat, e⟩) (o := .arr e (List.replicate n.toNat (dflt e)) false) (ts := []) r1 hnid ⟨rfl, rfl, rfl⟩ rfl (fun hto => by
            simp only [ObjOk, layM_ad]
            refine ⟨trivial, by simp, layM_L rfl, d2, fun j => (layM_free r1 (A := ⟨m.w.heap.size, 0, n.toNat, e⟩) rfl j).2, fun _ j => (layM_free r1 (A := ⟨m.w.heap.size, 0, n.toNat, e⟩) rfl j).1, cells, et, newW_new _ _ _, by rw [hcs]; simp, fun k y hk => ?_⟩
            have hk' : k < n.toNat := by have := (List.getElem?_eq_some_iff.1 hk).1; simpa using this
            have hy : y = dflt e := by simp [hk'] at hk; exact hk.symm
            refine ⟨zeroCells e, fun j v hj => ?_, by rw [hy]; exact zero_rep _ _ e⟩
            have hj' : j < e.size := by rw [← (zero_rep (default : World) (fun _ _ => False) e).len]; exact (List.getElem?_eq_some_iff.1 hj).1
            have h14 : cells.toList[k * e.size + j]? = some v := by
              rw [hcl, flat_get e _ d2 _ (by have : (k + 1) * e.size ≤ n.toNat * e.size := Nat.mul_le_mul_right _ hk'; rw [Nat.succ_mul] at this; omega), Nat.add_comm, Nat.add_mul_mod_self_right, Nat.mod_eq_of_lt hj']
              exact hj
            have h15 := cellsAt_new (w := m.w) (w' := newW m.w cells et) (cur := cells) (et := et) rfl rfl _ _ h14
            rw [Nat.zero_add] at h15
            exact h15) fun d hd => by cases hd
          obtain ⟨r2, f2, hU⟩ := hlay
          refine fin f2 hU (r2.same (setOT_same h10 h12)) (v := .slice (some ⟨m.w.heap.size, 0, none⟩) n.toNat n.toNat) ?_ h13 (V := .own nid) ⟨.inr rfl, by rw [layM_ad]⟩ (fun D hD => by cases hD) fun _ _ _ e => by cases e
          simp only [execOp, ho, hx, Sem.run_bind, hrun, Result.andThen_ok, Sem.run_pure]
          rfl
        | _ => exact (fail_inv h2).elim
    | _ => exact (fail_inv h).elim
  | _ => exact (fail_inv h).elim
end
end Go.XE
/- Operations, part J: append. -/
namespace Go.XE
section
variable {P : Program} {G : Nat → Option GV} {Γ : Env} {m : Mem} {s s' : St} {a : Act}

theorem run_app_room (w : World) (t ty et : TypeId) (i : TypeInfo) (ht : P.underlying t = some (.slice et)) (hi : P.info? et = some i) (g sLen sCap : Nat) (cur : Array Value) (e' : TypeId) (hg : w.heap[g]? = some (Go.Obj.cells cur e' (0, 0)))
    (x : Value) (k : Nat) (news : List Value) (hk : (Builtin.lenOf x).run P w = .ok k w) (hx : (Builtin.firstCells i.size k x).run P w = .ok news.toArray w) (h1 : ∀ u ∈ news, u.oneCell' = true) (hroom : sLen + k ≤ sCap) (hfit : sLen * i.size + news.length ≤ cur.size) :
    (Builtin.append_ #[t, t] ty #[.slice (some ⟨g, 0, none⟩) sLen sCap, x]).run P w =
      .ok (.slice (some ⟨g, 0, none⟩) (sLen + k) sCap) (w.setRow g (cur.toList.take (sLen * i.size) ++ news ++ cur.toList.drop (sLen * i.size + news.length)).toArray) := by
  have hst := run_storeCells_at P g (sLen * i.size) e' news 0 cur w hg (by simpa using hfit) h1
  simp only [Nat.add_zero] at hst
  simp [Builtin.append_, run_underlying ht, sizeOf, typeInfo, hi, hk, hroom, hx, Addr.add_lit, hst]
theorem run_app_none (w : World) (t ty et : TypeId) (i : TypeInfo) (ht : P.underlying t = some (.slice et)) (hi : P.info? et = some i) (x : Value) (hk : (Builtin.lenOf x).run P w = .ok 0 w) (hx : (Builtin.firstCells i.size 0 x).run P w = .ok #[] w) :
    (Builtin.append_ #[t, t] ty #[.slice none 0 0, x]).run P w = .ok (.slice none 0 0) w := by
  simp [Builtin.append_, run_underlying ht, sizeOf, typeInfo, hi, hk, hx]
theorem run_app_grow (w : World) (t ty et : TypeId) (i : TypeInfo) (z : Value) (ht : P.underlying t = some (.slice et)) (hi : P.info? et = some i) (hz : i.zero = some z) (base : Option Addr) (sLen sCap : Nat) (olds : List Value)
    (holds : (Builtin.firstCells i.size sLen (.slice base sLen sCap)).run P w.drew = .ok olds.toArray w.drew) (x : Value) (k : Nat) (news : List Value) (hk : (Builtin.lenOf x).run P w = .ok k w) (hx : (Builtin.firstCells i.size k x).run P w.drew = .ok news.toArray w.drew)
    (hg : sCap < sLen + k) (h63 : ((sLen + k : Nat) : Int) ≤ 9223372036854775807) (hfit : Builtin.nextslicecap (sLen + k) sCap * i.bytes ≤ 281474976710656) :
    (Builtin.append_ #[t, t] ty #[.slice base sLen sCap, x]).run P w =
      .ok (.slice (some ⟨w.heap.size, 0, none⟩) (sLen + k) (grownCap w (sLen + k) sCap et))
        (w.drew.alloc (.cells (olds.toArray ++ news.toArray ++ Builtin.zeroCells z.cells (grownCap w (sLen + k) sCap et - (sLen + k))) et)) := by
  have hn : ¬ (sLen + k ≤ sCap) := by omega
  have h63' : ¬ (9223372036854775807 < ((sLen : Int) + (k : Int))) := by omega
  have h48' : ¬ (281474976710656 < Builtin.nextslicecap (sLen + k) sCap * i.bytes) := by omega
  have hs : (Builtin.lenOf (.slice base sLen sCap)).run P w = .ok sLen w := by simp [Builtin.lenOf]
  simp [Builtin.append_, run_underlying ht, sizeOf, typeInfo, zeroValue, hi, hz, hk, hn, h63', h48', Question.forced, hx, holds, newRow, grownCap]
  congr 2
  apply Array.ext'
  simp [List.append_assoc]
/-- The cells behind a slice. -/
theorem slice_flat {w : World} {C : Cells} {e : Ty} : ∀ {xs : List (den e)} {b off : Nat},
    (∀ i y, xs[i]? = some y → ∃ us, cellsAt w b (off + i * e.size) us ∧ (∀ j, j < e.size → C b (off + i * e.size + j)) ∧ Rep w C e y us) →
    ∃ ns : List Value, ns.length = xs.length * e.size ∧ cellsAt w b off ns ∧ (∀ u ∈ ns, u.oneCell' = true) ∧ ∀ i y, xs[i]? = some y → Rep w C e y ((ns.drop (i * e.size)).take e.size)
  | [], b, off, _ => ⟨[], by simp, fun j v h => by simp at h, by simp, fun i y h => by simp at h⟩
  | x :: xs, b, off, h => by
    obtain ⟨us, h1, _, h3⟩ := h 0 x rfl
    obtain ⟨ns, k1, k2, k3, k4⟩ := slice_flat (xs := xs) (b := b) (off := off + e.size) fun i y hy => by
      have := h (i + 1) y (by simpa using hy)
      rwa [Nat.succ_mul, Nat.add_comm (i * e.size), ← Nat.add_assoc] at this
    have hl := h3.len
    refine ⟨us ++ ns, by rw [List.length_append, hl, k1, List.length_cons, Nat.succ_mul, Nat.add_comm], fun j v hj => ?_, fun u hu => ?_, fun i y hy => ?_⟩
    · by_cases hlt : j < us.length
      · rw [List.getElem?_append_left hlt] at hj
        have := h1 j v hj
        simpa using this
      · rw [List.getElem?_append_right (by omega)] at hj
        have := k2 _ v hj
        rwa [hl, Nat.add_assoc, show e.size + (j - e.size) = j by omega] at this
    · rcases List.mem_append.1 hu with hu | hu
      · exact h3.one u hu
      · exact k3 u hu
    · cases i with
      | zero =>
        simp at hy
        subst hy
        simpa [← hl] using h3
      | succ i =>
        rw [Nat.succ_mul, Nat.add_comm, take_drop_append _ _ _ _ hl]
        exact k4 i y (by simpa using hy)
/-- What is appended. -/
theorem app_arg {w : World} {C : Cells} {e : Ty} {ys : List (den e)} {x : Value} (h : RepV w C (.sl e) ys x) :
    ∃ news : List Value, news.length = ys.length * e.size ∧ (Builtin.lenOf x).run P w = .ok ys.length w ∧ (∀ w', w'.heap = w.heap → (Builtin.firstCells e.size ys.length x).run P w' = .ok news.toArray w') ∧ (∀ u ∈ news, u.oneCell' = true) ∧
      ∀ i y, ys[i]? = some y → Rep w C e y ((news.drop (i * e.size)).take e.size) := by
  obtain ⟨p, cap, rfl, h2, h3, h4⟩ := RepV.sl_inv h
  have hl : (Builtin.lenOf (.slice p ys.length cap)).run P w = .ok ys.length w := by simp [Builtin.lenOf]
  cases p with
  | none =>
    have h5 : List.length (α := den e) ys = 0 := by have := h3 rfl; have h6 : List.length (α := den e) ys ≤ cap := h2; omega
    refine ⟨[], by rw [h5]; simp, hl, fun w' _ => run_firstCells_none w' _ _ _ _, by simp, fun i y hy => ?_⟩
    have := (List.getElem?_eq_some_iff.1 hy).1
    omega
  | some ad =>
    obtain ⟨h5, h6⟩ := h4 ad rfl
    obtain ⟨ns, k1, k2, k3, k4⟩ := slice_flat h6
    refine ⟨ns, k1, hl, fun w' hw => run_firstCells_some w' _ _ _ _ _ _ k1 fun j v hj => ?_, k3, k4⟩
    have h5 := h5 (by
      have h7 : List.length (α := den e) ys ≤ cap := h2
      have h8 := (List.getElem?_eq_some_iff.1 hj).1
      rcases Nat.eq_zero_or_pos (List.length (α := den e) ys) with h9 | h9
      · rw [k1, h9] at h8; omega
      · omega)
    rw [addr_eta h5, add_mk]
    have := k2 j v hj
    simpa [World.cell?, hw] using this
/-- The elements of two rows, one behind the other. -/
theorem rows_app {w : World} {C : Cells} {e : Ty} {xs ys : List (den e)} {olds news : List Value} (h1 : olds.length = xs.length * e.size)
    (k1 : ∀ i y, xs[i]? = some y → Rep w C e y ((olds.drop (i * e.size)).take e.size)) (k2 : ∀ i y, ys[i]? = some y → Rep w C e y ((news.drop (i * e.size)).take e.size)) :
    ∀ i y, (xs ++ ys)[i]? = some y → Rep w C e y (((olds ++ news).drop (i * e.size)).take e.size) := fun i y hy => by
  by_cases hi : i < xs.length
  · rw [List.getElem?_append_left hi] at hy
    have := k1 i y hy
    have hle : (i + 1) * e.size ≤ xs.length * e.size := Nat.mul_le_mul_right _ hi
    rw [Nat.succ_mul] at hle
    rw [List.drop_append_of_le_length (by omega), List.take_append_of_le_length (by simp; omega)]
    exact this
  · rw [List.getElem?_append_right (by omega)] at hy
    have := k2 _ y hy
    have e1 : i * e.size = xs.length * e.size + (i - xs.length) * e.size := by rw [← Nat.add_mul]; congr 1; omega
    rw [e1, take_drop_append _ _ _ _ h1]
    exact this
/-- A row in a block, all of it cold, as a slice. -/
theorem row_rep {w : World} {C : Cells} {e : Ty} {xs : List (den e)} {b cap N : Nat} {row : List Value} (hN : xs.length = N) (hcap : N ≤ cap) (hc : cellsAt w b 0 row) (hC : ∀ j, j < N * e.size → C b j)
    (k : ∀ i y, xs[i]? = some y → Rep w C e y ((row.drop (i * e.size)).take e.size)) : RepV w C (.sl e) xs (.slice (some ⟨b, 0, none⟩) N cap) := by
  subst hN
  refine .inr ⟨rfl, some ⟨b, 0, none⟩, cap, rfl, hcap, fun h => (by cases h), fun ad had => ?_⟩
  cases had
  refine ⟨fun _ => rfl, fun i y hy => ⟨_, ?_, fun j hj => ?_, k i y hy⟩⟩
  · exact hc.sub (i * e.size) e.size
  · have hi := (List.getElem?_eq_some_iff.1 hy).1
    have hle : (i + 1) * e.size ≤ xs.length * e.size := Nat.mul_le_mul_right _ hi
    rw [Nat.succ_mul] at hle
    exact hC _ (by simp only [Nat.zero_add]; omega)
/-- An append to a row that is ours: what it gives. 'k': of the float. -/
theorem app_ok {vars : Nat} {tm : Array Value} (r : Rel P G vars m s tm) {t ty : TypeId} {e : Ty} (ht : TyOk P t (.sl e)) {xs ys : List (den e)} {v x : Value} (hv : RepV m.w m.C (.sl e) xs v) (htip : TipAt m (.fl 0 0) e v)
    (hx : RepV m.w m.C (.sl e) ys x) (hlim : xs.length + ys.length ≤ lim) :
    ∃ u m', (Builtin.append_ #[t, t] ty #[v, x]).run P m.w = .ok u m'.w ∧ Rel P G vars m' s tm ∧ Fr m m' ∧ m'.U = m.U ∧ RepV m'.w m'.C (.sl e) (xs ++ ys : List (den e)) u ∧ TipAt m' (.fl 0 0) e u := by
  obtain ⟨et, d1, d2, d3⟩ := ht.2
  have d3' : TyOk P et e := d3
  obtain ⟨i0, b1, b2, b3, b4⟩ := d3'.base
  obtain ⟨news, n1, n2, n3, n4, n5⟩ := app_arg (P := P) hx
  obtain ⟨olds, o1, o2, o3, o4, o5⟩ := app_arg (P := P) hv
  have hlim' : xs.length + ys.length ≤ 4294967296 := hlim
  have hz : (zeroV e).cells.size = e.size := by rw [← Array.length_toList, zeroV_cells, (zero_rep (default : World) (fun _ _ => False) e).len]
  have happ : (xs ++ ys : List (den e)).length = xs.length + ys.length := List.length_append
  have hrow : (olds ++ news).length = (xs ++ ys : List (den e)).length * e.size := by rw [List.length_append, o1, n1, happ, Nat.add_mul]
  have grow : ∀ base cap, v = .slice base xs.length cap → cap < xs.length + ys.length → ∃ u m', (Builtin.append_ #[t, t] ty #[v, x]).run P m.w = .ok u m'.w ∧ Rel P G vars m' s tm ∧ Fr m m' ∧ m'.U = m.U ∧ RepV m'.w m'.C (.sl e) (xs ++ ys : List (den e)) u ∧ TipAt m' (.fl 0 0) e u := fun base cap hv' hlt => by
    have hbytes : (xs.length + ys.length) * i0.bytes ≤ 140737488355328 := by
      have : (xs.length + ys.length) * i0.bytes ≤ 4294967296 * 16384 := Nat.mul_le_mul hlim' b3
      omega
    have o3' := o3 m.w.drew rfl
    have n3' := n3 m.w.drew rfl
    rw [hv', ← b2] at o3'
    rw [← b2] at n3'
    have hrun := run_app_grow (P := P) m.w t ty et i0 (zeroV e) d1 b1 b4 base xs.length cap olds o3' x ys.length news n2 n3' hlt (by omega) (growslice_fits hlt hbytes)
    have hge := grownCap_ge m.w (xs.length + ys.length) cap et
    generalize grownCap m.w (xs.length + ys.length) cap et = gc at hrun hge
    have hw' : (m.w.drew.alloc (.cells (olds.toArray ++ news.toArray ++ Builtin.zeroCells (zeroV e).cells (gc - (xs.length + ys.length))) et)).heap = m.w.heap.push (Go.Obj.cells (olds.toArray ++ news.toArray ++ Builtin.zeroCells (zeroV e).cells (gc - (xs.length + ys.length))) et (0, 0)) ∧ (m.w.drew.alloc (.cells (olds.toArray ++ news.toArray ++ Builtin.zeroCells (zeroV e).cells (gc - (xs.length + ys.length))) et)).os = m.w.os ∧ (m.w.drew.alloc (.cells (olds.toArray ++ news.toArray ++ Builtin.zeroCells (zeroV e).cells (gc - (xs.length + ys.length))) et)).output = m.w.output := ⟨rfl, rfl, rfl⟩
    generalize hcells : olds.toArray ++ news.toArray ++ Builtin.zeroCells (zeroV e).cells (gc - (xs.length + ys.length)) = cells at hrun hw'
    generalize m.w.drew.alloc (.cells cells et) = w' at hrun hw'
    have f := Fr.alloc m hw' (.fl 0 0) fun j => j < (xs.length + ys.length) * e.size
    have r' := r.alloc hw' (.fl 0 0) fun j => j < (xs.length + ys.length) * e.size
    have hb : w'.heap[m.w.heap.size]? = some (Go.Obj.cells cells et (0, 0)) := by rw [hw'.1]; simp
    refine ⟨_, m.alloc w' (.fl 0 0) fun j => j < (xs.length + ys.length) * e.size, by rw [hv']; exact hrun, r', f, rfl, ?_, .inr ⟨m.w.heap.size, _, _, cells, et, rfl, ?_, hb, hge, ?_, fun j hj => ⟨fun hc => ?_, fun hk => ?_⟩⟩⟩
    · refine row_rep (row := olds ++ news) happ hge (fun j v hj => ?_) (fun j hj => .inr ⟨rfl, hj⟩) (rows_app o1 (fun i y hy => f.to.rep (o5 i y hy)) fun i y hy => f.to.rep (n5 i y hy))
      show w'.cell? _ = _
      rw [cell_of_row _ _ _ _ _ _ hb, ← hcells, Nat.zero_add]
      have hlt := (List.getElem?_eq_some_iff.1 hj).1
      rw [Array.getElem?_append_left (by simpa using hlt)]
      simpa [← Array.getElem?_toList] using hj
    · show (if _ then _ else _) = _
      rw [if_pos rfl]
    · rw [← hcells]
      simp only [Array.size_append, List.size_toArray, o1, n1, size_zeroCells, hz, ← Nat.add_mul]
      exact Nat.mul_le_mul_right _ (by omega)
    · rcases hc with hc | ⟨_, hc⟩
      · have := r.bC _ _ hc; omega
      · omega
    · have := r.bK _ _ hk; omega
  rcases htip with rfl | ⟨b, n, cap, cur, et', rfl, t1, t2, t3, t4, t5⟩
  · have hx0 : xs.length = 0 := by
      obtain ⟨p, cap, q1, q2, q3, q4⟩ := RepV.sl_inv hv
      exact (Value.slice.inj q1).2.1.symm
    by_cases hy0 : ys.length = 0
    · have hxs : xs = [] := List.length_eq_zero_iff.1 hx0
      have hys : ys = [] := List.length_eq_zero_iff.1 hy0
      subst hxs
      subst hys
      have n3' := n3 m.w rfl
      have hnil : news = [] := by simpa using n1
      rw [hnil, ← b2] at n3'
      exact ⟨_, m, run_app_none (P := P) m.w t ty et i0 d1 b1 x n2 n3', r, .refl m, rfl, hv, .inl rfl⟩
    · exact grow none 0 (by rw [hx0]) (by omega)
  · obtain ⟨p, cap0, q1, q2, q3, q4⟩ := RepV.sl_inv hv
    have e1 : n = xs.length := by cases q1; rfl
    have e2 : p = some ⟨b, 0, none⟩ := by cases q1; rfl
    subst e1
    subst e2
    obtain ⟨_, q6⟩ := q4 _ rfl
    by_cases hroom : xs.length + ys.length ≤ cap
    · have n3' := n3 m.w rfl
      rw [← b2] at n3'
      have hcap : (xs.length + ys.length) * e.size ≤ cap * e.size := Nat.mul_le_mul_right _ hroom
      rw [Nat.add_mul] at hcap
      have hrun := run_app_room (P := P) m.w t ty et i0 d1 b1 b xs.length cap cur et' t2 x ys.length news n2 n3' n4 hroom (by rw [b2, n1]; omega)
      rw [b2, n1] at hrun
      have wr := wrote_row r (p := xs.length * e.size) (us := news) (n := ys.length * e.size) (X := fun j => xs.length * e.size ≤ j ∧ j < (xs.length + ys.length) * e.size) t2 n1 (by omega) (fun k h1 _ => t5 k h1) fun j hj => (t5 j hj.1).2
      have f := Fr.write wr
      have r' := r.write wr (by rw [t1]; exact fun h => h)
      have hb := setRow_heap m.w b cur (cur.toList.take (xs.length * e.size) ++ news ++ cur.toList.drop (xs.length * e.size + ys.length * e.size)).toArray et' (0, 0) t2
      have hnew : ∀ k, (m.w.setRow b (cur.toList.take (xs.length * e.size) ++ news ++ cur.toList.drop (xs.length * e.size + ys.length * e.size)).toArray).cell? ⟨b, k, none⟩ = if xs.length * e.size ≤ k ∧ k < xs.length * e.size + ys.length * e.size then news[k - xs.length * e.size]? else cur[k]? := fun k => by
        rw [cell_of_row _ _ _ _ _ _ hb, List.getElem?_toArray, splice_get cur.toList _ _ _ n1 (by simp; omega)]
        simp
      have hC : ∀ j, j < xs.length * e.size → m.C b j := fun j hj => by
        have h1 : j / e.size < xs.length := (Nat.div_lt_iff_lt_mul d2).2 hj
        obtain ⟨us, _, c2, _⟩ := q6 (j / e.size) xs[j / e.size] (by simp [h1])
        have := c2 (j % e.size) (Nat.mod_lt _ d2)
        rwa [Nat.zero_add, Nat.mul_comm, Nat.div_add_mod] at this
      have hold : ∀ j v, olds[j]? = some v → cur[j]? = some v := fun j v hj => by
        obtain ⟨ns, k1, k2, k3, k4⟩ := slice_flat q6
        have h1 := o3 m.w rfl
        have h2 := run_firstCells_some (P := P) m.w e.size xs.length ⟨b, 0, none⟩ xs.length cap ns k1 fun j v hj => by rw [add_mk]; exact k2 j v hj
        rw [h2] at h1
        have h3 : ns = olds := by
          have := congrArg (fun z : Result (Array Value) => match z with | .ok a _ => a.toList | _ => []) h1
          simpa using this
        subst h3
        have := k2 j v hj
        rwa [cell_of_row _ _ _ _ _ _ t2, Nat.zero_add] at this
      refine ⟨_, _, hrun, r', f, rfl, ?_, .inr ⟨b, _, cap, _, et', rfl, t1, hb, hroom, ?_, fun j hj => ⟨fun hc => ?_, ?_⟩⟩⟩
      · refine row_rep (row := olds ++ news) happ hroom (fun j v hj => ?_) (fun j hj => ?_) (rows_app o1 (fun i y hy => f.to.rep (o5 i y hy)) fun i y hy => f.to.rep (n5 i y hy))
        · rw [Nat.zero_add]
          refine (hnew j).trans ?_
          have hlt := (List.getElem?_eq_some_iff.1 hj).1
          rw [List.length_append, o1, n1] at hlt
          by_cases hj1 : j < xs.length * e.size
          · rw [if_neg (by omega)]
            rw [List.getElem?_append_left (by omega)] at hj
            exact hold j v hj
          · rw [if_pos (by omega)]
            rw [List.getElem?_append_right (by omega), o1] at hj
            exact hj
        · by_cases hj1 : j < xs.length * e.size
          · exact .inl (hC j hj1)
          · exact .inr ⟨rfl, by omega, hj⟩
      · rw [List.size_toArray]; simp [n1]; omega
      · rw [Nat.add_mul] at hj
        rcases hc with hc | ⟨_, hc⟩
        · exact (t5 j (by omega)).1 hc
        · rw [Nat.add_mul] at hc; omega
      · rw [Nat.add_mul] at hj
        exact (t5 j (by omega)).2
    · exact grow (some ⟨b, 0, none⟩) cap rfl (by omega)
end
end Go.XE
/- Operations, part K: builtins. -/
namespace Go.XE
section
variable {P : Program} {G : Nat → Option GV} {Γ : Env} {m : Mem} {s s' : St} {a : Act}

theorem arr1 {α : Type} {xs : Array α} {x : α} (h : xs.toList = [x]) : xs = #[x] := by apply Array.ext'; simpa using h
theorem arr2 {α : Type} {xs : Array α} {x y : α} (h : xs.toList = [x, y]) : xs = #[x, y] := by apply Array.ext'; simpa using h
theorem tcells_slice (p : Option Addr) (n c : Nat) : tcells (.slice p n c) = [.slice p n c] := rfl
theorem TipAt.slice {l : Lab} {e : Ty} {v : Value} (h : TipAt m l e v) : ∃ p n c, v = .slice p n c := by
  rcases h with rfl | ⟨b, n, c, _, _, rfl, _⟩
  · exact ⟨_, _, _, rfl⟩
  · exact ⟨_, _, _, rfl⟩
theorem tipOf_ok {vars : Nat} (r : Rel P G vars m s a.tmps) {x : Operand} {e : Ty} {xs : List (den e)} {p : Option Place} (hV : ∀ t, x = .tmp t → V.dat ⟨.sl e, xs⟩ p = nthV s.slots t) (hx : (∃ t, x = .tmp t) ∨ p = none) (hv : RepV m.w m.C (.sl e) xs (a.eval x))
    {u : Unit} (h : runR (tipOf x p) s = some (u, s')) : ∃ m1, Quiet m m1 ∧ Rel P G vars m1 s' a.tmps ∧ TipAt m1 (.fl 0 0) e (a.eval x) := by
  unfold tipOf at h
  obtain ⟨ts, s1, h1, h2⟩ := bind_inv h
  obtain ⟨m1, q1, r1, e1, e2, e3, e4, f1⟩ := takeTips_ok r h1
  obtain ⟨pp, cap, hsl, _⟩ := RepV.sl_inv hv
  have get : ∀ {m' : Mem} {us : List Nat}, TipsAt m' (.fl 0) (.sl e) (tcells (a.eval x)) us → hasN 0 us = true → TipAt m' (.fl 0 0) e (a.eval x) := fun ht h0 => by
    obtain ⟨v, c1, c2⟩ := ht 0 (hasN_mem.1 h0) e rfl
    rw [hsl, tcells_slice] at c1
    simp at c1
    rw [hsl, c1]
    exact c2
  split at h2
  · obtain ⟨us, s2, h3, h4⟩ := bind_inv h2
    cases x with
    | tmp t =>
      obtain ⟨m2, q2, r2, _, _, _, f2⟩ := steal_ok r1 (T := .str) (d := ⟨.sl e, xs⟩) rfl (t := t) (by rw [e1]; exact (hV t rfl).symm) h3
      cases hc : hasN 0 us with
      | false => rw [hc] at h4; exact (fail_inv h4).elim
      | true =>
        rw [hc] at h4
        obtain ⟨_, rfl⟩ := ret_inv h4
        exact ⟨m2, q1.trans q2, r2, get f2 hc⟩
    | _ =>
      rcases hx with ⟨t, ht⟩ | hp
      · cases ht
      · subst hp
        obtain ⟨rfl, rfl⟩ := ret_inv h3
        exact (fail_inv h4).elim
  · cases hc : hasN 0 ts with
    | false => rw [hc] at h2; exact (fail_inv h2).elim
    | true =>
      rw [hc] at h2
      obtain ⟨_, rfl⟩ := ret_inv h2
      cases x with
      | tmp t => exact ⟨m1, q1, r1, get (f1 t rfl ⟨.sl e, xs⟩ (by rw [← hV t rfl]; rfl)) hc⟩
      | const c => simp only [takeTips] at h1; obtain ⟨rfl, _⟩ := ret_inv h1; cases hc
      | global c => simp only [takeTips] at h1; obtain ⟨rfl, _⟩ := ret_inv h1; cases hc
      | func c => simp only [takeTips] at h1; obtain ⟨rfl, _⟩ := ret_inv h1; cases hc
theorem guardM_inv {α : Type} {c : Bool} {mm : M α} {b : α} (h : runR (M.guard c mm) s = some (b, s')) : c = true ∧ runR mm s = some (b, s') := by
  cases c with
  | false => exact (fail_inv h).elim
  | true => exact ⟨rfl, h⟩
theorem opnd_prov (hΓ : GOk P G Γ) {vars : Nat} (r : Rel P G vars m s a.tmps) {x : Operand} {d : D} {p : Option Place} (h : runR (opnd Γ x) s = some (.dat d p, s')) : (∃ t, x = .tmp t) ∨ p = none := by
  cases x with
  | tmp t => exact .inl ⟨t, rfl⟩
  | const c => simp only [opnd] at h; obtain ⟨e2, _⟩ := ret_inv h; unfold constV at e2; split at e2 <;> cases e2 <;> exact .inr rfl
  | global g =>
    simp only [opnd] at h
    split at h
    · obtain ⟨e2, _⟩ := ret_inv h; cases e2
    · exact (fail_inv h).elim
  | func f => simp only [opnd] at h; obtain ⟨e2, _⟩ := ret_inv h; cases e2
theorem append_ok (hΓ : GOk P G Γ) (r : Rel P G Γ.vars m s a.tmps) {o : Oper} {nid : Nat} {c : Call} (ho : o.op = .call c) (hc : c.callee = .builtin .append) {u : Unit} (h : runR (evOp Γ o nid) s = some (u, s')) : Goes P G Γ.vars nid m s' o a := by
  simp only [evOp, ho, evCall, hc] at h
  split at h
  · rename_i x y t t2 hxs hts
    have hargs := arr2 hxs
    have htys := arr2 hts
    obtain ⟨V, s1, h1, h2⟩ := bind_inv h
    obtain ⟨k1, k2, k2'⟩ := opnd_ok hΓ r h1
    have r1 := r.same k1
    obtain ⟨W, s2, h3, h4⟩ := bind_inv h2
    obtain ⟨k3, k4, k4'⟩ := opnd_ok hΓ r1 h3
    have r2 := r1.same k3
    obtain ⟨d, s3, h5, h6⟩ := bind_inv h4
    have last : ∀ {m1 : Mem} {s0 s4 : St} {e : Ty} {xs ys : List (den e)} {tt : TypeId} {u : Unit}, t = t2 → TyOk P t (.sl e) → Quiet m m1 → Rel P G Γ.vars m1 s0 a.tmps → RepV m1.w m1.C (.sl e) xs (a.eval x) → TipAt m1 (.fl 0 0) e (a.eval x) → RepV m1.w m1.C (.sl e) ys (a.eval y) →
        xs.length + ys.length ≤ lim → runR (dstM Γ o (ofD ⟨.sl e, (xs ++ ys : List (den e))⟩) [0]) s0 = some (u, s4) → Goes P G Γ.vars nid m s4 o a := fun {m1 s0 s4 e xs ys tt u} e1 ht q r0 hx htip hy hl hh => by
      subst e1
      obtain ⟨uv, m', g1, g2, g3, g4, g5, g6⟩ := app_ok r0 (ty := o.type) ht hx htip hy hl
      refine fin (q.fr.trans g3) (fun id hid => .inl (by rw [g4, q.U] at hid; exact hid)) g2 (v := uv) ?_ hh (V := ofD ⟨.sl e, (xs ++ ys : List (den e))⟩) g5 (fun D hD off hoff e' he' => ?_) fun _ _ _ e => by cases e
      · rw [q.w] at g1
        simp [execOp, ho, resolve, hc, hargs, htys, invoke, builtin, g1]
      · simp [datOf, ofD] at hD
        subst hD
        simp at hoff
        subst hoff
        simp [tipTy] at he'
        subst he'
        obtain ⟨pp, n, cp, hs⟩ := g6.slice
        exact ⟨uv, by rw [hs, tcells_slice]; rfl, g6⟩
    unfold appendD at h5
    split at h5
    · split at h5
      · exact (fail_inv h5).elim
      · obtain ⟨d0, s4, g1, g2⟩ := bind_inv h5
        obtain ⟨m1, q1, r3, hy, e1, e2, e3, e4⟩ := asD_ok r2 g1 k4
        split at g2
        · rename_i e ys
          obtain ⟨_, s5, g3, g4⟩ := bind_inv g2
          obtain ⟨ht, rfl⟩ := chkT_inv hΓ g3
          obtain ⟨g5, g6⟩ := guardM_inv g4
          obtain ⟨_, s6, g7, g8⟩ := bind_inv g6
          obtain ⟨g9, rfl⟩ := need_inv g7
          obtain ⟨rfl, rfl⟩ := ret_inv g8
          have hx : a.eval x = .slice none 0 0 := k2
          exact last (xs := []) (ys := ys) (tt := t) (Nat.eq_of_beq_eq_true g5) ht q1 r3 (hx ▸ .inr ⟨rfl, none, 0, rfl, Nat.le_refl _, fun _ => rfl, fun a h => by cases h⟩) (hx ▸ .inl rfl) hy (by simpa [Nat.ble_eq] using g9) h6
        · exact (fail_inv g2).elim
    · rename_i e xs p
      obtain ⟨_, s5, g3, g4⟩ := bind_inv h5
      obtain ⟨ht, rfl⟩ := chkT_inv hΓ g3
      obtain ⟨g5, g6⟩ := guardM_inv g4
      obtain ⟨ys, s6, g7, g8⟩ := bind_inv g6
      obtain ⟨m1, q1, r3, hy, e1, e2, e3, e4⟩ := asT_ok r2 g7 k4
      obtain ⟨_, s7, g9, g10⟩ := bind_inv g8
      have hx1 : RepV m1.w m1.C (.sl e) xs (a.eval x) := q1.fr.to.repV k2
      obtain ⟨m2, q2, r4, htip⟩ := tipOf_ok r3 (fun t0 ht0 => by rw [e1, k3.slots, k1.slots]; exact k2' t0 ht0) (opnd_prov hΓ r h1) hx1 g9
      obtain ⟨_, s8, g11, g12⟩ := bind_inv g10
      obtain ⟨g13, rfl⟩ := need_inv g11
      obtain ⟨rfl, rfl⟩ := ret_inv g12
      exact last (xs := xs) (ys := ys) (tt := t) (Nat.eq_of_beq_eq_true g5) ht (q1.trans q2) r4 (q2.fr.to.repV hx1) htip (q2.fr.to.repV hy) (by simpa [Nat.ble_eq] using g13) h6
    · exact (fail_inv h5).elim
  · exact (fail_inv h).elim
theorem chkSl_inv (hΓ : GOk P G Γ) {t : TypeId} {u : Unit} (h : runR (chkSl Γ t) s = some (u, s')) : (∃ e, P.underlying t = some (.slice e)) ∧ s' = s := by
  unfold chkSl at h
  split at h
  · rename_i e he
    obtain ⟨_, rfl⟩ := ret_inv h
    obtain ⟨_, et, h1, _⟩ := hΓ.τ t _ he
    exact ⟨⟨et, h1⟩, rfl⟩
  · exact (fail_inv h).elim
theorem len_ok (hΓ : GOk P G Γ) (r : Rel P G Γ.vars m s a.tmps) {o : Oper} {nid : Nat} {c : Call} (ho : o.op = .call c) (hc : c.callee = .builtin .len) {u : Unit} (h : runR (evOp Γ o nid) s = some (u, s')) : Goes P G Γ.vars nid m s' o a := by
  simp only [evOp, ho, evCall, hc] at h
  split at h
  · rename_i x t hxs hts
    have hargs := arr1 hxs
    have htys := arr1 hts
    obtain ⟨V, s1, h1, h2⟩ := bind_inv h
    obtain ⟨k1, k2, k2'⟩ := opnd_ok hΓ r h1
    have r1 := r.same k1
    obtain ⟨n, s2, h3, h4⟩ := bind_inv h2
    have main : Same s1 s2 ∧ (Builtin.len_ #[t] o.type #[a.eval x]).run P m.w = .ok (.int .i64 n) m.w := by
      unfold lenD at h3
      split at h3
      · obtain ⟨_, s3, g1, g2⟩ := bind_inv h3
        obtain ⟨⟨e, ht⟩, rfl⟩ := chkSl_inv hΓ g1
        obtain ⟨rfl, rfl⟩ := ret_inv g2
        obtain ⟨pp, cap, hs, _⟩ := RepV.sl_inv k2
        exact ⟨.refl _, by rw [hs]; simp [Builtin.len_, run_underlying ht, goInt]⟩
      · obtain ⟨_, s3, g1, g2⟩ := bind_inv h3
        obtain ⟨ht, rfl⟩ := chkT_inv hΓ g1
        obtain ⟨rfl, rfl⟩ := ret_inv g2
        exact ⟨.refl _, by rw [RepV.str_eq k2, run_len_string m.w t o.type _ ht.2]; simp [goInt, ByteArray.size_mk']⟩
      · obtain ⟨_, s3, g1, g2⟩ := bind_inv h3
        obtain ⟨⟨e, ht⟩, rfl⟩ := chkSl_inv hΓ g1
        obtain ⟨rfl, rfl⟩ := ret_inv g2
        have hs : a.eval x = .slice none 0 0 := k2
        exact ⟨.refl _, by rw [hs]; simp [Builtin.len_, run_underlying ht, goInt]⟩
      · obtain ⟨ob, s3, g1, g2⟩ := bind_inv h3
        obtain ⟨g3, g4⟩ := getO_inv g1
        split at g2
        · obtain ⟨_, s4, g5, g6⟩ := bind_inv g2
          obtain ⟨⟨e, ht⟩, rfl⟩ := chkSl_inv hΓ g5
          obtain ⟨rfl, rfl⟩ := ret_inv g6
          obtain ⟨hu, hs⟩ := k2
          have ok := r1.objs _ _ g3
          rw [ok.2.2.1] at hs
          exact ⟨g4, by rw [hs]; simp [Builtin.len_, run_underlying ht, goInt]⟩
        · exact (fail_inv g2).elim
      · exact (fail_inv h3).elim
    exact fin0 (r1.same main.1) (by simp [execOp, ho, resolve, hc, hargs, htys, invoke, builtin, main.2]) h4 (V := ofI n) (RepV.int _ _) fun _ _ e => by cases e
  · exact (fail_inv h).elim
theorem max_ok (hΓ : GOk P G Γ) (r : Rel P G Γ.vars m s a.tmps) {o : Oper} {nid : Nat} {c : Call} (ho : o.op = .call c) (hc : c.callee = .builtin .max) {u : Unit} (h : runR (evOp Γ o nid) s = some (u, s')) : Goes P G Γ.vars nid m s' o a := by
  simp only [evOp, ho, evCall, hc] at h
  split at h
  · rename_i x y hxs
    have hargs := arr2 hxs
    obtain ⟨V, s1, h1, h2⟩ := bind_inv h
    obtain ⟨k1, k2, k2'⟩ := opnd_ok hΓ r h1
    have r1 := r.same k1
    obtain ⟨W, s2, h3, h4⟩ := bind_inv h2
    obtain ⟨k3, k4, k4'⟩ := opnd_ok hΓ r1 h3
    have r2 := r1.same k3
    obtain ⟨⟨j, p⟩, s3, h5, h6⟩ := bind_inv h4
    obtain ⟨rfl, hp⟩ := asIntV_ok h5 k2
    obtain ⟨⟨k, q⟩, s4, h7, h8⟩ := bind_inv h6
    obtain ⟨rfl, hq⟩ := asIntV_ok h7 k4
    simp only at hp hq h8
    split at h8
    · have hm : (if q > p then q else p) = max p q := by
        by_cases hpq : q > p
        · rw [if_pos hpq]; omega
        · rw [if_neg hpq]; omega
      exact fin0 r2 (v := .int j (max p q)) (by simp only [execOp, ho, resolve, hc, hargs, Sem.run_bind, Sem.run_pure, Result.andThen_ok, invoke, builtin]; simp [hp, hq, run_max_int2, hm]) h8 (V := ofD ⟨.int j, max p q⟩) (RepV.int _ _) fun _ _ e => by cases e
    · exact (fail_inv h8).elim
  · exact (fail_inv h).elim
end
end Go.XE
