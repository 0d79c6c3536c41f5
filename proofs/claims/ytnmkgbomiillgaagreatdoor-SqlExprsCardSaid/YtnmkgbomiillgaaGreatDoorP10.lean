/- Part 10 of the proof. -/
import Derived.Test.YtnmkgbomiillgaaGreatDoorP09
/- Calls: the objects that the callee changes. -/
namespace Go.XE
section
variable {P : Program} {G : Nat → Option GV} {Γ : Env} {m : Mem} {s s' : St} {a : Act}

/-- An object 'i' of the callee is a part of the object 'id' of ours: the cells from q on. -/
structure MutE where
  i : Nat
  id : Nat
  q : Nat
  T : Ty
  ts : List Nat
structure MutAt (sl : List (Nat × SK)) (vs : List V) (s : St) (μ : MutE) (x : den μ.T) : Prop where
  h : ∃ p U d, mutV μ.i sl vs = .bp μ.id p U ∧ lookObj μ.id s.objs = some (.box d) ∧ getp d p = some ⟨μ.T, x⟩ ∧ pathOff d.T p = some (μ.q, μ.T)
  tip : ∀ off, off ∈ μ.ts → μ.q + off ∈ lookT μ.id s.otips ∧ off < μ.T.size
theorem getp_off : ∀ {p : List Nat} {d e : D}, getp d p = some e → ∃ o, pathOff d.T p = some (o, e.T) := fun {p d e} h => by
  induction p generalizing d with
  | nil => simp only [getp, Option.some.injEq] at h; subst h; exact ⟨0, rfl⟩
  | cons j r ih =>
    simp only [getp] at h
    split at h
    · rename_i f hf
      obtain ⟨o, ho⟩ := ih h
      have hfo : ∀ {T : Ty} {x : den T} {j : Nat} {f : D}, proj T x j = some f → ∃ q, fieldOff T j = some (q, f.T) := fun {T x j f} h => by
        induction T generalizing j with
        | pair a b _ ihb =>
          cases j with
          | zero => simp only [proj, Option.some.injEq] at h; subst h; exact ⟨0, rfl⟩
          | succ j =>
            obtain ⟨q, hq⟩ := ihb h
            exact ⟨a.size + q, by simp only [fieldOff, hq]⟩
        | _ => cases j <;> simp [proj] at h
      obtain ⟨q, hq⟩ := hfo hf
      exact ⟨q + o, by simp only [pathOff, hq, ho]⟩
    · cases h
theorem mutsIn_ok {sl : List (Nat × SK)} {vs : List V} : ∀ {l : List (Nat × OK)} {os : den (objsX l)} {s s' : St}, runR (mutsIn sl vs l) s = some (os, s') → Same s s' ∧ ∃ M : List MutE, M.map (·.i) = l.map (·.1) ∧
    (∀ μ ∈ M, ∃ x : den μ.T, (μ.i, .box ⟨μ.T, x⟩, μ.ts) ∈ objEntries l os ∧ MutAt sl vs s μ x) ∧ (∀ i o ts, (i, o, ts) ∈ objEntries l os → ∃ μ ∈ M, ∃ x : den μ.T, i = μ.i ∧ ts = μ.ts ∧ o = .box ⟨μ.T, x⟩ ∧ MutAt sl vs s μ x)
  | [], os, s, s', h => by
    obtain ⟨_, rfl⟩ := ret_inv h
    exact ⟨.refl _, [], rfl, fun μ h => (by cases h), fun i o ts h => by cases h⟩
  | (i, .box T ts) :: l, os, s, s', h => by
    simp only [mutsIn] at h
    split at h
    · rename_i id p U hV
      obtain ⟨ob, s1, h1, h2⟩ := bind_inv h
      obtain ⟨h3, k1⟩ := getO_inv h1
      split at h2
      · rename_i d
        obtain ⟨x, s2, h4, h5⟩ := bind_inv h2
        obtain ⟨h6, rfl⟩ := lift_inv h4
        obtain ⟨q, s3, h7, h8⟩ := bind_inv h5
        obtain ⟨h9, rfl⟩ := lift_inv h7
        obtain ⟨y, s4, h10, h11⟩ := bind_inv h8
        obtain ⟨h12, rfl⟩ := lift_inv h10
        obtain ⟨os', s5, h13, h14⟩ := bind_inv h11
        obtain ⟨rfl, k2⟩ := getOT_inv h13
        cases hc : ts.all (hasN · (inRange q.1 T.size (lookT id s4.otips))) with
        | false => rw [hc] at h14; exact (fail_inv h14).elim
        | true =>
          rw [hc] at h14
          obtain ⟨z, s6, h15, h16⟩ := bind_inv h14
          obtain ⟨rfl, rfl⟩ := ret_inv h16
          obtain ⟨k3, M, g1, g2, g3⟩ := mutsIn_ok h15
          have hx := as_eq h12
          subst hx
          obtain ⟨o', ho'⟩ := getp_off h6
          rw [h9] at ho'
          simp only [Option.some.injEq] at ho'
          subst ho'
          have k12 := k1.trans k2
          have back : ∀ μ (x : den μ.T), MutAt sl vs s5 μ x → MutAt sl vs s μ x := fun μ x ⟨⟨p, U, d, a1, a2, a3⟩, a4⟩ => ⟨⟨p, U, d, a1, by rw [← k12.objs]; exact a2, a3⟩, fun off ho => by rw [← k12.otips]; exact a4 off ho⟩
          have at0 : MutAt sl vs s ⟨i, id, o', T, ts⟩ y := ⟨⟨p, U, d, hV, h3, h6, h9⟩, fun off ho => by
            have := mem_inRange.1 (hasN_mem.1 (List.all_eq_true.1 hc off ho))
            rw [k1.otips] at this
            exact this⟩
          refine ⟨k12.trans k3, ⟨i, id, o', T, ts⟩ :: M, by simp [g1], fun μ hμ => ?_, fun j o us hm => ?_⟩
          · rcases List.mem_cons.1 hμ with rfl | hμ
            · exact ⟨y, List.mem_cons_self, at0⟩
            · obtain ⟨x, a1, a2⟩ := g2 μ hμ
              exact ⟨x, List.mem_cons_of_mem _ a1, back μ x a2⟩
          · rcases List.mem_cons.1 hm with he | hm
            · cases he; exact ⟨_, List.mem_cons_self, y, rfl, rfl, rfl, at0⟩
            · obtain ⟨μ, a0, x, a1, a2, a3, a4⟩ := g3 j o us hm
              exact ⟨μ, List.mem_cons_of_mem _ a0, x, a1, a2, a3, back μ x a4⟩
      · exact (fail_inv h2).elim
    · exact (fail_inv h).elim
  | (i, .vrp T) :: l, os, s, s', h => (fail_inv h).elim
  | (i, .vbp _ _ _) :: l, os, s, s', h => (fail_inv h).elim
  | (i, .arr _) :: l, os, s, s', h => (fail_inv h).elim
theorem mutIds_ok {vs : List V} : ∀ {sl : List (Nat × SK)} {ms : List Nat} {s s' : St}, runR (mutIds sl vs) s = some (ms, s') → s' = s ∧ (∀ i id p U, mutV i sl vs = .bp id p U → id ∈ ms) ∧ ∀ i j id p U q W, mutV i sl vs = .bp id p U → mutV j sl vs = .bp id q W → i = j
  | [], ms, s, s', h => by
    obtain ⟨rfl, rfl⟩ := ret_inv h
    exact ⟨rfl, fun i id p U h => (by cases h), fun i j id p U q W h => (by cases h)⟩
  | (n, .bp i0 p0 T0) :: r, ms, s, s', h => by
    simp only [mutIds] at h
    split at h
    · rename_i id0 q0 U0 hV
      obtain ⟨is, s1, h1, h2⟩ := bind_inv h
      obtain ⟨rfl, g1, g2⟩ := mutIds_ok h1
      cases hi : hasN id0 is with
      | true => rw [hi] at h2; exact (fail_inv h2).elim
      | false =>
        rw [hi] at h2
        obtain ⟨rfl, rfl⟩ := ret_inv h2
        have hni : id0 ∉ is := fun hc => by rw [hasN_mem.2 hc] at hi; cases hi
        refine ⟨rfl, fun i id p U h => ?_, fun i j id p U q W h1 h2 => ?_⟩
        · simp only [mutV] at h
          cases hb : Nat.beq i0 i with
          | true => rw [hb, cond_true, hV] at h; cases h; exact List.mem_cons_self
          | false => rw [hb] at h; exact List.mem_cons_of_mem _ (g1 i id p U h)
        · simp only [mutV] at h1 h2
          cases hb : Nat.beq i0 i with
          | true =>
            rw [hb, cond_true, hV] at h1
            cases h1
            cases hb' : Nat.beq i0 j with
            | true => rw [← Nat.eq_of_beq_eq_true hb, ← Nat.eq_of_beq_eq_true hb']
            | false => rw [hb'] at h2; exact absurd (g1 j _ _ _ h2) hni
          | false =>
            rw [hb] at h1
            cases hb' : Nat.beq i0 j with
            | true => rw [hb', cond_true, hV] at h2; cases h2; exact absurd (g1 i _ _ _ h1) hni
            | false => rw [hb'] at h2; exact g2 i j id p U q W h1 h2
    · exact (fail_inv h).elim
  | (n, .dat T us) :: r, ms, s, s', h => mutIds_ok (sl := r) h
  | (n, .rp T) :: r, ms, s, s', h => mutIds_ok (sl := r) h
  | (n, .pv T) :: r, ms, s, s', h => mutIds_ok (sl := r) h
  | (n, .own i) :: r, ms, s, s', h => mutIds_ok (sl := r) h
  | (n, .fun1 A R) :: r, ms, s, s', h => mutIds_ok (sl := r) h
  | (n, .fnb _ _) :: r, ms, s, s', h => mutIds_ok (sl := r) h
theorem mutV_slot {vs : List V} {n i : Nat} {p : List Nat} {T : Ty} : ∀ {sl : List (Nat × SK)}, distinctN (bpIds sl) = true → (n, SK.bp i p T) ∈ sl → mutV i sl vs = nthV vs n ∧ i ∈ bpIds sl
  | (k, .bp j q U) :: r, hd, hm => by
    simp only [bpIds, distinctN, Bool.and_eq_true, Bool.not_eq_true'] at hd
    rcases List.mem_cons.1 hm with he | hm
    · cases he
      exact ⟨by simp [mutV], List.mem_cons_self⟩
    · obtain ⟨h1, h2⟩ := mutV_slot hd.2 hm
      refine ⟨?_, List.mem_cons_of_mem _ h2⟩
      have : Nat.beq j i = false := by
        cases hb : Nat.beq j i with
        | false => rfl
        | true => rw [Nat.eq_of_beq_eq_true hb, hasN_mem.2 h2] at hd; cases hd.1
      simp only [mutV, this, cond_false]
      exact h1
  | (k, .dat T us) :: r, hd, hm => by
    rcases List.mem_cons.1 hm with he | hm
    · cases he
    · exact mutV_slot (sl := r) hd hm
  | (k, .rp T) :: r, hd, hm => by
    rcases List.mem_cons.1 hm with he | hm
    · cases he
    · exact mutV_slot (sl := r) hd hm
  | (k, .pv T) :: r, hd, hm => by
    rcases List.mem_cons.1 hm with he | hm
    · cases he
    · exact mutV_slot (sl := r) hd hm
  | (k, .own i) :: r, hd, hm => by
    rcases List.mem_cons.1 hm with he | hm
    · cases he
    · exact mutV_slot (sl := r) hd hm
  | (k, .fun1 A R) :: r, hd, hm => by
    rcases List.mem_cons.1 hm with he | hm
    · cases he
    · exact mutV_slot (sl := r) hd hm
  | (k, .fnb _ _) :: r, hd, hm => by
    rcases List.mem_cons.1 hm with he | hm
    · cases he
    · exact mutV_slot (sl := r) hd hm
theorem bpOk_box {objs : List (Nat × OK)} {n i : Nat} {p : List Nat} {T : Ty} : ∀ {sl : List (Nat × SK)}, bpOk objs sl = true → (n, SK.bp i p T) ∈ sl → boxAt i objs = some T
  | (k, .bp j q U) :: r, hd, hm => by
    simp only [bpOk, Bool.and_eq_true] at hd
    rcases List.mem_cons.1 hm with he | hm
    · cases he
      obtain ⟨h1, _⟩ := hd
      split at h1
      · rename_i U hU
        cases ht : tyEq U T with
        | none => rw [ht] at h1; cases h1
        | some e => obtain ⟨e⟩ := e; subst e; exact hU
      · cases h1
    · exact bpOk_box hd.2 hm
  | (k, .dat T us) :: r, hd, hm => by
    rcases List.mem_cons.1 hm with he | hm
    · cases he
    · exact bpOk_box (sl := r) hd hm
  | (k, .rp T) :: r, hd, hm => by
    rcases List.mem_cons.1 hm with he | hm
    · cases he
    · exact bpOk_box (sl := r) hd hm
  | (k, .pv T) :: r, hd, hm => by
    rcases List.mem_cons.1 hm with he | hm
    · cases he
    · exact bpOk_box (sl := r) hd hm
  | (k, .own i) :: r, hd, hm => by
    rcases List.mem_cons.1 hm with he | hm
    · cases he
    · exact bpOk_box (sl := r) hd hm
  | (k, .fun1 A R) :: r, hd, hm => by
    rcases List.mem_cons.1 hm with he | hm
    · cases he
    · exact bpOk_box (sl := r) hd hm
  | (k, .fnb _ _) :: r, hd, hm => by
    rcases List.mem_cons.1 hm with he | hm
    · cases he
    · exact bpOk_box (sl := r) hd hm
theorem boxAt_entry {i : Nat} {T : Ty} : ∀ {l : List (Nat × OK)} {os : den (objsX l)}, boxAt i l = some T → ∃ (x : den T) (ts : List Nat), (i, .box ⟨T, x⟩, ts) ∈ objEntries l os
  | [], os, h => by cases h
  | (j, .box U us) :: l, os, h => by
    simp only [boxAt] at h
    cases hb : Nat.beq j i with
    | true =>
      rw [hb, cond_true] at h
      cases h
      have := Nat.eq_of_beq_eq_true hb
      subst this
      exact ⟨_, us, List.mem_cons_self⟩
    | false =>
      rw [hb] at h
      obtain ⟨x, ts, hx⟩ := boxAt_entry (os := os.2) h
      exact ⟨x, ts, List.mem_cons_of_mem _ hx⟩
  | (j, .vrp U) :: l, os, h => by cases h
  | (j, .vbp _ _ _) :: l, os, h => by cases h
  | (j, .arr _) :: l, os, h => by cases h

/-! ### The callee's memory -/
/-- No object twice. -/
structure Inj (M : List MutE) : Prop where
  i : ∀ μ ν, μ ∈ M → ν ∈ M → μ.i = ν.i → μ = ν
  id : ∀ μ ν, μ ∈ M → ν ∈ M → μ.id = ν.id → μ = ν
open Classical in
noncomputable def rho (M : List MutE) : Lab → Lab
  | .obj id => if h : ∃ μ, μ ∈ M ∧ μ.id = id then .obj h.choose.i else .no
  | .to id off => if h : ∃ μ, μ ∈ M ∧ μ.id = id ∧ ∃ o, o ∈ μ.ts ∧ off = μ.q + o then .to h.choose.i (off - h.choose.q) else .no
  | _ => .no
open Classical in
noncomputable def rhoI (M : List MutE) : Lab → Lab
  | .obj i => if h : ∃ μ, μ ∈ M ∧ μ.i = i then .obj h.choose.id else .no
  | .to i off => if h : ∃ μ, μ ∈ M ∧ μ.i = i then .to h.choose.id (h.choose.q + off) else .no
  | .fl 0 off => .fl 0 off
  | _ => .no
theorem rho_obj {M : List MutE} (J : Inj M) {μ : MutE} (h : μ ∈ M) : rho M (.obj μ.id) = .obj μ.i := by
  have hx : ∃ ν, ν ∈ M ∧ ν.id = μ.id := ⟨μ, h, rfl⟩
  simp only [rho]
  rw [dif_pos hx, J.id hx.choose μ hx.choose_spec.1 h hx.choose_spec.2]
theorem rho_to {M : List MutE} (J : Inj M) {μ : MutE} (h : μ ∈ M) {o : Nat} (ho : o ∈ μ.ts) : rho M (.to μ.id (μ.q + o)) = .to μ.i o := by
  have hx : ∃ ν, ν ∈ M ∧ ν.id = μ.id ∧ ∃ u, u ∈ ν.ts ∧ μ.q + o = ν.q + u := ⟨μ, h, rfl, o, ho, rfl⟩
  simp only [rho]
  rw [dif_pos hx, J.id hx.choose μ hx.choose_spec.1 h hx.choose_spec.2.1, Nat.add_sub_cancel_left]
theorem rhoI_obj {M : List MutE} (J : Inj M) {μ : MutE} (h : μ ∈ M) : rhoI M (.obj μ.i) = .obj μ.id := by
  have hx : ∃ ν, ν ∈ M ∧ ν.i = μ.i := ⟨μ, h, rfl⟩
  simp only [rhoI]
  rw [dif_pos hx, J.i hx.choose μ hx.choose_spec.1 h hx.choose_spec.2]
theorem rhoI_to {M : List MutE} (J : Inj M) {μ : MutE} (h : μ ∈ M) (o : Nat) : rhoI M (.to μ.i o) = .to μ.id (μ.q + o) := by
  have hx : ∃ ν, ν ∈ M ∧ ν.i = μ.i := ⟨μ, h, rfl⟩
  simp only [rhoI]
  rw [dif_pos hx, J.i hx.choose μ hx.choose_spec.1 h hx.choose_spec.2]
/-- The cells that the callee may write. -/
def wset (M : List MutE) (m : Mem) : Cells := fun b j => ∃ μ, μ ∈ M ∧ ((b = (m.ad μ.id).b ∧ (m.ad μ.id).o + μ.q ≤ j ∧ j < (m.ad μ.id).o + μ.q + μ.T.size) ∨ ((∃ o, o ∈ μ.ts ∧ m.L b = .to μ.id (μ.q + o)) ∧ ¬ m.C b j ∧ ¬ m.K b j))
open Classical in
noncomputable def callMem (M : List MutE) (lend : Bool) (m : Mem) : Mem := {
  w := m.w
  C := fun b j => m.C b j ∨ (lend = true ∧ b < m.w.heap.size)
  K := fun b j => b < m.w.heap.size ∧ ¬ wset M m b j
  L := fun b => rho M (m.L b)
  ad := fun i => if h : ∃ μ, μ ∈ M ∧ μ.i = i then ⟨(m.ad h.choose.id).b, (m.ad h.choose.id).o + h.choose.q, 0, h.choose.T⟩ else ⟨0, 0, 0, .unit⟩
  U := fun i => ∃ μ, μ ∈ M ∧ μ.i = i }
theorem callMem_ad {M : List MutE} (J : Inj M) {lend : Bool} {μ : MutE} (h : μ ∈ M) : (callMem M lend m).ad μ.i = ⟨(m.ad μ.id).b, (m.ad μ.id).o + μ.q, 0, μ.T⟩ := by
  have hx : ∃ ν, ν ∈ M ∧ ν.i = μ.i := ⟨μ, h, rfl⟩
  simp only [callMem]
  rw [dif_pos hx, J.i hx.choose μ hx.choose_spec.1 h hx.choose_spec.2]
/-- What is known of the objects that are lent for writing. -/
structure Muts (sl : List (Nat × SK)) (vs : List V) (s : St) (M : List MutE) : Prop extends Inj M where
  at' : ∀ μ, μ ∈ M → ∃ x : den μ.T, MutAt sl vs s μ x
theorem Muts.box {sl : List (Nat × SK)} {vs : List V} {M : List MutE} (hM : Muts sl vs s M) {vars : Nat} {tm : Array Value} (r : Rel P G vars m s tm) {μ : MutE} (h : μ ∈ M) :
    ∃ d, lookObj μ.id s.objs = some (.box d) ∧ ObjOk m μ.id (.box d) ∧ μ.q + μ.T.size ≤ d.T.size ∧ (∀ off, off ∈ μ.ts → ∀ e, tipTy μ.T off = some e → tipTy d.T (μ.q + off) = some e) := by
  obtain ⟨x, ⟨p, U, d, a1, a2, a3, a4⟩, _⟩ := hM.at' μ h
  exact ⟨d, a2, (r.objs μ.id _ a2).2, pathOff_le a4, fun off _ e he => tipTy_path a4 he⟩
theorem Muts.free {sl : List (Nat × SK)} {vs : List V} {M : List MutE} (hM : Muts sl vs s M) {vars : Nat} {tm : Array Value} (r : Rel P G vars m s tm) {b j : Nat} (h : wset M m b j) : ¬ m.C b j ∧ ¬ m.K b j := by
  obtain ⟨μ, h1, h2⟩ := h
  rcases h2 with ⟨rfl, h3, h4⟩ | ⟨_, h3⟩
  · obtain ⟨d, _, ⟨g1, g2, cur, et, us, g3, g4, g5, g6, g7⟩, hle, _⟩ := hM.box r h1
    have := g7 (j - (m.ad μ.id).o) (by omega)
    rwa [show (m.ad μ.id).o + (j - (m.ad μ.id).o) = j by omega] at this
  · exact h3
theorem callMem_suit {sl : List (Nat × SK)} {vs : List V} {M : List MutE} (hM : Muts sl vs s M) {vars : Nat} {tm : Array Value} (r : Rel P G vars m s tm) {lend : Bool} {ms : List Nat} (hms : ∀ μ ∈ M, μ.id ∈ ms) : Suit m ms lend (callMem M lend m) := {
  w := rfl
  C x j h := .inl h
  CK x j h := h.imp .inl fun k => ⟨r.bK x j k, fun hw => (hM.free r hw).2 k⟩
  obj x i j h hn := .inr ⟨r.bL x (by rw [h]; exact fun e => by cases e), fun ⟨μ, h1, h2⟩ => by
    rcases h2 with ⟨rfl, _, _⟩ | ⟨⟨o, _, h3⟩, _⟩
    · obtain ⟨d, _, ⟨_, g2, _⟩, _⟩ := hM.box r h1
      rw [g2] at h
      cases h
      exact hn (hms μ h1)
    · rw [h] at h3; cases h3⟩
  lend e x i j h _ := .inr ⟨e, r.bL x (by rw [h]; exact fun e => by cases e)⟩
  old x j h := by
    rcases h with (h | h) | h
    · exact r.bC x j h
    · exact h.2
    · exact h.1 }
/-- An object that is lent for writing, as the callee sees it. -/
theorem callMem_obj {sl : List (Nat × SK)} {vs : List V} {M : List MutE} (hM : Muts sl vs s M) {vars : Nat} {tm : Array Value} (r : Rel P G vars m s tm) {lend : Bool} (hlend : lend = true → M = []) {μ : MutE} (h : μ ∈ M) {x : den μ.T} (hx : MutAt sl vs s μ x) :
    (callMem M lend m).U μ.i ∧ ObjOk (callMem M lend m) μ.i (.box ⟨μ.T, x⟩) ∧
      ∀ off, off ∈ μ.ts → ∀ e, tipTy μ.T off = some e → ∃ v, m.w.cell? ⟨((callMem M lend m).ad μ.i).b, ((callMem M lend m).ad μ.i).o + off, none⟩ = some v ∧ TipAt (callMem M lend m) (.to μ.i off) e v := by
  have hl : lend = false := by
    cases lend with
    | false => rfl
    | true => rw [hlend rfl] at h; cases h
  subst hl
  obtain ⟨⟨p, U, d, a1, a2, a3, a4⟩, a5⟩ := hx
  obtain ⟨_, g1, g2, cur, et, us, g3, g4, g5, g6, g7⟩ := r.objs μ.id _ a2
  have hle := pathOff_le a4
  obtain ⟨o', b1, b2⟩ := g6.getp a3
  rw [a4] at b1
  simp only [Option.some.injEq, Prod.mk.injEq, and_true] at b1
  subst b1
  refine ⟨⟨μ, h, rfl⟩, ?_, fun off ho e he => ?_⟩
  · simp only [ObjOk, callMem_ad hM.toInj h]
    refine ⟨trivial, ?_, cur, et, _, g3, by omega, g5.sub _ _, b2.mono (.refl _ _) fun _ _ h => .inl h, fun j hj => ⟨fun hc => ?_, fun hk => hk.2 ⟨μ, h, .inl ⟨rfl, by omega, by omega⟩⟩⟩⟩
    · show rho M (m.L (m.ad μ.id).b) = _
      rw [g2]; exact rho_obj hM.toInj h
    · rcases hc with hc | hc
      · have := (g7 (μ.q + j) (by omega)).1
        rw [← Nat.add_assoc] at this
        exact this hc
      · cases hc.1
  · obtain ⟨c1, c2⟩ := a5 off ho
    obtain ⟨v, c3, c4⟩ := r.otips μ.id d a2 _ c1 e (tipTy_path a4 he)
    refine ⟨v, by rw [callMem_ad hM.toInj h, Nat.add_assoc]; exact c3, ?_⟩
    rcases c4 with c4 | ⟨b, n, cap, cur2, et2, k1, k2, k3, k4, k5, k6⟩
    · exact .inl c4
    · refine .inr ⟨b, n, cap, cur2, et2, k1, ?_, k3, k4, k5, fun j hj => ⟨fun hc => ?_, fun hk => hk.2 ⟨μ, h, .inr ⟨⟨off, ho, k2⟩, k6 j hj⟩⟩⟩⟩
      · show rho M (m.L b) = _
        rw [k2]; exact rho_to hM.toInj h ho
      · rcases hc with hc | hc
        · exact (k6 j hj).1 hc
        · cases hc.1

/-! ### Back from the callee -/
open Classical in
noncomputable def backMem (M : List MutE) (lend : Bool) (m m' : Mem) : Mem := {
  w := m'.w
  C := if lend = true then m.C else m'.C
  K := m.K
  L := fun b => if b < m.w.heap.size ∧ rho M (m.L b) = .no then m.L b else rhoI M (m'.L b)
  ad := m.ad
  U := m.U }
/-- How the callee leaves its memory. -/
structure Back (M : List MutE) (lend : Bool) (m m' : Mem) : Prop where
  fr : Fr (callMem M lend m) m'
  bC : ∀ b j, m'.C b j → b < m'.w.heap.size
  bL : ∀ b, m'.L b ≠ .no → b < m'.w.heap.size
theorem rho_no (M : List MutE) : rho M .no = .no := rfl
theorem rhoI_no (M : List MutE) : rhoI M .no = .no := rfl
theorem Back.size {M : List MutE} {lend : Bool} {m' : Mem} (h : Back M lend m m') : m.w.heap.size ≤ m'.w.heap.size := h.fr.to.pre.size
/-- What the callee may not write stays. -/
theorem Back.pre {M : List MutE} {lend : Bool} {m' : Mem} (h : Back M lend m m') : Pre (fun b j => ¬ wset M m b j) m.w m'.w :=
  h.fr.to.pre.mono fun b j hb hn => .inr ⟨hb, hn⟩
theorem Back.gC {M : List MutE} {lend : Bool} {m' : Mem} (h : Back M lend m m') (hl : lend = false) {b j : Nat} (hc : m'.C b j) (hb : b < m.w.heap.size) : m.C b j ∨ wset M m b j := by
  subst hl
  rcases h.fr.gC b j hc hb with h1 | h1
  · rcases h1 with h1 | h1
    · exact .inl h1
    · cases h1.1
  · exact .inr (Classical.byContradiction fun hn => h1 ⟨hb, hn⟩)
theorem Back.mC {M : List MutE} {lend : Bool} {m' : Mem} (h : Back M lend m m') (hlend : lend = true → M = []) {b j : Nat} (hc : (backMem M lend m m').C b j) (hb : b < m.w.heap.size) : m.C b j ∨ wset M m b j := by
  cases lend with
  | true => exact .inl (by simpa [backMem] using hc)
  | false => exact h.gC rfl (by simpa [backMem] using hc) hb
theorem Back.frame {sl : List (Nat × SK)} {vs : List V} {M : List MutE} (hM : Muts sl vs s M) {vars : Nat} {tm : Array Value} (r : Rel P G vars m s tm) {lend : Bool} (hlend : lend = true → M = []) {m' : Mem} (h : Back M lend m m') : Fr m (backMem M lend m m') := {
  to := by
    refine ⟨h.pre.mono fun b j _ hk hw => ?_, fun b j hc => ?_, rfl, fun _ _ => rfl, fun _ h => h⟩
    · have := hM.free r hw
      exact hk.elim this.1 this.2
    · cases lend with
      | true => simpa [backMem] using hc
      | false => simpa [backMem] using h.fr.to.C b j (.inl hc)
  gC b j hc hb := by
    rcases h.mC hlend hc hb with h1 | h1
    · exact .inl h1
    · exact .inr (hM.free r h1).2
  no b hb hl := by
    simp only [backMem]
    rw [if_pos ⟨hb, by rw [hl]; rfl⟩]
    exact hl }
end
end Go.XE
/- Calls: the state behind a call. -/
namespace Go.XE
section
variable {P : Program} {G : Nat → Option GV} {Γ : Env} {m : Mem} {s s' : St} {a : Act}

/-- The objects that are lent are named no more. -/
def cutSt : List MutE → St → St
  | [], s => s
  | μ :: M, s => { cutSt M s with objs := setObj μ.id none (cutSt M s).objs, otips := setTips μ.id (outRange μ.q μ.T.size (lookT μ.id (cutSt M s).otips)) (cutSt M s).otips, fresh := false }
theorem cut_slots : ∀ (M : List MutE) (s : St), (cutSt M s).slots = s.slots ∧ (cutSt M s).stips = s.stips
  | [], _ => ⟨rfl, rfl⟩
  | _ :: M, s => cut_slots M s
theorem cut_obj : ∀ (M : List MutE) (s : St) (k : Nat), (∀ o, lookObj k (cutSt M s).objs = some o → lookObj k s.objs = some o) ∧ (∀ off, off ∈ lookT k (cutSt M s).otips → off ∈ lookT k s.otips)
  | [], _, _ => ⟨fun _ h => h, fun _ h => h⟩
  | μ :: M, s, k => by
    obtain ⟨h1, h2⟩ := cut_obj M s k
    refine ⟨fun o h => ?_, fun off h => ?_⟩
    · simp only [cutSt, lookObj_setObj] at h
      split at h
      · cases h
      · exact h1 o h
    · simp only [cutSt, lookT_setTips] at h
      split at h
      · rename_i e; subst e; exact h2 off (mem_outRange.1 h).1
      · exact h2 off h
theorem cut_none : ∀ {M : List MutE} {s : St} {μ : MutE}, μ ∈ M → lookObj μ.id (cutSt M s).objs = none ∧ ∀ off, off ∈ lookT μ.id (cutSt M s).otips → ¬ (μ.q ≤ off ∧ off < μ.q + μ.T.size)
  | ν :: M, s, μ, h => by
    refine ⟨?_, fun off ho => ?_⟩
    · simp only [cutSt, lookObj_setObj]
      split
      · rfl
      · rename_i e
        rcases List.mem_cons.1 h with rfl | h
        · exact absurd rfl e
        · exact (cut_none h).1
    · simp only [cutSt, lookT_setTips] at ho
      rcases List.mem_cons.1 h with rfl | h
      · rw [if_pos rfl] at ho; exact (mem_outRange.1 ho).2
      · split at ho
        · rename_i e
          rw [← e] at ho
          exact (cut_none h).2 off (mem_outRange.1 ho).1
        · exact (cut_none h).2 off ho
theorem cut_else : ∀ {M : List MutE} {s : St} {k : Nat}, (∀ μ ∈ M, μ.id ≠ k) → lookObj k (cutSt M s).objs = lookObj k s.objs ∧ lookT k (cutSt M s).otips = lookT k s.otips
  | [], _, _, _ => ⟨rfl, rfl⟩
  | μ :: M, s, k, h => by
    have h1 := cut_else (M := M) (s := s) (k := k) fun ν hν => h ν (List.mem_cons_of_mem _ hν)
    have h2 : ¬ k = μ.id := fun e => h μ List.mem_cons_self e.symm
    simp only [cutSt, lookObj_setObj, lookT_setTips]
    rw [if_neg h2, if_neg h2]
    exact h1
theorem cut_fresh {M : List MutE} {s : St} (h : (cutSt M s).fresh = true) : M = [] := by
  cases M with
  | nil => rfl
  | cons _ _ => cases h
theorem cut_le (M : List MutE) (s : St) : s.Le (cutSt M s) := {
  slots n := by rw [(cut_slots M s).1]; exact .refl _
  len := by rw [(cut_slots M s).1]; exact Nat.le_refl _
  stips n off h := by rw [(cut_slots M s).2] at h; exact h
  objs id o h := ⟨o, (cut_obj M s id).1 o h, .refl _ _⟩
  otips id off h := (cut_obj M s id).2 off h
  fresh h := by have := cut_fresh h; subst this; exact h }
theorem live_apart {sl : List (Nat × SK)} {vs : List V} {M : List MutE} (hM : Muts sl vs s M) {vars : Nat} {tm : Array Value} (r : Rel P G vars m s tm) {b : Nat} (h : Live (cutSt M s) (m.L b)) : (∀ j, ¬ wset M m b j) ∧ rho M (m.L b) = .no := by
  refine ⟨fun j ⟨μ, h1, h2⟩ => ?_, ?_⟩
  · rcases h2 with ⟨rfl, _, _⟩ | ⟨⟨o, ho, hL⟩, _⟩
    · obtain ⟨d, _, ⟨_, g2, _⟩, _⟩ := hM.box r h1
      rw [g2] at h
      exact h (cut_none h1).1
    · rw [hL] at h
      obtain ⟨x, _, ht⟩ := hM.at' μ h1
      have := (ht o ho).2
      exact (cut_none h1).2 _ h ⟨by omega, by omega⟩
  · cases hL : m.L b with
    | obj id =>
      rw [hL] at h
      simp only [rho]
      rw [dif_neg]
      rintro ⟨μ, h1, rfl⟩
      exact h (cut_none h1).1
    | to id off =>
      rw [hL] at h
      simp only [rho]
      rw [dif_neg]
      rintro ⟨μ, h1, rfl, o, ho, rfl⟩
      obtain ⟨x, _, ht⟩ := hM.at' μ h1
      have := (ht o ho).2
      exact (cut_none h1).2 _ h ⟨by omega, by omega⟩
    | _ => rfl
theorem Back.keeps {sl : List (Nat × SK)} {vs : List V} {M : List MutE} (hM : Muts sl vs s M) {vars : Nat} {tm : Array Value} (r : Rel P G vars m s tm) {lend : Bool} (hlend : lend = true → M = []) {m' : Mem} (h : Back M lend m m') : m.Keeps (backMem M lend m m') (Live (cutSt M s)) := {
  toTo := (h.frame hM r hlend).to
  bC b j hc := by
    cases lend with
    | true => exact Nat.lt_of_lt_of_le (r.bC b j (by simpa [backMem] using hc)) h.size
    | false => exact h.bC b j (by simpa [backMem] using hc)
  bL b hb := by
    simp only [backMem] at hb
    split at hb
    · exact Nat.lt_of_lt_of_le (r.bL b hb) h.size
    · exact h.bL b fun e => by rw [e] at hb; exact hb rfl
  live b hb := by
    obtain ⟨h1, h2⟩ := live_apart hM r hb
    have hlt : b < m.w.heap.size := r.bL b fun e => by rw [e] at hb; exact hb
    refine ⟨?_, h.pre.heap hlt h1, fun j hc => (h.mC hlend hc hlt).resolve_right (h1 j)⟩
    simp only [backMem]
    rw [if_pos ⟨hlt, h2⟩] }
theorem Back.tip {sl : List (Nat × SK)} {vs : List V} {M : List MutE} (hM : Muts sl vs s M) {vars : Nat} {tm : Array Value} (r : Rel P G vars m s tm) {lend : Bool} {m' : Mem} (h : Back M lend m m') {l l2 : Lab} (hl : rhoI M l = l2) (hn : l2 ≠ .no) {e : Ty} {v : Value} (t : TipAt m' l e v) :
    TipAt (backMem M lend m m') l2 e v := by
  rcases t with t | ⟨b, n, cap, cur, et, k1, k2, k3, k4, k5, k6⟩
  · exact .inl t
  · refine .inr ⟨b, n, cap, cur, et, k1, ?_, k3, k4, k5, fun j hj => ⟨fun hc => ?_, fun hk => ?_⟩⟩
    · simp only [backMem]
      rw [if_neg, k2, hl]
      rintro ⟨hb, hr⟩
      have := h.fr.no b hb hr
      rw [k2] at this
      subst this
      exact hn hl.symm
    · cases lend with
      | true => exact (k6 j hj).1 (h.fr.to.C b j (.inl (by simpa [backMem] using hc)))
      | false => exact (k6 j hj).1 (by simpa [backMem] using hc)
    · refine (k6 j hj).2 ?_
      rw [h.fr.to.K]
      exact ⟨r.bK b j hk, fun hw => (hM.free r hw).2 hk⟩
theorem take_at {α : Type} {us vs : List α} {q n : Nat} {j : Nat} (hv : vs.length = n) (hq : q + n ≤ us.length) : (us.take q ++ vs ++ us.drop (q + n))[j]? = if j < q then us[j]? else if j < q + n then vs[j - q]? else us[j]? := by
  rw [List.getElem?_append, List.getElem?_append]
  simp only [List.length_append, List.length_take, hv, Nat.min_eq_left (show q ≤ us.length by omega)]
  by_cases h1 : j < q
  · rw [if_pos (by omega), if_pos h1, if_pos h1, List.getElem?_take, if_pos h1]
  · rw [if_neg h1, if_neg h1]
    by_cases h2 : j < q + n
    · rw [if_pos h2, if_pos h2]
    · rw [if_neg h2, if_neg h2, List.getElem?_drop, show q + n + (j - (q + n)) = j by omega]
/-- An object that the callee has changed. -/
theorem Back.obj {sl : List (Nat × SK)} {vs : List V} {M : List MutE} (hM : Muts sl vs s M) {vars : Nat} {tm : Array Value} (r : Rel P G vars m s tm) {lend : Bool} (hlend : lend = true → M = []) {m' : Mem} (h : Back M lend m m') {μ : MutE} (hμ : μ ∈ M) {p : List Nat} {d d' : D}
    (hd : lookObj μ.id s.objs = some (.box d)) {x : den μ.T} (hq : pathOff d.T p = some (μ.q, μ.T)) (hs : setp d p ⟨μ.T, x⟩ = some d') (ok : ObjOk m' μ.i (.box ⟨μ.T, x⟩)) : ObjOk (backMem M lend m m') μ.id (.box d') := by
  have hl : lend = false := by
    cases lend with
    | false => rfl
    | true => rw [hlend rfl] at hμ; cases hμ
  subst hl
  obtain ⟨_, g1, g2, cur, et, us, g3, g4, g5, g6, g7⟩ := r.objs μ.id _ hd
  have had : m'.ad μ.i = ⟨(m.ad μ.id).b, (m.ad μ.id).o + μ.q, 0, μ.T⟩ := (h.fr.to.ad _ ⟨μ, hμ, rfl⟩).trans (callMem_ad hM.toInj hμ)
  simp only [ObjOk, had] at ok
  obtain ⟨_, c2, cur', et', ws, c3, c4, c5, c6, c7⟩ := ok
  obtain ⟨cur2, e1, e2, e3⟩ := h.pre.cells _ _ _ _ g3
  rw [c3] at e1
  cases e1
  have hle := pathOff_le hq
  have hC2 : (backMem M false m m').C = m'.C := by simp [backMem]
  have g6' : Rep m'.w m'.C d.T d.x us := g6.mono (h.pre.mono fun b j _ hc hw => (hM.free r hw).1 hc) fun b j hc => h.fr.to.C b j (.inl hc)
  obtain ⟨hT, o', q1, q2⟩ := g6'.setp hs c6
  rw [hq] at q1
  simp only [Option.some.injEq, Prod.mk.injEq, and_true] at q1
  subst q1
  have hul := g6.len
  have hwl := c6.len
  refine ⟨g1.trans hT.symm, ?_, cur', _, _, c3, by rw [hT, e2]; exact g4, ?_, by rw [hC2]; exact q2, fun j hj => ?_⟩
  · simp only [backMem]
    rw [if_neg, c2]
    · exact rhoI_obj hM.toInj hμ
    · rintro ⟨hb, hr⟩
      rw [h.fr.no _ hb hr] at c2; cases c2
  · intro j v hv
    rw [take_at hwl (by omega)] at hv
    have old : ¬ (μ.q ≤ j ∧ j < μ.q + μ.T.size) → us[j]? = some v → m'.w.cell? ⟨(m.ad μ.id).b, (m.ad μ.id).o + j, none⟩ = some v := fun hj hu => by
      refine h.pre.cell (g5 j v hu) fun hw => ?_
      obtain ⟨ν, n1, n2⟩ := hw
      rcases n2 with ⟨n2, n3, n4⟩ | ⟨⟨o, _, n2⟩, _⟩
      · obtain ⟨dν, _, ⟨_, k2, _⟩, _⟩ := hM.box r n1
        have k2' : m.L (m.ad μ.id).b = .obj ν.id := by rw [show (m.ad μ.id).b = (m.ad ν.id).b from n2]; exact k2
        rw [g2] at k2'
        have : ν = μ := hM.id _ _ n1 hμ (by injection k2' with k2'; exact k2'.symm)
        subst this
        omega
      · have n2' : m.L (m.ad μ.id).b = _ := n2
        rw [g2] at n2'; cases n2'
    split at hv
    · exact old (by omega) hv
    · split at hv
      · have := c5 (j - μ.q) v hv
        rw [show (m.ad μ.id).o + μ.q + (j - μ.q) = (m.ad μ.id).o + j by omega] at this
        exact this
      · exact old (by omega) hv
  · rw [hT] at hj
    rw [hC2]
    refine ⟨fun hc => ?_, (g7 j hj).2⟩
    have hb : (m.ad μ.id).b < m.w.heap.size := (Array.getElem?_eq_some_iff.1 g3).1
    by_cases hr : μ.q ≤ j ∧ j < μ.q + μ.T.size
    · have := (c7 (j - μ.q) (by omega)).1
      rw [show (m.ad μ.id).o + μ.q + (j - μ.q) = (m.ad μ.id).o + j by omega] at this
      exact this hc
    · rcases h.gC rfl hc hb with h1 | h1
      · exact (g7 j hj).1 h1
      · obtain ⟨ν, n1, n2⟩ := h1
        rcases n2 with ⟨n2, n3, n4⟩ | ⟨⟨o, _, n2⟩, _⟩
        · obtain ⟨dν, _, ⟨_, k2, _⟩, _⟩ := hM.box r n1
          have k2' : m.L (m.ad μ.id).b = .obj ν.id := by rw [show (m.ad μ.id).b = (m.ad ν.id).b from n2]; exact k2
          rw [g2] at k2'
          have : ν = μ := hM.id _ _ n1 hμ (by injection k2' with k2'; exact k2'.symm)
          have n3' : (m.ad ν.id).o + ν.q ≤ (m.ad μ.id).o + j := n3
          have n4' : (m.ad μ.id).o + j < (m.ad ν.id).o + ν.q + ν.T.size := n4
          subst this
          omega
        · have n2' : m.L (m.ad μ.id).b = _ := n2
          rw [g2] at n2'; cases n2'

/-! ### The objects are written back -/
def putSt : List (Nat × D × List Nat) → St → St
  | [], s => s
  | (id, d, ts) :: r, s => putSt r { s with objs := setObj id (some (.box d)) s.objs, otips := setTips id ts s.otips, fresh := false }
theorem putSt_slots : ∀ (E : List (Nat × D × List Nat)) (s : St), (putSt E s).slots = s.slots ∧ (putSt E s).stips = s.stips ∧ (E ≠ [] → (putSt E s).fresh = false)
  | [], _ => ⟨rfl, rfl, fun h => absurd rfl h⟩
  | (id, d, ts) :: r, s => by
    obtain ⟨h1, h2, h3⟩ := putSt_slots r { s with objs := setObj id (some (.box d)) s.objs, otips := setTips id ts s.otips, fresh := false }
    refine ⟨h1, h2, fun _ => ?_⟩
    cases r with
    | nil => rfl
    | cons x r => exact h3 (by simp)
theorem putSt_else : ∀ {E : List (Nat × D × List Nat)} {s : St} {k : Nat}, k ∉ E.map (·.1) → lookObj k (putSt E s).objs = lookObj k s.objs ∧ lookT k (putSt E s).otips = lookT k s.otips
  | [], _, _, _ => ⟨rfl, rfl⟩
  | (id, d, ts) :: r, s, k, h => by
    simp only [List.map_cons, List.mem_cons, not_or] at h
    obtain ⟨h1, h2⟩ := putSt_else (E := r) (s := { s with objs := setObj id (some (.box d)) s.objs, otips := setTips id ts s.otips, fresh := false }) h.2
    simp only [lookObj_setObj, lookT_setTips] at h1 h2
    rw [if_neg h.1] at h1 h2
    exact ⟨h1, h2⟩
theorem putSt_same : ∀ {E : List (Nat × D × List Nat)} {s t : St} {k : Nat}, (lookObj k s.objs = lookObj k t.objs ∧ lookT k s.otips = lookT k t.otips) ∨ k ∈ E.map (·.1) → lookObj k (putSt E s).objs = lookObj k (putSt E t).objs ∧ lookT k (putSt E s).otips = lookT k (putSt E t).otips
  | [], _, _, _, h => h.elim id fun h => by cases h
  | (id, d, ts) :: r, s, t, k, h => by
    refine putSt_same (E := r) ?_
    simp only [lookObj_setObj, lookT_setTips]
    by_cases e : k = id
    · rw [if_pos e, if_pos e, if_pos e, if_pos e]; exact .inl ⟨rfl, rfl⟩
    · rw [if_neg e, if_neg e, if_neg e, if_neg e]
      refine h.imp (fun h => h) fun h => ?_
      simpa [e] using h
theorem putSt_rel {vars : Nat} {tm : Array Value} : ∀ {E : List (Nat × D × List Nat)} {s : St}, Rel P G vars m s tm → (∀ e ∈ E, m.U e.1 ∧ ObjOk m e.1 (.box e.2.1) ∧ ∀ off, off ∈ e.2.2 → ∀ t, tipTy e.2.1.T off = some t → ∃ v, m.w.cell? ⟨(m.ad e.1).b, (m.ad e.1).o + off, none⟩ = some v ∧ TipAt m (.to e.1 off) t v) →
    Rel P G vars m (putSt E s) tm
  | [], _, r, _ => r
  | (id, d, ts) :: E, s, r, h => by
    obtain ⟨h1, h2, h3⟩ := h _ List.mem_cons_self
    have r1 := r.le (le_stale s)
    have r2 := r1.putOT (id := id) (ts := []) (fun _ _ off ho => by cases ho) (fun h => by cases h)
    have r3 := r2.putObj (id := id) h1 h2 (fun d' e off ho => by simp only [lookT_setTips, if_pos] at ho; cases ho)
    have r4 := r3.putOT (id := id) (ts := ts) (fun d' hd off ho t ht => by
      simp only [lookObj_setObj, if_pos, Option.some.injEq, Obj.box.injEq] at hd
      subst hd
      exact h3 off ho t ht) (fun h => by cases h)
    have r5 : Rel P G vars m { s with objs := setObj id (some (.box d)) s.objs, otips := setTips id ts s.otips, fresh := false } tm :=
      r4.le ⟨fun _ => .refl _, Nat.le_refl _, fun _ _ h => h, fun i o h => ⟨o, h, .refl _ _⟩, fun i off ho => by
        simp only [lookT_setTips] at ho ⊢
        by_cases e : i = id
        · rw [if_pos e] at ho ⊢; exact ho
        · rw [if_neg e] at ho ⊢; rw [if_neg e]; exact ho, fun h => by cases h⟩
    exact putSt_rel (E := E) r5 fun e he => h e (List.mem_cons_of_mem _ he)
theorem putSt_congr : ∀ {E : List (Nat × D × List Nat)} {s t : St}, Same s t → Same (putSt E s) (putSt E t)
  | [], _, _, h => h
  | (id, d, ts) :: E, s, t, h => putSt_congr (E := E) ⟨h.slots, h.stips, by simp only [h.objs], by simp only [h.otips], rfl⟩
theorem objEntry_id {i : Nat} {o : Obj} {ts : List Nat} : ∀ {l : List (Nat × OK)} {z : den (objsX l)}, (i, o, ts) ∈ objEntries l z → i ∈ l.map (·.1)
  | [], _, h => by cases h
  | (j, .box T us) :: l, z, h => by
    rcases List.mem_cons.1 h with h | h
    · cases h; exact List.mem_cons_self
    · exact List.mem_cons_of_mem _ (objEntry_id (l := l) h)
  | (j, .vrp T) :: l, z, h => by
    rcases List.mem_cons.1 h with h | h
    · cases h; exact List.mem_cons_self
    · exact List.mem_cons_of_mem _ (objEntry_id (l := l) h)
  | (j, .vbp _ _ _) :: l, z, h => by
    rcases List.mem_cons.1 h with h | h
    · cases h; exact List.mem_cons_self
    · exact List.mem_cons_of_mem _ (objEntry_id (l := l) h)
  | (j, .arr _) :: l, z, h => by
    rcases List.mem_cons.1 h with h | h
    · cases h; exact List.mem_cons_self
    · exact List.mem_cons_of_mem _ (objEntry_id (l := l) h)
theorem mutsPut_ok {sl : List (Nat × SK)} {vs : List V} (hinj : ∀ i j id p U q W, mutV i sl vs = .bp id p U → mutV j sl vs = .bp id q W → i = j) : ∀ {l : List (Nat × OK)} {z : den (objsX l)} {s s' : St} {u : Unit}, distinctN (l.map (·.1)) = true → runR (mutsPut sl vs l z) s = some (u, s') →
    ∃ E, Same (putSt E s) s' ∧ (∀ e ∈ E, ∃ i T x ts p U d q W, (i, Obj.box ⟨T, x⟩, ts) ∈ objEntries l z ∧ mutV i sl vs = .bp e.1 p U ∧ lookObj e.1 s.objs = some (.box d) ∧ pathOff d.T p = some (q, W) ∧ setp d p ⟨T, x⟩ = some e.2.1 ∧ e.2.2 = outRange q T.size (lookT e.1 s.otips) ++ shiftN q ts) ∧
      (∀ i ∈ l.map (·.1), ∃ e ∈ E, ∃ p U, mutV i sl vs = .bp e.1 p U) ∧ (l = [] → E = [])
  | [], z, s, s', u, _, h => by
    obtain ⟨_, rfl⟩ := ret_inv h
    exact ⟨[], .refl _, fun e h => (by cases h), fun i h => (by cases h), fun _ => rfl⟩
  | (i, .box T ts) :: l, z, s, s', u, hd, h => by
    simp only [List.map_cons, distinctN, Bool.and_eq_true, Bool.not_eq_true'] at hd
    obtain ⟨x, y⟩ := z
    simp only [mutsPut] at h
    split at h
    · rename_i id p U hV
      obtain ⟨ob, s1, h1, h2⟩ := bind_inv h
      obtain ⟨h3, k1⟩ := getO_inv h1
      split at h2
      · rename_i d
        obtain ⟨q, s2, h4, h5⟩ := bind_inv h2
        obtain ⟨h6, rfl⟩ := lift_inv h4
        obtain ⟨d', s3, h7, h8⟩ := bind_inv h5
        obtain ⟨h9, rfl⟩ := lift_inv h7
        obtain ⟨_, s4, h10, h11⟩ := bind_inv h8
        have k2 := setO_inv h10
        obtain ⟨os, s5, h12, h13⟩ := bind_inv h11
        obtain ⟨rfl, k3⟩ := getOT_inv h12
        obtain ⟨_, s6, h14, h15⟩ := bind_inv h13
        have k4 := putOT_inv h14
        obtain ⟨_, s7, h16, h17⟩ := bind_inv h15
        have k5 := setF_inv h16
        obtain ⟨E, g1, g2, g3, g4⟩ := mutsPut_ok hinj hd.2 h17
        have hot : lookT id s4.otips = lookT id s.otips := by rw [k2.otips]; exact congrArg (lookT id) k1.otips
        have hsame : Same { s with objs := setObj id (some (.box d')) s.objs, otips := setTips id (outRange q.1 T.size (lookT id s.otips) ++ shiftN q.1 ts) s.otips, fresh := false } s7 := by
          refine ⟨?_, ?_, ?_, ?_, ?_⟩
          · rw [k5.slots]; show s6.slots = _; rw [k4.slots]; show s5.slots = _; rw [k3.slots, k2.slots]; exact k1.slots
          · rw [k5.stips]; show s6.stips = _; rw [k4.stips]; show s5.stips = _; rw [k3.stips, k2.stips]; exact k1.stips
          · rw [k5.objs]; show s6.objs = _; rw [k4.objs]; show s5.objs = _; rw [k3.objs, k2.objs]; exact congrArg (setObj id _) k1.objs
          · rw [k5.otips]; show s6.otips = _; rw [k4.otips, hot]; show setTips id _ s5.otips = _; rw [k3.otips, k2.otips]; exact congrArg (setTips id _) k1.otips
          · rw [k5.fresh]
        refine ⟨(id, d', outRange q.1 T.size (lookT id s.otips) ++ shiftN q.1 ts) :: E, (putSt_congr hsame).trans g1, fun e he => ?_, fun j hj => ?_, fun h => by cases h⟩
        · rcases List.mem_cons.1 he with rfl | he
          · exact ⟨i, T, x, ts, p, U, d, q.1, q.2, List.mem_cons_self, hV, h3, h6, h9, rfl⟩
          · obtain ⟨i1, T1, x1, ts1, p1, U1, d1, q1, W1, a1, a2, a3, a4, a5, a6⟩ := g2 e he
            have hne : ¬ e.1 = id := fun e2 => by
              have h1 := hinj i1 i _ _ _ _ _ a2 (by rw [e2]; exact hV)
              have h2 := objEntry_id a1
              rw [h1] at h2
              rw [hasN_mem.2 h2] at hd; cases hd.1
            refine ⟨i1, T1, x1, ts1, p1, U1, d1, q1, W1, List.mem_cons_of_mem _ a1, a2, ?_, a4, a5, ?_⟩
            · have := hsame.objs
              rw [this, lookObj_setObj, if_neg hne] at a3; exact a3
            · have := hsame.otips
              rw [this, lookT_setTips, if_neg hne] at a6; exact a6
        · rcases List.mem_cons.1 hj with rfl | hj
          · exact ⟨_, List.mem_cons_self, p, U, hV⟩
          · obtain ⟨e, e1, e2⟩ := g3 j hj
            exact ⟨e, List.mem_cons_of_mem _ e1, e2⟩
      · exact (fail_inv h2).elim
    · exact (fail_inv h).elim
  | (i, .vrp T) :: l, z, s, s', u, _, h => (fail_inv h).elim
  | (i, .vbp _ _ _) :: l, z, s, s', u, _, h => (fail_inv h).elim
  | (i, .arr _) :: l, z, s, s', u, _, h => (fail_inv h).elim
end
end Go.XE
/- Calls of functions that are known. -/
namespace Go.XE
section
variable {P : Program} {G : Nat → Option GV} {Γ : Env} {m : Mem} {s s' : St} {a : Act}

theorem distinct_inj {M : List MutE} (h : distinctN (M.map (·.i)) = true) : ∀ μ ν, μ ∈ M → ν ∈ M → μ.i = ν.i → μ = ν := by
  induction M with
  | nil => intro μ ν h; cases h
  | cons κ M ih =>
    simp only [List.map_cons, distinctN, Bool.and_eq_true, Bool.not_eq_true'] at h
    have hk : ∀ ν, ν ∈ M → κ.i ≠ ν.i := fun ν hν e => by
      rw [hasN_mem.2 (List.mem_map.2 ⟨ν, hν, e.symm⟩)] at h; cases h.1
    intro μ ν h1 h2 e
    rcases List.mem_cons.1 h1 with a1 | a1 <;> rcases List.mem_cons.1 h2 with a2 | a2
    · rw [a1, a2]
    · rw [a1] at e; exact absurd e (hk ν a2)
    · rw [a2] at e; exact absurd e.symm (hk μ a1)
    · exact ih h.2 μ ν a1 a2 e
theorem cut_tips {M : List MutE} (J : Inj M) (h : distinctN (M.map (·.i)) = true) {s : St} {μ : MutE} (hμ : μ ∈ M) : lookT μ.id (cutSt M s).otips = outRange μ.q μ.T.size (lookT μ.id s.otips) := by
  induction M with
  | nil => cases hμ
  | cons κ M ih =>
    simp only [List.map_cons, distinctN, Bool.and_eq_true, Bool.not_eq_true'] at h
    have hJ : Inj M := ⟨fun a b ha hb => J.i a b (List.mem_cons_of_mem _ ha) (List.mem_cons_of_mem _ hb), fun a b ha hb => J.id a b (List.mem_cons_of_mem _ ha) (List.mem_cons_of_mem _ hb)⟩
    have hk : ∀ ν, ν ∈ M → κ ≠ ν := fun ν hν e => by
      rw [hasN_mem.2 (List.mem_map.2 ⟨ν, hν, by rw [e]⟩)] at h; cases h.1
    simp only [cutSt, lookT_setTips]
    rcases List.mem_cons.1 hμ with rfl | hμ
    · rw [if_pos rfl, (cut_else (M := M) (s := s) (k := μ.id) fun ν hν e => hk ν hν (J.id _ _ (List.mem_cons_of_mem _ hν) List.mem_cons_self e).symm).2]
    · rw [if_neg fun e => hk μ hμ (J.id _ _ (List.mem_cons_of_mem _ hμ) List.mem_cons_self e).symm]
      exact ih hJ h.2 hμ
theorem mutsOk_entry {m' : Mem} : ∀ {l : List (Nat × OK)} {z : den (objsX l)} {i : Nat} {o : Obj} {ts : List Nat}, MutsOk m' l z → (i, o, ts) ∈ objEntries l z →
    ObjOk m' i o ∧ ∀ T x, o = .box ⟨T, x⟩ → ∀ off, off ∈ ts → ∀ e, tipTy T off = some e → ∃ v, m'.w.cell? ⟨(m'.ad i).b, (m'.ad i).o + off, none⟩ = some v ∧ TipAt m' (.to i off) e v
  | [], _, _, _, _, _, h => by cases h
  | (j, .box T us) :: l, z, i, o, ts, hm, h => by
    obtain ⟨h1, h2, h3⟩ := hm
    rcases List.mem_cons.1 h with h | h
    · cases h; exact ⟨h1, fun T' x' e => by cases e; exact h2⟩
    · exact mutsOk_entry h3 h
  | (j, .vrp T) :: l, _, _, _, _, hm, _ => hm.elim
  | (j, .vbp _ _ _) :: l, _, _, _, _, hm, _ => hm.elim
  | (j, .arr _) :: l, _, _, _, _, hm, _ => hm.elim
theorem entry_det {i : Nat} {T T' : Ty} {x : den T} {x' : den T'} {ts ts' : List Nat} : ∀ {l : List (Nat × OK)} {z z' : den (objsX l)}, distinctN (l.map (·.1)) = true → (i, Obj.box ⟨T, x⟩, ts) ∈ objEntries l z → (i, Obj.box ⟨T', x'⟩, ts') ∈ objEntries l z' → T = T' ∧ ts = ts'
  | [], _, _, _, h, _ => by cases h
  | (j, .box U us) :: l, z, z', hd, h, h' => by
    simp only [List.map_cons, distinctN, Bool.and_eq_true, Bool.not_eq_true'] at hd
    rcases List.mem_cons.1 h with h | h <;> rcases List.mem_cons.1 h' with h' | h'
    · cases h; cases h'; exact ⟨rfl, rfl⟩
    · cases h; have := objEntry_id h'; rw [hasN_mem.2 this] at hd; cases hd.1
    · cases h'; have := objEntry_id h; rw [hasN_mem.2 this] at hd; cases hd.1
    · exact entry_det hd.2 h h'
  | (j, .vrp U) :: l, z, z', hd, h, h' => by
    simp only [List.map_cons, distinctN, Bool.and_eq_true, Bool.not_eq_true'] at hd
    rcases List.mem_cons.1 h with h | h <;> rcases List.mem_cons.1 h' with h' | h'
    · cases h
    · cases h
    · cases h'
    · exact entry_det hd.2 h h'
  | (j, .vbp _ _ _) :: l, z, z', hd, h, h' => by
    simp only [List.map_cons, distinctN, Bool.and_eq_true, Bool.not_eq_true'] at hd
    rcases List.mem_cons.1 h with h | h <;> rcases List.mem_cons.1 h' with h' | h'
    · cases h
    · cases h
    · cases h'
    · exact entry_det hd.2 h h'
  | (j, .arr _) :: l, z, z', hd, h, h' => by
    simp only [List.map_cons, distinctN, Bool.and_eq_true, Bool.not_eq_true'] at hd
    rcases List.mem_cons.1 h with h | h <;> rcases List.mem_cons.1 h' with h' | h'
    · cases h
    · cases h
    · cases h'
    · exact entry_det hd.2 h h'
theorem wset_out {sl : List (Nat × SK)} {vs : List V} {M : List MutE} (hM : Muts sl vs s M) {vars : Nat} {tm : Array Value} (r : Rel P G vars m s tm) {μ : MutE} (hμ : μ ∈ M) {off : Nat} (ho : ¬ (μ.q ≤ off ∧ off < μ.q + μ.T.size)) : ¬ wset M m (m.ad μ.id).b ((m.ad μ.id).o + off) := by
  obtain ⟨d, _, ⟨_, g2, _⟩, _⟩ := hM.box r hμ
  rintro ⟨ν, n1, n2⟩
  rcases n2 with ⟨n2, n3, n4⟩ | ⟨⟨o, _, n2⟩, _⟩
  · obtain ⟨dν, _, ⟨_, k2, _⟩, _⟩ := hM.box r n1
    rw [← n2, g2] at k2
    have : ν = μ := hM.id _ _ n1 hμ (by injection k2 with k2; exact k2.symm)
    subst this
    omega
  · rw [g2] at n2; cases n2
theorem call_run {o : Oper} {c : Call} {f : FuncId} {x : Operand} {caps : Array Value} (ho : o.op = .call c) (hc : c.callee = .value x) (hx : a.eval x = .func (.func f) #[] caps) (hE : Enter P f) (w : World) :
    (execOp a.eval o).run P w = .ok (.enter f (c.args.map a.eval ++ caps)) w := by
  obtain ⟨fn, h1, h2, h3⟩ := hE
  have h4 : ¬ fn.body = none := fun e => by rw [e] at h2; cases h2
  have h3' : ¬ fn.name = "runtime.NumGoroutine" := by simpa using h3
  simp [execOp, ho, resolve, hc, hx, Deferred.ofValue, invoke, callFunc, Sem.run_bind, Result.andThen_ok, Sem.run_pure, program, Sem.run, h1, h3', h4]
theorem RepT.noSl {w w' : World} {C C' : Cells} : ∀ {T : Ty} {x : den T} {vs : List Value}, noSl T = true → RepT w C T x vs → RepT w' C' T x vs
  | .unit, _, _, _, h => h
  | .pair a b, x, vs, hn, h => by
    simp only [XE.noSl, Bool.and_eq_true] at hn
    simp only [RepT] at h ⊢
    obtain ⟨v, r, rfl, h1, h2⟩ := h
    refine ⟨v, r, rfl, ?_, RepT.noSl hn.2 h2⟩
    rcases h1 with ⟨n1, cs, n2, n3⟩ | ⟨n1, n2⟩
    · exact .inl ⟨n1, cs, n2, n3.noSl hn.1⟩
    · exact .inr ⟨n1, n2.noSl hn.1⟩
  | .int _, _, _, _, h => h.elim
  | .bool, _, _, _, h => h.elim
  | .str, _, _, _, h => h.elim
  | .sl _, _, _, _, h => h.elim
/-- A call of a function that is known. -/
theorem callV_ok (hΓ : GOk P G Γ) (r : Rel P G Γ.vars m s a.tmps) {f : FuncId} {vs : List V} {vals : List Value} (hv : ∀ i, RV P m (nthV vs i) (vals.getD i undef)) (hlen : vals.length = vs.length) {V : V} {ts : List Nat} (h : runR (callV Γ f vs) s = some ((V, ts), s')) :
    Enter P f ∧ ∀ (R : Ending → World → Prop), (∀ v m2, Rel P G Γ.vars m2 s' a.tmps → Fr m m2 → m2.U = m.U → RV P m2 V v → (∀ D, datOf V = some D → TipsAt m2 (.fl 0) D.T (tcells v) ts) → (∀ D p, V ≠ .dat D (some p)) → R (.returned v) m2.w) → Calls P f vals.toArray m.w R := by
  unfold callV at h
  split at h
  · rename_i sp hF
    obtain ⟨hE, hok, hS⟩ := hΓ.Φ f sp hF
    refine ⟨hE, fun R hR => ?_⟩
    cases hbq : Nat.beq vs.length sp.head.slots.length with
    | false => rw [hbq] at h; exact (fail_inv h).elim
    | true =>
    rw [hbq, cond_true] at h
    have hargs : vals.toArray.size = sp.head.slots.length := by rw [List.size_toArray, hlen]; exact Nat.eq_of_beq_eq_true hbq
    obtain ⟨ms, s0, h1, h2⟩ := bind_inv h
    obtain ⟨rfl, g1, g2⟩ := mutIds_ok h1
    obtain ⟨ags, s1, h3, h4⟩ := bind_inv h2
    obtain ⟨m1, k1, k2, k3, k4⟩ := argsH_ok hΓ r hv h3
    obtain ⟨os, s2, h5, h6⟩ := bind_inv h4
    obtain ⟨q1, M, q2, q3, q4⟩ := mutsIn_ok h5
    obtain ⟨y, s3, h7, h8⟩ := bind_inv h6
    have hy : sp.F (ags, os) = some y ∧ s3 = s2 := by
      cases ht : sp.total with
      | true => rw [ht] at h7; exact lift_inv h7
      | false => rw [ht] at h7; exact opt_inv h7
    obtain ⟨hy, rfl⟩ := hy
    obtain ⟨u, s4, h9, h10⟩ := bind_inv h8
    obtain ⟨e1, rfl⟩ := ret_inv h10
    simp only [Prod.mk.injEq] at e1
    obtain ⟨rfl, rfl⟩ := e1
    simp only [Spec.okB, Bool.and_eq_true] at hok
    obtain ⟨⟨hall, hbp, _⟩, ⟨⟨hbx, hdo⟩, hbpo⟩, hids⟩ := hok
    have hJi := distinct_inj (M := M) (by rw [q2]; exact hdo)
    have hM : Muts sp.head.slots vs s1 M := ⟨⟨hJi, fun μ ν h1 h2 e => by
      obtain ⟨x, _, ⟨p, U, d, a1, _⟩, _⟩ := q3 μ h1
      obtain ⟨x', _, ⟨p', U', d', a1', _⟩, _⟩ := q3 ν h2
      exact hJi μ ν h1 h2 (g2 _ _ _ _ _ _ _ a1 (by rw [e]; exact a1'))⟩, fun μ h => by
      obtain ⟨x, _, hx⟩ := q3 μ h
      exact ⟨x, hx⟩⟩
    have hms : ∀ μ ∈ M, μ.id ∈ ms := fun μ h => by
      obtain ⟨x, _, ⟨p, U, d, a1, _⟩, _⟩ := q3 μ h
      exact g1 _ _ _ _ a1
    generalize hlend : (noSl sp.R && sp.head.objs.isEmpty) = lend at h3 k4
    have hlM : lend = true → M = [] := fun e => by
      rw [e, Bool.and_eq_true] at hlend
      rw [List.isEmpty_iff.1 hlend.2] at q2
      exact List.map_eq_nil_iff.1 q2
    have hsuit := callMem_suit hM k2 (lend := lend) hms
    have rel : Rel P G 0 (callMem M lend m1) (sp.head.st (ags, os)) (padA sp.head.ntmps vals.toArray) := by
      refine rel_st (fun b j hc => hsuit.old b j (.inl hc)) (fun b j hc => hc.1) (fun b hb => k2.bL b fun e => hb (by show rho M (m1.L b) = _; rw [e]; rfl)) (fun g d hg => (k2.glob g d hg).cool hsuit.cool) (padA_size _ _) (fun n W us hm => ?_) fun id o us hm => ?_
      · have := entry_tips hall hm
        subst this
        refine ⟨?_, fun d _ off ho => by cases ho⟩
        rw [padA_getD]
        rcases k4 _ hsuit n W [] hm with ⟨i, p, T, rfl, hsl⟩ | hr
        · have hp : p = [] := by
            have := List.all_eq_true.1 hall _ hsl
            exact List.isEmpty_iff.1 this
          subst hp
          obtain ⟨x, us, hent⟩ := boxAt_entry (os := os) (bpOk_box hbpo hsl)
          obtain ⟨μ, hμ, x', e1, e2, e3, ⟨⟨p', U, d, a1, a2, a3, a4⟩, a5⟩⟩ := q4 _ _ _ hent
          cases e3
          subst e1
          have hmv := (mutV_slot (vs := vs) hbp hsl).1
          rw [hmv] at a1
          have hvn := hv n
          rw [a1] at hvn
          obtain ⟨hu, o, c1, c2⟩ := hvn
          obtain ⟨_, b1, _⟩ := k2.objs _ _ a2
          rw [← k1.ad, b1, a4] at c1
          simp only [Option.some.injEq, Prod.mk.injEq] at c1
          obtain ⟨rfl, _⟩ := c1
          refine ⟨⟨μ, hμ, rfl⟩, 0, ?_, ?_⟩
          · rw [callMem_ad hM.toInj hμ]; rfl
          · rw [callMem_ad hM.toInj hμ, k1.ad]; exact c2
        · exact RV.of0 hr
      · obtain ⟨μ, hμ, x, rfl, rfl, rfl, hx⟩ := q4 _ _ _ hm
        obtain ⟨c1, c2, c3⟩ := callMem_obj hM k2 hlM hμ hx
        exact ⟨c1, c2, fun d e off ho t ht => by cases e; exact c3 off ho t ht⟩
    have hcalls := hS (callMem M lend m1) (ags, os) y vals.toArray hargs rel (fun id ⟨μ, hμ, e⟩ => by
      have hi : id ∈ sp.head.objs.map (·.1) := by rw [← q2, ← e]; exact List.mem_map.2 ⟨μ, hμ, rfl⟩
      obtain ⟨p, hp, e2⟩ := List.mem_map.1 hi
      simp only [Skel.idsOk, Bool.and_eq_true] at hids
      have := List.all_eq_true.1 hids.2 p hp
      simp only [Bool.and_eq_true, Nat.blt_eq] at this
      rw [← e2]; exact this.1) hy
    rw [show (callMem M lend m1).w = m.w from k1.w] at hcalls
    refine Calls.mono hcalls fun e w' he => ?_
    obtain ⟨v, rfl, m', rfl, fr, bC, bL, hres, hmuts⟩ := he
    have hB : Back M lend m1 m' := ⟨fr, bC, bL⟩
    have r0 := (k2.le (cut_le M s1)).move (hB.keeps hM k2 hlM)
    obtain ⟨E, e1, e2, e3, e4⟩ := mutsPut_ok g2 hdo h9
    have hfr := hB.frame hM k2 hlM
    -- the objects that have been changed
    have hE2 : ∀ e ∈ E, ∃ μ ∈ M, μ.id = e.1 := fun e he => by
      obtain ⟨i, T, x, us, p, U, d, q, W, a1, a2, _⟩ := e2 e he
      have hi := objEntry_id a1
      rw [← q2] at hi
      obtain ⟨μ, hμ, rfl⟩ := List.mem_map.1 hi
      obtain ⟨x', _, ⟨p', U', d', b1, _⟩, _⟩ := q3 μ hμ
      rw [a2] at b1
      injection b1 with b1
      exact ⟨μ, hμ, b1.symm⟩
    have hobj : ∀ e ∈ E, (backMem M lend m1 m').U e.1 ∧ ObjOk (backMem M lend m1 m') e.1 (.box e.2.1) ∧ ∀ off, off ∈ e.2.2 → ∀ t, tipTy e.2.1.T off = some t → ∃ v, (backMem M lend m1 m').w.cell? ⟨((backMem M lend m1 m').ad e.1).b, ((backMem M lend m1 m').ad e.1).o + off, none⟩ = some v ∧ TipAt (backMem M lend m1 m') (.to e.1 off) t v := fun e he => by
      obtain ⟨i, T, x, us, p, U, d, q, W, a1, a2, a3, a4, a5, a6⟩ := e2 e he
      rw [q1.objs] at a3
      rw [q1.otips] at a6
      have hi := objEntry_id a1
      rw [← q2] at hi
      obtain ⟨μ, hμ, rfl⟩ := List.mem_map.1 hi
      obtain ⟨x', hent, ⟨p', U', d', b1, b2, b3, b4⟩, b5⟩ := q3 μ hμ
      obtain ⟨hT, hts⟩ := entry_det hdo a1 hent
      subst hT
      subst hts
      rw [a2] at b1
      injection b1 with b1 b1' _
      subst b1'
      rw [← b1, a3] at b2
      cases b2
      rw [b4] at a4
      simp only [Option.some.injEq, Prod.mk.injEq] at a4
      obtain ⟨rfl, rfl⟩ := a4
      rw [b1] at a3 a6
      obtain ⟨okc, tipc⟩ := mutsOk_entry hmuts a1
      have ok2 := hB.obj hM k2 hlM hμ a3 b4 a5 okc
      rw [b1]
      have hbox := hM.box k2 hμ
      refine ⟨(k2.objs _ _ a3).1, ok2, fun off ho t ht => ?_⟩
      have hdT : e.2.1.T = d.T := ok2.1.symm.trans (k2.objs _ _ a3).2.1
      rw [hdT] at ht
      rw [a6] at ho
      rcases List.mem_append.1 ho with ho | ho
      · have ho' := mem_outRange.1 ho
        obtain ⟨v, c1, c2⟩ := k2.otips _ _ a3 off ho'.1 t ht
        refine ⟨v, hB.pre.cell c1 (wset_out hM k2 hμ ho'.2), c2.to (hB.keeps hM k2 hlM) ?_⟩
        show off ∈ lookT μ.id (cutSt M s1).otips
        rw [cut_tips hM.toInj (by rw [q2]; exact hdo) hμ]
        exact ho
      · obtain ⟨u, hu, rfl⟩ := mem_shiftN.1 ho
        have hlt := (b5 u hu).2
        rw [tipTy_pathEq b4 hlt] at ht
        obtain ⟨v, c1, c2⟩ := tipc _ _ rfl u hu t ht
        have had : m'.ad μ.i = ⟨(m1.ad μ.id).b, (m1.ad μ.id).o + μ.q, 0, μ.T⟩ := (fr.to.ad _ ⟨μ, hμ, rfl⟩).trans (callMem_ad hM.toInj hμ)
        rw [had] at c1
        exact ⟨v, by rw [← Nat.add_assoc]; exact c1, hB.tip hM k2 (rhoI_to hM.toInj hμ u) (fun e => by cases e) c2⟩
    have r1 := putSt_rel r0 hobj
    have hcov : ∀ μ ∈ M, μ.id ∈ E.map (·.1) := fun μ hμ => by
      have hi : μ.i ∈ sp.head.objs.map (·.1) := by rw [← q2]; exact List.mem_map.2 ⟨μ, hμ, rfl⟩
      obtain ⟨e, he, p, U, c1⟩ := e3 μ.i hi
      obtain ⟨x', _, ⟨p', U', d', b1, _⟩, _⟩ := q3 μ hμ
      rw [c1] at b1
      injection b1 with b1
      exact List.mem_map.2 ⟨e, he, b1⟩
    have hle : (putSt E (cutSt M s1)).Le (putSt E s1) := by
      have hlook : ∀ k, lookObj k (putSt E (cutSt M s1)).objs = lookObj k (putSt E s1).objs ∧ lookT k (putSt E (cutSt M s1)).otips = lookT k (putSt E s1).otips := fun k => by
        refine putSt_same ?_
        by_cases hk : ∃ μ ∈ M, μ.id = k
        · obtain ⟨μ, hμ, rfl⟩ := hk; exact .inr (hcov μ hμ)
        · exact .inl (cut_else fun μ hμ e => hk ⟨μ, hμ, e⟩)
      refine ⟨fun n => ?_, ?_, fun n off ho => ?_, fun id o ho => ⟨o, by rw [(hlook id).1]; exact ho, .refl _ _⟩, fun id off ho => by rw [(hlook id).2]; exact ho, fun hf => ?_⟩
      · rw [(putSt_slots E _).1, (putSt_slots E _).1, (cut_slots M s1).1]; exact .refl _
      · rw [(putSt_slots E _).1, (putSt_slots E _).1, (cut_slots M s1).1]; exact Nat.le_refl _
      · rw [(putSt_slots E _).2.1] at ho ⊢
        rw [(cut_slots M s1).2]; exact ho
      · cases hEe : E with
        | nil =>
          have hMe : M = [] := by
            cases hMM : M with
            | nil => rfl
            | cons μ M' => have := hcov μ (by rw [hMM]; exact List.mem_cons_self); rw [hEe] at this; cases this
          subst hMe
          rw [hEe] at hf; exact hf
        | cons e E' =>
          rw [(putSt_slots E s1).2.2 (by rw [hEe]; simp)] at hf; cases hf
    have r2 := (r1.le hle).same ((putSt_congr q1).symm.symm.trans e1)
    have hRv : ∀ {T : Ty} {x : den T} {u : Value}, T = sp.R → RepV m'.w m'.C T x u → RepV (backMem M lend m1 m').w (backMem M lend m1 m').C T x u := fun {T x u} hT hr => by
      cases lend with
      | false => simpa [backMem] using hr
      | true =>
        rw [Bool.and_eq_true] at hlend
        rcases hr with ⟨n1, cs, n2, n3⟩ | ⟨n1, n2⟩
        · exact .inl ⟨n1, cs, n2, n3.noSl (by rw [hT]; exact hlend.1)⟩
        · exact .inr ⟨n1, n2.noSl (by rw [hT]; exact hlend.1)⟩
    obtain ⟨t1, t2, t3⟩ := hres
    have htip : TipsAt (backMem M lend m1 m') (.fl 0) sp.R (tcells v) sp.tips := fun off ho e he => by
      obtain ⟨u, c1, c2⟩ := t3 off ho e he
      exact ⟨u, c1, hB.tip hM k2 (l := .fl 0 off) rfl (fun e => by cases e) c2⟩
    have := hR v (backMem M lend m1 m') r2 (k1.fr.trans hfr) k1.U
    cases hmu : sp.multi with
    | false =>
      rw [hmu] at this
      refine this ?_ (fun D hD => ?_) fun D p e => by cases e
      · exact hRv rfl (t1 hmu)
      · cases hD; exact htip
    | true =>
      rw [hmu] at this
      refine this ?_ (fun D hD => ?_) fun D p e => by cases e
      · obtain ⟨us, c1, c2⟩ := t2 hmu
        refine ⟨us, c1, ?_⟩
        cases lend with
        | false => simpa [backMem] using c2
        | true =>
          rw [Bool.and_eq_true] at hlend
          exact c2.noSl hlend.1
      · cases hD; exact htip
  · exact (fail_inv h).elim
end
end Go.XE
