/- Part 5 of the proof. -/
import Derived.Test.YtnmkgbomiillgaaGreatDoorP04
import Derived.Laws.MakeOwn
/- Operations, part F: results of calls taken apart, cuts, lengths, conversions. -/
namespace Go.XE
section
variable {P : Program} {G : Nat → Option GV} {Γ : Env} {m : Mem} {s s' : St} {a : Act}

def cutTs (k o n : Nat) : Lab → Lab
  | .ts k' off => if k' = k ∧ o ≤ off ∧ off < o + n then .fl 0 (off - o) else .ts k' off
  | l => l
theorem cutST_ok {vars : Nat} (r : Rel P G vars m s a.tmps) {t o n : Nat} {u : Unit} {ts : List Nat} (hts : ts = nthT s.stips t) (h : runR (putST t (outRange o n ts)) s = some (u, s')) :
    ∃ m1, Quiet m m1 ∧ Rel P G vars m1 s' a.tmps ∧ s'.slots = s.slots ∧ s'.fresh = s.fresh ∧ ∀ off e v, off < n → TipAt m (.ts t (o + off)) e v → TipAt m1 (.fl 0 off) e v := by
  subst hts
  have k3 := putST_inv h
  have le : s.Le { s with stips := setT s.stips t (outRange o n (nthT s.stips t)) } := ⟨fun _ => .refl _, Nat.le_refl _, fun k off ho => by
    simp only [nthT_setT] at ho
    split at ho
    · rename_i hc; rw [hc.1]; exact (mem_outRange.1 ho).1
    · exact ho, fun id o h => ⟨o, h, .refl _ _⟩, fun _ _ h => h, fun h => h⟩
  have r2 := (r.le le).same k3
  have hl : ∀ l, Live s' l → cutTs t o n l = l := fun l hl => by
    cases l with
    | ts k off =>
      by_cases e : k = t ∧ o ≤ off ∧ off < o + n
      · obtain ⟨rfl, e⟩ := e
        have : off ∈ nthT s'.stips k := hl
        rw [k3.stips] at this
        simp only [nthT_setT] at this
        split at this
        · exact absurd e (mem_outRange.1 this).2
        · rename_i hc
          have h7 : ¬ k < s.stips.length := fun hx => hc (by simp [hx])
          rw [nthT_of_le _ _ (by omega)] at this
          cases this
      · simp [cutTs, e]
    | _ => rfl
  refine ⟨m.relabel (cutTs t o n), .relabel m rfl fun _ _ => rfl, r2.relabel rfl hl, k3.slots, k3.fresh, fun off e v hlt ht => ?_⟩
  have := ht.relabel (ρ := cutTs t o n)
  have e1 : cutTs t o n (.ts t (o + off)) = .fl 0 off := by simp [cutTs, hlt]
  rwa [e1] at this
theorem extract_ok (r : Rel P G Γ.vars m s a.tmps) {o : Oper} {nid : Nat} {t : Tmp} {k : Nat} (ho : o.op = .extract (.tmp t) k) {u : Unit} (h : runR (evOp Γ o nid) s = some (u, s')) : Goes P G Γ.vars nid m s' o a := by
  simp only [evOp, ho] at h
  obtain ⟨V, s1, h1, h2⟩ := bind_inv h
  obtain ⟨hV, k1⟩ := getS_inv h1
  have hv := r.slots t
  rw [← hV] at hv
  have r1 := r.same k1
  cases V with
  | tup d =>
    obtain ⟨vs, hx, hr⟩ := hv
    obtain ⟨e, s2, h3, h4⟩ := bind_inv h2
    obtain ⟨h5, rfl⟩ := lift_inv h3
    obtain ⟨v, off, g1, g2, g3, g4⟩ := hr.proj h5
    have hx' : a.eval (.tmp t) = .tuple vs := hx
    have g1' : vs[k]? = some v := by simpa using g1
    have hrun : (execOp a.eval o).run P m.w = .ok (.value v) m.w := by simp [execOp, ho, Instr.extract, hx', g1']
    split at h4
    · exact fin0 r1 hrun h4 g2 fun _ _ h => by cases h
    · obtain ⟨q, s3, h6, h7⟩ := bind_inv h4
      obtain ⟨h8, rfl⟩ := lift_inv h6
      rw [g3] at h8
      cases h8
      obtain ⟨ts, s4, h9, h10⟩ := bind_inv h7
      obtain ⟨rfl, k2⟩ := getST_inv h9
      obtain ⟨_, s5, h11, h12⟩ := bind_inv h10
      obtain ⟨m1, q1, r2, e1, e2, f⟩ := cutST_ok (r1.same k2) (by rw [k2.stips]) h11
      refine fin q1.fr (fun id h => .inl (by rw [← q1.U]; exact h)) r2 (by rw [hrun, q1.w]) h12 (RV.to q1.fr.to (V := .dat e none) g2) (fun D hD off' hoff e' he' => ?_) fun _ _ _ e => by cases e
      simp [datOf] at hD
      subst hD
      obtain ⟨c1, c2⟩ := mem_inRange.1 hoff
      obtain ⟨w, c3, c4⟩ := r.stips t d (by rw [← hV]; rfl) (off + off') (by rw [k1.stips] at c1; exact c1) e' (tipTy_field g3 he')
      refine ⟨w, ?_, f off' e' w c2 c4⟩
      rw [g4, List.getElem?_take, if_pos c2, List.getElem?_drop]
      rw [hx] at c3
      exact c3
  | _ => exact (fail_inv h2).elim
/-! ### Cuts -/
theorem opndI_ok (hΓ : GOk P G Γ) {vars : Nat} (r : Rel P G vars m s a.tmps) {x : Option Operand} {i : Option Int} (h : runR (opndI Γ x) s = some (i, s')) :
    Same s s' ∧ (i = none ∧ x.map a.eval = none ∨ ∃ n k, i = some n ∧ x.map a.eval = some (.int k n)) := by
  cases x with
  | none => obtain ⟨rfl, rfl⟩ := ret_inv h; exact ⟨.refl _, .inl ⟨rfl, rfl⟩⟩
  | some x =>
    simp only [opndI] at h
    obtain ⟨V, s1, h1, h2⟩ := bind_inv h
    obtain ⟨k1, k2, k3⟩ := opnd_ok hΓ r h1
    obtain ⟨⟨k, n⟩, s2, h3, h4⟩ := bind_inv h2
    obtain ⟨rfl, h5⟩ := asIntV_ok h3 k2
    obtain ⟨rfl, rfl⟩ := ret_inv h4
    exact ⟨k1, .inr ⟨n, k, rfl, by simp [h5]⟩⟩
theorem cut_rep {w : World} {C : Cells} {e : Ty} {xs : List (den e)} {p : Option Addr} {cap l h : Nat} (h1 : l ≤ h) (h2 : h ≤ xs.length) (h3 : xs.length ≤ cap) (h4 : p = none → cap = 0)
    (h5 : ∀ ad, p = some ad → ad.spot = none ∧ ∀ i y, xs[i]? = some y → ∃ us, cellsAt w ad.block (ad.off + i * e.size) us ∧ (∀ j, j < e.size → C ad.block (ad.off + i * e.size + j)) ∧ Rep w C e y us) :
    RepV w C (.sl e) ((xs.take h).drop l : List (den e)) (sliced p l h cap e.size) := by
  have hl : List.length (α := den e) ((xs.take h).drop l) = h - l := by simp; omega
  refine .inr ⟨rfl, (if cap = l then p else p.map (·.add (l * e.size))), cap - l, ?_, by rw [hl]; omega, fun hn => ?_, fun ad had => ?_⟩
  · rw [hl]; rfl
  · split at hn
    · omega
    · cases p with
      | none => have := h4 rfl; omega
      | some ad => cases hn
  · cases p with
    | none => split at had <;> cases had
    | some a0 =>
      obtain ⟨g1, g2⟩ := h5 a0 rfl
      by_cases hc : cap = l
      · rw [if_pos hc] at had
        cases had
        refine ⟨g1, fun i y hy => ?_⟩
        have := (List.getElem?_eq_some_iff.1 hy).1
        omega
      · rw [if_neg hc] at had
        simp at had
        subst had
        rw [addr_eta g1, add_mk]
        refine ⟨rfl, fun i y hy => ?_⟩
        have hy' : xs[l + i]? = some y := by
          rw [List.getElem?_drop, List.getElem?_take] at hy
          split at hy
          · exact hy
          · cases hy
        obtain ⟨us, c1, c2, c3⟩ := g2 _ _ hy'
        have e1 : a0.off + (l + i) * e.size = a0.off + l * e.size + i * e.size := by rw [Nat.add_mul]; omega
        rw [e1] at c1 c2
        exact ⟨us, c1, c2, c3⟩
theorem bytes_extract (xs : List UInt8) (l h : Nat) : (⟨xs.toArray⟩ : ByteArray).extract l h = ⟨((xs.take h).drop l).toArray⟩ := by
  apply ByteArray.ext
  simp [ByteArray.data_extract, List.extract_eq_take_drop, List.drop_take]
theorem cut_ok {α : Type} {xs ys : List α} {lo hi : Option Int} (h : runR (cutL xs lo hi) s = some (ys, s')) :
    s' = s ∧ ∃ l h, l ≤ h ∧ h ≤ xs.length ∧ ys = (xs.take h).drop l ∧ (lo = none ∧ l = 0 ∨ ∃ n : Int, lo = some n ∧ 0 ≤ n ∧ n.toNat = l) ∧ (hi = none ∧ h = xs.length ∨ ∃ n : Int, hi = some n ∧ 0 ≤ n ∧ n.toNat = h) := by
  unfold cutL at h
  split at h
  · obtain ⟨rfl, rfl⟩ := ret_inv h
    exact ⟨rfl, 0, ys.length, Nat.zero_le _, Nat.le_refl _, by simp, .inl ⟨rfl, rfl⟩, .inl ⟨rfl, rfl⟩⟩
  · rename_i l
    obtain ⟨_, s1, h1, h2⟩ := bind_inv h
    obtain ⟨c1, c2, rfl⟩ := need2 h1
    obtain ⟨rfl, rfl⟩ := ret_inv h2
    simp only [decide_eq_true_eq] at c1 c2
    exact ⟨rfl, l.toNat, xs.length, by omega, Nat.le_refl _, by simp, .inr ⟨l, rfl, c1, rfl⟩, .inl ⟨rfl, rfl⟩⟩
  · rename_i h9
    obtain ⟨_, s1, h1, h2⟩ := bind_inv h
    obtain ⟨c1, c2, rfl⟩ := need2 h1
    obtain ⟨rfl, rfl⟩ := ret_inv h2
    simp only [decide_eq_true_eq] at c1 c2
    exact ⟨rfl, 0, h9.toNat, Nat.zero_le _, by omega, by simp, .inl ⟨rfl, rfl⟩, .inr ⟨h9, rfl, c1, rfl⟩⟩
  · rename_i l h9
    obtain ⟨_, s1, h1, h2⟩ := bind_inv h
    obtain ⟨c1, c3, rfl⟩ := need2 h1
    obtain ⟨rfl, rfl⟩ := ret_inv h2
    simp only [Bool.and_eq_true, decide_eq_true_eq] at c1 c3
    exact ⟨rfl, l.toNat, h9.toNat, by omega, by omega, rfl, .inr ⟨l, rfl, c1.1, rfl⟩, .inr ⟨h9, rfl, by omega, rfl⟩⟩
theorem optI_none {i : Option Int} {x : Option Value} (h : i = none ∧ x = none ∨ ∃ n k, i = some n ∧ x = some (.int k n)) (hi : i = none) : x = none := by
  rcases h with ⟨_, h⟩ | ⟨n, k, h, _⟩
  · exact h
  · rw [hi] at h; cases h
theorem optI_some {i : Option Int} {x : Option Value} {n : Int} (h : i = none ∧ x = none ∨ ∃ n k, i = some n ∧ x = some (.int k n)) (hi : i = some n) : ∃ k, x = some (.int k n) := by
  rcases h with ⟨h, _⟩ | ⟨n', k, h, hx⟩
  · rw [hi] at h; cases h
  · rw [hi] at h; cases h; exact ⟨k, hx⟩
theorem slice_ok (hΓ : GOk P G Γ) (r : Rel P G Γ.vars m s a.tmps) {o : Oper} {nid : Nat} {t : TypeId} {x : Operand} {lo hi : Option Operand} (ho : o.op = .slice t x lo hi none) {u : Unit}
    (h : runR (evOp Γ o nid) s = some (u, s')) : Goes P G Γ.vars nid m s' o a := by
  simp only [evOp, ho] at h
  obtain ⟨V, s1, h1, h2⟩ := bind_inv h
  obtain ⟨k1, k2, k2'⟩ := opnd_ok hΓ r h1
  have r1 := r.same k1
  obtain ⟨il, s2, h3, h4⟩ := bind_inv h2
  obtain ⟨k3, kl⟩ := opndI_ok hΓ r1 h3
  have r2 := r1.same k3
  obtain ⟨ih, s3, h5, h6⟩ := bind_inv h4
  obtain ⟨k4, kh⟩ := opndI_ok hΓ r2 h5
  have r3 := r2.same k4
  obtain ⟨d, s4, h7, h8⟩ := bind_inv h6
  obtain ⟨m1, q1, r4, hd, e1, e2, e3, e4⟩ := asD_ok r3 h7 k2
  obtain ⟨e, s5, h9, h10⟩ := bind_inv h8
  have main : s5 = s4 ∧ ∃ v, (Instr.sliceAt t (a.eval x) (lo.map a.eval) (hi.map a.eval) none).run P m.w = .ok v m.w ∧ RepV m1.w m1.C e.T e.x v := by
    unfold cutD at h9
    split at h9
    · rename_i e0 xs
      obtain ⟨_, s6, g1, g2⟩ := bind_inv h9
      obtain ⟨ht, rfl⟩ := chkT_inv hΓ g1
      obtain ⟨ys, s7, g3, g4⟩ := bind_inv g2
      obtain ⟨rfl, rfl⟩ := ret_inv g4
      obtain ⟨rfl, l, h', c1, c2, rfl, c3, c4⟩ := cut_ok g3
      obtain ⟨et, c7, c8, c9⟩ := ht.2
      obtain ⟨p, cap, d1, d2, d3, d4⟩ := RepV.sl_inv hd
      refine ⟨rfl, sliced p l h' cap e0.size, ?_, cut_rep c1 c2 d2 d3 d4⟩
      have hel : P.elem t = et := by simp [Program.elem, c7]
      have hu : P.underlying t = some (.slice (P.elem t)) := by rw [hel]; exact c7
      have hsz := run_sizeOf (P := P) c9 m.w
      rw [run_sliceAt_slice m.w t _ _ _ _ hu, d1]
      have c2' : h' ≤ List.length (α := den e0) xs := c2
      have d2' : List.length (α := den e0) xs ≤ cap := d2
      rcases c3 with ⟨n1, rfl⟩ | ⟨n, n1, n2, rfl⟩
      · rw [optI_none kl n1]
        rcases c4 with ⟨p1, rfl⟩ | ⟨n', p1, p2, rfl⟩
        · rw [optI_none kh p1, run_slice_all m.w t p _ cap hu, hel, hsz]; rfl
        · obtain ⟨k', e9⟩ := optI_some kh p1
          rw [e9, run_slice_h m.w t p _ cap hu k' n' p2 (by omega), hel, hsz]; rfl
      · obtain ⟨k, e8⟩ := optI_some kl n1
        rw [e8]
        rcases c4 with ⟨p1, rfl⟩ | ⟨n', p1, p2, rfl⟩
        · have h7 : n ≤ ((List.length (α := den e0) xs : Nat) : Int) := by omega
          rw [optI_none kh p1, run_slice_l m.w t p _ cap hu k n n2 h7, hel, hsz]; rfl
        · obtain ⟨k', e9⟩ := optI_some kh p1
          rw [e9, run_slice_lh m.w t p _ cap hu k k' n n' n2 (by omega) (by omega), hel, hsz]; rfl
    · rename_i xs
      obtain ⟨_, s6, g1, g2⟩ := bind_inv h9
      obtain ⟨ht, rfl⟩ := chkT_inv hΓ g1
      obtain ⟨ys, s7, g3, g4⟩ := bind_inv g2
      obtain ⟨rfl, rfl⟩ := ret_inv g4
      obtain ⟨rfl, l, h', c1, c2, rfl, c3, c4⟩ := cut_ok g3
      refine ⟨rfl, .string ⟨((xs.take h').drop l).toArray⟩, ?_, RepV.str _⟩
      rw [run_sliceAt_string m.w t _ _ _ _ ht.2, hd.str_eq, ← bytes_extract]
      have hsz : (⟨xs.toArray⟩ : ByteArray).size = xs.length := by simp [ByteArray.size_mk']
      have c2' : h' ≤ List.length (α := UInt8) xs := c2
      rcases c3 with ⟨n1, rfl⟩ | ⟨n, n1, n2, rfl⟩
      · rw [optI_none kl n1]
        rcases c4 with ⟨p1, rfl⟩ | ⟨n', p1, p2, rfl⟩
        · rw [optI_none kh p1]
          simp only [Instr.slice, Instr.sliceBounds, Sem.run_bind, run_underlying ht.2, Result.andThen_ok, Option.isSome_none, Bool.false_eq_true, if_false, Sem.run_pure, hsz]
        · obtain ⟨k', e9⟩ := optI_some kh p1
          have q1 := run_sliceBound (P := P) m.w k' n' xs.length .sliceAlen p2 (by omega)
          rw [e9]
          simp only [Instr.slice, Instr.sliceBounds, Sem.run_bind, run_underlying ht.2, Result.andThen_ok, Option.isSome_none, Bool.false_eq_true, if_false, Sem.run_pure, hsz, q1]
      · obtain ⟨k, e8⟩ := optI_some kl n1
        rw [e8]
        rcases c4 with ⟨p1, rfl⟩ | ⟨n', p1, p2, rfl⟩
        · have q1 := run_sliceBound (P := P) m.w k n xs.length .sliceB n2 (by omega)
          rw [optI_none kh p1]
          simp only [Instr.slice, Instr.sliceBounds, Sem.run_bind, run_underlying ht.2, Result.andThen_ok, Option.isSome_none, Bool.false_eq_true, if_false, Sem.run_pure, hsz, q1]
        · obtain ⟨k', e9⟩ := optI_some kh p1
          have q1 := run_sliceBound (P := P) m.w k' n' xs.length .sliceAlen p2 (by omega)
          have q2 := run_sliceBound (P := P) m.w k n n'.toNat .sliceB n2 (by omega)
          rw [e9]
          simp only [Instr.slice, Instr.sliceBounds, Sem.run_bind, run_underlying ht.2, Result.andThen_ok, Option.isSome_none, Bool.false_eq_true, if_false, Sem.run_pure, hsz, q1, q2]
    · exact (fail_inv h9).elim
  obtain ⟨rfl, v, g1, g2⟩ := main
  exact fin q1.fr (fun id h => .inl (by rw [← q1.U]; exact h)) r4 (by rw [q1.w]; simp [execOp, ho]; simpa using congrArg (fun z => z.andThen fun (v : Value) w => Result.ok (Next.value v) w) g1) h10 (V := ofD e) g2 noTips fun _ _ _ e => by cases e
end
end Go.XE
/- Operations, part G: new objects, stores. -/
namespace Go.XE
section
variable {P : Program} {G : Nat → Option GV} {Γ : Env} {m : Mem} {s s' : St} {a : Act}

/-- An object gets its number and its place. -/
def Mem.give (m : Mem) (id : Nat) (A : AD) : Mem := { m with ad := fun i => if i = id then A else m.ad i, U := fun i => m.U i ∨ i = id }
theorem Fr.give {id : Nat} (h : ¬ m.U id) (A : AD) : Fr m (m.give id A) :=
  ⟨⟨.refl _ _, fun _ _ h => h, rfl, fun i hi => by
    have : i ≠ id := fun e => h (e ▸ hi)
    simp [Mem.give, this], fun _ h => .inl h⟩, fun _ _ h _ => .inl h, fun _ _ h => h⟩
theorem Rel.give {vars : Nat} {tm : Array Value} (r : Rel P G vars m s tm) {id : Nat} (h : ¬ m.U id) (A : AD) : Rel P G vars (m.give id A) s tm :=
  r.move ⟨(Fr.give h A).to, r.bC, r.bL, fun _ _ => ⟨rfl, rfl, fun _ h => h⟩⟩
def toTo (id : Nat) : Lab → Lab
  | .fl 0 off => .to id off
  | l => l
def layM (m : Mem) (w' : World) (id : Nat) (A : AD) : Mem := ((m.relabel (toTo id)).alloc w' (.obj id) fun _ => False).give id A
/-- A new block for a new object. -/
theorem lay_ok {vars nid : Nat} {tm : Array Value} (r : Rel P G vars m s tm) (hn : ¬ m.U nid) {w' : World} {cur : Array Value} {et : TypeId} (hw : w'.heap = m.w.heap.push (Go.Obj.cells cur et (0, 0))) {A : AD} (hA : A.b = m.w.heap.size)
    {o : Obj} {ts : List Nat} (ho : m.To (layM m w' nid A) → ObjOk (layM m w' nid A) nid o)
    (ht : ∀ d, o = .box d → ∀ off, off ∈ ts → ∀ e, tipTy d.T off = some e → ∃ v, cur[A.o + off]? = some v ∧ TipAt m (.fl 0 off) e v) :
    Rel P G vars (layM m w' nid A) { s with objs := setObj nid (some o) s.objs, otips := setTips nid ts s.otips } tm ∧ Fr m (layM m w' nid A) ∧ (∀ id, (layM m w' nid A).U id → m.U id ∨ id = nid) := by
  have none : lookObj nid s.objs = none := by
    cases h : lookObj nid s.objs with
    | none => rfl
    | some o => exact absurd (r.objs nid o h).1 hn
  have hl : ∀ l, Live s l → toTo nid l = l := fun l h => by cases l <;> first | rfl | exact h.elim
  have f0 : Fr m (m.relabel (toTo nid)) := .relabel m rfl
  have r0 := r.relabel (ρ := toTo nid) rfl hl
  have r1 := r0.putOT (id := nid) (ts := ts) (fun d hd => by rw [none] at hd; cases hd) fun _ => hn
  have f1 := Fr.alloc (m.relabel (toTo nid)) hw (.obj nid) fun _ => False
  have r2 := r1.alloc hw (.obj nid) fun _ => False
  have f2 : Fr _ (layM m w' nid A) := Fr.give (m := (m.relabel (toTo nid)).alloc w' (.obj nid) fun _ => False) hn A
  have r3 : Rel P G vars (layM m w' nid A) _ tm := r2.give hn A
  have f := (f0.trans f1).trans f2
  have had : (layM m w' nid A).ad nid = A := by simp [layM, Mem.give]
  have hb : w'.heap[A.b]? = some (Go.Obj.cells cur et (0, 0)) := by rw [hw, hA]; simp
  refine ⟨r3.putObj (id := nid) (.inr rfl) (ho f.to) fun d hd off hoff e he => ?_, f, fun id h => h⟩
  simp only [lookT_setTips, if_true] at hoff
  obtain ⟨v, c1, c2⟩ := ht d hd off hoff e he
  rw [had]
  refine ⟨v, ?_, ?_⟩
  · show w'.cell? _ = _
    simp [World.cell?, hb, c1]
  · have c3 : TipAt (m.relabel (toTo nid)) (.to nid off) e v := c2.relabel (ρ := toTo nid)
    rcases c3 with c3 | ⟨b, n, cap, cu, et', d1, d2, d3, d4, d5, d6⟩
    · exact .inl c3
    · have hlt : b < m.w.heap.size := (Array.getElem?_eq_some_iff.1 d3).1
      have hne : b ≠ m.w.heap.size := by omega
      refine .inr ⟨b, n, cap, cu, et', d1, ?_, ?_, d4, d5, fun j hj => ⟨fun hc => ?_, (d6 j hj).2⟩⟩
      · show (if b = m.w.heap.size then _ else _) = _
        rw [if_neg hne]; exact d2
      · show w'.heap[b]? = _
        rw [hw, Array.getElem?_push, if_neg hne]; exact d3
      · rcases hc with hc | ⟨_, hc⟩
        · exact (d6 j hj).1 hc
        · exact hc
theorem zeroV_cells (T : Ty) : (zeroV T).cells.toList = zeroCells T := by
  have h := zero_repV (default : World) (fun _ _ => False) T
  unfold zeroV at h ⊢
  cases T <;> rfl
theorem layM_free {vars nid : Nat} {tm : Array Value} (r : Rel P G vars m s tm) {w' : World} {A : AD} (hA : A.b = m.w.heap.size) (j : Nat) : ¬ (layM m w' nid A).C A.b j ∧ ¬ (layM m w' nid A).K A.b j := by
  refine ⟨fun h => ?_, fun h => ?_⟩
  · rcases h with h | ⟨_, h⟩
    · have := r.bC _ _ h; omega
    · exact h
  · have := r.bK _ _ h; omega
theorem layM_L {w' : World} {nid : Nat} {A : AD} (hA : A.b = m.w.heap.size) : (layM m w' nid A).L A.b = .obj nid := by
  show (if A.b = m.w.heap.size then _ else _) = _
  rw [if_pos hA]
theorem layM_ad {w' : World} {nid : Nat} {A : AD} : (layM m w' nid A).ad nid = A := by simp [layM, Mem.give]
theorem cellsAt_new {w w' : World} {cur : Array Value} {et : TypeId} (hw : w'.heap = w.heap.push (Go.Obj.cells cur et (0, 0))) {b : Nat} (hb : b = w.heap.size) : cellsAt w' b 0 cur.toList := fun j v hv => by
  subst hb
  have : w'.heap[w.heap.size]? = some (Go.Obj.cells cur et (0, 0)) := by rw [hw]; simp
  simp only [World.cell?, this, Nat.zero_add]
  simpa using hv
def A0 (m : Mem) (T : Ty) : AD := ⟨m.w.heap.size, 0, 0, T⟩
def newW (w : World) (v : Array Value) (t : TypeId) : World := { w with heap := w.heap.push (Go.Obj.cells v t (0, 0)) }
theorem newW_new (w : World) (v : Array Value) (t : TypeId) : (newW w v t).heap[w.heap.size]? = some (Go.Obj.cells v t (0, 0)) := by
  show (w.heap.push _)[w.heap.size]? = _
  simp
theorem run_newVar (t : TypeId) (v : Value) (w : World) : (newVar t v).run P w = .ok ⟨w.heap.size, 0, none⟩ (newW w v.cells t) := by
  simp [newVar, newRow, newObj, Sem.run, newW]
theorem boxObj_ok {vars nid : Nat} {tm : Array Value} (r : Rel P G vars m s tm) {T : Ty} {y : den T} {v : Value} (hv : RepV m.w m.C T y v) (t : TypeId) (h : m.To (layM m (newW m.w v.cells t) nid (A0 m T))) :
    ObjOk (layM m (newW m.w v.cells t) nid (A0 m T)) nid (.box ⟨T, y⟩) := by
  have hr := Rep.cells hv
  show ObjOk _ _ _
  simp only [ObjOk, layM_ad]
  refine ⟨rfl, layM_L rfl, v.cells, t, v.cells.toList, ?_, ?_, ?_, h.rep hr, fun j _ => layM_free r rfl _⟩
  · exact newW_new _ _ _
  · have := hr.len
    simp at this
    simp [A0, this]
  · exact cellsAt_new rfl rfl
theorem setOT_same {s s1 s2 : St} {nid : Nat} {o : Obj} {ts : List Nat} {u u' : Unit} (h : runR (setO nid o) s = some (u, s1)) (h' : runR (putOT nid ts) s1 = some (u', s2)) :
    Same { s with objs := setObj nid (some o) s.objs, otips := setTips nid ts s.otips } s2 := by
  have k := setO_inv h
  have k' := putOT_inv h'
  exact ⟨k'.slots.trans k.slots, k'.stips.trans k.stips, k'.objs.trans k.objs, k'.otips.trans (by simp only [k.otips]), k'.fresh.trans k.fresh⟩
theorem alloc_ok (hΓ : GOk P G Γ) (r : Rel P G Γ.vars m s a.tmps) {o : Oper} {nid : Nat} (hn : ¬ m.U nid) {t : TypeId} (ho : o.op = .alloc t) {u : Unit} (h : runR (evOp Γ o nid) s = some (u, s')) : Goes P G Γ.vars nid m s' o a := by
  simp only [evOp, ho] at h
  obtain ⟨T, s1, h1, h2⟩ := bind_inv h
  obtain ⟨h3, rfl⟩ := lift_inv h1
  have ht := hΓ.τ t T h3
  obtain ⟨_, s2, h4, h5⟩ := bind_inv h2
  obtain ⟨_, s3, h6, h7⟩ := bind_inv h5
  have hrep := zero_repV m.w m.C T
  obtain ⟨r1, f1, hU⟩ := lay_ok (nid := nid) (w' := newW m.w (zeroV T).cells t) (A := A0 m T) (o := .box ⟨T, dflt T⟩) (ts := slOffs T) r hn rfl rfl (boxObj_ok r hrep t) fun d hd off hoff e he => by
    cases hd
    have := zero_tips T off e he
    rw [← zeroV_cells] at this
    exact ⟨_, by simpa [A0] using this, .inl rfl⟩
  refine fin f1 hU (r1.same (setOT_same h4 h6)) (v := .pointer (some ⟨m.w.heap.size, 0, none⟩)) ?_ h7 (V := .bp nid [] T) ⟨.inr rfl, 0, by rw [layM_ad]; rfl, by rw [layM_ad]; rfl⟩ (fun D hD => by cases hD) fun _ _ _ e => by cases e
  simp only [execOp, ho, Instr.alloc, Sem.run_bind, run_zero ht, Result.andThen_ok, run_newVar, Sem.run_pure]
  rfl
theorem box_ok (hΓ : GOk P G Γ) (r : Rel P G Γ.vars m s a.tmps) {o : Oper} {nid : Nat} (hn : ¬ m.U nid) {t : TypeId} {x : Operand} (ho : o.op = .box t x) {u : Unit} (h : runR (evOp Γ o nid) s = some (u, s')) : Goes P G Γ.vars nid m s' o a := by
  have hrun : (execOp a.eval o).run P m.w = .ok (.value (.pointer (some ⟨m.w.heap.size, 0, none⟩))) (newW m.w (a.eval x).cells t) := by
    simp only [execOp, ho, Instr.box, Sem.run_bind, run_newVar, Result.andThen_ok, Sem.run_pure]
  simp only [evOp, ho] at h
  obtain ⟨V, s1, h1, h2⟩ := bind_inv h
  obtain ⟨k1, k2, k3⟩ := opnd_ok hΓ r h1
  have r1 := r.same k1
  have gen : runR ((liftO (Γ.τ t)).bind fun T => (asT T V).bind fun y => (takeTips x).bind fun ts =>
      (setO nid (.box ⟨T, y⟩)).bind fun _ => (putOT nid (tipsFor V ts)).bind fun _ => dstM Γ o (.bp nid [] T) []) s1 = some (u, s') → Goes P G Γ.vars nid m s' o a := fun h2 => by
    obtain ⟨T, s2, h3, h4⟩ := bind_inv h2
    obtain ⟨h5, rfl⟩ := lift_inv h3
    obtain ⟨y, s3, h6, h7⟩ := bind_inv h4
    obtain ⟨m1, q1, r2, hy, e1, e2, e3, e4⟩ := asT_ok r1 h6 k2
    obtain ⟨ts, s4, h8, h9⟩ := bind_inv h7
    obtain ⟨m2, q2, r3, e5, e6, e7, e8, f1⟩ := takeTips_ok r2 h8
    obtain ⟨_, s5, h10, h11⟩ := bind_inv h9
    obtain ⟨_, s6, h12, h13⟩ := bind_inv h11
    have hy2 : RepV m2.w m2.C T y (a.eval x) := q2.fr.to.repV hy
    have hn2 : ¬ m2.U nid := by rw [q2.U, q1.U]; exact hn
    have hw2 : m2.w = m.w := q2.w.trans q1.w
    obtain ⟨r4, f2, hU⟩ := lay_ok (nid := nid) (w' := newW m2.w (a.eval x).cells t) (A := A0 m2 T) (o := .box ⟨T, y⟩) (ts := tipsFor V ts) r3 hn2 rfl rfl (boxObj_ok r3 hy2 t) fun d hd off hoff e he => by
      cases hd
      have hcell : ∀ v, (tcells (a.eval x))[off]? = some v → (a.eval x).cells[(A0 m2 T).o + off]? = some v := fun v hv => by
        rw [(RepV.tcells hy2).2] at hv
        simpa [A0] using hv
      rcases e4 with ⟨rfl, hx⟩ | ⟨p, rfl⟩ | hd
      · simp [tipsFor] at hoff
        subst hoff
        rw [hx]
        exact ⟨_, rfl, .inl rfl⟩
      · replace hoff : off ∈ ts := hoff
        cases x with
        | tmp t0 =>
          obtain ⟨v, c1, c2⟩ := f1 t0 rfl ⟨T, y⟩ (by rw [e1, k1.slots, ← k3 t0 rfl]; rfl) off hoff e he
          exact ⟨v, hcell v c1, c2⟩
        | const c => simp only [takeTips] at h8; obtain ⟨rfl, _⟩ := ret_inv h8; cases hoff
        | global c => simp only [takeTips] at h8; obtain ⟨rfl, _⟩ := ret_inv h8; cases hoff
        | func c => simp only [takeTips] at h8; obtain ⟨rfl, _⟩ := ret_inv h8; cases hoff
      · cases V <;> first | (cases hoff; done) | (cases hd; done) | (simp [tipsFor] at hoff; done) | skip
        have hx : a.eval x = .slice none 0 0 := k2
        simp [tipsFor] at hoff
        subst hoff
        rw [hx]
        exact ⟨_, rfl, .inl rfl⟩
    refine fin ((q1.fr.trans q2.fr).trans f2) (fun id hid => ?_) (r4.same (setOT_same h10 h12)) (v := .pointer (some ⟨m2.w.heap.size, 0, none⟩)) (by rw [hrun, ← hw2]; rfl) h13 (V := .bp nid [] T) ⟨.inr rfl, 0, by rw [layM_ad]; rfl, by rw [layM_ad]; rfl⟩ (fun D hD => by cases hD) fun _ _ _ e => by cases e
    rcases hU id hid with h | h
    · exact .inl (by rw [q2.U, q1.U] at h; exact h)
    · exact .inr h
  have var : ∀ {ob : Obj}, (m.To (layM m (newW m.w (a.eval x).cells t) nid (A0 m .unit)) → ObjOk (layM m (newW m.w (a.eval x).cells t) nid (A0 m .unit)) nid ob) → (∀ d, ob ≠ .box d) →
      runR ((setO nid ob).bind fun _ => (putOT nid []).bind fun _ => dstM Γ o (.bp nid [] .unit) []) s1 = some (u, s') → Goes P G Γ.vars nid m s' o a := fun hob hnb h2 => by
    obtain ⟨_, s5, h10, h11⟩ := bind_inv h2
    obtain ⟨_, s6, h12, h13⟩ := bind_inv h11
    obtain ⟨r4, f2, hU⟩ := lay_ok (nid := nid) (w' := newW m.w (a.eval x).cells t) (A := A0 m .unit) (ts := []) r1 hn rfl rfl hob fun d hd => absurd hd (hnb d)
    exact fin f2 hU (r4.same (setOT_same h10 h12)) hrun h13 (V := .bp nid [] .unit) ⟨.inr rfl, 0, by rw [layM_ad]; rfl, by rw [layM_ad]; rfl⟩ (fun D hD => by cases hD) fun _ _ _ e => by cases e
  have one : ∀ v : Value, v.cells = #[v] → (newW m.w v.cells t).cell? ⟨m.w.heap.size, 0, none⟩ = some v := fun v hv => by
    simp [World.cell?, newW_new, hv]
  cases V with
  | rp d =>
    refine var (ob := .vrp d) (fun hto => ?_) (fun _ h => by cases h) h2
    obtain ⟨ad, hx, hrest⟩ := k2
    simp only [ObjOk, layM_ad]
    exact ⟨layM_L rfl, rfl, a.eval x, one _ (by rw [hx]; rfl), PtrTo.to hto ⟨ad, hx, hrest⟩⟩
  | bp i p T =>
    refine var (ob := .vbp i p T) (fun hto => ?_) (fun _ h => by cases h) h2
    have hx : (a.eval x).cells = #[a.eval x] := by obtain ⟨_, _, _, hx⟩ := k2; rw [hx]; rfl
    simp only [ObjOk, layM_ad]
    exact ⟨layM_L rfl, rfl, a.eval x, one _ hx, BPtr.to hto k2⟩
  | _ => exact gen h2
end
end Go.XE
/- Operations, part H: stores. -/
namespace Go.XE
section
variable {P : Program} {G : Nat → Option GV} {Γ : Env} {m : Mem} {s s' : St} {a : Act}

theorem splice_get {α : Type} (L us : List α) (p n : Nat) (hn : us.length = n) (hp : p + n ≤ L.length) (k : Nat) :
    (L.take p ++ us ++ L.drop (p + n))[k]? = if p ≤ k ∧ k < p + n then us[k - p]? else L[k]? := by
  subst hn
  have hl : (L.take p).length = p := by simp; omega
  by_cases h1 : k < p
  · rw [List.append_assoc, List.getElem?_append_left (by omega), List.getElem?_take, if_pos h1, if_neg (by omega)]
  · by_cases h2 : k < p + us.length
    · rw [List.append_assoc, List.getElem?_append_right (by omega), hl, List.getElem?_append_left (by omega), if_pos ⟨by omega, h2⟩]
    · rw [List.getElem?_append_right (by simp; omega), List.getElem?_drop, if_neg (by omega)]
      congr 1
      simp; omega
theorem asT_objs {T : Ty} {V : V} {y : den T} (h : runR (asT T V) s = some (y, s')) : (∀ id d, lookObj id s.objs = some (.box d) → lookObj id s'.objs = some (.box d)) ∧ s'.otips = s.otips := by
  unfold asT at h
  split at h
  · obtain ⟨_, rfl⟩ := ret_inv h; exact ⟨fun _ _ h => h, rfl⟩
  · obtain ⟨d, s1, h1, h2⟩ := bind_inv h
    obtain ⟨h3, rfl⟩ := lift_inv h2
    unfold asD at h1
    split at h1
    · obtain ⟨_, rfl⟩ := ret_inv h1; exact ⟨fun _ _ h => h, rfl⟩
    · obtain ⟨_, rfl⟩ := ret_inv h1; exact ⟨fun _ _ h => h, rfl⟩
    · obtain ⟨o, s2, h4, h5⟩ := bind_inv h1
      obtain ⟨h6, k1⟩ := getO_inv h4
      split at h5
      · obtain ⟨_, s3, h7, h8⟩ := bind_inv h5
        obtain ⟨_, rfl⟩ := ret_inv h8
        have k2 := setO_inv h7
        refine ⟨fun id d hd => ?_, k2.otips.trans k1.otips⟩
        rw [k2.objs]
        simp only [lookObj_setObj]
        split
        · rename_i e; subst e; rw [h6] at hd; cases hd
        · rw [k1.objs]; exact hd
      · exact (fail_inv h5).elim
    · exact (fail_inv h1).elim
theorem datT_ok {T : Ty} {V : V} {y : den T} {v : Value} (h : runR (datT T V) s = some (y, s')) (hv : RV P m V v) : s' = s ∧ RepV m.w m.C T y v := by
  unfold datT at h
  split at h
  · obtain ⟨rfl, rfl⟩ := ret_inv h
    have : v = .slice none 0 0 := hv
    subst this
    exact ⟨rfl, .inr ⟨rfl, none, 0, rfl, Nat.le_refl _, fun _ => rfl, fun a h => by cases h⟩⟩
  · obtain ⟨d, s1, h1, h2⟩ := bind_inv h
    obtain ⟨h3, rfl⟩ := lift_inv h2
    obtain ⟨h4, h5, _⟩ := datD_ok h1 hv
    have := as_eq h3
    subst this
    exact ⟨h4, h5⟩
theorem tipTy_ge : ∀ {T : Ty} {k : Nat}, T.size ≤ k → tipTy T k = none := fun {T k} h => by
  cases ht : tipTy T k with
  | none => rfl
  | some e => have := tipTy_lt ht; omega
theorem tipTy_fieldEq : ∀ {T U : Ty} {j o k : Nat}, fieldOff T j = some (o, U) → k < U.size → tipTy T (o + k) = tipTy U k
  | .pair a b, U, 0, o, k, h, hk => by
    simp [fieldOff] at h
    obtain ⟨rfl, rfl⟩ := h
    simp [tipTy, hk]
  | .pair a b, U, j + 1, o, k, h, hk => by
    simp only [fieldOff] at h
    split at h
    · rename_i q t hq
      simp at h
      obtain ⟨rfl, rfl⟩ := h
      have := tipTy_fieldEq hq hk
      simp only [tipTy]
      rw [if_neg (by omega), show a.size + q + k - a.size = q + k by omega, this]
    · cases h
  | .int _, _, _, _, _, h, _ => by simp [fieldOff] at h
  | .bool, _, _, _, _, h, _ => by simp [fieldOff] at h
  | .str, _, _, _, _, h, _ => by simp [fieldOff] at h
  | .unit, _, _, _, _, h, _ => by simp [fieldOff] at h
  | .sl _, _, _, _, _, h, _ => by simp [fieldOff] at h
theorem tipTy_pathEq : ∀ {p : List Nat} {T U : Ty} {o k : Nat}, pathOff T p = some (o, U) → k < U.size → tipTy T (o + k) = tipTy U k
  | [], T, U, o, k, h, _ => by simp [pathOff] at h; obtain ⟨rfl, rfl⟩ := h; simp
  | j :: r, T, U, o, k, h, hk => by
    simp only [pathOff] at h
    split at h
    · rename_i q t hq
      split at h
      · rename_i q2 t2 hq2
        simp at h
        obtain ⟨rfl, rfl⟩ := h
        have hle := pathOff_le hq2
        rw [Nat.add_assoc, tipTy_fieldEq hq (by omega), tipTy_pathEq hq2 hk]
      · cases h
    · cases h
def toTo2 (id q : Nat) : Lab → Lab
  | .fl 0 off => .to id (q + off)
  | l => l
/-- A row is written in place: what the written block then holds. -/
theorem wrote_row {vars : Nat} {tm : Array Value} (r : Rel P G vars m s tm) {b p n : Nat} {us : List Value} {cur : Array Value} {et : TypeId} (hb : m.w.heap[b]? = some (Go.Obj.cells cur et (0, 0))) (hn : us.length = n) (hp : p + n ≤ cur.size)
    (hfree : ∀ k, p ≤ k → k < p + n → ¬ m.C b k ∧ ¬ m.K b k) {X : Nat → Prop} (hX : ∀ j, X j → ¬ m.K b j) :
    Wrote m (m.w.setRow b (cur.toList.take p ++ us ++ cur.toList.drop (p + n)).toArray) b X := by
  have hlen : (cur.toList.take p ++ us ++ cur.toList.drop (p + n)).toArray.size = cur.size := by simp; omega
  refine ⟨by simp, fun b' hb' => setRow_other m.w b b' _ hb', ⟨cur, _, et, (0, 0), hb, setRow_heap m.w b cur _ et (0, 0) hb, hlen, fun j hj => ?_⟩, hX⟩
  rw [List.getElem?_toArray, splice_get cur.toList us p n hn (by simpa using hp)]
  rw [if_neg]
  · simp
  · rintro ⟨h1, h2⟩
    have := hfree j h1 h2
    rcases hj with hj | hj
    · exact this.1 hj
    · exact this.2 hj
theorem Rel.storeBox {vars : Nat} {tm : Array Value} (r : Rel P G vars m s tm) {i : Nat} {d d' : D} (hbox : lookObj i s.objs = some (.box d)) {p : List Nat} {q : Nat} {U : Ty} {y : den U} (h8 : pathOff d.T p = some (q, U)) (h15 : setp d p ⟨U, y⟩ = some d')
    {us : List Value} (hus : Rep m.w m.C U y us) {ts : List Nat} (hts : ∀ k, k ∈ ts → k < U.size → ∀ e, tipTy U k = some e → ∃ v, us[k]? = some v ∧ TipAt m (.to i (q + k)) e v) :
    ∃ cur et m', m.w.heap[(m.ad i).b]? = some (Go.Obj.cells cur et (0, 0)) ∧ (m.ad i).o + q + U.size ≤ cur.size ∧
      m'.w = m.w.setRow (m.ad i).b (cur.toList.take ((m.ad i).o + q) ++ us ++ cur.toList.drop ((m.ad i).o + q + U.size)).toArray ∧
      Rel P G vars m' { s with fresh := false, objs := setObj i (some (.box d')) s.objs, otips := setTips i (outRange q U.size (lookT i s.otips) ++ shiftN q (inRange 0 U.size ts)) s.otips } tm ∧ Fr m m' ∧ m'.U = m.U := by
  obtain ⟨hu, c1, c2, cur, et, vs, c3, c4, c5, c6, c7⟩ := r.objs i _ hbox
  have ot := r.otips i d hbox
  have r5 := (r.le (le_stale s)).le (le_noObj _ i)
  have hle := pathOff_le h8
  have hlen := hus.len
  have wr := wrote_row r (p := (m.ad i).o + q) (us := us) (n := U.size) (X := fun _ => False) c3 hlen (by omega) (fun k h1 h2 => by
    have := c7 (k - (m.ad i).o) (by omega)
    rwa [show (m.ad i).o + (k - (m.ad i).o) = k by omega] at this) (fun _ h => h.elim)
  have kp := keeps_write r wr
  have r6 := r5.write wr (by rw [c2]; exact dead_noObj _ i)
  have fr : Fr m _ := .write wr
  have r7 := r6.putOT (id := i) (ts := outRange q U.size (lookT i s.otips) ++ shiftN q (inRange 0 U.size ts)) (fun d hd => by simp [St.noObj, lookObj_setObj] at hd) fun hf => by cases hf
  refine ⟨cur, et, _, c3, by omega, rfl, ?_, fr, rfl⟩
  have hadw : ∀ w' X, (m.write w' (m.ad i).b X).ad i = m.ad i := fun _ _ => rfl
  generalize hA : m.ad i = A at *
  generalize hw' : m.w.setRow A.b (cur.toList.take (A.o + q) ++ us ++ cur.toList.drop (A.o + q + U.size)).toArray = w' at *
  have hrow : w'.heap[A.b]? = some (Go.Obj.cells (cur.toList.take (A.o + q) ++ us ++ cur.toList.drop (A.o + q + U.size)).toArray et (0, 0)) := by rw [← hw']; exact setRow_heap _ _ _ _ _ _ c3
  have hnew : ∀ k, w'.cell? ⟨A.b, k, none⟩ = if A.o + q ≤ k ∧ k < A.o + q + U.size then us[k - (A.o + q)]? else cur[k]? := fun k => by
    rw [cell_of_row _ _ _ _ _ _ hrow, List.getElem?_toArray, splice_get cur.toList _ _ _ hlen (by simp; omega)]
    simp
  have hold : ∀ j v, vs[j]? = some v → cur[A.o + j]? = some v := fun j v hj => by
    have := c5 j v hj
    rwa [cell_of_row _ _ _ _ _ _ c3] at this
  obtain ⟨hdT, o', d1, d2⟩ := Rep.setp h15 (kp.toTo.rep c6) (us := us) (kp.toTo.rep hus)
  have e10 : o' = q := by rw [h8] at d1; exact (congrArg Prod.fst (Option.some.inj d1)).symm
  subst e10
  have hob : ObjOk (m.write w' A.b fun _ => False) i (.box d') := by
    simp only [ObjOk, hadw]
    refine ⟨by rw [hdT]; exact c1, c2, _, et, _, hrow, ?_, fun j v hj => ?_, d2, fun j hj => ⟨fun hc => (c7 j (by rw [← hdT]; exact hj)).1 (hc.resolve_right fun h => h.2), (c7 j (by rw [← hdT]; exact hj)).2⟩⟩
    · rw [hdT, List.size_toArray]; simp [hlen]; omega
    · rw [splice_get vs _ _ _ hlen (by rw [c6.len]; omega)] at hj
      refine (hnew _).trans ?_
      split at hj
      · rw [if_pos (by omega), show A.o + j - (A.o + o') = j - o' by omega]; exact hj
      · rw [if_neg (by omega)]; exact hold j v hj
  have r8 := r7.putObj (id := i) hu hob fun d0 hd0 off hoff e he => by
    cases hd0
    rw [hadw]
    simp only [lookT_setTips, if_true, List.mem_append] at hoff
    rcases hoff with hoff | hoff
    · obtain ⟨hoff, hno⟩ := mem_outRange.1 hoff
      rw [hdT] at he
      obtain ⟨v, g3, g4⟩ := ot off hoff e he
      refine ⟨v, (hnew _).trans ?_, g4.to kp (by rw [c2]; intro h; cases h)⟩
      rw [if_neg (by omega)]
      rwa [cell_of_row _ _ _ _ _ _ c3] at g3
    · obtain ⟨k, hk, rfl⟩ := mem_shiftN.1 hoff
      obtain ⟨hk1, hk2⟩ := mem_inRange.1 hk
      rw [Nat.zero_add] at hk1
      rw [hdT, tipTy_pathEq h8 hk2] at he
      obtain ⟨v, g3, g4⟩ := hts k hk1 hk2 e he
      refine ⟨v, (hnew _).trans ?_, g4.to kp (by rw [c2]; intro h; cases h)⟩
      rw [if_pos (by omega), show A.o + (o' + k) - (A.o + o') = k by omega]
      exact g3
  refine r8.le ⟨fun _ => .refl _, Nat.le_refl _, fun _ _ h => h, fun id o h => ⟨o, ?_, .refl _ _⟩, fun _ _ h => h, fun h => h⟩
  simp only [St.noObj, lookObj_setObj] at h ⊢
  split
  · rename_i hc; rw [if_pos hc] at h; exact h
  · rename_i hc; rw [if_neg hc] at h; exact h
theorem storeBox_ok (hΓ : GOk P G Γ) (r : Rel P G Γ.vars m s a.tmps) {o : Oper} {nid : Nat} {t : TypeId} {ax x : Operand} {V : XE.V} {i : Nat} {p : List Nat} {T : Ty} (ho : o.op = .store t ax x) (hd : o.dst = none)
    (hv : RV P m V (a.eval x)) (hV : ∀ t, x = .tmp t → V = nthV s.slots t) (hp : RV P m (.bp i p T) (a.eval ax)) {u : Unit} (h : runR (storeP Γ t x V (.bp i p T)) s = some (u, s')) : Goes P G Γ.vars nid m s' o a := by
  simp only [storeP] at h
  obtain ⟨_, s1, h1, h2⟩ := bind_inv h
  obtain ⟨ht, rfl⟩ := chkT_inv hΓ h1
  obtain ⟨ob, s2, h3, h4⟩ := bind_inv h2
  obtain ⟨h5, k1⟩ := getO_inv h3
  have r1 := r.same k1
  cases ob with
  | box d =>
    simp only at h4
    obtain ⟨q, s3, h6, h7⟩ := bind_inv h4
    obtain ⟨h8, rfl⟩ := lift_inv h6
    obtain ⟨y, s4, h9, h10⟩ := bind_inv h7
    obtain ⟨m1, q1, r2, hy, e1, e2, e3, e4⟩ := asT_ok r1 h9 hv
    obtain ⟨g1, g2⟩ := asT_objs h9
    obtain ⟨ts, s5, h11, h12⟩ := bind_inv h10
    obtain ⟨m2, q2, r3, e5, e6, e7, e8, f1⟩ := takeTips_ok r2 h11
    obtain ⟨d', s6, h13, h14⟩ := bind_inv h12
    obtain ⟨h15, rfl⟩ := lift_inv h13
    obtain ⟨_, s7, h16, h17⟩ := bind_inv h14
    obtain ⟨os, s8, h18, h19⟩ := bind_inv h17
    obtain ⟨_, s9, h20, h21⟩ := bind_inv h19
    have k2 := setO_inv h16
    obtain ⟨rfl, k3⟩ := getOT_inv h18
    have k4 := putOT_inv h20
    have k5 := setF_inv h21
    have hbox : lookObj i s6.objs = some (.box d) := by rw [e7]; exact g1 i d (by rw [k1.objs]; exact h5)
    have hy2 : RepV m2.w m2.C q.2 y (a.eval x) := q2.fr.to.repV hy
    have hw2 : m2.w = m.w := q2.w.trans q1.w
    -- the new tips get their label
    have hl : ∀ l, Live s6 l → toTo2 i q.1 l = l := fun l h => by cases l <;> first | rfl | exact h.elim
    have f3 : Fr m2 (m2.relabel (toTo2 i q.1)) := .relabel m2 rfl
    have r4 := r3.relabel (ρ := toTo2 i q.1) rfl hl
    -- the object is named no more, the row is written
    have r5 := (r4.le (le_stale s6)).le (le_noObj _ i)
    obtain ⟨hu, c1, c2, cur, et, vs, c3, c4, c5, c6, c7⟩ := r4.objs i _ hbox
    have had : (m2.relabel (toTo2 i q.1)).ad i = m.ad i := by
      have hu0 : m.U i := (r.objs i _ h5).1
      exact (q2.fr.to.ad i (by rw [q1.U]; exact hu0)).trans (q1.fr.to.ad i hu0)
    obtain ⟨hu, c1, _⟩ := r4.objs i _ hbox
    obtain ⟨hu0, off, c8, c9⟩ := hp
    have e11 : q.1 = off ∧ q.2 = T := by
      rw [← had, c1, h8] at c8
      have := Option.some.inj c8
      rw [this]
      exact ⟨rfl, rfl⟩
    obtain ⟨rfl, rfl⟩ := e11
    have hy3 : RepV (m2.relabel (toTo2 i q.1)).w (m2.relabel (toTo2 i q.1)).C q.2 y (a.eval x) := hy2
    obtain ⟨hyc, _⟩ := RepV.tcells hy3
    obtain ⟨cur, et, m', d1, d2, d3, d4, d5, d6⟩ := r4.storeBox hbox (q := q.1) (U := q.2) h8 h15 hyc (ts := tipsFor V ts) fun k hk1 hk2 e he => by
      have tip : ∃ v, (tcells (a.eval x))[k]? = some v ∧ TipAt m2 (.fl 0 k) e v := by
        rcases e4 with ⟨rfl, hx⟩ | ⟨p', rfl⟩ | hdn
        · simp [tipsFor] at hk1
          subst hk1
          rw [hx]
          exact ⟨_, rfl, .inl rfl⟩
        · cases x with
          | tmp t0 => exact f1 t0 rfl ⟨q.2, y⟩ (by rw [e1, k1.slots, ← hV t0 rfl]; rfl) k hk1 e he
          | const c => simp only [takeTips] at h11; obtain ⟨rfl, _⟩ := ret_inv h11; cases hk1
          | global c => simp only [takeTips] at h11; obtain ⟨rfl, _⟩ := ret_inv h11; cases hk1
          | func c => simp only [takeTips] at h11; obtain ⟨rfl, _⟩ := ret_inv h11; cases hk1
        · cases V <;> first | (cases hk1; done) | (cases hdn; done) | (simp [tipsFor] at hk1; done) | skip
          have hx : a.eval x = .slice none 0 0 := hv
          simp [tipsFor] at hk1
          subst hk1
          rw [hx]
          exact ⟨_, rfl, .inl rfl⟩
      obtain ⟨v, g3, g4⟩ := tip
      exact ⟨v, g3, g4.relabel (ρ := toTo2 i q.1)⟩
    have hrun := run_storeVar (P := P) ht hy3 (b := ((m2.relabel (toTo2 i q.1)).ad i).b) (o := ((m2.relabel (toTo2 i q.1)).ad i).o + q.1) d1 d2
    refine ⟨.skip, undef, m', ?_, .inr ⟨rfl, rfl⟩, ?_, ((q1.fr.trans q2.fr).trans f3).trans d5, fun id hid => .inl ?_⟩
    · simp only [execOp, ho, Instr.storeAt, c9, Instr.sureAddr, Sem.run_bind, Sem.run_pure, Result.andThen_ok]
      rw [had] at hrun
      have hrun' : (storeVar t ⟨(m.ad i).b, (m.ad i).o + q.1, none⟩ (a.eval x)).run P m2.w = _ := hrun
      rw [← hw2, hrun', d3, had]
      rfl
    · rw [put_tmps, hd]
      refine d4.same ⟨?_, ?_, ?_, ?_, ?_⟩
      · rw [k5.slots]; exact k4.slots.trans (k3.slots.trans k2.slots)
      · rw [k5.stips]; exact k4.stips.trans (k3.stips.trans k2.stips)
      · rw [k5.objs]; exact k4.objs.trans (k3.objs.trans k2.objs)
      · rw [k5.otips]; refine k4.otips.trans ?_; simp only [k3.otips, k2.otips]
      · exact k5.fresh
    · rw [d6] at hid
      have : m2.U id := hid
      rw [q2.U, q1.U] at this
      exact this
  | _ => exact (fail_inv h4).elim
end
end Go.XE
/- Operations, part I: stores into made arrays; stores; made arrays; lengths. -/
namespace Go.XE
section
variable {P : Program} {G : Nat → Option GV} {Γ : Env} {m : Mem} {s s' : St} {a : Act}

theorem Rel.storeArr {vars : Nat} {tm : Array Value} (r : Rel P G vars m s tm) {i : Nat} {e : Ty} {xs : List (den e)} (harr : lookObj i s.objs = some (.arr e xs false)) {n : Nat} (hn : n < xs.length) {p : List Nat} {q : Nat} {U : Ty} {y : den U} {z : den e}
    (h8 : pathOff e p = some (q, U)) (h15 : setp ⟨e, xs.getD n (dflt e)⟩ p ⟨U, y⟩ = some ⟨e, z⟩) {us : List Value} (hus : Rep m.w m.C U y us) :
    ∃ cur et m', m.w.heap[(m.ad i).b]? = some (Go.Obj.cells cur et (0, 0)) ∧ n * e.size + q + U.size ≤ cur.size ∧
      m'.w = m.w.setRow (m.ad i).b (cur.toList.take (n * e.size + q) ++ us ++ cur.toList.drop (n * e.size + q + U.size)).toArray ∧
      Rel P G vars m' { s with fresh := false, objs := setObj i (some (.arr e (xs.set n z) false)) s.objs } tm ∧ Fr m m' ∧ m'.U = m.U := by
  obtain ⟨hu, g1, g2, g3, g4, g5, g6, cur, et, g7, g8, g9⟩ := r.objs i _ harr
  have hle := pathOff_le h8
  have hlen := hus.len
  have hsz : n * e.size + e.size ≤ cur.size := by
    rw [g8, ← Nat.succ_mul]
    exact Nat.mul_le_mul_right _ hn
  have r5 := (r.le (le_stale s)).le (le_noObj _ i)
  have wr := wrote_row r (p := n * e.size + q) (us := us) (n := U.size) (X := fun _ => False) g7 hlen (by omega) (fun k _ _ => ⟨g6 rfl k, g5 k⟩) (fun _ h => h.elim)
  have kp := keeps_write r wr
  have r6 := r5.write wr (by rw [g3]; exact dead_noObj _ i)
  have fr : Fr m _ := .write wr
  refine ⟨cur, et, _, g7, by omega, rfl, ?_, fr, rfl⟩
  have hadw : ∀ w' X, (m.write w' (m.ad i).b X).ad i = m.ad i := fun _ _ => rfl
  generalize hA : m.ad i = A at *
  generalize hw' : m.w.setRow A.b (cur.toList.take (n * e.size + q) ++ us ++ cur.toList.drop (n * e.size + q + U.size)).toArray = w' at *
  have hrow : w'.heap[A.b]? = some (Go.Obj.cells (cur.toList.take (n * e.size + q) ++ us ++ cur.toList.drop (n * e.size + q + U.size)).toArray et (0, 0)) := by rw [← hw']; exact setRow_heap _ _ _ _ _ _ g7
  have hnew : ∀ k, w'.cell? ⟨A.b, k, none⟩ = if n * e.size + q ≤ k ∧ k < n * e.size + q + U.size then us[k - (n * e.size + q)]? else cur[k]? := fun k => by
    rw [cell_of_row _ _ _ _ _ _ hrow, List.getElem?_toArray, splice_get cur.toList _ _ _ hlen (by simp; omega)]
    simp
  have hget : xs[n]? = some (xs.getD n (dflt e)) := by simp [List.getD, hn]
  obtain ⟨vs, c5, c6⟩ := g9 n _ hget
  have hold : ∀ j v, vs[j]? = some v → cur[n * e.size + j]? = some v := fun j v hj => by
    have := c5 j v hj
    rwa [cell_of_row _ _ _ _ _ _ g7] at this
  obtain ⟨hdT, o', d1, d2⟩ := Rep.setp h15 (kp.toTo.rep c6) (us := us) (kp.toTo.rep hus)
  have e10 : o' = q := by rw [h8] at d1; exact (congrArg Prod.fst (Option.some.inj d1)).symm
  subst e10
  have hob : ObjOk (m.write w' A.b fun _ => False) i (.arr e (xs.set n z) false) := by
    simp only [ObjOk, hadw]
    refine ⟨g1, by rw [g2]; simp, g3, g4, g5, fun _ j hc => g6 rfl j (hc.resolve_right fun h => h.2), _, et, hrow, ?_, fun k y' hk => ?_⟩
    · rw [List.size_toArray]; simp [hlen]
      rw [← g8]; omega
    · rw [List.getElem?_set] at hk
      by_cases hkn : n = k
      · subst hkn
        rw [if_pos rfl, if_pos hn] at hk
        cases hk
        refine ⟨_, fun j v hj => ?_, d2⟩
        rw [splice_get vs _ _ _ hlen (by rw [c6.len]; omega)] at hj
        refine (hnew _).trans ?_
        split at hj
        · rw [if_pos (by omega), show n * e.size + j - (n * e.size + o') = j - o' by omega]; exact hj
        · rw [if_neg (by omega)]; exact hold j v hj
      · rw [if_neg hkn] at hk
        obtain ⟨us', f1, f2⟩ := g9 k y' hk
        refine ⟨us', fun j v hj => (hnew _).trans ?_, kp.toTo.rep f2⟩
        have hj' : j < e.size := by rw [← f2.len]; exact (List.getElem?_eq_some_iff.1 hj).1
        have f3 := f1 j v hj
        rw [cell_of_row _ _ _ _ _ _ g7] at f3
        rw [if_neg]
        · exact f3
        · rintro ⟨q1, q2⟩
          rcases Nat.lt_or_gt_of_ne hkn with hlt | hlt
          · have : (n + 1) * e.size ≤ k * e.size := Nat.mul_le_mul_right _ hlt
            rw [Nat.succ_mul] at this
            omega
          · have : (k + 1) * e.size ≤ n * e.size := Nat.mul_le_mul_right _ hlt
            rw [Nat.succ_mul] at this
            omega
  have r8 := r6.putObj (id := i) hu hob fun d0 hd0 => by cases hd0
  refine r8.le ⟨fun _ => .refl _, Nat.le_refl _, fun _ _ h => h, fun id o h => ⟨o, ?_, .refl _ _⟩, fun _ _ h => h, fun h => h⟩
  simp only [St.noObj, lookObj_setObj] at h ⊢
  split
  · rename_i hc; rw [if_pos hc] at h; exact h
  · rename_i hc; rw [if_neg hc] at h; exact h
theorem store_ok (hΓ : GOk P G Γ) (r : Rel P G Γ.vars m s a.tmps) {o : Oper} {nid : Nat} {t : TypeId} {ax x : Operand} (ho : o.op = .store t ax x) {u : Unit} (h : runR (evOp Γ o nid) s = some (u, s')) : Goes P G Γ.vars nid m s' o a := by
  simp only [evOp, ho] at h
  cases hd : o.dst with
  | some d0 => simp only [hd, Option.isNone_some, cond_false] at h; exact (fail_inv h).elim
  | none =>
    simp only [hd, Option.isNone_none, cond_true] at h
    obtain ⟨A, s1, h1, h2⟩ := bind_inv h
    obtain ⟨k1, k2, k2'⟩ := opnd_ok hΓ r h1
    have r1 := r.same k1
    obtain ⟨V, s2, h3, h4⟩ := bind_inv h2
    obtain ⟨k3, k4, k4'⟩ := opnd_ok hΓ r1 h3
    have r2 := r1.same k3
    cases A with
    | bp i p T => exact storeBox_ok hΓ r2 ho hd k4 (fun t0 ht => by rw [k3.slots]; exact k4' t0 ht) k2 h4
    | ep i n p T =>
      simp only [storeP] at h4
      obtain ⟨_, s3, h5, h6⟩ := bind_inv h4
      obtain ⟨ht, rfl⟩ := chkT_inv hΓ h5
      obtain ⟨ob, s4, h7, h8⟩ := bind_inv h6
      obtain ⟨h9, k5⟩ := getO_inv h7
      have r3 := r2.same k5
      cases ob with
      | arr e xs fr =>
        cases fr with
        | true => exact (fail_inv h8).elim
        | false =>
          simp only [cond_false] at h8
          obtain ⟨q, s5, g1, g2⟩ := bind_inv h8
          obtain ⟨g3, rfl⟩ := lift_inv g1
          obtain ⟨y, s6, g4, g5⟩ := bind_inv g2
          obtain ⟨rfl, hy⟩ := datT_ok g4 k4
          obtain ⟨d', s7, g6, g7⟩ := bind_inv g5
          obtain ⟨g8, rfl⟩ := lift_inv g6
          obtain ⟨z, s8, g9, g10⟩ := bind_inv g7
          obtain ⟨g11, rfl⟩ := lift_inv g9
          obtain ⟨_, s9, g12, g13⟩ := bind_inv g10
          have k6 := setO_inv g12
          have k7 := setF_inv g13
          have := as_eq g11
          subst this
          obtain ⟨hu, c1, c2, off, c3, c4⟩ := k2
          have ok := r2.objs i _ h9
          have e1 : (m.ad i).T = e := ok.2.1
          have e2 : (m.ad i).n = xs.length := ok.2.2.1
          have e11 : q.1 = off ∧ q.2 = T := by
            rw [e1, g3] at c3
            have := Option.some.inj c3
            rw [this]
            exact ⟨rfl, rfl⟩
          obtain ⟨rfl, rfl⟩ := e11
          rw [e2] at c2
          obtain ⟨hyc, _⟩ := RepV.tcells hy
          obtain ⟨cur, et, m', d1, d2, d3, d4, d5, d6⟩ := r3.storeArr (i := i) (n := n.toNat) (by rw [k5.objs]; exact h9) (by omega) g3 g8 hyc
          have hrun := run_storeVar (P := P) ht hy d1 d2
          refine ⟨.skip, undef, m', ?_, .inr ⟨rfl, rfl⟩, ?_, d5, fun id hid => .inl (by rw [← d6]; exact hid)⟩
          · rw [e1] at c4
            simp only [execOp, ho, Instr.storeAt, c4, Instr.sureAddr, Sem.run_bind, Sem.run_pure, Result.andThen_ok]
            rw [hrun, d3]
            rfl
          · rw [put_tmps, hd]
            exact d4.same ⟨k7.slots.trans k6.slots, k7.stips.trans k6.stips, k7.objs.trans k6.objs, k7.otips.trans k6.otips, k7.fresh⟩
      | _ => exact (fail_inv h8).elim
    | _ => exact (fail_inv h4).elim
/-! ### Made arrays -/
theorem flatten_zero (e : Ty) : ∀ n i, i < n → ((List.replicate n (zeroCells e)).flatten.drop (i * e.size)).take e.size = zeroCells e
  | 0, i, h => by omega
  | n + 1, 0, _ => by
    have hl : (zeroCells e).length = e.size := (zero_rep (default : World) (fun _ _ => False) e).len
    simp [List.replicate_succ, ← hl]
  | n + 1, i + 1, h => by
    have hl : (zeroCells e).length = e.size := (zero_rep (default : World) (fun _ _ => False) e).len
    rw [List.replicate_succ, List.flatten_cons, Nat.succ_mul, Nat.add_comm, take_drop_append _ _ _ _ hl]
    exact flatten_zero e n i (by omega)
theorem flat_get (e : Ty) (n : Nat) (he : 0 < e.size) (j : Nat) (hj : j < n * e.size) : (List.replicate n (zeroCells e)).flatten[j]? = (zeroCells e)[j % e.size]? := by
  have hlt : j / e.size < n := (Nat.div_lt_iff_lt_mul he).2 hj
  have h1 := flatten_zero e n (j / e.size) hlt
  have h2 : ((((List.replicate n (zeroCells e)).flatten).drop (j / e.size * e.size)).take e.size)[j % e.size]? = (zeroCells e)[j % e.size]? := by rw [h1]
  rw [List.getElem?_take, if_pos (Nat.mod_lt _ he), List.getElem?_drop] at h2
  rwa [Nat.mul_comm, Nat.div_add_mod] at h2
theorem made_cells (e : Ty) (n : Nat) (he : 0 < e.size) : ((Array.range (n * e.size)).map ((zeroV e).cells[· % (zeroV e).cells.size]!)).toList = (List.replicate n (zeroCells e)).flatten := by
  have hz : (zeroV e).cells.toList = zeroCells e := zeroV_cells e
  have hl : (zeroCells e).length = e.size := (zero_rep (default : World) (fun _ _ => False) e).len
  have hs : (zeroV e).cells.size = e.size := by rw [← hl, ← hz]; simp
  apply List.ext_getElem?
  intro j
  by_cases hj : j < n * e.size
  · rw [flat_get e n he j hj]
    have hm := Nat.mod_lt j he
    rw [← hz]
    simp [hj, hs, hm]
  · rw [List.getElem?_eq_none (by simp; omega), List.getElem?_eq_none]
    simp [hl]; omega
theorem makeSlice_ok (hΓ : GOk P G Γ) (r : Rel P G Γ.vars m s a.tmps) {o : Oper} {nid : Nat} (hnid : ¬ m.U nid) {t : TypeId} {l c : Operand} (ho : o.op = .makeSlice t l c) {u : Unit} (h : runR (evOp Γ o nid) s = some (u, s')) : Goes P G Γ.vars nid m s' o a := by
  simp only [evOp, ho] at h
  cases l with
  | tmp i =>
    cases c with
    | tmp j =>
      simp only at h
      cases hij : Nat.beq i j with
      | false => rw [hij] at h; exact (fail_inv h).elim
      | true =>
        have := Nat.eq_of_beq_eq_true hij
        subst this
        simp only [hij, cond_true] at h
        obtain ⟨T, s1, h1, h2⟩ := bind_inv h
        obtain ⟨h3, rfl⟩ := lift_inv h1
        have ht := hΓ.τ t T h3
        cases T with
        | sl e =>
          simp only at h2
          obtain ⟨V, s2, h4, h5⟩ := bind_inv h2
          obtain ⟨k1, k2, k2'⟩ := opnd_ok hΓ r h4
          have r1 := r.same k1
          obtain ⟨⟨kd, n⟩, s3, h6, h7⟩ := bind_inv h5
          obtain ⟨rfl, hx⟩ := asIntV_ok h6 k2
          obtain ⟨_, s4, h8, h9⟩ := bind_inv h7
          obtain ⟨c1, c2, rfl⟩ := need2 h8
          simp only [decide_eq_true_eq] at c1 c2 hx
          obtain ⟨_, s5, h10, h11⟩ := bind_inv h9
          obtain ⟨_, s6, h12, h13⟩ := bind_inv h11
          obtain ⟨et, d1, d2, d3⟩ := ht.2
          have d3' : TyOk P et e := d3
          obtain ⟨i0, b1, b2, b3, b4⟩ := d3'.base
          have c2' : n ≤ 4294967296 := c2
          let cells : Array Value := madeCells (zeroV e).cells (n.toNat * e.size)
          have hcl : cells.toList = (List.replicate n.toNat (zeroCells e)).flatten := made_cells e n.toNat d2
          have hcs : cells.size = n.toNat * e.size := size_madeCells _ _
          have hrun : (Instr.makeSlice t (.int kd n) (.int kd n)).run P m.w = .ok (.slice (some ⟨m.w.heap.size, 0, none⟩) n.toNat n.toNat) (newW m.w cells et) := by
            have hbytes : (i0.bytes : Int) * n ≤ 281474976710656 := by
              have h1 : (i0.bytes : Int) ≤ 16384 := by omega
              have : (i0.bytes : Int) * n ≤ 16384 * 4294967296 := Int.mul_le_mul h1 c2' c1 (by omega)
              omega
            have := run_make (P := P) m.w t et i0 (zeroV e) d1 b1 b4 kd kd n n c1 (Int.le_refl _) hbytes (by omega)
            rw [b2] at this
            exact this
          have hlay := lay_ok (nid := nid) (w' := newW m.w cells et) (A := ⟨m.w.heap.size, 0, n.toNat, e⟩) (o := .arr e (List.replicate n.toNat (dflt e)) false) (ts := []) r1 hnid rfl rfl (fun hto => by
            simp only [ObjOk, layM_ad]
            refine ⟨trivial, by simp, layM_L rfl, d2, fun j => (layM_free r1 (A := ⟨m.w.heap.size, 0, n.toNat, e⟩) rfl j).2, fun _ j => (layM_free r1 (A := ⟨m.w.heap.size, 0, n.toNat, e⟩) rfl j).1, cells, et, newW_new _ _ _, by rw [hcs]; simp, fun k y hk => ?_⟩
            have hk' : k < n.toNat := by have := (List.getElem?_eq_some_iff.1 hk).1; simpa using this
            have hy : y = dflt e := by simp [hk'] at hk; exact hk.symm
            refine ⟨zeroCells e, fun j v hj => ?_, by rw [hy]; exact zero_rep _ _ e⟩
            have hj' : j < e.size := by rw [← (zero_rep (default : World) (fun _ _ => False) e).len]; exact (List.getElem?_eq_some_iff.1 hj).1
            have h14 : cells.toList[k * e.size + j]? = some v := by
              rw [hcl, flat_get e _ d2 _ (by have : (k + 1) * e.size ≤ n.toNat * e.size := Nat.mul_le_mul_right _ hk'; rw [Nat.succ_mul] at this; omega), Nat.add_comm, Nat.add_mul_mod_self_right, Nat.mod_eq_of_lt hj']
              exact hj
            have h15 := cellsAt_new (w := m.w) (w' := newW m.w cells et) (cur := cells) (et := et) rfl rfl _ _ h14
            rw [Nat.zero_add] at h15
            exact h15) fun d hd => by cases hd
          obtain ⟨r2, f2, hU⟩ := hlay
          refine fin f2 hU (r2.same (setOT_same h10 h12)) (v := .slice (some ⟨m.w.heap.size, 0, none⟩) n.toNat n.toNat) ?_ h13 (V := .own nid) ⟨.inr rfl, by rw [layM_ad]⟩ (fun D hD => by cases hD) fun _ _ _ e => by cases e
          simp only [execOp, ho, hx, Sem.run_bind, hrun, Result.andThen_ok, Sem.run_pure]
          rfl
        | _ => exact (fail_inv h2).elim
    | _ => exact (fail_inv h).elim
  | _ => exact (fail_inv h).elim
end
end Go.XE
