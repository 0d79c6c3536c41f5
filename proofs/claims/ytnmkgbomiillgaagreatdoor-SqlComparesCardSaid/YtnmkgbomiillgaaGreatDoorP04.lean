/- Part 4 of the proof. -/
import Derived.Test.YtnmkgbomiillgaaGreatDoorP03
import Derived.Laws.Strings
import Derived.Laws.Slices
import Derived.Laws.BytesString
import Derived.Laws.IdiomStrings
import Derived.Laws.Concat
import Derived.Laws.Small
/- Operations, part B: tips; operations that yield a value out of what is there. -/
namespace Go.XE
section
variable {P : Program} {G : Nat → Option GV} {Γ : Env} {m : Mem} {s s' : St} {a : Act}

theorem hasN_mem {n : Nat} : ∀ {l : List Nat}, hasN n l = true ↔ n ∈ l
  | [] => by simp [hasN]
  | x :: r => by
    simp only [hasN, Bool.or_eq_true, List.mem_cons, hasN_mem (l := r)]
    constructor
    · rintro (h | h)
      · exact .inl (Nat.eq_of_beq_eq_true h).symm
      · exact .inr h
    · rintro (rfl | h)
      · exact .inl (by simp)
      · exact .inr h
theorem mem_inRange {o n t : Nat} : ∀ {l : List Nat}, t ∈ inRange o n l ↔ o + t ∈ l ∧ t < n
  | [] => by simp [inRange]
  | x :: r => by
    have ih := mem_inRange (o := o) (n := n) (t := t) (l := r)
    simp only [inRange]
    cases h : (Nat.ble o x && Nat.blt x (o + n))
    · simp only [cond_false, List.mem_cons, ih]
      have : ¬ (o ≤ x ∧ x < o + n) := fun ⟨h1, h2⟩ => by
        have : (Nat.ble o x && Nat.blt x (o + n)) = true := by simp [Nat.ble_eq, Nat.blt_eq, h1, h2]
        rw [h] at this; cases this
      constructor
      · rintro ⟨h1, h2⟩; exact ⟨.inr h1, h2⟩
      · rintro ⟨h1 | h1, h2⟩
        · omega
        · exact ⟨h1, h2⟩
    · simp only [Bool.and_eq_true, Nat.ble_eq, Nat.blt_eq] at h
      simp only [cond_true, List.mem_cons, ih]
      constructor
      · rintro (h1 | ⟨h1, h2⟩)
        · exact ⟨.inl (by omega), by omega⟩
        · exact ⟨.inr h1, h2⟩
      · rintro ⟨h1 | h1, h2⟩
        · exact .inl (by omega)
        · exact .inr ⟨h1, h2⟩
theorem mem_outRange {o n t : Nat} : ∀ {l : List Nat}, t ∈ outRange o n l ↔ t ∈ l ∧ ¬ (o ≤ t ∧ t < o + n)
  | [] => by simp [outRange]
  | x :: r => by
    have ih := mem_outRange (o := o) (n := n) (t := t) (l := r)
    simp only [outRange]
    cases h : (Nat.ble o x && Nat.blt x (o + n))
    · simp only [cond_false, List.mem_cons, ih]
      have : ¬ (o ≤ x ∧ x < o + n) := fun ⟨h1, h2⟩ => by
        have : (Nat.ble o x && Nat.blt x (o + n)) = true := by simp [Nat.ble_eq, Nat.blt_eq, h1, h2]
        rw [h] at this; cases this
      constructor
      · rintro (rfl | ⟨h1, h2⟩)
        · exact ⟨.inl rfl, this⟩
        · exact ⟨.inr h1, h2⟩
      · rintro ⟨h1 | h1, h2⟩
        · exact .inl h1
        · exact .inr ⟨h1, h2⟩
    · simp only [Bool.and_eq_true, Nat.ble_eq, Nat.blt_eq] at h
      simp only [cond_true, List.mem_cons, ih]
      constructor
      · rintro ⟨h1, h2⟩; exact ⟨.inr h1, h2⟩
      · rintro ⟨h1 | h1, h2⟩
        · exact absurd (h1 ▸ h) h2
        · exact ⟨h1, h2⟩
theorem mem_shiftN {o t : Nat} : ∀ {l : List Nat}, t ∈ shiftN o l ↔ ∃ u ∈ l, t = o + u
  | [] => by simp [shiftN]
  | x :: r => by simp [shiftN, mem_shiftN (l := r)]

/-! ### Tips, taken -/
def takeTs (t : Nat) : Lab → Lab
  | .ts n off => if n = t then .fl 0 off else .ts n off
  | l => l
theorem takeTips_ok {vars : Nat} (r : Rel P G vars m s a.tmps) {x : Operand} {ts : List Nat} (h : runR (takeTips x) s = some (ts, s')) :
    ∃ m1, Quiet m m1 ∧ Rel P G vars m1 s' a.tmps ∧ s'.slots = s.slots ∧ s'.fresh = s.fresh ∧ s'.objs = s.objs ∧ s'.otips = s.otips ∧
      ∀ t, x = .tmp t → ∀ d, datOf (nthV s.slots t) = some d → TipsAt m1 (.fl 0) d.T (tcells (a.eval x)) ts := by
  have none : ts = [] → Same s s' → ∃ m1, Quiet m m1 ∧ Rel P G vars m1 s' a.tmps ∧ s'.slots = s.slots ∧ s'.fresh = s.fresh ∧ s'.objs = s.objs ∧ s'.otips = s.otips ∧
      ∀ t, x = .tmp t → ∀ d, datOf (nthV s.slots t) = some d → TipsAt m1 (.fl 0) d.T (tcells (a.eval x)) ts := fun e hs =>
    ⟨m, .refl m, r.same hs, hs.slots, hs.fresh, hs.objs, hs.otips, fun t _ d _ off ho => by rw [e] at ho; cases ho⟩
  cases x with
  | tmp t =>
    simp only [takeTips] at h
    obtain ⟨us, s1, h1, h2⟩ := bind_inv h
    obtain ⟨rfl, k1⟩ := getST_inv h1
    split at h2
    · obtain ⟨rfl, rfl⟩ := ret_inv h2
      exact none rfl k1
    · obtain ⟨u, s2, h3, h4⟩ := bind_inv h2
      obtain ⟨rfl, rfl⟩ := ret_inv h4
      have k2 := putST_inv h3
      have r1 := r.same k1
      have le : s1.Le { s1 with stips := setT s1.stips t [] } := ⟨fun _ => .refl _, Nat.le_refl _, fun n off ho => by
        simp only [nthT_setT] at ho
        split at ho
        · cases ho
        · exact ho, fun id o h => ⟨o, h, .refl _ _⟩, fun _ _ h => h, fun h => h⟩
      have r2 := (r1.le le).same k2
      have hl : ∀ l, Live s' l → takeTs t l = l := fun l hl => by
        cases l with
        | ts n off =>
          by_cases e : n = t
          · subst e
            have : off ∈ nthT s'.stips n := hl
            rw [k2.stips] at this
            simp only [nthT_setT] at this
            split at this
            · cases this
            · rename_i hc
              have h7 : ¬ n < s1.stips.length := fun hx => hc (by simp [hx])
              rw [nthT_of_le _ _ (by omega)] at this
              cases this
          · simp [takeTs, e]
        | _ => rfl
      refine ⟨m.relabel (takeTs t), .relabel m rfl fun _ _ => rfl, r2.relabel rfl hl, k2.slots.trans k1.slots, k2.fresh.trans k1.fresh, k2.objs.trans k1.objs, k2.otips.trans k1.otips, fun t' e d hd off ho e' he' => ?_⟩
      cases e
      obtain ⟨v, k3, k4⟩ := r.stips t d hd off ho e' he'
      exact ⟨v, k3, by simpa [takeTs] using k4.relabel (ρ := takeTs t)⟩
  | const c => simp only [takeTips] at h; obtain ⟨e, rfl⟩ := ret_inv h; exact none e (.refl _)
  | global c => simp only [takeTips] at h; obtain ⟨e, rfl⟩ := ret_inv h; exact none e (.refl _)
  | func c => simp only [takeTips] at h; obtain ⟨e, rfl⟩ := ret_inv h; exact none e (.refl _)
def stealS (k n : Nat) : Lab → Lab
  | .ts k' off => if k' = k ∧ off < n then .fl 0 off else .ts k' off
  | l => l
def stealO (i o n : Nat) : Lab → Lab
  | .to i' off => if i' = i ∧ o ≤ off ∧ off < o + n then .fl 0 (off - o) else .to i' off
  | l => l
theorem steal_ok {vars : Nat} (r : Rel P G vars m s a.tmps) {T : Ty} {d : D} (hT : T.size = d.T.size) {p : Option Place} {t : Nat} (hV : nthV s.slots t = .dat d p) {ts : List Nat} (h : runR (steal T p) s = some (ts, s')) :
    ∃ m1, Quiet m m1 ∧ Rel P G vars m1 s' a.tmps ∧ s'.slots = s.slots ∧ s'.fresh = s.fresh ∧ s'.objs = s.objs ∧ TipsAt m1 (.fl 0) d.T (tcells (a.tmps.getD t undef)) ts := by
  cases p with
  | none => simp only [steal] at h; obtain ⟨rfl, rfl⟩ := ret_inv h; exact ⟨m, .refl m, r, rfl, rfl, rfl, fun off ho => by cases ho⟩
  | some p =>
    cases p with
    | slot k o =>
      simp only [steal] at h
      obtain ⟨f, s1, h1, h2⟩ := bind_inv h
      obtain ⟨rfl, k1⟩ := getF_inv h1
      cases hf : s.fresh with
      | false => simp only [hf, cond_false] at h2; obtain ⟨rfl, rfl⟩ := ret_inv h2; exact ⟨m, .refl m, r.same k1, k1.slots, hf ▸ k1.fresh, k1.objs, fun off ho => by cases ho⟩
      | true =>
        simp only [hf, cond_true] at h2
        obtain ⟨us, s2, h3, h4⟩ := bind_inv h2
        obtain ⟨rfl, k2⟩ := getST_inv h3
        obtain ⟨_, s3, h5, h6⟩ := bind_inv h4
        have k3 := putST_inv h5
        obtain ⟨rfl, rfl⟩ := ret_inv h6
        have k12 := k1.trans k2
        obtain ⟨rfl, hk, q⟩ := r.prov hf t d _ hV
        have e1 : nthT s1.stips k = nthT s.stips k := by rw [k1.stips]
        have le : s2.Le { s2 with stips := setT s2.stips k (outRange 0 T.size (nthT s1.stips k)) } := ⟨fun _ => .refl _, Nat.le_refl _, fun n off ho => by
          simp only [nthT_setT] at ho
          split at ho
          · rename_i hc; rw [hc.1, k2.stips]; exact (mem_outRange.1 ho).1
          · exact ho, fun id o h => ⟨o, h, .refl _ _⟩, fun _ _ h => h, fun h => h⟩
        have r2 := ((r.same k12).le le).same k3
        have hl : ∀ l, Live s' l → stealS k T.size l = l := fun l hl => by
          cases l with
          | ts n off =>
            by_cases e : n = k ∧ off < T.size
            · obtain ⟨rfl, e⟩ := e
              have : off ∈ nthT s'.stips n := hl
              rw [k3.stips] at this
              simp only [nthT_setT] at this
              split at this
              · exact absurd ⟨Nat.zero_le _, by simpa using e⟩ (mem_outRange.1 this).2
              · rename_i hc
                have h7 : ¬ n < s2.stips.length := fun hx => hc (by simp [hx])
                rw [nthT_of_le _ _ (by omega)] at this
                cases this
            · simp [stealS, e]
          | _ => rfl
        refine ⟨m.relabel (stealS k T.size), .relabel m rfl fun _ _ => rfl, r2.relabel rfl hl, k3.slots.trans k12.slots, (k3.fresh.trans k12.fresh).trans hf, k3.objs.trans k12.objs, fun off ho e' he' => ?_⟩
        obtain ⟨h7, h8⟩ := mem_inRange.1 ho
        rw [Nat.zero_add, e1] at h7
        obtain ⟨v, k3, k4⟩ := q off h7 e' he'
        exact ⟨v, k3, by simpa [stealS, h8] using k4.relabel (ρ := stealS k T.size)⟩
    | box i o =>
      simp only [steal] at h
      obtain ⟨f, s1, h1, h2⟩ := bind_inv h
      obtain ⟨rfl, k1⟩ := getF_inv h1
      cases hf : s.fresh with
      | false => simp only [hf, cond_false] at h2; obtain ⟨rfl, rfl⟩ := ret_inv h2; exact ⟨m, .refl m, r.same k1, k1.slots, hf ▸ k1.fresh, k1.objs, fun off ho => by cases ho⟩
      | true =>
        simp only [hf, cond_true] at h2
        obtain ⟨us, s2, h3, h4⟩ := bind_inv h2
        obtain ⟨rfl, k2⟩ := getOT_inv h3
        obtain ⟨_, s3, h5, h6⟩ := bind_inv h4
        have k3 := putOT_inv h5
        obtain ⟨rfl, rfl⟩ := ret_inv h6
        have k12 := k1.trans k2
        obtain ⟨hu, q⟩ := r.prov hf t d _ hV
        have e1 : lookT i s1.otips = lookT i s.otips := by rw [k1.otips]
        have le : s2.Le { s2 with otips := setTips i (outRange o T.size (lookT i s1.otips)) s2.otips } := ⟨fun _ => .refl _, Nat.le_refl _, fun _ _ h => h, fun id o h => ⟨o, h, .refl _ _⟩, fun n off ho => by
          simp only [lookT_setTips] at ho
          split at ho
          · rename_i hc; rw [hc, k2.otips]; exact (mem_outRange.1 ho).1
          · exact ho, fun h => h⟩
        have r2 := ((r.same k12).le le).same k3
        have hl : ∀ l, Live s' l → stealO i o T.size l = l := fun l hl => by
          cases l with
          | «to» n off =>
            by_cases e : n = i ∧ o ≤ off ∧ off < o + T.size
            · obtain ⟨rfl, e⟩ := e
              have : off ∈ lookT n s'.otips := hl
              rw [k3.otips] at this
              simp only [lookT_setTips, if_true] at this
              exact absurd e (mem_outRange.1 this).2
            · simp [stealO, e]
          | _ => rfl
        refine ⟨m.relabel (stealO i o T.size), .relabel m rfl fun _ _ => rfl, r2.relabel rfl hl, k3.slots.trans k12.slots, (k3.fresh.trans k12.fresh).trans hf, k3.objs.trans k12.objs, fun off ho e' he' => ?_⟩
        obtain ⟨h7, h8⟩ := mem_inRange.1 ho
        rw [e1] at h7
        obtain ⟨v, k3, k4⟩ := q (o + off) h7 (by omega) (by omega) e' (by simpa using he')
        refine ⟨v, by simpa using k3, ?_⟩
        have := k4.relabel (ρ := stealO i o T.size)
        simpa [stealO, h8] using this
/-! ### Data -/
theorem keeps_write {vars : Nat} {tm : Array Value} (r : Rel P G vars m s tm) {w' : World} {b : Nat} {X : Nat → Prop} (h : Wrote m w' b X) : m.Keeps (m.write w' b X) (fun l => l ≠ m.L b) := by
  have hb : b < m.w.heap.size := by
    obtain ⟨cur, cur', et, f', h1, _⟩ := h.row
    exact (Array.getElem?_eq_some_iff.1 h1).1
  refine ⟨(Fr.write h).to, fun b' j hc => ?_, fun b' hb' => ?_, fun b' hb' => ?_⟩
  · show b' < w'.heap.size
    rw [h.size]
    rcases hc with hc | ⟨rfl, _⟩
    · exact r.bC b' j hc
    · exact hb
  · show b' < w'.heap.size
    rw [h.size]
    exact r.bL b' hb'
  · have e : b' ≠ b := fun e => hb' (by rw [e])
    exact ⟨rfl, h.old b' e, fun j hc => hc.resolve_right fun h => e h.1⟩
theorem asD_ok {vars : Nat} (r : Rel P G vars m s a.tmps) {V : V} {d : D} {v : Value} (h : runR (asD V) s = some (d, s')) (hv : RV P m V v) :
    ∃ m1, Quiet m m1 ∧ Rel P G vars m1 s' a.tmps ∧ RepV m1.w m1.C d.T d.x v ∧ s'.slots = s.slots ∧ s'.stips = s.stips ∧ s'.fresh = s.fresh ∧ ((∃ p, V = .dat d p) ∨ datOf V = none) := by
  cases V with
  | dat e p => obtain ⟨rfl, rfl⟩ := ret_inv h; exact ⟨m, .refl m, r, hv, rfl, rfl, rfl, .inl ⟨p, rfl⟩⟩
  | kb b =>
    obtain ⟨rfl, rfl⟩ := ret_inv h
    have : v = .bool b := hv
    subst this
    exact ⟨m, .refl m, r, RepV.bool b, rfl, rfl, rfl, .inr rfl⟩
  | own i =>
    simp only [asD] at h
    obtain ⟨o, s1, h1, h2⟩ := bind_inv h
    obtain ⟨h3, k1⟩ := getO_inv h1
    obtain ⟨hu, hv⟩ := hv
    split at h2
    · rename_i e xs fr
      obtain ⟨_, s2, h4, h5⟩ := bind_inv h2
      obtain ⟨rfl, rfl⟩ := ret_inv h5
      have k2 := setO_inv h4
      obtain ⟨_, ok⟩ := r.objs i _ h3
      obtain ⟨g1, g2, g3, g4, g5, g6, cur, et, g7, g8, g9⟩ := ok
      have wr : Wrote m m.w (m.ad i).b (fun _ => True) := .same g7 fun j _ => g5 j
      have r1 := r.le (le_noObj s i)
      have r2 := r1.write wr (by rw [g3]; exact dead_noObj s i)
      have kp := keeps_write r wr
      have ok2 : ObjOk (m.write m.w (m.ad i).b fun _ => True) i (.arr e xs true) := by
        refine ⟨g1, g2, g3, g4, g5, fun h => (by cases h), cur, et, g7, g8, fun j y hy => ?_⟩
        obtain ⟨us, q1, q2⟩ := g9 j y hy
        exact ⟨us, q1, kp.toTo.rep q2⟩
      have r3 := r2.putObj (id := i) hu ok2 (fun d h => by cases h)
      have hs : Same { s with objs := setObj i (some (.arr e xs true)) s.objs } s' := by
        have := k1.objs
        exact ⟨k2.slots.trans k1.slots, k2.stips.trans k1.stips, k2.objs.trans (by simp only [k1.objs]), k2.otips.trans k1.otips, k2.fresh.trans k1.fresh⟩
      refine ⟨m.write m.w (m.ad i).b fun _ => True, ⟨rfl, .write wr, rfl, fun k off e v ht => ht.to kp (by rw [g3]; intro h; cases h)⟩, (r3.le (le_again s i _)).same hs, .inr ⟨rfl, ?_⟩, hs.slots, hs.stips, hs.fresh, .inr rfl⟩
      subst hv
      subst g1
      rw [g2]
      refine ⟨_, _, rfl, Nat.le_refl _, fun h => (by cases h), fun ad had => ?_⟩
      cases had
      refine ⟨rfl, fun j y hy => ?_⟩
      obtain ⟨us, q1, q2⟩ := g9 j y hy
      exact ⟨us, by rw [Nat.zero_add]; exact q1, fun k _ => .inr ⟨rfl, trivial⟩, kp.toTo.rep q2⟩
    · exact (fail_inv h2).elim
  | _ => exact (fail_inv h).elim
end
end Go.XE
/- Operations, part C: arithmetic, comparisons, texts, parts of values, addresses, loads. -/
namespace Go.XE
section
variable {P : Program} {G : Nat → Option GV} {Γ : Env} {m : Mem} {s s' : St} {a : Act}

theorem asT_ok {vars : Nat} (r : Rel P G vars m s a.tmps) {T : Ty} {V : V} {y : den T} {v : Value} (h : runR (asT T V) s = some (y, s')) (hv : RV P m V v) :
    ∃ m1, Quiet m m1 ∧ Rel P G vars m1 s' a.tmps ∧ RepV m1.w m1.C T y v ∧ s'.slots = s.slots ∧ s'.stips = s.stips ∧ s'.fresh = s.fresh ∧
      (V = .nilsl ∧ v = .slice none 0 0 ∨ (∃ p, V = .dat ⟨T, y⟩ p) ∨ datOf V = none) := by
  unfold asT at h
  split at h
  · obtain ⟨rfl, rfl⟩ := ret_inv h
    have : v = .slice none 0 0 := hv
    subst this
    exact ⟨m, .refl m, r, .inr ⟨rfl, none, 0, rfl, Nat.le_refl _, fun _ => rfl, fun a h => by cases h⟩, rfl, rfl, rfl, .inl ⟨rfl, rfl⟩⟩
  · obtain ⟨d, s1, h1, h2⟩ := bind_inv h
    obtain ⟨h3, rfl⟩ := lift_inv h2
    obtain ⟨m1, k1, k2, k3, k4, k5, k6, k7⟩ := asD_ok r h1 hv
    have := as_eq h3
    subst this
    exact ⟨m1, k1, k2, k3, k4, k5, k6, .inr k7⟩

/-! ### Operators -/
theorem strLess_eq : ∀ (a b : List UInt8), strLess a b = Op.bytesLess a b
  | _, [] => by simp [strLess, Op.bytesLess]
  | [], _ :: _ => by simp [strLess, Op.bytesLess]
  | a :: x, b :: y => by simp [strLess, Op.bytesLess, strLess_eq x y]
theorem guard_int (op : BinOp) (t : TypeId) (x y : Operand) (j k : IntKind) (p q : Int) (w : World) : (eqGuard op t x y (.int j p) (.int k q)).run P w = .ok () w := by
  cases op <;> simp [eqGuard]
theorem guard_str (op : BinOp) (t : TypeId) (x y : Operand) (p q : ByteArray) (w : World) : (eqGuard op t x y (.string p) (.string q)).run P w = .ok () w := by
  cases op <;> simp [eqGuard]
theorem guard_bool (op : BinOp) (t : TypeId) (x y : Operand) (p q : Bool) (w : World) : (eqGuard op t x y (.bool p) (.bool q)).run P w = .ok () w := by
  cases op <;> simp [eqGuard]
theorem intOp_ok {op : BinOp} {k : IntKind} {x y : Int} {d : D} (h : runR (intOp op k x y) s = some (d, s')) (t : TypeId) (w : World) (C : Cells) :
    s' = s ∧ ∃ v, (binOp op t (.int k x) (.int k y)).run P w = .ok v w ∧ RepV w C d.T d.x v := by
  have one : ∀ {z : Int}, d = ⟨.int k, z⟩ → s' = s → (binOp op t (.int k x) (.int k y)).run P w = .ok (.int k z) w → s' = s ∧ ∃ v, (binOp op t (.int k x) (.int k y)).run P w = .ok v w ∧ RepV w C d.T d.x v :=
    fun e hs hr => ⟨hs, _, hr, e ▸ RepV.int _ _⟩
  have two : ∀ {z : Bool}, d = ⟨.bool, z⟩ → s' = s → (binOp op t (.int k x) (.int k y)).run P w = .ok (.bool z) w → s' = s ∧ ∃ v, (binOp op t (.int k x) (.int k y)).run P w = .ok v w ∧ RepV w C d.T d.x v :=
    fun e hs hr => ⟨hs, _, hr, e ▸ RepV.bool _⟩
  cases op <;> simp only [intOp] at h
  case quo =>
    obtain ⟨_, s1, h1, h2⟩ := bind_inv h
    obtain ⟨h3, rfl⟩ := need_inv h1
    obtain ⟨rfl, rfl⟩ := ret_inv h2
    have : y ≠ 0 := by simpa using h3
    exact one rfl rfl (by simp [binOp, Op.intDiv, this])
  case rem =>
    obtain ⟨_, s1, h1, h2⟩ := bind_inv h
    obtain ⟨h3, rfl⟩ := need_inv h1
    obtain ⟨rfl, rfl⟩ := ret_inv h2
    have : y ≠ 0 := by simpa using h3
    exact one rfl rfl (by simp [binOp, Op.intDiv, this])
  case and => obtain ⟨rfl, rfl⟩ := ret_inv h; exact one rfl rfl (by simp [binOp, Op.intBits, bitsOp])
  case or => obtain ⟨rfl, rfl⟩ := ret_inv h; exact one rfl rfl (by simp [binOp, Op.intBits, bitsOp])
  case xor => obtain ⟨rfl, rfl⟩ := ret_inv h; exact one rfl rfl (by simp [binOp, Op.intBits, bitsOp])
  case andNot => obtain ⟨rfl, rfl⟩ := ret_inv h; exact one rfl rfl (by simp [binOp, Op.intBits, bitsOp])
  case add => obtain ⟨rfl, rfl⟩ := ret_inv h; exact one rfl rfl (by simp [binOp, Op.intArith])
  case sub => obtain ⟨rfl, rfl⟩ := ret_inv h; exact one rfl rfl (by simp [binOp, Op.intArith])
  case mul => obtain ⟨rfl, rfl⟩ := ret_inv h; exact one rfl rfl (by simp [binOp, Op.intArith])
  case eql => obtain ⟨rfl, rfl⟩ := ret_inv h; exact two rfl rfl (by simp [binOp, Op.intCmp])
  case neq => obtain ⟨rfl, rfl⟩ := ret_inv h; exact two rfl rfl (by simp [binOp, Op.intCmp])
  case lss => obtain ⟨rfl, rfl⟩ := ret_inv h; exact two rfl rfl (by simp [binOp, Op.intCmp])
  case leq => obtain ⟨rfl, rfl⟩ := ret_inv h; exact two rfl rfl (by simp [binOp, Op.intCmp])
  case gtr => obtain ⟨rfl, rfl⟩ := ret_inv h; exact two rfl rfl (by simp [binOp, Op.intCmp])
  case geq => obtain ⟨rfl, rfl⟩ := ret_inv h; exact two rfl rfl (by simp [binOp, Op.intCmp])
  all_goals exact (fail_inv h).elim
theorem strOp_ok {op : BinOp} {x y : List UInt8} {d : D} (h : runR (strOp op x y) s = some (d, s')) (t : TypeId) (w : World) (C : Cells) :
    s' = s ∧ ∃ v, (binOp op t (.string ⟨x.toArray⟩) (.string ⟨y.toArray⟩)).run P w = .ok v w ∧ RepV w C d.T d.x v := by
  cases op <;> simp only [strOp] at h
  case add =>
    obtain ⟨_, s1, h1, h2⟩ := bind_inv h
    obtain ⟨h3, rfl⟩ := need_inv h1
    obtain ⟨rfl, rfl⟩ := ret_inv h2
    have : x.length + y.length ≤ 4294967296 := by simpa [lim, Nat.ble_eq] using h3
    refine ⟨rfl, _, ?_, RepV.str _⟩
    have h9 : ¬ (((ByteArray.mk x.toArray).size + (ByteArray.mk y.toArray).size : Nat) : Int) > IntKind.i64.max := by
      simp only [ByteArray.size_mk', List.size_toArray, IntKind.max, IntKind.signed, IntKind.bits, if_true]; omega
    rw [binOp_string_add]
    simp only [Op.stringOp, h9, if_false, Sem.run_pure, ByteArray.mk_append_mk]
  case eql => obtain ⟨rfl, rfl⟩ := ret_inv h; exact ⟨rfl, _, by simp [binOp, Op.stringOp], RepV.bool _⟩
  case neq => obtain ⟨rfl, rfl⟩ := ret_inv h; exact ⟨rfl, _, by simp [binOp, Op.stringOp], RepV.bool _⟩
  case lss => obtain ⟨rfl, rfl⟩ := ret_inv h; rw [strLess_eq]; exact ⟨rfl, _, by simp [binOp, Op.stringOp], RepV.bool _⟩
  case leq => obtain ⟨rfl, rfl⟩ := ret_inv h; rw [strLess_eq]; exact ⟨rfl, _, by simp [binOp, Op.stringOp], RepV.bool _⟩
  case gtr => obtain ⟨rfl, rfl⟩ := ret_inv h; rw [strLess_eq]; exact ⟨rfl, _, by simp [binOp, Op.stringOp], RepV.bool _⟩
  case geq => obtain ⟨rfl, rfl⟩ := ret_inv h; rw [strLess_eq]; exact ⟨rfl, _, by simp [binOp, Op.stringOp], RepV.bool _⟩
  all_goals exact (fail_inv h).elim
theorem binOp_ok (hΓ : GOk P G Γ) (r : Rel P G Γ.vars m s a.tmps) {o : Oper} {nid : Nat} {op : BinOp} {t t2 : TypeId} {x y : Operand} (ho : o.op = .binOp op t x y t2) {u : Unit}
    (h : runR (evOp Γ o nid) s = some (u, s')) : Goes P G Γ.vars nid m s' o a := by
  simp only [evOp, ho] at h
  obtain ⟨V, s1, h1, hh1⟩ := bind_inv h
  obtain ⟨k1, k2, _⟩ := opnd_ok hΓ r h1
  have r1 := r.same k1
  obtain ⟨W, s2, h2, hh2⟩ := bind_inv hh1
  obtain ⟨k3, k4, _⟩ := opnd_ok hΓ r1 h2
  have r2 := r1.same k3
  obtain ⟨d, s3, h3, hh3⟩ := bind_inv hh2
  obtain ⟨rfl, k5, _⟩ := datD_ok h3 k2
  obtain ⟨e, s4, h4, hh4⟩ := bind_inv hh3
  obtain ⟨rfl, k6, _⟩ := datD_ok h4 k4
  obtain ⟨f, s5, h5, hh5⟩ := bind_inv hh4
  have main : s5 = s4 ∧ ∃ v, (binOp op t (a.eval x) (a.eval y)).run P m.w = .ok v m.w ∧ RepV m.w m.C f.T f.x v ∧ (eqGuard op t x y (a.eval x) (a.eval y)).run P m.w = .ok () m.w := by
    unfold binD at h5
    split at h5
    · split at h5
      · obtain ⟨_, s6, h6, h7⟩ := bind_inv h5
        obtain ⟨h8, rfl⟩ := need_inv h6
        obtain ⟨rfl, rfl⟩ := ret_inv h7
        rw [k5.int_eq, k6.int_eq]
        have hb := of_decide_eq_true h8
        exact ⟨rfl, _, by simp [binOp, Op.shift, shlI, Int.not_lt.2 hb], RepV.int _ _, guard_int ..⟩
      · obtain ⟨_, s6, h6, h7⟩ := bind_inv h5
        obtain ⟨h8, rfl⟩ := need_inv h6
        obtain ⟨rfl, rfl⟩ := ret_inv h7
        rw [k5.int_eq, k6.int_eq]
        have hb := of_decide_eq_true h8
        exact ⟨rfl, _, by simp [binOp, Op.shift, shrI, Int.not_lt.2 hb], RepV.int _ _, guard_int ..⟩
      · split at h5
        · rename_i e _
          obtain ⟨e⟩ := e
          subst e
          rw [k5.int_eq, k6.int_eq]
          obtain ⟨g1, v, g2, g3⟩ := intOp_ok (P := P) h5 t m.w m.C
          exact ⟨g1, v, g2, g3, guard_int ..⟩
        · exact (fail_inv h5).elim
    · rw [k5.str_eq, k6.str_eq]
      obtain ⟨g1, v, g2, g3⟩ := strOp_ok (P := P) h5 t m.w m.C
      exact ⟨g1, v, g2, g3, guard_str ..⟩
    · obtain ⟨_, s6, h6, h7⟩ := bind_inv h5
      obtain ⟨ht, rfl⟩ := chkT_inv hΓ h6
      have hu : P.underlying t = some .bool := ht.2
      rw [k5.bool_eq, k6.bool_eq]
      split at h7
      · obtain ⟨rfl, rfl⟩ := ret_inv h7
        exact ⟨rfl, _, by simp [binOp, run_equal_bool _ _ _ _ hu], RepV.bool _, guard_bool ..⟩
      · obtain ⟨rfl, rfl⟩ := ret_inv h7
        exact ⟨rfl, _, by simp [binOp, run_equal_bool _ _ _ _ hu], RepV.bool _, guard_bool ..⟩
      · exact (fail_inv h7).elim
    · exact (fail_inv h5).elim
  obtain ⟨rfl, v, g2, g3, g4⟩ := main
  exact fin0 r2 (by simp [execOp, ho, g4, g2]) hh5 (V := ofD f) g3 fun _ _ e => by cases e
theorem unOp_ok (hΓ : GOk P G Γ) (r : Rel P G Γ.vars m s a.tmps) {o : Oper} {nid : Nat} {op : UnOp} {t : TypeId} {x : Operand} (ho : o.op = .unOp op t x) {u : Unit}
    (h : runR (evOp Γ o nid) s = some (u, s')) : Goes P G Γ.vars nid m s' o a := by
  simp only [evOp, ho] at h
  obtain ⟨V, s1, h1, hh1⟩ := bind_inv h
  obtain ⟨k1, k2, _⟩ := opnd_ok hΓ r h1
  obtain ⟨d, s3, h3, hh2⟩ := bind_inv hh1
  obtain ⟨rfl, k5, _⟩ := datD_ok h3 k2
  obtain ⟨f, s5, h5, hh3⟩ := bind_inv hh2
  have main : s5 = s3 ∧ ∃ v, (Op.unary op (a.eval x)).run P m.w = .ok v m.w ∧ RepV m.w m.C f.T f.x v := by
    unfold unD at h5
    split at h5
    · rw [k5.bool_eq]
      cases op <;> simp only at h5
      case not => obtain ⟨rfl, rfl⟩ := ret_inv h5; exact ⟨rfl, _, by simp [Op.unary], RepV.bool _⟩
      all_goals exact (fail_inv h5).elim
    · rw [k5.int_eq]
      cases op <;> simp only at h5
      case neg => obtain ⟨rfl, rfl⟩ := ret_inv h5; exact ⟨rfl, _, by simp [Op.unary, Op.intArith], RepV.int _ _⟩
      case xor => obtain ⟨rfl, rfl⟩ := ret_inv h5; exact ⟨rfl, _, by simp [Op.unary, Op.intBits, bitsOp], RepV.int _ _⟩
      all_goals exact (fail_inv h5).elim
    · exact (fail_inv h5).elim
  obtain ⟨rfl, v, g2, g3⟩ := main
  exact fin0 (r.same k1) (by simp [execOp, ho, g2]) hh3 (V := ofD f) g3 fun _ _ e => by cases e
/-! ### Parts -/
theorem run_part {t : TypeId} {T : Ty} (ht : TyOk P t T) {w : World} {C : Cells} {x : den T} {cs : Array Value} {o : Nat} (hr : Rep w C T x ((cs.toList.drop o).take T.size)) :
    (part t cs o).run P w = .ok (toV T ((cs.toList.drop o).take T.size)) w := by
  have hl := hr.len
  simp only [part, Sem.run_bind, run_isAgg ht, Result.andThen_ok]
  unfold toV
  cases hT : T.isSt
  · have h1 : T.size = 1 := by cases T <;> first | rfl | (simp [Ty.isSt] at hT)
    rw [h1] at hl ⊢
    have hlt : o < cs.size := by simp at hl; omega
    have : cs[o]? = some cs[o] := by simp [hlt]
    simp only [Bool.false_eq_true, if_false, this, Sem.run_pure]
    congr 1
    rw [List.drop_eq_getElem_cons (by simpa using hlt)]
    simp
  · simp only [if_true, Sem.run_bind, run_sizeOf ht, Result.andThen_ok, Sem.run_pure]
    congr 2
    apply Array.ext'
    simp [Array.toList_extract]
theorem field_ok (hΓ : GOk P G Γ) (r : Rel P G Γ.vars m s a.tmps) {o : Oper} {nid : Nat} {t : TypeId} {x : Operand} {j : Nat} (ho : o.op = .field t x j) {u : Unit}
    (h : runR (evOp Γ o nid) s = some (u, s')) : Goes P G Γ.vars nid m s' o a := by
  simp only [evOp, ho] at h
  obtain ⟨V, s1, h1, hh1⟩ := bind_inv h
  obtain ⟨k1, k2, _⟩ := opnd_ok hΓ r h1
  obtain ⟨d, s3, h3, hh2⟩ := bind_inv hh1
  obtain ⟨rfl, k5, _⟩ := datD_ok h3 k2
  obtain ⟨_, s4, h4, hh3⟩ := bind_inv hh2
  obtain ⟨ht, rfl⟩ := chkT_inv hΓ h4
  obtain ⟨f, s5, h5, hh4⟩ := bind_inv hh3
  obtain ⟨h6, rfl⟩ := lift_inv h5
  have hst : d.T.isSt = true := by
    revert h6
    generalize d.T = T, d.x = y
    intro h6
    cases T <;> first | rfl | (simp [XE.proj] at h6)
  rcases k5 with ⟨_, cs, hcs, k5⟩ | ⟨hf, _⟩
  · obtain ⟨off, g1, g2⟩ := k5.proj h6
    obtain ⟨fs, fd, g3, g4, rfl, g6, g7⟩ := ht.field g1
    have hrun := run_part g7 g2
    refine fin0 (r.same k1) ?_ hh4 (V := ofD f) (RepV.of g2).1 fun _ _ e => by cases e
    simp [execOp, ho, Instr.field, run_underlying g3, g4, hcs, asAgg, hrun]
  · rw [hst] at hf; cases hf
end
end Go.XE
/- Operations, part D: assignments, picks, loads, addresses. -/
namespace Go.XE
section
variable {P : Program} {G : Nat → Option GV} {Γ : Env} {m : Mem} {s s' : St} {a : Act}

theorem le_stale (s : St) : s.Le { s with fresh := false } := ⟨fun _ => .refl _, Nat.le_refl _, fun _ _ h => h, fun _ o h => ⟨o, h, .refl _ _⟩, fun _ _ h => h, fun h => by cases h⟩
theorem dstA_ok (r : Rel P G Γ.vars m s a.tmps) {o : Oper} {V : V} {ts : List Nat} {v : Value} {u u' : Unit} {s1 : St} (h : runR (dstA o V ts) s = some (u, s1)) (h' : runR (setF false) s1 = some (u', s')) (hv : RV P m V v)
    (ht : ∀ D, datOf V = some D → TipsAt m (.fl 0) D.T (tcells v) ts) :
    ∃ m', m'.w = m.w ∧ Rel P G Γ.vars m' s' (a.put o.dst v).tmps ∧ Fr m m' ∧ m'.U = m.U := by
  have k := setF_inv h'
  have r1 := r.le (le_stale s)
  unfold dstA at h
  rw [put_tmps]
  cases hd : o.dst with
  | none =>
    simp only [hd] at h
    obtain ⟨_, rfl⟩ := ret_inv h
    exact ⟨m, rfl, r1.same k, .refl m, rfl⟩
  | some d =>
    simp only [hd] at h
    have k1 := setS_inv h
    obtain ⟨m', h1, h2, h3, h4⟩ := set_ok r1 (d := d) (ts := ts) hv ht (fun hf => by cases hf) (fun hf => by cases hf)
    exact ⟨m', h1, h2.same ⟨k.slots.trans k1.slots, k.stips.trans k1.stips, k.objs.trans k1.objs, k.otips.trans k1.otips, k.fresh⟩, h3, h4⟩
theorem assign_ok (hΓ : GOk P G Γ) (r : Rel P G Γ.vars m s a.tmps) {o : Oper} {nid : Nat} {x : Operand} (ho : o.op = .assign x) {u : Unit} (h : runR (evOp Γ o nid) s = some (u, s')) : Goes P G Γ.vars nid m s' o a := by
  have hrun : (execOp a.eval o).run P m.w = .ok (.value (a.eval x)) m.w := by simp [execOp, ho]
  have last : ∀ {m1 : Mem} {s1 s2 : St} {V : V} {ts : List Nat} {u : Unit}, Quiet m m1 → Rel P G Γ.vars m1 s1 a.tmps → runR ((dstA o V ts).bind fun _ => setF false) s1 = some (u, s2) → RV P m1 V (a.eval x) →
      (∀ D, datOf V = some D → TipsAt m1 (.fl 0) D.T (tcells (a.eval x)) ts) → Goes P G Γ.vars nid m s2 o a := fun q r1 h hv ht => by
    obtain ⟨_, s9, g1, g2⟩ := bind_inv h
    obtain ⟨m', h1, h2, h3, h4⟩ := dstA_ok r1 g1 g2 hv ht
    exact ⟨_, _, m', by rw [hrun, h1, q.w], .inl rfl, h2, q.fr.trans h3, fun id hid => .inl (by rw [← q.U, ← h4]; exact hid)⟩
  simp only [evOp, ho] at h
  cases hg : o.guard.isNone with
  | false => rw [hg] at h; exact (fail_inv h).elim
  | true =>
    simp only [hg, cond_true] at h
    obtain ⟨V, s1, h1, h2⟩ := bind_inv h
    obtain ⟨k1, k2, k3⟩ := opnd_ok hΓ r h1
    have r1 := r.same k1
    split at h2
    · split at h2
      · rename_i e _
        have hv : a.eval x = .slice none 0 0 := k2
        refine last (.refl m) r1 h2 (V := .dat ⟨.sl e, []⟩ none) (hv ▸ .inr ⟨rfl, none, 0, rfl, Nat.le_refl _, fun _ => rfl, fun a h => by cases h⟩) fun D hD off ho e' he => ?_
        simp [datOf] at hD
        subst hD
        simp at ho
        subst ho
        rw [hv]
        exact ⟨_, rfl, .inl rfl⟩
      · exact (fail_inv h2).elim
    · rename_i d p
      obtain ⟨ts, s2, h3, h4⟩ := bind_inv h2
      obtain ⟨m1, q1, r2, e1, e2, e3, e4, f1⟩ := takeTips_ok r1 h3
      obtain ⟨us, s3, h5, h6⟩ := bind_inv h4
      have hv1 : RV P m1 (.dat d none) (a.eval x) := RV.to q1.fr.to (V := .dat d none) k2
      have keep : us = ts ∨ us = [] → s3 = s2 → Goes P G Γ.vars nid m s' o a := fun hu hs => by
        subst hs
        refine last q1 r2 h6 hv1 fun D hD off hoff e' he => ?_
        simp [datOf] at hD
        subst hD
        rcases hu with rfl | rfl
        · cases x with
          | tmp t => exact f1 t rfl _ (by rw [k1.slots, ← k3 t rfl]; rfl) off hoff e' he
          | const c => simp only [takeTips] at h3; obtain ⟨rfl, _⟩ := ret_inv h3; cases hoff
          | global c => simp only [takeTips] at h3; obtain ⟨rfl, _⟩ := ret_inv h3; cases hoff
          | func c => simp only [takeTips] at h3; obtain ⟨rfl, _⟩ := ret_inv h3; cases hoff
        · cases hoff
      split at h5
      · rename_i t9 _
        cases hc : hasN t9 Γ.res with
        | false => rw [hc] at h5; obtain ⟨e, h7⟩ := ret_inv h5; exact keep (.inr e) h7
        | true =>
          simp only [hc, cond_true] at h5
          cases x with
          | tmp t =>
            have hV : nthV s2.slots t = .dat d p := by rw [e1, k1.slots, ← k3 t rfl]
            obtain ⟨m2, q2, r3, _, _, _, f2⟩ := steal_ok r2 rfl hV h5
            refine last (q1.trans q2) r3 h6 (RV.to q2.fr.to hv1) fun D hD off ho e' he => ?_
            simp [datOf] at hD
            subst hD
            exact f2 off ho e' he
          | const c =>
            have : p = none := by
              simp only [opnd] at h1; obtain ⟨e2, _⟩ := ret_inv h1
              unfold constV at e2; split at e2 <;> cases e2 <;> rfl
            subst this
            obtain ⟨e, h7⟩ := ret_inv h5; exact keep (.inr e) h7
          | global g =>
            simp only [opnd] at h1
            split at h1
            · obtain ⟨e2, _⟩ := ret_inv h1; cases e2
            · exact (fail_inv h1).elim
          | func f => simp only [opnd] at h1; obtain ⟨e2, _⟩ := ret_inv h1; cases e2
      · obtain ⟨e, h7⟩ := ret_inv h5; exact keep (.inl e) h7
    · rename_i b
      have hv : a.eval x = .bool b := k2
      refine last (.refl m) r1 h2 (V := ofB b) (hv ▸ RepV.bool b) fun D hD off ho => by cases ho
    · exact last (.refl m) r1 h2 k2 fun D hD off ho => by cases ho
theorem pick_ok (hΓ : GOk P G Γ) (r : Rel P G Γ.vars m s a.tmps) {o : Oper} {nid : Nat} {c x y : Operand} (ho : o.op = .pick c x y) {u : Unit} (h : runR (evOp Γ o nid) s = some (u, s')) : Goes P G Γ.vars nid m s' o a := by
  have prov : ∀ {s1 s2 : St} {z : Operand} {V : V}, Rel P G Γ.vars m s1 a.tmps → runR (opnd Γ z) s1 = some (V, s2) → s2.fresh = true → ∀ D p, V = .dat D (some p) → ProvOk Γ.vars m s2 D (tcells (a.eval z)) p := fun {s1 s2 z V} r1 h1 hf D p e => by
    obtain ⟨k1, k2, k3⟩ := opnd_ok hΓ r1 h1
    subst e
    cases z with
    | tmp t => exact (r1.same k1).prov hf t D p (by rw [k1.slots, ← k3 t rfl])
    | const c => simp only [opnd] at h1; obtain ⟨e2, _⟩ := ret_inv h1; unfold constV at e2; split at e2 <;> cases e2
    | global g =>
      simp only [opnd] at h1
      split at h1
      · obtain ⟨e2, _⟩ := ret_inv h1; cases e2
      · exact (fail_inv h1).elim
    | func f => simp only [opnd] at h1; obtain ⟨e2, _⟩ := ret_inv h1; cases e2
  simp only [evOp, ho] at h
  obtain ⟨V, s1, h1, h2⟩ := bind_inv h
  obtain ⟨k1, k2, _⟩ := opnd_ok hΓ r h1
  have r1 := r.same k1
  split at h2
  · obtain ⟨W, s2, h3, h4⟩ := bind_inv h2
    obtain ⟨k3, k4, _⟩ := opnd_ok hΓ r1 h3
    have hc : a.eval c = .bool true := k2
    exact fin (.refl m) (fun _ h => .inl h) (r1.same k3) (by simp [execOp, ho, hc, asBool]) h4 k4 noTips (prov r1 h3)
  · obtain ⟨W, s2, h3, h4⟩ := bind_inv h2
    obtain ⟨k3, k4, _⟩ := opnd_ok hΓ r1 h3
    have hc : a.eval c = .bool false := k2
    exact fin (.refl m) (fun _ h => .inl h) (r1.same k3) (by simp [execOp, ho, hc, asBool]) h4 k4 noTips (prov r1 h3)
  · obtain ⟨t, s2, h3, h4⟩ := bind_inv h2
    obtain ⟨rfl, hc⟩ := boolV_ok h3 k2
    obtain ⟨W, s3, h5, h6⟩ := bind_inv h4
    obtain ⟨k3, k4, _⟩ := opnd_ok hΓ r1 h5
    have r2 := r1.same k3
    obtain ⟨Z, s4, h7, h8⟩ := bind_inv h6
    obtain ⟨k5, k6, _⟩ := opnd_ok hΓ r2 h7
    have hn : ∀ D p, mergeV t W Z ≠ .dat D (some p) := fun D p e => by
      unfold mergeV at e
      simp only [cond_eq_ite] at e
      repeat' split at e
      all_goals cases e
    cases t with
    | true => exact fin0 (r2.same k5) (by simp [execOp, ho, hc, asBool]) h8 ((merge_true W Z).rv P m _ k4) hn
    | false => exact fin0 (r2.same k5) (by simp [execOp, ho, hc, asBool]) h8 ((merge_false W Z).rv P m _ k6) hn
/-! ### Loads -/
theorem tipTy_lt : ∀ {T : Ty} {k : Nat} {e : Ty}, tipTy T k = some e → k < T.size
  | .sl _, 0, _, _ => by simp [Ty.size]
  | .sl _, _ + 1, _, h => by simp [tipTy] at h
  | .int _, _, _, h => by simp [tipTy] at h
  | .bool, _, _, h => by simp [tipTy] at h
  | .str, _, _, h => by simp [tipTy] at h
  | .unit, _, _, h => by simp [tipTy] at h
  | .pair a b, k, e, h => by
    simp only [tipTy] at h
    split at h
    · simp [Ty.size]; omega
    · have := tipTy_lt h; simp [Ty.size]; omega
theorem tipTy_field : ∀ {T U : Ty} {j o k : Nat} {e : Ty}, fieldOff T j = some (o, U) → tipTy U k = some e → tipTy T (o + k) = some e
  | .pair a b, U, 0, o, k, e, h, ht => by
    simp [fieldOff] at h
    obtain ⟨rfl, rfl⟩ := h
    have := tipTy_lt ht
    simp [tipTy, this, ht]
  | .pair a b, U, j + 1, o, k, e, h, ht => by
    simp only [fieldOff] at h
    split at h
    · rename_i q t hq
      simp at h
      obtain ⟨rfl, rfl⟩ := h
      have := tipTy_field hq ht
      simp only [tipTy]
      rw [if_neg (by omega), show a.size + q + k - a.size = q + k by omega, this]
    · cases h
  | .int _, _, _, _, _, _, h, _ => by simp [fieldOff] at h
  | .bool, _, _, _, _, _, h, _ => by simp [fieldOff] at h
  | .str, _, _, _, _, _, h, _ => by simp [fieldOff] at h
  | .unit, _, _, _, _, _, h, _ => by simp [fieldOff] at h
  | .sl _, _, _, _, _, _, h, _ => by simp [fieldOff] at h
theorem tipTy_path : ∀ {p : List Nat} {T U : Ty} {o k : Nat} {e : Ty}, pathOff T p = some (o, U) → tipTy U k = some e → tipTy T (o + k) = some e
  | [], T, U, o, k, e, h, ht => by simp [pathOff] at h; obtain ⟨rfl, rfl⟩ := h; simpa using ht
  | j :: r, T, U, o, k, e, h, ht => by
    simp only [pathOff] at h
    split at h
    · rename_i q t hq
      split at h
      · rename_i q2 t2 hq2
        simp at h
        obtain ⟨rfl, rfl⟩ := h
        rw [Nat.add_assoc]
        exact tipTy_field hq (tipTy_path hq2 ht)
      · cases h
    · cases h
theorem cellsAt.sub {w : World} {b o : Nat} {vs : List Value} (h : cellsAt w b o vs) (k n : Nat) : cellsAt w b (o + k) ((vs.drop k).take n) := fun j v hv => by
  rw [List.getElem?_take] at hv
  split at hv
  · rw [List.getElem?_drop] at hv
    have := h (k + j) v hv
    rwa [← Nat.add_assoc] at this
  · cases hv
theorem loadP_ok {vars : Nat} {tm : Array Value} (r : Rel P G vars m s tm) {V : V} {v : Value} {q : D × Option Place} (h : runR (loadP V) s = some (q, s')) (hv : RV P m V v) :
    Same s s' ∧ ∃ b o cs, v = .pointer (some ⟨b, o, none⟩) ∧ cellsAt m.w b o cs ∧ Rep m.w m.C q.1.T q.1.x cs ∧ ∀ p, q.2 = some p → ProvOk vars m s q.1 cs p := by
  cases V with
  | rp d =>
    obtain ⟨rfl, rfl⟩ := ret_inv h
    obtain ⟨ad, rfl, h2, vs, h3, h4, _⟩ := hv
    exact ⟨.refl _, _, _, vs, by rw [← addr_eta h2], h3, h4, fun p hp => by cases hp⟩
  | bp i p T =>
    simp only [loadP] at h
    obtain ⟨ob, s1, h1, h2⟩ := bind_inv h
    obtain ⟨h3, k1⟩ := getO_inv h1
    split at h2
    · rename_i d
      obtain ⟨x, s2, h4, h5⟩ := bind_inv h2
      obtain ⟨h6, rfl⟩ := lift_inv h4
      obtain ⟨z, s3, h7, h8⟩ := bind_inv h5
      obtain ⟨h9, rfl⟩ := lift_inv h7
      obtain ⟨rfl, rfl⟩ := ret_inv h8
      obtain ⟨hu, g1, g2, cur, et, vs, g3, g4, g5, g6, g7⟩ := r.objs i _ h3
      obtain ⟨_, o, g8, rfl⟩ := hv
      obtain ⟨o', g9, g10⟩ := g6.getp h6
      rw [g1, g9] at g8
      simp at g8
      obtain ⟨rfl, rfl⟩ := g8
      rw [g9] at h9
      simp at h9
      subst h9
      refine ⟨k1, _, _, _, rfl, g5.sub _ _, g10, fun p' hp => ?_⟩
      cases hp
      refine ⟨hu, fun off ho h1 h2 e he => ?_⟩
      replace h1 : o' ≤ off := h1
      replace h2 : off < o' + x.T.size := h2
      replace he : tipTy x.T (off - o') = some e := he
      have ht := tipTy_path g9 he
      rw [show o' + (off - o') = off by omega] at ht
      obtain ⟨v, c1, c2⟩ := r.otips i d h3 off ho e ht
      refine ⟨v, ?_, c2⟩
      have hlt : off < vs.length := by have := tipTy_lt ht; rw [g6.len]; exact this
      have c3 := g5 off vs[off] (by simp)
      rw [c1] at c3
      cases c3
      show (List.take x.T.size (List.drop o' vs))[off - o']? = _
      rw [List.getElem?_take, if_pos (by omega), List.getElem?_drop, show o' + (off - o') = off by omega]
      simp
    · exact (fail_inv h2).elim
  | ep i n p T =>
    simp only [loadP] at h
    obtain ⟨ob, s1, h1, h2⟩ := bind_inv h
    obtain ⟨h3, k1⟩ := getO_inv h1
    split at h2
    · rename_i e xs fr
      obtain ⟨x, s2, h4, h5⟩ := bind_inv h2
      obtain ⟨h6, rfl⟩ := lift_inv h4
      obtain ⟨rfl, rfl⟩ := ret_inv h5
      obtain ⟨hu, g1, g2, g3, g4, g5, g6, cur, et, g7, g8, g9⟩ := r.objs i _ h3
      obtain ⟨_, c1, c2, o, c3, rfl⟩ := hv
      rw [g2] at c2
      have hlt : n.toNat < xs.length := by omega
      have hget : xs[n.toNat]? = some (xs.getD n.toNat (dflt e)) := by simp [List.getD, hlt]
      obtain ⟨us, c4, c5⟩ := g9 _ _ hget
      obtain ⟨o', c6, c7⟩ := c5.getp (d := ⟨e, xs.getD n.toNat (dflt e)⟩) h6
      rw [g1, c6] at c3
      simp at c3
      obtain ⟨rfl, rfl⟩ := c3
      refine ⟨k1, _, _, _, rfl, ?_, c7, fun p' hp => by cases hp⟩
      rw [g1]
      exact c4.sub _ _
    · exact (fail_inv h2).elim
  | _ => exact (fail_inv h).elim
theorem chkP_inv (hΓ : GOk P G Γ) {t : TypeId} {u : Unit} (h : runR (chkP Γ t) s = some (u, s')) : (∃ e, P.underlying t = some (.pointer e)) ∧ s' = s := by
  unfold chkP at h
  cases hc : hasN t Γ.pts with
  | false => rw [hc] at h; exact (fail_inv h).elim
  | true => rw [hc] at h; obtain ⟨_, rfl⟩ := ret_inv h; exact ⟨hΓ.pts t hc, rfl⟩
theorem run_loadPtr {t e : TypeId} (ht : P.underlying t = some (.pointer e)) {w : World} {b o : Nat} {u : Value} (hc : w.cell? ⟨b, o, none⟩ = some u) : (loadVar t ⟨b, o, none⟩).run P w = .ok u w := by
  have : (isAgg t).run P w = .ok false w := by
    unfold isAgg
    rw [Sem.run_bind, run_underlying ht w]
    simp
  simp [loadVar, this, load, Sem.run, hc]
theorem load_ok (hΓ : GOk P G Γ) (r : Rel P G Γ.vars m s a.tmps) {o : Oper} {nid : Nat} {t : TypeId} {x : Operand} (ho : o.op = .load t x) {u : Unit} (h : runR (evOp Γ o nid) s = some (u, s')) : Goes P G Γ.vars nid m s' o a := by
  simp only [evOp, ho] at h
  obtain ⟨V, s1, h1, h2⟩ := bind_inv h
  obtain ⟨k1, k2, _⟩ := opnd_ok hΓ r h1
  have r1 := r.same k1
  obtain ⟨W, s2, h3, h4⟩ := bind_inv h2
  have plain : ∀ {V' : XE.V} {s0 : St}, V' = V → Same s1 s0 → runR ((loadP V').bind fun r => (chkT Γ t r.1.T).bind fun _ => M.ret (.dat r.1 r.2)) s0 = some (W, s2) → Goes P G Γ.vars nid m s' o a := fun e hs0 h => by
    subst e
    replace r1 := r1.same hs0
    obtain ⟨⟨q1, q2⟩, s3, g1, g2⟩ := bind_inv h
    obtain ⟨c1, b, off, cs, c2, c3, c4, c5⟩ := loadP_ok r1 g1 k2
    obtain ⟨_, s4, g3, g4⟩ := bind_inv g2
    obtain ⟨c6, rfl⟩ := chkT_inv hΓ g3
    obtain ⟨rfl, rfl⟩ := ret_inv g4
    have hrep := RepV.of c4
    refine fin (.refl m) (fun _ h => .inl h) (r1.same c1) (v := toV q1.T cs) ?_ h4 (V := .dat q1 q2) hrep.1 noTips fun hf D p e => ?_
    · simp [execOp, ho, Instr.loadAt, Instr.sureAddr, c2, run_loadVar c6 c3 c4]
    · cases e
      rw [hrep.2]
      have := c5 p rfl
      cases p with
      | slot k o => exact ⟨this.1, this.2.1, fun off ho => this.2.2 off (by rw [c1.stips] at ho; exact ho)⟩
      | box i o => exact ⟨this.1, fun off ho => this.2 off (by rw [c1.otips] at ho; exact ho)⟩
  have ptr : ∀ {e b off : Nat} {w : Value} {W' : XE.V}, P.underlying t = some (.pointer e) → a.eval x = .pointer (some ⟨b, off, none⟩) → m.w.cell? ⟨b, off, none⟩ = some w → W = W' → (∀ D p, W' ≠ .dat D (some p)) → RV P m W' w →
      Same s1 s2 → Goes P G Γ.vars nid m s' o a := fun {e b off w W'} ht hx hc hW hn hv hs => by
    subst hW
    exact fin0 (r1.same hs) (by simp [execOp, ho, Instr.loadAt, Instr.sureAddr, hx, run_loadPtr ht hc]) h4 hv hn
  cases V with
  | pv d =>
    obtain ⟨_, s3, g1, g2⟩ := bind_inv h3
    obtain ⟨⟨e, ht⟩, rfl⟩ := chkP_inv hΓ g1
    obtain ⟨rfl, rfl⟩ := ret_inv g2
    obtain ⟨ad, w, c1, c2, c3, c4, c5⟩ := k2
    exact ptr ht (by rw [c1, addr_eta c2]) c3 rfl (fun _ _ h => by cases h) c5 (.refl _)
  | bp i p T =>
    cases p with
    | cons j p => exact plain rfl (.refl _) h3
    | nil =>
      simp only [loadV] at h3
      obtain ⟨ob, s3, g1, g2⟩ := bind_inv h3
      obtain ⟨g3, g4⟩ := getO_inv g1
      have ok := r1.objs i ob g3
      obtain ⟨_, off, c1, c2⟩ := k2
      simp [pathOff] at c1
      cases ob with
      | vrp d =>
        obtain ⟨_, s4, g5, g6⟩ := bind_inv g2
        obtain ⟨⟨e, ht⟩, rfl⟩ := chkP_inv hΓ g5
        obtain ⟨rfl, rfl⟩ := ret_inv g6
        obtain ⟨_, _, _, w, c3, c4⟩ := ok
        exact ptr ht (by rw [c2, ← c1.1]; rfl) c3 rfl (fun _ _ h => by cases h) c4 g4
      | vbp j q U =>
        obtain ⟨_, s4, g5, g6⟩ := bind_inv g2
        obtain ⟨⟨e, ht⟩, rfl⟩ := chkP_inv hΓ g5
        obtain ⟨rfl, rfl⟩ := ret_inv g6
        obtain ⟨_, _, _, w, c3, c4⟩ := ok
        exact ptr ht (by rw [c2, ← c1.1]; rfl) c3 rfl (fun _ _ h => by cases h) c4 g4
      | box d => exact plain rfl g4 g2
      | arr e xs fr => exact plain rfl g4 g2
  | _ => exact plain rfl (.refl _) h3
end
end Go.XE
/- Operations, part E: addresses of parts, elements, lengths, cuts, function values. -/
namespace Go.XE
section
variable {P : Program} {G : Nat → Option GV} {Γ : Env} {m : Mem} {s s' : St} {a : Act}

theorem lift_some {β : Type} {o : Option β} {b : β} {s s' : St} (h : runR (liftO o) s = some (b, s')) : o = some b ∧ s' = s := lift_inv h
theorem run_fieldPlace {t : TypeId} {U : Ty} {f : Field} (hs : 0 < U.size) (ht : TyOk P f.type U) (w : World) (b o : Nat) (_h : t = t) : (fieldPlace ⟨b, o, none⟩ f).run P w = .ok ⟨b, o + f.offset, none⟩ w := by
  have : ¬ U.size = 0 := by omega
  simp [fieldPlace, run_sizeOf ht, this, add_mk]
theorem fieldAddr_ok (hΓ : GOk P G Γ) (r : Rel P G Γ.vars m s a.tmps) {o : Oper} {nid : Nat} {t : TypeId} {x : Operand} {j : Nat} (ho : o.op = .fieldAddr t x j) {u : Unit} (h : runR (evOp Γ o nid) s = some (u, s')) : Goes P G Γ.vars nid m s' o a := by
  simp only [evOp, ho] at h
  obtain ⟨V, s1, h1, h2⟩ := bind_inv h
  obtain ⟨k1, k2, k2'⟩ := opnd_ok hΓ r h1
  have r1 := r.same k1
  obtain ⟨W, s2, h3, h4⟩ := bind_inv h2
  have go : ∀ {T U : Ty} {q b off : Nat}, TyOk P t T → fieldOff T j = some (q, U) → a.eval x = .pointer (some ⟨b, off, none⟩) → s2 = s1 → (∀ D p, W ≠ .dat D (some p)) → RV P m W (.pointer (some ⟨b, off + q, none⟩)) → Goes P G Γ.vars nid m s' o a := fun {T U q b off} ht hf hx hs hn hv => by
    subst hs
    obtain ⟨fs, f, g1, g2, g3, g4, g5⟩ := ht.field hf
    subst g3
    have := run_fieldPlace (P := P) (t := t) g4 g5 m.w b off rfl
    exact fin0 r1 (by simp [execOp, ho, Instr.fieldAt, run_underlying g1, g2, hx, Instr.sureAddr, this]) h4 hv hn
  cases V with
  | rp d =>
    simp only [fieldP] at h3
    obtain ⟨_, s3, g1, g2⟩ := bind_inv h3
    obtain ⟨ht, rfl⟩ := chkT_inv hΓ g1
    obtain ⟨e, s4, g3, g4⟩ := bind_inv g2
    obtain ⟨g5, rfl⟩ := lift_inv g3
    obtain ⟨rfl, rfl⟩ := ret_inv g4
    obtain ⟨ad, hx, c2, vs, c3, c4, c5⟩ := k2
    obtain ⟨q, c6, c7⟩ := c4.proj g5
    have hle := fieldOff_le c6
    refine go ht c6 (by rw [hx, addr_eta c2]) rfl (fun _ _ h => by cases h) ⟨_, rfl, rfl, _, c3.sub q _, c7, fun k hk => ?_⟩
    have := c5 (q + k) (by omega)
    rwa [← Nat.add_assoc] at this
  | bp i p T =>
    simp only [fieldP] at h3
    obtain ⟨_, s3, g1, g2⟩ := bind_inv h3
    obtain ⟨ht, rfl⟩ := chkT_inv hΓ g1
    obtain ⟨e, s4, g3, g4⟩ := bind_inv g2
    obtain ⟨g5, rfl⟩ := lift_inv g3
    obtain ⟨rfl, rfl⟩ := ret_inv g4
    obtain ⟨hu, off, c1, hx⟩ := k2
    exact go ht (U := e.2) (q := e.1) g5 hx rfl (fun _ _ h => by cases h) ⟨hu, off + e.1, pathOff_snoc c1 g5, by simp [Nat.add_assoc]⟩
  | ep i n p T =>
    simp only [fieldP] at h3
    obtain ⟨_, s3, g1, g2⟩ := bind_inv h3
    obtain ⟨ht, rfl⟩ := chkT_inv hΓ g1
    obtain ⟨e, s4, g3, g4⟩ := bind_inv g2
    obtain ⟨g5, rfl⟩ := lift_inv g3
    obtain ⟨rfl, rfl⟩ := ret_inv g4
    obtain ⟨hu, c1, c2, off, c3, hx⟩ := k2
    exact go ht (U := e.2) (q := e.1) g5 hx rfl (fun _ _ h => by cases h) ⟨hu, c1, c2, off + e.1, pathOff_snoc c3 g5, by simp [Nat.add_assoc]⟩
  | _ => exact (fail_inv h3).elim
theorem need2 {c d : Bool} {u : Unit} (h : runR (needM (c && d)) s = some (u, s')) : c = true ∧ d = true ∧ s' = s := by
  obtain ⟨h1, h2⟩ := need_inv h
  simp at h1
  exact ⟨h1.1, h1.2, h2⟩
theorem run_indexAt {t et : TypeId} {e : Ty} (hu : P.underlying t = some (.slice et)) (he : TyOk P et e) (w : World) {b off n cap : Nat} {k : IntKind} {i : Int} (h0 : 0 ≤ i) (h1 : i < n) :
    (Instr.indexAt t (.slice (some ⟨b, off, none⟩) n cap) (.int k i)).run P w = .ok (.pointer (some ⟨b, off + i.toNat * e.size, none⟩)) w := by
  simp [Instr.indexAt, asIntOf, run_underlying hu, h0, h1, run_sizeOf he, add_mk]
theorem RepV.sl_inv {w : World} {C : Cells} {e : Ty} {xs : List (den e)} {v : Value} (h : RepV w C (.sl e) xs v) : ∃ p cap, v = .slice p xs.length cap ∧ xs.length ≤ cap ∧ (p = none → cap = 0) ∧
      ∀ ad, p = some ad → ad.spot = none ∧ ∀ i y, xs[i]? = some y → ∃ us, cellsAt w ad.block (ad.off + i * e.size) us ∧ (∀ j, j < e.size → C ad.block (ad.off + i * e.size + j)) ∧ Rep w C e y us := by
  rcases h with ⟨h, _⟩ | ⟨_, h⟩
  · cases h
  · obtain ⟨p, cap, h1, h2⟩ := h
    simp at h1
    exact ⟨p, cap, h1, h2⟩
theorem indexAddr_ok (hΓ : GOk P G Γ) (r : Rel P G Γ.vars m s a.tmps) {o : Oper} {nid : Nat} {t : TypeId} {x y : Operand} (ho : o.op = .indexAddr t x y) {u : Unit} (h : runR (evOp Γ o nid) s = some (u, s')) : Goes P G Γ.vars nid m s' o a := by
  simp only [evOp, ho] at h
  obtain ⟨V, s1, h1, h2⟩ := bind_inv h
  obtain ⟨k1, k2, k2'⟩ := opnd_ok hΓ r h1
  have r1 := r.same k1
  obtain ⟨N, s2, h3, h4⟩ := bind_inv h2
  obtain ⟨k3, k4, k4'⟩ := opnd_ok hΓ r1 h3
  have r2 := r1.same k3
  obtain ⟨⟨kd, n⟩, s3, h5, h6⟩ := bind_inv h4
  obtain ⟨rfl, hy⟩ := asIntV_ok h5 k4
  simp only at hy h6
  obtain ⟨W, s4, h7, h8⟩ := bind_inv h6
  unfold indexP at h7
  split at h7
  · rename_i e xs p
    obtain ⟨_, s5, g1, g2⟩ := bind_inv h7
    obtain ⟨ht, rfl⟩ := chkT_inv hΓ g1
    obtain ⟨_, s6, g3, g4⟩ := bind_inv g2
    obtain ⟨c1, c2, rfl⟩ := need2 g3
    obtain ⟨rfl, rfl⟩ := ret_inv g4
    simp only [decide_eq_true_eq] at c1 c2
    obtain ⟨p, cap, c3, c4, c5, c6⟩ := RepV.sl_inv k2
    obtain ⟨et, c7, c8, c9⟩ := ht.2
    cases p with
    | none =>
      have h9 := c5 rfl
      have h8 : List.length (α := den e) xs ≤ cap := c4
      have h7 : n < ((List.length (α := den e) xs : Nat) : Int) := c2
      omega
    | some ad =>
      obtain ⟨d1, d2⟩ := c6 ad rfl
      have hlt : n.toNat < xs.length := by omega
      have hget : xs[n.toNat]? = some (xs.getD n.toNat (dflt e)) := by simp [List.getD, hlt]
      obtain ⟨us, d3, d4, d5⟩ := d2 _ _ hget
      rw [addr_eta d1] at c3
      have hrun := run_indexAt (P := P) c7 c9 m.w (b := ad.block) (off := ad.off) (n := xs.length) (cap := cap) (k := kd) c1 c2
      exact fin0 r2 (v := .pointer (some ⟨ad.block, ad.off + n.toNat * e.size, none⟩)) (by simp [execOp, ho, c3, hy, hrun]) h8 (V := .rp ⟨e, xs.getD n.toNat (dflt e)⟩) ⟨_, rfl, rfl, us, d3, d5, fun j hj => .inl (d4 j hj)⟩ fun _ _ h => by cases h
  · rename_i i
    obtain ⟨ob, s5, g1, g2⟩ := bind_inv h7
    obtain ⟨g3, g4⟩ := getO_inv g1
    split at g2
    · rename_i e xs fr
      obtain ⟨_, s6, g5, g6⟩ := bind_inv g2
      obtain ⟨ht, rfl⟩ := chkT_inv hΓ g5
      obtain ⟨_, s7, g7, g8⟩ := bind_inv g6
      obtain ⟨c1, c2, rfl⟩ := need2 g7
      obtain ⟨rfl, rfl⟩ := ret_inv g8
      simp only [decide_eq_true_eq] at c1 c2
      obtain ⟨hu, d1, d2, d3, _⟩ := r2.objs i _ g3
      obtain ⟨_, hx⟩ := k2
      obtain ⟨et, c7, c8, c9⟩ := ht.2
      rw [d2] at hx
      have hrun := run_indexAt (P := P) c7 c9 m.w (b := (m.ad i).b) (off := 0) (n := xs.length) (cap := xs.length) (k := kd) c1 c2
      exact fin0 (r2.same g4) (v := .pointer (some ⟨(m.ad i).b, 0 + n.toNat * e.size, none⟩)) (by simp only [execOp, ho, hx, hy, Sem.run_bind, hrun, Result.andThen_ok, Sem.run_pure]) h8 (V := .ep i n [] e) ⟨hu, c1, by rw [d2]; exact c2, 0, by rw [d1]; rfl, by rw [d1]; simp⟩ fun _ _ h => by cases h
    · exact (fail_inv g2).elim
  · exact (fail_inv h7).elim
theorem index_ok (hΓ : GOk P G Γ) (r : Rel P G Γ.vars m s a.tmps) {o : Oper} {nid : Nat} {t : TypeId} {x y : Operand} (ho : o.op = .index t x y) {u : Unit} (h : runR (evOp Γ o nid) s = some (u, s')) : Goes P G Γ.vars nid m s' o a := by
  simp only [evOp, ho] at h
  obtain ⟨V, s1, h1, h2⟩ := bind_inv h
  obtain ⟨k1, k2, k2'⟩ := opnd_ok hΓ r h1
  have r1 := r.same k1
  obtain ⟨N, s2, h3, h4⟩ := bind_inv h2
  obtain ⟨k3, k4, k4'⟩ := opnd_ok hΓ r1 h3
  have r2 := r1.same k3
  obtain ⟨⟨kd, n⟩, s3, h5, h6⟩ := bind_inv h4
  obtain ⟨rfl, hy⟩ := asIntV_ok h5 k4
  simp only at hy h6
  split at h6
  · rename_i xs p
    obtain ⟨_, s5, g1, g2⟩ := bind_inv h6
    obtain ⟨ht, rfl⟩ := chkT_inv hΓ g1
    obtain ⟨_, s6, g3, g4⟩ := bind_inv g2
    obtain ⟨c1, c2, rfl⟩ := need2 g3
    simp only [decide_eq_true_eq] at c1 c2
    have hx : a.eval x = .string ⟨xs.toArray⟩ := RepV.str_eq k2
    have hrun := run_index_string (P := P) m.w t ⟨xs.toArray⟩ kd n ht.2
    have hs : (0 ≤ n ∧ n < ((⟨xs.toArray⟩ : ByteArray).size : Int)) := ⟨c1, by simpa [ByteArray.size_mk'] using c2⟩
    rw [dif_pos hs] at hrun
    refine fin0 r2 (v := .int .u8 (((List.getD (α := UInt8) xs n.toNat 0).toNat : Nat) : Int)) ?_ g4 (V := ofD ⟨.int .u8, ((List.getD (α := UInt8) xs n.toNat 0).toNat : Int)⟩) (RepV.int _ _) fun _ _ h => by cases h
    have hlt : n.toNat < xs.length := by have : n < xs.length := c2; omega
    have e1 : (⟨xs.toArray⟩ : ByteArray)[n.toNat]'(by rw [ByteArray.size_mk']; simpa using hlt) = List.getD (α := UInt8) xs n.toNat 0 := by
      simp [List.getD, hlt]
      rfl
    simp [execOp, ho, hx, hy, hrun, e1]
  · exact (fail_inv h6).elim
theorem nilCheck_ok (hΓ : GOk P G Γ) (r : Rel P G Γ.vars m s a.tmps) {o : Oper} {nid : Nat} {x : Operand} (ho : o.op = .nilCheck x) {u : Unit} (h : runR (evOp Γ o nid) s = some (u, s')) : Goes P G Γ.vars nid m s' o a := by
  simp only [evOp, ho] at h
  obtain ⟨V, s1, h1, h2⟩ := bind_inv h
  obtain ⟨k1, k2, k2'⟩ := opnd_ok hΓ r h1
  cases V with
  | rp d =>
    have hx : ∃ b, a.eval x = .pointer (some b) := by obtain ⟨ad, hx, _⟩ := k2; exact ⟨_, hx⟩
    obtain ⟨b, hx⟩ := hx
    exact fin0 (r.same k1) (by simp [execOp, ho, hx]) h2 (hx ▸ k2) fun _ _ h => by cases h
  | bp i p T =>
    have hx : ∃ b, a.eval x = .pointer (some b) := by obtain ⟨_, _, _, hx⟩ := k2; exact ⟨_, hx⟩
    obtain ⟨b, hx⟩ := hx
    exact fin0 (r.same k1) (by simp [execOp, ho, hx]) h2 (hx ▸ k2) fun _ _ h => by cases h
  | ep i n p T =>
    have hx : ∃ b, a.eval x = .pointer (some b) := by obtain ⟨_, _, _, _, _, hx⟩ := k2; exact ⟨_, hx⟩
    obtain ⟨b, hx⟩ := hx
    exact fin0 (r.same k1) (by simp [execOp, ho, hx]) h2 (hx ▸ k2) fun _ _ h => by cases h
  | _ => exact (fail_inv h2).elim
theorem opnds_ok (hΓ : GOk P G Γ) {vars : Nat} : ∀ {l : List Operand} {s s' : St} {vs : List V}, Rel P G vars m s a.tmps → runR (opndsL Γ l) s = some (vs, s') → Same s s' ∧ vs.length = l.length ∧ ∀ i, RV P m (nthV vs i) ((l.map a.eval).getD i undef)
  | [], s, s', vs, r, h => by
    obtain ⟨rfl, rfl⟩ := ret_inv h
    exact ⟨.refl _, rfl, fun i => by simp [nthV]; trivial⟩
  | x :: l, s, s', vs, r, h => by
    simp only [opndsL] at h
    obtain ⟨V, s1, h1, h2⟩ := bind_inv h
    obtain ⟨k1, k2, k2'⟩ := opnd_ok hΓ r h1
    obtain ⟨vs', s2, h3, h4⟩ := bind_inv h2
    obtain ⟨rfl, rfl⟩ := ret_inv h4
    obtain ⟨k3, k4, k5⟩ := opnds_ok hΓ (r.same k1) h3
    refine ⟨k1.trans k3, by simp [k4], fun i => ?_⟩
    cases i with
    | zero => simpa [nthV] using k2
    | succ i => simpa [nthV] using k5 i
theorem makeFunc_ok (hΓ : GOk P G Γ) (r : Rel P G Γ.vars m s a.tmps) {o : Oper} {nid : Nat} {f : Fn} {fs cs : Array Operand} (ho : o.op = .makeFunc f fs cs) {u : Unit} (h : runR (evOp Γ o nid) s = some (u, s')) : Goes P G Γ.vars nid m s' o a := by
  cases f with
  | func f =>
    simp only [evOp, ho] at h
    split at h
    · rename_i hfs
      obtain ⟨vs, s1, h1, h2⟩ := bind_inv h
      obtain ⟨k1, k2, k3⟩ := opnds_ok hΓ r h1
      cases hc : vs.all isCap with
      | false => rw [hc] at h2; exact (fail_inv h2).elim
      | true =>
        simp only [hc, cond_true] at h2
        have hfs' : fs = #[] := by cases fs; simpa using hfs
        refine fin0 (r.same k1) (v := .func (.func f) #[] (cs.map a.eval)) (by simp [execOp, ho, hfs', Instr.makeFunc]) h2 (V := .fn f vs) ⟨cs.toList.map a.eval, by rw [← Array.toList_map], by simp [k2], fun i => ?_⟩ fun _ _ h => by cases h
        have h3 := k3 i
        by_cases hi : i < vs.length
        · have hall : ∀ (vs : List V) (i : Nat), i < vs.length → vs.all isCap = true → isCap (nthV vs i) = true := fun vs => by
            induction vs with
            | nil => intro i hi; simp at hi
            | cons x l ih =>
              intro i hi h
              simp only [List.all_cons, Bool.and_eq_true] at h
              cases i with
              | zero => exact h.1
              | succ i => exact ih i (by simpa using hi) h.2
          have h4 := hall vs i hi hc
          cases hV : nthV vs i <;> rw [hV] at h3 h4 <;> first | exact h3 | (simp [isCap] at h4)
        · rw [nthV_of_le _ _ (by omega)]; trivial
    · exact (fail_inv h).elim
  | _ => simp only [evOp, ho] at h; exact (fail_inv h).elim
theorem RepT.proj {w : World} {C : Cells} : ∀ {T : Ty} {x : den T} {vs : List Value} {j : Nat} {e : D}, RepT w C T x vs → XE.proj T x j = some e →
    ∃ v o, vs[j]? = some v ∧ RepV w C e.T e.x v ∧ fieldOff T j = some (o, e.T) ∧ tcells v = ((vs.flatMap (·.cells.toList)).drop o).take e.T.size
  | .pair a b, x, vs, 0, e, h, hp => by
    simp [XE.proj] at hp
    subst hp
    obtain ⟨v, r, rfl, h1, h2⟩ := h
    obtain ⟨g1, g2⟩ := RepV.tcells h1
    refine ⟨v, 0, rfl, h1, rfl, ?_⟩
    rw [g2] at g1 ⊢
    simp [← g1.len]
  | .pair a b, x, vs, j + 1, e, h, hp => by
    simp only [XE.proj] at hp
    obtain ⟨v, r, rfl, h1, h2⟩ := h
    obtain ⟨g1, g2⟩ := RepV.tcells h1
    obtain ⟨u, o, k1, k2, k3, k4⟩ := RepT.proj h2 hp
    refine ⟨u, a.size + o, by simpa using k1, k2, by simp [fieldOff, k3], ?_⟩
    rw [k4, List.flatMap_cons, take_drop_append _ _ _ _ (by rw [← g2]; exact g1.len)]
  | .unit, _, _, _, _, _, hp => by simp [XE.proj] at hp
  | .int _, _, _, _, _, h, _ => h.elim
  | .bool, _, _, _, _, h, _ => h.elim
  | .str, _, _, _, _, h, _ => h.elim
  | .sl _, _, _, _, _, h, _ => h.elim
end
end Go.XE
