/- Part 3 of the proof. -/
import Derived.Test.YtnmkgbomiillgaaGreatDoorP02
/- Steps of the memory and of the state under 'Rel'. -/
namespace Go.XE

theorem nbeq {a b : Nat} (h : ¬ a = b) : Nat.beq a b = false := by
  cases e : Nat.beq a b
  · rfl
  · exact absurd (Nat.eq_of_beq_eq_true e) h
theorem nthV_setV : ∀ (l : List V) (n : Nat) (x : V) (k : Nat), nthV (setV l n x) k = if k = n ∧ n < l.length then x else nthV l k
  | [], n, x, k => by simp [setV, nthV]
  | v :: r, 0, x, 0 => by simp [setV, nthV]
  | v :: r, 0, x, k + 1 => by simp [setV, nthV]
  | v :: r, n + 1, x, 0 => by simp [setV, nthV]
  | v :: r, n + 1, x, k + 1 => by simp [setV, nthV, nthV_setV r n x k]
theorem length_setV : ∀ (l : List V) (n : Nat) (x : V), (setV l n x).length = l.length
  | [], _, _ => rfl
  | _ :: _, 0, _ => rfl
  | v :: r, n + 1, x => by simp [setV, length_setV r n x]
theorem nthT_setT : ∀ (l : List (List Nat)) (n : Nat) (x : List Nat) (k : Nat), nthT (setT l n x) k = if k = n ∧ n < l.length then x else nthT l k
  | [], n, x, k => by simp [setT, nthT]
  | v :: r, 0, x, 0 => by simp [setT, nthT]
  | v :: r, 0, x, k + 1 => by simp [setT, nthT]
  | v :: r, n + 1, x, 0 => by simp [setT, nthT]
  | v :: r, n + 1, x, k + 1 => by simp [setT, nthT, nthT_setT r n x k]
theorem nthV_of_le : ∀ (l : List V) (n : Nat), l.length ≤ n → nthV l n = .bot
  | [], _, _ => rfl
  | _ :: r, n + 1, h => nthV_of_le r n (by simpa using h)
  | _ :: _, 0, h => by simp at h
theorem nthT_of_le : ∀ (l : List (List Nat)) (n : Nat), l.length ≤ n → nthT l n = []
  | [], _, _ => rfl
  | _ :: r, n + 1, h => nthT_of_le r n (by simpa using h)
  | _ :: _, 0, h => by simp at h
theorem lookObj_setObj : ∀ (l : List (Nat × Option Obj)) (i : Nat) (x : Option Obj) (k : Nat), lookObj k (setObj i x l) = if k = i then x else lookObj k l
  | [], i, x, k => by
    by_cases h : i = k
    · subst h; simp [setObj, lookObj]
    · have : Nat.beq i k = false := nbeq h
      simp [setObj, lookObj, this, Ne.symm h]
  | (j, o) :: r, i, x, k => by
    by_cases hj : j = i
    · subst hj
      by_cases h : j = k
      · subst h; simp [setObj, lookObj]
      · have : Nat.beq j k = false := nbeq h
        simp [setObj, lookObj, this, Ne.symm h]
    · have e : Nat.beq j i = false := nbeq hj
      by_cases h : j = k
      · subst h; simp [setObj, lookObj, e, hj]
      · have : Nat.beq j k = false := nbeq h
        simp [setObj, lookObj, e, this, lookObj_setObj r i x k]
theorem lookT_setTips : ∀ (l : List (Nat × List Nat)) (i : Nat) (x : List Nat) (k : Nat), lookT k (setTips i x l) = if k = i then x else lookT k l
  | [], i, x, k => by
    by_cases h : i = k
    · subst h; simp [setTips, lookT]
    · have : Nat.beq i k = false := nbeq h
      simp [setTips, lookT, this, Ne.symm h]
  | (j, o) :: r, i, x, k => by
    by_cases hj : j = i
    · subst hj
      by_cases h : j = k
      · subst h; simp [setTips, lookT]
      · have : Nat.beq j k = false := nbeq h
        simp [setTips, lookT, this, Ne.symm h]
    · have e : Nat.beq j i = false := nbeq hj
      by_cases h : j = k
      · subst h; simp [setTips, lookT, e, hj]
      · have : Nat.beq j k = false := nbeq h
        simp [setTips, lookT, e, this, lookT_setTips r i x k]

/-! ### From the memory at one time to that at a later one -/
structure Fr (m m' : Mem) : Prop where
  to : m.To m'
  gC : ∀ b j, m'.C b j → b < m.w.heap.size → m.C b j ∨ ¬ m.K b j
  no : ∀ b, b < m.w.heap.size → m.L b = .no → m'.L b = .no
theorem Fr.refl (m : Mem) : Fr m m := ⟨.refl m, fun _ _ h _ => .inl h, fun _ _ h => h⟩
theorem Mem.To.trans {m m' m'' : Mem} (h : m.To m') (h' : m'.To m'') : m.To m'' where
  pre := h.pre.trans h'.pre fun b j _ hs => hs.elim (fun a => .inl (h.C _ _ a)) fun a => .inr (by rw [h.K]; exact a)
  C b j hc := h'.C _ _ (h.C _ _ hc)
  K := h'.K.trans h.K
  ad id hu := (h'.ad id (h.U id hu)).trans (h.ad id hu)
  U id hu := h'.U id (h.U id hu)
theorem Fr.trans {m m' m'' : Mem} (h : Fr m m') (h' : Fr m' m'') : Fr m m'' where
  to := h.to.trans h'.to
  gC b j hc hb := by
    rcases h'.gC b j hc (Nat.lt_of_lt_of_le hb h.to.pre.size) with h1 | h1
    · exact h.gC b j h1 hb
    · exact .inr (by rw [← h.to.K]; exact h1)
  no b hb hl := h'.no b (Nat.lt_of_lt_of_le hb h.to.pre.size) (h.no b hb hl)

section
variable {P : Program} {G : Nat → Option GV} {vars : Nat} {m : Mem} {s : St} {tm : Array Value}

/-! ### Labels -/
def Mem.relabel (m : Mem) (ρ : Lab → Lab) : Mem := { m with L := fun b => ρ (m.L b) }
theorem Fr.relabel (m : Mem) {ρ : Lab → Lab} (h0 : ρ .no = .no) : Fr m (m.relabel ρ) :=
  ⟨⟨.refl _ _, fun _ _ h => h, rfl, fun _ _ => rfl, fun _ h => h⟩, fun _ _ h _ => .inl h, fun b _ h => by simp [Mem.relabel, h, h0]⟩
theorem Rel.relabel (r : Rel P G vars m s tm) {ρ : Lab → Lab} (h0 : ρ .no = .no) (h : ∀ l, Live s l → ρ l = l) : Rel P G vars (m.relabel ρ) s tm :=
  r.move ⟨(Fr.relabel m h0).to, r.bC, fun b hb => r.bL b fun e => hb (by simp [Mem.relabel, e, h0]), fun b hb => ⟨h _ hb, rfl, fun _ h => h⟩⟩
theorem TipAt.relabel {ρ : Lab → Lab} {l : Lab} {e : Ty} {v : Value} (r : TipAt m l e v) : TipAt (m.relabel ρ) (ρ l) e v := by
  rcases r with r | ⟨b, n, cap, cur, et, h1, h2, h3⟩
  · exact .inl r
  · exact .inr ⟨b, n, cap, cur, et, h1, by simp [Mem.relabel, h2], h3⟩

/-! ### New blocks, writes -/
/-- A new block, with a label, and with those of its cells that are cold from now on. -/
def Mem.alloc (m : Mem) (w' : World) (l : Lab) (X : Nat → Prop) : Mem :=
  { m with w := w', C := fun b j => m.C b j ∨ (b = m.w.heap.size ∧ X j), L := fun b => if b = m.w.heap.size then l else m.L b }
theorem Pre.push {w w' : World} {o : Go.Obj} (S : Cells) (hw : w'.heap = w.heap.push o) : Pre S w w' where
  size := by rw [hw]; simp
  cells b c e f hb := ⟨c, by rw [hw, Array.getElem?_push, if_neg (Nat.ne_of_lt (Array.getElem?_eq_some_iff.1 hb).1)]; exact hb, rfl, fun _ _ => rfl⟩
  other b o' hb _ := by rw [hw, Array.getElem?_push, if_neg (Nat.ne_of_lt (Array.getElem?_eq_some_iff.1 hb).1)]; exact hb
theorem Fr.alloc (m : Mem) {w' : World} {o : Go.Obj} (hw : w'.heap = m.w.heap.push o) (l : Lab) (X : Nat → Prop) : Fr m (m.alloc w' l X) where
  to := ⟨.push _ hw, fun _ _ h => .inl h, rfl, fun _ _ => rfl, fun _ h => h⟩
  gC b j hc hb := by
    rcases hc with hc | ⟨hc, _⟩
    · exact .inl hc
    · omega
  no b hb hl := by
    have : b ≠ m.w.heap.size := by omega
    simp [Mem.alloc, this, hl]
theorem Rel.alloc (r : Rel P G vars m s tm) {w' : World} {o : Go.Obj} (hw : w'.heap = m.w.heap.push o) (l : Lab) (X : Nat → Prop) : Rel P G vars (m.alloc w' l X) s tm := by
  have hs : w'.heap.size = m.w.heap.size + 1 := by rw [hw]; simp
  refine r.move ⟨(Fr.alloc m hw l X).to, fun b j hc => ?_, fun b hb => ?_, fun b hb => ?_⟩
  · show b < w'.heap.size
    rcases hc with hc | ⟨hc, _⟩
    · have := r.bC b j hc; omega
    · omega
  · show b < w'.heap.size
    by_cases e : b = m.w.heap.size
    · omega
    · have : m.L b ≠ .no := by simpa [Mem.alloc, e] using hb
      have := r.bL b this; omega
  · have hlt : b < m.w.heap.size := r.bL b fun e => by rw [e] at hb; exact hb
    have e : b ≠ m.w.heap.size := by omega
    refine ⟨by simp [Mem.alloc, e], ?_, fun j hc => hc.resolve_right fun h => e h.1⟩
    show w'.heap[b]? = _
    rw [hw, Array.getElem?_push, if_neg e]
/-- A block that no claim names is written: cells that are neither cold nor kept from us; some of its cells are cold from now on. -/
def Mem.write (m : Mem) (w' : World) (b : Nat) (X : Nat → Prop) : Mem := { m with w := w', C := fun b' j => m.C b' j ∨ (b' = b ∧ X j) }
structure Wrote (m : Mem) (w' : World) (b : Nat) (X : Nat → Prop) : Prop where
  size : w'.heap.size = m.w.heap.size
  old : ∀ b' : Nat, b' ≠ b → w'.heap[b']? = m.w.heap[b']?
  row : ∃ cur cur' et f, m.w.heap[b]? = some (Go.Obj.cells cur et f) ∧ w'.heap[b]? = some (Go.Obj.cells cur' et f) ∧ cur'.size = cur.size ∧ ∀ j, m.C b j ∨ m.K b j → cur'[j]? = cur[j]?
  X : ∀ j, X j → ¬ m.K b j
theorem Fr.write {w' : World} {b : Nat} {X : Nat → Prop} (h : Wrote m w' b X) : Fr m (m.write w' b X) where
  to := by
    refine ⟨⟨Nat.le_of_eq h.size.symm, fun b' c e f hb => ?_, fun b' o hb ho => ?_⟩, fun _ _ h => .inl h, rfl, fun _ _ => rfl, fun _ h => h⟩
    · by_cases e1 : b' = b
      · subst e1
        obtain ⟨cur, cur', et, f', h1, h2, h3, h4⟩ := h.row
        rw [h1] at hb
        cases hb
        exact ⟨cur', h2, h3, h4⟩
      · exact ⟨c, (h.old b' e1).trans hb, rfl, fun _ _ => rfl⟩
    · by_cases e1 : b' = b
      · subst e1
        obtain ⟨cur, cur', et, f', h1, h2, h3, h4⟩ := h.row
        rw [h1] at hb
        cases hb
        exact absurd rfl (ho _ _ _)
      · exact (h.old b' e1).trans hb
  gC b' j hc _ := by
    rcases hc with hc | ⟨e, hx⟩
    · exact .inl hc
    · exact .inr (e ▸ h.X j hx)
  no _ _ h := h
theorem Rel.write (r : Rel P G vars m s tm) {w' : World} {b : Nat} {X : Nat → Prop} (h : Wrote m w' b X) (hl : ¬ Live s (m.L b)) : Rel P G vars (m.write w' b X) s tm := by
  have hb : b < m.w.heap.size := by
    obtain ⟨cur, cur', et, f', h1, _⟩ := h.row
    exact (Array.getElem?_eq_some_iff.1 h1).1
  refine r.move ⟨(Fr.write h).to, fun b' j hc => ?_, fun b' hb' => ?_, fun b' hb' => ?_⟩
  · show b' < w'.heap.size
    rw [h.size]
    rcases hc with hc | ⟨rfl, _⟩
    · exact r.bC b' j hc
    · exact hb
  · show b' < w'.heap.size
    rw [h.size]
    exact r.bL b' hb'
  · have e : b' ≠ b := fun e => hl (e ▸ hb')
    exact ⟨rfl, h.old b' e, fun j hc => hc.resolve_right fun h => e h.1⟩
/-- Some cells of a block are cold from now on. -/
theorem Wrote.same {b : Nat} {X : Nat → Prop} {cur : Array Value} {et : TypeId} {f : Nat × Nat} (hb : m.w.heap[b]? = some (Go.Obj.cells cur et f)) (hX : ∀ j, X j → ¬ m.K b j) : Wrote m m.w b X :=
  ⟨rfl, fun _ _ => rfl, ⟨cur, cur, et, f, hb, hb, rfl, fun _ _ => rfl⟩, hX⟩

/-! ### States -/
theorem tipTy_noSl : ∀ {T : Ty} {off : Nat}, noSl T = true → tipTy T off = none
  | .int _, _, _ => by simp [tipTy]
  | .bool, _, _ => by simp [tipTy]
  | .str, _, _ => by simp [tipTy]
  | .unit, _, _ => by simp [tipTy]
  | .sl _, _, h => by simp [noSl] at h
  | .pair a b, off, h => by
    simp only [noSl, Bool.and_eq_true] at h
    simp only [tipTy]
    split
    · exact tipTy_noSl h.1
    · exact tipTy_noSl h.2
structure VLe (V V' : XE.V) : Prop where
  rv : ∀ P m v, RV P m V v → RV P m V' v
  dat : ∀ d', datOf V' = some d' → datOf V = some d' ∨ noSl d'.T = true
  prov : ∀ d p, V' = .dat d (some p) → V = .dat d (some p)
theorem VLe.refl (V : XE.V) : VLe V V := ⟨fun _ _ _ h => h, fun _ h => .inl h, fun _ _ h => h⟩
theorem VLe.bot (V : XE.V) : VLe V .bot := ⟨fun _ _ _ _ => trivial, fun _ h => by simp [datOf] at h, fun _ _ h => by cases h⟩
structure OLe (id : Nat) (o o' : Obj) : Prop where
  ok : ∀ m, ObjOk m id o → ObjOk m id o'
  box : ∀ d, o' = .box d → o = .box d
theorem OLe.refl (id : Nat) (o : Obj) : OLe id o o := ⟨fun _ h => h, fun _ h => h⟩
structure St.Le (s s' : St) : Prop where
  slots : ∀ n, VLe (nthV s.slots n) (nthV s'.slots n)
  len : s'.slots.length ≤ s.slots.length
  stips : ∀ n off, off ∈ nthT s'.stips n → off ∈ nthT s.stips n
  objs : ∀ id o', lookObj id s'.objs = some o' → ∃ o, lookObj id s.objs = some o ∧ OLe id o o'
  otips : ∀ id off, off ∈ lookT id s'.otips → off ∈ lookT id s.otips
  fresh : s'.fresh = true → s.fresh = true
theorem St.Le.refl (s : St) : s.Le s := ⟨fun _ => .refl _, Nat.le_refl _, fun _ _ h => h, fun id o h => ⟨o, h, .refl _ _⟩, fun _ _ h => h, fun h => h⟩
theorem VLe.trans {a b c : XE.V} (h : VLe a b) (k : VLe b c) : VLe a c :=
  ⟨fun P m v r => k.rv P m v (h.rv P m v r), fun d hd => (k.dat d hd).elim (fun e => h.dat d e) .inr, fun d p e => h.prov d p (k.prov d p e)⟩
theorem OLe.trans {id : Nat} {a b c : Obj} (h : OLe id a b) (k : OLe id b c) : OLe id a c := ⟨fun m r => k.ok m (h.ok m r), fun d e => h.box d (k.box d e)⟩
theorem St.Le.trans {a b c : St} (h : a.Le b) (k : b.Le c) : a.Le c :=
  ⟨fun n => (h.slots n).trans (k.slots n), Nat.le_trans k.len h.len, fun n o x => h.stips n o (k.stips n o x), fun id o x => by
    obtain ⟨o1, h1, h2⟩ := k.objs id o x
    obtain ⟨o2, h3, h4⟩ := h.objs id o1 h1
    exact ⟨o2, h3, h4.trans h2⟩, fun n o x => h.otips n o (k.otips n o x), fun x => h.fresh (k.fresh x)⟩
theorem Rel.le {s' : St} (r : Rel P G vars m s tm) (h : s.Le s') : Rel P G vars m s' tm where
  bC := r.bC
  bK := r.bK
  bL := r.bL
  glob := r.glob
  len := Nat.le_trans h.len r.len
  slots n := (h.slots n).rv P m _ (r.slots n)
  stips n d hd off ho e he := by
    rcases (h.slots n).dat d hd with h1 | h1
    · exact r.stips n d h1 off (h.stips n off ho) e he
    · rw [tipTy_noSl h1] at he; cases he
  objs id o' ho' := by
    obtain ⟨o, h1, h2⟩ := h.objs id o' ho'
    exact ⟨(r.objs id o h1).1, h2.ok m (r.objs id o h1).2⟩
  otips id d hd off ho e he := by
    obtain ⟨o, h1, h2⟩ := h.objs id _ hd
    rw [h2.box d rfl] at h1
    exact r.otips id d h1 off (h.otips id off ho) e he
  prov hf n d p hp := by
    have q := r.prov (h.fresh hf) n d p ((h.slots n).prov d p hp)
    cases p with
    | slot k o => exact ⟨q.1, q.2.1, fun off ho => q.2.2 off (h.stips k off ho)⟩
    | box i o => exact ⟨q.1, fun off ho => q.2 off (h.otips i off ho)⟩

theorem tm_getD (tm : Array Value) (n : Nat) (v : Value) (k : Nat) : (tm.setIfInBounds n v).getD k undef = if k = n ∧ n < tm.size then v else tm.getD k undef := by
  simp only [Array.getD_eq_getD_getElem?, Array.getElem?_setIfInBounds]
  by_cases h : n = k
  · subst h
    by_cases h2 : n < tm.size
    · simp [h2]
    · simp [h2]
  · simp [h, Ne.symm h]
/-- A temporary is written. -/
theorem Rel.setSlot (r : Rel P G vars m s tm) {n : Nat} {V : XE.V} {ts : List Nat} {v : Value} (hv : RV P m V v) (ht : ∀ d, datOf V = some d → TipsAt m (.ts n) d.T (tcells v) ts)
    (hp : s.fresh = true → ∀ d p, V = .dat d (some p) → ProvOk vars m s d (tcells v) p) (hn : s.fresh = true → Nat.testBit vars n = false) :
    Rel P G vars m { s with slots := setV s.slots n V, stips := setT s.stips n ts } (tm.setIfInBounds n v) := by
  have prov : ∀ d cs p, s.fresh = true → ProvOk vars m s d cs p → ProvOk vars m { s with slots := setV s.slots n V, stips := setT s.stips n ts } d cs p := fun d cs p hf q => by
    cases p with
    | slot k o =>
      have hk : ¬ k = n := fun e => by have h1 := q.2.1; rw [e, hn hf] at h1; cases h1
      exact ⟨q.1, q.2.1, fun off ho => q.2.2 off (by simpa [nthT_setT, hk] using ho)⟩
    | box i o => exact q
  refine ⟨r.bC, r.bK, r.bL, r.glob, by simpa [length_setV] using r.len, fun k => ?_, fun k d hd off ho e he => ?_, r.objs, r.otips, fun hf k d p hk => ?_⟩
  · simp only [nthV_setV, tm_getD]
    by_cases h1 : k = n ∧ n < s.slots.length
    · rw [if_pos h1, if_pos ⟨h1.1, Nat.lt_of_lt_of_le h1.2 r.len⟩]; exact hv
    · rw [if_neg h1]
      by_cases h2 : k = n ∧ n < tm.size
      · rw [nthV_of_le _ _ (by have : ¬ n < s.slots.length := fun h => h1 ⟨h2.1, h⟩; omega)]; trivial
      · rw [if_neg h2]; exact r.slots k
  · simp only [nthV_setV, nthT_setT, tm_getD] at hd ho ⊢
    by_cases h1 : k = n ∧ n < s.slots.length
    · rw [if_pos h1] at hd
      rw [if_pos ⟨h1.1, Nat.lt_of_lt_of_le h1.2 r.len⟩]
      by_cases h3 : k = n ∧ n < s.stips.length
      · rw [if_pos h3] at ho
        rw [h1.1]
        exact ht d hd off ho e he
      · rw [if_neg h3] at ho
        have : nthT s.stips k = [] := by
          have hle : s.stips.length ≤ k := by have : ¬ n < s.stips.length := fun h => h3 ⟨h1.1, h⟩; omega
          exact nthT_of_le _ _ hle
        rw [this] at ho; cases ho
    · rw [if_neg h1] at hd
      by_cases h2 : k = n ∧ n < tm.size
      · rw [nthV_of_le _ _ (by have : ¬ n < s.slots.length := fun h => h1 ⟨h2.1, h⟩; omega)] at hd; cases hd
      · rw [if_neg h2]
        have hkn : ¬ (k = n ∧ n < s.stips.length) ∨ k = n := by by_cases k = n <;> simp_all
        rcases hkn with h3 | h3
        · rw [if_neg h3] at ho
          exact r.stips k d hd off ho e he
        · subst h3
          have : ¬ k < tm.size := fun h => h2 ⟨rfl, h⟩
          rw [nthV_of_le _ _ (by have := r.len; omega)] at hd; cases hd
  · simp only [nthV_setV, tm_getD] at hk ⊢
    by_cases h1 : k = n ∧ n < s.slots.length
    · rw [if_pos h1] at hk
      rw [if_pos ⟨h1.1, Nat.lt_of_lt_of_le h1.2 r.len⟩]
      exact prov _ _ _ hf (hp hf d p hk)
    · rw [if_neg h1] at hk
      by_cases h2 : k = n ∧ n < tm.size
      · rw [nthV_of_le _ _ (by have : ¬ n < s.slots.length := fun h => h1 ⟨h2.1, h⟩; omega)] at hk; cases hk
      · rw [if_neg h2]
        exact prov _ _ _ hf (r.prov hf k d p hk)
/-- A local object is laid, or written; its tips stay. -/
theorem Rel.putObj (r : Rel P G vars m s tm) {id : Nat} {o : Obj} (hu : m.U id) (ho : ObjOk m id o)
    (ht : ∀ d, o = .box d → ∀ off, off ∈ lookT id s.otips → ∀ e, tipTy d.T off = some e → ∃ v, m.w.cell? ⟨(m.ad id).b, (m.ad id).o + off, none⟩ = some v ∧ TipAt m (.to id off) e v) :
    Rel P G vars m { s with objs := XE.setObj id (some o) s.objs } tm := by
  refine ⟨r.bC, r.bK, r.bL, r.glob, r.len, r.slots, r.stips, fun k o' hk => ?_, fun k d hd off ho' e he => ?_, fun hf n d p hk => ?_⟩
  · simp only [lookObj_setObj] at hk
    by_cases h : k = id
    · subst h; simp at hk; exact ⟨hu, hk ▸ ho⟩
    · rw [if_neg h] at hk; exact r.objs k o' hk
  · simp only [lookObj_setObj] at hd ho'
    by_cases h : k = id
    · subst h; simp at hd; exact ht d hd off ho' e he
    · rw [if_neg h] at hd; exact r.otips k d hd off ho' e he
  · have q := r.prov hf n d p hk
    cases p with
    | slot k o => exact q
    | box i o => exact q
/-- The tips of a local object are told anew. -/
theorem Rel.putOT (r : Rel P G vars m s tm) {id : Nat} {ts : List Nat}
    (ht : ∀ d, lookObj id s.objs = some (.box d) → ∀ off, off ∈ ts → ∀ e, tipTy d.T off = some e → ∃ v, m.w.cell? ⟨(m.ad id).b, (m.ad id).o + off, none⟩ = some v ∧ TipAt m (.to id off) e v)
    (hp : s.fresh = true → ¬ m.U id) :
    Rel P G vars m { s with otips := setTips id ts s.otips } tm := by
  refine ⟨r.bC, r.bK, r.bL, r.glob, r.len, r.slots, r.stips, r.objs, fun k d hd off ho' e he => ?_, fun hf n d p hk => ?_⟩
  · simp only [lookT_setTips] at ho'
    by_cases h : k = id
    · subst h; simp at ho'; exact ht d hd off ho' e he
    · rw [if_neg h] at ho'; exact r.otips k d hd off ho' e he
  · have q := r.prov hf n d p hk
    cases p with
    | slot k o => exact q
    | box i o =>
      have : i ≠ id := fun e => hp hf (e ▸ q.1)
      exact ⟨q.1, fun off ho' => q.2 off (by simpa [lookT_setTips, this] using ho')⟩
/-- A local object is named no more. -/
def St.noObj (s : St) (i : Nat) : St := { s with objs := XE.setObj i none s.objs }
theorem le_noObj (s : St) (i : Nat) : s.Le (s.noObj i) := ⟨fun _ => .refl _, Nat.le_refl _, fun _ _ h => h, fun id o h => by
    simp only [St.noObj, lookObj_setObj] at h
    split at h
    · cases h
    · exact ⟨o, h, .refl _ _⟩, fun _ _ h => h, fun h => h⟩
theorem dead_noObj (s : St) (i : Nat) : ¬ Live (s.noObj i) (.obj i) := fun h => h (by simp [St.noObj, lookObj_setObj])
theorem le_again (s : St) (i : Nat) (x : Option Obj) : St.Le { s.noObj i with objs := XE.setObj i x (s.noObj i).objs } { s with objs := XE.setObj i x s.objs } :=
  ⟨fun _ => .refl _, Nat.le_refl _, fun _ _ h => h, fun id o h => ⟨o, by
    simp only [St.noObj, lookObj_setObj] at h ⊢
    split
    · rename_i hc; rw [if_pos hc] at h; exact h
    · rename_i hc; rw [if_neg hc] at h; exact h, .refl _ _⟩, fun _ _ h => h, fun h => h⟩
end
end Go.XE
/- The evaluator's monad, resolved; data and their parts; types. -/
namespace Go.XE

def runR {α : Type} : M α → St → Option (α × St)
  | .ret a, s => some (a, s)
  | .get l m, s => runR (m (s.get l)) { s with rd := addLoc l s.rd }
  | .put l x m, s => runR m { s.put l x with wr := addLoc l s.wr, dirty := addLoc l s.dirty }
  | .need c m, s => cond c (runR m s) none
  | .opt _ o m, s => o.bind fun b => runR (m b) s
  | .fail, _ => none
theorem runR_bind {α β : Type} (f : α → M β) : ∀ (m : M α) (s : St), runR (m.bind f) s = (runR m s).bind fun p => runR (f p.1) p.2
  | .ret a, s => rfl
  | .get l m, s => runR_bind f (m (s.get l)) _
  | .put l x m, s => runR_bind f m _
  | .need c m, s => by cases c <;> simp [M.bind, runR, runR_bind f m s]
  | .opt d o m, s => by cases o <;> simp [M.bind, runR, runR_bind f]
  | .fail, s => rfl
theorem bind_inv {α β : Type} {f : α → M β} {m : M α} {s : St} {b : β} {s' : St} (h : runR (m.bind f) s = some (b, s')) : ∃ a s1, runR m s = some (a, s1) ∧ runR (f a) s1 = some (b, s') := by
  rw [runR_bind] at h
  cases hm : runR m s with
  | none => rw [hm] at h; cases h
  | some p => rw [hm] at h; exact ⟨p.1, p.2, rfl, h⟩
/-- Two states that tell the same. -/
structure Same (s s' : St) : Prop where
  slots : s'.slots = s.slots
  stips : s'.stips = s.stips
  objs : s'.objs = s.objs
  otips : s'.otips = s.otips
  fresh : s'.fresh = s.fresh
theorem Same.refl (s : St) : Same s s := ⟨rfl, rfl, rfl, rfl, rfl⟩
theorem Same.trans {a b c : St} (h : Same a b) (k : Same b c) : Same a c := ⟨k.slots.trans h.slots, k.stips.trans h.stips, k.objs.trans h.objs, k.otips.trans h.otips, k.fresh.trans h.fresh⟩
theorem Same.symm {a b : St} (h : Same a b) : Same b a := ⟨h.slots.symm, h.stips.symm, h.objs.symm, h.otips.symm, h.fresh.symm⟩
theorem Same.le {s s' : St} (h : Same s s') : s.Le s' :=
  ⟨fun n => by rw [h.slots]; exact .refl _, by rw [h.slots]; exact Nat.le_refl _, fun n o x => by rw [h.stips] at x; exact x, fun i o x => ⟨o, by rw [h.objs] at x; exact x, .refl _ _⟩, fun n o x => by rw [h.otips] at x; exact x, fun x => by rw [h.fresh] at x; exact x⟩
theorem Rel.same {P : Program} {G : Nat → Option GV} {vars : Nat} {m : Mem} {s s' : St} {tm : Array Value} (r : Rel P G vars m s tm) (h : Same s s') : Rel P G vars m s' tm := r.le h.le
theorem Live.same {s s' : St} (h : Same s s') {l : Lab} (hl : Live s' l) : Live s l := by
  cases l <;> simp_all [Live, h.stips, h.objs, h.otips]

theorem ret_inv {α : Type} {a b : α} {s s' : St} (h : runR (.ret a) s = some (b, s')) : b = a ∧ s' = s := by simp [runR] at h; exact ⟨h.1.symm, h.2.symm⟩
theorem fail_inv {α : Type} {b : α} {s s' : St} (h : runR (.fail) s = some (b, s')) : False := by simp [runR] at h
theorem getS_inv {n : Nat} {s s' : St} {v : V} (h : runR (getS n) s = some (v, s')) : v = nthV s.slots n ∧ Same s s' := by
  simp [getS, runR, St.get] at h
  exact ⟨h.1.symm, h.2 ▸ ⟨rfl, rfl, rfl, rfl, rfl⟩⟩
theorem getST_inv {n : Nat} {s s' : St} {v : List Nat} (h : runR (getST n) s = some (v, s')) : v = nthT s.stips n ∧ Same s s' := by
  simp [getST, runR, St.get] at h
  exact ⟨h.1.symm, h.2 ▸ ⟨rfl, rfl, rfl, rfl, rfl⟩⟩
theorem getOT_inv {n : Nat} {s s' : St} {v : List Nat} (h : runR (getOT n) s = some (v, s')) : v = lookT n s.otips ∧ Same s s' := by
  simp [getOT, runR, St.get] at h
  exact ⟨h.1.symm, h.2 ▸ ⟨rfl, rfl, rfl, rfl, rfl⟩⟩
theorem getF_inv {s s' : St} {v : Bool} (h : runR getF s = some (v, s')) : v = s.fresh ∧ Same s s' := by
  simp [getF, runR, St.get] at h
  exact ⟨h.1.symm, h.2 ▸ ⟨rfl, rfl, rfl, rfl, rfl⟩⟩
theorem getO_inv {n : Nat} {s s' : St} {o : Obj} (h : runR (getO n) s = some (o, s')) : lookObj n s.objs = some o ∧ Same s s' := by
  simp only [getO, runR, St.get] at h
  cases hl : lookObj n s.objs with
  | none => rw [hl] at h; cases h
  | some x =>
    rw [hl] at h
    simp [runR] at h
    exact ⟨by rw [h.1], h.2 ▸ ⟨rfl, rfl, rfl, rfl, rfl⟩⟩
theorem putST_inv {n : Nat} {x : List Nat} {s s' : St} {u : Unit} (h : runR (putST n x) s = some (u, s')) : Same { s with stips := setT s.stips n x } s' := by
  simp [putST, runR, St.put] at h
  exact h ▸ ⟨rfl, rfl, rfl, rfl, rfl⟩
theorem putOT_inv {n : Nat} {x : List Nat} {s s' : St} {u : Unit} (h : runR (putOT n x) s = some (u, s')) : Same { s with otips := setTips n x s.otips } s' := by
  simp [putOT, runR, St.put] at h
  exact h ▸ ⟨rfl, rfl, rfl, rfl, rfl⟩
theorem setO_inv {n : Nat} {x : Obj} {s s' : St} {u : Unit} (h : runR (setO n x) s = some (u, s')) : Same { s with objs := setObj n (some x) s.objs } s' := by
  simp [setO, runR, St.put] at h
  exact h ▸ ⟨rfl, rfl, rfl, rfl, rfl⟩
theorem setF_inv {b : Bool} {s s' : St} {u : Unit} (h : runR (setF b) s = some (u, s')) : Same { s with fresh := b } s' := by
  simp [setF, runR, St.put] at h
  exact h ▸ ⟨rfl, rfl, rfl, rfl, rfl⟩
theorem setS_inv {n : Nat} {V : V} {ts : List Nat} {s s' : St} {u : Unit} (h : runR (setS n V ts) s = some (u, s')) : Same { s with slots := setV s.slots n V, stips := setT s.stips n ts } s' := by
  simp [setS, runR, St.put] at h
  exact h ▸ ⟨rfl, rfl, rfl, rfl, rfl⟩
theorem need_inv {c : Bool} {s s' : St} {u : Unit} (h : runR (needM c) s = some (u, s')) : c = true ∧ s' = s := by
  cases c <;> simp [needM, runR] at h
  exact ⟨rfl, h.symm⟩
theorem lift_inv {β : Type} {o : Option β} {b : β} {s s' : St} (h : runR (liftO o) s = some (b, s')) : o = some b ∧ s' = s := by
  cases o <;> simp [liftO, runR] at h
  exact ⟨by rw [h.1], h.2.symm⟩
theorem opt_inv {β : Type} {d : β} {o : Option β} {b : β} {s s' : St} (h : runR (optM d o) s = some (b, s')) : o = some b ∧ s' = s := by
  cases o <;> simp [optM, runR] at h
  exact ⟨by rw [h.1], h.2.symm⟩

/-! ### Data and their parts -/
theorem as_eq {d : D} {T : Ty} {x : den T} (h : d.as T = some x) : d = ⟨T, x⟩ := by
  obtain ⟨U, y⟩ := d
  unfold D.as at h
  cases ht : tyEq U T with
  | none => simp [ht] at h
  | some e =>
    obtain ⟨e⟩ := e
    subst e
    simp [ht] at h
    rw [h]
theorem take_drop_append {α : Type} (u v : List α) (n k : Nat) (hn : u.length = n) : ((u ++ v).drop (n + k)) = v.drop k := by
  subst hn; rw [List.drop_append]; simp
theorem drop_take_drop {α : Type} (ds : List α) (k n : Nat) (h : k ≤ n) (hn : n ≤ ds.length) : (ds.take n).drop k ++ ds.drop n = ds.drop k := by
  rw [← List.drop_append_of_le_length (by simp; omega), List.take_append_drop]
theorem fieldOff_le : ∀ {T : Ty} {j o : Nat} {U : Ty}, fieldOff T j = some (o, U) → o + U.size ≤ T.size
  | .pair a b, 0, o, U, h => by simp [fieldOff] at h; obtain ⟨rfl, rfl⟩ := h; simp [Ty.size]
  | .pair a b, j + 1, o, U, h => by
    simp only [fieldOff] at h
    split at h
    · rename_i q t hq
      simp at h
      obtain ⟨rfl, rfl⟩ := h
      have := fieldOff_le hq
      simp [Ty.size]; omega
    · cases h
  | .int _, _, _, _, h => by simp [fieldOff] at h
  | .bool, _, _, _, h => by simp [fieldOff] at h
  | .str, _, _, _, h => by simp [fieldOff] at h
  | .unit, _, _, _, h => by simp [fieldOff] at h
  | .sl _, _, _, _, h => by simp [fieldOff] at h
theorem Rep.proj {w : World} {C : Cells} : ∀ {T : Ty} {x : den T} {cs : List Value} {j : Nat} {e : D}, Rep w C T x cs → XE.proj T x j = some e →
    ∃ o, fieldOff T j = some (o, e.T) ∧ Rep w C e.T e.x ((cs.drop o).take e.T.size)
  | .pair a b, x, cs, 0, e, h, hp => by
    simp [XE.proj] at hp
    subst hp
    simp only [Rep] at h
    obtain ⟨u, v, rfl, h1, h2⟩ := h
    exact ⟨0, rfl, by rw [← h1.len]; simpa using h1⟩
  | .pair a b, x, cs, j + 1, e, h, hp => by
    simp only [XE.proj] at hp
    simp only [Rep] at h
    obtain ⟨u, v, rfl, h1, h2⟩ := h
    obtain ⟨o, k1, k2⟩ := Rep.proj h2 hp
    exact ⟨a.size + o, by simp [fieldOff, k1], by rw [take_drop_append _ _ _ _ h1.len]; exact k2⟩
  | .int _, _, _, _, _, _, hp => by simp [XE.proj] at hp
  | .bool, _, _, _, _, _, hp => by simp [XE.proj] at hp
  | .str, _, _, _, _, _, hp => by simp [XE.proj] at hp
  | .unit, _, _, _, _, _, hp => by simp [XE.proj] at hp
  | .sl _, _, _, _, _, _, hp => by simp [XE.proj] at hp
theorem pathOff_le : ∀ {p : List Nat} {T : Ty} {o : Nat} {U : Ty}, pathOff T p = some (o, U) → o + U.size ≤ T.size
  | [], T, o, U, h => by simp [pathOff] at h; obtain ⟨rfl, rfl⟩ := h; simp
  | j :: r, T, o, U, h => by
    simp only [pathOff] at h
    split at h
    · rename_i q t hq
      split at h
      · rename_i q2 t2 hq2
        simp at h
        obtain ⟨rfl, rfl⟩ := h
        have h1 := fieldOff_le hq
        have h2 := pathOff_le hq2
        omega
      · cases h
    · cases h
theorem Rep.getp {w : World} {C : Cells} : ∀ {p : List Nat} {d e : D} {cs : List Value}, Rep w C d.T d.x cs → XE.getp d p = some e →
    ∃ o, pathOff d.T p = some (o, e.T) ∧ Rep w C e.T e.x ((cs.drop o).take e.T.size)
  | [], d, e, cs, h, hp => by
    simp [XE.getp] at hp
    subst hp
    exact ⟨0, rfl, by rw [← h.len]; simpa using h⟩
  | j :: r, d, e, cs, h, hp => by
    simp only [XE.getp] at hp
    cases hq : XE.proj d.T d.x j with
    | none => simp [hq] at hp
    | some f =>
      simp only [hq] at hp
      obtain ⟨o, k1, k2⟩ := h.proj hq
      obtain ⟨o', k3, k4⟩ := Rep.getp k2 hp
      have hle := pathOff_le k3
      refine ⟨o + o', by simp [pathOff, k1, k3], ?_⟩
      rw [List.drop_take, List.drop_drop, List.take_take, Nat.min_eq_left (by omega)] at k4
      exact k4
theorem pathOff_snoc : ∀ {p : List Nat} {T U W : Ty} {o q j : Nat}, pathOff T p = some (o, U) → fieldOff U j = some (q, W) → pathOff T (p ++ [j]) = some (o + q, W)
  | [], T, U, W, o, q, j, h, hf => by simp [pathOff] at h; obtain ⟨rfl, rfl⟩ := h; simp [pathOff, hf]
  | i :: r, T, U, W, o, q, j, h, hf => by
    simp only [pathOff, List.cons_append] at h ⊢
    cases h1 : fieldOff T i with
    | none => simp [h1] at h
    | some f =>
      simp only [h1] at h ⊢
      cases h2 : pathOff f.2 r with
      | none => simp [h2] at h
      | some g =>
        simp [h2] at h
        obtain ⟨rfl, rfl⟩ := h
        rw [pathOff_snoc (o := g.1) (U := g.2) h2 hf]
        simp [Nat.add_assoc]
theorem Rep.setf {w : World} {C : Cells} : ∀ {T : Ty} {x y : den T} {j : Nat} {v : D} {cs us : List Value}, XE.setf T x j v = some y → Rep w C T x cs → Rep w C v.T v.x us →
    ∃ o, fieldOff T j = some (o, v.T) ∧ Rep w C T y (cs.take o ++ us ++ cs.drop (o + v.T.size))
  | .pair a b, x, y, 0, v, cs, us, hs, h, hv => by
    simp only [XE.setf] at hs
    cases hq : v.as a with
    | none => simp [hq] at hs
    | some z =>
      simp [hq] at hs
      subst hs
      have := as_eq hq
      subst this
      simp only [Rep] at h
      obtain ⟨u, t, rfl, h1, h2⟩ := h
      refine ⟨0, rfl, ?_⟩
      simp only [Rep]
      exact ⟨us, t, by simp [← h1.len], hv, h2⟩
  | .pair a b, x, y, j + 1, v, cs, us, hs, h, hv => by
    simp only [XE.setf] at hs
    cases hq : XE.setf b x.2 j v with
    | none => simp [hq] at hs
    | some z =>
      simp [hq] at hs
      subst hs
      simp only [Rep] at h
      obtain ⟨u, t, rfl, h1, h2⟩ := h
      obtain ⟨o, k1, k2⟩ := Rep.setf hq h2 hv
      refine ⟨a.size + o, by simp [fieldOff, k1], ?_⟩
      simp only [Rep]
      refine ⟨u, _, ?_, h1, k2⟩
      rw [Nat.add_assoc, take_drop_append _ _ _ _ h1.len, ← h1.len, List.take_append]
      simp [List.take_of_length_le]
  | .int _, _, _, _, _, _, _, hp, _, _ => by simp [XE.setf] at hp
  | .bool, _, _, _, _, _, _, hp, _, _ => by simp [XE.setf] at hp
  | .str, _, _, _, _, _, _, hp, _, _ => by simp [XE.setf] at hp
  | .unit, _, _, _, _, _, _, hp, _, _ => by simp [XE.setf] at hp
  | .sl _, _, _, _, _, _, _, hp, _, _ => by simp [XE.setf] at hp
theorem Rep.setp {w : World} {C : Cells} : ∀ {p : List Nat} {d d' v : D} {cs us : List Value}, XE.setp d p v = some d' → Rep w C d.T d.x cs → Rep w C v.T v.x us →
    d'.T = d.T ∧ ∃ o, pathOff d.T p = some (o, v.T) ∧ Rep w C d'.T d'.x (cs.take o ++ us ++ cs.drop (o + v.T.size))
  | [], d, d', v, cs, us, hs, h, hv => by
    simp only [XE.setp] at hs
    cases hq : v.as d.T with
    | none => simp [hq] at hs
    | some z =>
      simp [hq] at hs
      subst hs
      have := as_eq hq
      subst this
      exact ⟨rfl, 0, rfl, by simpa [← h.len] using hv⟩
  | j :: r, d, d', v, cs, us, hs, h, hv => by
    simp only [XE.setp] at hs
    cases hq : XE.proj d.T d.x j with
    | none => simp [hq] at hs
    | some e =>
      simp only [hq] at hs
      cases hq2 : XE.setp e r v with
      | none => simp [hq2] at hs
      | some e' =>
        simp only [hq2] at hs
        cases hq3 : XE.setf d.T d.x j e' with
        | none => simp [hq3] at hs
        | some z =>
          simp [hq3] at hs
          subst hs
          obtain ⟨o, k1, k2⟩ := h.proj hq
          obtain ⟨ht, o', k3, k4⟩ := Rep.setp hq2 k2 hv
          obtain ⟨o2, k5, k6⟩ := Rep.setf hq3 h k4
          rw [ht] at k5 k6
          have ho : o2 = o := by rw [k1] at k5; simp at k5; exact k5.symm
          subst ho
          refine ⟨rfl, o2 + o', by simp [pathOff, k1, k3], ?_⟩
          have hle := pathOff_le k3
          have hle2 := fieldOff_le k1
          have hl := h.len
          rw [List.take_take, Nat.min_eq_left (by omega)] at k6
          rw [show List.take o2 cs ++ (List.take o' (List.drop o2 cs) ++ us ++ List.drop (o' + v.T.size) (List.take e.T.size (List.drop o2 cs))) ++ List.drop (o2 + e.T.size) cs =
              List.take (o2 + o') cs ++ us ++ List.drop (o2 + o' + v.T.size) cs from ?_] at k6
          · exact k6
          · have e1 := drop_take_drop (List.drop o2 cs) (o' + v.T.size) e.T.size hle (by simp; omega)
            simp only [List.drop_drop] at e1
            simp only [List.append_assoc, List.take_add]
            rw [e1, Nat.add_assoc]
end Go.XE
/- What the evaluator's types say of the program's table of types; loads and stores. -/
namespace Go.XE

def zeroCells : Ty → List Value
  | .int k => [.int k 0]
  | .bool => [.bool false]
  | .str => [.string ⟨#[]⟩]
  | .sl _ => [.slice none 0 0]
  | .unit => []
  | .pair a b => zeroCells a ++ zeroCells b
def zeroV (T : Ty) : Value := if T.isSt then .agg (zeroCells T).toArray else (zeroCells T).headD undef
def Base (P : Program) (t : TypeId) (T : Ty) : Prop := ∃ i, P.info? t = some i ∧ i.size = T.size ∧ i.bytes ≤ 16384 ∧ i.zero = some (zeroV T)
def TyQ (P : Program) : Ty → (TypeId → Prop) × (Nat → List Field → Prop)
  | .int k => (fun t => Base P t (.int k) ∧ P.underlying t = some (.int k), fun _ _ => False)
  | .bool => (fun t => Base P t .bool ∧ P.underlying t = some .bool, fun _ _ => False)
  | .str => (fun t => Base P t .str ∧ P.underlying t = some .string, fun _ _ => False)
  | .sl e => (fun t => Base P t (.sl e) ∧ ∃ et, P.underlying t = some (.slice et) ∧ 0 < e.size ∧ (TyQ P e).1 et, fun _ _ => False)
  | .unit => (fun t => Base P t .unit ∧ ∃ fs, P.underlying t = some (.struct fs) ∧ fs.toList = [], fun _ fs => fs = [])
  | .pair a b =>
    let F : Nat → List Field → Prop := fun off fs => ∃ f r, fs = f :: r ∧ f.offset = off ∧ 0 < a.size ∧ (TyQ P a).1 f.type ∧ (TyQ P b).2 (off + a.size) r
    (fun t => Base P t (.pair a b) ∧ ∃ fs, P.underlying t = some (.struct fs) ∧ F 0 fs.toList, F)
def TyOk (P : Program) (t : TypeId) (T : Ty) : Prop := (TyQ P T).1 t

variable {P : Program}
theorem TyOk.base {t : TypeId} : ∀ {T : Ty}, TyOk P t T → Base P t T
  | .int _, h => h.1
  | .bool, h => h.1
  | .str, h => h.1
  | .sl _, h => h.1
  | .unit, h => h.1
  | .pair _ _, h => h.1
theorem TyOk.under {t : TypeId} : ∀ {T : Ty}, TyOk P t T → ∃ d, P.underlying t = some d ∧ (match d with | .struct _ | .array _ _ => true | _ => false) = T.isSt
  | .int _, h => ⟨_, h.2, rfl⟩
  | .bool, h => ⟨_, h.2, rfl⟩
  | .str, h => ⟨_, h.2, rfl⟩
  | .sl _, h => let ⟨et, h1, _⟩ := h.2; ⟨_, h1, rfl⟩
  | .unit, h => let ⟨fs, h1, _⟩ := h.2; ⟨_, h1, rfl⟩
  | .pair _ _, h => let ⟨fs, h1, _⟩ := h.2; ⟨_, h1, rfl⟩
theorem FieldsOk.field : ∀ {T : Ty} {off : Nat} {fs : List Field} {j o : Nat} {U : Ty}, (TyQ P T).2 off fs → fieldOff T j = some (o, U) →
    ∃ f, fs[j]? = some f ∧ f.offset = off + o ∧ 0 < U.size ∧ TyOk P f.type U
  | .pair a b, off, fs, 0, o, U, h, hf => by
    simp [fieldOff] at hf
    obtain ⟨rfl, rfl⟩ := hf
    obtain ⟨f, r, rfl, h1, h2, h3, h4⟩ := h
    exact ⟨f, rfl, h1, h2, h3⟩
  | .pair a b, off, fs, j + 1, o, U, h, hf => by
    simp only [fieldOff] at hf
    obtain ⟨f, r, rfl, h1, h2, h3, h4⟩ := h
    split at hf
    · rename_i q t hq
      simp at hf
      obtain ⟨rfl, rfl⟩ := hf
      obtain ⟨g, k1, k2, k3⟩ := FieldsOk.field h4 hq
      exact ⟨g, by simpa using k1, by omega, k3⟩
    · cases hf
  | .int _, _, _, _, _, _, _, h => by simp [fieldOff] at h
  | .bool, _, _, _, _, _, _, h => by simp [fieldOff] at h
  | .str, _, _, _, _, _, _, h => by simp [fieldOff] at h
  | .unit, _, _, _, _, _, _, h => by simp [fieldOff] at h
  | .sl _, _, _, _, _, _, _, h => by simp [fieldOff] at h
theorem TyOk.field {t : TypeId} : ∀ {T : Ty} {j o : Nat} {U : Ty}, TyOk P t T → fieldOff T j = some (o, U) →
    ∃ fs f, P.underlying t = some (.struct fs) ∧ fs[j]? = some f ∧ f.offset = o ∧ 0 < U.size ∧ TyOk P f.type U
  | .pair a b, j, o, U, h, hf => by
    obtain ⟨_, fs, h1, h2⟩ := h
    obtain ⟨f, k1, k2, k3⟩ := FieldsOk.field (P := P) (T := .pair a b) h2 hf
    exact ⟨fs, f, h1, by simpa using k1, by omega, k3⟩
  | .int _, _, _, _, _, h => by simp [fieldOff] at h
  | .bool, _, _, _, _, h => by simp [fieldOff] at h
  | .str, _, _, _, _, h => by simp [fieldOff] at h
  | .unit, _, _, _, _, h => by simp [fieldOff] at h
  | .sl _, _, _, _, _, h => by simp [fieldOff] at h
theorem zero_rep (w : World) (C : Cells) : ∀ T : Ty, Rep w C T (dflt T) (zeroCells T)
  | .int _ => rfl
  | .bool => rfl
  | .str => rfl
  | .unit => rfl
  | .sl e => ⟨none, 0, rfl, Nat.le_refl _, fun _ => rfl, fun a h => by cases h⟩
  | .pair a b => ⟨_, _, rfl, zero_rep w C a, zero_rep w C b⟩
theorem zero_repV (w : World) (C : Cells) (T : Ty) : RepV w C T (dflt T) (zeroV T) := by
  have h := zero_rep w C T
  unfold zeroV
  cases T <;> first | exact .inr ⟨rfl, h⟩ | exact .inl ⟨rfl, _, rfl, h⟩
theorem zero_tips : ∀ (T : Ty) (off : Nat) (e : Ty), tipTy T off = some e → (zeroCells T)[off]? = some (.slice none 0 0)
  | .sl e, 0, _, _ => rfl
  | .sl e, _ + 1, _, h => by simp [tipTy] at h
  | .int _, _, _, h => by simp [tipTy] at h
  | .bool, _, _, h => by simp [tipTy] at h
  | .str, _, _, h => by simp [tipTy] at h
  | .unit, _, _, h => by simp [tipTy] at h
  | .pair a b, off, e, h => by
    have hl : (zeroCells a).length = a.size := (zero_rep (default : World) (fun _ _ => False) a).len
    simp only [tipTy] at h
    simp only [zeroCells, List.getElem?_append, hl]
    split at h
    · rename_i hlt
      rw [if_pos hlt]; exact zero_tips a off e h
    · rename_i hlt
      rw [if_neg hlt]; exact zero_tips b _ e h

theorem run_isAgg {t : TypeId} {T : Ty} (h : TyOk P t T) (w : World) : (isAgg t).run P w = .ok T.isSt w := by
  obtain ⟨d, h1, h2⟩ := h.under
  unfold isAgg
  rw [Sem.run_bind, run_underlying h1 w]
  cases d <;> simp_all
theorem run_sizeOf {t : TypeId} {T : Ty} (h : TyOk P t T) (w : World) : (sizeOf t).run P w = .ok T.size w := by
  obtain ⟨i, h1, h2, _⟩ := h.base
  simp [sizeOf, typeInfo, h1, h2]
theorem run_zero {t : TypeId} {T : Ty} (h : TyOk P t T) (w : World) : (zeroValue t).run P w = .ok (zeroV T) w := by
  obtain ⟨i, h1, h2, _, h3⟩ := h.base
  simp [zeroValue, typeInfo, h1, h3]
theorem add_mk (b o j : Nat) : (⟨b, o, none⟩ : Addr).add j = ⟨b, o + j, none⟩ := by unfold Addr.add; split <;> simp_all
theorem addr_eta {a : Addr} (h : a.spot = none) : a = ⟨a.block, a.off, none⟩ := by cases a; simp_all
theorem tcells_agg (cs : Array Value) : tcells (.agg cs) = cs.toList := rfl
theorem RepV.tcells {w : World} {C : Cells} {T : Ty} {x : den T} {v : Value} (h : RepV w C T x v) : Rep w C T x (XE.tcells v) ∧ XE.tcells v = v.cells.toList := by
  have h1 := Rep.cells h
  have : XE.tcells v = v.cells.toList := by
    rcases h with ⟨_, cs, rfl, _⟩ | ⟨h2, h3⟩
    · rfl
    · have := Rep.one h3 v (by simp)
      cases v <;> first | rfl | (simp [Value.oneCell'] at this)
  exact ⟨this ▸ h1, this⟩
/-- The value that stands for a datum's cells. -/
def toV (T : Ty) (cs : List Value) : Value := if T.isSt then .agg cs.toArray else cs.headD undef
theorem RepV.of {w : World} {C : Cells} {T : Ty} {x : den T} {cs : List Value} (h : Rep w C T x cs) : RepV w C T x (toV T cs) ∧ XE.tcells (toV T cs) = cs := by
  unfold toV
  cases hT : T.isSt
  · have : ∃ v, cs = [v] := by
      cases T <;> simp only [Rep, Ty.isSt] at h hT <;> first | (cases hT; done) | (obtain ⟨p, cap, h2, _⟩ := h; exact ⟨_, h2⟩) | exact ⟨_, h⟩
    obtain ⟨v, rfl⟩ := this
    refine ⟨.inr ⟨hT, by simpa using h⟩, ?_⟩
    have := Rep.one h v (by simp)
    cases v <;> first | rfl | (simp [Value.oneCell'] at this)
  · exact ⟨.inl ⟨hT, cs.toArray, rfl, by simpa using h⟩, rfl⟩
theorem run_loadVar {t : TypeId} {T : Ty} (ht : TyOk P t T) {w : World} {C : Cells} {b o : Nat} {x : den T} {cs : List Value} (hc : cellsAt w b o cs) (hr : Rep w C T x cs) :
    (loadVar t ⟨b, o, none⟩).run P w = .ok (toV T cs) w := by
  have hl := hr.len
  simp only [loadVar, Sem.run_bind, run_isAgg ht, Result.andThen_ok]
  unfold toV
  cases hT : T.isSt
  · have : ∃ v, cs = [v] := by
      clear hc hl
      cases T <;> simp only [Rep, Ty.isSt] at hr hT <;> first | (cases hT; done) | (obtain ⟨p, cap, h2, _⟩ := hr; exact ⟨_, h2⟩) | exact ⟨_, hr⟩
    obtain ⟨v, rfl⟩ := this
    have h1 := hc 0 v rfl
    simp only [Nat.add_zero] at h1
    simp [load, Sem.run, h1]
  · have h2 := run_loadCells_list (P := P) w ⟨b, o, none⟩ cs (fun j v hv => by rw [add_mk]; exact hc j v hv)
    rw [hl] at h2
    simp [Sem.run_bind, run_sizeOf ht, h2]
theorem run_storeVar {t : TypeId} {T : Ty} (ht : TyOk P t T) {w : World} {C : Cells} {b o : Nat} {y : den T} {v : Value} (hv : RepV w C T y v) {cur : Array Value} {et : TypeId}
    (hb : w.heap[b]? = some (Go.Obj.cells cur et (0, 0))) (hfit : o + T.size ≤ cur.size) :
    (storeVar t ⟨b, o, none⟩ v).run P w = .ok () (w.setRow b (cur.toList.take o ++ tcells v ++ cur.toList.drop (o + T.size)).toArray) := by
  obtain ⟨h1, h2⟩ := RepV.tcells hv
  have hl : v.cells.size = T.size := by rw [← h1.len, h2]; simp
  have hst := run_storeCells_at P b o et v.cells.toList 0 cur w hb (by simpa [hl] using hfit) (by rw [← h2]; exact h1.one)
  simp only [storeVar, Sem.run_bind, run_sizeOf ht, Result.andThen_ok, hl, ne_eq, not_true_eq_false, if_false]
  rw [h2]
  simpa [hl] using hst
end Go.XE
/- Operations, one by one: what the evaluator says of them is what they do. Part A: without calls, blocks, writes. -/
namespace Go.XE

/-! ### Contracts of functions -/
def ResOk (m : Mem) (multi : Bool) (R : Ty) (x : den R) (v : Value) (ts : List Nat) : Prop :=
  (multi = false → RepV m.w m.C R x v) ∧ (multi = true → ∃ vs, v = .tuple vs ∧ RepT m.w m.C R x vs.toList) ∧ TipsAt m (.fl 0) R (tcells v) ts
def MutsOk (m : Mem) : (l : List (Nat × OK)) → den (objsX l) → Prop
  | [], _ => True
  | (i, .box T ts) :: r, x => ObjOk m i (.box ⟨T, x.1⟩) ∧ (∀ off, off ∈ ts → ∀ e, tipTy T off = some e → ∃ v, m.w.cell? ⟨(m.ad i).b, (m.ad i).o + off, none⟩ = some v ∧ TipAt m (.to i off) e v) ∧ MutsOk m r x.2
  | _, _ => False
def Post (m : Mem) (sp : Spec) (y : den (outTy sp.R sp.head.objs)) (v : Value) (w' : World) : Prop :=
  ∃ m' : Mem, m'.w = w' ∧ Fr m m' ∧ (∀ b j, m'.C b j → b < w'.heap.size) ∧ (∀ b, m'.L b ≠ .no → b < w'.heap.size) ∧
    ResOk m' sp.multi sp.R (splitO sp.R sp.head.objs y).1 v sp.tips ∧ MutsOk m' sp.head.objs (splitO sp.R sp.head.objs y).2
def padA (n : Nat) (args : Array Value) : Array Value := args ++ Array.replicate (n - args.size) undef
def SK.argOk : SK → Bool
  | .dat _ ts => ts.isEmpty
  | .bp _ p _ => p.isEmpty
  | .own _ => false
  | .fnb _ _ => false
  | _ => true
def bpIds : List (Nat × SK) → List Nat
  | [] => []
  | (_, .bp i _ _) :: r => i :: bpIds r
  | _ :: r => bpIds r
def distinctN : List Nat → Bool
  | [] => true
  | n :: r => !hasN n r && distinctN r
def boxAt (i : Nat) : List (Nat × OK) → Option Ty
  | [] => none
  | (j, .box T _) :: r => cond (Nat.beq j i) (some T) (boxAt i r)
  | _ :: _ => none
def bpOk (objs : List (Nat × OK)) : List (Nat × SK) → Bool
  | [] => true
  | (_, .bp i _ T) :: r => (match boxAt i objs with | some U => (tyEq U T).isSome | none => false) && bpOk objs r
  | _ :: r => bpOk objs r
def OK.isBox : OK → Bool
  | .box _ _ => true
  | _ => false
/-- The shape of an entry: no tips among the arguments; pointers to whole boxes, each to one of its own. -/
def Spec.okB (sp : Spec) : Bool :=
  sp.head.slots.all (fun p => p.2.argOk) && (distinctN (bpIds sp.head.slots) && distinctN (sp.head.slots.map (·.1))) && (sp.head.objs.all (fun p => p.2.isBox) && distinctN (sp.head.objs.map (·.1)) && bpOk sp.head.objs sp.head.slots && sp.head.idsOk)
def Sound (P : Program) (G : Nat → Option GV) (f : FuncId) (sp : Spec) : Prop :=
  Enter P f ∧ sp.okB = true ∧ ∀ (m : Mem) (x : sp.head.H) (y : den (outTy sp.R sp.head.objs)) (args : Array Value), Rel P G 0 m (sp.head.st x) (padA sp.head.ntmps args) → (∀ id, m.U id → id < sp.head.next) → sp.F x = some y →
    Calls P f args m.w fun e w' => ∃ v, e = .returned v ∧ Post m sp y v w'
structure GOk (P : Program) (G : Nat → Option GV) (Γ : Env) : Prop where
  τ : ∀ t T, Γ.τ t = some T → TyOk P t T
  pts : ∀ t, hasN t Γ.pts = true → ∃ e, P.underlying t = some (.pointer e)
  glob : ∀ g d, Γ.glob g = some d → G g = some (.d d)
  Φ : ∀ f sp, Γ.Φ f = some sp → Sound P G f sp

section
variable {P : Program} {G : Nat → Option GV} {Γ : Env} {m : Mem} {s s' : St} {a : Act}

/-- What an operation that is no call must do. -/
def Goes (P : Program) (G : Nat → Option GV) (vars nid : Nat) (m : Mem) (s' : St) (o : Oper) (a : Act) : Prop :=
  ∃ n v m', (execOp a.eval o).run P m.w = .ok n m'.w ∧ (n = .value v ∨ (n = .skip ∧ v = undef)) ∧ Rel P G vars m' s' (a.put o.dst v).tmps ∧ Fr m m' ∧ ∀ id, m'.U id → m.U id ∨ id = nid
/-- The memory's book is kept anew, the world stays. -/
structure Quiet (m m1 : Mem) : Prop where
  w : m1.w = m.w
  fr : Fr m m1
  U : m1.U = m.U
  tip : ∀ k off e v, TipAt m (.fl k off) e v → TipAt m1 (.fl k off) e v
theorem Quiet.refl (m : Mem) : Quiet m m := ⟨rfl, .refl m, rfl, fun _ _ _ _ h => h⟩
theorem Quiet.trans {m m1 m2 : Mem} (h : Quiet m m1) (k : Quiet m1 m2) : Quiet m m2 :=
  ⟨k.w.trans h.w, h.fr.trans k.fr, k.U.trans h.U, fun a b c d x => k.tip a b c d (h.tip a b c d x)⟩
theorem Quiet.relabel (m : Mem) {ρ : Lab → Lab} (h0 : ρ .no = .no) (hf : ∀ k off, ρ (.fl k off) = .fl k off) : Quiet m (m.relabel ρ) :=
  ⟨rfl, .relabel m h0, rfl, fun k off e v h => by have := h.relabel (ρ := ρ); rwa [hf] at this⟩
theorem ProvOk.to {vars : Nat} {m m' : Mem} (h : m.Keeps m' (Live s)) {d : D} {cs : List Value} {p : Place} (q : ProvOk vars m s d cs p) : ProvOk vars m' s d cs p := by
  cases p with
  | slot k o =>
    refine ⟨q.1, q.2.1, fun off ho e he => ?_⟩
    obtain ⟨v, h1, h2⟩ := q.2.2 off ho e he
    exact ⟨v, h1, h2.to h (show Live s (.ts k off) from ho)⟩
  | box i o =>
    refine ⟨h.U _ q.1, fun off ho h1 h2 e he => ?_⟩
    obtain ⟨v, k1, k2⟩ := q.2 off ho h1 h2 e he
    exact ⟨v, k1, k2.to h (show Live s (.to i off) from ho)⟩
def toTs (d : Nat) : Lab → Lab
  | .fl 0 off => .ts d off
  | l => l
theorem put_tmps (a : Act) (d : Option Nat) (v : Value) : (a.put d v).tmps = match d with | some d => a.tmps.setIfInBounds d v | none => a.tmps := by cases d <;> rfl
theorem set_ok {vars : Nat} (r : Rel P G vars m s a.tmps) {d : Nat} {V : V} {ts : List Nat} {v : Value} (hv : RV P m V v) (ht : ∀ D, datOf V = some D → TipsAt m (.fl 0) D.T (tcells v) ts)
    (hp : s.fresh = true → ∀ D p, V = .dat D (some p) → ProvOk vars m s D (tcells v) p) (hn : s.fresh = true → Nat.testBit vars d = false) :
    ∃ m', m'.w = m.w ∧ Rel P G vars m' { s with slots := setV s.slots d V, stips := setT s.stips d ts } (a.tmps.setIfInBounds d v) ∧ Fr m m' ∧ m'.U = m.U := by
  have hl : ∀ l, Live s l → toTs d l = l := fun l h => by cases l <;> first | rfl | exact h.elim
  have hk : m.Keeps (m.relabel (toTs d)) (Live s) := ⟨(Fr.relabel m rfl).to, r.bC, fun b hb => r.bL b fun e => hb (by simp [Mem.relabel, e, toTs]), fun b hb => ⟨hl _ hb, rfl, fun _ h => h⟩⟩
  refine ⟨m.relabel (toTs d), rfl, (r.relabel rfl hl).setSlot (hv.to hk.toTo) (fun D hD off ho e he => ?_) (fun hf D p hD => (hp hf D p hD).to hk) hn, .relabel m rfl, rfl⟩
  obtain ⟨u, h1, h2⟩ := ht D hD off ho e he
  exact ⟨u, h1, h2.relabel (ρ := toTs d)⟩
theorem dst_ok (r : Rel P G Γ.vars m s a.tmps) {o : Oper} {V : V} {ts : List Nat} {v : Value} {u : Unit} (h : runR (dstM Γ o V ts) s = some (u, s')) (hv : RV P m V v)
    (ht : ∀ D, datOf V = some D → TipsAt m (.fl 0) D.T (tcells v) ts) (hp : s.fresh = true → ∀ D p, V = .dat D (some p) → ProvOk Γ.vars m s D (tcells v) p) :
    ∃ m', m'.w = m.w ∧ Rel P G Γ.vars m' s' (a.put o.dst v).tmps ∧ Fr m m' ∧ m'.U = m.U := by
  unfold dstM at h
  rw [put_tmps]
  cases hd : o.dst with
  | none => simp only [hd] at h; obtain ⟨_, rfl⟩ := ret_inv h; exact ⟨m, rfl, r, .refl m, rfl⟩
  | some d =>
    simp only [hd] at h
    cases hb : Nat.testBit Γ.vars d with
    | true => simp only [hb, cond_true] at h; exact (fail_inv h).elim
    | false =>
      simp only [hb, cond_false] at h
      obtain ⟨m', h1, h2, h3, h4⟩ := set_ok r (d := d) hv ht hp (fun _ => hb)
      exact ⟨m', h1, h2.same (setS_inv h), h3, h4⟩
/-- The end of an operation that yields a value. -/
theorem fin {m1 : Mem} {nid : Nat} (fr : Fr m m1) (hU : ∀ id, m1.U id → m.U id ∨ id = nid) (r : Rel P G Γ.vars m1 s a.tmps) {o : Oper} {V : V} {ts : List Nat} {v : Value} {u : Unit}
    (hrun : (execOp a.eval o).run P m.w = .ok (.value v) m1.w) (h : runR (dstM Γ o V ts) s = some (u, s')) (hv : RV P m1 V v)
    (ht : ∀ D, datOf V = some D → TipsAt m1 (.fl 0) D.T (tcells v) ts) (hp : s.fresh = true → ∀ D p, V = .dat D (some p) → ProvOk Γ.vars m1 s D (tcells v) p) : Goes P G Γ.vars nid m s' o a := by
  obtain ⟨m', h1, h2, h3, h4⟩ := dst_ok r h hv ht hp
  exact ⟨_, v, m', by rw [hrun, h1], .inl rfl, h2, fr.trans h3, fun id hid => hU id (by rw [← h4]; exact hid)⟩
theorem noTips {m : Mem} {lab : Nat → Lab} {cs : List Value} {V : V} : ∀ D, datOf V = some D → TipsAt m lab D.T cs [] := fun _ _ _ h => by cases h
/-- An operation that yields a value and touches nothing. -/
theorem fin0 {nid : Nat} (r : Rel P G Γ.vars m s a.tmps) {o : Oper} {V : V} {v : Value} {u : Unit}
    (hrun : (execOp a.eval o).run P m.w = .ok (.value v) m.w) (h : runR (dstM Γ o V []) s = some (u, s')) (hv : RV P m V v) (hp : ∀ D p, V ≠ .dat D (some p)) : Goes P G Γ.vars nid m s' o a :=
  fin (.refl m) (fun _ h => .inl h) r hrun h hv noTips fun _ D p e => absurd e (hp D p)

theorem opnd_ok (hΓ : GOk P G Γ) {vars : Nat} (r : Rel P G vars m s a.tmps) {x : Operand} {V : V} (h : runR (opnd Γ x) s = some (V, s')) :
    Same s s' ∧ RV P m V (a.eval x) ∧ ∀ t, x = .tmp t → V = nthV s.slots t := by
  cases x with
  | tmp t =>
    obtain ⟨rfl, h2⟩ := getS_inv h
    exact ⟨h2, r.slots t, fun t' e => by cases e; rfl⟩
  | const c =>
    obtain ⟨rfl, rfl⟩ := ret_inv h
    refine ⟨.refl _, ?_, fun _ e => by cases e⟩
    show RV P m (constV c) c
    unfold constV
    split
    · exact .inr ⟨rfl, rfl⟩
    · rfl
    · exact .inr ⟨rfl, rfl⟩
    · rfl
    · trivial
  | global g =>
    simp only [opnd] at h
    split at h
    · rename_i d hd
      obtain ⟨rfl, rfl⟩ := ret_inv h
      exact ⟨.refl _, ⟨⟨g, 0, none⟩, rfl, rfl, r.glob g (.d d) (hΓ.glob g d hd)⟩, fun _ e => by cases e⟩
    · exact (fail_inv h).elim
  | func f =>
    obtain ⟨rfl, rfl⟩ := ret_inv h
    exact ⟨.refl _, ⟨[], rfl, rfl, fun i => by cases i <;> trivial⟩, fun _ e => by cases e⟩
theorem datD_ok {V : V} {d : D} {v : Value} (h : runR (datD V) s = some (d, s')) (hv : RV P m V v) : s' = s ∧ RepV m.w m.C d.T d.x v ∧ (V = .dat d none ∨ (∃ p, V = .dat d p) ∨ ∃ b, V = .kb b ∧ d = ⟨.bool, b⟩) := by
  cases V with
  | dat e p => obtain ⟨rfl, rfl⟩ := ret_inv h; exact ⟨rfl, hv, .inr (.inl ⟨p, rfl⟩)⟩
  | kb b =>
    obtain ⟨rfl, rfl⟩ := ret_inv h
    have : v = .bool b := hv
    subst this
    exact ⟨rfl, .inr ⟨rfl, rfl⟩, .inr (.inr ⟨b, rfl, rfl⟩)⟩
  | _ => exact (fail_inv h).elim
theorem asIntV_ok {V : V} {q : IntKind × Int} {v : Value} (h : runR (asIntV V) s = some (q, s')) (hv : RV P m V v) : s' = s ∧ v = .int q.1 q.2 := by
  unfold asIntV at h
  split at h
  · obtain ⟨rfl, rfl⟩ := ret_inv h
    refine ⟨rfl, ?_⟩
    rcases hv with ⟨h1, _⟩ | ⟨_, h2⟩
    · cases h1
    · simpa [Rep] using h2
  · exact (fail_inv h).elim
theorem RepV.int_eq {w : World} {C : Cells} {k : IntKind} {n : Int} {v : Value} (h : RepV w C (.int k) n v) : v = .int k n := by
  rcases h with ⟨h1, _⟩ | ⟨_, h2⟩
  · cases h1
  · simpa [Rep] using h2
theorem RepV.bool_eq {w : World} {C : Cells} {b : Bool} {v : Value} (h : RepV w C .bool b v) : v = .bool b := by
  rcases h with ⟨h1, _⟩ | ⟨_, h2⟩
  · cases h1
  · simpa [Rep] using h2
theorem RepV.str_eq {w : World} {C : Cells} {b : List UInt8} {v : Value} (h : RepV w C .str b v) : v = .string ⟨b.toArray⟩ := by
  rcases h with ⟨h1, _⟩ | ⟨_, h2⟩
  · cases h1
  · simpa [Rep] using h2
theorem RepV.int {w : World} {C : Cells} (k : IntKind) (n : Int) : RepV w C (.int k) n (.int k n) := .inr ⟨rfl, rfl⟩
theorem RepV.bool {w : World} {C : Cells} (b : Bool) : RepV w C .bool b (.bool b) := .inr ⟨rfl, rfl⟩
theorem RepV.str {w : World} {C : Cells} (b : List UInt8) : RepV w C .str b (.string ⟨b.toArray⟩) := .inr ⟨rfl, rfl⟩
theorem boolV_ok {V : V} {b : Bool} {v : Value} (h : runR (boolV V) s = some (b, s')) (hv : RV P m V v) : s' = s ∧ v = .bool b := by
  unfold boolV at h
  split at h
  · obtain ⟨rfl, rfl⟩ := ret_inv h; exact ⟨rfl, RepV.bool_eq hv⟩
  · obtain ⟨rfl, rfl⟩ := ret_inv h; exact ⟨rfl, hv⟩
  · exact (fail_inv h).elim
theorem chkT_inv (hΓ : GOk P G Γ) {t : TypeId} {T : Ty} {u : Unit} (h : runR (chkT Γ t T) s = some (u, s')) : TyOk P t T ∧ s' = s := by
  unfold chkT at h
  split at h
  · rename_i U hU
    split at h
    · rename_i e _
      obtain ⟨e⟩ := e
      obtain ⟨_, rfl⟩ := ret_inv h
      exact ⟨e ▸ hΓ.τ t U hU, rfl⟩
    · exact (fail_inv h).elim
  · exact (fail_inv h).elim
theorem mergeD_true {x y d : D} (h : mergeD true x y = some d) : d = x := by
  unfold mergeD at h
  split at h
  · cases h; rfl
  · cases h
theorem mergeD_false {x y d : D} (h : mergeD false x y = some d) : d = y := by
  unfold mergeD at h
  split at h
  · rename_i e _
    obtain ⟨T, x⟩ := x
    obtain ⟨U, y⟩ := y
    simp only at e
    subst e
    cases h; rfl
  · cases h
theorem kb_dat (b : Bool) (p) (hp : p = none) : VLe (.kb b) (.dat ⟨.bool, b⟩ p) :=
  ⟨fun P m v h => by have : v = .bool b := h; subst this; exact RepV.bool b, fun d' h => .inr (by simp [datOf] at h; subst h; rfl), fun d q h => by cases h; cases hp⟩
theorem dat_none (d : D) (p) : VLe (.dat d p) (.dat d none) := ⟨fun _ _ _ h => h, fun _ h => .inl h, fun _ _ h => by cases h⟩
theorem merge_true : ∀ (V W : XE.V), VLe V (mergeV true V W) := fun V W => by
  unfold mergeV
  split
  · split
    · rename_i d h; rw [mergeD_true h]; exact dat_none _ _
    · exact .bot _
  · split
    · rename_i d h; rw [mergeD_true h]; exact dat_none _ _
    · exact .bot _
  · split
    · rename_i d h; rw [mergeD_true h]; exact kb_dat _ _ rfl
    · exact .bot _
  · exact kb_dat _ _ rfl
  · split
    · rename_i d h; rw [mergeD_true h]; exact .refl _
    · exact .bot _
  · split
    · cases (Nat.beq _ _ && beqNats _ _) <;> first | exact .bot _ | exact .refl _
    · exact .bot _
  · cases Nat.beq _ _ <;> first | exact .bot _ | exact .refl _
  · exact .bot _
theorem beqNats_eq : ∀ {a b : List Nat}, beqNats a b = true → a = b
  | [], [], _ => rfl
  | x :: a, y :: b, h => by
    simp only [beqNats, Bool.and_eq_true] at h
    rw [Nat.eq_of_beq_eq_true h.1, beqNats_eq h.2]
  | [], _ :: _, h => by simp [beqNats] at h
  | _ :: _, [], h => by simp [beqNats] at h
theorem merge_false : ∀ (V W : XE.V), VLe W (mergeV false V W) := fun V W => by
  unfold mergeV
  split
  · split
    · rename_i d h; rw [mergeD_false h]; exact dat_none _ _
    · exact .bot _
  · split
    · rename_i d h; rw [mergeD_false h]; exact kb_dat _ _ rfl
    · exact .bot _
  · split
    · rename_i d h; rw [mergeD_false h]; exact dat_none _ _
    · exact .bot _
  · exact kb_dat _ _ rfl
  · split
    · rename_i d h; rw [mergeD_false h]; exact .refl _
    · exact .bot _
  · split
    · rename_i i p T j q U _ e _
      obtain ⟨e⟩ := e
      subst e
      cases h : (Nat.beq i j && beqNats p q)
      · exact .bot _
      · simp only [Bool.and_eq_true] at h
        rw [Nat.eq_of_beq_eq_true h.1, beqNats_eq h.2]
        exact .refl _
    · exact .bot _
  · rename_i i j
    cases h : Nat.beq i j
    · exact .bot _
    · rw [Nat.eq_of_beq_eq_true h]; exact .refl _
  · exact .bot _

/-! ### The operations -/
theorem move_ok (hΓ : GOk P G Γ) (r : Rel P G Γ.vars m s a.tmps) {o : Oper} {nid : Nat} {x : Operand} (ho : o.op = .move x) {u : Unit} (h : runR (evOp Γ o nid) s = some (u, s')) : Goes P G Γ.vars nid m s' o a := by
  have hrun : (execOp a.eval o).run P m.w = .ok (.value (a.eval x)) m.w := by simp [execOp, ho]
  simp only [evOp, ho] at h
  obtain ⟨V, s1, h1, h2⟩ := bind_inv h
  obtain ⟨k1, k2, k3⟩ := opnd_ok hΓ r h1
  have r1 := r.same k1
  have gen : ∀ V', (∀ D p, V' ≠ .dat D (some p)) → V = V' → runR (dstM Γ o V' []) s1 = some (u, s') → Goes P G Γ.vars nid m s' o a := fun V' hn e h => by
    subst e; exact fin0 r1 hrun h k2 hn
  cases x with
  | tmp t =>
    have hV := k3 t rfl
    cases V with
    | dat d p =>
      cases p with
      | none =>
        refine fin (.refl m) (fun _ h => .inl h) r1 hrun h2 k2 noTips fun hf D p e => ?_
        cases hb : Nat.testBit Γ.vars t with
        | false => simp [hb] at e
        | true =>
          simp [hb] at e
          obtain ⟨rfl, rfl⟩ := e
          refine ⟨rfl, hb, fun off ho e he => ?_⟩
          exact r1.stips t d (by rw [k1.slots, ← hV]; rfl) off ho e he
      | some p =>
        refine fin (.refl m) (fun _ h => .inl h) r1 hrun h2 k2 noTips fun hf D p e => ?_
        cases e
        exact r1.prov hf t _ _ (by rw [k1.slots, ← hV])
    | _ => exact gen _ (fun _ _ h => by cases h) rfl h2
  | const c =>
    refine gen V (fun D p e => ?_) rfl ?_
    · obtain ⟨e2, _⟩ := ret_inv h1
      rw [e] at e2
      unfold constV at e2
      split at e2 <;> cases e2
    · cases V with
      | dat d p => cases p <;> exact h2
      | _ => exact h2
  | global g =>
    refine gen V (fun D p e => ?_) rfl ?_
    · simp only [opnd] at h1
      split at h1
      · obtain ⟨e2, _⟩ := ret_inv h1
        rw [e] at e2; cases e2
      · exact (fail_inv h1).elim
    · cases V with
      | dat d p => cases p <;> exact h2
      | _ => exact h2
  | func f =>
    refine gen V (fun D p e => ?_) rfl ?_
    · obtain ⟨e2, _⟩ := ret_inv h1
      rw [e] at e2; cases e2
    · cases V with
      | dat d p => cases p <;> exact h2
      | _ => exact h2
end
end Go.XE
