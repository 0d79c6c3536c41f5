/- Part 2 of the proof. -/
import Derived.Test.YtnmkgbomiillgaaGreatDoorP01
import Derived.Orders
import Derived.Laws.AppendOwn
/- How the evaluator's data lie in the model's memory. -/
namespace Go.XE

abbrev Cells := Nat → Nat → Prop
def cellsAt (w : World) (b o : Nat) (vs : List Value) : Prop := ∀ j v, vs[j]? = some v → w.cell? ⟨b, o + j, none⟩ = some v

/-- The cells of a datum; what stands behind slices stands in cells of C. -/
def Rep (w : World) (C : Cells) : (T : Ty) → den T → List Value → Prop
  | .int k, n, vs => vs = [.int k n]
  | .bool, b, vs => vs = [.bool b]
  | .str, s, vs => vs = [.string ⟨s.toArray⟩]
  | .unit, _, vs => vs = []
  | .pair a b, x, vs => ∃ u v, vs = u ++ v ∧ Rep w C a x.1 u ∧ Rep w C b x.2 v
  | .sl e, xs, vs => ∃ p cap, vs = [.slice p (List.length (α := den e) xs) cap] ∧ List.length (α := den e) xs ≤ cap ∧ (p = none → cap = 0) ∧
      ∀ a, p = some a → (0 < cap → a.spot = none) ∧ ∀ i y, (xs : List (den e))[i]? = some y →
        ∃ us, cellsAt w a.block (a.off + i * e.size) us ∧ (∀ j, j < e.size → C a.block (a.off + i * e.size + j)) ∧ Rep w C e y us
def RepV (w : World) (C : Cells) (T : Ty) (x : den T) (v : Value) : Prop :=
  (T.isSt = true ∧ ∃ cs, v = .agg cs ∧ Rep w C T x cs.toList) ∨ (T.isSt = false ∧ Rep w C T x [v])
def RepT (w : World) (C : Cells) : (T : Ty) → den T → List Value → Prop
  | .unit, _, vs => vs = []
  | .pair a b, x, vs => ∃ v r, vs = v :: r ∧ RepV w C a x.1 v ∧ RepT w C b x.2 r
  | _, _, _ => False

/-- Cells of 'S' stay as they are, and what blocks there are stay what they are. -/
structure Pre (S : Cells) (w w' : World) : Prop where
  size : w.heap.size ≤ w'.heap.size
  cells : ∀ (b : Nat) c e f, w.heap[b]? = some (.cells c e f) → ∃ c', w'.heap[b]? = some (.cells c' e f) ∧ c'.size = c.size ∧ ∀ j, S b j → c'[j]? = c[j]?
  other : ∀ (b : Nat) (o : Go.Obj), w.heap[b]? = some o → (∀ c e f, o ≠ Go.Obj.cells c e f) → w'.heap[b]? = some o
  out : w'.os = w.os ∧ w'.output = w.output

theorem Pre.refl (S : Cells) (w : World) : Pre S w w := ⟨Nat.le_refl _, fun _ c _ _ h => ⟨c, h, rfl, fun _ _ => rfl⟩, fun _ _ h _ => h, rfl, rfl⟩
theorem Pre.trans {S T : Cells} {w w' w'' : World} (h : Pre S w w') (h' : Pre T w' w'') (hs : ∀ b j, b < w.heap.size → S b j → T b j) : Pre S w w'' := {
  size := Nat.le_trans h.size h'.size
  cells b c e f hb := by
    obtain ⟨c', h1, h2, h3⟩ := h.cells b c e f hb
    obtain ⟨c'', k1, k2, k3⟩ := h'.cells b c' e f h1
    have hlt : b < w.heap.size := (Array.getElem?_eq_some_iff.1 hb).1
    exact ⟨c'', k1, k2.trans h2, fun j hj => (k3 j (hs b j hlt hj)).trans (h3 j hj)⟩
  other b o hb ho := h'.other b o (h.other b o hb ho) ho
  out := ⟨h'.out.1.trans h.out.1, h'.out.2.trans h.out.2⟩ }
theorem Pre.mono {S T : Cells} {w w' : World} (h : Pre S w w') (hs : ∀ b j, b < w.heap.size → T b j → S b j) : Pre T w w' := {
  size := h.size
  cells b c e f hb := by
    obtain ⟨c', h1, h2, h3⟩ := h.cells b c e f hb
    exact ⟨c', h1, h2, fun j hj => h3 j (hs b j (Array.getElem?_eq_some_iff.1 hb).1 hj)⟩
  other := h.other
  out := h.out }
theorem Pre.cell {S : Cells} {w w' : World} (h : Pre S w w') {b j : Nat} {v : Value} (hc : w.cell? ⟨b, j, none⟩ = some v) (hs : S b j) : w'.cell? ⟨b, j, none⟩ = some v := by
  unfold World.cell? at hc ⊢
  cases hb : w.heap[b]? with
  | none => simp [hb] at hc
  | some o =>
    cases o with
    | cells c e f =>
      obtain ⟨c', h1, _, h3⟩ := h.cells b c e f hb
      simp [hb] at hc
      simp [h1, h3 j hs, hc]
    | _ => simp [hb] at hc
theorem Pre.heap_of_all {w w' : World} (h : Pre (fun _ _ => True) w w') {b : Nat} {c : Array Value} {e : TypeId} {f : Nat × Nat} (hb : w.heap[b]? = some (.cells c e f)) : w'.heap[b]? = some (.cells c e f) := by
  obtain ⟨c', h1, h2, h3⟩ := h.cells b c e f hb
  have : c' = c := Array.ext_getElem? fun j => h3 j trivial
  rw [this] at h1; exact h1

theorem Rep.len {w : World} {C : Cells} : ∀ {T : Ty} {x : den T} {vs : List Value}, Rep w C T x vs → vs.length = T.size
  | .int _, _, _, h => by simp only [Rep] at h; subst h; rfl
  | .bool, _, _, h => by simp only [Rep] at h; subst h; rfl
  | .str, _, _, h => by simp only [Rep] at h; subst h; rfl
  | .unit, _, _, h => by simp only [Rep] at h; subst h; rfl
  | .sl _, _, _, h => by simp only [Rep] at h; obtain ⟨p, cap, rfl, _⟩ := h; rfl
  | .pair a b, x, vs, h => by
    simp only [Rep] at h
    obtain ⟨u, v, rfl, h1, h2⟩ := h
    have e1 := Rep.len h1
    have e2 := Rep.len h2
    simp [e1, e2, Ty.size]
theorem Rep.one {w : World} {C : Cells} : ∀ {T : Ty} {x : den T} {vs : List Value}, Rep w C T x vs → ∀ v ∈ vs, v.oneCell' = true
  | .int _, _, _, h => by simp only [Rep] at h; subst h; simp [Value.oneCell']
  | .bool, _, _, h => by simp only [Rep] at h; subst h; simp [Value.oneCell']
  | .str, _, _, h => by simp only [Rep] at h; subst h; simp [Value.oneCell']
  | .unit, _, _, h => by simp only [Rep] at h; subst h; simp
  | .sl _, _, _, h => by simp only [Rep] at h; obtain ⟨p, cap, rfl, _⟩ := h; simp [Value.oneCell']
  | .pair a b, x, vs, h => by
    simp only [Rep] at h
    obtain ⟨u, v, rfl, h1, h2⟩ := h
    intro y hy
    rcases List.mem_append.1 hy with hy | hy
    · exact Rep.one h1 y hy
    · exact Rep.one h2 y hy
theorem cellsAt.mono {w w' : World} {S : Cells} (hp : Pre S w w') {b o : Nat} {vs : List Value} (h : cellsAt w b o vs) (hs : ∀ j, j < vs.length → S b (o + j)) : cellsAt w' b o vs :=
  fun j v hv => hp.cell (h j v hv) (hs j (List.getElem?_eq_some_iff.1 hv).1)
theorem Rep.mono {w w' : World} {C C' : Cells} (hp : Pre C w w') (hc : ∀ b j, C b j → C' b j) : ∀ {T : Ty} {x : den T} {vs : List Value}, Rep w C T x vs → Rep w' C' T x vs
  | .int _, _, _, h => h
  | .bool, _, _, h => h
  | .str, _, _, h => h
  | .unit, _, _, h => h
  | .sl e, xs, vs, h => by
    simp only [Rep] at h ⊢
    obtain ⟨p, cap, rfl, h1, h2, h3⟩ := h
    refine ⟨p, cap, rfl, h1, h2, fun a ha => ⟨(h3 a ha).1, fun i y hy => ?_⟩⟩
    obtain ⟨us, k1, k2, k3⟩ := (h3 a ha).2 i y hy
    exact ⟨us, k1.mono hp fun j hj => k2 j (k3.len ▸ hj), fun j hj => hc _ _ (k2 j hj), Rep.mono hp hc k3⟩
  | .pair a b, x, vs, h => by
    simp only [Rep] at h ⊢
    obtain ⟨u, v, rfl, h1, h2⟩ := h
    exact ⟨u, v, rfl, Rep.mono hp hc h1, Rep.mono hp hc h2⟩
theorem RepV.mono {w w' : World} {C C' : Cells} (hp : Pre C w w') (hc : ∀ b j, C b j → C' b j) {T : Ty} {x : den T} {v : Value} (h : RepV w C T x v) : RepV w' C' T x v := by
  rcases h with ⟨h1, cs, rfl, h2⟩ | ⟨h1, h2⟩
  · exact .inl ⟨h1, cs, rfl, h2.mono hp hc⟩
  · exact .inr ⟨h1, h2.mono hp hc⟩
theorem RepT.mono {w w' : World} {C C' : Cells} (hp : Pre C w w') (hc : ∀ b j, C b j → C' b j) : ∀ {T : Ty} {x : den T} {vs : List Value}, RepT w C T x vs → RepT w' C' T x vs
  | .unit, _, _, h => h
  | .pair a b, x, vs, h => by
    simp only [RepT] at h ⊢
    obtain ⟨v, r, rfl, h1, h2⟩ := h
    exact ⟨v, r, rfl, h1.mono hp hc, RepT.mono hp hc h2⟩
  | .int _, _, _, h => h.elim
  | .bool, _, _, h => h.elim
  | .str, _, _, h => h.elim
  | .sl _, _, _, h => h.elim
/-- A datum of which no cell holds a slice stands nowhere else. -/
theorem Rep.noSl {w w' : World} {C C' : Cells} : ∀ {T : Ty} {x : den T} {vs : List Value}, noSl T = true → Rep w C T x vs → Rep w' C' T x vs
  | .int _, _, _, _, h => h
  | .bool, _, _, _, h => h
  | .str, _, _, _, h => h
  | .unit, _, _, _, h => h
  | .sl _, _, _, hn, _ => by simp [XE.noSl] at hn
  | .pair a b, x, vs, hn, h => by
    simp only [XE.noSl, Bool.and_eq_true] at hn
    simp only [Rep] at h ⊢
    obtain ⟨u, v, rfl, h1, h2⟩ := h
    exact ⟨u, v, rfl, Rep.noSl hn.1 h1, Rep.noSl hn.2 h2⟩
theorem Rep.cells {w : World} {C : Cells} {T : Ty} {x : den T} {v : Value} (h : RepV w C T x v) : Rep w C T x v.cells.toList := by
  rcases h with ⟨_, cs, rfl, h2⟩ | ⟨h1, h2⟩
  · exact h2
  · cases T <;> simp only [Rep, Ty.isSt] at h1 h2 <;> first | (cases h1; done) | (obtain ⟨p, cap, h2, rest⟩ := h2; cases h2; exact ⟨p, cap, rfl, rest⟩) | (cases h2; rfl)
end Go.XE
/- What a state of the evaluator says of a frame and of the memory, and how that is kept. -/
namespace Go.XE

inductive Lab where
  | no
  | obj (id : Nat)
  | ts (n off : Nat)
  | to (id off : Nat)
  | fl (k off : Nat)
structure AD where
  b : Nat
  o : Nat
  n : Nat
  T : Ty
/-- 'C': cells that stay; 'K': cells that this call doesn't write; 'L': to whom a block belongs; 'ad': where a local object lies; 'U': the numbers of objects that have been given. -/
structure Mem where
  w : World
  C : Cells
  K : Cells
  L : Nat → Lab
  ad : Nat → AD
  U : Nat → Prop

def tipTy : Ty → Nat → Option Ty
  | .sl e, 0 => some e
  | .pair a b, off => if off < a.size then tipTy a off else tipTy b (off - a.size)
  | _, _ => none
def tcells : Value → List Value
  | .tuple vs => vs.toList.flatMap (·.cells.toList)
  | v => v.cells.toList
def TipAt (m : Mem) (l : Lab) (e : Ty) (v : Value) : Prop :=
  v = .slice none 0 0 ∨ ∃ b n cap cur et, v = .slice (some ⟨b, 0, none⟩) n cap ∧ m.L b = l ∧ m.w.heap[b]? = some (Go.Obj.cells cur et (0, 0)) ∧ n ≤ cap ∧ cap * e.size ≤ cur.size ∧
    ∀ j, n * e.size ≤ j → ¬ m.C b j ∧ ¬ m.K b j
def TipsAt (m : Mem) (lab : Nat → Lab) (T : Ty) (cs : List Value) (ts : List Nat) : Prop :=
  ∀ off, off ∈ ts → ∀ e, tipTy T off = some e → ∃ v, cs[off]? = some v ∧ TipAt m (lab off) e v
def PAt (m : Mem) (d : D) (b o : Nat) : Prop := ∃ vs, cellsAt m.w b o vs ∧ Rep m.w m.C d.T d.x vs ∧ ∀ j, j < d.T.size → m.C b (o + j) ∨ m.K b (o + j)
def PtrTo (m : Mem) (d : D) (v : Value) : Prop := ∃ a : Addr, v = .pointer (some a) ∧ a.spot = none ∧ PAt m d a.block a.off
def BPtr (m : Mem) (id : Nat) (p : List Nat) (T : Ty) (v : Value) : Prop :=
  m.U id ∧ ∃ o, pathOff (m.ad id).T p = some (o, T) ∧ v = .pointer (some ⟨(m.ad id).b, (m.ad id).o + o, none⟩)
/-- A function that is called by its number. -/
def Enter (P : Program) (f : FuncId) : Prop := ∃ fn, P.funcs[f]? = some fn ∧ fn.body.isSome = true ∧ (fn.name == "runtime.NumGoroutine") = false
def FunOk (P : Program) (m : Mem) (A R : Ty) (g : den A → Option (den R)) (v : Value) : Prop :=
  ∃ f caps, v = .func (.func f) #[] caps ∧ Enter P f ∧ ∀ w' (C' : Cells), Pre (fun b j => m.C b j ∨ m.K b j) m.w w' → (∀ b j, m.C b j → C' b j) → (∀ b j, C' b j → b < w'.heap.size) →
    ∀ x vx y, RepV w' C' A x vx → g x = some y → Calls P f (#[vx] ++ caps) w' fun e w'' => ∃ u C'', e = .returned u ∧ Pre (fun _ _ => True) w' w'' ∧
      (∀ b j, C' b j → C'' b j) ∧ (∀ b j, C'' b j → b < w''.heap.size) ∧ (∀ b j, C'' b j → b < w'.heap.size → C' b j) ∧ RepV w'' C'' R y u
def RV0 (P : Program) (m : Mem) : V → Value → Prop
  | .bot, _ => True
  | .und, v => v = undef
  | .nilsl, v => v = .slice none 0 0
  | .kb b, v => v = .bool b
  | .dat d _, v => RepV m.w m.C d.T d.x v
  | .rp d, v => PtrTo m d v
  | .pv d, v => ∃ (a : Addr) (u : Value), v = .pointer (some a) ∧ a.spot = none ∧ m.w.cell? ⟨a.block, a.off, none⟩ = some u ∧ (m.C a.block a.off ∨ m.K a.block a.off) ∧ PtrTo m d u
  | .bp id p T, v => BPtr m id p T v
  | .ep id i p T, v => m.U id ∧ 0 ≤ i ∧ i < (m.ad id).n ∧ ∃ o, pathOff (m.ad id).T p = some (o, T) ∧ v = .pointer (some ⟨(m.ad id).b, i.toNat * (m.ad id).T.size + o, none⟩)
  | .own id, v => m.U id ∧ v = .slice (some ⟨(m.ad id).b, 0, none⟩) (m.ad id).n (m.ad id).n
  | .fn _ _, _ => False
  | .fun1 A R g, v => FunOk P m A R g v
  | .tup d, v => ∃ vs, v = .tuple vs ∧ RepT m.w m.C d.T d.x vs.toList
def RV (P : Program) (m : Mem) : V → Value → Prop
  | .fn f caps, v => ∃ vs : List Value, v = .func (.func f) #[] vs.toArray ∧ vs.length = caps.length ∧ ∀ i, RV0 P m (nthV caps i) (vs.getD i undef)
  | V, v => RV0 P m V v
def datOf : V → Option D
  | .dat d _ => some d
  | .tup d => some d
  | _ => none
def ObjOk (m : Mem) (id : Nat) : Obj → Prop
  | .box d => (m.ad id).T = d.T ∧ m.L (m.ad id).b = .obj id ∧ ∃ cur et vs, m.w.heap[(m.ad id).b]? = some (Go.Obj.cells cur et (0, 0)) ∧ (m.ad id).o + d.T.size ≤ cur.size ∧
      cellsAt m.w (m.ad id).b (m.ad id).o vs ∧ Rep m.w m.C d.T d.x vs ∧ ∀ j, j < d.T.size → ¬ m.C (m.ad id).b ((m.ad id).o + j) ∧ ¬ m.K (m.ad id).b ((m.ad id).o + j)
  | .vrp d => m.L (m.ad id).b = .obj id ∧ (m.ad id).T = .unit ∧ ∃ u, m.w.cell? ⟨(m.ad id).b, (m.ad id).o, none⟩ = some u ∧ PtrTo m d u
  | .vbp j p T => m.L (m.ad id).b = .obj id ∧ (m.ad id).T = .unit ∧ ∃ u, m.w.cell? ⟨(m.ad id).b, (m.ad id).o, none⟩ = some u ∧ BPtr m j p T u
  | .arr e xs fr => (m.ad id).T = e ∧ (m.ad id).n = xs.length ∧ m.L (m.ad id).b = .obj id ∧ 0 < e.size ∧ (∀ j, ¬ m.K (m.ad id).b j) ∧ (fr = false → ∀ j, ¬ m.C (m.ad id).b j) ∧
      ∃ cur et, m.w.heap[(m.ad id).b]? = some (Go.Obj.cells cur et (0, 0)) ∧ cur.size = xs.length * e.size ∧ ∀ i y, xs[i]? = some y → ∃ us, cellsAt m.w (m.ad id).b (i * e.size) us ∧ Rep m.w m.C e y us
def ProvOk (vars : Nat) (m : Mem) (s : St) (d : D) (cs : List Value) : Place → Prop
  | .slot k o => o = 0 ∧ Nat.testBit vars k = true ∧ ∀ off, off ∈ nthT s.stips k → ∀ e, tipTy d.T off = some e → ∃ v, cs[off]? = some v ∧ TipAt m (.ts k off) e v
  | .box i o => m.U i ∧ ∀ off, off ∈ lookT i s.otips → o ≤ off → off < o + d.T.size → ∀ e, tipTy d.T (off - o) = some e → ∃ v, cs[off - o]? = some v ∧ TipAt m (.to i off) e v
/-- What is known of a package-level variable: a datum, or all of its block. -/
inductive GV where
  | d (d : D)
  | c (vs : List Value)
  | o (o : Go.Obj)
def GAt (m : Mem) : GV → Nat → Prop
  | .d d, g => PAt m d g 0
  | .c vs, g => cellsAt m.w g 0 vs ∧ ∀ j, j < vs.length → m.C g j ∨ m.K g j
  | .o o, g => m.w.heap[g]? = some o ∧ ∀ j, m.C g j ∨ m.K g j
structure Rel (P : Program) (G : Nat → Option GV) (vars : Nat) (m : Mem) (s : St) (tm : Array Value) : Prop where
  bC : ∀ b j, m.C b j → b < m.w.heap.size
  bK : ∀ b j, m.K b j → b < m.w.heap.size
  bL : ∀ b, m.L b ≠ .no → b < m.w.heap.size
  glob : ∀ g d, G g = some d → GAt m d g
  len : s.slots.length ≤ tm.size
  slots : ∀ n, RV P m (nthV s.slots n) (tm.getD n undef)
  stips : ∀ n d, datOf (nthV s.slots n) = some d → TipsAt m (.ts n) d.T (tcells (tm.getD n undef)) (nthT s.stips n)
  objs : ∀ id o, lookObj id s.objs = some o → m.U id ∧ ObjOk m id o
  otips : ∀ id d, lookObj id s.objs = some (.box d) → ∀ off, off ∈ lookT id s.otips → ∀ e, tipTy d.T off = some e →
    ∃ v, m.w.cell? ⟨(m.ad id).b, (m.ad id).o + off, none⟩ = some v ∧ TipAt m (.to id off) e v
  prov : s.fresh = true → ∀ n d p, nthV s.slots n = .dat d (some p) → ProvOk vars m s d (tcells (tm.getD n undef)) p

/-- The memory moves on: what is cold or not ours stays. -/
structure Mem.To (m m' : Mem) : Prop where
  pre : Pre (fun b j => m.C b j ∨ m.K b j) m.w m'.w
  C : ∀ b j, m.C b j → m'.C b j
  K : m'.K = m.K
  ad : ∀ id, m.U id → m'.ad id = m.ad id
  U : ∀ id, m.U id → m'.U id
theorem Mem.To.refl (m : Mem) : m.To m := ⟨.refl _ _, fun _ _ h => h, rfl, fun _ _ => rfl, fun _ h => h⟩
theorem Mem.To.rep {m m' : Mem} (h : m.To m') {T : Ty} {x : den T} {vs : List Value} (r : Rep m.w m.C T x vs) : Rep m'.w m'.C T x vs :=
  r.mono (h.pre.mono fun _ _ _ hc => .inl hc) h.C
theorem Mem.To.repV {m m' : Mem} (h : m.To m') {T : Ty} {x : den T} {v : Value} (r : RepV m.w m.C T x v) : RepV m'.w m'.C T x v :=
  r.mono (h.pre.mono fun _ _ _ hc => .inl hc) h.C
theorem Mem.To.repT {m m' : Mem} (h : m.To m') {T : Ty} {x : den T} {vs : List Value} (r : RepT m.w m.C T x vs) : RepT m'.w m'.C T x vs :=
  r.mono (h.pre.mono fun _ _ _ hc => .inl hc) h.C
theorem PAt.to {m m' : Mem} (h : m.To m') {d : D} {b o : Nat} (r : PAt m d b o) : PAt m' d b o := by
  obtain ⟨vs, h1, h2, h3⟩ := r
  refine ⟨vs, h1.mono h.pre fun j hj => h3 j (h2.len ▸ hj), h.rep h2, fun j hj => ?_⟩
  rcases h3 j hj with hc | hk
  · exact .inl (h.C _ _ hc)
  · exact .inr (by rw [h.K]; exact hk)
theorem Pre.heap {S : Cells} {w w' : World} (h : Pre S w w') {b : Nat} (hb : b < w.heap.size) (hs : ∀ j, S b j) : w'.heap[b]? = w.heap[b]? := by
  have hg : w.heap[b]? = some w.heap[b] := by simp [hb]
  cases ho : w.heap[b] with
  | cells c e f =>
    rw [ho] at hg
    obtain ⟨c', h1, h2, h3⟩ := h.cells b c e f hg
    have : c' = c := Array.ext_getElem? fun j => h3 j (hs j)
    rw [h1, hg, this]
  | _ =>
    rw [ho] at hg
    rw [h.other b _ hg (fun _ _ _ e => by cases e), hg]
theorem GAt.to {m m' : Mem} (h : m.To m') : ∀ {v : GV} {g : Nat}, GAt m v g → GAt m' v g
  | .d _, _, r => PAt.to h r
  | .c _, _, r => ⟨r.1.mono h.pre fun j hj => by rw [Nat.zero_add]; exact r.2 j hj, fun j hj => (r.2 j hj).imp (h.C _ _) fun k => by rw [h.K]; exact k⟩
  | .o _, g, r => ⟨(h.pre.heap (Array.getElem?_eq_some_iff.1 r.1).1 r.2).trans r.1, fun j => (r.2 j).imp (h.C _ _) fun k => by rw [h.K]; exact k⟩
theorem PtrTo.to {m m' : Mem} (h : m.To m') {d : D} {v : Value} (r : PtrTo m d v) : PtrTo m' d v := by
  obtain ⟨a, h1, h2, h3⟩ := r
  exact ⟨a, h1, h2, h3.to h⟩
theorem BPtr.to {m m' : Mem} (h : m.To m') {id : Nat} {p : List Nat} {T : Ty} {v : Value} (r : BPtr m id p T v) : BPtr m' id p T v := by
  obtain ⟨h1, o, h2, h3⟩ := r
  refine ⟨h.U _ h1, o, ?_, ?_⟩ <;> rw [h.ad _ h1]
  · exact h2
  · exact h3
theorem FunOk.to {P : Program} {m m' : Mem} (h : m.To m') {A R : Ty} {g : den A → Option (den R)} {v : Value} (r : FunOk P m A R g v) : FunOk P m' A R g v := by
  obtain ⟨f, caps, h1, h2, h3⟩ := r
  refine ⟨f, caps, h1, h2, fun w' C' hp hc hb x vx y hx hg => h3 w' C' ?_ (fun b j hj => hc b j (h.C b j hj)) hb x vx y hx hg⟩
  exact h.pre.trans hp fun b j _ hs => hs.elim (fun a => .inl (h.C _ _ a)) fun a => .inr (by rw [h.K]; exact a)
theorem RV0.to {P : Program} {m m' : Mem} (h : m.To m') : ∀ {V : V} {v : Value}, RV0 P m V v → RV0 P m' V v
  | .bot, _, _ => trivial
  | .und, _, r => r
  | .nilsl, _, r => r
  | .kb _, _, r => r
  | .dat _ _, _, r => h.repV r
  | .rp _, _, r => PtrTo.to h r
  | .pv _, _, r => by
    obtain ⟨a, u, h1, h2, h3, h4, h5⟩ := r
    refine ⟨a, u, h1, h2, h.pre.cell h3 h4, ?_, h5.to h⟩
    rcases h4 with hc | hk
    · exact .inl (h.C _ _ hc)
    · exact .inr (by rw [h.K]; exact hk)
  | .bp _ _ _, _, r => BPtr.to h r
  | .ep _ _ _ _, _, r => by
    obtain ⟨h1, h2, h3, h4⟩ := r
    refine ⟨h.U _ h1, h2, ?_⟩
    rw [h.ad _ h1]
    exact ⟨h3, h4⟩
  | .own _, _, r => by
    obtain ⟨h1, h2⟩ := r
    exact ⟨h.U _ h1, by rw [h.ad _ h1]; exact h2⟩
  | .fn _ _, _, r => r.elim
  | .fun1 _ _ _, _, r => FunOk.to h r
  | .tup _, _, r => by
    obtain ⟨vs, h1, h2⟩ := r
    exact ⟨vs, h1, h.repT h2⟩
theorem RV.to {P : Program} {m m' : Mem} (h : m.To m') {V : V} {v : Value} (r : RV P m V v) : RV P m' V v := by
  cases V with
  | fn f caps =>
    obtain ⟨vs, h1, h2, h3⟩ := r
    exact ⟨vs, h1, h2, fun i => (h3 i).to h⟩
  | _ => simp only [RV] at r ⊢; exact r.to h
/-- A label that a state names. -/
def Live (s : St) : Lab → Prop
  | .obj id => lookObj id s.objs ≠ none
  | .ts n off => off ∈ nthT s.stips n
  | .to id off => off ∈ lookT id s.otips
  | _ => False
/-- The memory moves on, and what block a state names is not touched. -/
structure Mem.Keeps (m m' : Mem) (Λ : Lab → Prop) : Prop extends m.To m' where
  bC : ∀ b j, m'.C b j → b < m'.w.heap.size
  bL : ∀ b, m'.L b ≠ .no → b < m'.w.heap.size
  live : ∀ b, Λ (m.L b) → m'.L b = m.L b ∧ m'.w.heap[b]? = m.w.heap[b]? ∧ ∀ j, m'.C b j → m.C b j
theorem TipAt.to {m m' : Mem} {Λ : Lab → Prop} (h : m.Keeps m' Λ) {l : Lab} (hl : Λ l) {e : Ty} {v : Value} (r : TipAt m l e v) : TipAt m' l e v := by
  rcases r with r | ⟨b, n, cap, cur, et, h1, h2, h3, h4, h5, h6⟩
  · exact .inl r
  · have hk := h.live b (h2 ▸ hl)
    refine .inr ⟨b, n, cap, cur, et, h1, hk.1.trans h2, hk.2.1.trans h3, h4, h5, fun j hj => ⟨fun hc => (h6 j hj).1 (hk.2.2 j hc), ?_⟩⟩
    rw [h.K]
    exact (h6 j hj).2
theorem cell_of_heap {w w' : World} {b j : Nat} (h : w'.heap[b]? = w.heap[b]?) : w'.cell? ⟨b, j, none⟩ = w.cell? ⟨b, j, none⟩ := by simp [World.cell?, h]
theorem ObjOk.to {m m' : Mem} {Λ : Lab → Prop} (h : m.Keeps m' Λ) {id : Nat} (hu : m.U id) (hl : Λ (.obj id)) : ∀ {o : Obj}, ObjOk m id o → ObjOk m' id o
  | .box d, r => by
    obtain ⟨h1, h2, cur, et, vs, h3, h4, h5, h6, h7⟩ := r
    have hk := h.live (m.ad id).b (h2 ▸ hl)
    simp only [ObjOk, h.ad _ hu, h.K]
    exact ⟨h1, hk.1.trans h2, cur, et, vs, hk.2.1.trans h3, h4, fun j v hv => (cell_of_heap hk.2.1).trans (h5 j v hv), h.toTo.rep h6, fun j hj => ⟨fun hc => (h7 j hj).1 (hk.2.2 _ hc), (h7 j hj).2⟩⟩
  | .vrp d, r => by
    obtain ⟨h1, h2, u, h3, h4⟩ := r
    have hk := h.live (m.ad id).b (h1 ▸ hl)
    simp only [ObjOk, h.ad _ hu]
    exact ⟨hk.1.trans h1, h2, u, (cell_of_heap hk.2.1).trans h3, h4.to h.toTo⟩
  | .vbp j p T, r => by
    obtain ⟨h1, h2, u, h3, h4⟩ := r
    have hk := h.live (m.ad id).b (h1 ▸ hl)
    simp only [ObjOk, h.ad _ hu]
    exact ⟨hk.1.trans h1, h2, u, (cell_of_heap hk.2.1).trans h3, h4.to h.toTo⟩
  | .arr e xs fr, r => by
    obtain ⟨h1, h2, h3, h4, h5, h6, cur, et, h7, h8, h9⟩ := r
    have hk := h.live (m.ad id).b (h3 ▸ hl)
    simp only [ObjOk, h.ad _ hu, h.K]
    refine ⟨h1, h2, hk.1.trans h3, h4, h5, fun hf j hc => h6 hf j (hk.2.2 j hc), cur, et, hk.2.1.trans h7, h8, fun i y hy => ?_⟩
    obtain ⟨us, k1, k2⟩ := h9 i y hy
    exact ⟨us, fun j v hv => (cell_of_heap hk.2.1).trans (k1 j v hv), h.toTo.rep k2⟩
theorem Rel.move {P : Program} {G : Nat → Option GV} {vars : Nat} {m m' : Mem} {s : St} {tm : Array Value} (r : Rel P G vars m s tm) (h : m.Keeps m' (Live s)) : Rel P G vars m' s tm := {
  bC := h.bC
  bK b j hk := by rw [h.K] at hk; exact Nat.lt_of_lt_of_le (r.bK b j hk) h.pre.size
  bL := h.bL
  glob g d hg := (r.glob g d hg).to h.toTo
  len := r.len
  slots n := (r.slots n).to h.toTo
  stips n d hd off ho e he := by
    obtain ⟨v, h1, h2⟩ := r.stips n d hd off ho e he
    exact ⟨v, h1, h2.to h (show Live s (.ts n off) from ho)⟩
  objs id o ho := ⟨h.U _ (r.objs id o ho).1, (r.objs id o ho).2.to h (r.objs id o ho).1 (by simp [Live, ho])⟩
  otips id d hd off ho e he := by
    obtain ⟨v, h1, h2⟩ := r.otips id d hd off ho e he
    have hu := (r.objs id _ hd).1
    have hl : m.L (m.ad id).b = .obj id := (r.objs id _ hd).2.2.1
    have hk := h.live (m.ad id).b (by rw [hl]; simp [Live, hd])
    rw [h.ad _ hu]
    exact ⟨v, (cell_of_heap hk.2.1).trans h1, h2.to h (show Live s (.to id off) from ho)⟩
  prov hf n d p hp := by
    have q := r.prov hf n d p hp
    cases p with
    | slot k o =>
      refine ⟨q.1, q.2.1, fun off ho e he => ?_⟩
      obtain ⟨v, h1, h2⟩ := q.2.2 off ho e he
      exact ⟨v, h1, h2.to h (show Live s (.ts k off) from ho)⟩
    | box i o =>
      refine ⟨h.U _ q.1, fun off ho h1 h2 e he => ?_⟩
      obtain ⟨v, k1, k2⟩ := q.2 off ho h1 h2 e he
      exact ⟨v, k1, k2.to h (show Live s (.to i off) from ho)⟩ }
end Go.XE
/- Steps of the memory and of the state under 'Rel'. -/
namespace Go.XE

theorem nbeq {a b : Nat} (h : ¬ a = b) : Nat.beq a b = false := by
  cases e : Nat.beq a b
  · rfl
  · exact absurd (Nat.eq_of_beq_eq_true e) h
theorem nthV_setV : ∀ (l : List V) (n : Nat) (x : V) (k : Nat), nthV (setV l n x) k = if k = n ∧ n < l.length then x else nthV l k
  | [], n, x, k => by simp [setV, nthV]
  | v :: r, 0, x, 0 => by simp [setV, nthV]
  | v :: r, 0, x, k + 1 => by simp [setV, nthV]
  | v :: r, n + 1, x, 0 => by simp [setV, nthV]
  | v :: r, n + 1, x, k + 1 => by simp [setV, nthV, nthV_setV r n x k]
theorem length_setV : ∀ (l : List V) (n : Nat) (x : V), (setV l n x).length = l.length
  | [], _, _ => rfl
  | _ :: _, 0, _ => rfl
  | v :: r, n + 1, x => by simp [setV, length_setV r n x]
theorem nthT_setT : ∀ (l : List (List Nat)) (n : Nat) (x : List Nat) (k : Nat), nthT (setT l n x) k = if k = n ∧ n < l.length then x else nthT l k
  | [], n, x, k => by simp [setT, nthT]
  | v :: r, 0, x, 0 => by simp [setT, nthT]
  | v :: r, 0, x, k + 1 => by simp [setT, nthT]
  | v :: r, n + 1, x, 0 => by simp [setT, nthT]
  | v :: r, n + 1, x, k + 1 => by simp [setT, nthT, nthT_setT r n x k]
theorem nthV_of_le : ∀ (l : List V) (n : Nat), l.length ≤ n → nthV l n = .bot
  | [], _, _ => rfl
  | _ :: r, n + 1, h => nthV_of_le r n (by simpa using h)
  | _ :: _, 0, h => by simp at h
theorem nthT_of_le : ∀ (l : List (List Nat)) (n : Nat), l.length ≤ n → nthT l n = []
  | [], _, _ => rfl
  | _ :: r, n + 1, h => nthT_of_le r n (by simpa using h)
  | _ :: _, 0, h => by simp at h
theorem lookObj_setObj : ∀ (l : List (Nat × Option Obj)) (i : Nat) (x : Option Obj) (k : Nat), lookObj k (setObj i x l) = if k = i then x else lookObj k l
  | [], i, x, k => by
    by_cases h : i = k
    · subst h; simp [setObj, lookObj]
    · have : Nat.beq i k = false := nbeq h
      simp [setObj, lookObj, this, Ne.symm h]
  | (j, o) :: r, i, x, k => by
    by_cases hj : j = i
    · subst hj
      by_cases h : j = k
      · subst h; simp [setObj, lookObj]
      · have : Nat.beq j k = false := nbeq h
        simp [setObj, lookObj, this, Ne.symm h]
    · have e : Nat.beq j i = false := nbeq hj
      by_cases h : j = k
      · subst h; simp [setObj, lookObj, e, hj]
      · have : Nat.beq j k = false := nbeq h
        simp [setObj, lookObj, e, this, lookObj_setObj r i x k]
theorem lookT_setTips : ∀ (l : List (Nat × List Nat)) (i : Nat) (x : List Nat) (k : Nat), lookT k (setTips i x l) = if k = i then x else lookT k l
  | [], i, x, k => by
    by_cases h : i = k
    · subst h; simp [setTips, lookT]
    · have : Nat.beq i k = false := nbeq h
      simp [setTips, lookT, this, Ne.symm h]
  | (j, o) :: r, i, x, k => by
    by_cases hj : j = i
    · subst hj
      by_cases h : j = k
      · subst h; simp [setTips, lookT]
      · have : Nat.beq j k = false := nbeq h
        simp [setTips, lookT, this, Ne.symm h]
    · have e : Nat.beq j i = false := nbeq hj
      by_cases h : j = k
      · subst h; simp [setTips, lookT, e, hj]
      · have : Nat.beq j k = false := nbeq h
        simp [setTips, lookT, e, this, lookT_setTips r i x k]

/-! ### From the memory at one time to that at a later one -/
structure Fr (m m' : Mem) : Prop where
  to : m.To m'
  gC : ∀ b j, m'.C b j → b < m.w.heap.size → m.C b j ∨ ¬ m.K b j
  no : ∀ b, b < m.w.heap.size → m.L b = .no → m'.L b = .no
theorem Fr.refl (m : Mem) : Fr m m := ⟨.refl m, fun _ _ h _ => .inl h, fun _ _ h => h⟩
theorem Mem.To.trans {m m' m'' : Mem} (h : m.To m') (h' : m'.To m'') : m.To m'' := {
  pre := h.pre.trans h'.pre fun b j _ hs => hs.elim (fun a => .inl (h.C _ _ a)) fun a => .inr (by rw [h.K]; exact a)
  C b j hc := h'.C _ _ (h.C _ _ hc)
  K := h'.K.trans h.K
  ad id hu := (h'.ad id (h.U id hu)).trans (h.ad id hu)
  U id hu := h'.U id (h.U id hu) }
theorem Fr.trans {m m' m'' : Mem} (h : Fr m m') (h' : Fr m' m'') : Fr m m'' := {
  to := h.to.trans h'.to
  gC b j hc hb := by
    rcases h'.gC b j hc (Nat.lt_of_lt_of_le hb h.to.pre.size) with h1 | h1
    · exact h.gC b j h1 hb
    · exact .inr (by rw [← h.to.K]; exact h1)
  no b hb hl := h'.no b (Nat.lt_of_lt_of_le hb h.to.pre.size) (h.no b hb hl) }

section
variable {P : Program} {G : Nat → Option GV} {vars : Nat} {m : Mem} {s : St} {tm : Array Value}

/-! ### Labels -/
def Mem.relabel (m : Mem) (ρ : Lab → Lab) : Mem := { m with L := fun b => ρ (m.L b) }
theorem Fr.relabel (m : Mem) {ρ : Lab → Lab} (h0 : ρ .no = .no) : Fr m (m.relabel ρ) :=
  ⟨⟨.refl _ _, fun _ _ h => h, rfl, fun _ _ => rfl, fun _ h => h⟩, fun _ _ h _ => .inl h, fun b _ h => by simp [Mem.relabel, h, h0]⟩
theorem Rel.relabel (r : Rel P G vars m s tm) {ρ : Lab → Lab} (h0 : ρ .no = .no) (h : ∀ l, Live s l → ρ l = l) : Rel P G vars (m.relabel ρ) s tm :=
  r.move ⟨(Fr.relabel m h0).to, r.bC, fun b hb => r.bL b fun e => hb (by simp [Mem.relabel, e, h0]), fun b hb => ⟨h _ hb, rfl, fun _ h => h⟩⟩
theorem TipAt.relabel {ρ : Lab → Lab} {l : Lab} {e : Ty} {v : Value} (r : TipAt m l e v) : TipAt (m.relabel ρ) (ρ l) e v := by
  rcases r with r | ⟨b, n, cap, cur, et, h1, h2, h3⟩
  · exact .inl r
  · exact .inr ⟨b, n, cap, cur, et, h1, by simp [Mem.relabel, h2], h3⟩

/-! ### New blocks, writes -/
/-- A new block, with a label, and with those of its cells that are cold from now on. -/
def Mem.alloc (m : Mem) (w' : World) (l : Lab) (X : Nat → Prop) : Mem :=
  { m with w := w', C := fun b j => m.C b j ∨ (b = m.w.heap.size ∧ X j), L := fun b => if b = m.w.heap.size then l else m.L b }
theorem Pre.push {w w' : World} {o : Go.Obj} (S : Cells) (hw : w'.heap = w.heap.push o ∧ w'.os = w.os ∧ w'.output = w.output) : Pre S w w' := {
  size := by rw [hw.1]; simp
  cells b c e f hb := ⟨c, by rw [hw.1, Array.getElem?_push, if_neg (Nat.ne_of_lt (Array.getElem?_eq_some_iff.1 hb).1)]; exact hb, rfl, fun _ _ => rfl⟩
  other b o' hb _ := by rw [hw.1, Array.getElem?_push, if_neg (Nat.ne_of_lt (Array.getElem?_eq_some_iff.1 hb).1)]; exact hb
  out := hw.2 }
theorem Fr.alloc (m : Mem) {w' : World} {o : Go.Obj} (hw : w'.heap = m.w.heap.push o ∧ w'.os = m.w.os ∧ w'.output = m.w.output) (l : Lab) (X : Nat → Prop) : Fr m (m.alloc w' l X) := {
  to := ⟨.push _ hw, fun _ _ h => .inl h, rfl, fun _ _ => rfl, fun _ h => h⟩
  gC b j hc hb := by
    rcases hc with hc | ⟨hc, _⟩
    · exact .inl hc
    · omega
  no b hb hl := by
    have : b ≠ m.w.heap.size := by omega
    simp [Mem.alloc, this, hl] }
theorem Rel.alloc (r : Rel P G vars m s tm) {w' : World} {o : Go.Obj} (hw : w'.heap = m.w.heap.push o ∧ w'.os = m.w.os ∧ w'.output = m.w.output) (l : Lab) (X : Nat → Prop) : Rel P G vars (m.alloc w' l X) s tm := by
  have hs : w'.heap.size = m.w.heap.size + 1 := by rw [hw.1]; simp
  refine r.move ⟨(Fr.alloc m hw l X).to, fun b j hc => ?_, fun b hb => ?_, fun b hb => ?_⟩
  · show b < w'.heap.size
    rcases hc with hc | ⟨hc, _⟩
    · have := r.bC b j hc; omega
    · omega
  · show b < w'.heap.size
    by_cases e : b = m.w.heap.size
    · omega
    · have : m.L b ≠ .no := by simpa [Mem.alloc, e] using hb
      have := r.bL b this; omega
  · have hlt : b < m.w.heap.size := r.bL b fun e => by rw [e] at hb; exact hb
    have e : b ≠ m.w.heap.size := by omega
    refine ⟨by simp [Mem.alloc, e], ?_, fun j hc => hc.resolve_right fun h => e h.1⟩
    show w'.heap[b]? = _
    rw [hw.1, Array.getElem?_push, if_neg e]
/-- A block that no claim names is written: cells that are neither cold nor kept from us; some of its cells are cold from now on. -/
def Mem.write (m : Mem) (w' : World) (b : Nat) (X : Nat → Prop) : Mem := { m with w := w', C := fun b' j => m.C b' j ∨ (b' = b ∧ X j) }
structure Wrote (m : Mem) (w' : World) (b : Nat) (X : Nat → Prop) : Prop where
  size : w'.heap.size = m.w.heap.size
  old : ∀ b' : Nat, b' ≠ b → w'.heap[b']? = m.w.heap[b']?
  row : ∃ cur cur' et f, m.w.heap[b]? = some (Go.Obj.cells cur et f) ∧ w'.heap[b]? = some (Go.Obj.cells cur' et f) ∧ cur'.size = cur.size ∧ ∀ j, m.C b j ∨ m.K b j → cur'[j]? = cur[j]?
  X : ∀ j, X j → ¬ m.K b j
  out : w'.os = m.w.os ∧ w'.output = m.w.output
theorem Fr.write {w' : World} {b : Nat} {X : Nat → Prop} (h : Wrote m w' b X) : Fr m (m.write w' b X) := {
  to := by
    refine ⟨⟨Nat.le_of_eq h.size.symm, fun b' c e f hb => ?_, fun b' o hb ho => ?_, h.out⟩, fun _ _ h => .inl h, rfl, fun _ _ => rfl, fun _ h => h⟩
    · by_cases e1 : b' = b
      · subst e1
        obtain ⟨cur, cur', et, f', h1, h2, h3, h4⟩ := h.row
        rw [h1] at hb
        cases hb
        exact ⟨cur', h2, h3, h4⟩
      · exact ⟨c, (h.old b' e1).trans hb, rfl, fun _ _ => rfl⟩
    · by_cases e1 : b' = b
      · subst e1
        obtain ⟨cur, cur', et, f', h1, h2, h3, h4⟩ := h.row
        rw [h1] at hb
        cases hb
        exact absurd rfl (ho _ _ _)
      · exact (h.old b' e1).trans hb
  gC b' j hc _ := by
    rcases hc with hc | ⟨e, hx⟩
    · exact .inl hc
    · exact .inr (e ▸ h.X j hx)
  no _ _ h := h }
theorem Rel.write (r : Rel P G vars m s tm) {w' : World} {b : Nat} {X : Nat → Prop} (h : Wrote m w' b X) (hl : ¬ Live s (m.L b)) : Rel P G vars (m.write w' b X) s tm := by
  have hb : b < m.w.heap.size := by
    obtain ⟨cur, cur', et, f', h1, _⟩ := h.row
    exact (Array.getElem?_eq_some_iff.1 h1).1
  refine r.move ⟨(Fr.write h).to, fun b' j hc => ?_, fun b' hb' => ?_, fun b' hb' => ?_⟩
  · show b' < w'.heap.size
    rw [h.size]
    rcases hc with hc | ⟨rfl, _⟩
    · exact r.bC b' j hc
    · exact hb
  · show b' < w'.heap.size
    rw [h.size]
    exact r.bL b' hb'
  · have e : b' ≠ b := fun e => hl (e ▸ hb')
    exact ⟨rfl, h.old b' e, fun j hc => hc.resolve_right fun h => e h.1⟩
/-- Some cells of a block are cold from now on. -/
theorem Wrote.same {b : Nat} {X : Nat → Prop} {cur : Array Value} {et : TypeId} {f : Nat × Nat} (hb : m.w.heap[b]? = some (Go.Obj.cells cur et f)) (hX : ∀ j, X j → ¬ m.K b j) : Wrote m m.w b X :=
  ⟨rfl, fun _ _ => rfl, ⟨cur, cur, et, f, hb, hb, rfl, fun _ _ => rfl⟩, hX, rfl, rfl⟩

/-! ### States -/
theorem tipTy_noSl : ∀ {T : Ty} {off : Nat}, noSl T = true → tipTy T off = none
  | .int _, _, _ => by simp [tipTy]
  | .bool, _, _ => by simp [tipTy]
  | .str, _, _ => by simp [tipTy]
  | .unit, _, _ => by simp [tipTy]
  | .sl _, _, h => by simp [noSl] at h
  | .pair a b, off, h => by
    simp only [noSl, Bool.and_eq_true] at h
    simp only [tipTy]
    split
    · exact tipTy_noSl h.1
    · exact tipTy_noSl h.2
structure VLe (V V' : XE.V) : Prop where
  rv : ∀ P m v, RV P m V v → RV P m V' v
  dat : ∀ d', datOf V' = some d' → datOf V = some d' ∨ noSl d'.T = true
  prov : ∀ d p, V' = .dat d (some p) → V = .dat d (some p)
theorem VLe.refl (V : XE.V) : VLe V V := ⟨fun _ _ _ h => h, fun _ h => .inl h, fun _ _ h => h⟩
theorem VLe.bot (V : XE.V) : VLe V .bot := ⟨fun _ _ _ _ => trivial, fun _ h => by simp [datOf] at h, fun _ _ h => by cases h⟩
structure OLe (id : Nat) (o o' : Obj) : Prop where
  ok : ∀ m, ObjOk m id o → ObjOk m id o'
  box : ∀ d, o' = .box d → o = .box d
theorem OLe.refl (id : Nat) (o : Obj) : OLe id o o := ⟨fun _ h => h, fun _ h => h⟩
structure St.Le (s s' : St) : Prop where
  slots : ∀ n, VLe (nthV s.slots n) (nthV s'.slots n)
  len : s'.slots.length ≤ s.slots.length
  stips : ∀ n off, off ∈ nthT s'.stips n → off ∈ nthT s.stips n
  objs : ∀ id o', lookObj id s'.objs = some o' → ∃ o, lookObj id s.objs = some o ∧ OLe id o o'
  otips : ∀ id off, off ∈ lookT id s'.otips → off ∈ lookT id s.otips
  fresh : s'.fresh = true → s.fresh = true
theorem St.Le.refl (s : St) : s.Le s := ⟨fun _ => .refl _, Nat.le_refl _, fun _ _ h => h, fun id o h => ⟨o, h, .refl _ _⟩, fun _ _ h => h, fun h => h⟩
theorem VLe.trans {a b c : XE.V} (h : VLe a b) (k : VLe b c) : VLe a c :=
  ⟨fun P m v r => k.rv P m v (h.rv P m v r), fun d hd => (k.dat d hd).elim (fun e => h.dat d e) .inr, fun d p e => h.prov d p (k.prov d p e)⟩
theorem OLe.trans {id : Nat} {a b c : Obj} (h : OLe id a b) (k : OLe id b c) : OLe id a c := ⟨fun m r => k.ok m (h.ok m r), fun d e => h.box d (k.box d e)⟩
theorem St.Le.trans {a b c : St} (h : a.Le b) (k : b.Le c) : a.Le c :=
  ⟨fun n => (h.slots n).trans (k.slots n), Nat.le_trans k.len h.len, fun n o x => h.stips n o (k.stips n o x), fun id o x => by
    obtain ⟨o1, h1, h2⟩ := k.objs id o x
    obtain ⟨o2, h3, h4⟩ := h.objs id o1 h1
    exact ⟨o2, h3, h4.trans h2⟩, fun n o x => h.otips n o (k.otips n o x), fun x => h.fresh (k.fresh x)⟩
theorem Rel.le {s' : St} (r : Rel P G vars m s tm) (h : s.Le s') : Rel P G vars m s' tm := {
  bC := r.bC
  bK := r.bK
  bL := r.bL
  glob := r.glob
  len := Nat.le_trans h.len r.len
  slots n := (h.slots n).rv P m _ (r.slots n)
  stips n d hd off ho e he := by
    rcases (h.slots n).dat d hd with h1 | h1
    · exact r.stips n d h1 off (h.stips n off ho) e he
    · rw [tipTy_noSl h1] at he; cases he
  objs id o' ho' := by
    obtain ⟨o, h1, h2⟩ := h.objs id o' ho'
    exact ⟨(r.objs id o h1).1, h2.ok m (r.objs id o h1).2⟩
  otips id d hd off ho e he := by
    obtain ⟨o, h1, h2⟩ := h.objs id _ hd
    rw [h2.box d rfl] at h1
    exact r.otips id d h1 off (h.otips id off ho) e he
  prov hf n d p hp := by
    have q := r.prov (h.fresh hf) n d p ((h.slots n).prov d p hp)
    cases p with
    | slot k o => exact ⟨q.1, q.2.1, fun off ho => q.2.2 off (h.stips k off ho)⟩
    | box i o => exact ⟨q.1, fun off ho => q.2 off (h.otips i off ho)⟩ }

theorem tm_getD (tm : Array Value) (n : Nat) (v : Value) (k : Nat) : (tm.setIfInBounds n v).getD k undef = if k = n ∧ n < tm.size then v else tm.getD k undef := by
  simp only [Array.getD_eq_getD_getElem?, Array.getElem?_setIfInBounds]
  by_cases h : n = k
  · subst h
    by_cases h2 : n < tm.size
    · simp [h2]
    · simp [h2]
  · simp [h, Ne.symm h]
/-- A temporary is written. -/
theorem Rel.setSlot (r : Rel P G vars m s tm) {n : Nat} {V : XE.V} {ts : List Nat} {v : Value} (hv : RV P m V v) (ht : ∀ d, datOf V = some d → TipsAt m (.ts n) d.T (tcells v) ts)
    (hp : s.fresh = true → ∀ d p, V = .dat d (some p) → ProvOk vars m s d (tcells v) p) (hn : s.fresh = true → Nat.testBit vars n = false) :
    Rel P G vars m { s with slots := setV s.slots n V, stips := setT s.stips n ts } (tm.setIfInBounds n v) := by
  have prov : ∀ d cs p, s.fresh = true → ProvOk vars m s d cs p → ProvOk vars m { s with slots := setV s.slots n V, stips := setT s.stips n ts } d cs p := fun d cs p hf q => by
    cases p with
    | slot k o =>
      have hk : ¬ k = n := fun e => by have h1 := q.2.1; rw [e, hn hf] at h1; cases h1
      exact ⟨q.1, q.2.1, fun off ho => q.2.2 off (by simpa [nthT_setT, hk] using ho)⟩
    | box i o => exact q
  refine ⟨r.bC, r.bK, r.bL, r.glob, by simpa [length_setV] using r.len, fun k => ?_, fun k d hd off ho e he => ?_, r.objs, r.otips, fun hf k d p hk => ?_⟩
  · simp only [nthV_setV, tm_getD]
    by_cases h1 : k = n ∧ n < s.slots.length
    · rw [if_pos h1, if_pos ⟨h1.1, Nat.lt_of_lt_of_le h1.2 r.len⟩]; exact hv
    · rw [if_neg h1]
      by_cases h2 : k = n ∧ n < tm.size
      · rw [nthV_of_le _ _ (by have : ¬ n < s.slots.length := fun h => h1 ⟨h2.1, h⟩; omega)]; trivial
      · rw [if_neg h2]; exact r.slots k
  · simp only [nthV_setV, nthT_setT, tm_getD] at hd ho ⊢
    by_cases h1 : k = n ∧ n < s.slots.length
    · rw [if_pos h1] at hd
      rw [if_pos ⟨h1.1, Nat.lt_of_lt_of_le h1.2 r.len⟩]
      by_cases h3 : k = n ∧ n < s.stips.length
      · rw [if_pos h3] at ho
        rw [h1.1]
        exact ht d hd off ho e he
      · rw [if_neg h3] at ho
        have : nthT s.stips k = [] := by
          have hle : s.stips.length ≤ k := by have : ¬ n < s.stips.length := fun h => h3 ⟨h1.1, h⟩; omega
          exact nthT_of_le _ _ hle
        rw [this] at ho; cases ho
    · rw [if_neg h1] at hd
      by_cases h2 : k = n ∧ n < tm.size
      · rw [nthV_of_le _ _ (by have : ¬ n < s.slots.length := fun h => h1 ⟨h2.1, h⟩; omega)] at hd; cases hd
      · rw [if_neg h2]
        have hkn : ¬ (k = n ∧ n < s.stips.length) ∨ k = n := by by_cases k = n <;> simp_all
        rcases hkn with h3 | h3
        · rw [if_neg h3] at ho
          exact r.stips k d hd off ho e he
        · subst h3
          have : ¬ k < tm.size := fun h => h2 ⟨rfl, h⟩
          rw [nthV_of_le _ _ (by have := r.len; omega)] at hd; cases hd
  · simp only [nthV_setV, tm_getD] at hk ⊢
    by_cases h1 : k = n ∧ n < s.slots.length
    · rw [if_pos h1] at hk
      rw [if_pos ⟨h1.1, Nat.lt_of_lt_of_le h1.2 r.len⟩]
      exact prov _ _ _ hf (hp hf d p hk)
    · rw [if_neg h1] at hk
      by_cases h2 : k = n ∧ n < tm.size
      · rw [nthV_of_le _ _ (by have : ¬ n < s.slots.length := fun h => h1 ⟨h2.1, h⟩; omega)] at hk; cases hk
      · rw [if_neg h2]
        exact prov _ _ _ hf (r.prov hf k d p hk)
/-- A local object is laid, or written; its tips stay. -/
theorem Rel.putObj (r : Rel P G vars m s tm) {id : Nat} {o : Obj} (hu : m.U id) (ho : ObjOk m id o)
    (ht : ∀ d, o = .box d → ∀ off, off ∈ lookT id s.otips → ∀ e, tipTy d.T off = some e → ∃ v, m.w.cell? ⟨(m.ad id).b, (m.ad id).o + off, none⟩ = some v ∧ TipAt m (.to id off) e v) :
    Rel P G vars m { s with objs := XE.setObj id (some o) s.objs } tm := by
  refine ⟨r.bC, r.bK, r.bL, r.glob, r.len, r.slots, r.stips, fun k o' hk => ?_, fun k d hd off ho' e he => ?_, fun hf n d p hk => ?_⟩
  · simp only [lookObj_setObj] at hk
    by_cases h : k = id
    · subst h; simp at hk; exact ⟨hu, hk ▸ ho⟩
    · rw [if_neg h] at hk; exact r.objs k o' hk
  · simp only [lookObj_setObj] at hd ho'
    by_cases h : k = id
    · subst h; simp at hd; exact ht d hd off ho' e he
    · rw [if_neg h] at hd; exact r.otips k d hd off ho' e he
  · have q := r.prov hf n d p hk
    cases p with
    | slot k o => exact q
    | box i o => exact q
/-- The tips of a local object are told anew. -/
theorem Rel.putOT (r : Rel P G vars m s tm) {id : Nat} {ts : List Nat}
    (ht : ∀ d, lookObj id s.objs = some (.box d) → ∀ off, off ∈ ts → ∀ e, tipTy d.T off = some e → ∃ v, m.w.cell? ⟨(m.ad id).b, (m.ad id).o + off, none⟩ = some v ∧ TipAt m (.to id off) e v)
    (hp : s.fresh = true → ¬ m.U id) :
    Rel P G vars m { s with otips := setTips id ts s.otips } tm := by
  refine ⟨r.bC, r.bK, r.bL, r.glob, r.len, r.slots, r.stips, r.objs, fun k d hd off ho' e he => ?_, fun hf n d p hk => ?_⟩
  · simp only [lookT_setTips] at ho'
    by_cases h : k = id
    · subst h; simp at ho'; exact ht d hd off ho' e he
    · rw [if_neg h] at ho'; exact r.otips k d hd off ho' e he
  · have q := r.prov hf n d p hk
    cases p with
    | slot k o => exact q
    | box i o =>
      have : i ≠ id := fun e => hp hf (e ▸ q.1)
      exact ⟨q.1, fun off ho' => q.2 off (by simpa [lookT_setTips, this] using ho')⟩
/-- A local object is named no more. -/
def St.noObj (s : St) (i : Nat) : St := { s with objs := XE.setObj i none s.objs }
theorem le_noObj (s : St) (i : Nat) : s.Le (s.noObj i) := ⟨fun _ => .refl _, Nat.le_refl _, fun _ _ h => h, fun id o h => by
    simp only [St.noObj, lookObj_setObj] at h
    split at h
    · cases h
    · exact ⟨o, h, .refl _ _⟩, fun _ _ h => h, fun h => h⟩
theorem dead_noObj (s : St) (i : Nat) : ¬ Live (s.noObj i) (.obj i) := fun h => h (by simp [St.noObj, lookObj_setObj])
theorem le_again (s : St) (i : Nat) (x : Option Obj) : St.Le { s.noObj i with objs := XE.setObj i x (s.noObj i).objs } { s with objs := XE.setObj i x s.objs } :=
  ⟨fun _ => .refl _, Nat.le_refl _, fun _ _ h => h, fun id o h => ⟨o, by
    simp only [St.noObj, lookObj_setObj] at h ⊢
    split
    · rename_i hc; rw [if_pos hc] at h; exact h
    · rename_i hc; rw [if_neg hc] at h; exact h, .refl _ _⟩, fun _ _ h => h, fun h => h⟩
end
end Go.XE
/- The evaluator's monad, resolved; data and their parts; types. -/
namespace Go.XE

def runR {α : Type} : M α → St → Option (α × St)
  | .ret a, s => some (a, s)
  | .get l m, s => runR (m (s.get l)) { s with rd := addLoc l s.rd }
  | .put l x m, s => runR m { s.put l x with wr := addLoc l s.wr, dirty := addLoc l s.dirty }
  | .need c m, s => cond c (runR m s) none
  | .opt _ o m, s => o.bind fun b => runR (m b) s
  | .fail, _ => none
theorem runR_bind {α β : Type} (f : α → M β) : ∀ (m : M α) (s : St), runR (m.bind f) s = (runR m s).bind fun p => runR (f p.1) p.2
  | .ret a, s => rfl
  | .get l m, s => runR_bind f (m (s.get l)) _
  | .put l x m, s => runR_bind f m _
  | .need c m, s => by cases c <;> simp [M.bind, runR, runR_bind f m s]
  | .opt d o m, s => by cases o <;> simp [M.bind, runR, runR_bind f]
  | .fail, s => rfl
theorem bind_inv {α β : Type} {f : α → M β} {m : M α} {s : St} {b : β} {s' : St} (h : runR (m.bind f) s = some (b, s')) : ∃ a s1, runR m s = some (a, s1) ∧ runR (f a) s1 = some (b, s') := by
  rw [runR_bind] at h
  cases hm : runR m s with
  | none => rw [hm] at h; cases h
  | some p => rw [hm] at h; exact ⟨p.1, p.2, rfl, h⟩
/-- Two states that tell the same. -/
structure Same (s s' : St) : Prop where
  slots : s'.slots = s.slots
  stips : s'.stips = s.stips
  objs : s'.objs = s.objs
  otips : s'.otips = s.otips
  fresh : s'.fresh = s.fresh
theorem Same.refl (s : St) : Same s s := ⟨rfl, rfl, rfl, rfl, rfl⟩
theorem Same.trans {a b c : St} (h : Same a b) (k : Same b c) : Same a c := ⟨k.slots.trans h.slots, k.stips.trans h.stips, k.objs.trans h.objs, k.otips.trans h.otips, k.fresh.trans h.fresh⟩
theorem Same.symm {a b : St} (h : Same a b) : Same b a := ⟨h.slots.symm, h.stips.symm, h.objs.symm, h.otips.symm, h.fresh.symm⟩
theorem Same.le {s s' : St} (h : Same s s') : s.Le s' :=
  ⟨fun n => by rw [h.slots]; exact .refl _, by rw [h.slots]; exact Nat.le_refl _, fun n o x => by rw [h.stips] at x; exact x, fun i o x => ⟨o, by rw [h.objs] at x; exact x, .refl _ _⟩, fun n o x => by rw [h.otips] at x; exact x, fun x => by rw [h.fresh] at x; exact x⟩
theorem Rel.same {P : Program} {G : Nat → Option GV} {vars : Nat} {m : Mem} {s s' : St} {tm : Array Value} (r : Rel P G vars m s tm) (h : Same s s') : Rel P G vars m s' tm := r.le h.le
theorem Live.same {s s' : St} (h : Same s s') {l : Lab} (hl : Live s' l) : Live s l := by
  cases l <;> simp_all [Live, h.stips, h.objs, h.otips]

theorem ret_inv {α : Type} {a b : α} {s s' : St} (h : runR (.ret a) s = some (b, s')) : b = a ∧ s' = s := by simp [runR] at h; exact ⟨h.1.symm, h.2.symm⟩
theorem fail_inv {α : Type} {b : α} {s s' : St} (h : runR (.fail) s = some (b, s')) : False := by simp [runR] at h
theorem getS_inv {n : Nat} {s s' : St} {v : V} (h : runR (getS n) s = some (v, s')) : v = nthV s.slots n ∧ Same s s' := by
  simp [getS, runR, St.get] at h
  exact ⟨h.1.symm, h.2 ▸ ⟨rfl, rfl, rfl, rfl, rfl⟩⟩
theorem getST_inv {n : Nat} {s s' : St} {v : List Nat} (h : runR (getST n) s = some (v, s')) : v = nthT s.stips n ∧ Same s s' := by
  simp [getST, runR, St.get] at h
  exact ⟨h.1.symm, h.2 ▸ ⟨rfl, rfl, rfl, rfl, rfl⟩⟩
theorem getOT_inv {n : Nat} {s s' : St} {v : List Nat} (h : runR (getOT n) s = some (v, s')) : v = lookT n s.otips ∧ Same s s' := by
  simp [getOT, runR, St.get] at h
  exact ⟨h.1.symm, h.2 ▸ ⟨rfl, rfl, rfl, rfl, rfl⟩⟩
theorem getF_inv {s s' : St} {v : Bool} (h : runR getF s = some (v, s')) : v = s.fresh ∧ Same s s' := by
  simp [getF, runR, St.get] at h
  exact ⟨h.1.symm, h.2 ▸ ⟨rfl, rfl, rfl, rfl, rfl⟩⟩
theorem getO_inv {n : Nat} {s s' : St} {o : Obj} (h : runR (getO n) s = some (o, s')) : lookObj n s.objs = some o ∧ Same s s' := by
  simp only [getO, runR, St.get] at h
  cases hl : lookObj n s.objs with
  | none => rw [hl] at h; cases h
  | some x =>
    rw [hl] at h
    simp [runR] at h
    exact ⟨by rw [h.1], h.2 ▸ ⟨rfl, rfl, rfl, rfl, rfl⟩⟩
theorem putST_inv {n : Nat} {x : List Nat} {s s' : St} {u : Unit} (h : runR (putST n x) s = some (u, s')) : Same { s with stips := setT s.stips n x } s' := by
  simp [putST, runR, St.put] at h
  exact h ▸ ⟨rfl, rfl, rfl, rfl, rfl⟩
theorem putOT_inv {n : Nat} {x : List Nat} {s s' : St} {u : Unit} (h : runR (putOT n x) s = some (u, s')) : Same { s with otips := setTips n x s.otips } s' := by
  simp [putOT, runR, St.put] at h
  exact h ▸ ⟨rfl, rfl, rfl, rfl, rfl⟩
theorem setO_inv {n : Nat} {x : Obj} {s s' : St} {u : Unit} (h : runR (setO n x) s = some (u, s')) : Same { s with objs := setObj n (some x) s.objs } s' := by
  simp [setO, runR, St.put] at h
  exact h ▸ ⟨rfl, rfl, rfl, rfl, rfl⟩
theorem setF_inv {b : Bool} {s s' : St} {u : Unit} (h : runR (setF b) s = some (u, s')) : Same { s with fresh := b } s' := by
  simp [setF, runR, St.put] at h
  exact h ▸ ⟨rfl, rfl, rfl, rfl, rfl⟩
theorem setS_inv {n : Nat} {V : V} {ts : List Nat} {s s' : St} {u : Unit} (h : runR (setS n V ts) s = some (u, s')) : Same { s with slots := setV s.slots n V, stips := setT s.stips n ts } s' := by
  simp [setS, runR, St.put] at h
  exact h ▸ ⟨rfl, rfl, rfl, rfl, rfl⟩
theorem need_inv {c : Bool} {s s' : St} {u : Unit} (h : runR (needM c) s = some (u, s')) : c = true ∧ s' = s := by
  cases c <;> simp [needM, runR] at h
  exact ⟨rfl, h.symm⟩
theorem lift_inv {β : Type} {o : Option β} {b : β} {s s' : St} (h : runR (liftO o) s = some (b, s')) : o = some b ∧ s' = s := by
  cases o <;> simp [liftO, runR] at h
  exact ⟨by rw [h.1], h.2.symm⟩
theorem opt_inv {β : Type} {d : β} {o : Option β} {b : β} {s s' : St} (h : runR (optM d o) s = some (b, s')) : o = some b ∧ s' = s := by
  cases o <;> simp [optM, runR] at h
  exact ⟨by rw [h.1], h.2.symm⟩

/-! ### Data and their parts -/
theorem as_eq {d : D} {T : Ty} {x : den T} (h : d.as T = some x) : d = ⟨T, x⟩ := by
  obtain ⟨U, y⟩ := d
  unfold D.as at h
  cases ht : tyEq U T with
  | none => simp [ht] at h
  | some e =>
    obtain ⟨e⟩ := e
    subst e
    simp [ht] at h
    rw [h]
theorem take_drop_append {α : Type} (u v : List α) (n k : Nat) (hn : u.length = n) : ((u ++ v).drop (n + k)) = v.drop k := by
  subst hn; rw [List.drop_append]; simp
theorem drop_take_drop {α : Type} (ds : List α) (k n : Nat) (h : k ≤ n) (hn : n ≤ ds.length) : (ds.take n).drop k ++ ds.drop n = ds.drop k := by
  rw [← List.drop_append_of_le_length (by simp; omega), List.take_append_drop]
theorem fieldOff_le : ∀ {T : Ty} {j o : Nat} {U : Ty}, fieldOff T j = some (o, U) → o + U.size ≤ T.size
  | .pair a b, 0, o, U, h => by simp [fieldOff] at h; obtain ⟨rfl, rfl⟩ := h; simp [Ty.size]
  | .pair a b, j + 1, o, U, h => by
    simp only [fieldOff] at h
    split at h
    · rename_i q t hq
      simp at h
      obtain ⟨rfl, rfl⟩ := h
      have := fieldOff_le hq
      simp [Ty.size]; omega
    · cases h
  | .int _, _, _, _, h => by simp [fieldOff] at h
  | .bool, _, _, _, h => by simp [fieldOff] at h
  | .str, _, _, _, h => by simp [fieldOff] at h
  | .unit, _, _, _, h => by simp [fieldOff] at h
  | .sl _, _, _, _, h => by simp [fieldOff] at h
theorem Rep.proj {w : World} {C : Cells} : ∀ {T : Ty} {x : den T} {cs : List Value} {j : Nat} {e : D}, Rep w C T x cs → XE.proj T x j = some e →
    ∃ o, fieldOff T j = some (o, e.T) ∧ Rep w C e.T e.x ((cs.drop o).take e.T.size)
  | .pair a b, x, cs, 0, e, h, hp => by
    simp [XE.proj] at hp
    subst hp
    simp only [Rep] at h
    obtain ⟨u, v, rfl, h1, h2⟩ := h
    exact ⟨0, rfl, by rw [← h1.len]; simpa using h1⟩
  | .pair a b, x, cs, j + 1, e, h, hp => by
    simp only [XE.proj] at hp
    simp only [Rep] at h
    obtain ⟨u, v, rfl, h1, h2⟩ := h
    obtain ⟨o, k1, k2⟩ := Rep.proj h2 hp
    exact ⟨a.size + o, by simp [fieldOff, k1], by rw [take_drop_append _ _ _ _ h1.len]; exact k2⟩
  | .int _, _, _, _, _, _, hp => by simp [XE.proj] at hp
  | .bool, _, _, _, _, _, hp => by simp [XE.proj] at hp
  | .str, _, _, _, _, _, hp => by simp [XE.proj] at hp
  | .unit, _, _, _, _, _, hp => by simp [XE.proj] at hp
  | .sl _, _, _, _, _, _, hp => by simp [XE.proj] at hp
theorem pathOff_le : ∀ {p : List Nat} {T : Ty} {o : Nat} {U : Ty}, pathOff T p = some (o, U) → o + U.size ≤ T.size
  | [], T, o, U, h => by simp [pathOff] at h; obtain ⟨rfl, rfl⟩ := h; simp
  | j :: r, T, o, U, h => by
    simp only [pathOff] at h
    split at h
    · rename_i q t hq
      split at h
      · rename_i q2 t2 hq2
        simp at h
        obtain ⟨rfl, rfl⟩ := h
        have h1 := fieldOff_le hq
        have h2 := pathOff_le hq2
        omega
      · cases h
    · cases h
theorem Rep.getp {w : World} {C : Cells} : ∀ {p : List Nat} {d e : D} {cs : List Value}, Rep w C d.T d.x cs → XE.getp d p = some e →
    ∃ o, pathOff d.T p = some (o, e.T) ∧ Rep w C e.T e.x ((cs.drop o).take e.T.size)
  | [], d, e, cs, h, hp => by
    simp [XE.getp] at hp
    subst hp
    exact ⟨0, rfl, by rw [← h.len]; simpa using h⟩
  | j :: r, d, e, cs, h, hp => by
    simp only [XE.getp] at hp
    cases hq : XE.proj d.T d.x j with
    | none => simp [hq] at hp
    | some f =>
      simp only [hq] at hp
      obtain ⟨o, k1, k2⟩ := h.proj hq
      obtain ⟨o', k3, k4⟩ := Rep.getp k2 hp
      have hle := pathOff_le k3
      refine ⟨o + o', by simp [pathOff, k1, k3], ?_⟩
      rw [List.drop_take, List.drop_drop, List.take_take, Nat.min_eq_left (by omega)] at k4
      exact k4
theorem pathOff_snoc : ∀ {p : List Nat} {T U W : Ty} {o q j : Nat}, pathOff T p = some (o, U) → fieldOff U j = some (q, W) → pathOff T (p ++ [j]) = some (o + q, W)
  | [], T, U, W, o, q, j, h, hf => by simp [pathOff] at h; obtain ⟨rfl, rfl⟩ := h; simp [pathOff, hf]
  | i :: r, T, U, W, o, q, j, h, hf => by
    simp only [pathOff, List.cons_append] at h ⊢
    cases h1 : fieldOff T i with
    | none => simp [h1] at h
    | some f =>
      simp only [h1] at h ⊢
      cases h2 : pathOff f.2 r with
      | none => simp [h2] at h
      | some g =>
        simp [h2] at h
        obtain ⟨rfl, rfl⟩ := h
        rw [pathOff_snoc (o := g.1) (U := g.2) h2 hf]
        simp [Nat.add_assoc]
theorem Rep.setf {w : World} {C : Cells} : ∀ {T : Ty} {x y : den T} {j : Nat} {v : D} {cs us : List Value}, XE.setf T x j v = some y → Rep w C T x cs → Rep w C v.T v.x us →
    ∃ o, fieldOff T j = some (o, v.T) ∧ Rep w C T y (cs.take o ++ us ++ cs.drop (o + v.T.size))
  | .pair a b, x, y, 0, v, cs, us, hs, h, hv => by
    simp only [XE.setf] at hs
    cases hq : v.as a with
    | none => simp [hq] at hs
    | some z =>
      simp [hq] at hs
      subst hs
      have := as_eq hq
      subst this
      simp only [Rep] at h
      obtain ⟨u, t, rfl, h1, h2⟩ := h
      refine ⟨0, rfl, ?_⟩
      simp only [Rep]
      exact ⟨us, t, by simp [← h1.len], hv, h2⟩
  | .pair a b, x, y, j + 1, v, cs, us, hs, h, hv => by
    simp only [XE.setf] at hs
    cases hq : XE.setf b x.2 j v with
    | none => simp [hq] at hs
    | some z =>
      simp [hq] at hs
      subst hs
      simp only [Rep] at h
      obtain ⟨u, t, rfl, h1, h2⟩ := h
      obtain ⟨o, k1, k2⟩ := Rep.setf hq h2 hv
      refine ⟨a.size + o, by simp [fieldOff, k1], ?_⟩
      simp only [Rep]
      refine ⟨u, _, ?_, h1, k2⟩
      rw [Nat.add_assoc, take_drop_append _ _ _ _ h1.len, ← h1.len, List.take_append]
      simp [List.take_of_length_le]
  | .int _, _, _, _, _, _, _, hp, _, _ => by simp [XE.setf] at hp
  | .bool, _, _, _, _, _, _, hp, _, _ => by simp [XE.setf] at hp
  | .str, _, _, _, _, _, _, hp, _, _ => by simp [XE.setf] at hp
  | .unit, _, _, _, _, _, _, hp, _, _ => by simp [XE.setf] at hp
  | .sl _, _, _, _, _, _, _, hp, _, _ => by simp [XE.setf] at hp
theorem Rep.setp {w : World} {C : Cells} : ∀ {p : List Nat} {d d' v : D} {cs us : List Value}, XE.setp d p v = some d' → Rep w C d.T d.x cs → Rep w C v.T v.x us →
    d'.T = d.T ∧ ∃ o, pathOff d.T p = some (o, v.T) ∧ Rep w C d'.T d'.x (cs.take o ++ us ++ cs.drop (o + v.T.size))
  | [], d, d', v, cs, us, hs, h, hv => by
    simp only [XE.setp] at hs
    cases hq : v.as d.T with
    | none => simp [hq] at hs
    | some z =>
      simp [hq] at hs
      subst hs
      have := as_eq hq
      subst this
      exact ⟨rfl, 0, rfl, by simpa [← h.len] using hv⟩
  | j :: r, d, d', v, cs, us, hs, h, hv => by
    simp only [XE.setp] at hs
    cases hq : XE.proj d.T d.x j with
    | none => simp [hq] at hs
    | some e =>
      simp only [hq] at hs
      cases hq2 : XE.setp e r v with
      | none => simp [hq2] at hs
      | some e' =>
        simp only [hq2] at hs
        cases hq3 : XE.setf d.T d.x j e' with
        | none => simp [hq3] at hs
        | some z =>
          simp [hq3] at hs
          subst hs
          obtain ⟨o, k1, k2⟩ := h.proj hq
          obtain ⟨ht, o', k3, k4⟩ := Rep.setp hq2 k2 hv
          obtain ⟨o2, k5, k6⟩ := Rep.setf hq3 h k4
          rw [ht] at k5 k6
          have ho : o2 = o := by rw [k1] at k5; simp at k5; exact k5.symm
          subst ho
          refine ⟨rfl, o2 + o', by simp [pathOff, k1, k3], ?_⟩
          have hle := pathOff_le k3
          have hle2 := fieldOff_le k1
          have hl := h.len
          rw [List.take_take, Nat.min_eq_left (by omega)] at k6
          rw [show List.take o2 cs ++ (List.take o' (List.drop o2 cs) ++ us ++ List.drop (o' + v.T.size) (List.take e.T.size (List.drop o2 cs))) ++ List.drop (o2 + e.T.size) cs =
              List.take (o2 + o') cs ++ us ++ List.drop (o2 + o' + v.T.size) cs from ?_] at k6
          · exact k6
          · have e1 := drop_take_drop (List.drop o2 cs) (o' + v.T.size) e.T.size hle (by simp; omega)
            simp only [List.drop_drop] at e1
            simp only [List.append_assoc, List.take_add]
            rw [e1, Nat.add_assoc]
end Go.XE
