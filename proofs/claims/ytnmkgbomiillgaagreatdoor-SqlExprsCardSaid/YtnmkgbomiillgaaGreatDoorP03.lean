/- Part 3 of the proof. -/
import Derived.Test.YtnmkgbomiillgaaGreatDoorP02
import Derived.Laws.Strings
import Derived.Laws.Slices
import Derived.Laws.BytesString
import Derived.Laws.IdiomStrings
import Derived.Laws.Concat
import Derived.Laws.Small
/- What the evaluator's types say of the program's table of types; loads and stores. -/
namespace Go.XE

def zeroCells : Ty → List Value
  | .int k => [.int k 0]
  | .bool => [.bool false]
  | .str => [.string ⟨#[]⟩]
  | .sl _ => [.slice none 0 0]
  | .unit => []
  | .pair a b => zeroCells a ++ zeroCells b
def zeroV (T : Ty) : Value := if T.isSt then .agg (zeroCells T).toArray else (zeroCells T).headD undef
def Base (P : Program) (t : TypeId) (T : Ty) : Prop := ∃ i, P.info? t = some i ∧ i.size = T.size ∧ i.bytes ≤ 16384 ∧ i.zero = some (zeroV T)
def TyQ (P : Program) : Ty → (TypeId → Prop) × (Nat → List Field → Prop)
  | .int k => (fun t => Base P t (.int k) ∧ P.underlying t = some (.int k), fun _ _ => False)
  | .bool => (fun t => Base P t .bool ∧ P.underlying t = some .bool, fun _ _ => False)
  | .str => (fun t => Base P t .str ∧ P.underlying t = some .string, fun _ _ => False)
  | .sl e => (fun t => Base P t (.sl e) ∧ ∃ et, P.underlying t = some (.slice et) ∧ 0 < e.size ∧ (TyQ P e).1 et, fun _ _ => False)
  | .unit => (fun t => Base P t .unit ∧ ∃ fs, P.underlying t = some (.struct fs) ∧ fs.toList = [], fun _ fs => fs = [])
  | .pair a b =>
    let F : Nat → List Field → Prop := fun off fs => ∃ f r, fs = f :: r ∧ f.offset = off ∧ 0 < a.size ∧ (TyQ P a).1 f.type ∧ (TyQ P b).2 (off + a.size) r
    (fun t => Base P t (.pair a b) ∧ ∃ fs, P.underlying t = some (.struct fs) ∧ F 0 fs.toList, F)
def TyOk (P : Program) (t : TypeId) (T : Ty) : Prop := (TyQ P T).1 t

variable {P : Program}
theorem TyOk.base {t : TypeId} : ∀ {T : Ty}, TyOk P t T → Base P t T
  | .int _, h => h.1
  | .bool, h => h.1
  | .str, h => h.1
  | .sl _, h => h.1
  | .unit, h => h.1
  | .pair _ _, h => h.1
theorem TyOk.under {t : TypeId} : ∀ {T : Ty}, TyOk P t T → ∃ d, P.underlying t = some d ∧ (match d with | .struct _ | .array _ _ => true | _ => false) = T.isSt
  | .int _, h => ⟨_, h.2, rfl⟩
  | .bool, h => ⟨_, h.2, rfl⟩
  | .str, h => ⟨_, h.2, rfl⟩
  | .sl _, h => let ⟨et, h1, _⟩ := h.2; ⟨_, h1, rfl⟩
  | .unit, h => let ⟨fs, h1, _⟩ := h.2; ⟨_, h1, rfl⟩
  | .pair _ _, h => let ⟨fs, h1, _⟩ := h.2; ⟨_, h1, rfl⟩
theorem FieldsOk.field : ∀ {T : Ty} {off : Nat} {fs : List Field} {j o : Nat} {U : Ty}, (TyQ P T).2 off fs → fieldOff T j = some (o, U) →
    ∃ f, fs[j]? = some f ∧ f.offset = off + o ∧ 0 < U.size ∧ TyOk P f.type U
  | .pair a b, off, fs, 0, o, U, h, hf => by
    simp [fieldOff] at hf
    obtain ⟨rfl, rfl⟩ := hf
    obtain ⟨f, r, rfl, h1, h2, h3, h4⟩ := h
    exact ⟨f, rfl, h1, h2, h3⟩
  | .pair a b, off, fs, j + 1, o, U, h, hf => by
    simp only [fieldOff] at hf
    obtain ⟨f, r, rfl, h1, h2, h3, h4⟩ := h
    split at hf
    · rename_i q t hq
      simp at hf
      obtain ⟨rfl, rfl⟩ := hf
      obtain ⟨g, k1, k2, k3⟩ := FieldsOk.field h4 hq
      exact ⟨g, by simpa using k1, by omega, k3⟩
    · cases hf
  | .int _, _, _, _, _, _, _, h => by simp [fieldOff] at h
  | .bool, _, _, _, _, _, _, h => by simp [fieldOff] at h
  | .str, _, _, _, _, _, _, h => by simp [fieldOff] at h
  | .unit, _, _, _, _, _, _, h => by simp [fieldOff] at h
  | .sl _, _, _, _, _, _, _, h => by simp [fieldOff] at h
theorem TyOk.field {t : TypeId} : ∀ {T : Ty} {j o : Nat} {U : Ty}, TyOk P t T → fieldOff T j = some (o, U) →
    ∃ fs f, P.underlying t = some (.struct fs) ∧ fs[j]? = some f ∧ f.offset = o ∧ 0 < U.size ∧ TyOk P f.type U
  | .pair a b, j, o, U, h, hf => by
    obtain ⟨_, fs, h1, h2⟩ := h
    obtain ⟨f, k1, k2, k3⟩ := FieldsOk.field (P := P) (T := .pair a b) h2 hf
    exact ⟨fs, f, h1, by simpa using k1, by omega, k3⟩
  | .int _, _, _, _, _, h => by simp [fieldOff] at h
  | .bool, _, _, _, _, h => by simp [fieldOff] at h
  | .str, _, _, _, _, h => by simp [fieldOff] at h
  | .unit, _, _, _, _, h => by simp [fieldOff] at h
  | .sl _, _, _, _, _, h => by simp [fieldOff] at h
theorem zero_rep (w : World) (C : Cells) : ∀ T : Ty, Rep w C T (dflt T) (zeroCells T)
  | .int _ => rfl
  | .bool => rfl
  | .str => rfl
  | .unit => rfl
  | .sl e => ⟨none, 0, rfl, Nat.le_refl _, fun _ => rfl, fun a h => by cases h⟩
  | .pair a b => ⟨_, _, rfl, zero_rep w C a, zero_rep w C b⟩
theorem zero_repV (w : World) (C : Cells) (T : Ty) : RepV w C T (dflt T) (zeroV T) := by
  have h := zero_rep w C T
  unfold zeroV
  cases T <;> first | exact .inr ⟨rfl, h⟩ | exact .inl ⟨rfl, _, rfl, h⟩
theorem zero_tips : ∀ (T : Ty) (off : Nat) (e : Ty), tipTy T off = some e → (zeroCells T)[off]? = some (.slice none 0 0)
  | .sl e, 0, _, _ => rfl
  | .sl e, _ + 1, _, h => by simp [tipTy] at h
  | .int _, _, _, h => by simp [tipTy] at h
  | .bool, _, _, h => by simp [tipTy] at h
  | .str, _, _, h => by simp [tipTy] at h
  | .unit, _, _, h => by simp [tipTy] at h
  | .pair a b, off, e, h => by
    have hl : (zeroCells a).length = a.size := (zero_rep (default : World) (fun _ _ => False) a).len
    simp only [tipTy] at h
    simp only [zeroCells, List.getElem?_append, hl]
    split at h
    · rename_i hlt
      rw [if_pos hlt]; exact zero_tips a off e h
    · rename_i hlt
      rw [if_neg hlt]; exact zero_tips b _ e h

theorem run_isAgg {t : TypeId} {T : Ty} (h : TyOk P t T) (w : World) : (isAgg t).run P w = .ok T.isSt w := by
  obtain ⟨d, h1, h2⟩ := h.under
  unfold isAgg
  rw [Sem.run_bind, run_underlying h1 w]
  cases d <;> simp_all
theorem run_sizeOf {t : TypeId} {T : Ty} (h : TyOk P t T) (w : World) : (sizeOf t).run P w = .ok T.size w := by
  obtain ⟨i, h1, h2, _⟩ := h.base
  simp [sizeOf, typeInfo, h1, h2]
theorem run_zero {t : TypeId} {T : Ty} (h : TyOk P t T) (w : World) : (zeroValue t).run P w = .ok (zeroV T) w := by
  obtain ⟨i, h1, h2, _, h3⟩ := h.base
  simp [zeroValue, typeInfo, h1, h3]
theorem add_mk (b o j : Nat) : (⟨b, o, none⟩ : Addr).add j = ⟨b, o + j, none⟩ := by unfold Addr.add; split <;> simp_all
theorem addr_eta {a : Addr} (h : a.spot = none) : a = ⟨a.block, a.off, none⟩ := by cases a; simp_all
theorem tcells_agg (cs : Array Value) : tcells (.agg cs) = cs.toList := rfl
theorem RepV.tcells {w : World} {C : Cells} {T : Ty} {x : den T} {v : Value} (h : RepV w C T x v) : Rep w C T x (XE.tcells v) ∧ XE.tcells v = v.cells.toList := by
  have h1 := Rep.cells h
  have : XE.tcells v = v.cells.toList := by
    rcases h with ⟨_, cs, rfl, _⟩ | ⟨h2, h3⟩
    · rfl
    · have := Rep.one h3 v (by simp)
      cases v <;> first | rfl | (simp [Value.oneCell'] at this)
  exact ⟨this ▸ h1, this⟩
/-- The value that stands for a datum's cells. -/
def toV (T : Ty) (cs : List Value) : Value := if T.isSt then .agg cs.toArray else cs.headD undef
theorem RepV.of {w : World} {C : Cells} {T : Ty} {x : den T} {cs : List Value} (h : Rep w C T x cs) : RepV w C T x (toV T cs) ∧ XE.tcells (toV T cs) = cs := by
  unfold toV
  cases hT : T.isSt
  · have : ∃ v, cs = [v] := by
      cases T <;> simp only [Rep, Ty.isSt] at h hT <;> first | (cases hT; done) | (obtain ⟨p, cap, h2, _⟩ := h; exact ⟨_, h2⟩) | exact ⟨_, h⟩
    obtain ⟨v, rfl⟩ := this
    refine ⟨.inr ⟨hT, by simpa using h⟩, ?_⟩
    have := Rep.one h v (by simp)
    cases v <;> first | rfl | (simp [Value.oneCell'] at this)
  · exact ⟨.inl ⟨hT, cs.toArray, rfl, by simpa using h⟩, rfl⟩
theorem run_loadVar {t : TypeId} {T : Ty} (ht : TyOk P t T) {w : World} {C : Cells} {b o : Nat} {x : den T} {cs : List Value} (hc : cellsAt w b o cs) (hr : Rep w C T x cs) :
    (loadVar t ⟨b, o, none⟩).run P w = .ok (toV T cs) w := by
  have hl := hr.len
  simp only [loadVar, Sem.run_bind, run_isAgg ht, Result.andThen_ok]
  unfold toV
  cases hT : T.isSt
  · have : ∃ v, cs = [v] := by
      clear hc hl
      cases T <;> simp only [Rep, Ty.isSt] at hr hT <;> first | (cases hT; done) | (obtain ⟨p, cap, h2, _⟩ := hr; exact ⟨_, h2⟩) | exact ⟨_, hr⟩
    obtain ⟨v, rfl⟩ := this
    have h1 := hc 0 v rfl
    simp only [Nat.add_zero] at h1
    simp [load, Sem.run, h1]
  · have h2 := run_loadCells_list (P := P) w ⟨b, o, none⟩ cs (fun j v hv => by rw [add_mk]; exact hc j v hv)
    rw [hl] at h2
    simp [Sem.run_bind, run_sizeOf ht, h2]
theorem run_storeVar {t : TypeId} {T : Ty} (ht : TyOk P t T) {w : World} {C : Cells} {b o : Nat} {y : den T} {v : Value} (hv : RepV w C T y v) {cur : Array Value} {et : TypeId}
    (hb : w.heap[b]? = some (Go.Obj.cells cur et (0, 0))) (hfit : o + T.size ≤ cur.size) :
    (storeVar t ⟨b, o, none⟩ v).run P w = .ok () (w.setRow b (cur.toList.take o ++ tcells v ++ cur.toList.drop (o + T.size)).toArray) := by
  obtain ⟨h1, h2⟩ := RepV.tcells hv
  have hl : v.cells.size = T.size := by rw [← h1.len, h2]; simp
  have hst := run_storeCells_at P b o et v.cells.toList 0 cur w hb (by simpa [hl] using hfit) (by rw [← h2]; exact h1.one)
  simp only [storeVar, Sem.run_bind, run_sizeOf ht, Result.andThen_ok, hl, ne_eq, not_true_eq_false, if_false]
  rw [h2]
  simpa [hl] using hst
end Go.XE
/- Operations, one by one: what the evaluator says of them is what they do. Part A: without calls, blocks, writes. -/
namespace Go.XE

/-! ### Contracts of functions -/
def ResOk (m : Mem) (multi : Bool) (R : Ty) (x : den R) (v : Value) (ts : List Nat) : Prop :=
  (multi = false → RepV m.w m.C R x v) ∧ (multi = true → ∃ vs, v = .tuple vs ∧ RepT m.w m.C R x vs.toList) ∧ TipsAt m (.fl 0) R (tcells v) ts
def MutsOk (m : Mem) : (l : List (Nat × OK)) → den (objsX l) → Prop
  | [], _ => True
  | (i, .box T ts) :: r, x => ObjOk m i (.box ⟨T, x.1⟩) ∧ (∀ off, off ∈ ts → ∀ e, tipTy T off = some e → ∃ v, m.w.cell? ⟨(m.ad i).b, (m.ad i).o + off, none⟩ = some v ∧ TipAt m (.to i off) e v) ∧ MutsOk m r x.2
  | _, _ => False
def Post (m : Mem) (sp : Spec) (y : den (outTy sp.R sp.head.objs)) (v : Value) (w' : World) : Prop :=
  ∃ m' : Mem, m'.w = w' ∧ Fr m m' ∧ (∀ b j, m'.C b j → b < w'.heap.size) ∧ (∀ b, m'.L b ≠ .no → b < w'.heap.size) ∧
    ResOk m' sp.multi sp.R (splitO sp.R sp.head.objs y).1 v sp.tips ∧ MutsOk m' sp.head.objs (splitO sp.R sp.head.objs y).2
def padA (n : Nat) (args : Array Value) : Array Value := args ++ Array.replicate (n - args.size) undef
def SK.argOk : SK → Bool
  | .dat _ ts => ts.isEmpty
  | .bp _ p _ => p.isEmpty
  | .own _ => false
  | .fnb _ _ => false
  | _ => true
def bpIds : List (Nat × SK) → List Nat
  | [] => []
  | (_, .bp i _ _) :: r => i :: bpIds r
  | _ :: r => bpIds r
def distinctN : List Nat → Bool
  | [] => true
  | n :: r => !hasN n r && distinctN r
def boxAt (i : Nat) : List (Nat × OK) → Option Ty
  | [] => none
  | (j, .box T _) :: r => cond (Nat.beq j i) (some T) (boxAt i r)
  | _ :: _ => none
def bpOk (objs : List (Nat × OK)) : List (Nat × SK) → Bool
  | [] => true
  | (_, .bp i _ T) :: r => (match boxAt i objs with | some U => (tyEq U T).isSome | none => false) && bpOk objs r
  | _ :: r => bpOk objs r
def OK.isBox : OK → Bool
  | .box _ _ => true
  | _ => false
/-- The shape of an entry: no tips among the arguments; pointers to whole boxes, each to one of its own. -/
def Spec.okB (sp : Spec) : Bool :=
  sp.head.slots.all (fun p => p.2.argOk) && (distinctN (bpIds sp.head.slots) && distinctN (sp.head.slots.map (·.1))) && (sp.head.objs.all (fun p => p.2.isBox) && distinctN (sp.head.objs.map (·.1)) && bpOk sp.head.objs sp.head.slots && sp.head.idsOk)
def Sound (P : Program) (G : Nat → Option GV) (f : FuncId) (sp : Spec) : Prop :=
  Enter P f ∧ sp.okB = true ∧ ∀ (m : Mem) (x : sp.head.H) (y : den (outTy sp.R sp.head.objs)) (args : Array Value), args.size = sp.head.slots.length → Rel P G 0 m (sp.head.st x) (padA sp.head.ntmps args) → (∀ id, m.U id → id < sp.head.next) → sp.F x = some y →
    Calls P f args m.w fun e w' => ∃ v, e = .returned v ∧ Post m sp y v w'
structure GOk (P : Program) (G : Nat → Option GV) (Γ : Env) : Prop where
  τ : ∀ t T, Γ.τ t = some T → TyOk P t T
  pts : ∀ t, hasN t Γ.pts = true → ∃ e, P.underlying t = some (.pointer e)
  glob : ∀ g d, Γ.glob g = some d → G g = some (.d d)
  Φ : ∀ f sp, Γ.Φ f = some sp → Sound P G f sp

section
variable {P : Program} {G : Nat → Option GV} {Γ : Env} {m : Mem} {s s' : St} {a : Act}

/-- What an operation that is no call must do. -/
def Goes (P : Program) (G : Nat → Option GV) (vars nid : Nat) (m : Mem) (s' : St) (o : Oper) (a : Act) : Prop :=
  ∃ n v m', (execOp a.eval o).run P m.w = .ok n m'.w ∧ (n = .value v ∨ (n = .skip ∧ v = undef)) ∧ Rel P G vars m' s' (a.put o.dst v).tmps ∧ Fr m m' ∧ ∀ id, m'.U id → m.U id ∨ id = nid
/-- The memory's book is kept anew, the world stays. -/
structure Quiet (m m1 : Mem) : Prop where
  w : m1.w = m.w
  fr : Fr m m1
  U : m1.U = m.U
  tip : ∀ k off e v, TipAt m (.fl k off) e v → TipAt m1 (.fl k off) e v
theorem Quiet.refl (m : Mem) : Quiet m m := ⟨rfl, .refl m, rfl, fun _ _ _ _ h => h⟩
theorem Quiet.trans {m m1 m2 : Mem} (h : Quiet m m1) (k : Quiet m1 m2) : Quiet m m2 :=
  ⟨k.w.trans h.w, h.fr.trans k.fr, k.U.trans h.U, fun a b c d x => k.tip a b c d (h.tip a b c d x)⟩
theorem Quiet.relabel (m : Mem) {ρ : Lab → Lab} (h0 : ρ .no = .no) (hf : ∀ k off, ρ (.fl k off) = .fl k off) : Quiet m (m.relabel ρ) :=
  ⟨rfl, .relabel m h0, rfl, fun k off e v h => by have := h.relabel (ρ := ρ); rwa [hf] at this⟩
theorem ProvOk.to {vars : Nat} {m m' : Mem} (h : m.Keeps m' (Live s)) {d : D} {cs : List Value} {p : Place} (q : ProvOk vars m s d cs p) : ProvOk vars m' s d cs p := by
  cases p with
  | slot k o =>
    refine ⟨q.1, q.2.1, fun off ho e he => ?_⟩
    obtain ⟨v, h1, h2⟩ := q.2.2 off ho e he
    exact ⟨v, h1, h2.to h (show Live s (.ts k off) from ho)⟩
  | box i o =>
    refine ⟨h.U _ q.1, fun off ho h1 h2 e he => ?_⟩
    obtain ⟨v, k1, k2⟩ := q.2 off ho h1 h2 e he
    exact ⟨v, k1, k2.to h (show Live s (.to i off) from ho)⟩
def toTs (d : Nat) : Lab → Lab
  | .fl 0 off => .ts d off
  | l => l
theorem put_tmps (a : Act) (d : Option Nat) (v : Value) : (a.put d v).tmps = match d with | some d => a.tmps.setIfInBounds d v | none => a.tmps := by cases d <;> rfl
theorem set_ok {vars : Nat} (r : Rel P G vars m s a.tmps) {d : Nat} {V : V} {ts : List Nat} {v : Value} (hv : RV P m V v) (ht : ∀ D, datOf V = some D → TipsAt m (.fl 0) D.T (tcells v) ts)
    (hp : s.fresh = true → ∀ D p, V = .dat D (some p) → ProvOk vars m s D (tcells v) p) (hn : s.fresh = true → Nat.testBit vars d = false) :
    ∃ m', m'.w = m.w ∧ Rel P G vars m' { s with slots := setV s.slots d V, stips := setT s.stips d ts } (a.tmps.setIfInBounds d v) ∧ Fr m m' ∧ m'.U = m.U := by
  have hl : ∀ l, Live s l → toTs d l = l := fun l h => by cases l <;> first | rfl | exact h.elim
  have hk : m.Keeps (m.relabel (toTs d)) (Live s) := ⟨(Fr.relabel m rfl).to, r.bC, fun b hb => r.bL b fun e => hb (by simp [Mem.relabel, e, toTs]), fun b hb => ⟨hl _ hb, rfl, fun _ h => h⟩⟩
  refine ⟨m.relabel (toTs d), rfl, (r.relabel rfl hl).setSlot (hv.to hk.toTo) (fun D hD off ho e he => ?_) (fun hf D p hD => (hp hf D p hD).to hk) hn, .relabel m rfl, rfl⟩
  obtain ⟨u, h1, h2⟩ := ht D hD off ho e he
  exact ⟨u, h1, h2.relabel (ρ := toTs d)⟩
theorem dst_ok (r : Rel P G Γ.vars m s a.tmps) {o : Oper} {V : V} {ts : List Nat} {v : Value} {u : Unit} (h : runR (dstM Γ o V ts) s = some (u, s')) (hv : RV P m V v)
    (ht : ∀ D, datOf V = some D → TipsAt m (.fl 0) D.T (tcells v) ts) (hp : s.fresh = true → ∀ D p, V = .dat D (some p) → ProvOk Γ.vars m s D (tcells v) p) :
    ∃ m', m'.w = m.w ∧ Rel P G Γ.vars m' s' (a.put o.dst v).tmps ∧ Fr m m' ∧ m'.U = m.U := by
  unfold dstM at h
  rw [put_tmps]
  cases hd : o.dst with
  | none => simp only [hd] at h; obtain ⟨_, rfl⟩ := ret_inv h; exact ⟨m, rfl, r, .refl m, rfl⟩
  | some d =>
    simp only [hd] at h
    cases hb : Nat.testBit Γ.vars d with
    | true => simp only [hb, cond_true] at h; exact (fail_inv h).elim
    | false =>
      simp only [hb, cond_false] at h
      obtain ⟨m', h1, h2, h3, h4⟩ := set_ok r (d := d) hv ht hp (fun _ => hb)
      exact ⟨m', h1, h2.same (setS_inv h), h3, h4⟩
/-- The end of an operation that yields a value. -/
theorem fin {m1 : Mem} {nid : Nat} (fr : Fr m m1) (hU : ∀ id, m1.U id → m.U id ∨ id = nid) (r : Rel P G Γ.vars m1 s a.tmps) {o : Oper} {V : V} {ts : List Nat} {v : Value} {u : Unit}
    (hrun : (execOp a.eval o).run P m.w = .ok (.value v) m1.w) (h : runR (dstM Γ o V ts) s = some (u, s')) (hv : RV P m1 V v)
    (ht : ∀ D, datOf V = some D → TipsAt m1 (.fl 0) D.T (tcells v) ts) (hp : s.fresh = true → ∀ D p, V = .dat D (some p) → ProvOk Γ.vars m1 s D (tcells v) p) : Goes P G Γ.vars nid m s' o a := by
  obtain ⟨m', h1, h2, h3, h4⟩ := dst_ok r h hv ht hp
  exact ⟨_, v, m', by rw [hrun, h1], .inl rfl, h2, fr.trans h3, fun id hid => hU id (by rw [← h4]; exact hid)⟩
theorem noTips {m : Mem} {lab : Nat → Lab} {cs : List Value} {V : V} : ∀ D, datOf V = some D → TipsAt m lab D.T cs [] := fun _ _ _ h => by cases h
/-- An operation that yields a value and touches nothing. -/
theorem fin0 {nid : Nat} (r : Rel P G Γ.vars m s a.tmps) {o : Oper} {V : V} {v : Value} {u : Unit}
    (hrun : (execOp a.eval o).run P m.w = .ok (.value v) m.w) (h : runR (dstM Γ o V []) s = some (u, s')) (hv : RV P m V v) (hp : ∀ D p, V ≠ .dat D (some p)) : Goes P G Γ.vars nid m s' o a :=
  fin (.refl m) (fun _ h => .inl h) r hrun h hv noTips fun _ D p e => absurd e (hp D p)

theorem opnd_ok (hΓ : GOk P G Γ) {vars : Nat} (r : Rel P G vars m s a.tmps) {x : Operand} {V : V} (h : runR (opnd Γ x) s = some (V, s')) :
    Same s s' ∧ RV P m V (a.eval x) ∧ ∀ t, x = .tmp t → V = nthV s.slots t := by
  cases x with
  | tmp t =>
    obtain ⟨rfl, h2⟩ := getS_inv h
    exact ⟨h2, r.slots t, fun t' e => by cases e; rfl⟩
  | const c =>
    obtain ⟨rfl, rfl⟩ := ret_inv h
    refine ⟨.refl _, ?_, fun _ e => by cases e⟩
    show RV P m (constV c) c
    unfold constV
    split
    · exact .inr ⟨rfl, rfl⟩
    · rfl
    · exact .inr ⟨rfl, rfl⟩
    · rfl
    · trivial
  | global g =>
    simp only [opnd] at h
    split at h
    · rename_i d hd
      obtain ⟨rfl, rfl⟩ := ret_inv h
      exact ⟨.refl _, ⟨⟨g, 0, none⟩, rfl, rfl, r.glob g (.d d) (hΓ.glob g d hd)⟩, fun _ e => by cases e⟩
    · exact (fail_inv h).elim
  | func f =>
    obtain ⟨rfl, rfl⟩ := ret_inv h
    exact ⟨.refl _, ⟨[], rfl, rfl, fun i => by cases i <;> trivial⟩, fun _ e => by cases e⟩
theorem datD_ok {V : V} {d : D} {v : Value} (h : runR (datD V) s = some (d, s')) (hv : RV P m V v) : s' = s ∧ RepV m.w m.C d.T d.x v ∧ (V = .dat d none ∨ (∃ p, V = .dat d p) ∨ ∃ b, V = .kb b ∧ d = ⟨.bool, b⟩) := by
  cases V with
  | dat e p => obtain ⟨rfl, rfl⟩ := ret_inv h; exact ⟨rfl, hv, .inr (.inl ⟨p, rfl⟩)⟩
  | kb b =>
    obtain ⟨rfl, rfl⟩ := ret_inv h
    have : v = .bool b := hv
    subst this
    exact ⟨rfl, .inr ⟨rfl, rfl⟩, .inr (.inr ⟨b, rfl, rfl⟩)⟩
  | _ => exact (fail_inv h).elim
theorem asIntV_ok {V : V} {q : IntKind × Int} {v : Value} (h : runR (asIntV V) s = some (q, s')) (hv : RV P m V v) : s' = s ∧ v = .int q.1 q.2 := by
  unfold asIntV at h
  split at h
  · obtain ⟨rfl, rfl⟩ := ret_inv h
    refine ⟨rfl, ?_⟩
    rcases hv with ⟨h1, _⟩ | ⟨_, h2⟩
    · cases h1
    · simpa [Rep] using h2
  · exact (fail_inv h).elim
theorem RepV.int_eq {w : World} {C : Cells} {k : IntKind} {n : Int} {v : Value} (h : RepV w C (.int k) n v) : v = .int k n := by
  rcases h with ⟨h1, _⟩ | ⟨_, h2⟩
  · cases h1
  · simpa [Rep] using h2
theorem RepV.bool_eq {w : World} {C : Cells} {b : Bool} {v : Value} (h : RepV w C .bool b v) : v = .bool b := by
  rcases h with ⟨h1, _⟩ | ⟨_, h2⟩
  · cases h1
  · simpa [Rep] using h2
theorem RepV.str_eq {w : World} {C : Cells} {b : List UInt8} {v : Value} (h : RepV w C .str b v) : v = .string ⟨b.toArray⟩ := by
  rcases h with ⟨h1, _⟩ | ⟨_, h2⟩
  · cases h1
  · simpa [Rep] using h2
theorem RepV.int {w : World} {C : Cells} (k : IntKind) (n : Int) : RepV w C (.int k) n (.int k n) := .inr ⟨rfl, rfl⟩
theorem RepV.bool {w : World} {C : Cells} (b : Bool) : RepV w C .bool b (.bool b) := .inr ⟨rfl, rfl⟩
theorem RepV.str {w : World} {C : Cells} (b : List UInt8) : RepV w C .str b (.string ⟨b.toArray⟩) := .inr ⟨rfl, rfl⟩
theorem boolV_ok {V : V} {b : Bool} {v : Value} (h : runR (boolV V) s = some (b, s')) (hv : RV P m V v) : s' = s ∧ v = .bool b := by
  unfold boolV at h
  split at h
  · obtain ⟨rfl, rfl⟩ := ret_inv h; exact ⟨rfl, RepV.bool_eq hv⟩
  · obtain ⟨rfl, rfl⟩ := ret_inv h; exact ⟨rfl, hv⟩
  · exact (fail_inv h).elim
theorem chkT_inv (hΓ : GOk P G Γ) {t : TypeId} {T : Ty} {u : Unit} (h : runR (chkT Γ t T) s = some (u, s')) : TyOk P t T ∧ s' = s := by
  unfold chkT at h
  split at h
  · rename_i U hU
    split at h
    · rename_i e _
      obtain ⟨e⟩ := e
      obtain ⟨_, rfl⟩ := ret_inv h
      exact ⟨e ▸ hΓ.τ t U hU, rfl⟩
    · exact (fail_inv h).elim
  · exact (fail_inv h).elim
theorem mergeD_true {x y d : D} (h : mergeD true x y = some d) : d = x := by
  unfold mergeD at h
  split at h
  · cases h; rfl
  · cases h
theorem mergeD_false {x y d : D} (h : mergeD false x y = some d) : d = y := by
  unfold mergeD at h
  split at h
  · rename_i e _
    obtain ⟨T, x⟩ := x
    obtain ⟨U, y⟩ := y
    simp only at e
    subst e
    cases h; rfl
  · cases h
theorem kb_dat (b : Bool) (p) (hp : p = none) : VLe (.kb b) (.dat ⟨.bool, b⟩ p) :=
  ⟨fun P m v h => by have : v = .bool b := h; subst this; exact RepV.bool b, fun d' h => .inr (by simp [datOf] at h; subst h; rfl), fun d q h => by cases h; cases hp⟩
theorem dat_none (d : D) (p) : VLe (.dat d p) (.dat d none) := ⟨fun _ _ _ h => h, fun _ h => .inl h, fun _ _ h => by cases h⟩
theorem merge_true : ∀ (V W : XE.V), VLe V (mergeV true V W) := fun V W => by
  unfold mergeV
  split
  · split
    · rename_i d h; rw [mergeD_true h]; exact dat_none _ _
    · exact .bot _
  · split
    · rename_i d h; rw [mergeD_true h]; exact dat_none _ _
    · exact .bot _
  · split
    · rename_i d h; rw [mergeD_true h]; exact kb_dat _ _ rfl
    · exact .bot _
  · exact kb_dat _ _ rfl
  · split
    · rename_i d h; rw [mergeD_true h]; exact .refl _
    · exact .bot _
  · split
    · cases (Nat.beq _ _ && beqNats _ _) <;> first | exact .bot _ | exact .refl _
    · exact .bot _
  · cases Nat.beq _ _ <;> first | exact .bot _ | exact .refl _
  · exact .bot _
theorem beqNats_eq : ∀ {a b : List Nat}, beqNats a b = true → a = b
  | [], [], _ => rfl
  | x :: a, y :: b, h => by
    simp only [beqNats, Bool.and_eq_true] at h
    rw [Nat.eq_of_beq_eq_true h.1, beqNats_eq h.2]
  | [], _ :: _, h => by simp [beqNats] at h
  | _ :: _, [], h => by simp [beqNats] at h
theorem merge_false : ∀ (V W : XE.V), VLe W (mergeV false V W) := fun V W => by
  unfold mergeV
  split
  · split
    · rename_i d h; rw [mergeD_false h]; exact dat_none _ _
    · exact .bot _
  · split
    · rename_i d h; rw [mergeD_false h]; exact kb_dat _ _ rfl
    · exact .bot _
  · split
    · rename_i d h; rw [mergeD_false h]; exact dat_none _ _
    · exact .bot _
  · exact kb_dat _ _ rfl
  · split
    · rename_i d h; rw [mergeD_false h]; exact .refl _
    · exact .bot _
  · split
    · rename_i i p T j q U _ e _
      obtain ⟨e⟩ := e
      subst e
      cases h : (Nat.beq i j && beqNats p q)
      · exact .bot _
      · simp only [Bool.and_eq_true] at h
        rw [Nat.eq_of_beq_eq_true h.1, beqNats_eq h.2]
        exact .refl _
    · exact .bot _
  · rename_i i j
    cases h : Nat.beq i j
    · exact .bot _
    · rw [Nat.eq_of_beq_eq_true h]; exact .refl _
  · exact .bot _

/-! ### The operations -/
theorem move_ok (hΓ : GOk P G Γ) (r : Rel P G Γ.vars m s a.tmps) {o : Oper} {nid : Nat} {x : Operand} (ho : o.op = .move x) {u : Unit} (h : runR (evOp Γ o nid) s = some (u, s')) : Goes P G Γ.vars nid m s' o a := by
  have hrun : (execOp a.eval o).run P m.w = .ok (.value (a.eval x)) m.w := by simp [execOp, ho]
  simp only [evOp, ho] at h
  obtain ⟨V, s1, h1, h2⟩ := bind_inv h
  obtain ⟨k1, k2, k3⟩ := opnd_ok hΓ r h1
  have r1 := r.same k1
  have gen : ∀ V', (∀ D p, V' ≠ .dat D (some p)) → V = V' → runR (dstM Γ o V' []) s1 = some (u, s') → Goes P G Γ.vars nid m s' o a := fun V' hn e h => by
    subst e; exact fin0 r1 hrun h k2 hn
  cases x with
  | tmp t =>
    have hV := k3 t rfl
    cases V with
    | dat d p =>
      cases p with
      | none =>
        refine fin (.refl m) (fun _ h => .inl h) r1 hrun h2 k2 noTips fun hf D p e => ?_
        cases hb : Nat.testBit Γ.vars t with
        | false => simp [hb] at e
        | true =>
          simp [hb] at e
          obtain ⟨rfl, rfl⟩ := e
          refine ⟨rfl, hb, fun off ho e he => ?_⟩
          exact r1.stips t d (by rw [k1.slots, ← hV]; rfl) off ho e he
      | some p =>
        refine fin (.refl m) (fun _ h => .inl h) r1 hrun h2 k2 noTips fun hf D p e => ?_
        cases e
        exact r1.prov hf t _ _ (by rw [k1.slots, ← hV])
    | _ => exact gen _ (fun _ _ h => by cases h) rfl h2
  | const c =>
    refine gen V (fun D p e => ?_) rfl ?_
    · obtain ⟨e2, _⟩ := ret_inv h1
      rw [e] at e2
      unfold constV at e2
      split at e2 <;> cases e2
    · cases V with
      | dat d p => cases p <;> exact h2
      | _ => exact h2
  | global g =>
    refine gen V (fun D p e => ?_) rfl ?_
    · simp only [opnd] at h1
      split at h1
      · obtain ⟨e2, _⟩ := ret_inv h1
        rw [e] at e2; cases e2
      · exact (fail_inv h1).elim
    · cases V with
      | dat d p => cases p <;> exact h2
      | _ => exact h2
  | func f =>
    refine gen V (fun D p e => ?_) rfl ?_
    · obtain ⟨e2, _⟩ := ret_inv h1
      rw [e] at e2; cases e2
    · cases V with
      | dat d p => cases p <;> exact h2
      | _ => exact h2
end
end Go.XE
/- Operations, part B: tips; operations that yield a value out of what is there. -/
namespace Go.XE
section
variable {P : Program} {G : Nat → Option GV} {Γ : Env} {m : Mem} {s s' : St} {a : Act}

theorem hasN_mem {n : Nat} : ∀ {l : List Nat}, hasN n l = true ↔ n ∈ l
  | [] => by simp [hasN]
  | x :: r => by
    simp only [hasN, Bool.or_eq_true, List.mem_cons, hasN_mem (l := r)]
    constructor
    · rintro (h | h)
      · exact .inl (Nat.eq_of_beq_eq_true h).symm
      · exact .inr h
    · rintro (rfl | h)
      · exact .inl (by simp)
      · exact .inr h
theorem mem_inRange {o n t : Nat} : ∀ {l : List Nat}, t ∈ inRange o n l ↔ o + t ∈ l ∧ t < n
  | [] => by simp [inRange]
  | x :: r => by
    have ih := mem_inRange (o := o) (n := n) (t := t) (l := r)
    simp only [inRange]
    cases h : (Nat.ble o x && Nat.blt x (o + n))
    · simp only [cond_false, List.mem_cons, ih]
      have : ¬ (o ≤ x ∧ x < o + n) := fun ⟨h1, h2⟩ => by
        have : (Nat.ble o x && Nat.blt x (o + n)) = true := by simp [Nat.ble_eq, Nat.blt_eq, h1, h2]
        rw [h] at this; cases this
      constructor
      · rintro ⟨h1, h2⟩; exact ⟨.inr h1, h2⟩
      · rintro ⟨h1 | h1, h2⟩
        · omega
        · exact ⟨h1, h2⟩
    · simp only [Bool.and_eq_true, Nat.ble_eq, Nat.blt_eq] at h
      simp only [cond_true, List.mem_cons, ih]
      constructor
      · rintro (h1 | ⟨h1, h2⟩)
        · exact ⟨.inl (by omega), by omega⟩
        · exact ⟨.inr h1, h2⟩
      · rintro ⟨h1 | h1, h2⟩
        · exact .inl (by omega)
        · exact .inr ⟨h1, h2⟩
theorem mem_outRange {o n t : Nat} : ∀ {l : List Nat}, t ∈ outRange o n l ↔ t ∈ l ∧ ¬ (o ≤ t ∧ t < o + n)
  | [] => by simp [outRange]
  | x :: r => by
    have ih := mem_outRange (o := o) (n := n) (t := t) (l := r)
    simp only [outRange]
    cases h : (Nat.ble o x && Nat.blt x (o + n))
    · simp only [cond_false, List.mem_cons, ih]
      have : ¬ (o ≤ x ∧ x < o + n) := fun ⟨h1, h2⟩ => by
        have : (Nat.ble o x && Nat.blt x (o + n)) = true := by simp [Nat.ble_eq, Nat.blt_eq, h1, h2]
        rw [h] at this; cases this
      constructor
      · rintro (rfl | ⟨h1, h2⟩)
        · exact ⟨.inl rfl, this⟩
        · exact ⟨.inr h1, h2⟩
      · rintro ⟨h1 | h1, h2⟩
        · exact .inl h1
        · exact .inr ⟨h1, h2⟩
    · simp only [Bool.and_eq_true, Nat.ble_eq, Nat.blt_eq] at h
      simp only [cond_true, List.mem_cons, ih]
      constructor
      · rintro ⟨h1, h2⟩; exact ⟨.inr h1, h2⟩
      · rintro ⟨h1 | h1, h2⟩
        · exact absurd (h1 ▸ h) h2
        · exact ⟨h1, h2⟩
theorem mem_shiftN {o t : Nat} : ∀ {l : List Nat}, t ∈ shiftN o l ↔ ∃ u ∈ l, t = o + u
  | [] => by simp [shiftN]
  | x :: r => by simp [shiftN, mem_shiftN (l := r)]

/-! ### Tips, taken -/
def takeTs (t : Nat) : Lab → Lab
  | .ts n off => if n = t then .fl 0 off else .ts n off
  | l => l
theorem takeTips_ok {vars : Nat} (r : Rel P G vars m s a.tmps) {x : Operand} {ts : List Nat} (h : runR (takeTips x) s = some (ts, s')) :
    ∃ m1, Quiet m m1 ∧ Rel P G vars m1 s' a.tmps ∧ s'.slots = s.slots ∧ s'.fresh = s.fresh ∧ s'.objs = s.objs ∧ s'.otips = s.otips ∧
      ∀ t, x = .tmp t → ∀ d, datOf (nthV s.slots t) = some d → TipsAt m1 (.fl 0) d.T (tcells (a.eval x)) ts := by
  have none : ts = [] → Same s s' → ∃ m1, Quiet m m1 ∧ Rel P G vars m1 s' a.tmps ∧ s'.slots = s.slots ∧ s'.fresh = s.fresh ∧ s'.objs = s.objs ∧ s'.otips = s.otips ∧
      ∀ t, x = .tmp t → ∀ d, datOf (nthV s.slots t) = some d → TipsAt m1 (.fl 0) d.T (tcells (a.eval x)) ts := fun e hs =>
    ⟨m, .refl m, r.same hs, hs.slots, hs.fresh, hs.objs, hs.otips, fun t _ d _ off ho => by rw [e] at ho; cases ho⟩
  cases x with
  | tmp t =>
    simp only [takeTips] at h
    obtain ⟨us, s1, h1, h2⟩ := bind_inv h
    obtain ⟨rfl, k1⟩ := getST_inv h1
    split at h2
    · obtain ⟨rfl, rfl⟩ := ret_inv h2
      exact none rfl k1
    · obtain ⟨u, s2, h3, h4⟩ := bind_inv h2
      obtain ⟨rfl, rfl⟩ := ret_inv h4
      have k2 := putST_inv h3
      have r1 := r.same k1
      have le : s1.Le { s1 with stips := setT s1.stips t [] } := ⟨fun _ => .refl _, Nat.le_refl _, fun n off ho => by
        simp only [nthT_setT] at ho
        split at ho
        · cases ho
        · exact ho, fun id o h => ⟨o, h, .refl _ _⟩, fun _ _ h => h, fun h => h⟩
      have r2 := (r1.le le).same k2
      have hl : ∀ l, Live s' l → takeTs t l = l := fun l hl => by
        cases l with
        | ts n off =>
          by_cases e : n = t
          · subst e
            have : off ∈ nthT s'.stips n := hl
            rw [k2.stips] at this
            simp only [nthT_setT] at this
            split at this
            · cases this
            · rename_i hc
              have h7 : ¬ n < s1.stips.length := fun hx => hc (by simp [hx])
              rw [nthT_of_le _ _ (by omega)] at this
              cases this
          · simp [takeTs, e]
        | _ => rfl
      refine ⟨m.relabel (takeTs t), .relabel m rfl fun _ _ => rfl, r2.relabel rfl hl, k2.slots.trans k1.slots, k2.fresh.trans k1.fresh, k2.objs.trans k1.objs, k2.otips.trans k1.otips, fun t' e d hd off ho e' he' => ?_⟩
      cases e
      obtain ⟨v, k3, k4⟩ := r.stips t d hd off ho e' he'
      exact ⟨v, k3, by simpa [takeTs] using k4.relabel (ρ := takeTs t)⟩
  | const c => simp only [takeTips] at h; obtain ⟨e, rfl⟩ := ret_inv h; exact none e (.refl _)
  | global c => simp only [takeTips] at h; obtain ⟨e, rfl⟩ := ret_inv h; exact none e (.refl _)
  | func c => simp only [takeTips] at h; obtain ⟨e, rfl⟩ := ret_inv h; exact none e (.refl _)
def stealS (k n : Nat) : Lab → Lab
  | .ts k' off => if k' = k ∧ off < n then .fl 0 off else .ts k' off
  | l => l
def stealO (i o n : Nat) : Lab → Lab
  | .to i' off => if i' = i ∧ o ≤ off ∧ off < o + n then .fl 0 (off - o) else .to i' off
  | l => l
theorem steal_ok {vars : Nat} (r : Rel P G vars m s a.tmps) {T : Ty} {d : D} (hT : T.size = d.T.size) {p : Option Place} {t : Nat} (hV : nthV s.slots t = .dat d p) {ts : List Nat} (h : runR (steal T p) s = some (ts, s')) :
    ∃ m1, Quiet m m1 ∧ Rel P G vars m1 s' a.tmps ∧ s'.slots = s.slots ∧ s'.fresh = s.fresh ∧ s'.objs = s.objs ∧ TipsAt m1 (.fl 0) d.T (tcells (a.tmps.getD t undef)) ts := by
  cases p with
  | none => simp only [steal] at h; obtain ⟨rfl, rfl⟩ := ret_inv h; exact ⟨m, .refl m, r, rfl, rfl, rfl, fun off ho => by cases ho⟩
  | some p =>
    cases p with
    | slot k o =>
      simp only [steal] at h
      obtain ⟨f, s1, h1, h2⟩ := bind_inv h
      obtain ⟨rfl, k1⟩ := getF_inv h1
      cases hf : s.fresh with
      | false => simp only [hf, cond_false] at h2; obtain ⟨rfl, rfl⟩ := ret_inv h2; exact ⟨m, .refl m, r.same k1, k1.slots, hf ▸ k1.fresh, k1.objs, fun off ho => by cases ho⟩
      | true =>
        simp only [hf, cond_true] at h2
        obtain ⟨us, s2, h3, h4⟩ := bind_inv h2
        obtain ⟨rfl, k2⟩ := getST_inv h3
        obtain ⟨_, s3, h5, h6⟩ := bind_inv h4
        have k3 := putST_inv h5
        obtain ⟨rfl, rfl⟩ := ret_inv h6
        have k12 := k1.trans k2
        obtain ⟨rfl, hk, q⟩ := r.prov hf t d _ hV
        have e1 : nthT s1.stips k = nthT s.stips k := by rw [k1.stips]
        have le : s2.Le { s2 with stips := setT s2.stips k (outRange 0 T.size (nthT s1.stips k)) } := ⟨fun _ => .refl _, Nat.le_refl _, fun n off ho => by
          simp only [nthT_setT] at ho
          split at ho
          · rename_i hc; rw [hc.1, k2.stips]; exact (mem_outRange.1 ho).1
          · exact ho, fun id o h => ⟨o, h, .refl _ _⟩, fun _ _ h => h, fun h => h⟩
        have r2 := ((r.same k12).le le).same k3
        have hl : ∀ l, Live s' l → stealS k T.size l = l := fun l hl => by
          cases l with
          | ts n off =>
            by_cases e : n = k ∧ off < T.size
            · obtain ⟨rfl, e⟩ := e
              have : off ∈ nthT s'.stips n := hl
              rw [k3.stips] at this
              simp only [nthT_setT] at this
              split at this
              · exact absurd ⟨Nat.zero_le _, by simpa using e⟩ (mem_outRange.1 this).2
              · rename_i hc
                have h7 : ¬ n < s2.stips.length := fun hx => hc (by simp [hx])
                rw [nthT_of_le _ _ (by omega)] at this
                cases this
            · simp [stealS, e]
          | _ => rfl
        refine ⟨m.relabel (stealS k T.size), .relabel m rfl fun _ _ => rfl, r2.relabel rfl hl, k3.slots.trans k12.slots, (k3.fresh.trans k12.fresh).trans hf, k3.objs.trans k12.objs, fun off ho e' he' => ?_⟩
        obtain ⟨h7, h8⟩ := mem_inRange.1 ho
        rw [Nat.zero_add, e1] at h7
        obtain ⟨v, k3, k4⟩ := q off h7 e' he'
        exact ⟨v, k3, by simpa [stealS, h8] using k4.relabel (ρ := stealS k T.size)⟩
    | box i o =>
      simp only [steal] at h
      obtain ⟨f, s1, h1, h2⟩ := bind_inv h
      obtain ⟨rfl, k1⟩ := getF_inv h1
      cases hf : s.fresh with
      | false => simp only [hf, cond_false] at h2; obtain ⟨rfl, rfl⟩ := ret_inv h2; exact ⟨m, .refl m, r.same k1, k1.slots, hf ▸ k1.fresh, k1.objs, fun off ho => by cases ho⟩
      | true =>
        simp only [hf, cond_true] at h2
        obtain ⟨us, s2, h3, h4⟩ := bind_inv h2
        obtain ⟨rfl, k2⟩ := getOT_inv h3
        obtain ⟨_, s3, h5, h6⟩ := bind_inv h4
        have k3 := putOT_inv h5
        obtain ⟨rfl, rfl⟩ := ret_inv h6
        have k12 := k1.trans k2
        obtain ⟨hu, q⟩ := r.prov hf t d _ hV
        have e1 : lookT i s1.otips = lookT i s.otips := by rw [k1.otips]
        have le : s2.Le { s2 with otips := setTips i (outRange o T.size (lookT i s1.otips)) s2.otips } := ⟨fun _ => .refl _, Nat.le_refl _, fun _ _ h => h, fun id o h => ⟨o, h, .refl _ _⟩, fun n off ho => by
          simp only [lookT_setTips] at ho
          split at ho
          · rename_i hc; rw [hc, k2.otips]; exact (mem_outRange.1 ho).1
          · exact ho, fun h => h⟩
        have r2 := ((r.same k12).le le).same k3
        have hl : ∀ l, Live s' l → stealO i o T.size l = l := fun l hl => by
          cases l with
          | «to» n off =>
            by_cases e : n = i ∧ o ≤ off ∧ off < o + T.size
            · obtain ⟨rfl, e⟩ := e
              have : off ∈ lookT n s'.otips := hl
              rw [k3.otips] at this
              simp only [lookT_setTips, if_true] at this
              exact absurd e (mem_outRange.1 this).2
            · simp [stealO, e]
          | _ => rfl
        refine ⟨m.relabel (stealO i o T.size), .relabel m rfl fun _ _ => rfl, r2.relabel rfl hl, k3.slots.trans k12.slots, (k3.fresh.trans k12.fresh).trans hf, k3.objs.trans k12.objs, fun off ho e' he' => ?_⟩
        obtain ⟨h7, h8⟩ := mem_inRange.1 ho
        rw [e1] at h7
        obtain ⟨v, k3, k4⟩ := q (o + off) h7 (by omega) (by omega) e' (by simpa using he')
        refine ⟨v, by simpa using k3, ?_⟩
        have := k4.relabel (ρ := stealO i o T.size)
        simpa [stealO, h8] using this
/-! ### Data -/
theorem keeps_write {vars : Nat} {tm : Array Value} (r : Rel P G vars m s tm) {w' : World} {b : Nat} {X : Nat → Prop} (h : Wrote m w' b X) : m.Keeps (m.write w' b X) (fun l => l ≠ m.L b) := by
  have hb : b < m.w.heap.size := by
    obtain ⟨cur, cur', et, f', h1, _⟩ := h.row
    exact (Array.getElem?_eq_some_iff.1 h1).1
  refine ⟨(Fr.write h).to, fun b' j hc => ?_, fun b' hb' => ?_, fun b' hb' => ?_⟩
  · show b' < w'.heap.size
    rw [h.size]
    rcases hc with hc | ⟨rfl, _⟩
    · exact r.bC b' j hc
    · exact hb
  · show b' < w'.heap.size
    rw [h.size]
    exact r.bL b' hb'
  · have e : b' ≠ b := fun e => hb' (by rw [e])
    exact ⟨rfl, h.old b' e, fun j hc => hc.resolve_right fun h => e h.1⟩
theorem asD_ok {vars : Nat} (r : Rel P G vars m s a.tmps) {V : V} {d : D} {v : Value} (h : runR (asD V) s = some (d, s')) (hv : RV P m V v) :
    ∃ m1, Quiet m m1 ∧ Rel P G vars m1 s' a.tmps ∧ RepV m1.w m1.C d.T d.x v ∧ s'.slots = s.slots ∧ s'.stips = s.stips ∧ s'.fresh = s.fresh ∧ ((∃ p, V = .dat d p) ∨ datOf V = none) := by
  cases V with
  | dat e p => obtain ⟨rfl, rfl⟩ := ret_inv h; exact ⟨m, .refl m, r, hv, rfl, rfl, rfl, .inl ⟨p, rfl⟩⟩
  | kb b =>
    obtain ⟨rfl, rfl⟩ := ret_inv h
    have : v = .bool b := hv
    subst this
    exact ⟨m, .refl m, r, RepV.bool b, rfl, rfl, rfl, .inr rfl⟩
  | own i =>
    simp only [asD] at h
    obtain ⟨o, s1, h1, h2⟩ := bind_inv h
    obtain ⟨h3, k1⟩ := getO_inv h1
    obtain ⟨hu, hv⟩ := hv
    split at h2
    · rename_i e xs fr
      obtain ⟨_, s2, h4, h5⟩ := bind_inv h2
      obtain ⟨rfl, rfl⟩ := ret_inv h5
      have k2 := setO_inv h4
      obtain ⟨_, ok⟩ := r.objs i _ h3
      obtain ⟨g1, g2, g3, g4, g5, g6, cur, et, g7, g8, g9⟩ := ok
      have wr : Wrote m m.w (m.ad i).b (fun _ => True) := .same g7 fun j _ => g5 j
      have r1 := r.le (le_noObj s i)
      have r2 := r1.write wr (by rw [g3]; exact dead_noObj s i)
      have kp := keeps_write r wr
      have ok2 : ObjOk (m.write m.w (m.ad i).b fun _ => True) i (.arr e xs true) := by
        refine ⟨g1, g2, g3, g4, g5, fun h => (by cases h), cur, et, g7, g8, fun j y hy => ?_⟩
        obtain ⟨us, q1, q2⟩ := g9 j y hy
        exact ⟨us, q1, kp.toTo.rep q2⟩
      have r3 := r2.putObj (id := i) hu ok2 (fun d h => by cases h)
      have hs : Same { s with objs := setObj i (some (.arr e xs true)) s.objs } s' := by
        have := k1.objs
        exact ⟨k2.slots.trans k1.slots, k2.stips.trans k1.stips, k2.objs.trans (by simp only [k1.objs]), k2.otips.trans k1.otips, k2.fresh.trans k1.fresh⟩
      refine ⟨m.write m.w (m.ad i).b fun _ => True, ⟨rfl, .write wr, rfl, fun k off e v ht => ht.to kp (by rw [g3]; intro h; cases h)⟩, (r3.le (le_again s i _)).same hs, .inr ⟨rfl, ?_⟩, hs.slots, hs.stips, hs.fresh, .inr rfl⟩
      subst hv
      subst g1
      rw [g2]
      refine ⟨_, _, rfl, Nat.le_refl _, fun h => (by cases h), fun ad had => ?_⟩
      cases had
      refine ⟨fun _ => rfl, fun j y hy => ?_⟩
      obtain ⟨us, q1, q2⟩ := g9 j y hy
      exact ⟨us, by rw [Nat.zero_add]; exact q1, fun k _ => .inr ⟨rfl, trivial⟩, kp.toTo.rep q2⟩
    · exact (fail_inv h2).elim
  | _ => exact (fail_inv h).elim
end
end Go.XE
/- Operations, part C: arithmetic, comparisons, texts, parts of values, addresses, loads. -/
namespace Go.XE
section
variable {P : Program} {G : Nat → Option GV} {Γ : Env} {m : Mem} {s s' : St} {a : Act}

theorem asT_ok {vars : Nat} (r : Rel P G vars m s a.tmps) {T : Ty} {V : V} {y : den T} {v : Value} (h : runR (asT T V) s = some (y, s')) (hv : RV P m V v) :
    ∃ m1, Quiet m m1 ∧ Rel P G vars m1 s' a.tmps ∧ RepV m1.w m1.C T y v ∧ s'.slots = s.slots ∧ s'.stips = s.stips ∧ s'.fresh = s.fresh ∧
      (V = .nilsl ∧ v = .slice none 0 0 ∨ (∃ p, V = .dat ⟨T, y⟩ p) ∨ datOf V = none) := by
  unfold asT at h
  split at h
  · obtain ⟨rfl, rfl⟩ := ret_inv h
    have : v = .slice none 0 0 := hv
    subst this
    exact ⟨m, .refl m, r, .inr ⟨rfl, none, 0, rfl, Nat.le_refl _, fun _ => rfl, fun a h => by cases h⟩, rfl, rfl, rfl, .inl ⟨rfl, rfl⟩⟩
  · obtain ⟨d, s1, h1, h2⟩ := bind_inv h
    obtain ⟨h3, rfl⟩ := lift_inv h2
    obtain ⟨m1, k1, k2, k3, k4, k5, k6, k7⟩ := asD_ok r h1 hv
    have := as_eq h3
    subst this
    exact ⟨m1, k1, k2, k3, k4, k5, k6, .inr k7⟩

/-! ### Operators -/
theorem strLess_eq : ∀ (a b : List UInt8), strLess a b = Op.bytesLess a b
  | _, [] => by simp [strLess, Op.bytesLess]
  | [], _ :: _ => by simp [strLess, Op.bytesLess]
  | a :: x, b :: y => by simp [strLess, Op.bytesLess, strLess_eq x y]
theorem guard_int (op : BinOp) (t : TypeId) (x y : Operand) (j k : IntKind) (p q : Int) (w : World) : (eqGuard op t x y (.int j p) (.int k q)).run P w = .ok () w := by
  cases op <;> simp [eqGuard]
theorem guard_str (op : BinOp) (t : TypeId) (x y : Operand) (p q : ByteArray) (w : World) : (eqGuard op t x y (.string p) (.string q)).run P w = .ok () w := by
  cases op <;> simp [eqGuard]
theorem guard_bool (op : BinOp) (t : TypeId) (x y : Operand) (p q : Bool) (w : World) : (eqGuard op t x y (.bool p) (.bool q)).run P w = .ok () w := by
  cases op <;> simp [eqGuard]
theorem intOp_ok {op : BinOp} {k : IntKind} {x y : Int} {d : D} (h : runR (intOp op k x y) s = some (d, s')) (t : TypeId) (w : World) (C : Cells) :
    s' = s ∧ ∃ v, (binOp op t (.int k x) (.int k y)).run P w = .ok v w ∧ RepV w C d.T d.x v := by
  have one : ∀ {z : Int}, d = ⟨.int k, z⟩ → s' = s → (binOp op t (.int k x) (.int k y)).run P w = .ok (.int k z) w → s' = s ∧ ∃ v, (binOp op t (.int k x) (.int k y)).run P w = .ok v w ∧ RepV w C d.T d.x v :=
    fun e hs hr => ⟨hs, _, hr, e ▸ RepV.int _ _⟩
  have two : ∀ {z : Bool}, d = ⟨.bool, z⟩ → s' = s → (binOp op t (.int k x) (.int k y)).run P w = .ok (.bool z) w → s' = s ∧ ∃ v, (binOp op t (.int k x) (.int k y)).run P w = .ok v w ∧ RepV w C d.T d.x v :=
    fun e hs hr => ⟨hs, _, hr, e ▸ RepV.bool _⟩
  cases op <;> simp only [intOp] at h
  case quo =>
    obtain ⟨_, s1, h1, h2⟩ := bind_inv h
    obtain ⟨h3, rfl⟩ := need_inv h1
    obtain ⟨rfl, rfl⟩ := ret_inv h2
    have : y ≠ 0 := by simpa using h3
    exact one rfl rfl (by simp [binOp, Op.intDiv, this])
  case rem =>
    obtain ⟨_, s1, h1, h2⟩ := bind_inv h
    obtain ⟨h3, rfl⟩ := need_inv h1
    obtain ⟨rfl, rfl⟩ := ret_inv h2
    have : y ≠ 0 := by simpa using h3
    exact one rfl rfl (by simp [binOp, Op.intDiv, this])
  case and => obtain ⟨rfl, rfl⟩ := ret_inv h; exact one rfl rfl (by simp [binOp, Op.intBits, bitsOp])
  case or => obtain ⟨rfl, rfl⟩ := ret_inv h; exact one rfl rfl (by simp [binOp, Op.intBits, bitsOp])
  case xor => obtain ⟨rfl, rfl⟩ := ret_inv h; exact one rfl rfl (by simp [binOp, Op.intBits, bitsOp])
  case andNot => obtain ⟨rfl, rfl⟩ := ret_inv h; exact one rfl rfl (by simp [binOp, Op.intBits, bitsOp])
  case add => obtain ⟨rfl, rfl⟩ := ret_inv h; exact one rfl rfl (by simp [binOp, Op.intArith])
  case sub => obtain ⟨rfl, rfl⟩ := ret_inv h; exact one rfl rfl (by simp [binOp, Op.intArith])
  case mul => obtain ⟨rfl, rfl⟩ := ret_inv h; exact one rfl rfl (by simp [binOp, Op.intArith])
  case eql => obtain ⟨rfl, rfl⟩ := ret_inv h; exact two rfl rfl (by simp [binOp, Op.intCmp])
  case neq => obtain ⟨rfl, rfl⟩ := ret_inv h; exact two rfl rfl (by simp [binOp, Op.intCmp])
  case lss => obtain ⟨rfl, rfl⟩ := ret_inv h; exact two rfl rfl (by simp [binOp, Op.intCmp])
  case leq => obtain ⟨rfl, rfl⟩ := ret_inv h; exact two rfl rfl (by simp [binOp, Op.intCmp])
  case gtr => obtain ⟨rfl, rfl⟩ := ret_inv h; exact two rfl rfl (by simp [binOp, Op.intCmp])
  case geq => obtain ⟨rfl, rfl⟩ := ret_inv h; exact two rfl rfl (by simp [binOp, Op.intCmp])
  all_goals exact (fail_inv h).elim
theorem strOp_ok {op : BinOp} {x y : List UInt8} {d : D} (h : runR (strOp op x y) s = some (d, s')) (t : TypeId) (w : World) (C : Cells) :
    s' = s ∧ ∃ v, (binOp op t (.string ⟨x.toArray⟩) (.string ⟨y.toArray⟩)).run P w = .ok v w ∧ RepV w C d.T d.x v := by
  cases op <;> simp only [strOp] at h
  case add =>
    obtain ⟨_, s1, h1, h2⟩ := bind_inv h
    obtain ⟨h3, rfl⟩ := need_inv h1
    obtain ⟨rfl, rfl⟩ := ret_inv h2
    have : x.length + y.length ≤ 4294967296 := by simpa [lim, Nat.ble_eq] using h3
    refine ⟨rfl, _, ?_, RepV.str _⟩
    have h9 : ¬ (((ByteArray.mk x.toArray).size + (ByteArray.mk y.toArray).size : Nat) : Int) > IntKind.i64.max := by
      simp only [ByteArray.size_mk', List.size_toArray, IntKind.max, IntKind.signed, IntKind.bits, if_true]; omega
    rw [binOp_string_add]
    simp only [Op.stringOp, h9, if_false, Sem.run_pure, ByteArray.mk_append_mk]
  case eql => obtain ⟨rfl, rfl⟩ := ret_inv h; exact ⟨rfl, _, by simp [binOp, Op.stringOp], RepV.bool _⟩
  case neq => obtain ⟨rfl, rfl⟩ := ret_inv h; exact ⟨rfl, _, by simp [binOp, Op.stringOp], RepV.bool _⟩
  case lss => obtain ⟨rfl, rfl⟩ := ret_inv h; rw [strLess_eq]; exact ⟨rfl, _, by simp [binOp, Op.stringOp], RepV.bool _⟩
  case leq => obtain ⟨rfl, rfl⟩ := ret_inv h; rw [strLess_eq]; exact ⟨rfl, _, by simp [binOp, Op.stringOp], RepV.bool _⟩
  case gtr => obtain ⟨rfl, rfl⟩ := ret_inv h; rw [strLess_eq]; exact ⟨rfl, _, by simp [binOp, Op.stringOp], RepV.bool _⟩
  case geq => obtain ⟨rfl, rfl⟩ := ret_inv h; rw [strLess_eq]; exact ⟨rfl, _, by simp [binOp, Op.stringOp], RepV.bool _⟩
  all_goals exact (fail_inv h).elim
theorem binOp_ok (hΓ : GOk P G Γ) (r : Rel P G Γ.vars m s a.tmps) {o : Oper} {nid : Nat} {op : BinOp} {t t2 : TypeId} {x y : Operand} (ho : o.op = .binOp op t x y t2) {u : Unit}
    (h : runR (evOp Γ o nid) s = some (u, s')) : Goes P G Γ.vars nid m s' o a := by
  simp only [evOp, ho] at h
  obtain ⟨V, s1, h1, hh1⟩ := bind_inv h
  obtain ⟨k1, k2, _⟩ := opnd_ok hΓ r h1
  have r1 := r.same k1
  obtain ⟨W, s2, h2, hh2⟩ := bind_inv hh1
  obtain ⟨k3, k4, _⟩ := opnd_ok hΓ r1 h2
  have r2 := r1.same k3
  obtain ⟨d, s3, h3, hh3⟩ := bind_inv hh2
  obtain ⟨rfl, k5, _⟩ := datD_ok h3 k2
  obtain ⟨e, s4, h4, hh4⟩ := bind_inv hh3
  obtain ⟨rfl, k6, _⟩ := datD_ok h4 k4
  obtain ⟨f, s5, h5, hh5⟩ := bind_inv hh4
  have main : s5 = s4 ∧ ∃ v, (binOp op t (a.eval x) (a.eval y)).run P m.w = .ok v m.w ∧ RepV m.w m.C f.T f.x v ∧ (eqGuard op t x y (a.eval x) (a.eval y)).run P m.w = .ok () m.w := by
    unfold binD at h5
    split at h5
    · split at h5
      · obtain ⟨_, s6, h6, h7⟩ := bind_inv h5
        obtain ⟨h8, rfl⟩ := need_inv h6
        obtain ⟨rfl, rfl⟩ := ret_inv h7
        rw [k5.int_eq, k6.int_eq]
        have hb := of_decide_eq_true h8
        exact ⟨rfl, _, by simp [binOp, Op.shift, shlI, Int.not_lt.2 hb], RepV.int _ _, guard_int ..⟩
      · obtain ⟨_, s6, h6, h7⟩ := bind_inv h5
        obtain ⟨h8, rfl⟩ := need_inv h6
        obtain ⟨rfl, rfl⟩ := ret_inv h7
        rw [k5.int_eq, k6.int_eq]
        have hb := of_decide_eq_true h8
        exact ⟨rfl, _, by simp [binOp, Op.shift, shrI, Int.not_lt.2 hb], RepV.int _ _, guard_int ..⟩
      · split at h5
        · rename_i e _
          obtain ⟨e⟩ := e
          subst e
          rw [k5.int_eq, k6.int_eq]
          obtain ⟨g1, v, g2, g3⟩ := intOp_ok (P := P) h5 t m.w m.C
          exact ⟨g1, v, g2, g3, guard_int ..⟩
        · exact (fail_inv h5).elim
    · rw [k5.str_eq, k6.str_eq]
      obtain ⟨g1, v, g2, g3⟩ := strOp_ok (P := P) h5 t m.w m.C
      exact ⟨g1, v, g2, g3, guard_str ..⟩
    · obtain ⟨_, s6, h6, h7⟩ := bind_inv h5
      obtain ⟨ht, rfl⟩ := chkT_inv hΓ h6
      have hu : P.underlying t = some .bool := ht.2
      rw [k5.bool_eq, k6.bool_eq]
      split at h7
      · obtain ⟨rfl, rfl⟩ := ret_inv h7
        exact ⟨rfl, _, by simp [binOp, run_equal_bool _ _ _ _ hu], RepV.bool _, guard_bool ..⟩
      · obtain ⟨rfl, rfl⟩ := ret_inv h7
        exact ⟨rfl, _, by simp [binOp, run_equal_bool _ _ _ _ hu], RepV.bool _, guard_bool ..⟩
      · exact (fail_inv h7).elim
    · exact (fail_inv h5).elim
  obtain ⟨rfl, v, g2, g3, g4⟩ := main
  exact fin0 r2 (by simp [execOp, ho, g4, g2]) hh5 (V := ofD f) g3 fun _ _ e => by cases e
theorem unOp_ok (hΓ : GOk P G Γ) (r : Rel P G Γ.vars m s a.tmps) {o : Oper} {nid : Nat} {op : UnOp} {t : TypeId} {x : Operand} (ho : o.op = .unOp op t x) {u : Unit}
    (h : runR (evOp Γ o nid) s = some (u, s')) : Goes P G Γ.vars nid m s' o a := by
  simp only [evOp, ho] at h
  obtain ⟨V, s1, h1, hh1⟩ := bind_inv h
  obtain ⟨k1, k2, _⟩ := opnd_ok hΓ r h1
  obtain ⟨d, s3, h3, hh2⟩ := bind_inv hh1
  obtain ⟨rfl, k5, _⟩ := datD_ok h3 k2
  obtain ⟨f, s5, h5, hh3⟩ := bind_inv hh2
  have main : s5 = s3 ∧ ∃ v, (Op.unary op (a.eval x)).run P m.w = .ok v m.w ∧ RepV m.w m.C f.T f.x v := by
    unfold unD at h5
    split at h5
    · rw [k5.bool_eq]
      cases op <;> simp only at h5
      case not => obtain ⟨rfl, rfl⟩ := ret_inv h5; exact ⟨rfl, _, by simp [Op.unary], RepV.bool _⟩
      all_goals exact (fail_inv h5).elim
    · rw [k5.int_eq]
      cases op <;> simp only at h5
      case neg => obtain ⟨rfl, rfl⟩ := ret_inv h5; exact ⟨rfl, _, by simp [Op.unary, Op.intArith], RepV.int _ _⟩
      case xor => obtain ⟨rfl, rfl⟩ := ret_inv h5; exact ⟨rfl, _, by simp [Op.unary, Op.intBits, bitsOp], RepV.int _ _⟩
      all_goals exact (fail_inv h5).elim
    · exact (fail_inv h5).elim
  obtain ⟨rfl, v, g2, g3⟩ := main
  exact fin0 (r.same k1) (by simp [execOp, ho, g2]) hh3 (V := ofD f) g3 fun _ _ e => by cases e
/-! ### Parts -/
theorem run_part {t : TypeId} {T : Ty} (ht : TyOk P t T) {w : World} {C : Cells} {x : den T} {cs : Array Value} {o : Nat} (hr : Rep w C T x ((cs.toList.drop o).take T.size)) :
    (part t cs o).run P w = .ok (toV T ((cs.toList.drop o).take T.size)) w := by
  have hl := hr.len
  simp only [part, Sem.run_bind, run_isAgg ht, Result.andThen_ok]
  unfold toV
  cases hT : T.isSt
  · have h1 : T.size = 1 := by cases T <;> first | rfl | (simp [Ty.isSt] at hT)
    rw [h1] at hl ⊢
    have hlt : o < cs.size := by simp at hl; omega
    have : cs[o]? = some cs[o] := by simp [hlt]
    simp only [Bool.false_eq_true, if_false, this, Sem.run_pure]
    congr 1
    rw [List.drop_eq_getElem_cons (by simpa using hlt)]
    simp
  · simp only [if_true, Sem.run_bind, run_sizeOf ht, Result.andThen_ok, Sem.run_pure]
    congr 2
    apply Array.ext'
    simp [Array.toList_extract]
theorem field_ok (hΓ : GOk P G Γ) (r : Rel P G Γ.vars m s a.tmps) {o : Oper} {nid : Nat} {t : TypeId} {x : Operand} {j : Nat} (ho : o.op = .field t x j) {u : Unit}
    (h : runR (evOp Γ o nid) s = some (u, s')) : Goes P G Γ.vars nid m s' o a := by
  simp only [evOp, ho] at h
  obtain ⟨V, s1, h1, hh1⟩ := bind_inv h
  obtain ⟨k1, k2, _⟩ := opnd_ok hΓ r h1
  obtain ⟨d, s3, h3, hh2⟩ := bind_inv hh1
  obtain ⟨rfl, k5, _⟩ := datD_ok h3 k2
  obtain ⟨_, s4, h4, hh3⟩ := bind_inv hh2
  obtain ⟨ht, rfl⟩ := chkT_inv hΓ h4
  obtain ⟨f, s5, h5, hh4⟩ := bind_inv hh3
  obtain ⟨h6, rfl⟩ := lift_inv h5
  have hst : d.T.isSt = true := by
    revert h6
    generalize d.T = T, d.x = y
    intro h6
    cases T <;> first | rfl | (simp [XE.proj] at h6)
  rcases k5 with ⟨_, cs, hcs, k5⟩ | ⟨hf, _⟩
  · obtain ⟨off, g1, g2⟩ := k5.proj h6
    obtain ⟨fs, fd, g3, g4, rfl, g6, g7⟩ := ht.field g1
    have hrun := run_part g7 g2
    refine fin0 (r.same k1) ?_ hh4 (V := ofD f) (RepV.of g2).1 fun _ _ e => by cases e
    simp [execOp, ho, Instr.field, run_underlying g3, g4, hcs, asAgg, hrun]
  · rw [hst] at hf; cases hf
end
end Go.XE
