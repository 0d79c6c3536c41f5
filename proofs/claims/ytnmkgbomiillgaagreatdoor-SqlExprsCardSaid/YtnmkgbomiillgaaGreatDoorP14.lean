/- Part 14 of the proof. -/
import Derived.Test.YtnmkgbomiillgaaGreatDoorP13
import Derived.Test.YtnmkgbomiillgaaGreatDoorP12
import Derived.Shelf.Strings.Fields
import Derived.ChangeArms
import GoSem.Dispatch
import GoSem.Machine.Return
import Derived.Test.YtnmkgbomiillgaaGreatDoorP01
import Derived.Test.YtnmkgbomiillgaaGreatDoorP09
/- strings.Fields of bytes below 128, as a leaf of the evaluator: over any program and any numbering. -/
namespace Go.XE
section
variable {P : Program} {ρ : Shelf.Ren} {G : Nat → Option GV}
theorem allBytes {s : List UInt8} (h : (s.all fun b => Nat.blt b.toNat 128) = true) : ∀ (j : Nat) (b : UInt8), s[j]? = some b → b.toNat < 128 := by
  intro j b hb
  have := List.all_eq_true.1 h b (List.mem_of_getElem? hb)
  exact Nat.lt_of_lt_of_le (Nat.lt_of_succ_le (Nat.le_of_ble_eq_true this)) (Nat.le_refl _)
theorem alloc_kept (w : World) (o : Go.Obj) : Kept w (w.alloc o) := {
  size := by show _ ≤ (w.heap.push o).size; rw [Array.size_push]; omega
  old k hk := by show (w.heap.push o)[k]? = _; rw [Array.getElem?_push]; simp [Nat.ne_of_lt hk]
  out := ⟨rfl, rfl⟩ }
def tabF : List Value := (List.range 256).map fun c => .int .u8 (if Lib.isSp (UInt8.ofNat c) then 1 else 0)
theorem fields_sound (L : Proofs.Lays.n157 P ρ) (hi9 : (P.info? (ρ.t 9)).map (fun i => (i.zero, i.size, i.bytes)) = some (some (.string ByteArray.empty), 1, 16))
    (hE : Enter P (ρ.f 157)) (hg : G (ρ.g 0) = some (.c tabF)) :
    Sound P G (ρ.f 157) { head := ⟨[(0, .dat .str [])], [], 106, 0⟩, R := .sl .str, F := fun x => strings_Fields x.1.1 } := by
  refine leaf1 (A := .str) (R := .sl .str) (nt := 105) (F := fun x => strings_Fields x.1.1) hE (fun w C x v y hG hv hy => ?_) rfl
  obtain rfl : v = .string ⟨x.toArray⟩ := by
    rcases hv with ⟨h, _⟩ | ⟨_, h⟩
    · cases h
    · simpa [Rep] using h
  have hy : strings_Fields x = some y := hy
  unfold strings_Fields at hy
  cases hc : (Nat.ble x.length 4294967280 && x.all fun b => Nat.blt b.toNat 128) with
  | false => rw [hc] at hy; cases hy
  | true =>
    rw [hc] at hy
    obtain rfl : Lib.fields x = y := Option.some.inj hy
    rw [Bool.and_eq_true] at hc
    have hsz : (⟨x.toArray⟩ : ByteArray).size = x.length := by simp [ByteArray.size]
    have ht : (⟨x.toArray⟩ : ByteArray).data.toList = x := rfl
    refine (Proofs.Any.strings_Fields_core L hi9 ⟨x.toArray⟩ w (by rw [hsz]; have := Nat.le_of_ble_eq_true hc.1; omega) (by rw [ht]; exact allBytes hc.2) fun c hc => ?_).mono fun e w' h => ?_
    · have := hG (ρ.g 0) _ hg c (.int .u8 (if Lib.isSp (UInt8.ofNat c) then 1 else 0)) (by simp [tabF, hc])
      simpa using this
    · obtain ⟨rfl, rfl⟩ := h
      rw [ht]
      refine ⟨_, fun b j => C b j ∨ b = w.heap.size, rfl, alloc_kept _ _, fun b j h => .inl h, fun b j h hb => ?_, fun b j h => ?_, .inr ⟨rfl, ?_⟩⟩
      · rcases h with h | rfl
        · exact h
        · exact absurd hb (Nat.lt_irrefl _)
      · rcases h with h | rfl
        · exact .inl h
        · exact .inr (by show _ < (w.heap.push _).size; rw [Array.size_push]; omega)
      · simp only [Rep]
        refine ⟨some ⟨w.heap.size, 0, none⟩, _, rfl, Nat.le_refl _, (fun e => by cases e), fun a ha => ?_⟩
        cases ha
        refine ⟨fun _ => rfl, fun i z hi => ⟨[.string ⟨z.toArray⟩], fun j v hv => ?_, fun j _ => .inr rfl, rfl⟩⟩
        obtain ⟨rfl, rfl⟩ : j = 0 ∧ v = .string ⟨z.toArray⟩ := by
          cases j with
          | zero => exact ⟨rfl, by simpa using hv.symm⟩
          | succ j => simp at hv
        have hi' : (Lib.fields x)[i]? = some z := hi
        simp [World.cell?_alloc_new, Ty.size, hi']
end
end Go.XE
/- What a reader of data read, as data of the evaluator: any type. -/
namespace Go.XE
section
variable {P : Program} {H : Type} {enc : TypeId × Value → H} {w : World} {base : Nat} {held : Bool}
/-- All that is there. -/
def inHeap (w : World) : Cells := fun b _ => b < w.heap.size
theorem cellsOf_base {t : TypeId} {T : Ty} (h : Base P t T) : P.cellsOf t = T.size := by
  obtain ⟨i, h1, h2, _⟩ := h
  simp [Program.cellsOf, h1, h2]
theorem list_of {α : Type} {Q : Nat → α → Prop} : ∀ (n : Nat), (∀ i, i < n → ∃ y, Q i y) → ∃ xs : List α, xs.length = n ∧ ∀ i y, xs[i]? = some y → Q i y
  | 0, _ => ⟨[], rfl, fun i y h => by simp at h⟩
  | n + 1, h => by
    obtain ⟨xs, h1, h2⟩ := list_of n fun i hi => h i (by omega)
    obtain ⟨y, hy⟩ := h n (by omega)
    refine ⟨xs ++ [y], by simp [h1], fun i z hz => ?_⟩
    by_cases hi : i < xs.length
    · rw [List.getElem?_append_left hi] at hz
      exact h2 i z hz
    · rw [List.getElem?_append_right (by omega)] at hz
      obtain ⟨k, hk⟩ : ∃ k, i - xs.length = k := ⟨_, rfl⟩
      rw [hk] at hz
      cases k with
      | zero =>
        cases hz
        have : i = n := by omega
        subst this; exact hy
      | succ k => simp at hz
theorem spot_at {a : Addr} {n : Nat} {us : List Value} (h : w.cells? base (a.add 0) n = some us) (hn : 0 < n) : a.spot = none := by
  obtain ⟨_, h1, h2⟩ := World.cells?_some h
  have h0 := h2 0 hn
  have h3 : us[0]? = some us[0] := List.getElem?_eq_getElem (by omega)
  rw [h3] at h0
  have h0 : w.cell? a = some us[0] := h0
  unfold World.cell? at h0
  split at h0
  · cases hs : a.spot with
    | none => rfl
    | some s => rw [hs] at h0; simp at h0
  · cases h0
theorem row_at {a : Addr} {n k : Nat} {us : List Value} (ha : a.spot = none) (h : w.cells? base (a.add k) n = some us) (hn : 0 < n) : a.block < w.heap.size ∧ us.length = n ∧ cellsAt w a.block (a.off + k) us := by
  obtain ⟨b, o, s⟩ := a
  have ha : s = none := ha
  subst ha
  rw [add_mk] at h
  obtain ⟨_, h1, h2⟩ := World.cells?_some h
  have h2 : ∀ i, i < n → w.cell? ⟨b, o + k + i, none⟩ = us[i]? := fun i hi => by rw [← add_mk]; exact h2 i hi
  refine ⟨?_, h1, fun j v hj => ?_⟩
  · have h0 := h2 0 hn
    rw [List.getElem?_eq_getElem (by omega)] at h0
    exact World.block_lt_of_cell? w ⟨b, o + k + 0, none⟩ h0
  · exact (h2 j (by rw [← h1]; exact (List.getElem?_eq_some_iff.1 hj).1)).trans hj
theorem rep_both : ∀ (T : Ty), (∀ (t : TypeId), TyOk P t T → ∀ (n : Nat) (cs : List Value) (x : DataW H × List MemPlace), DataW.trod enc P w base (fun _ => true) held n t cs = some x → ∃ y : den T, Rep w (inHeap w) T y cs) ∧
    ∀ (off : Nat) (fs : List Field) (n : Nat) (cs : List Value), (TyQ P T).2 off fs → (∀ (i : Nat) (f : Field), fs[i]? = some f → ∃ x, DataW.trod enc P w base (fun _ => true) held n f.type ((cs.drop f.offset).take (P.cellsOf f.type)) = some x) →
      cs.length = off + T.size → ∃ y : den T, Rep w (inHeap w) T y (cs.drop off) := by
  intro T
  induction T with
  | int k =>
    refine ⟨fun t ht n cs x h => ?_, fun _ _ _ _ h => h.elim⟩
    obtain ⟨z, rfl, _⟩ := DataW.trod_int ht.2 h
    exact ⟨z, rfl⟩
  | bool =>
    refine ⟨fun t ht n cs x h => ?_, fun _ _ _ _ h => h.elim⟩
    obtain ⟨z, rfl, _⟩ := DataW.trod_bool ht.2 h
    exact ⟨z, rfl⟩
  | str =>
    refine ⟨fun t ht n cs x h => ?_, fun _ _ _ _ h => h.elim⟩
    obtain ⟨z, rfl, _⟩ := DataW.trod_string ht.2 h
    exact ⟨z.data.toList, rfl⟩
  | unit =>
    refine ⟨fun t ht n cs x h => ?_, fun off fs n cs hfs _ hl => ?_⟩
    · obtain ⟨hb, fs, hu, hfs⟩ := ht
      obtain ⟨xs, m, _, _, hl, _⟩ := DataW.trod_struct hu h
      rw [cellsOf_base hb] at hl
      exact ⟨(), List.length_eq_zero_iff.1 hl⟩
    · exact ⟨(), by show cs.drop off = []; rw [List.drop_eq_nil_iff]; simp [Ty.size] at hl; omega⟩
  | pair a b iha ihb =>
    have hrec : ∀ (off : Nat) (fs : List Field) (n : Nat) (cs : List Value), (TyQ P (.pair a b)).2 off fs → (∀ (i : Nat) (f : Field), fs[i]? = some f → ∃ x, DataW.trod enc P w base (fun _ => true) held n f.type ((cs.drop f.offset).take (P.cellsOf f.type)) = some x) →
        cs.length = off + (Ty.pair a b).size → ∃ y : den (.pair a b), Rep w (inHeap w) (.pair a b) y (cs.drop off) := by
      intro off fs n cs hfs hx hl
      obtain ⟨f, r, rfl, hoff, hs, hta, htb⟩ := hfs
      obtain ⟨x, h0⟩ := hx 0 f rfl
      have hta : TyOk P f.type a := hta
      rw [hoff, cellsOf_base hta.base] at h0
      obtain ⟨y, hy⟩ := iha.1 f.type hta _ _ _ h0
      obtain ⟨z, hz⟩ := ihb.2 (off + a.size) r n cs htb (fun i g hg => hx (i + 1) g (by simpa using hg)) (by simp [Ty.size] at hl; omega)
      refine ⟨(y, z), ?_⟩
      simp only [Rep]
      refine ⟨_, _, ?_, hy, hz⟩
      rw [← List.drop_drop, List.take_append_drop]
    refine ⟨fun t ht n cs x h => ?_, hrec⟩
    obtain ⟨hb, fs, hu, hfs⟩ := ht
    obtain ⟨xs, m, _, _, hl, hlen, hg⟩ := DataW.trod_struct hu h
    rw [cellsOf_base hb] at hl
    obtain ⟨y, hy⟩ := hrec 0 fs.toList m cs hfs (fun i f hf => by
      have hf' : fs[i]? = some f := by simpa using hf
      have hi := (Array.getElem?_eq_some_iff.1 hf').1
      rw [hg i f hf']
      exact ⟨xs[i]'(by omega), by simp⟩) (by omega)
    exact ⟨y, by simpa using hy⟩
  | sl e ih =>
    refine ⟨fun t ht n cs x h => ?_, fun _ _ _ _ h => h.elim⟩
    obtain ⟨hb, et, hu, hs, hte⟩ := ht
    have hte : TyOk P et e := hte
    rcases DataW.trod_slice hu h with ⟨rfl, _⟩ | ⟨a, len, cap, elems, rest, m, _, rfl, _, _, hl, _, hel, hx, hr, _⟩
    · refine ⟨([] : List (den e)), ?_⟩
      simp only [Rep]
      exact ⟨none, 0, rfl, Nat.le_refl _, fun _ => rfl, fun a ha => by cases ha⟩
    · rw [cellsOf_base hte.base] at hx hr
      have hsome : ∀ i, i < len → ∃ us x, w.cells? base (a.add (i * e.size)) e.size = some us ∧ DataW.trod enc P w base (fun _ => true) held m et us = some x := fun i hi => by
        have := hx i hi
        rw [List.getElem?_eq_getElem (by omega)] at this
        obtain ⟨us, h1, h2⟩ := Option.bind_eq_some_iff.1 this
        exact ⟨us, _, h1, h2⟩
      obtain ⟨xs, hxl, hxs⟩ := list_of (Q := fun i (y : den e) => ∃ us, w.cells? base (a.add (i * e.size)) e.size = some us ∧ Rep w (inHeap w) e y us) len fun i hi => by
        obtain ⟨us, x, h1, h2⟩ := hsome i hi
        obtain ⟨y, hy⟩ := ih.1 et hte _ _ _ h2
        exact ⟨y, us, h1, hy⟩
      refine ⟨xs, ?_⟩
      simp only [Rep]
      refine ⟨some a, cap, by rw [hxl], by rw [hxl]; exact hl, (fun h => by cases h), fun ad had => ?_⟩
      cases had
      have hspot : 0 < cap → a.spot = none := fun hcap => by
        by_cases h0 : 0 < len
        · obtain ⟨us, x, h1, _⟩ := hsome 0 h0
          exact spot_at (by simpa using h1) hs
        · obtain ⟨g1, g2⟩ := hr rfl
          have := g2 0 (by omega)
          rw [List.getElem?_eq_getElem (by omega)] at this
          obtain ⟨us, h1, _⟩ := Option.bind_eq_some_iff.1 this
          rw [show len + 0 = 0 by omega] at h1
          exact spot_at (by simpa using h1) hs
      refine ⟨hspot, fun i y hy => ?_⟩
      obtain ⟨us, h1, h2⟩ := hxs i y hy
      have hi : i < List.length xs := (List.getElem?_eq_some_iff.1 hy).1
      obtain ⟨g2, g3, g4⟩ := row_at (hspot (by omega)) h1 hs
      exact ⟨us, g4, fun j _ => g2, h2⟩
/-- A value that reads. -/
theorem repV_of_trod {T : Ty} {t : TypeId} (ht : TyOk P t T) {v : Value} {d : DataW H} {ps : List MemPlace} (hv : T.isSt = true → ∃ cs, v = .agg cs) (hv' : T.isSt = false → v.cells.toList = [v])
    (h : DataW.Trod enc P w base (fun _ => true) held t v d ps) : ∃ y : den T, RepV w (inHeap w) T y v := by
  obtain ⟨n, h⟩ := h
  obtain ⟨y, hy⟩ := (rep_both T).1 t ht n _ _ h
  cases hT : T.isSt with
  | true =>
    obtain ⟨cs, rfl⟩ := hv hT
    exact ⟨y, .inl ⟨hT, cs, rfl, hy⟩⟩
  | false =>
    rw [hv' hT] at hy
    exact ⟨y, .inr ⟨hT, hy⟩⟩
end
end Go.XE
/- The concrete evaluator: definitions alone. A run over data without inputs, in any world: own blocks are numbered from 0; where they lie is told by a map. -/
namespace Go.XR

/-- A value whose addresses are of own blocks. -/
inductive CV where
  | at (v : Value)
  | ptr (b o : Nat)
  | sl (b o n e : Nat)
  /-- What is left of 'sl b o l e' behind its l elements. -/
  | esl (b o l e : Nat)
  | fn (f : FuncId) (first caps : List CV)
  | ifc (t : TypeId) (v : CV)
  | agg (l : List CV)
  | tup (l : List CV)
  | mp (b : Nat)
  /-- A cell of an array that was there before, and a slice of all of it. -/
  | gp (k i : Nat)
  | gs (k n : Nat)
instance : Inhabited CV := ⟨.at undef⟩

inductive Tr (α : Type) where
  | nil
  | node (x : Option α) (l r : Tr α)
def Tr.get {α : Type} : Tr α → Nat → Option α
  | .nil, _ => none
  | .node x l r, n => cond (Nat.beq n 0) x (cond (Nat.beq (n % 2) 1) (l.get (n / 2)) (r.get (n / 2 - 1)))
def Tr.top {α : Type} : Tr α → Option α
  | .nil => none
  | .node x _ _ => x
def Tr.left {α : Type} : Tr α → Tr α
  | .nil => .nil
  | .node _ l _ => l
def Tr.right {α : Type} : Tr α → Tr α
  | .nil => .nil
  | .node _ _ r => r
/-- Nodes with an evaluated branch. -/
def Tr.inL {α : Type} (x : Option α) (u r : Tr α) : Tr α :=
  match u with
  | .nil => .node x .nil r
  | .node a b c => .node x (.node a b c) r
def Tr.inR {α : Type} (x : Option α) (l u : Tr α) : Tr α :=
  match u with
  | .nil => .node x l .nil
  | .node a b c => .node x l (.node a b c)
def Tr.setF {α : Type} : Nat → Tr α → Nat → α → Tr α
  | 0, t, _, _ => t
  | f + 1, t, n, v => match t with
    | .nil => cond (Nat.beq n 0) (.node (some v) .nil .nil) (cond (Nat.beq (n % 2) 1) (Tr.inL none (Tr.setF f .nil (n / 2) v) .nil) (Tr.inR none .nil (Tr.setF f .nil (n / 2 - 1) v)))
    | .node x l r => cond (Nat.beq n 0) (.node (some v) l r) (cond (Nat.beq (n % 2) 1) (Tr.inL x (Tr.setF f l (n / 2) v) r) (Tr.inR x l (Tr.setF f r (n / 2 - 1) v)))
def Tr.set {α : Type} (t : Tr α) (n : Nat) (v : α) : Tr α := Tr.setF (n + 1) t n v

/-- A block: its cells as far as they are known; 'ex': there are no more; 'ok': it may be read. 'fz': the cells that are frozen, if any: none may be written. -/
structure Blk where
  ty : TypeId
  cs : List CV
  ex : Bool
  fz : Bool
/-- What is known of package-level variables: values; arrays; which array a variable is. -/
structure Gl where
  v : List (Nat × CV)
  a : List (Nat × List Value)
  n : List (Nat × Nat)
structure VS where
  next : Nat
  heap : Tr (Option Blk)
  low : Nat
  /-- Grows whenever something changes. -/
  ver : Nat
  gl : Gl

def VS.blk (s : VS) (b : Nat) : Option Blk := (s.heap.get b).join
def VS.put (s : VS) (b : Nat) (k : Option Blk) : VS := { s with heap := s.heap.set b k, low := Nat.min s.low b, ver := s.ver + 1 }
def VS.new (s : VS) (k : Option Blk) : VS := { s with next := s.next + 1, heap := s.heap.set s.next k, ver := s.ver + 1 }

mutual
def toVal : CV → Option Value
  | .at v => some v
  | .ifc t v => match toVal v with | some u => some (.iface t u) | none => none
  | .agg l => match toVals l with | some us => some (.agg us.toArray) | none => none
  | .tup l => match toVals l with | some us => some (.tuple us.toArray) | none => none
  | _ => none
def toVals : List CV → Option (List Value)
  | [] => some []
  | v :: r => match toVal v with
    | some u => (match toVals r with | some us => some (u :: us) | none => none)
    | none => none
end
def cellsC : CV → List CV
  | .agg l => l
  | .at (.agg cs) => cs.toList.map .at
  | v => [v]
def isCell : CV → Bool
  | .agg _ | .tup _ | .at (.agg _) | .at (.tuple _) => false
  | _ => true
def pureRun {α : Type} (P : Program) : Sem α → Option α
  | .pure a => some a
  | .program k => pureRun P (k P)
  | .mark _ k => pureRun P k
  | _ => none
def ev (t : Tr CV) : Operand → CV
  | .tmp n => (t.get n).getD (.at undef)
  | .const v => .at v
  | .global g => .at (.pointer (some ⟨g, 0, none⟩))
  | .func f => .at (.func (.func f) #[] #[])
def intOf : CV → Option Int
  | .at (.int _ n) => some n
  | _ => none
def boolOf : CV → Option Bool
  | .at (.bool b) => some b
  | _ => none
/-- Whether a type is a struct or an array. -/
def aggB (P : Program) (t : TypeId) : Option Bool :=
  match P.underlying t with
  | some (.struct _) | some (.array _ _) => some true
  | some _ => some false
  | none => none
def szOf (P : Program) (t : TypeId) : Option Nat := (P.info? t).map (·.size)
def zeroOf (P : Program) (t : TypeId) : Option Value := (P.info? t).bind (·.zero)
/-- The part of a row of cells from 'o' on that a variable of type t takes. -/
def partC (P : Program) (t : TypeId) (cs : List CV) (o : Nat) : Option CV :=
  match aggB P t, szOf P t with
  | some true, some n => cond (Nat.ble (o + n) cs.length) (some (.agg ((cs.drop o).take n))) none
  | some false, some _ => cs[o]?
  | _, _ => none
def writeC (cs : List CV) (o : Nat) (xs : List CV) : List CV := cs.take o ++ xs ++ cs.drop (o + xs.length)

/-- The parts of a composite, laid into its zero. -/
def fillC (place : Nat → Option (Nat × Nat)) : List (Nat × CV) → List CV → Option (List CV)
  | [], cs => some cs
  | (i, v) :: r, cs => match place i with
    | some (off, size) => cond (Nat.beq (cellsC v).length size && Nat.ble (off + size) cs.length) (fillC place r (writeC cs off (cellsC v))) none
    | none => none
def elemOf (P : Program) (t : TypeId) : Option TypeId :=
  match P.underlying t with
  | some (.slice e) => some e
  | _ => none
def bytesC (P : Program) (t : TypeId) : Option Nat := (P.info? t).map (·.bytes)

abbrev Res := Option (CV × VS)
def at1 (P : Program) (s : VS) (f : Value → Sem Value) (x : CV) : Res :=
  match toVal x with
  | some a => (match pureRun P (f a) with | some v => some (.at v, s) | none => none)
  | none => none
def at2 (P : Program) (s : VS) (f : Value → Value → Sem Value) (x y : CV) : Res :=
  match toVal x, toVal y with
  | some a, some b => (match pureRun P (f a b) with | some v => some (.at v, s) | none => none)
  | _, _ => none
def isNilV : Value → Bool
  | .pointer none | .slice none _ _ | .map none | .nilFunc | .nilIface => true
  | _ => false
/-- Equality where an address stands on a side: to nil, or to a place in the same block. -/
def eqC (P : Program) (t : TypeId) (x y : CV) : Option Bool :=
  match P.underlying t, x, y with
  | some (.pointer _), .ptr _ _, .at (.pointer none) => some false
  | some (.pointer _), .at (.pointer none), .ptr _ _ => some false
  | some (.slice _), .sl _ _ _ _, .at (.slice none _ _) => some false
  | some (.slice _), .gs _ _, .at (.slice none _ _) => some false
  | some (.slice _), .at (.slice none _ _), .sl _ _ _ _ => some false
  | some (.map _ _), .mp _, .at (.map none) => some false
  | some (.func _ _ _), .fn _ _ _, .at .nilFunc => some false
  | some (.interface _), .ifc _ _, .at .nilIface => some false
  | some (.interface _), .at .nilIface, .ifc _ _ => some false
  | some (.pointer e), .ptr b o, .ptr c p => match szOf P e with | some (_ + 1) => cond (Nat.beq b c) (some (Nat.beq o p)) none | _ => none
  | _, _, _ => none
def binC (P : Program) (s : VS) (op : BinOp) (t : TypeId) (xo yo : Operand) (x y : CV) : Res :=
  match at2 P s (fun a b => do eqGuard op t xo yo a b; binOp op t a b) x y with
  | some r => some r
  | none => match op with
    | .eql => (eqC P t x y).map fun b => (.at (.bool b), s)
    | .neq => (eqC P t x y).map fun b => (.at (.bool (!b)), s)
    | _ => none
def lookG (g : Nat) : List (Nat × CV) → Option CV
  | [] => none
  | (h, v) :: r => cond (Nat.beq h g) (some v) (lookG g r)
def lookA {α : Type} (k : Nat) : List (Nat × α) → Option α
  | [] => none
  | (h, v) :: r => cond (Nat.beq h k) (some v) (lookA k r)
def loadC (P : Program) (s : VS) (t : TypeId) : CV → Option CV
  | .at (.pointer (some ⟨g, 0, none⟩)) => match aggB P t with
    | some false => lookG g s.gl.v
    | _ => none
  | .gp k i => match aggB P t, lookA k s.gl.a with
    | some false, some l => (l[i]?).map .at
    | _, _ => none
  | .ptr b o => match s.blk b with
    | some k => partC P t k.cs o
    | none => none
  | _ => none
def storeC (P : Program) (s : VS) (t : TypeId) (x v : CV) : Option VS :=
  match x, szOf P t with
  | .ptr b o, some n => match s.blk b with
    | some k => cond (!k.fz && Nat.beq (cellsC v).length n && Nat.ble (o + n) k.cs.length && (cellsC v).all isCell) (some (s.put b (some { k with cs := writeC k.cs o (cellsC v) }))) none
    | none => none
  | _, _ => none
def newC (s : VS) (t : TypeId) (cs : List CV) (ex : Bool) : VS := s.new (some ⟨t, cs, ex, false⟩)
def fieldAddrC (P : Program) (t : TypeId) (x : CV) (f : Nat) : Option CV :=
  match P.underlying t, x with
  | some (.struct fs), .ptr b o => match fs[f]? with
    | some fd => (match szOf P fd.type with | some (_ + 1) => some (.ptr b (o + fd.offset)) | _ => none)
    | none => none
  | _, _ => none
def indexAddrC (P : Program) (s : VS) (t : TypeId) (x i : CV) : Option CV :=
  match P.underlying t, x, intOf i with
  | some (.array n et), .ptr b o, some i => match szOf P et with
    | some z => cond (decide (0 ≤ i) && decide (i < n)) (some (.ptr b (o + i.toNat * z))) none
    | none => none
  | some (.slice et), .sl b o n e, some i => match szOf P et with
    | some z => cond (Nat.beq z e && decide (0 ≤ i) && decide (i < n)) (some (.ptr b (o + i.toNat * z))) none
    | none => none
  | some (.slice et), .gs k n, some i => match szOf P et with
    | some 1 => cond (decide (0 ≤ i) && decide (i < n)) (some (.gp k i.toNat)) none
    | _ => none
  | some (.array n et), .at (.pointer (some ⟨g, 0, none⟩)), some i => match szOf P et, lookA g s.gl.n with
    | some 1, some k => cond (decide (0 ≤ i) && decide (i < n)) (some (.gp k i.toNat)) none
    | _, _ => none
  | _, _, _ => none
def boundC (d : Nat) : Option CV → Option Nat
  | none => some d
  | some c => match intOf c with | some i => cond (decide (0 ≤ i)) (some i.toNat) none | none => none
def sliceC (P : Program) (s : VS) (t : TypeId) (x : CV) (lo hi mx : Option CV) : Option CV :=
  match mx with
  | some _ => none
  | none => match P.underlying t, x with
    | some (.slice et), .sl b o n e => match szOf P et, boundC 0 lo, boundC n hi with
      | some z, some l, some h => cond (Nat.beq z e && Nat.ble l h && Nat.ble h n) (cond (Nat.beq l 0 || Nat.blt l n) (some (.sl b (o + l * e) (h - l) e)) (some (.esl b o l e))) none
      | _, _, _ => none
    | some (.array n et), .ptr b o => match szOf P et, boundC 0 lo, boundC n hi, s.blk b with
      | some z, some l, some h, some k => cond (k.ex && Nat.beq k.cs.length (o + n * z) && Nat.blt 0 z && Nat.ble l h && Nat.ble h n && Nat.blt l n) (some (.sl b (o + l * z) (h - l) z)) none
      | _, _, _, _ => none
    | _, _ => none
/-- What is appended: how many, and the cells. -/
def newsC (s : VS) (e : Nat) : CV → Option (Nat × List CV)
  | .sl b o n e' => match s.blk b with
    | some k => cond (Nat.beq e e' && Nat.ble (o + n * e) k.cs.length) (some (n, (k.cs.drop o).take (n * e))) none
    | none => none
  | .at (.slice none n _) => cond (Nat.beq n 0) (some (0, [])) none
  | .at (.string b) => cond (Nat.beq e 1) (some (b.data.toList.length, b.data.toList.map fun x => .at (.int .u8 x.toNat))) none
  | _ => none
def isIntD : TypeDesc → Bool
  | .int _ => true
  | _ => false
def appendX (s : VS) (et : TypeId) (e k : Nat) (news : List CV) (x : CV) : Res :=
  match x with
  | .at (.slice none 0 0) => cond (Nat.beq k 0) (some (x, s)) (some (.sl s.next 0 k e, newC s et news false))
  | .sl b o n e' => cond (Nat.beq e e' && Nat.ble n 1000000) (cond (Nat.beq k 0) (some (x, s)) (match s.blk b with
    | some kb => cond (!kb.fz) (cond (Nat.ble (o + (n + k) * e) kb.cs.length) (some (.sl b o (n + k) e, s.put b (some { kb with cs := writeC kb.cs (o + n * e) news })))
        (cond (Nat.ble (o + n * e) kb.cs.length) (cond kb.ex (some (.sl s.next 0 (n + k) e, newC s et ((kb.cs.drop o).take (n * e) ++ news) false))
          (cond (Nat.beq o 0 && Nat.beq (n * e) kb.cs.length && Nat.beq kb.ty et) (some (.sl s.next 0 (n + k) e, newC (s.put b none) et (kb.cs ++ news) false)) none)) none)) none
    | none => none)) none
  | _ => none
def appendC (P : Program) (s : VS) (ts : List TypeId) (x y : CV) : Res :=
  match ts with
  | [t, t2] => match elemOf P t, P.underlying t2 with
    | some et, some d2 => cond (isIntD d2) none (match szOf P et, bytesC P et, zeroOf P et with
        | some e, some by_, some z => match newsC s e y with
          | some (k, news) => cond (Nat.blt 0 e && Nat.beq z.cells.toList.length e && Nat.ble by_ 16384 && Nat.ble k 1000000 && news.all isCell) (appendX s et e k news x) none
          | none => none
        | _, _, _ => none)
    | _, _ => none
  | _ => none
def buildC (P : Program) (t : TypeId) (parts : List (Nat × CV)) : Option CV :=
  match zeroOf P t with
  | none => none
  | some z => match P.underlying t with
    | some (.struct fs) => match fs.toList.mapM (fun f => (P.info? f.type).map fun i => (f.offset, i.size)) with
      | some pl => (fillC (fun i => pl.toArray[i]?) parts (z.cells.toList.map .at)).map .agg
      | none => none
    | some (.array _ et) => match P.info? et with
      | some i => (fillC (fun j => some (j * i.size, i.size)) parts (z.cells.toList.map .at)).map .agg
      | none => none
    | _ => none
def repC (z : List CV) : Nat → List CV
  | 0 => []
  | n + 1 => z ++ repC z n
def buildSliceC (P : Program) (s : VS) (t : TypeId) (len : Nat) (parts : List (Nat × CV)) : Res :=
  match elemOf P t with
  | some et => match szOf P et, zeroOf P et with
    | some e, some z => cond (Nat.blt 0 e && Nat.beq z.cells.toList.length e && Nat.ble (len * e) 16777216)
      (match fillC (fun i => some (i * e, e)) parts (repC (z.cells.toList.map .at) len) with
        | some cs => some (.sl s.next 0 len e, newC s et cs true)
        | none => none) none
    | _, _ => none
  | none => none
def makeSliceC (P : Program) (s : VS) (t : TypeId) (l c : CV) : Res :=
  match elemOf P t, intOf l, intOf c with
  | some et, some l, some c => match szOf P et, zeroOf P et, bytesC P et with
    | some e, some z, some by_ => cond (Nat.blt 0 e && Nat.beq z.cells.toList.length e && Nat.ble by_ 16384 && decide (0 ≤ l) && decide (l ≤ c) && decide (c ≤ 1000000))
      (some (.sl s.next 0 l.toNat e, newC s et (repC (z.cells.toList.map .at) c.toNat) true)) none
    | _, _, _ => none
  | _, _, _ => none
def nilCheckC : CV → Option CV
  | .at (.pointer (some a)) => some (.at (.pointer (some a)))
  | .ptr b o => some (.ptr b o)
  | .gp k i => some (.gp k i)
  | .fn f a b => some (.fn f a b)
  | .at (.func (.func f) a b) => some (.at (.func (.func f) a b))
  | .ifc t v => some (.ifc t v)
  | .at (.iface t v) => some (.at (.iface t v))
  | _ => none
def extractC (i : Nat) : CV → Option CV
  | .tup l => l[i]?
  | .at (.tuple vs) => (vs.toList[i]?).map .at
  | _ => none
def fieldC (P : Program) (t : TypeId) (f : Nat) (x : CV) : Option CV :=
  match P.underlying t, x with
  | some (.struct fs), .agg l => match fs[f]? with
    | some fd => partC P fd.type l fd.offset
    | none => none
  | _, _ => none
def indexC (P : Program) (t : TypeId) (x i : CV) : Option CV :=
  match P.underlying t, x, intOf i with
  | some (.array n et), .agg l, some i => match szOf P et with
    | some z => cond (decide (0 ≤ i) && decide (i < n)) (partC P et l (i.toNat * z)) none
    | none => none
  | _, _, _ => none
def bytesFrom : List CV → Option (List UInt8)
  | [] => some []
  | .at (.int .u8 n) :: r => cond (decide (0 ≤ n) && decide (n < 256)) (match bytesFrom r with | some l => some (n.toNat.toUInt8 :: l) | none => none) none
  | _ => none
def convC (P : Program) (s : VS) (src dst : TypeId) (x : CV) : Res :=
  match at1 P s (convert src dst) x with
  | some r => some r
  | none => match P.underlying src, P.underlying dst, x with
    | some (.pointer e), some .unsafePointer, .ptr b o => match s.blk b, szOf P e with
      | some k, some (_ + 1) => cond (Nat.blt o k.cs.length) (some (.ptr b o, s)) none
      | _, _ => none
    | some .unsafePointer, some (.pointer e), .ptr b o => match s.blk b, szOf P e with
      | some k, some (_ + 1) => cond (k.ex && liesAt P P.depth k.ty (k.cs.length / P.cellsOf k.ty) o e 1) (some (.ptr b o, s)) none
      | _, _ => none
    | some .unsafePointer, some .unsafePointer, .ptr b o => some (.ptr b o, s)
    | some .string, some (.slice et), .at (.string x) => match P.underlying et with
      | some (.int .u8) => some (.sl s.next 0 x.data.toList.length 1, newC s et (x.data.toList.map fun c => .at (.int .u8 c.toNat)) false)
      | _ => none
    | some (.slice et), some .string, .sl b o n e => match P.underlying et, s.blk b with
      | some (.int .u8), some k => cond (Nat.beq e 1 && Nat.ble (o + n) k.cs.length) (match bytesFrom ((k.cs.drop o).take n) with
        | some l => some (.at (.string ⟨l.toArray⟩), s)
        | none => none) none
      | _, _ => none
    | _, _, _ => none
def lenC (P : Program) (s : VS) (t : TypeId) (x : CV) : Res :=
  match at1 P s (fun a => Builtin.len_ #[t] 0 #[a]) x with
  | some r => some r
  | none => match P.underlying t, x with
    | some (.slice _), .sl _ _ n _ => some (.at (.int .i64 n), s)
    | some (.slice _), .gs _ n => some (.at (.int .i64 n), s)
    | some (.slice _), .esl _ _ _ _ => some (.at (.int .i64 0), s)
    | _, _ => none
def clearC (P : Program) (s : VS) (t : TypeId) (x : CV) : Res :=
  match elemOf P t with
  | some et => match x, szOf P et, zeroOf P et with
    | .at (.slice none _ _), _, _ => some (.at (.tuple #[]), s)
    | .sl b o n e, some z, some v => cond (Nat.beq n 0) (some (.at (.tuple #[]), s)) (match s.blk b with
      | some k => cond (Nat.beq z e && Nat.beq v.cells.toList.length e && !k.fz && Nat.ble (o + n * e) k.cs.length && (v.cells.toList.map CV.at).all isCell) (some (.at (.tuple #[]), s.put b (some { k with cs := writeC k.cs o (repC (v.cells.toList.map .at) n) }))) none
      | none => none)
    | _, _, _ => none
  | none => none
def builtinC (P : Program) (s : VS) (b : Builtin) (ts : List TypeId) (ty : TypeId) (xs : List CV) : Res :=
  match b, ts, xs with
  | .len, [t], [x] => lenC P s t x
  | .append, ts, [x, y] => appendC P s ts x y
  | .clear, [t], [x] => clearC P s t x
  | .max, _, [x, y] => at2 P s (fun a b => Builtin.max_ ts.toArray ty #[a, b]) x y
  | .min, _, [x, y] => at2 P s (fun a b => Builtin.min_ ts.toArray ty #[a, b]) x y
  | .unsafeSliceData, _, [.sl b o n e] => cond (Nat.blt 0 n) (some (.ptr b o, s)) none
  | .unsafeString, [pt, _], [.ptr b 0, .at (.int .i64 n)] => match s.blk b, P.underlying pt with
    | some k, some (.pointer et) => cond (!k.fz && decide (0 < n) && decide (n ≤ 1000000) && Nat.ble n.toNat k.cs.length && Nat.beq (P.cellsOf et) 1 && Nat.beq k.ty et) (match bytesFrom (k.cs.take n.toNat) with
      | some l => some (.at (.string ⟨l.toArray⟩), s.put b (some { k with fz := true }))
      | none => none) none
    | _, _ => none
  | _, _, _ => none
def mapC (t : Tr CV) (l : List Operand) : List CV := l.map (ev t)
/-- A call of a function. -/
def calleeC (t : Tr CV) : Callee → Option (FuncId × List CV × List CV)
  | .value x => match ev t x with
    | .fn f a b => some (f, a, b)
    | .at (.func (.func f) a b) => some (f, a.toList.map .at, b.toList.map .at)
    | _ => none
  | _ => none
def sliceF (ty : TypeId) (lo hi : Option (Option Value)) (mx : Option Operand) (a : Value) : Sem Value :=
  match lo, hi, mx with
  | some none, _, _ | _, some none, _ | _, _, some _ => .halt .blocked
  | l, h, none => Instr.sliceAt ty a (l.bind id) (h.bind id) none
def opC (P : Program) (callF : FuncId → List CV → VS → Res) (t : Tr CV) (s : VS) : Op → Res
  | .move x | .assign x => some (ev t x, s)
  | .pick c a b => match boolOf (ev t c) with
    | some true => some (ev t a, s)
    | some false => some (ev t b, s)
    | none => none
  | .alloc et => match zeroOf P et with
    | some z => some (.ptr s.next 0, newC s et (z.cells.toList.map .at) true)
    | none => none
  | .box et x => some (.ptr s.next 0, newC s et (cellsC (ev t x)) true)
  | .build ty ps => (buildC P ty (ps.toList.map fun p => (p.1, ev t p.2))).map fun v => (v, s)
  | .buildSlice ty n ps => buildSliceC P s ty n (ps.toList.map fun p => (p.1, ev t p.2))
  | .load ty x => (loadC P s ty (ev t x)).map fun v => (v, s)
  | .store ty x v => (storeC P s ty (ev t x) (ev t v)).map fun s' => (.at undef, s')
  | .nilCheck x => (nilCheckC (ev t x)).map fun v => (v, s)
  | .binOp op ty x y _ => binC P s op ty x y (ev t x) (ev t y)
  | .unOp op _ x => at1 P s (Op.unary op) (ev t x)
  | .convert a b x => convC P s a b (ev t x)
  | .makeInterface ty x => match P.underlying ty with
    | some (.interface _) | none => none
    | some _ => some (.ifc ty (ev t x), s)
  | .makeFunc (.func f) a b => some (.fn f (mapC t a.toList) (mapC t b.toList), s)
  | .makeMap _ none => some (.mp s.next, s.new none)
  | .makeSlice ty l c => makeSliceC P s ty (ev t l) (ev t c)
  | .slice ty x lo hi mx => match at1 P s (sliceF ty (lo.map fun y => toVal (ev t y)) (hi.map fun y => toVal (ev t y)) mx) (ev t x) with
    | some r => some r
    | none => (sliceC P s ty (ev t x) (lo.map (ev t)) (hi.map (ev t)) (mx.map (ev t))).map fun v => (v, s)
  | .fieldAddr ty x f => (fieldAddrC P ty (ev t x) f).map fun v => (v, s)
  | .field ty x f => match at1 P s (fun a => Instr.field ty a f) (ev t x) with
    | some r => some r
    | none => (fieldC P ty f (ev t x)).map fun v => (v, s)
  | .indexAddr ty x i => (indexAddrC P s ty (ev t x) (ev t i)).map fun v => (v, s)
  | .index ty x i => match at2 P s (fun a b => Instr.index ty a b) (ev t x) (ev t i) with
    | some r => some r
    | none => (indexC P ty (ev t x) (ev t i)).map fun v => (v, s)
  | .extract x i => (extractC i (ev t x)).map fun v => (v, s)
  | .call c => match c.callee with
    | .builtin b => builtinC P s b c.argTypes.toList 0 (mapC t c.args.toList)
    | k => match calleeC t k with
      | some (f, a, b) => callF f (a ++ mapC t c.args.toList ++ b) s
      | none => none
  | _ => none

inductive Ex where
  | norm
  | ext (id : Nat)
  | ret
def putC (t : Tr CV) (d : Option Nat) (v : CV) : Tr CV := match d with | some d => t.set d v | none => t
/-- Whether an operation runs: its guard. -/
def wantC (ops : List Oper) (o : Oper) (t : Tr CV) : Option Bool :=
  match o.guard with
  | none => some true
  | some (j, w) => match (ops[j]?).bind (·.dst) with
    | some g => (match t.get g with
      | some (.at (.bool b)) => some (cond b w (!w))
      | some (.at (.tuple _)) => some false
      | none => some false
      | _ => none)
    | none => none
def opsC (P : Program) (callF : FuncId → List CV → VS → Res) (all : List Oper) : List Oper → Tr CV → VS → Option (Tr CV × VS)
  | [], t, s => some (t, s)
  | o :: r, t, s => match wantC all o t with
    | some true => (match opC P callF t s o.op with
      | some (v, s') => opsC P callF all r (putC t o.dst v) s'
      | none => none)
    | some false => opsC P callF all r (putC t o.dst (.at undef)) s
    | none => none
mutual
def beqCV : CV → CV → Bool
  | .at a, .at b => beqV a b
  | .ptr a b, .ptr c d => Nat.beq a c && Nat.beq b d
  | .sl a b c d, .sl a' b' c' d' => Nat.beq a a' && Nat.beq b b' && Nat.beq c c' && Nat.beq d d'
  | .gp a b, .gp c d => Nat.beq a c && Nat.beq b d
  | .gs a b, .gs c d => Nat.beq a c && Nat.beq b d
  | .esl a b c d, .esl a' b' c' d' => Nat.beq a a' && Nat.beq b b' && Nat.beq c c' && Nat.beq d d'
  | .agg l, .agg l' => beqCVs l l'
  | .tup l, .tup l' => beqCVs l l'
  | .fn f [] [], .fn g [] [] => Nat.beq f g
  | _, _ => false
def beqCVs : List CV → List CV → Bool
  | [], [] => true
  | a :: r, b :: r' => beqCV a b && beqCVs r r'
  | _, _ => false
def beqV : Value → Value → Bool
  | .bool a, .bool b => a == b
  | .int k a, .int k' b => decide (k = k') && decide (a = b)
  | .string a, .string b => decide (a.data.toList = b.data.toList)
  | .pointer none, .pointer none => true
  | .slice none 0 0, .slice none 0 0 => true
  | .nilFunc, .nilFunc => true
  | .nilIface, .nilIface => true
  | .tuple ⟨[]⟩, .tuple ⟨[]⟩ => true
  | .agg ⟨l⟩, .agg ⟨l'⟩ => beqVs l l'
  | _, _ => false
def beqVs : List Value → List Value → Bool
  | [], [] => true
  | a :: r, b :: r' => beqV a b && beqVs r r'
  | _, _ => false
end
/-- Variables that a drawn region makes: their blocks are numbered at its beginning. -/
def floatC (P : Program) (b : Nat) (s : VS) : Op → Res
  | .alloc et => match s.blk b, zeroOf P et with
    | some k, some z => cond (Nat.beq k.ty et && k.ex && !k.fz && beqCVs k.cs (z.cells.toList.map .at)) (some (.ptr b 0, s)) none
    | _, _ => none
  | _ => none
def fidsC : List Oper → Nat → List (Option Nat)
  | [], _ => []
  | o :: r, n => match o.op with
    | .alloc _ => some n :: fidsC r (n + 1)
    | _ => none :: fidsC r n
def floatsC (P : Program) : List Oper → VS → VS
  | [], s => s
  | o :: r, s => match o.op with
    | .alloc et => floatsC P r (match zeroOf P et with | some z => newC s et (z.cells.toList.map .at) true | none => s.new none)
    | _ => floatsC P r s
/-- One operation, or that it is passed over. -/
def stepC (P : Program) (callF : FuncId → List CV → VS → Res) (all : List Oper) (o : Oper) (fid : Option Nat) (t : Tr CV) (s : VS) : Res :=
  match wantC all o t with
  | some true => match fid with
    | some b => floatC P b s o.op
    | none => opC P callF t s o.op
  | some false => some (.at undef, s)
  | none => none
structure Stp where
  t : Tr CV
  v : CV
  eff : Bool
/-- The steps in the order of the text, and the states behind those that change something. -/
def traceC (P : Program) (callF : FuncId → List CV → VS → Res) (all : List Oper) (fids : List (Option Nat)) : Nat → List Oper → Tr CV → VS → Option (List Stp × List VS × Tr CV × VS)
  | _, [], t, s => some ([], [], t, s)
  | i, o :: r, t, s => match stepC P callF all o (fids[i]?).join t s with
    | some (v, s') => match traceC P callF all fids (i + 1) r (putC t o.dst v) s' with
      | some (st, hs, t', s'') => cond (Nat.beq s.ver s'.ver) (some (⟨t, v, false⟩ :: st, hs, t', s'')) (some (⟨t, v, true⟩ :: st, s' :: hs, t', s''))
      | none => none
    | none => none
def slotsOf (all : List Oper) (o : Oper) : List Nat :=
  (o.op.operands.toList.filterMap fun | .tmp t => some t | _ => none) ++ (match o.guard with | some (j, _) => ((all[j]?).bind (·.dst)).toList | none => [])
def beqO : Option Nat → Nat → Bool
  | some a, b => Nat.beq a b
  | none, _ => false
/-- The slots of an operation are written by none that may come before or behind it. -/
def apartC (all : List Oper) (ms : List Nat) (i : Nat) (sl : List Nat) (dst : Option Nat) : Nat → List Oper → Bool
  | _, [] => true
  | q, o :: r => (Nat.beq q i || ((match o.dst with | some d => !(beqO dst d) && (!(XE.hasN d sl) || Nat.testBit (ms.getD i 0) q || Nat.testBit (ms.getD q 0) i) | none => true))) && apartC all ms i sl dst (q + 1) r
def apartAll (all : List Oper) (ms : List Nat) : Nat → List Oper → Bool
  | _, [] => true
  | i, o :: r => apartC all ms i (slotsOf all o) o.dst 0 all && apartAll all ms (i + 1) r
/-- How many steps that change something meet a test. -/
def countE (f : Nat → Bool) : Nat → List Stp → Nat
  | _, [] => 0
  | i, x :: r => cond (x.eff && f i) (countE f (i + 1) r + 1) (countE f (i + 1) r)
def effB (ms : List Nat) (i : Nat) : Nat → List Stp → Bool
  | _, [] => true
  | q, x :: r => (!x.eff || Nat.beq q i || Nat.testBit (ms.getD i 0) q || Nat.testBit (ms.getD q 0) i) && effB ms i (q + 1) r
def sameAt (P : Program) (callF : FuncId → List CV → VS → Res) (all : List Oper) (o : Oper) (fid : Option Nat) (x : Stp) (h : VS) : Bool :=
  match stepC P callF all o fid x.t h with
  | some (v, h') => beqCV v x.v && Nat.beq h.ver h'.ver
  | none => false
/-- The steps that change nothing come to the same at each state at which they may come. -/
def allAt (f : VS → Bool) (lo hi c : Nat) : Nat → List VS → Bool
  | _, [] => true
  | j, h :: r => (Nat.blt j lo || Nat.blt hi j || Nat.beq j c || f h) && allAt f lo hi c (j + 1) r
def quietAll (P : Program) (callF : FuncId → List CV → VS → Res) (all : List Oper) (fids : List (Option Nat)) (ms : List Nat) (sts : List Stp) (hs : List VS) : Nat → Nat → List Oper → List Stp → Bool
  | i, c, o :: r, x :: xs => cond x.eff (effB ms i 0 sts) (allAt (sameAt P callF all o (fids[i]?).join x) (countE (fun q => Nat.testBit (ms.getD i 0) q) 0 sts) (hs.length - 1 - countE (fun q => Nat.testBit (ms.getD q 0) i) 0 sts) c 0 hs)
      && quietAll P callF all fids ms sts hs (i + 1) (cond x.eff (c + 1) c) r xs
  | _, _, _, _ => true
def drawC (P : Program) (callF : FuncId → List CV → VS → Res) (all : List Oper) (t : Tr CV) (s : VS) : Option (Tr CV × VS) :=
  match traceC P callF all (fidsC all s.next) 0 all t (floatsC P all s) with
  | some (sts, hs, t', s') => cond (XE.backOnly all 0 && apartAll all (XE.waitMasks all []) 0 all && quietAll P callF all (fidsC all s.next) (XE.waitMasks all []) sts (floatsC P all s :: hs) 0 0 all sts) (some (t', s')) none
  | none => none
def argsT : List CV → Nat → Tr CV → Tr CV
  | [], _, t => t
  | v :: r, n, t => argsT r (n + 1) (t.set n v)
def resC (P : Program) (t : Tr CV) (s : VS) : List ResultVar → Option (List CV)
  | [] => some []
  | x :: r => match (match x with | .tmp n => some ((t.get n).getD (.at undef)) | .cell a ty => loadC P s ty ((t.get a).getD (.at undef))), resC P t s r with
    | some v, some l => some (v :: l)
    | _, _ => none
def packC : List CV → CV
  | [v] => v
  | l => .tup l
def quietR (P : Program) : CV → Bool := fun v => (toVal v).isSome
def endC (P : Program) (fn : Func) (s0 : VS) : Option (Ex × Tr CV × VS) → Res
  | some (.norm, t, s) | some (.ret, t, s) => match resC P t s fn.results.toList with
    | some l => match toVal (packC l) with
      | some v => cond (Nat.ble s0.next s.low) (some (.at v, s0)) (some (.at v, { s with low := Nat.min s0.low s.low, ver := s.ver + 1 }))
      | none => some (packC l, { s with low := Nat.min s0.low s.low, ver := s.ver + 1 })
    | none => none
  | _ => none
/-- A function without a body that answers at once. -/
def externC (P : Program) (s : VS) (f : FuncId) (args : List CV) : Res :=
  match toVals args with
  | some us => (match pureRun P (callFunc f us.toArray) with
    | some (.value v) => some (.at v, s)
    | _ => none)
  | none => none
/-- 'funs': the functions that may be entered; 'orc': what is known of others. -/
def go (P : Program) (funs : FuncId → Option Func) (orc : FuncId → List CV → VS → Option Res) (idf : FuncId → Bool) : Nat → Code → Tr CV → VS → Option (Ex × Tr CV × VS)
  | 0, _, _, _ => none
  | n + 1, c, t, s => match c with
    | .skip => some (.norm, t, s)
    | .exit i => some (.ext i, t, s)
    | .ret => some (.ret, t, s)
    | .region _ ops draw => match (cond draw (drawC P) fun callF all t s => opsC P callF all all t s) (fun f args s => match orc f args s with
        | some r => r
        | none => match funs f with
          | some fn => (match fn.body with
            | some c => endC P fn s (go P funs orc idf n c (argsT args 0 .nil) { s with low := s.next })
            | none => (match idf f, args with
              | true, [v] => some (v, s)
              | _, _ => externC P s f args))
          | none => none) ops.toList t s with
      | some (t', s') => some (.norm, t', s')
      | none => none
    | .seq a b => match go P funs orc idf n a t s with
      | some (.norm, t', s') => go P funs orc idf n b t' s'
      | r => r
    | .cond x a b => match boolOf (ev t x) with
      | some true => go P funs orc idf n a t s
      | some false => go P funs orc idf n b t s
      | none => none
    | .block i a => match go P funs orc idf n a t s with
      | some (.ext j, t', s') => cond (Nat.beq i j) (some (.norm, t', s')) (some (.ext j, t', s'))
      | r => r
    | .loop a => match go P funs orc idf n a t s with
      | some (.norm, t', s') => go P funs orc idf n (.loop a) t' s'
      | r => r
    | _ => none
end Go.XR
/- The concrete evaluator: what its values stand for. -/
namespace Go.XR

/-! ### Trees -/
section
variable {α : Type}
theorem Tr.get_eq (t : Tr α) (k : Nat) : t.get k = if k = 0 then t.top else if k % 2 = 1 then t.left.get (k / 2) else t.right.get (k / 2 - 1) := by
  cases t with
  | nil => simp [Tr.get, Tr.top, Tr.left, Tr.right]
  | node x l r =>
    simp only [Tr.get, Tr.top, Tr.left, Tr.right]
    by_cases h : k = 0
    · simp [h]
    · have : Nat.beq k 0 = false := XE.nbeq h
      rw [this, if_neg h]
      by_cases h2 : k % 2 = 1
      · rw [show Nat.beq (k % 2) 1 = true by rw [h2]; rfl, if_pos h2]; rfl
      · rw [XE.nbeq h2, if_neg h2]; rfl
theorem Tr.setF_succ (f : Nat) (t : Tr α) (n : Nat) (v : α) : Tr.setF (f + 1) t n v = cond (Nat.beq n 0) (.node (some v) t.left t.right) (cond (Nat.beq (n % 2) 1) (.node t.top (Tr.setF f t.left (n / 2) v) t.right) (.node t.top t.left (Tr.setF f t.right (n / 2 - 1) v))) := by
  have hL : ∀ (x : Option α) (u r : Tr α), Tr.inL x u r = .node x u r := fun x u r => by cases u <;> rfl
  have hR : ∀ (x : Option α) (l u : Tr α), Tr.inR x l u = .node x l u := fun x l u => by cases u <;> rfl
  cases t <;> simp only [Tr.setF, hL, hR, Tr.top, Tr.left, Tr.right]
theorem Tr.get_setF : ∀ (f : Nat) (t : Tr α) (n : Nat) (v : α) (k : Nat), n < f → (Tr.setF f t n v).get k = if k = n then some v else t.get k
  | 0, _, _, _, _, h => by omega
  | f + 1, t, n, v, k, h => by
    rw [Tr.setF_succ]
    by_cases h0 : n = 0
    · subst h0
      rw [show Nat.beq 0 0 = true by rfl, cond_true, Tr.get_eq, Tr.get_eq t k]
      simp only [Tr.top, Tr.left, Tr.right]
      by_cases hk : k = 0 <;> simp [hk]
    · rw [XE.nbeq h0, cond_false]
      by_cases h1 : n % 2 = 1
      · rw [show Nat.beq (n % 2) 1 = true by rw [h1]; rfl, cond_true, Tr.get_eq, Tr.get_eq t k]
        simp only [Tr.top, Tr.left, Tr.right]
        by_cases hk : k = 0
        · simp [hk, Ne.symm h0]
        · rw [if_neg hk, if_neg hk]
          by_cases h2 : k % 2 = 1
          · rw [if_pos h2, if_pos h2, Tr.get_setF f _ _ _ _ (by omega)]
            by_cases e : k = n
            · simp [e]
            · rw [if_neg e, if_neg (by omega)]
          · rw [if_neg h2, if_neg h2, if_neg (by omega)]
      · rw [XE.nbeq h1, cond_false, Tr.get_eq, Tr.get_eq t k]
        simp only [Tr.top, Tr.left, Tr.right]
        by_cases hk : k = 0
        · simp [hk, Ne.symm h0]
        · rw [if_neg hk, if_neg hk]
          by_cases h2 : k % 2 = 1
          · rw [if_pos h2, if_pos h2, if_neg (by omega)]
          · rw [if_neg h2, if_neg h2, Tr.get_setF f _ _ _ _ (by omega)]
            by_cases e : k = n
            · simp [e]
            · rw [if_neg e, if_neg (by omega)]
theorem Tr.get_set (t : Tr α) (n : Nat) (v : α) (k : Nat) : (t.set n v).get k = if k = n then some v else t.get k := Tr.get_setF _ _ _ _ _ (by omega)
end

/-! ### What a value stands for -/
/-- Where a block lies, and how many cells it has. -/
abbrev Pm := Nat → Option (Nat × Nat)
mutual
def den (ρ : Pm) : CV → Option Value
  | .at v => some v
  | .ptr b o => (ρ b).map fun p => .pointer (some ⟨p.1, o, none⟩)
  | .sl b o n e => (ρ b).bind fun p => if 0 < e ∧ o + n * e ≤ p.2 ∧ (p.2 - o) % e = 0 then some (.slice (some ⟨p.1, o, none⟩) n ((p.2 - o) / e)) else none
  | .esl b o l e => (ρ b).bind fun p => if 0 < e ∧ o + l * e ≤ p.2 ∧ (p.2 - o) % e = 0 then some (.slice (some (if (p.2 - o) / e = l then ⟨p.1, o, none⟩ else ⟨p.1, o + l * e, none⟩)) 0 ((p.2 - o) / e - l)) else none
  | .fn f a b => (denL ρ a).bind fun x => (denL ρ b).map fun y => .func (.func f) x.toArray y.toArray
  | .ifc t v => (den ρ v).map (.iface t)
  | .agg l => (denL ρ l).map fun x => .agg x.toArray
  | .tup l => (denL ρ l).map fun x => .tuple x.toArray
  | .mp b => (ρ b).map fun p => .map (some p.1)
  | .gp k i => (ρ k).map fun p => .pointer (some ⟨p.1, p.2 + i, none⟩)
  | .gs k n => (ρ k).bind fun p => (ρ (k + 1)).map fun q => .slice (some ⟨p.1, p.2, none⟩) n q.2
def denL (ρ : Pm) : List CV → Option (List Value)
  | [] => some []
  | v :: r => (den ρ v).bind fun u => (denL ρ r).map fun us => u :: us
end
def Ext (ρ ρ' : Pm) : Prop := ∀ b r, ρ b = some r → ρ' b = some r
theorem Ext.refl (ρ : Pm) : Ext ρ ρ := fun _ _ h => h
mutual
theorem den_mono {ρ ρ' : Pm} (h : Ext ρ ρ') : ∀ {v : CV} {u : Value}, den ρ v = some u → den ρ' v = some u
  | .at v, u, hv => hv
  | .ptr b o, u, hv => by
    simp only [den, Option.map_eq_some_iff] at hv ⊢
    obtain ⟨p, hp, e⟩ := hv
    exact ⟨p, h _ _ hp, e⟩
  | .sl b o n e, u, hv => by
    simp only [den, Option.bind_eq_some_iff] at hv ⊢
    obtain ⟨p, hp, e⟩ := hv
    exact ⟨p, h _ _ hp, e⟩
  | .esl b o n e, u, hv => by
    simp only [den, Option.bind_eq_some_iff] at hv ⊢
    obtain ⟨p, hp, e⟩ := hv
    exact ⟨p, h _ _ hp, e⟩
  | .fn f a b, u, hv => by
    simp only [den, Option.bind_eq_some_iff, Option.map_eq_some_iff] at hv ⊢
    obtain ⟨x, hx, y, hy, e⟩ := hv
    exact ⟨x, denL_mono h hx, y, denL_mono h hy, e⟩
  | .ifc t v, u, hv => by
    simp only [den, Option.map_eq_some_iff] at hv ⊢
    obtain ⟨x, hx, e⟩ := hv
    exact ⟨x, den_mono h hx, e⟩
  | .agg l, u, hv => by
    simp only [den, Option.map_eq_some_iff] at hv ⊢
    obtain ⟨x, hx, e⟩ := hv
    exact ⟨x, denL_mono h hx, e⟩
  | .tup l, u, hv => by
    simp only [den, Option.map_eq_some_iff] at hv ⊢
    obtain ⟨x, hx, e⟩ := hv
    exact ⟨x, denL_mono h hx, e⟩
  | .mp b, u, hv => by
    simp only [den, Option.map_eq_some_iff] at hv ⊢
    obtain ⟨p, hp, e⟩ := hv
    exact ⟨p, h _ _ hp, e⟩
  | .gp k i, u, hv => by
    simp only [den, Option.map_eq_some_iff] at hv ⊢
    obtain ⟨p, hp, e⟩ := hv
    exact ⟨p, h _ _ hp, e⟩
  | .gs k n, u, hv => by
    simp only [den, Option.bind_eq_some_iff, Option.map_eq_some_iff] at hv ⊢
    obtain ⟨p, hp, q, hq, e⟩ := hv
    exact ⟨p, h _ _ hp, q, h _ _ hq, e⟩
theorem denL_mono {ρ ρ' : Pm} (h : Ext ρ ρ') : ∀ {l : List CV} {us : List Value}, denL ρ l = some us → denL ρ' l = some us
  | [], us, hl => hl
  | v :: r, us, hl => by
    simp only [denL, Option.bind_eq_some_iff, Option.map_eq_some_iff] at hl ⊢
    obtain ⟨u, hu, y, hy, e⟩ := hl
    exact ⟨u, den_mono h hu, y, denL_mono h hy, e⟩
end
mutual
theorem toVal_den (ρ : Pm) : ∀ {v : CV} {u : Value}, toVal v = some u → den ρ v = some u
  | .at v, u, h => h
  | .ptr _ _, u, h => by cases h
  | .sl _ _ _ _, u, h => by cases h
  | .esl _ _ _ _, u, h => by cases h
  | .fn _ _ _, u, h => by cases h
  | .mp _, u, h => by cases h
  | .gp _ _, u, h => by cases h
  | .gs _ _, u, h => by cases h
  | .ifc t v, u, h => by
    simp only [toVal] at h
    split at h
    · rename_i x hx
      cases h
      simp [den, toVal_den ρ hx]
    · cases h
  | .agg l, u, h => by
    simp only [toVal] at h
    split at h
    · rename_i x hx
      cases h
      simp [den, toVals_den ρ hx]
    · cases h
  | .tup l, u, h => by
    simp only [toVal] at h
    split at h
    · rename_i x hx
      cases h
      simp [den, toVals_den ρ hx]
    · cases h
theorem toVals_den (ρ : Pm) : ∀ {l : List CV} {us : List Value}, toVals l = some us → denL ρ l = some us
  | [], us, h => h
  | v :: r, us, h => by
    simp only [toVals] at h
    split at h
    · rename_i x hx
      split at h
      · rename_i y hy
        cases h
        simp [denL, toVal_den ρ hx, toVals_den ρ hy]
      · cases h
    · cases h
end
theorem denL_at (ρ : Pm) : ∀ (l : List Value), denL ρ (l.map .at) = some l
  | [] => rfl
  | v :: r => by simp [denL, den, denL_at ρ r]
theorem denL_append {ρ : Pm} : ∀ {a b : List CV} {x y : List Value}, denL ρ a = some x → denL ρ b = some y → denL ρ (a ++ b) = some (x ++ y)
  | [], b, x, y, h, k => by cases h; exact k
  | v :: a, b, x, y, h, k => by
    simp only [denL, Option.bind_eq_some_iff, Option.map_eq_some_iff] at h
    obtain ⟨u, hu, z, hz, e⟩ := h
    subst e
    simp [denL, hu, denL_append hz k]
theorem denL_len {ρ : Pm} : ∀ {l : List CV} {us : List Value}, denL ρ l = some us → us.length = l.length
  | [], us, h => by cases h; rfl
  | v :: r, us, h => by
    simp only [denL, Option.bind_eq_some_iff, Option.map_eq_some_iff] at h
    obtain ⟨u, hu, y, hy, e⟩ := h
    subst e
    simp [denL_len hy]
theorem denL_get {ρ : Pm} : ∀ {l : List CV} {us : List Value}, denL ρ l = some us → ∀ (i : Nat) (v : CV), l[i]? = some v → ∃ u, us[i]? = some u ∧ den ρ v = some u
  | [], us, h, i, v, hi => by cases hi
  | x :: r, us, h, i, v, hi => by
    simp only [denL, Option.bind_eq_some_iff, Option.map_eq_some_iff] at h
    obtain ⟨u, hu, y, hy, e⟩ := h
    subst e
    cases i with
    | zero => cases hi; exact ⟨u, rfl, hu⟩
    | succ i => simpa using denL_get hy i v (by simpa using hi)
theorem denL_of {ρ : Pm} : ∀ {l : List CV} {us : List Value}, us.length = l.length → (∀ (i : Nat) (v : CV), l[i]? = some v → ∃ u, us[i]? = some u ∧ den ρ v = some u) → denL ρ l = some us
  | [], us, h, _ => by cases us <;> simp_all [denL]
  | x :: r, [], h, _ => by simp at h
  | x :: r, u :: us, h, hi => by
    obtain ⟨u', h1, h2⟩ := hi 0 x rfl
    cases h1
    simp [denL, h2, denL_of (l := r) (us := us) (by simpa using h) fun i v hv => by simpa using hi (i + 1) v (by simpa using hv)]
theorem denL_take {ρ : Pm} {l : List CV} {us : List Value} (h : denL ρ l = some us) (n : Nat) : denL ρ (l.take n) = some (us.take n) := by
  have hl := denL_len h
  refine denL_of (by simp [hl]) fun i v hi => ?_
  rw [List.getElem?_take] at hi ⊢
  split at hi
  · rename_i hc
    rw [if_pos hc]; exact denL_get h i v hi
  · cases hi
theorem denL_drop {ρ : Pm} {l : List CV} {us : List Value} (h : denL ρ l = some us) (n : Nat) : denL ρ (l.drop n) = some (us.drop n) := by
  have hl := denL_len h
  refine denL_of (by simp [hl]) fun i v hi => ?_
  rw [List.getElem?_drop] at hi ⊢
  exact denL_get h _ v hi
theorem denL_write {ρ : Pm} {l xs : List CV} {us ys : List Value} (h : denL ρ l = some us) (k : denL ρ xs = some ys) (o : Nat) : denL ρ (writeC l o xs) = some (us.take o ++ ys ++ us.drop (o + ys.length)) := by
  unfold writeC
  rw [denL_len k]
  exact denL_append (denL_append (denL_take h o) k) (denL_drop h _)
theorem den_cells {ρ : Pm} {v : CV} {u : Value} (h : den ρ v = some u) : denL ρ (cellsC v) = some u.cells.toList := by
  cases v with
  | «at» v =>
    cases h
    cases u <;> first
      | exact denL_at ρ _
      | simp [cellsC, denL, den, Value.cells]
  | agg l =>
    simp only [den, Option.map_eq_some_iff] at h
    obtain ⟨x, hx, e⟩ := h
    subst e
    simpa [cellsC, Value.cells] using hx
  | ptr b o =>
    have h' := h
    simp only [den, Option.map_eq_some_iff] at h
    obtain ⟨x, hx, e⟩ := h
    subst e
    simp [cellsC, denL, h', Value.cells]
  | sl b o n e =>
    have h' := h
    simp only [den, Option.bind_eq_some_iff] at h
    obtain ⟨x, hx, e⟩ := h
    split at e
    · cases e; simp [cellsC, denL, h', Value.cells]
    · cases e
  | esl b o n e =>
    have h' := h
    simp only [den, Option.bind_eq_some_iff] at h
    obtain ⟨x, hx, e⟩ := h
    split at e
    · cases e; simp [cellsC, denL, h', Value.cells]
    · cases e
  | fn f a b =>
    have h' := h
    simp only [den, Option.bind_eq_some_iff, Option.map_eq_some_iff] at h
    obtain ⟨x, hx, y, hy, e⟩ := h
    subst e
    simp [cellsC, denL, h', Value.cells]
  | ifc t v =>
    have h' := h
    simp only [den, Option.map_eq_some_iff] at h
    obtain ⟨x, hx, e⟩ := h
    subst e
    simp [cellsC, denL, h', Value.cells]
  | tup l =>
    have h' := h
    simp only [den, Option.map_eq_some_iff] at h
    obtain ⟨x, hx, e⟩ := h
    subst e
    simp [cellsC, denL, h', Value.cells]
  | mp b =>
    have h' := h
    simp only [den, Option.map_eq_some_iff] at h
    obtain ⟨x, hx, e⟩ := h
    subst e
    simp [cellsC, denL, h', Value.cells]
  | gp k i =>
    have h' := h
    simp only [den, Option.map_eq_some_iff] at h
    obtain ⟨x, hx, e⟩ := h
    subst e
    simp [cellsC, denL, h', Value.cells]
  | gs k n =>
    have h' := h
    simp only [den, Option.bind_eq_some_iff, Option.map_eq_some_iff] at h
    obtain ⟨x, hx, y, hy, e⟩ := h
    subst e
    simp [cellsC, denL, h', Value.cells]
theorem den_isCell {ρ : Pm} {v : CV} {u : Value} (h : den ρ v = some u) (hc : isCell v = true) : u.oneCell' = true := by
  cases v with
  | «at» v => cases h; cases u <;> first | rfl | (simp [isCell] at hc)
  | agg l => cases hc
  | tup l => cases hc
  | ptr b o => simp only [den, Option.map_eq_some_iff] at h; obtain ⟨x, hx, e⟩ := h; subst e; rfl
  | sl b o n e =>
    simp only [den, Option.bind_eq_some_iff] at h
    obtain ⟨x, hx, e⟩ := h
    split at e
    · cases e; rfl
    · cases e
  | esl b o n e =>
    simp only [den, Option.bind_eq_some_iff] at h
    obtain ⟨x, hx, e⟩ := h
    split at e
    · cases e; rfl
    · cases e
  | fn f a b => simp only [den, Option.bind_eq_some_iff, Option.map_eq_some_iff] at h; obtain ⟨x, hx, y, hy, e⟩ := h; subst e; rfl
  | ifc t v => simp only [den, Option.map_eq_some_iff] at h; obtain ⟨x, hx, e⟩ := h; subst e; rfl
  | mp b => simp only [den, Option.map_eq_some_iff] at h; obtain ⟨x, hx, e⟩ := h; subst e; rfl
  | gp k i => simp only [den, Option.map_eq_some_iff] at h; obtain ⟨x, hx, e⟩ := h; subst e; rfl
  | gs k n => simp only [den, Option.bind_eq_some_iff, Option.map_eq_some_iff] at h; obtain ⟨x, hx, y, hy, e⟩ := h; subst e; rfl
theorem denL_isCell {ρ : Pm} : ∀ {l : List CV} {us : List Value}, denL ρ l = some us → l.all isCell = true → ∀ u ∈ us, u.oneCell' = true
  | [], us, h, _, u, hu => by cases h; cases hu
  | x :: r, us, h, hc, u, hu => by
    simp only [denL, Option.bind_eq_some_iff, Option.map_eq_some_iff] at h
    obtain ⟨y, hy, z, hz, e⟩ := h
    subst e
    simp only [List.all_cons, Bool.and_eq_true] at hc
    rcases List.mem_cons.1 hu with rfl | hu
    · exact den_isCell hy hc.1
    · exact denL_isCell hz hc.2 u hu

/-! ### Operations that look at no memory -/
theorem run_pure {α : Type} {P : Program} : ∀ {s : Sem α} {a : α}, pureRun P s = some a → ∀ w, s.run P w = .ok a w
  | .pure a, b, h, w => by cases h; rfl
  | .program k, b, h, w => run_pure (s := k P) h w
  | .mark _ k, b, h, w => run_pure (s := k) h w
  | .load .., _, h, _ => by cases h
  | .store .., _, h, _ => by cases h
  | .new .., _, h, _ => by cases h
  | .shape .., _, h, _ => by cases h
  | .freeze .., _, h, _ => by cases h
  | .frozen .., _, h, _ => by cases h
  | .getObj .., _, h, _ => by cases h
  | .setObj .., _, h, _ => by cases h
  | .choose .., _, h, _ => by cases h
  | .sys .., _, h, _ => by cases h
  | .halt .., _, h, _ => by cases h
end Go.XR
