/- Part 11 of the proof. -/
import Derived.Test.YtnmkgbomiillgaaGreatDoorP10
import Derived.Lib.UnsafeStr
import Derived.Lib.Builder
import Derived.Laws.BytesString
import Derived.StillTailTactics
import Derived.Deep.QuietTactic
/- The concrete evaluator: operations, part three: new memory. -/
namespace Go.XR
section
variable {P : Program} {B w w' : World} {ρ ρ' : Pm} {s s' : VS} {t : Tr CV} {a : Act} {o : Oper} {v x y : CV} {vx vy : Value}

theorem cells_at (ρ : Pm) (z : Value) : CellsOk ρ (z.cells.toList.map .at) z.cells := by
  have := cells_of (denL_at ρ z.cells.toList)
  simpa using this
theorem new_ptr (ρ : Pm) (n : Nat) (r : Nat × Nat) : den (upd ρ n r) (.ptr n 0) = some (.pointer (some ⟨r.1, 0, none⟩)) := by simp [den, upd]
theorem alloc_go (h : HRel B ρ s w) {et : TypeId} (ho : o.op = .alloc et) {z : Value} (hz : zeroOf P et = some z) : OpGo P B ρ s w a o (.ptr s.next 0) (newC s et (z.cells.toList.map .at) true) := by
  refine OpGo.new h (u := .pointer (some ⟨w.heap.size, 0, none⟩)) (w' := XE.newW w z.cells et) (c := z.cells) (f := (0, 0)) ?_ rfl (fun _ => by simp) (nofz0 _) (cells_at ρ z) (new_ptr ρ _ _)
  simp [execOp, ho, Instr.alloc, zero_run hz, XE.run_newVar]
theorem box_go (h : HRel B ρ s w) (r : TRel ρ t a) {et : TypeId} {x : Operand} (ho : o.op = .box et x) : OpGo P B ρ s w a o (.ptr s.next 0) (newC s et (cellsC (ev t x)) true) := by
  have hd := den_cells (ev_ok r x)
  refine OpGo.new h (u := .pointer (some ⟨w.heap.size, 0, none⟩)) (w' := XE.newW w (a.eval x).cells et) (c := (a.eval x).cells) (f := (0, 0)) ?_ rfl (fun _ => by have := denL_len hd; simpa using this.symm) (nofz0 _) (by simpa using cells_of hd) (new_ptr ρ _ _)
  simp [execOp, ho, Instr.box, XE.run_newVar]
theorem makeMap_go (h : HRel B ρ s w) {ty : TypeId} (ho : o.op = .makeMap ty none) : OpGo P B ρ s w a o (.mp s.next) (s.new none) := by
  have hn := h.dom _ (Nat.le_refl s.next)
  have h1 := (h.virt none).real (b := s.next) (w' := { w with heap := w.heap.push (.map #[] 0) }) (o := .map #[] 0) (n := 0) (Nat.lt_succ_self _) hn rfl fun k hk => by
    rw [blk_new, if_pos rfl] at hk; cases hk
  refine ⟨_, .map (some w.heap.size), _, _, ?_, .inl rfl, by simp [den, upd], h1, fun b hb => by unfold upd; rw [if_neg (by omega)]⟩
  simp [execOp, ho, Instr.makeMap, newObj, Sem.run]

/-! ### Composites -/
theorem fill_ok {place : Nat → Option (Nat × Nat)} (r : TRel ρ t a) : ∀ {ps : List (Nat × Operand)} {cs cs' : List CV} {us : List Value}, fillC place (ps.map fun p => (p.1, ev t p.2)) cs = some cs' → denL ρ cs = some us →
    ∃ us', denL ρ cs' = some us' ∧ Instr.fill place us.toArray (ps.map fun p => (p.1, a.eval p.2)) = some us'.toArray ∧ cs'.length = cs.length
  | [], cs, cs', us, h, hc => by cases h; exact ⟨us, hc, rfl, rfl⟩
  | (i, x) :: ps, cs, cs', us, h, hc => by
    simp only [List.map_cons, fillC] at h
    split at h
    · rename_i off size hp
      cases hb : (Nat.beq (cellsC (ev t x)).length size && Nat.ble (off + size) cs.length) with
      | false => rw [hb] at h; cases h
      | true =>
        rw [hb] at h
        simp only [Bool.and_eq_true, Nat.ble_eq] at hb
        have h1 := Nat.eq_of_beq_eq_true hb.1
        have hd := den_cells (ev_ok r x)
        have hl := denL_len hd
        have hlc := denL_len hc
        have hsz : (a.eval x).cells.size = size := by simpa [h1] using hl
        obtain ⟨cells', g1, g2⟩ := XE.fill_step place us.toArray i (a.eval x) (ps.map fun p => (p.1, a.eval p.2)) off size hp hsz (by simp; omega)
        have hw := denL_write hc hd off
        obtain ⟨us', k1, k2, k3⟩ := fill_ok r (ps := ps) h hw
        refine ⟨us', k1, ?_, k3.trans (writeC_len (by omega))⟩
        simp only [List.map_cons]
        rw [g1, ← k2]
        congr 1
        apply Array.ext'
        rw [g2]
        simp [hsz]
    · cases h
theorem build_go (h : HRel B ρ s w) (r : TRel ρ t a) {ty : TypeId} {ps : Array (Nat × Operand)} (ho : o.op = .build ty ps) (he : buildC P ty (ps.toList.map fun p => (p.1, ev t p.2)) = some v) : OpGo P B ρ s w a o v s := by
  unfold buildC at he
  split at he
  · cases he
  · rename_i z hz
    unfold zeroOf at hz
    simp only [Option.bind_eq_some_iff] at hz
    obtain ⟨it, hit, hz⟩ := hz
    have fin : ∀ (place : Nat → Option (Nat × Nat)) (cs' : List CV), fillC place (ps.toList.map fun p => (p.1, ev t p.2)) (z.cells.toList.map .at) = some cs' → v = .agg cs' →
        (∀ us' : List Value, Instr.fill place z.cells (ps.toList.map fun p => (p.1, a.eval p.2)) = some us'.toArray → P.built ty (ps.toList.map fun p => (p.1, a.eval p.2)) = some us'.toArray) → OpGo P B ρ s w a o v s := fun place cs' h1 h2 h3 => by
      obtain ⟨us', k1, k2, _⟩ := fill_ok r h1 (denL_at ρ _)
      have hrun := run_build (P := P) w ty (ps.map fun q => (q.1, a.eval q.2)) us'.toArray (by rw [Array.toList_map]; exact h3 us' (by simpa using k2))
      refine OpGo.val h (u := .agg us'.toArray) ?_ (by rw [h2]; simp [den, k1])
      have hrun' : (Instr.build ty (ps.map fun (x : Nat × Operand) => match x with | (i, x) => (i, a.eval x))).run P w = _ := hrun
      simp only [execOp, ho, Sem.run_bind]
      rw [hrun']
      rfl
    split at he
    · rename_i fs hu
      split at he
      · rename_i pl hpl
        simp only [Option.map_eq_some_iff] at he
        obtain ⟨cs', h1, rfl⟩ := he
        exact fin _ cs' h1 rfl fun us' h2 => by simp only [Program.built, hit, hu, hz, hpl]; exact h2
      · cases he
    · rename_i n et hu
      split at he
      · rename_i i hi
        simp only [Option.map_eq_some_iff] at he
        obtain ⟨cs', h1, rfl⟩ := he
        exact fin _ cs' h1 rfl fun us' h2 => by simp only [Program.built, hit, hu, hz, hi]; exact h2
      · cases he
    · cases he
theorem rep_get {z : List CV} (hz : 0 < z.length) : ∀ (n j : Nat), j < n * z.length → (repC z n)[j]? = z[j % z.length]?
  | 0, j, h => by omega
  | n + 1, j, h => by
    rw [repC]
    by_cases hj : j < z.length
    · rw [List.getElem?_append_left hj, Nat.mod_eq_of_lt hj]
    · rw [List.getElem?_append_right (by omega), rep_get hz n (j - z.length) (by rw [Nat.succ_mul] at h; omega)]
      congr 1
      conv => rhs; rw [show j = (j - z.length) + z.length by omega, Nat.add_mod_right]
theorem rep_len {z : List CV} : ∀ (n : Nat), (repC z n).length = n * z.length
  | 0 => by simp [repC]
  | n + 1 => by rw [repC, List.length_append, rep_len n, Nat.succ_mul, Nat.add_comm]
theorem rep_den (ρ : Pm) (z : Array Value) (hz : 0 < z.size) (n : Nat) : denL ρ (repC (z.toList.map .at) n) = some ((Array.range (n * z.size)).map (z[· % z.size]!)).toList := by
  refine denL_of (by rw [rep_len]; simp) fun i v hi => ?_
  have hlt : i < n * z.size := by have := (List.getElem?_eq_some_iff.1 hi).1; rw [rep_len] at this; simpa using this
  rw [rep_get (by simpa using hz) n i (by simpa using hlt)] at hi
  have hm := Nat.mod_lt i hz
  simp [hm] at hi
  refine ⟨z[i % z.size], ?_, by rw [← hi]; rfl⟩
  simp [hlt, hm]
theorem new_sl {ρ : Pm} {n b : Nat} {m e k : Nat} (he : 0 < e) (hk : k ≤ m) : den (upd ρ n (b, m * e)) (.sl n 0 k e) = some (.slice (some ⟨b, 0, none⟩) k m) := by
  have := sl_den (ρ := upd ρ n (b, m * e)) (b := n) (o := 0) (n := k) (e := e) (r := (b, m * e)) (by simp [upd]) he (by simpa using Nat.mul_le_mul_right e hk) (by simp)
  rw [this]
  simp [Nat.mul_div_cancel _ he]
theorem buildSlice_go (h : HRel B ρ s w) (r : TRel ρ t a) {ty : TypeId} {len : Nat} {ps : Array (Nat × Operand)} (ho : o.op = .buildSlice ty len ps) (he : buildSliceC P s ty len (ps.toList.map fun p => (p.1, ev t p.2)) = some (v, s')) : OpGo P B ρ s w a o v s' := by
  unfold buildSliceC at he
  split at he
  · rename_i et het
    have hu : P.underlying ty = some (.slice et) := by
      unfold elemOf at het
      split at het
      · rename_i hu; cases het; exact hu
      · cases het
    split at he
    · rename_i e z hs hz
      cases hc : (Nat.blt 0 e && Nat.beq z.cells.toList.length e && Nat.ble (len * e) 16777216) with
      | false => rw [hc] at he; cases he
      | true =>
        rw [hc] at he
        simp only [cond_true] at he
        split at he
        · rename_i cs hf
          cases he
          simp only [Bool.and_eq_true, Nat.ble_eq, Nat.blt_eq] at hc
          obtain ⟨⟨c1, c2⟩, c3⟩ := hc
          replace c2 : z.cells.size = e := by simpa using Nat.eq_of_beq_eq_true c2
          unfold szOf at hs
          simp only [Option.map_eq_some_iff] at hs
          obtain ⟨ie, hie, hsz⟩ := hs
          have hz' := hz
          unfold zeroOf at hz'
          simp only [hie, Option.bind_some] at hz'
          obtain ⟨us', k1, k2, k3⟩ := fill_ok r hf (rep_den ρ z.cells (by omega) len)
          have hl := denL_len k1
          rw [rep_len] at k3
          have hcl : us'.length = len * e := by rw [hl, k3]; simp [c2]
          have hnew : ∀ {w'} {u : Value}, (execOp a.eval o).run P w = .ok (.value (.slice (some ⟨w.heap.size, 0, none⟩) len len)) w' → w'.heap = w.heap.push (.cells us'.toArray et (0, 0)) → SameOut w' w → OpGo P B ρ s w a o (.sl s.next 0 len e) (newC s et cs true) := fun hr hw eo => by
            refine OpGo.new (eo := eo) h (u := .slice (some ⟨w.heap.size, 0, none⟩) len len) hr hw (fun _ => by rw [← hl]; simp) (nofz0 _) (cells_of k1) ?_
            have := new_sl (ρ := ρ) (n := s.next) (b := w.heap.size) (m := len) (k := len) c1 (Nat.le_refl _)
            rwa [show len * e = us'.toArray.size by simp [hcl]] at this
          by_cases hn0 : len = 0
          · subst hn0
            have hus : us' = [] := List.length_eq_zero_iff.1 (by simpa using hcl)
            subst hus
            refine hnew (u := undef) (w' := XE.newW w #[] et) ?_ rfl ⟨rfl, rfl⟩
            have hr0 : Array.range 0 = #[] := rfl
            have hrun : (Instr.buildSlice ty 0 (ps.map fun q => (q.1, a.eval q.2))).run P w = .ok (.slice (some ⟨w.heap.size, 0, none⟩) 0 0) (XE.newW w #[] et) := by
              simp only [Nat.zero_mul, hr0] at k2
              have k2' : Instr.fill (fun i => some (i * ie.size, ie.size)) #[] (ps.toList.map fun p => (p.1, a.eval p.2)) = some #[] := by rw [hsz]; simpa using k2
              simp [Instr.buildSlice, run_underlying hu, sizeOf, typeInfo, hie, k2', newRow, newObj, Sem.run, XE.newW, hr0]
            have hrun' : (Instr.buildSlice ty 0 (ps.map fun (x : Nat × Operand) => match x with | (i, x) => (i, a.eval x))).run P w = _ := hrun
            simp only [execOp, ho, Sem.run_bind]
            rw [hrun']
            rfl
          · have hrun := run_buildSlice (P := P) w ty et len (ps.map fun q => (q.1, a.eval q.2)) us'.toArray ie z hu hie hz' (by rw [hsz]; omega) (by rw [hsz]; have := Nat.mul_pos (Nat.pos_of_ne_zero hn0) c1; omega) (by
              rw [Array.toList_map, ← k2, hsz, c2]
              try simp)
            refine hnew (u := undef) (w' := w.alloc (.cells us'.toArray et)) ?_ rfl ⟨rfl, rfl⟩
            have hrun' : (Instr.buildSlice ty len (ps.map fun (x : Nat × Operand) => match x with | (i, x) => (i, a.eval x))).run P w = _ := hrun
            simp only [execOp, ho, Sem.run_bind]
            rw [hrun']
            rfl
        · cases he
    · cases he
  · cases he
theorem makeSlice_go (h : HRel B ρ s w) (r : TRel ρ t a) {ty : TypeId} {l c : Operand} (ho : o.op = .makeSlice ty l c) (he : makeSliceC P s ty (ev t l) (ev t c) = some (v, s')) : OpGo P B ρ s w a o v s' := by
  unfold makeSliceC at he
  split at he
  · rename_i et ln cn het hl hcn
    have hu : P.underlying ty = some (.slice et) := by
      unfold elemOf at het
      split at het
      · rename_i hu; cases het; exact hu
      · cases het
    obtain ⟨kl, el⟩ := intOf_eq hl (ev_ok r l)
    obtain ⟨kc, ec⟩ := intOf_eq hcn (ev_ok r c)
    split at he
    · rename_i e z by_ hs hz hby
      cases hc : (Nat.blt 0 e && Nat.beq z.cells.toList.length e && Nat.ble by_ 16384 && decide (0 ≤ ln) && decide (ln ≤ cn) && decide (cn ≤ 1000000)) with
      | false => rw [hc] at he; cases he
      | true =>
        rw [hc] at he
        cases he
        simp only [Bool.and_eq_true, Nat.ble_eq, Nat.blt_eq, decide_eq_true_eq] at hc
        obtain ⟨⟨⟨⟨⟨c1, c2⟩, c3⟩, c4⟩, c5⟩, c6⟩ := hc
        replace c2 : z.cells.size = e := by simpa using Nat.eq_of_beq_eq_true c2
        unfold szOf at hs
        simp only [Option.map_eq_some_iff] at hs
        obtain ⟨ie, hie, hsz⟩ := hs
        have hz' := hz
        unfold zeroOf at hz'
        simp only [hie, Option.bind_some] at hz'
        unfold bytesC at hby
        simp only [hie, Option.map_some, Option.some.injEq] at hby
        have hbytes : (ie.bytes : Int) * cn ≤ 281474976710656 := by
          have h1 : (ie.bytes : Int) ≤ 16384 := by omega
          have : (ie.bytes : Int) * cn ≤ 16384 * 1000000 := Int.mul_le_mul h1 c6 (by omega) (by omega)
          omega
        have hrun := run_make (P := P) w ty et ie z hu hie hz' kl kc ln cn c4 c5 hbytes (by omega)
        have hd := rep_den ρ z.cells (by omega) cn.toNat
        refine OpGo.new h (u := .slice (some ⟨w.heap.size, 0, none⟩) ln.toNat cn.toNat) (w' := w.alloc (.cells (madeCells z.cells (cn.toNat * ie.size)) et)) (c := madeCells z.cells (cn.toNat * ie.size)) (f := (0, 0)) ?_ rfl (fun _ => by rw [rep_len, size_madeCells, hsz]; simp [c2]) (nofz0 _) ?_ ?_
        · simp [execOp, ho, el, ec, hrun]
        · have := cells_of hd
          rw [Array.toArray_toList, c2] at this
          simpa only [madeCells, hsz, c2] using this
        · have := new_sl (ρ := ρ) (n := s.next) (b := w.heap.size) (m := cn.toNat) (k := ln.toNat) c1 (by omega)
          rwa [show cn.toNat * e = (madeCells z.cells (cn.toNat * ie.size)).size by rw [size_madeCells, hsz]] at this
    · cases he
  · cases he
end
end Go.XR
/- The concrete evaluator: operations, part four: conversions and builtins. -/
namespace Go.XR
section
variable {P : Program} {B w w' : World} {ρ ρ' : Pm} {s s' : VS} {t : Tr CV} {a : Act} {o : Oper} {v x y : CV} {vx vy : Value}

theorem bytes_from {ρ : Pm} : ∀ {l : List CV} {bs : List UInt8} {us : List Value}, bytesFrom l = some bs → denL ρ l = some us → us.length = bs.length ∧ ∃ ns : List Int, us = ns.map (Value.int .u8) ∧ bs = (ns.map fun n => n.toNat.toUInt8) ∧ ∀ n ∈ ns, 0 ≤ n ∧ n < 256
  | [], bs, us, h, hd => by cases h; cases hd; exact ⟨rfl, [], rfl, rfl, by simp⟩
  | x :: r, bs, us, h, hd => by
    unfold bytesFrom at h
    split at h
    · cases ‹_ = ([] : List CV)›
    · rename_i n r' e
      cases e
      cases hn : (decide (0 ≤ n) && decide (n < 256)) with
      | false => rw [hn] at h; cases h
      | true =>
        rw [hn] at h
        simp only [cond_true] at h
        split at h
        · rename_i l hl
          cases h
          simp only [denL, den, Option.bind_some, Option.map_eq_some_iff] at hd
          obtain ⟨z, hz, rfl⟩ := hd
          obtain ⟨h1, ns, rfl, rfl, h2⟩ := bytes_from hl hz
          simp only [Bool.and_eq_true, decide_eq_true_eq] at hn
          exact ⟨by simp, n :: ns, rfl, rfl, fun m hm => by
            rcases List.mem_cons.1 hm with rfl | hm
            · exact hn
            · exact h2 m hm⟩
        · cases h
    · cases h
theorem freeze_heap {w : World} {b : Nat} {c : Array Value} {ty : TypeId} {f : Nat × Nat} (h : w.heap[b]? = some (.cells c ty f)) (o n : Nat) : ∃ f', (w.freeze ⟨b, o, none⟩ n).heap[b]? = some (.cells c ty f') ∧ (f = (0, 0) → n = 1 → f' = (o, o + 1)) ∧ (∀ x, x ≠ b → (w.freeze ⟨b, o, none⟩ n).heap[x]? = w.heap[x]?) ∧ (w.freeze ⟨b, o, none⟩ n).heap.size = w.heap.size := by
  obtain ⟨lo, hi⟩ := f
  unfold World.freeze
  by_cases hn : n = 0
  · rw [if_pos hn]
    exact ⟨_, h, fun _ h1 => by omega, fun _ _ => rfl, rfl⟩
  · rw [if_neg hn]
    refine ⟨if lo = hi then (o, o + n) else (min lo o, max hi (o + n)), by simp [Array.getElem?_modify, h], fun e1 e2 => ?_, fun x hx => by simp [Array.getElem?_modify, Ne.symm hx], by simp⟩
    cases e1
    subst e2
    rfl
theorem run_mark {w : World} {b : Nat} {c : Array Value} {ty : TypeId} {f : Nat × Nat} (h : w.heap[b]? = some (.cells c ty f)) : (markStringish ⟨b, 0, none⟩).run P w = .ok () (w.freeze ⟨b, c.size, none⟩ 1) := by
  simp [markStringish, shape, Sem.run, World.shape?, h, freeze]
theorem run_s2b (w : World) (et : TypeId) (str : ByteArray) : ∃ w' c cap, (Conv.stringToBytes et str).run P w = .ok (.slice (some ⟨w.heap.size, 0, none⟩) str.size cap) w' ∧ str.size ≤ cap ∧ c.size = cap ∧ w'.heap = w.heap.push (.cells c et (cap, cap + 1)) ∧ SameOut w' w ∧ ∀ (i : Nat) (q : UInt8), str.data.toList[i]? = some q → c[i]? = some (Value.int .u8 q.toNat) := by
  let cap := (Question.appendCap str.size 0 et).cut (w.tape w.drawn (.appendCap str.size 0 et))
  have hcap : str.size ≤ cap := by simp only [cap, Question.cut]; exact Nat.le_add_right _ _
  let c : Array Value := str.data.map (fun b => .int .u8 b.toNat) ++ Array.replicate (cap - str.size) (.int .u8 0)
  have hcs : c.size = cap := by
    simp only [c, Array.size_append, Array.size_map, Array.size_replicate]
    have : str.data.size = str.size := rfl
    omega
  let W : World := w.drew.alloc (.cells c et)
  have hW : W.heap[w.heap.size]? = some (.cells c et (0, 0)) := by
    show (w.heap.push _)[w.heap.size]? = _
    simp
  obtain ⟨f', h1, h2, h3, h4⟩ := freeze_heap hW c.size 1
  refine ⟨W.freeze ⟨w.heap.size, c.size, none⟩ 1, c, cap, ?_, hcap, hcs, ?_, ⟨rfl, rfl⟩, fun i q hq => ?_⟩
  · have hch : (choose (.appendCap str.size 0 et)).run P w = .ok cap w.drew := by simp [Question.forced, cap]
    have hnew : (newRow et c).run P w.drew = .ok ⟨w.heap.size, 0, none⟩ W := rfl
    simp only [Conv.stringToBytes, Sem.run_bind, hch, Result.andThen_ok]
    rw [hnew]
    simp only [Result.andThen_ok, run_mark hW]
    rfl
  · apply Array.ext_getElem?
    intro x
    by_cases hx : x = w.heap.size
    · subst hx
      rw [h1, h2 rfl rfl, hcs]; simp
    · rw [h3 x hx]
      show (w.heap.push _)[x]? = _
      simp only [Array.getElem?_push, if_neg hx]
  · simp only [c]
    have hlt := (List.getElem?_eq_some_iff.1 hq).1
    rw [Array.getElem?_append_left (by simpa using hlt)]
    have : str.data[i]? = some q := by simpa using hq
    simp [this]
theorem rep_all {z : List CV} (h : z.all isCell = true) : ∀ n, (repC z n).all isCell = true
  | 0 => rfl
  | n + 1 => by rw [repC, List.all_append, h, rep_all h n]; rfl
theorem fold_push : ∀ (ns : List Int) (s : ByteArray), ns.foldl (fun r n => r.push (UInt8.ofNat n.toNat)) s = ⟨s.data ++ (ns.map fun n => n.toNat.toUInt8).toArray⟩
  | [], s => by cases s; simp
  | n :: ns, s => by
    rw [List.foldl_cons, fold_push ns]
    apply ByteArray.ext
    simp [ByteArray.push]
theorem conv_go (h : HRel B ρ s w) (r : TRel ρ t a) {src dst : TypeId} {x : Operand} (ho : o.op = .convert src dst x) (he : convC P s src dst (ev t x) = some (v, s')) : OpGo P B ρ s w a o v s' := by
  have hx := ev_ok r x
  generalize ev t x = X at he hx
  unfold convC at he
  split at he
  · rename_i q hq
    cases he
    obtain ⟨u, h1, rfl, rfl⟩ := pure1 hq hx
    exact OpGo.val h (by simp [execOp, ho, h1]) rfl
  · rename_i hno
    clear hno
    split at he
    · rename_i e b off hs hd
      obtain ⟨q, hq, e1⟩ := den_ptr hx
      split at he
      · rename_i k z hk hz
        cases hc : Nat.blt off k.cs.length with
        | false => rw [hc] at he; cases he
        | true =>
          rw [hc] at he
          cases he
          rw [Nat.blt_eq] at hc
          unfold szOf at hz
          simp only [Option.map_eq_some_iff] at hz
          obtain ⟨i, hi, hz⟩ := hz
          obtain ⟨c, f, hb⟩ := h.blk b k q hk hq
          have hlen := h.len hk hq
          have hsz := hb.size
          have hrun := Lib.run_to_unsafe (P := P) w (e := k.ty) (cells := c.size) ⟨q.1, off, none⟩ hs hd hi (by omega) (by simp [World.shape?, hb.at_]) (by simp; omega)
          exact OpGo.val h (u := .pointer (some ⟨q.1, off, none⟩)) (by simp [execOp, ho, e1, hrun]) (by simp [den, hq])
      · cases he
    · rename_i e b off hs hd
      obtain ⟨q, hq, e1⟩ := den_ptr hx
      split at he
      · rename_i k z hk hz
        cases hc : (k.ex && liesAt P P.depth k.ty (k.cs.length / P.cellsOf k.ty) off e 1) with
        | false => rw [hc] at he; cases he
        | true =>
          rw [hc] at he
          cases he
          simp only [Bool.and_eq_true] at hc
          unfold szOf at hz
          simp only [Option.map_eq_some_iff] at hz
          obtain ⟨i, hi, hz⟩ := hz
          obtain ⟨c, f, hb⟩ := h.blk b k q hk hq
          have hsz := hb.size
          have hex := hb.ex hc.1
          have hrun := Lib.run_from_unsafe (P := P) w (e := k.ty) (cells := c.size) ⟨q.1, off, none⟩ hs hd hi (by simp [World.shape?, hb.at_]) (by rw [hsz, ← hex]; exact hc.2)
          exact OpGo.val h (u := .pointer (some ⟨q.1, off, none⟩)) (by simp [execOp, ho, e1, hrun]) (by simp [den, hq])
      · cases he
    · rename_i b off hs hd
      cases he
      obtain ⟨q, hq, e1⟩ := den_ptr hx
      refine OpGo.val h (u := .pointer (some ⟨q.1, off, none⟩)) ?_ (by simp [den, hq])
      simp [execOp, ho, e1, convert, run_underlying hs, run_underlying hd, Conv.unsafePointer]
    · rename_i et str hs hd
      split at he
      · rename_i hu
        cases he
        have e1 := Option.some.inj (show some _ = some _ from hx)
        obtain ⟨w', c, cap, k1, k2, k3, k4, k6, k5⟩ := run_s2b (P := P) w et str
        refine OpGo.new (eo := k6) h (u := .slice (some ⟨w.heap.size, 0, none⟩) str.size cap) (w' := w') (c := c) (f := (cap, cap + 1)) ?_ k4 (fun e => by cases e) (fun j hj => by rw [k3] at hj; simp; omega) (fun i v hi => ?_) ?_
        · simp only [execOp, ho, ← e1, Sem.run_bind, convert, run_underlying hs, run_underlying hd, run_underlying hu, Result.andThen_ok, k1]
          rfl
        · simp only [List.getElem?_map, Option.map_eq_some_iff] at hi
          obtain ⟨q, hq, rfl⟩ := hi
          exact ⟨_, rfl, k5 i q hq⟩
        · have := new_sl (ρ := ρ) (n := s.next) (b := w.heap.size) (m := cap) (k := str.data.toList.length) (e := 1) (by omega) (by simpa using k2)
          rw [Nat.mul_one] at this
          rw [k3, this]
          simp
      · cases he
    · rename_i et b off n e hs hd
      split at he
      · rename_i k hu hk
        cases hc : (Nat.beq e 1 && Nat.ble (off + n) k.cs.length) with
        | false => rw [hc] at he; cases he
        | true =>
          rw [hc] at he
          simp only [cond_true] at he
          simp only [Bool.and_eq_true, Nat.ble_eq] at hc
          split at he
          · rename_i l hl
            cases he
            obtain ⟨q, hq, g1, g2, g3, e1⟩ := den_sl hx
            obtain ⟨us, k1, k2, k3⟩ := h.read hk hq hc.2
            obtain ⟨_, ns, rfl, rfl, _⟩ := bytes_from hl k1
            have h4 := run_loadCells_list (P := P) w ⟨q.1, off, none⟩ _ (fun j v hv => by rw [XE.add_mk]; exact k3 j v hv)
            rw [k2] at h4
            have hrun := run_bytesToString (P := P) w ⟨q.1, off, none⟩ n ((q.2 - off) / e) ns h4
            refine OpGo.val h (u := .string ⟨(ns.map fun n => n.toNat.toUInt8).toArray⟩) ?_ rfl
            rw [fold_push] at hrun
            simp only [execOp, ho, e1, Sem.run_bind, run_convert_bytes_string w src dst et _ _ _ hs hu hd, hrun, Result.andThen_ok]
            congr 1
            simp only [Sem.run_pure]
            congr 3
            apply ByteArray.ext
            simp
          · cases he
      · cases he
    · cases he

/-! ### Builtins -/
theorem map2 {l : List Operand} {X Y : CV} (h : mapC t l = [X, Y]) : ∃ x y, l = [x, y] ∧ X = ev t x ∧ Y = ev t y := by
  unfold mapC at h
  match l, h with
  | [x, y], h => simp at h; exact ⟨x, y, rfl, h.1.symm, h.2.symm⟩
  | [], h => simp at h
  | [_], h => simp at h
  | _ :: _ :: _ :: _, h => simp at h
theorem map1 {l : List Operand} {X : CV} (h : mapC t l = [X]) : ∃ x, l = [x] ∧ X = ev t x := by
  unfold mapC at h
  match l, h with
  | [x], h => simp at h; exact ⟨x, rfl, h.symm⟩
  | [], h => simp at h
  | _ :: _ :: _, h => simp at h
theorem elemOf_eq {ty et : TypeId} (h : elemOf P ty = some et) : P.underlying ty = some (.slice et) := by
  unfold elemOf at h
  split at h
  · rename_i hu; cases h; exact hu
  · cases h
/-- A builtin that gives a value. -/
theorem builtin_run {c : Call} {b : Builtin} (ho : o.op = .call c) (hc : c.callee = .builtin b) {as : List Operand} {ts : List TypeId} (ha : c.args.toList = as) (ht : c.argTypes.toList = ts) (f : Array TypeId → TypeId → Array Value → Sem Value)
    (hb : ∀ ts ty cs args, Go.builtin b ts ty cs args = (do pure (.value (← f ts ty args)))) {u : Value} (hr : (f ts.toArray o.type (as.map a.eval).toArray).run P w = .ok u w') : (execOp a.eval o).run P w = .ok (.value u) w' := by
  have h1 : c.args.map a.eval = (as.map a.eval).toArray := by apply Array.ext'; simp [ha]
  have h2 : c.argTypes = ts.toArray := by apply Array.ext'; simp [ht]
  simp only [execOp, ho, resolve, hc, Sem.run_bind, Sem.run_pure, Result.andThen_ok, invoke, hb, h1, h2, hr]
theorem len_go (h : HRel B ρ s w) (r : TRel ρ t a) {c : Call} (ho : o.op = .call c) (hc : c.callee = .builtin .len) {ty : TypeId} {x : Operand} (ha : c.args.toList = [x]) (ht : c.argTypes.toList = [ty]) (he : lenC P s ty (ev t x) = some (v, s')) : OpGo P B ρ s w a o v s' := by
  have hx := ev_ok r x
  generalize ev t x = X at he hx
  have fin : ∀ {u : Value}, (Builtin.len_ #[ty] o.type #[a.eval x]).run P w = .ok u w → (execOp a.eval o).run P w = .ok (.value u) w := fun hr => builtin_run ho hc ha ht Builtin.len_ (fun _ _ _ _ => rfl) hr
  unfold lenC at he
  split at he
  · rename_i q hq
    cases he
    obtain ⟨u, h1, rfl, rfl⟩ := pure1 hq hx
    exact OpGo.val h (fin (h1 w)) rfl
  · rename_i hno
    clear hno
    split at he
    · rename_i et b off n e hu
      cases he
      obtain ⟨q, hq, _, _, _, e1⟩ := den_sl hx
      exact OpGo.val h (fin (u := .int .i64 n) (by simp [Builtin.len_, e1, run_underlying hu, goInt])) rfl
    · rename_i et k n hu
      cases he
      simp only [den, Option.bind_eq_some_iff, Option.map_eq_some_iff] at hx
      obtain ⟨_, _, _, _, e1⟩ := hx
      exact OpGo.val h (fin (u := .int .i64 n) (by simp [Builtin.len_, ← e1, run_underlying hu, goInt])) rfl
    · rename_i et b off n e hu
      cases he
      obtain ⟨q, ad, hq, e1⟩ := den_esl hx
      exact OpGo.val h (fin (u := .int .i64 0) (by simp [Builtin.len_, e1, run_underlying hu, goInt])) rfl
    · cases he
theorem minmax_go (h : HRel B ρ s w) (r : TRel ρ t a) {c : Call} (ho : o.op = .call c) {b : Builtin} (hc : c.callee = .builtin b) {ts : List TypeId} {x y : Operand} (ha : c.args.toList = [x, y]) (ht : c.argTypes.toList = ts)
    (f : Array TypeId → TypeId → Array Value → Sem Value) (hb : ∀ ts ty cs args, Go.builtin b ts ty cs args = (do pure (.value (← f ts ty args)))) (hf : ∀ ts ty ty' args, f ts ty args = f ts ty' args) (he : at2 P s (fun p q => f ts.toArray 0 #[p, q]) (ev t x) (ev t y) = some (v, s')) : OpGo P B ρ s w a o v s' := by
  obtain ⟨u, h1, rfl, rfl⟩ := pure2 he (ev_ok r x) (ev_ok r y)
  exact OpGo.val h (builtin_run ho hc ha ht f hb (by rw [hf _ _ 0]; exact h1 w)) rfl
theorem clear_go (h : HRel B ρ s w) (r : TRel ρ t a) {c : Call} (ho : o.op = .call c) (hc : c.callee = .builtin .clear) {ty : TypeId} {x : Operand} (ha : c.args.toList = [x]) (ht : c.argTypes.toList = [ty]) (he : clearC P s ty (ev t x) = some (v, s')) : OpGo P B ρ s w a o v s' := by
  have hx := ev_ok r x
  generalize ev t x = X at he hx
  have fin : ∀ {u : Value} {w'}, (Builtin.clear_ #[ty] o.type #[a.eval x]).run P w = .ok u w' → (execOp a.eval o).run P w = .ok (.value u) w' := fun hr => builtin_run ho hc ha ht Builtin.clear_ (fun _ _ _ _ => rfl) hr
  unfold clearC at he
  split at he
  · rename_i et het
    have hu := elemOf_eq het
    split at he
    · rename_i n c'
      cases he
      have e1 := Option.some.inj (show some _ = some _ from hx)
      exact OpGo.val h (fin (u := .tuple #[]) (by simp [Builtin.clear_, ← e1, run_underlying hu])) rfl
    · rename_i b off n e z v' hz hv
      obtain ⟨q, hq, g1, g2, g3, e1⟩ := den_sl hx
      cases hn : Nat.beq n 0 with
      | true =>
        rw [hn] at he
        cases he
        have := Nat.eq_of_beq_eq_true hn
        subst this
        exact OpGo.val h (fin (u := .tuple #[]) (by simp [Builtin.clear_, e1, run_underlying hu])) rfl
      | false =>
        have hn0 : n ≠ 0 := fun e => by subst e; cases hn
        rw [hn] at he
        simp only [cond_false] at he
        split at he
        · rename_i k hk
          cases hcc : (Nat.beq z e && Nat.beq v'.cells.toList.length e && !k.fz && Nat.ble (off + n * e) k.cs.length && (v'.cells.toList.map CV.at).all isCell) with
          | false => rw [hcc] at he; cases he
          | true =>
            rw [hcc] at he
            cases he
            simp only [Bool.and_eq_true, Nat.ble_eq, Bool.not_eq_true'] at hcc
            obtain ⟨⟨⟨⟨c1, c2⟩, c3⟩, c4⟩, c5⟩ := hcc
            replace c1 := Nat.eq_of_beq_eq_true c1
            replace c2 : v'.cells.size = e := by simpa using Nat.eq_of_beq_eq_true c2
            have hd := rep_den ρ v'.cells (by omega) n
            have hall := rep_all c5 n
            have hrl : (repC (v'.cells.toList.map CV.at) n).length = n * e := by rw [rep_len]; simp [c2]
            obtain ⟨c', k3, k2⟩ := h.over (P := P) hk hq c3 hd (off := off) (by omega) (denL_isCell hd hall)
            refine ⟨.value (.tuple #[]), .tuple #[], _, ρ, fin ?_, .inl rfl, rfl, k2, .refl _ _⟩
            have hz' : (Builtin.zeroCells v'.cells n).toList = ((Array.range (n * v'.cells.size)).map (v'.cells[· % v'.cells.size]!)).toList := rfl
            obtain ⟨n', rfl⟩ : ∃ n', n = n' + 1 := ⟨n - 1, by omega⟩
            rw [← hz'] at k3
            simp [Builtin.clear_, e1, run_underlying hu, zero_run hv, k3]
        · cases he
    · cases he
  · cases he
theorem sliceData_go (h : HRel B ρ s w) (r : TRel ρ t a) {c : Call} (ho : o.op = .call c) (hc : c.callee = .builtin .unsafeSliceData) {x : Operand} (ha : c.args.toList = [x]) {b off n e : Nat} (hx : ev t x = .sl b off n e) (hn : 0 < n) : OpGo P B ρ s w a o (.ptr b off) s := by
  have h0 := ev_ok r x
  rw [hx] at h0
  obtain ⟨q, hq, g1, g2, g3, e1⟩ := den_sl h0
  have hcap : n ≤ (q.2 - off) / e := by rw [Nat.le_div_iff_mul_le g1]; omega
  refine OpGo.val h (u := .pointer (some ⟨q.1, off, none⟩)) (builtin_run ho hc ha rfl Builtin.unsafeSliceData_ (fun _ _ _ _ => rfl) ?_) (by simp [den, hq])
  simp only [List.map_cons, List.map_nil, e1]
  exact Lib.run_unsafeSliceData_row w _ _ _ _ _ (by omega)
theorem unsafeStr_go (h : HRel B ρ s w) (r : TRel ρ t a) {c : Call} (ho : o.op = .call c) (hc : c.callee = .builtin .unsafeString) {pt it et : TypeId} {x y : Operand} (ha : c.args.toList = [x, y]) (ht : c.argTypes.toList = [pt, it]) {b : Nat} {n : Int} {k : Blk} {l : List UInt8}
    (hx : ev t x = .ptr b 0) (hy : ev t y = .at (.int .i64 n)) (hk : s.blk b = some k) (hp : P.underlying pt = some (.pointer et)) (c1 : k.fz = false) (c2 : 0 < n) (c3 : n ≤ 1000000) (c4 : n.toNat ≤ k.cs.length) (c5 : P.cellsOf et = 1) (c6 : k.ty = et) (hl : bytesFrom (k.cs.take n.toNat) = some l) :
    OpGo P B ρ s w a o (.at (.string ⟨l.toArray⟩)) (s.put b (some { k with fz := true })) := by
  have h0 := ev_ok r x
  have h1 := ev_ok r y
  rw [hx] at h0
  rw [hy] at h1
  obtain ⟨q, hq, e1⟩ := den_ptr h0
  have e2 := Option.some.inj (show some _ = some _ from h1)
  obtain ⟨us, k1, k2, k3⟩ := h.read (o := 0) hk hq (n := n.toNat) (by omega)
  obtain ⟨cc, f, hb⟩ := h.blk b k q hk hq
  rw [List.drop_zero] at k1
  obtain ⟨g1, ns, rfl, rfl, hns⟩ := bytes_from hl k1
  have hlen := h.len hk hq
  have hsz := hb.size
  have hll : ((ns.map fun n => n.toNat.toUInt8).length : Int) = n := by rw [← g1, k2]; omega
  have hrange : ∀ j : Nat, ∀ m : Int, ns[j]? = some m → Value.int .u8 (((m.toNat.toUInt8).toNat : Nat) : Int) = Value.int .u8 m := fun j m hm => by
    obtain ⟨h0, h1⟩ := hns m (List.mem_of_getElem? hm)
    congr 1
    have : m.toNat.toUInt8.toNat = m.toNat := by
      show (UInt8.ofNat m.toNat).toNat = _
      rw [UInt8.toNat_ofNat']
      omega
    rw [this]; omega
  have hrun := Lib.run_unsafeString_row (P := P) w pt it o.type et hp c5 q.1 cc.size (by simp [World.shape?, hb.at_, c6]) (ns.map fun n => n.toNat.toUInt8) (fun e => by rw [e] at hll; simp at hll; omega) (by rw [← g1, k2]; omega) (by omega) (fun j x hj => by
    rw [XE.add_mk]
    simp only [List.getElem?_map, Option.map_eq_some_iff] at hj
    obtain ⟨m, hm, rfl⟩ := hj
    rw [hrange j m hm]
    exact k3 j _ (by simp [hm]))
  rw [hll] at hrun
  refine ⟨.value (.string ⟨(ns.map fun n => n.toNat.toUInt8).toArray⟩), _, w.freeze ⟨q.1, 0, none⟩ (ns.map fun n => n.toNat.toUInt8).length, ρ, builtin_run ho hc ha ht Builtin.unsafeString_ (fun _ _ _ _ => rfl) (by
    simp only [List.map_cons, List.map_nil, e1, ← e2]; exact hrun), .inl rfl, rfl, ?_, .refl _ _⟩
  obtain ⟨f', d1, _, d2, d3⟩ := freeze_heap hb.at_ 0 (ns.map fun n => n.toNat.toUInt8).length
  exact h.write hk hq c1 (k' := { k with fz := true }) rfl d1 hb.size d2 d3 hb.ex (fun e => by cases e) hb.cells ⟨by unfold World.freeze; split <;> rfl, by unfold World.freeze; split <;> rfl⟩
end
end Go.XR
/- Regions that draw: a head whose operations are quiet in a class of worlds, then a tail in its order. -/
namespace Go.Proofs
section
variable {P : Program} {ops : Array Oper} {C : World → Prop}
/-- The first operations, in any order, up to where 'L' holds. -/
def Tryz.HeadQ (P : Program) (ops : Array Oper) (C : World → Prop) (n : Nat) (L : Array Bool → Act → Prop) : Nat → Array Bool → Act → Prop
  | 0, done, a => L done a
  | f + 1, done, a => Region.ready .any ops done ≠ [] ∧
      ∀ j ∈ Region.ready .any ops done, j < n ∧ qOp P ops C j (Tryz.HeadQ P ops C n L f (done.setIfInBounds j true)) a
theorem Tryz.headQ_any {n g : Nat} {L : Array Bool → Act → Prop} {Q : Exit → Act → World → Prop} (hL : ∀ done a w, C w → L done a → wpAny P .any ops Q g done a w) (f : Nat) :
    ∀ (done : Array Bool) (a : Act) (w : World), C w → Tryz.HeadQ P ops C n L f done a → wpAny P .any ops Q (f + g) done a w := by
  induction f with
  | zero => intro done a w hw h; rw [Nat.zero_add]; exact hL _ _ _ hw h
  | succ f ih =>
    intro done a w hw h
    rw [Nat.add_right_comm]
    exact ⟨fun e => (h.1 e).elim, fun j hj => wpOp_of_qOp hw (fun a' w' hw' h' => ih _ a' w' hw' h') (h.2 j hj).2⟩
/-- What may come up now, and is apart from all that may come up beside it, comes first. -/
theorem Tryz.headQ_first {n k : Nat} {o : Oper} {v : Value} {L : Array Bool → Act → Prop} (ho : ops[k]? = some o) (hsel : Region.noSelect ops = true)
    (hs : Region.sinkB .any ops n = true) (hc : Region.chainB .any ops n = true) (hn : n < ops.size) (hk : k < n) (hL : ∀ done a, L done a → ∀ j ∈ Region.ready .any ops done, n ≤ j) (f : Nat) :
    ∀ (done : Array Bool) (a : Act), HeadInv .any ops n done →
      (∀ j oj, ops[j]? = some oj → j ≠ k → done.getD j true = false → (∀ e ∈ oj.after, Region.binds .any e = true → e.on ≠ k) → o.apart ops oj = true) →
      k ∈ Region.ready .any ops done → YieldsIn P ops C o v a →
      Tryz.HeadQ P ops C n L f (done.setIfInBounds k true) (a.put o.dst v) → Tryz.HeadQ P ops C n L (f + 1) done a := by
  have hS := Region.noSelect_spec hsel
  induction f with
  | zero =>
    intro done a inv hfree hr hy h
    refine ⟨List.ne_nil_of_mem hr, fun j hj => ?_⟩
    have hjn : j < n := Nat.lt_of_not_le fun hle => tail_waits hs hc hn inv _ k rfl hk (mem_ready.1 hr).1 j hle hj
    refine ⟨hjn, ?_⟩
    rcases Decidable.em (j = k) with rfl | hne
    · exact hy.qOp ho h
    · exact absurd (hL _ _ h j (ready_mono hj hne)) (Nat.not_le_of_lt hjn)
  | succ f ih =>
    intro done a inv hfree hr hy h
    refine ⟨List.ne_nil_of_mem hr, fun j hj => ?_⟩
    have hjn : j < n := Nat.lt_of_not_le fun hle => tail_waits hs hc hn inv _ k rfl hk (mem_ready.1 hr).1 j hle hj
    refine ⟨hjn, ?_⟩
    rcases Decidable.em (j = k) with rfl | hne
    · exact hy.qOp ho h
    · obtain ⟨hju, oj, hoj, hall⟩ := mem_ready.1 hj
      have hno : ∀ e ∈ oj.after, Region.binds .any e = true → e.on ≠ k := by
        rintro e he hb rfl
        have hx := hall e he hb
        rw [getD_both (mem_ready.1 hr).1] at hx
        exact Bool.noConfusion hx
      have hq := qOp_put hoj (hfree j oj hoj hne hju hno) (fun cs b => hS k o cs b ho) (fun cs b => hS j oj cs b hoj) hy (h.2 j (ready_mono hj hne)).2
      refine qOp_mono (fun a' h' => ih (done.setIfInBounds j true) a' (inv.set hj hjn) ?_ (ready_mono hr (Ne.symm hne)) h'.1 ?_) hq
      · intro i oi hi hik hu hx
        refine hfree i oi hi hik ?_ hx
        rcases Decidable.em (j = i) with rfl | hji
        · exact hju
        · rwa [getD_set_ne true hji] at hu
      · rw [Array.setIfInBounds_comm _ _ hne]
        exact h'.2
theorem Tryz.headQ_lex {n g : Nat} {Lq : Act → Prop} (hsel : Region.noSelect ops = true) (hs : Region.sinkB .any ops n = true) (hc : Region.chainB .any ops n = true) (hn : n < ops.size) (l : List Oper) :
    ∀ (k : Nat) (done : Array Bool) (a : Act), (∀ j, j < l.length → l[j]? = ops[k + j]?) → k + l.length = n → HeadInv .any ops n done →
    Region.lexHead .any ops g l.length k done = true → wpQuiet P ops C Lq l a →
    Tryz.HeadQ P ops C n (fun done' a' => Region.seqB .any ops g n done' = true ∧ Lq a') l.length done a := by
  induction l with
  | nil =>
    intro k done a _ hk _ hB h
    obtain rfl : k = n := hk
    exact ⟨hB, h⟩
  | cons o r ih =>
    intro k done a hl hk inv hB h
    have h0 : ops[k]? = some o := (hl 0 (Nat.succ_pos _)).symm
    rw [List.length_cons, Region.lexHead, Bool.and_eq_true, Bool.and_eq_true] at hB
    have hkn : k < n := by rw [List.length_cons] at hk; omega
    have hr : k ∈ Region.ready .any ops done := by simpa using hB.1.1
    obtain ⟨v, hy, hK⟩ := yieldsIn_of_qOp (P := P) (C := C) (K := wpQuiet P ops C Lq r) (a := a) h0 (by unfold qOp; simp only [h0]; exact h)
    refine Tryz.headQ_first h0 hsel hs hc hn hkn (fun _ _ hL => seqB_ready hL.1) _ done a inv (Region.free_spec h0 hB.1.2) hr hy (ih (k + 1) _ _ (fun j hj => ?_) (by rw [List.length_cons] at hk; omega) (inv.set hr hkn) hB.2 hK)
    have := hl (j + 1) (Nat.succ_lt_succ hj)
    rwa [List.getElem?_cons_succ, Nat.add_comm j 1, ← Nat.add_assoc] at this
/-- A region that draws: 'n' operations quiet in the class, then the others in their order, from every world of the class. -/
theorem Tryz.region_quiet_tail {id : Nat} {Q : Exit → Act → World → Prop} {a : Act} {w : World} {l : List Oper} (n : Nat) (hm : P.follows .mixedOrders = true) (hB : Region.lexTailB .any l.toArray n = true)
    (hC : C { w with drawn := w.drawn + 1 })
    (h : wpQuiet P l.toArray C (fun a' => ∀ w', C w' → wpList P l.toArray Q (l.drop n) a' w') (l.take n) a) : (Code.region id l.toArray true).wp P Q a w := by
  simp only [Region.lexTailB, Bool.and_eq_true, decide_eq_true_eq] at hB
  have hn : n < l.length := by simpa using hB.1.1.1.2
  have htl : (l.take n).length = n := by rw [List.length_take]; omega
  have hdl : (l.drop n).length = l.toArray.size - n := by rw [List.length_drop, List.size_toArray]
  have inv0 : HeadInv .any l.toArray n (Array.replicate l.toArray.size false) :=
    ⟨Array.size_replicate, fun j _ _ hx => absurd hx (by rw [getD_replicate_false]; exact Bool.noConfusion), fun t _ ht => getD_in (by rwa [Array.size_replicate]) (getD_replicate_false _ _)⟩
  have H := Tryz.headQ_lex (g := l.toArray.size - n) hB.1.1.1.1 hB.1.1.2 hB.1.2 hB.1.1.1.2 (l.take n) 0 _ a (fun j hj => by
    have : j < n := by rw [htl] at hj; exact hj
    simp [this]) (by simpa using htl) inv0 (by rw [htl]; exact hB.2) h
  refine wp_region_any hm ?_
  have G := Tryz.headQ_any (Q := Q) (g := l.toArray.size - n) (fun done a' w' hw' hL => by
    have := wpAny_of_seq (md := .any) (Q' := Q) (l.drop n) n done a' w' (fun j => by simp [List.getElem?_drop]) (by rw [hdl]; exact hL.1) (hL.2 w' hw')
    rwa [hdl] at this) _ _ _ _ hC H
  rw [htl, show n + (l.toArray.size - n) = l.toArray.size by omega] at G
  exact G
end
end Go.Proofs
/- Regions that draw: operations that leave each world of a class alone come first; the others, in their order, keep the class. -/
namespace Go.Proofs
section
variable {P : Program} {ops : Array Oper} {C : World → Prop} {Q : Act → World → Prop}
/-- No exit but the plain one. -/
def Tryz.NoExit : Exit → Act → World → Prop := fun _ _ _ => False
def Tryz.CalmIn (P : Program) (ops : Array Oper) (C : World → Prop) (o : Oper) (v : Value) (a : Act) : Prop :=
  (Region.wanted o (yielded ops a.tmps) = true ∧ ∀ w, C w → (execOp a.eval o).run P w = .ok (.value v) w) ∨ (Region.wanted o (yielded ops a.tmps) = false ∧ v = undef)
theorem Tryz.CalmIn.same {o : Oper} {v : Value} {a b : Act} (h : Tryz.CalmIn P ops C o v a) (he : execOp b.eval o = execOp a.eval o)
    (hw : Region.wanted o (yielded ops b.tmps) = Region.wanted o (yielded ops a.tmps)) : Tryz.CalmIn P ops C o v b := by
  unfold Tryz.CalmIn at *
  rwa [he, hw]
theorem Tryz.CalmIn.op {i : Nat} {o : Oper} {v : Value} {a : Act} {w : World} {X : Exit → Act → World → Prop} (ho : ops[i]? = some o) (h : Tryz.CalmIn P ops C o v a) (hC : C w)
    {K : Act → World → Prop} (k : K (a.put o.dst v) w) : wpOp P ops X i K a w := by
  unfold wpOp
  rw [ho]
  dsimp only
  rcases h with ⟨hw, hv⟩ | ⟨hw, rfl⟩
  · rw [if_pos hw]
    exact .inl (by unfold Oper.wp; rw [hv w hC]; exact k)
  · rw [if_neg (by rw [hw]; exact Bool.noConfusion)]
    exact k
/-- What is apart from an operation that leaves the world alone may come before it. -/
theorem Tryz.calm_swap {j : Nat} {o p : Oper} {v : Value} {a : Act} {w : World} (hp : ops[j]? = some p) (hap : o.apart ops p = true) (hso : ∀ cs b, o.op ≠ .select cs b) (hsp : ∀ cs b, p.op ≠ .select cs b)
    (hy : Tryz.CalmIn P ops C o v a) {K : Act → World → Prop} (h : wpOp P ops Tryz.NoExit j K (a.put o.dst v) w) :
    wpOp P ops Tryz.NoExit j (fun b w' => Tryz.CalmIn P ops C o v b ∧ K (b.put o.dst v) w') a w := by
  obtain ⟨h1, h2, h3⟩ := Oper.apart_spec hap
  have stay : ∀ (b : Act), Tryz.CalmIn P ops C o v b → ∀ u, Tryz.CalmIn P ops C o v (b.put p.dst u) := fun b hb u =>
    hb.same (execOp_put o hso b p.dst u h3) (wanted_put o b p.dst u h3)
  unfold wpOp at h ⊢
  rw [hp] at h ⊢
  dsimp only at h ⊢
  rw [wanted_put p a o.dst v h1] at h
  by_cases hw : Region.wanted p (yielded ops a.tmps) = true
  · rw [if_pos hw] at h ⊢
    rcases h with h | ⟨_, _, _, hx⟩
    · refine .inl ?_
      unfold Oper.wp at h ⊢
      rw [execOp_put p hsp a o.dst v h1] at h
      revert h
      generalize (execOp a.eval p).run P w = r
      intro h
      match r, h with
      | .ok (.value u) w', h => exact ⟨stay a hy u, by rw [← Act.put_comm a v u h2]; exact h⟩
      | .ok .skip w', h => exact ⟨stay a hy undef, by rw [← Act.put_comm a v undef h2]; exact h⟩
      | .ok (.defer d) w', h =>
        refine ⟨stay { a with defers := d :: a.defers } (hy.same rfl rfl) undef, ?_⟩
        rw [← Act.put_comm _ v undef h2, ← Act.put_defers]
        exact h
      | .ok (.enter f args) w', h =>
        refine Calls.mono h fun e w'' he => ?_
        match e, he with
        | .returned u, he => exact ⟨stay a hy u, by rw [← Act.put_comm a v u h2]; exact he⟩
        | .panicked c, he => exact he
        | .outgrown, he => exact he
      | .ok (.row row args) w', h => exact Rows.mono h fun u w'' he => ⟨stay a hy u, by rw [← Act.put_comm a v u h2]; exact he⟩
      | .halt (.panic u) w', h => exact h
    · exact hx.elim
  · rw [if_neg hw] at h ⊢
    exact ⟨stay a hy undef, by rw [← Act.put_comm a v undef h2]; exact h⟩
/-- In whatever order, every step but a plain end shut out, every world on the way of the class. -/
def Tryz.AnyC (P : Program) (ops : Array Oper) (C : World → Prop) (Q : Act → World → Prop) : Nat → Array Bool → Act → World → Prop
  | 0, done, a, w => Region.ready .any ops done = [] ∧ Q a w
  | f + 1, done, a, w => (Region.ready .any ops done = [] → Q a w) ∧
      ∀ j ∈ Region.ready .any ops done, wpOp P ops Tryz.NoExit j (fun b w' => C w' ∧ Tryz.AnyC P ops C Q f (done.setIfInBounds j true) b w') a w
theorem Tryz.wpOp_exit {j : Nat} {a : Act} {w : World} {K : Act → World → Prop} {X : Exit → Act → World → Prop} (h : wpOp P ops Tryz.NoExit j K a w) : wpOp P ops X j K a w := by
  unfold wpOp at h ⊢
  cases ho : ops[j]? with
  | none => rw [ho] at h; exact h
  | some p =>
    rw [ho] at h
    dsimp only at h ⊢
    by_cases hw : Region.wanted p (yielded ops a.tmps) = true
    · rw [if_pos hw] at h ⊢
      rcases h with h | ⟨_, _, _, hx⟩
      · refine .inl ?_
        unfold Oper.wp at h ⊢
        revert h
        generalize (execOp a.eval p).run P w = r
        intro h
        match r, h with
        | .ok (.value u) w', h => exact h
        | .ok .skip w', h => exact h
        | .ok (.defer d) w', h => exact h
        | .ok (.enter f args) w', h =>
          refine Calls.mono h fun e w'' he => ?_
          match e, he with
          | .returned u, he => exact he
          | .panicked c, he => exact he.elim
          | .outgrown, he => obtain ⟨_, _, hx⟩ := he; exact hx.elim
        | .ok (.row row args) w', h => exact h
        | .halt (.panic u) w', h => exact h.elim
      · exact hx.elim
    · rw [if_neg hw] at h ⊢
      exact h
theorem Tryz.AnyC.any {X : Exit → Act → World → Prop} (hX : ∀ a w, Q a w → X .normal a w) (f : Nat) : ∀ (done : Array Bool) (a : Act) (w : World), Tryz.AnyC P ops C Q f done a w → wpAny P .any ops X f done a w := by
  induction f with
  | zero => intro done a w h; exact ⟨h.1, hX _ _ h.2⟩
  | succ f ih => intro done a w h; exact ⟨fun e => hX _ _ (h.1 e), fun j hj => Tryz.wpOp_exit (wpOp_mono (fun b w' hb => ih _ b w' hb.2) (h.2 j hj))⟩
theorem Tryz.anyC_first {k : Nat} {o : Oper} {v : Value} (ho : ops[k]? = some o) (hsel : Region.noSelect ops = true) (f : Nat) :
    ∀ (done : Array Bool) (a : Act) (w : World), C w →
      (∀ j oj, ops[j]? = some oj → j ≠ k → done.getD j true = false → (∀ e ∈ oj.after, Region.binds .any e = true → e.on ≠ k) → o.apart ops oj = true) →
      k ∈ Region.ready .any ops done → Tryz.CalmIn P ops C o v a →
      Tryz.AnyC P ops C Q f (done.setIfInBounds k true) (a.put o.dst v) w → Tryz.AnyC P ops C Q (f + 1) done a w := by
  have hS := Region.noSelect_spec hsel
  induction f with
  | zero =>
    intro done a w hC _ hr hy h
    refine ⟨fun e => absurd hr (by rw [e]; exact List.not_mem_nil), fun j hj => ?_⟩
    rcases Decidable.em (j = k) with rfl | hne
    · exact hy.op ho hC ⟨hC, h⟩
    · have := ready_mono hj hne
      rw [h.1] at this
      exact absurd this List.not_mem_nil
  | succ f ih =>
    intro done a w hC hfree hr hy h
    refine ⟨fun e => absurd hr (by rw [e]; exact List.not_mem_nil), fun j hj => ?_⟩
    rcases Decidable.em (j = k) with rfl | hne
    · exact hy.op ho hC ⟨hC, h⟩
    · obtain ⟨hju, oj, hoj, hall⟩ := mem_ready.1 hj
      have hno : ∀ e ∈ oj.after, Region.binds .any e = true → e.on ≠ k := by
        rintro e he hb rfl
        have hx := hall e he hb
        rw [getD_both (mem_ready.1 hr).1] at hx
        exact Bool.noConfusion hx
      have hq := Tryz.calm_swap hoj (hfree j oj hoj hne hju hno) (fun cs b => hS k o cs b ho) (fun cs b => hS j oj cs b hoj) hy (h.2 j (ready_mono hj hne))
      refine wpOp_mono (fun b w' hb => ⟨hb.2.1, ih (done.setIfInBounds j true) b w' hb.2.1 ?_ (ready_mono hr (Ne.symm hne)) hb.1 ?_⟩) hq
      · intro i oi hi hik hu hx
        refine hfree i oi hi hik ?_ hx
        rcases Decidable.em (j = i) with rfl | hji
        · exact hju
        · rwa [getD_set_ne true hji] at hu
      · rw [Array.setIfInBounds_comm _ _ hne]
        exact hb.2.2
/-- Steps, one after the other: a calm one must be apart from all that may come beside it, any other must be the only one that may come. -/
def Tryz.mixI (ops : Array Oper) : List (Bool × Nat) → Array Bool → Bool
  | [], done => (Region.ready .any ops done).isEmpty
  | (true, k) :: r, done => (Region.ready .any ops done).contains k && Region.free .any ops done k && Tryz.mixI ops r (done.setIfInBounds k true)
  | (false, k) :: r, done => decide (Region.ready .any ops done = [k]) && Tryz.mixI ops r (done.setIfInBounds k true)
def Tryz.orderB (ops : Array Oper) (ks : List (Bool × Nat)) : Bool := Region.noSelect ops && Tryz.mixI ops ks (Array.replicate ops.size false) && decide (ks.length = ops.size) && ks.all fun k => decide (k.2 < ops.size)
/-- What a calm one is asked. -/
def Tryz.calm (P : Program) (C : World → Prop) (o : Oper) (a : Act) (K : Act → Prop) : Prop :=
  ∃ v, (∀ w, C w → match (execOp a.eval o).run P w with | .ok (.value u) w' => w' = w ∧ u = v | _ => False) ∧ K (a.put o.dst v)
def Tryz.wpMix (P : Program) (ops : Array Oper) (C : World → Prop) (Q : Act → World → Prop) : List (Bool × Oper) → Act → World → Prop
  | [], a, w => Q a w
  | (true, o) :: r, a, w => if Region.wanted o (yielded ops a.tmps) then Tryz.calm P C o a (fun b => Tryz.wpMix P ops C Q r b w) else Tryz.wpMix P ops C Q r (a.put o.dst undef) w
  | (false, o) :: r, a, w => if Region.wanted o (yielded ops a.tmps) then o.wp P a w (fun b w' => C w' ∧ Tryz.wpMix P ops C Q r b w') Tryz.NoExit else Tryz.wpMix P ops C Q r (a.put o.dst undef) w
theorem Tryz.mix_calm {a : Act} {w : World} {o : Oper} {r : List (Bool × Oper)}
    (h : ∀ K : Act → Prop, (∀ b, Tryz.wpMix P ops C Q r b w → K b) → if Region.wanted o (yielded ops a.tmps) then Tryz.calm P C o a K else K (a.put o.dst undef)) : Tryz.wpMix P ops C Q ((true, o) :: r) a w :=
  h _ fun _ h => h
theorem Tryz.mix_step {a : Act} {w : World} {o : Oper} {r : List (Bool × Oper)} (hw : Region.wanted o (yielded ops a.tmps) = true)
    (h : ∀ K : Act → World → Prop, (∀ b w', C w' → Tryz.wpMix P ops C Q r b w' → K b w') → o.wp P a w K Tryz.NoExit) : Tryz.wpMix P ops C Q ((false, o) :: r) a w := by
  rw [Tryz.wpMix, if_pos hw]
  exact h _ fun _ _ hc h => ⟨hc, h⟩
theorem Tryz.mix_skip {a : Act} {w : World} {o : Oper} {b : Bool} {r : List (Bool × Oper)} (hw : Region.wanted o (yielded ops a.tmps) = false) (h : Tryz.wpMix P ops C Q r (a.put o.dst undef) w) : Tryz.wpMix P ops C Q ((b, o) :: r) a w := by
  cases b <;> (rw [Tryz.wpMix, if_neg (by rw [hw]; exact Bool.noConfusion)]; exact h)
theorem Tryz.mix_nil {a : Act} {w : World} (h : Q a w) : Tryz.wpMix P ops C Q [] a w := h
theorem Tryz.anyC_mix (hsel : Region.noSelect ops = true) : ∀ (ks : List (Bool × Nat)) (l : List (Bool × Oper)) (done : Array Bool) (a : Act) (w : World), C w → ks.map (fun k => (k.1, ops[k.2]?)) = l.map (fun o => (o.1, some o.2)) →
    Tryz.mixI ops ks done = true → Tryz.wpMix P ops C Q l a w → Tryz.AnyC P ops C Q ks.length done a w
  | [], [], done, a, w, _, _, hB, h => ⟨List.isEmpty_iff.1 hB, h⟩
  | [], _ :: _, _, _, _, _, hl, _, _ => by cases hl
  | _ :: _, [], _, _, _, _, hl, _, _ => by cases hl
  | (true, k) :: ks, (b, o) :: l, done, a, w, hC, hl, hB, h => by
    rw [List.map_cons, List.map_cons, List.cons.injEq, Prod.mk.injEq] at hl
    obtain ⟨⟨rfl, h0⟩, hl⟩ := hl
    rw [Tryz.mixI, Bool.and_eq_true, Bool.and_eq_true] at hB
    rw [Tryz.wpMix] at h
    have hr : k ∈ Region.ready .any ops done := by simpa using hB.1.1
    by_cases hw : Region.wanted o (yielded ops a.tmps) = true
    · rw [if_pos hw] at h
      obtain ⟨v, hv, hk⟩ := h
      refine Tryz.anyC_first h0 hsel _ done a w hC (Region.free_spec h0 hB.1.2) hr (.inl ⟨hw, fun w' hC' => ?_⟩) (Tryz.anyC_mix hsel ks l _ _ w hC hl hB.2 hk)
      have := hv w' hC'
      revert this
      generalize (execOp a.eval o).run P w' = x
      intro hx
      match x, hx with
      | .ok (.value u) w'', hx => rw [hx.1, hx.2]
    · rw [if_neg hw] at h
      exact Tryz.anyC_first h0 hsel _ done a w hC (Region.free_spec h0 hB.1.2) hr (.inr ⟨by simpa using hw, rfl⟩) (Tryz.anyC_mix hsel ks l _ _ w hC hl hB.2 h)
  | (false, k) :: ks, (b, o) :: l, done, a, w, hC, hl, hB, h => by
    rw [List.map_cons, List.map_cons, List.cons.injEq, Prod.mk.injEq] at hl
    obtain ⟨⟨rfl, h0⟩, hl⟩ := hl
    rw [Tryz.mixI, Bool.and_eq_true, decide_eq_true_eq] at hB
    refine ⟨fun e => (by rw [hB.1] at e; cases e), fun j hj => ?_⟩
    rw [hB.1, List.mem_singleton] at hj
    subst hj
    unfold wpOp
    rw [h0]
    dsimp only
    rw [Tryz.wpMix] at h
    by_cases hw : Region.wanted o (yielded ops a.tmps) = true
    · rw [if_pos hw] at h ⊢
      exact .inl (Oper.wp_mono (fun b w' hb => ⟨hb.1, Tryz.anyC_mix hsel ks l _ b w' hb.1 hl hB.2 hb.2⟩) h)
    · rw [if_neg hw] at h ⊢
      exact ⟨hC, Tryz.anyC_mix hsel ks l _ _ w hC hl hB.2 h⟩
def Tryz.picks (l : List Oper) (ks : List (Bool × Nat)) : List (Bool × Oper) := ks.filterMap fun k => (l[k.2]?).map fun o => (k.1, o)
theorem Tryz.picks_map {l : List Oper} : ∀ {ks : List (Bool × Nat)}, (∀ k ∈ ks, k.2 < l.length) → ks.map (fun k => (k.1, l.toArray[k.2]?)) = (Tryz.picks l ks).map (fun o => (o.1, some o.2))
  | [], _ => rfl
  | k :: ks, h => by
    obtain ⟨o, hk⟩ : ∃ o, l[k.2]? = some o := ⟨_, List.getElem?_eq_getElem (h k List.mem_cons_self)⟩
    have hp : Tryz.picks l (k :: ks) = (k.1, o) :: Tryz.picks l ks := by
      unfold Tryz.picks
      rw [List.filterMap_cons, hk]
      rfl
    rw [hp, List.map_cons, List.map_cons, Tryz.picks_map (fun x hx => h x (List.mem_cons_of_mem _ hx)), List.getElem?_toArray, hk]
/-- A region that draws: every order, by one of them. -/
theorem Tryz.region_order {id : Nat} {X : Exit → Act → World → Prop} {a : Act} {w : World} {l : List Oper} (ks : List (Bool × Nat)) (hm : P.follows .mixedOrders = true) (hB : Tryz.orderB l.toArray ks = true)
    (hC : C { w with drawn := w.drawn + 1 }) (h : Tryz.wpMix P l.toArray C (X .normal) (Tryz.picks l ks) a { w with drawn := w.drawn + 1 }) : (Code.region id l.toArray true).wp P X a w := by
  simp only [Tryz.orderB, Bool.and_eq_true, decide_eq_true_eq] at hB
  refine wp_region_any hm ?_
  have := Tryz.AnyC.any (X := X) (fun _ _ h => h) _ _ _ _ (Tryz.anyC_mix hB.1.1.1 ks _ _ a _ hC (Tryz.picks_map fun k hk => by simpa using List.all_eq_true.1 hB.2 k hk) hB.1.1.2 h)
  rwa [hB.1.2] at this
end
/-- The worlds of a class. -/
structure Tryz.InC (p : World → Prop) : Type where
  w : World
  h : p w
theorem Tryz.hideP (q : World → Prop) : ∃ p : World → Prop, (∀ w, q w → p w) ∧ (∀ w, p w → q w) := ⟨q, fun _ h => h, fun _ h => h⟩
end Go.Proofs
