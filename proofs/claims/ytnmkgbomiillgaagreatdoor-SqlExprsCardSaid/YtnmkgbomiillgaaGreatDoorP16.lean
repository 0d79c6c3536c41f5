/- Part 16 of the proof. -/
import Derived.Test.YtnmkgbomiillgaaGreatDoorP15
import Derived.Lib.UnsafeStr
import Derived.Lib.Builder
import Derived.Laws.BytesString
/- The concrete evaluator: operations, part three: new memory. -/
namespace Go.XR
section
variable {P : Program} {B w w' : World} {ρ ρ' : Pm} {s s' : VS} {t : Tr CV} {a : Act} {o : Oper} {v x y : CV} {vx vy : Value}

theorem cells_at (ρ : Pm) (z : Value) : CellsOk ρ (z.cells.toList.map .at) z.cells := by
  have := cells_of (denL_at ρ z.cells.toList)
  simpa using this
theorem new_ptr (ρ : Pm) (n : Nat) (r : Nat × Nat) : den (upd ρ n r) (.ptr n 0) = some (.pointer (some ⟨r.1, 0, none⟩)) := by simp [den, upd]
theorem alloc_go (h : HRel B ρ s w) {et : TypeId} (ho : o.op = .alloc et) {z : Value} (hz : zeroOf P et = some z) : OpGo P B ρ s w a o (.ptr s.next 0) (newC s et (z.cells.toList.map .at) true) := by
  refine OpGo.new h (u := .pointer (some ⟨w.heap.size, 0, none⟩)) (w' := XE.newW w z.cells et) (c := z.cells) (f := (0, 0)) ?_ rfl (fun _ => by simp) (nofz0 _) (cells_at ρ z) (new_ptr ρ _ _)
  simp [execOp, ho, Instr.alloc, zero_run hz, XE.run_newVar]
theorem box_go (h : HRel B ρ s w) (r : TRel ρ t a) {et : TypeId} {x : Operand} (ho : o.op = .box et x) : OpGo P B ρ s w a o (.ptr s.next 0) (newC s et (cellsC (ev t x)) true) := by
  have hd := den_cells (ev_ok r x)
  refine OpGo.new h (u := .pointer (some ⟨w.heap.size, 0, none⟩)) (w' := XE.newW w (a.eval x).cells et) (c := (a.eval x).cells) (f := (0, 0)) ?_ rfl (fun _ => by have := denL_len hd; simpa using this.symm) (nofz0 _) (by simpa using cells_of hd) (new_ptr ρ _ _)
  simp [execOp, ho, Instr.box, XE.run_newVar]
theorem makeMap_go (h : HRel B ρ s w) {ty : TypeId} (ho : o.op = .makeMap ty none) : OpGo P B ρ s w a o (.mp s.next) (s.new none) := by
  have hn := h.dom _ (Nat.le_refl s.next)
  have h1 := (h.virt none).real (b := s.next) (w' := { w with heap := w.heap.push (.map #[] 0) }) (o := .map #[] 0) (n := 0) (Nat.lt_succ_self _) hn rfl fun k hk => by
    rw [blk_new, if_pos rfl] at hk; cases hk
  refine ⟨_, .map (some w.heap.size), _, _, ?_, .inl rfl, by simp [den, upd], h1, fun b hb => by unfold upd; rw [if_neg (by omega)]⟩
  simp [execOp, ho, Instr.makeMap, newObj, Sem.run]

/-! ### Composites -/
theorem fill_ok {place : Nat → Option (Nat × Nat)} (r : TRel ρ t a) : ∀ {ps : List (Nat × Operand)} {cs cs' : List CV} {us : List Value}, fillC place (ps.map fun p => (p.1, ev t p.2)) cs = some cs' → denL ρ cs = some us →
    ∃ us', denL ρ cs' = some us' ∧ Instr.fill place us.toArray (ps.map fun p => (p.1, a.eval p.2)) = some us'.toArray ∧ cs'.length = cs.length
  | [], cs, cs', us, h, hc => by cases h; exact ⟨us, hc, rfl, rfl⟩
  | (i, x) :: ps, cs, cs', us, h, hc => by
    simp only [List.map_cons, fillC] at h
    split at h
    · rename_i off size hp
      cases hb : (Nat.beq (cellsC (ev t x)).length size && Nat.ble (off + size) cs.length) with
      | false => rw [hb] at h; cases h
      | true =>
        rw [hb] at h
        simp only [Bool.and_eq_true, Nat.ble_eq] at hb
        have h1 := Nat.eq_of_beq_eq_true hb.1
        have hd := den_cells (ev_ok r x)
        have hl := denL_len hd
        have hlc := denL_len hc
        have hsz : (a.eval x).cells.size = size := by simpa [h1] using hl
        obtain ⟨cells', g1, g2⟩ := XE.fill_step place us.toArray i (a.eval x) (ps.map fun p => (p.1, a.eval p.2)) off size hp hsz (by simp; omega)
        have hw := denL_write hc hd off
        obtain ⟨us', k1, k2, k3⟩ := fill_ok r (ps := ps) h hw
        refine ⟨us', k1, ?_, k3.trans (writeC_len (by omega))⟩
        simp only [List.map_cons]
        rw [g1, ← k2]
        congr 1
        apply Array.ext'
        rw [g2]
        simp [hsz]
    · cases h
theorem build_go (h : HRel B ρ s w) (r : TRel ρ t a) {ty : TypeId} {ps : Array (Nat × Operand)} (ho : o.op = .build ty ps) (he : buildC P ty (ps.toList.map fun p => (p.1, ev t p.2)) = some v) : OpGo P B ρ s w a o v s := by
  unfold buildC at he
  split at he
  · cases he
  · rename_i z hz
    unfold zeroOf at hz
    simp only [Option.bind_eq_some_iff] at hz
    obtain ⟨it, hit, hz⟩ := hz
    have fin : ∀ (place : Nat → Option (Nat × Nat)) (cs' : List CV), fillC place (ps.toList.map fun p => (p.1, ev t p.2)) (z.cells.toList.map .at) = some cs' → v = .agg cs' →
        (∀ us' : List Value, Instr.fill place z.cells (ps.toList.map fun p => (p.1, a.eval p.2)) = some us'.toArray → P.built ty (ps.toList.map fun p => (p.1, a.eval p.2)) = some us'.toArray) → OpGo P B ρ s w a o v s := fun place cs' h1 h2 h3 => by
      obtain ⟨us', k1, k2, _⟩ := fill_ok r h1 (denL_at ρ _)
      have hrun := run_build (P := P) w ty (ps.map fun q => (q.1, a.eval q.2)) us'.toArray (by rw [Array.toList_map]; exact h3 us' (by simpa using k2))
      refine OpGo.val h (u := .agg us'.toArray) ?_ (by rw [h2]; simp [den, k1])
      have hrun' : (Instr.build ty (ps.map fun (x : Nat × Operand) => match x with | (i, x) => (i, a.eval x))).run P w = _ := hrun
      simp only [execOp, ho, Sem.run_bind]
      rw [hrun']
      rfl
    split at he
    · rename_i fs hu
      split at he
      · rename_i pl hpl
        simp only [Option.map_eq_some_iff] at he
        obtain ⟨cs', h1, rfl⟩ := he
        exact fin _ cs' h1 rfl fun us' h2 => by simp only [Program.built, hit, hu, hz, hpl]; exact h2
      · cases he
    · rename_i n et hu
      split at he
      · rename_i i hi
        simp only [Option.map_eq_some_iff] at he
        obtain ⟨cs', h1, rfl⟩ := he
        exact fin _ cs' h1 rfl fun us' h2 => by simp only [Program.built, hit, hu, hz, hi]; exact h2
      · cases he
    · cases he
theorem rep_get {z : List CV} (hz : 0 < z.length) : ∀ (n j : Nat), j < n * z.length → (repC z n)[j]? = z[j % z.length]?
  | 0, j, h => by omega
  | n + 1, j, h => by
    rw [repC]
    by_cases hj : j < z.length
    · rw [List.getElem?_append_left hj, Nat.mod_eq_of_lt hj]
    · rw [List.getElem?_append_right (by omega), rep_get hz n (j - z.length) (by rw [Nat.succ_mul] at h; omega)]
      congr 1
      conv => rhs; rw [show j = (j - z.length) + z.length by omega, Nat.add_mod_right]
theorem rep_len {z : List CV} : ∀ (n : Nat), (repC z n).length = n * z.length
  | 0 => by simp [repC]
  | n + 1 => by rw [repC, List.length_append, rep_len n, Nat.succ_mul, Nat.add_comm]
theorem rep_den (ρ : Pm) (z : Array Value) (hz : 0 < z.size) (n : Nat) : denL ρ (repC (z.toList.map .at) n) = some ((Array.range (n * z.size)).map (z[· % z.size]!)).toList := by
  refine denL_of (by rw [rep_len]; simp) fun i v hi => ?_
  have hlt : i < n * z.size := by have := (List.getElem?_eq_some_iff.1 hi).1; rw [rep_len] at this; simpa using this
  rw [rep_get (by simpa using hz) n i (by simpa using hlt)] at hi
  have hm := Nat.mod_lt i hz
  simp [hm] at hi
  refine ⟨z[i % z.size], ?_, by rw [← hi]; rfl⟩
  simp [hlt, hm]
theorem new_sl {ρ : Pm} {n b : Nat} {m e k : Nat} (he : 0 < e) (hk : k ≤ m) : den (upd ρ n (b, m * e)) (.sl n 0 k e) = some (.slice (some ⟨b, 0, none⟩) k m) := by
  have := sl_den (ρ := upd ρ n (b, m * e)) (b := n) (o := 0) (n := k) (e := e) (r := (b, m * e)) (by simp [upd]) he (by simpa using Nat.mul_le_mul_right e hk) (by simp)
  rw [this]
  simp [Nat.mul_div_cancel _ he]
theorem buildSlice_go (h : HRel B ρ s w) (r : TRel ρ t a) {ty : TypeId} {len : Nat} {ps : Array (Nat × Operand)} (ho : o.op = .buildSlice ty len ps) (he : buildSliceC P s ty len (ps.toList.map fun p => (p.1, ev t p.2)) = some (v, s')) : OpGo P B ρ s w a o v s' := by
  unfold buildSliceC at he
  split at he
  · rename_i et het
    have hu : P.underlying ty = some (.slice et) := by
      unfold elemOf at het
      split at het
      · rename_i hu; cases het; exact hu
      · cases het
    split at he
    · rename_i e z hs hz
      cases hc : (Nat.blt 0 e && Nat.beq z.cells.toList.length e && Nat.ble (len * e) 16777216) with
      | false => rw [hc] at he; cases he
      | true =>
        rw [hc] at he
        simp only [cond_true] at he
        split at he
        · rename_i cs hf
          cases he
          simp only [Bool.and_eq_true, Nat.ble_eq, Nat.blt_eq] at hc
          obtain ⟨⟨c1, c2⟩, c3⟩ := hc
          replace c2 : z.cells.size = e := by simpa using Nat.eq_of_beq_eq_true c2
          unfold szOf at hs
          simp only [Option.map_eq_some_iff] at hs
          obtain ⟨ie, hie, hsz⟩ := hs
          have hz' := hz
          unfold zeroOf at hz'
          simp only [hie, Option.bind_some] at hz'
          obtain ⟨us', k1, k2, k3⟩ := fill_ok r hf (rep_den ρ z.cells (by omega) len)
          have hl := denL_len k1
          rw [rep_len] at k3
          have hcl : us'.length = len * e := by rw [hl, k3]; simp [c2]
          have hnew : ∀ {w'} {u : Value}, (execOp a.eval o).run P w = .ok (.value (.slice (some ⟨w.heap.size, 0, none⟩) len len)) w' → w'.heap = w.heap.push (.cells us'.toArray et (0, 0)) → SameOut w' w → OpGo P B ρ s w a o (.sl s.next 0 len e) (newC s et cs true) := fun hr hw eo => by
            refine OpGo.new (eo := eo) h (u := .slice (some ⟨w.heap.size, 0, none⟩) len len) hr hw (fun _ => by rw [← hl]; simp) (nofz0 _) (cells_of k1) ?_
            have := new_sl (ρ := ρ) (n := s.next) (b := w.heap.size) (m := len) (k := len) c1 (Nat.le_refl _)
            rwa [show len * e = us'.toArray.size by simp [hcl]] at this
          by_cases hn0 : len = 0
          · subst hn0
            have hus : us' = [] := List.length_eq_zero_iff.1 (by simpa using hcl)
            subst hus
            refine hnew (u := undef) (w' := XE.newW w #[] et) ?_ rfl ⟨rfl, rfl⟩
            have hr0 : Array.range 0 = #[] := rfl
            have hrun : (Instr.buildSlice ty 0 (ps.map fun q => (q.1, a.eval q.2))).run P w = .ok (.slice (some ⟨w.heap.size, 0, none⟩) 0 0) (XE.newW w #[] et) := by
              simp only [Nat.zero_mul, hr0] at k2
              have k2' : Instr.fill (fun i => some (i * ie.size, ie.size)) #[] (ps.toList.map fun p => (p.1, a.eval p.2)) = some #[] := by rw [hsz]; simpa using k2
              simp [Instr.buildSlice, run_underlying hu, sizeOf, typeInfo, hie, k2', newRow, newObj, Sem.run, XE.newW, hr0]
            have hrun' : (Instr.buildSlice ty 0 (ps.map fun (x : Nat × Operand) => match x with | (i, x) => (i, a.eval x))).run P w = _ := hrun
            simp only [execOp, ho, Sem.run_bind]
            rw [hrun']
            rfl
          · have hrun := run_buildSlice (P := P) w ty et len (ps.map fun q => (q.1, a.eval q.2)) us'.toArray ie z hu hie hz' (by rw [hsz]; omega) (by rw [hsz]; have := Nat.mul_pos (Nat.pos_of_ne_zero hn0) c1; omega) (by
              rw [Array.toList_map, ← k2, hsz, c2]
              try simp)
            refine hnew (u := undef) (w' := w.alloc (.cells us'.toArray et)) ?_ rfl ⟨rfl, rfl⟩
            have hrun' : (Instr.buildSlice ty len (ps.map fun (x : Nat × Operand) => match x with | (i, x) => (i, a.eval x))).run P w = _ := hrun
            simp only [execOp, ho, Sem.run_bind]
            rw [hrun']
            rfl
        · cases he
    · cases he
  · cases he
theorem makeSlice_go (h : HRel B ρ s w) (r : TRel ρ t a) {ty : TypeId} {l c : Operand} (ho : o.op = .makeSlice ty l c) (he : makeSliceC P s ty (ev t l) (ev t c) = some (v, s')) : OpGo P B ρ s w a o v s' := by
  unfold makeSliceC at he
  split at he
  · rename_i et ln cn het hl hcn
    have hu : P.underlying ty = some (.slice et) := by
      unfold elemOf at het
      split at het
      · rename_i hu; cases het; exact hu
      · cases het
    obtain ⟨kl, el⟩ := intOf_eq hl (ev_ok r l)
    obtain ⟨kc, ec⟩ := intOf_eq hcn (ev_ok r c)
    split at he
    · rename_i e z by_ hs hz hby
      cases hc : (Nat.blt 0 e && Nat.beq z.cells.toList.length e && Nat.ble by_ 16384 && decide (0 ≤ ln) && decide (ln ≤ cn) && decide (cn ≤ 1000000)) with
      | false => rw [hc] at he; cases he
      | true =>
        rw [hc] at he
        cases he
        simp only [Bool.and_eq_true, Nat.ble_eq, Nat.blt_eq, decide_eq_true_eq] at hc
        obtain ⟨⟨⟨⟨⟨c1, c2⟩, c3⟩, c4⟩, c5⟩, c6⟩ := hc
        replace c2 : z.cells.size = e := by simpa using Nat.eq_of_beq_eq_true c2
        unfold szOf at hs
        simp only [Option.map_eq_some_iff] at hs
        obtain ⟨ie, hie, hsz⟩ := hs
        have hz' := hz
        unfold zeroOf at hz'
        simp only [hie, Option.bind_some] at hz'
        unfold bytesC at hby
        simp only [hie, Option.map_some, Option.some.injEq] at hby
        have hbytes : (ie.bytes : Int) * cn ≤ 281474976710656 := by
          have h1 : (ie.bytes : Int) ≤ 16384 := by omega
          have : (ie.bytes : Int) * cn ≤ 16384 * 1000000 := Int.mul_le_mul h1 c6 (by omega) (by omega)
          omega
        have hrun := run_make (P := P) w ty et ie z hu hie hz' kl kc ln cn c4 c5 hbytes (by omega)
        have hd := rep_den ρ z.cells (by omega) cn.toNat
        refine OpGo.new h (u := .slice (some ⟨w.heap.size, 0, none⟩) ln.toNat cn.toNat) (w' := w.alloc (.cells (madeCells z.cells (cn.toNat * ie.size)) et)) (c := madeCells z.cells (cn.toNat * ie.size)) (f := (0, 0)) ?_ rfl (fun _ => by rw [rep_len, size_madeCells, hsz]; simp [c2]) (nofz0 _) ?_ ?_
        · simp [execOp, ho, el, ec, hrun]
        · have := cells_of hd
          rw [Array.toArray_toList, c2] at this
          simpa only [madeCells, hsz, c2] using this
        · have := new_sl (ρ := ρ) (n := s.next) (b := w.heap.size) (m := cn.toNat) (k := ln.toNat) c1 (by omega)
          rwa [show cn.toNat * e = (madeCells z.cells (cn.toNat * ie.size)).size by rw [size_madeCells, hsz]] at this
    · cases he
  · cases he
end
end Go.XR
/- The concrete evaluator: operations, part four: conversions and builtins. -/
namespace Go.XR
section
variable {P : Program} {B w w' : World} {ρ ρ' : Pm} {s s' : VS} {t : Tr CV} {a : Act} {o : Oper} {v x y : CV} {vx vy : Value}

theorem bytes_from {ρ : Pm} : ∀ {l : List CV} {bs : List UInt8} {us : List Value}, bytesFrom l = some bs → denL ρ l = some us → us.length = bs.length ∧ ∃ ns : List Int, us = ns.map (Value.int .u8) ∧ bs = (ns.map fun n => n.toNat.toUInt8) ∧ ∀ n ∈ ns, 0 ≤ n ∧ n < 256
  | [], bs, us, h, hd => by cases h; cases hd; exact ⟨rfl, [], rfl, rfl, by simp⟩
  | x :: r, bs, us, h, hd => by
    unfold bytesFrom at h
    split at h
    · cases ‹_ = ([] : List CV)›
    · rename_i n r' e
      cases e
      cases hn : (decide (0 ≤ n) && decide (n < 256)) with
      | false => rw [hn] at h; cases h
      | true =>
        rw [hn] at h
        simp only [cond_true] at h
        split at h
        · rename_i l hl
          cases h
          simp only [denL, den, Option.bind_some, Option.map_eq_some_iff] at hd
          obtain ⟨z, hz, rfl⟩ := hd
          obtain ⟨h1, ns, rfl, rfl, h2⟩ := bytes_from hl hz
          simp only [Bool.and_eq_true, decide_eq_true_eq] at hn
          exact ⟨by simp, n :: ns, rfl, rfl, fun m hm => by
            rcases List.mem_cons.1 hm with rfl | hm
            · exact hn
            · exact h2 m hm⟩
        · cases h
    · cases h
theorem freeze_heap {w : World} {b : Nat} {c : Array Value} {ty : TypeId} {f : Nat × Nat} (h : w.heap[b]? = some (.cells c ty f)) (o n : Nat) : ∃ f', (w.freeze ⟨b, o, none⟩ n).heap[b]? = some (.cells c ty f') ∧ (f = (0, 0) → n = 1 → f' = (o, o + 1)) ∧ (∀ x, x ≠ b → (w.freeze ⟨b, o, none⟩ n).heap[x]? = w.heap[x]?) ∧ (w.freeze ⟨b, o, none⟩ n).heap.size = w.heap.size := by
  obtain ⟨lo, hi⟩ := f
  unfold World.freeze
  by_cases hn : n = 0
  · rw [if_pos hn]
    exact ⟨_, h, fun _ h1 => by omega, fun _ _ => rfl, rfl⟩
  · rw [if_neg hn]
    refine ⟨if lo = hi then (o, o + n) else (min lo o, max hi (o + n)), by simp [Array.getElem?_modify, h], fun e1 e2 => ?_, fun x hx => by simp [Array.getElem?_modify, Ne.symm hx], by simp⟩
    cases e1
    subst e2
    rfl
theorem run_mark {w : World} {b : Nat} {c : Array Value} {ty : TypeId} {f : Nat × Nat} (h : w.heap[b]? = some (.cells c ty f)) : (markStringish ⟨b, 0, none⟩).run P w = .ok () (w.freeze ⟨b, c.size, none⟩ 1) := by
  simp [markStringish, shape, Sem.run, World.shape?, h, freeze]
theorem run_s2b (w : World) (et : TypeId) (str : ByteArray) : ∃ w' c cap, (Conv.stringToBytes et str).run P w = .ok (.slice (some ⟨w.heap.size, 0, none⟩) str.size cap) w' ∧ str.size ≤ cap ∧ c.size = cap ∧ w'.heap = w.heap.push (.cells c et (cap, cap + 1)) ∧ SameOut w' w ∧ ∀ (i : Nat) (q : UInt8), str.data.toList[i]? = some q → c[i]? = some (Value.int .u8 q.toNat) := by
  let cap := (Question.appendCap str.size 0 et).cut (w.tape w.drawn (.appendCap str.size 0 et))
  have hcap : str.size ≤ cap := by simp only [cap, Question.cut]; exact Nat.le_add_right _ _
  let c : Array Value := str.data.map (fun b => .int .u8 b.toNat) ++ Array.replicate (cap - str.size) (.int .u8 0)
  have hcs : c.size = cap := by
    simp only [c, Array.size_append, Array.size_map, Array.size_replicate]
    have : str.data.size = str.size := rfl
    omega
  let W : World := w.drew.alloc (.cells c et)
  have hW : W.heap[w.heap.size]? = some (.cells c et (0, 0)) := by
    show (w.heap.push _)[w.heap.size]? = _
    simp
  obtain ⟨f', h1, h2, h3, h4⟩ := freeze_heap hW c.size 1
  refine ⟨W.freeze ⟨w.heap.size, c.size, none⟩ 1, c, cap, ?_, hcap, hcs, ?_, ⟨rfl, rfl⟩, fun i q hq => ?_⟩
  · have hch : (choose (.appendCap str.size 0 et)).run P w = .ok cap w.drew := by simp [Question.forced, cap]
    have hnew : (newRow et c).run P w.drew = .ok ⟨w.heap.size, 0, none⟩ W := rfl
    simp only [Conv.stringToBytes, Sem.run_bind, hch, Result.andThen_ok]
    rw [hnew]
    simp only [Result.andThen_ok, run_mark hW]
    rfl
  · apply Array.ext_getElem?
    intro x
    by_cases hx : x = w.heap.size
    · subst hx
      rw [h1, h2 rfl rfl, hcs]; simp
    · rw [h3 x hx]
      show (w.heap.push _)[x]? = _
      simp only [Array.getElem?_push, if_neg hx]
  · simp only [c]
    have hlt := (List.getElem?_eq_some_iff.1 hq).1
    rw [Array.getElem?_append_left (by simpa using hlt)]
    have : str.data[i]? = some q := by simpa using hq
    simp [this]
theorem rep_all {z : List CV} (h : z.all isCell = true) : ∀ n, (repC z n).all isCell = true
  | 0 => rfl
  | n + 1 => by rw [repC, List.all_append, h, rep_all h n]; rfl
theorem fold_push : ∀ (ns : List Int) (s : ByteArray), ns.foldl (fun r n => r.push (UInt8.ofNat n.toNat)) s = ⟨s.data ++ (ns.map fun n => n.toNat.toUInt8).toArray⟩
  | [], s => by cases s; simp
  | n :: ns, s => by
    rw [List.foldl_cons, fold_push ns]
    apply ByteArray.ext
    simp [ByteArray.push]
theorem conv_go (h : HRel B ρ s w) (r : TRel ρ t a) {src dst : TypeId} {x : Operand} (ho : o.op = .convert src dst x) (he : convC P s src dst (ev t x) = some (v, s')) : OpGo P B ρ s w a o v s' := by
  have hx := ev_ok r x
  generalize ev t x = X at he hx
  unfold convC at he
  split at he
  · rename_i q hq
    cases he
    obtain ⟨u, h1, rfl, rfl⟩ := pure1 hq hx
    exact OpGo.val h (by simp [execOp, ho, h1]) rfl
  · rename_i hno
    clear hno
    split at he
    · rename_i e b off hs hd
      obtain ⟨q, hq, e1⟩ := den_ptr hx
      split at he
      · rename_i k z hk hz
        cases hc : Nat.blt off k.cs.length with
        | false => rw [hc] at he; cases he
        | true =>
          rw [hc] at he
          cases he
          rw [Nat.blt_eq] at hc
          unfold szOf at hz
          simp only [Option.map_eq_some_iff] at hz
          obtain ⟨i, hi, hz⟩ := hz
          obtain ⟨c, f, hb⟩ := h.blk b k q hk hq
          have hlen := h.len hk hq
          have hsz := hb.size
          have hrun := Lib.run_to_unsafe (P := P) w (e := k.ty) (cells := c.size) ⟨q.1, off, none⟩ hs hd hi (by omega) (by simp [World.shape?, hb.at_]) (by simp; omega)
          exact OpGo.val h (u := .pointer (some ⟨q.1, off, none⟩)) (by simp [execOp, ho, e1, hrun]) (by simp [den, hq])
      · cases he
    · rename_i e b off hs hd
      obtain ⟨q, hq, e1⟩ := den_ptr hx
      split at he
      · rename_i k z hk hz
        cases hc : (k.ex && liesAt P P.depth k.ty (k.cs.length / P.cellsOf k.ty) off e 1) with
        | false => rw [hc] at he; cases he
        | true =>
          rw [hc] at he
          cases he
          simp only [Bool.and_eq_true] at hc
          unfold szOf at hz
          simp only [Option.map_eq_some_iff] at hz
          obtain ⟨i, hi, hz⟩ := hz
          obtain ⟨c, f, hb⟩ := h.blk b k q hk hq
          have hsz := hb.size
          have hex := hb.ex hc.1
          have hrun := Lib.run_from_unsafe (P := P) w (e := k.ty) (cells := c.size) ⟨q.1, off, none⟩ hs hd hi (by simp [World.shape?, hb.at_]) (by rw [hsz, ← hex]; exact hc.2)
          exact OpGo.val h (u := .pointer (some ⟨q.1, off, none⟩)) (by simp [execOp, ho, e1, hrun]) (by simp [den, hq])
      · cases he
    · rename_i b off hs hd
      cases he
      obtain ⟨q, hq, e1⟩ := den_ptr hx
      refine OpGo.val h (u := .pointer (some ⟨q.1, off, none⟩)) ?_ (by simp [den, hq])
      simp [execOp, ho, e1, convert, run_underlying hs, run_underlying hd, Conv.unsafePointer]
    · rename_i et str hs hd
      split at he
      · rename_i hu
        cases he
        have e1 := Option.some.inj (show some _ = some _ from hx)
        obtain ⟨w', c, cap, k1, k2, k3, k4, k6, k5⟩ := run_s2b (P := P) w et str
        refine OpGo.new (eo := k6) h (u := .slice (some ⟨w.heap.size, 0, none⟩) str.size cap) (w' := w') (c := c) (f := (cap, cap + 1)) ?_ k4 (fun e => by cases e) (fun j hj => by rw [k3] at hj; simp; omega) (fun i v hi => ?_) ?_
        · simp only [execOp, ho, ← e1, Sem.run_bind, convert, run_underlying hs, run_underlying hd, run_underlying hu, Result.andThen_ok, k1]
          rfl
        · simp only [List.getElem?_map, Option.map_eq_some_iff] at hi
          obtain ⟨q, hq, rfl⟩ := hi
          exact ⟨_, rfl, k5 i q hq⟩
        · have := new_sl (ρ := ρ) (n := s.next) (b := w.heap.size) (m := cap) (k := str.data.toList.length) (e := 1) (by omega) (by simpa using k2)
          rw [Nat.mul_one] at this
          rw [k3, this]
          simp
      · cases he
    · rename_i et b off n e hs hd
      split at he
      · rename_i k hu hk
        cases hc : (Nat.beq e 1 && Nat.ble (off + n) k.cs.length) with
        | false => rw [hc] at he; cases he
        | true =>
          rw [hc] at he
          simp only [cond_true] at he
          simp only [Bool.and_eq_true, Nat.ble_eq] at hc
          split at he
          · rename_i l hl
            cases he
            obtain ⟨q, hq, g1, g2, g3, e1⟩ := den_sl hx
            obtain ⟨us, k1, k2, k3⟩ := h.read hk hq hc.2
            obtain ⟨_, ns, rfl, rfl, _⟩ := bytes_from hl k1
            have h4 := run_loadCells_list (P := P) w ⟨q.1, off, none⟩ _ (fun j v hv => by rw [XE.add_mk]; exact k3 j v hv)
            rw [k2] at h4
            have hrun := run_bytesToString (P := P) w ⟨q.1, off, none⟩ n ((q.2 - off) / e) ns h4
            refine OpGo.val h (u := .string ⟨(ns.map fun n => n.toNat.toUInt8).toArray⟩) ?_ rfl
            rw [fold_push] at hrun
            simp only [execOp, ho, e1, Sem.run_bind, run_convert_bytes_string w src dst et _ _ _ hs hu hd, hrun, Result.andThen_ok]
            congr 1
            simp only [Sem.run_pure]
            congr 3
            apply ByteArray.ext
            simp
          · cases he
      · cases he
    · cases he

/-! ### Builtins -/
theorem map2 {l : List Operand} {X Y : CV} (h : mapC t l = [X, Y]) : ∃ x y, l = [x, y] ∧ X = ev t x ∧ Y = ev t y := by
  unfold mapC at h
  match l, h with
  | [x, y], h => simp at h; exact ⟨x, y, rfl, h.1.symm, h.2.symm⟩
  | [], h => simp at h
  | [_], h => simp at h
  | _ :: _ :: _ :: _, h => simp at h
theorem map1 {l : List Operand} {X : CV} (h : mapC t l = [X]) : ∃ x, l = [x] ∧ X = ev t x := by
  unfold mapC at h
  match l, h with
  | [x], h => simp at h; exact ⟨x, rfl, h.symm⟩
  | [], h => simp at h
  | _ :: _ :: _, h => simp at h
theorem elemOf_eq {ty et : TypeId} (h : elemOf P ty = some et) : P.underlying ty = some (.slice et) := by
  unfold elemOf at h
  split at h
  · rename_i hu; cases h; exact hu
  · cases h
/-- A builtin that gives a value. -/
theorem builtin_run {c : Call} {b : Builtin} (ho : o.op = .call c) (hc : c.callee = .builtin b) {ags : List Operand} {ts : List TypeId} (ha : c.args.toList = ags) (ht : c.argTypes.toList = ts) (f : Array TypeId → TypeId → Array Value → Sem Value)
    (hb : ∀ ts ty cs args, Go.builtin b ts ty cs args = (do pure (.value (← f ts ty args)))) {u : Value} (hr : (f ts.toArray o.type (ags.map a.eval).toArray).run P w = .ok u w') : (execOp a.eval o).run P w = .ok (.value u) w' := by
  have h1 : c.args.map a.eval = (ags.map a.eval).toArray := by apply Array.ext'; simp [ha]
  have h2 : c.argTypes = ts.toArray := by apply Array.ext'; simp [ht]
  simp only [execOp, ho, resolve, hc, Sem.run_bind, Sem.run_pure, Result.andThen_ok, invoke, hb, h1, h2, hr]
theorem len_go (h : HRel B ρ s w) (r : TRel ρ t a) {c : Call} (ho : o.op = .call c) (hc : c.callee = .builtin .len) {ty : TypeId} {x : Operand} (ha : c.args.toList = [x]) (ht : c.argTypes.toList = [ty]) (he : lenC P s ty (ev t x) = some (v, s')) : OpGo P B ρ s w a o v s' := by
  have hx := ev_ok r x
  generalize ev t x = X at he hx
  have fin : ∀ {u : Value}, (Builtin.len_ #[ty] o.type #[a.eval x]).run P w = .ok u w → (execOp a.eval o).run P w = .ok (.value u) w := fun hr => builtin_run ho hc ha ht Builtin.len_ (fun _ _ _ _ => rfl) hr
  unfold lenC at he
  split at he
  · rename_i q hq
    cases he
    obtain ⟨u, h1, rfl, rfl⟩ := pure1 hq hx
    exact OpGo.val h (fin (h1 w)) rfl
  · rename_i hno
    clear hno
    split at he
    · rename_i et b off n e hu
      cases he
      obtain ⟨q, hq, _, _, _, e1⟩ := den_sl hx
      exact OpGo.val h (fin (u := .int .i64 n) (by simp [Builtin.len_, e1, run_underlying hu, goInt])) rfl
    · rename_i et k n hu
      cases he
      simp only [den, Option.bind_eq_some_iff, Option.map_eq_some_iff] at hx
      obtain ⟨_, _, _, _, e1⟩ := hx
      exact OpGo.val h (fin (u := .int .i64 n) (by simp [Builtin.len_, ← e1, run_underlying hu, goInt])) rfl
    · rename_i et b off n e hu
      cases he
      obtain ⟨q, ad, hq, e1⟩ := den_esl hx
      exact OpGo.val h (fin (u := .int .i64 0) (by simp [Builtin.len_, e1, run_underlying hu, goInt])) rfl
    · cases he
theorem minmax_go (h : HRel B ρ s w) (r : TRel ρ t a) {c : Call} (ho : o.op = .call c) {b : Builtin} (hc : c.callee = .builtin b) {ts : List TypeId} {x y : Operand} (ha : c.args.toList = [x, y]) (ht : c.argTypes.toList = ts)
    (f : Array TypeId → TypeId → Array Value → Sem Value) (hb : ∀ ts ty cs args, Go.builtin b ts ty cs args = (do pure (.value (← f ts ty args)))) (hf : ∀ ts ty ty' args, f ts ty args = f ts ty' args) (he : at2 P s (fun p q => f ts.toArray 0 #[p, q]) (ev t x) (ev t y) = some (v, s')) : OpGo P B ρ s w a o v s' := by
  obtain ⟨u, h1, rfl, rfl⟩ := pure2 he (ev_ok r x) (ev_ok r y)
  exact OpGo.val h (builtin_run ho hc ha ht f hb (by rw [hf _ _ 0]; exact h1 w)) rfl
theorem clear_go (h : HRel B ρ s w) (r : TRel ρ t a) {c : Call} (ho : o.op = .call c) (hc : c.callee = .builtin .clear) {ty : TypeId} {x : Operand} (ha : c.args.toList = [x]) (ht : c.argTypes.toList = [ty]) (he : clearC P s ty (ev t x) = some (v, s')) : OpGo P B ρ s w a o v s' := by
  have hx := ev_ok r x
  generalize ev t x = X at he hx
  have fin : ∀ {u : Value} {w'}, (Builtin.clear_ #[ty] o.type #[a.eval x]).run P w = .ok u w' → (execOp a.eval o).run P w = .ok (.value u) w' := fun hr => builtin_run ho hc ha ht Builtin.clear_ (fun _ _ _ _ => rfl) hr
  unfold clearC at he
  split at he
  · rename_i et het
    have hu := elemOf_eq het
    split at he
    · rename_i n c'
      cases he
      have e1 := Option.some.inj (show some _ = some _ from hx)
      exact OpGo.val h (fin (u := .tuple #[]) (by simp [Builtin.clear_, ← e1, run_underlying hu])) rfl
    · rename_i b off n e z v' hz hv
      obtain ⟨q, hq, g1, g2, g3, e1⟩ := den_sl hx
      cases hn : Nat.beq n 0 with
      | true =>
        rw [hn] at he
        cases he
        have := Nat.eq_of_beq_eq_true hn
        subst this
        exact OpGo.val h (fin (u := .tuple #[]) (by simp [Builtin.clear_, e1, run_underlying hu])) rfl
      | false =>
        have hn0 : n ≠ 0 := fun e => by subst e; cases hn
        rw [hn] at he
        simp only [cond_false] at he
        split at he
        · rename_i k hk
          cases hcc : (Nat.beq z e && Nat.beq v'.cells.toList.length e && !k.fz && Nat.ble (off + n * e) k.cs.length && (v'.cells.toList.map CV.at).all isCell) with
          | false => rw [hcc] at he; cases he
          | true =>
            rw [hcc] at he
            cases he
            simp only [Bool.and_eq_true, Nat.ble_eq, Bool.not_eq_true'] at hcc
            obtain ⟨⟨⟨⟨c1, c2⟩, c3⟩, c4⟩, c5⟩ := hcc
            replace c1 := Nat.eq_of_beq_eq_true c1
            replace c2 : v'.cells.size = e := by simpa using Nat.eq_of_beq_eq_true c2
            have hd := rep_den ρ v'.cells (by omega) n
            have hall := rep_all c5 n
            have hrl : (repC (v'.cells.toList.map CV.at) n).length = n * e := by rw [rep_len]; simp [c2]
            obtain ⟨c', k3, k2⟩ := h.over (P := P) hk hq c3 hd (off := off) (by omega) (denL_isCell hd hall)
            refine ⟨.value (.tuple #[]), .tuple #[], _, ρ, fin ?_, .inl rfl, rfl, k2, .refl _ _⟩
            have hz' : (Builtin.zeroCells v'.cells n).toList = ((Array.range (n * v'.cells.size)).map (v'.cells[· % v'.cells.size]!)).toList := rfl
            obtain ⟨n', rfl⟩ : ∃ n', n = n' + 1 := ⟨n - 1, by omega⟩
            rw [← hz'] at k3
            simp [Builtin.clear_, e1, run_underlying hu, zero_run hv, k3]
        · cases he
    · cases he
  · cases he
theorem sliceData_go (h : HRel B ρ s w) (r : TRel ρ t a) {c : Call} (ho : o.op = .call c) (hc : c.callee = .builtin .unsafeSliceData) {x : Operand} (ha : c.args.toList = [x]) {b off n e : Nat} (hx : ev t x = .sl b off n e) (hn : 0 < n) : OpGo P B ρ s w a o (.ptr b off) s := by
  have h0 := ev_ok r x
  rw [hx] at h0
  obtain ⟨q, hq, g1, g2, g3, e1⟩ := den_sl h0
  have hcap : n ≤ (q.2 - off) / e := by rw [Nat.le_div_iff_mul_le g1]; omega
  refine OpGo.val h (u := .pointer (some ⟨q.1, off, none⟩)) (builtin_run ho hc ha rfl Builtin.unsafeSliceData_ (fun _ _ _ _ => rfl) ?_) (by simp [den, hq])
  simp only [List.map_cons, List.map_nil, e1]
  exact Lib.run_unsafeSliceData_row w _ _ _ _ _ (by omega)
theorem unsafeStr_go (h : HRel B ρ s w) (r : TRel ρ t a) {c : Call} (ho : o.op = .call c) (hc : c.callee = .builtin .unsafeString) {pt it et : TypeId} {x y : Operand} (ha : c.args.toList = [x, y]) (ht : c.argTypes.toList = [pt, it]) {b : Nat} {n : Int} {k : Blk} {l : List UInt8}
    (hx : ev t x = .ptr b 0) (hy : ev t y = .at (.int .i64 n)) (hk : s.blk b = some k) (hp : P.underlying pt = some (.pointer et)) (c1 : k.fz = false) (c2 : 0 < n) (c3 : n ≤ 1000000) (c4 : n.toNat ≤ k.cs.length) (c5 : P.cellsOf et = 1) (c6 : k.ty = et) (hl : bytesFrom (k.cs.take n.toNat) = some l) :
    OpGo P B ρ s w a o (.at (.string ⟨l.toArray⟩)) (s.put b (some { k with fz := true })) := by
  have h0 := ev_ok r x
  have h1 := ev_ok r y
  rw [hx] at h0
  rw [hy] at h1
  obtain ⟨q, hq, e1⟩ := den_ptr h0
  have e2 := Option.some.inj (show some _ = some _ from h1)
  obtain ⟨us, k1, k2, k3⟩ := h.read (o := 0) hk hq (n := n.toNat) (by omega)
  obtain ⟨cc, f, hb⟩ := h.blk b k q hk hq
  rw [List.drop_zero] at k1
  obtain ⟨g1, ns, rfl, rfl, hns⟩ := bytes_from hl k1
  have hlen := h.len hk hq
  have hsz := hb.size
  have hll : ((ns.map fun n => n.toNat.toUInt8).length : Int) = n := by rw [← g1, k2]; omega
  have hrange : ∀ j : Nat, ∀ m : Int, ns[j]? = some m → Value.int .u8 (((m.toNat.toUInt8).toNat : Nat) : Int) = Value.int .u8 m := fun j m hm => by
    obtain ⟨h0, h1⟩ := hns m (List.mem_of_getElem? hm)
    congr 1
    have : m.toNat.toUInt8.toNat = m.toNat := by
      show (UInt8.ofNat m.toNat).toNat = _
      rw [UInt8.toNat_ofNat']
      omega
    rw [this]; omega
  have hrun := Lib.run_unsafeString_row (P := P) w pt it o.type et hp c5 q.1 cc.size (by simp [World.shape?, hb.at_, c6]) (ns.map fun n => n.toNat.toUInt8) (fun e => by rw [e] at hll; simp at hll; omega) (by rw [← g1, k2]; omega) (by omega) (fun j x hj => by
    rw [XE.add_mk]
    simp only [List.getElem?_map, Option.map_eq_some_iff] at hj
    obtain ⟨m, hm, rfl⟩ := hj
    rw [hrange j m hm]
    exact k3 j _ (by simp [hm]))
  rw [hll] at hrun
  refine ⟨.value (.string ⟨(ns.map fun n => n.toNat.toUInt8).toArray⟩), _, w.freeze ⟨q.1, 0, none⟩ (ns.map fun n => n.toNat.toUInt8).length, ρ, builtin_run ho hc ha ht Builtin.unsafeString_ (fun _ _ _ _ => rfl) (by
    simp only [List.map_cons, List.map_nil, e1, ← e2]; exact hrun), .inl rfl, rfl, ?_, .refl _ _⟩
  obtain ⟨f', d1, _, d2, d3⟩ := freeze_heap hb.at_ 0 (ns.map fun n => n.toNat.toUInt8).length
  exact h.write hk hq c1 (k' := { k with fz := true }) rfl d1 hb.size d2 d3 hb.ex (fun e => by cases e) hb.cells ⟨by unfold World.freeze; split <;> rfl, by unfold World.freeze; split <;> rfl⟩
end
end Go.XR
/- The concrete evaluator: append; all operations but calls of functions. -/
namespace Go.XR
section
variable {P : Program} {B w w' : World} {ρ ρ' : Pm} {s s' : VS} {t : Tr CV} {a : Act} {o : Oper} {v x y : CV} {vx vy : Value}

theorem news_ok (h : HRel B ρ s w) {e : Nat} {k : Nat} {news : List CV} (he : newsC s e y = some (k, news)) (hy : den ρ y = some vy) :
    ∃ us, denL ρ news = some us ∧ us.length = k * e ∧ ∀ w', w'.heap = w.heap → (Builtin.lenOf vy).run P w' = .ok k w' ∧ (Builtin.firstCells e k vy).run P w' = .ok us.toArray w' := by
  unfold newsC at he
  split at he
  · rename_i b off n e'
    split at he
    · rename_i kb hk
      cases hc : (Nat.beq e e' && Nat.ble (off + n * e) kb.cs.length) with
      | false => rw [hc] at he; cases he
      | true =>
        rw [hc] at he
        cases he
        simp only [Bool.and_eq_true, Nat.ble_eq] at hc
        obtain ⟨q, hq, _, _, _, rfl⟩ := den_sl hy
        obtain ⟨us, h1, h2, h3⟩ := h.read hk hq hc.2
        refine ⟨us, h1, h2, fun w' hw => ⟨by simp [Builtin.lenOf], run_firstCells_some (P := P) w' e k ⟨q.1, off, none⟩ k _ us h2 fun j v hv => ?_⟩⟩
        rw [XE.add_mk]
        have := h3 j v hv
        simpa [World.cell?, hw] using this
    · cases he
  · rename_i n c
    cases hn : Nat.beq n 0 with
    | false => rw [hn] at he; cases he
    | true =>
      rw [hn] at he
      cases he
      have := Nat.eq_of_beq_eq_true hn
      subst this
      cases hy
      exact ⟨[], rfl, by simp, fun w' _ => ⟨by simp [Builtin.lenOf], run_firstCells_none w' _ _ _ _⟩⟩
  · rename_i str
    cases hn : Nat.beq e 1 with
    | false => rw [hn] at he; cases he
    | true =>
      rw [hn] at he
      cases he
      have := Nat.eq_of_beq_eq_true hn
      subst this
      cases hy
      have hd8 : denL ρ (str.data.toList.map fun q => CV.at (.int .u8 q.toNat)) = some (str.data.toList.map fun q => Value.int .u8 q.toNat) := by
        have := denL_at ρ (str.data.toList.map fun q => Value.int .u8 q.toNat)
        rwa [List.map_map] at this
      refine ⟨_, hd8, by simp, fun w' _ => ⟨rfl, ?_⟩⟩
      simp only [Builtin.firstCells, Sem.run_pure]
      congr 1
      apply Array.ext'
      simp
  · cases he
section
variable {t0 t2 et : TypeId} {d2 : TypeDesc} {i : TypeInfo}
theorem notInt (hd : ∀ k, d2 ≠ .int k) : (match d2 with | .int _ => true | _ => false) = false := by cases d2 <;> first | rfl | exact absurd rfl (hd _)
theorem run_app_in (w : World) (ty : TypeId) (ht : P.underlying t0 = some (.slice et)) (ht2 : P.underlying t2 = some d2) (hd : ∀ k, d2 ≠ .int k) (hi : P.info? et = some i) {base : Option Addr} {sLen sCap k : Nat} {x : Value} {us : List Value} {w' : World}
    (hk : (Builtin.lenOf x).run P w = .ok k w) (hx : (Builtin.firstCells i.size k x).run P w = .ok us.toArray w) (hroom : sLen + k ≤ sCap) (hst : ∀ b, base = some b → (storeCells (b.add (sLen * i.size)) us).run P w = .ok () w') (hn : base = none → w' = w) :
    (Builtin.append_ #[t0, t2] ty #[.slice base sLen sCap, x]).run P w = .ok (.slice base (sLen + k) sCap) w' := by
  have h1 := notInt hd
  cases base with
  | none =>
    rw [hn rfl]
    simp [Builtin.append_, run_underlying ht, run_underlying ht2, sizeOf, typeInfo, hi, hk, hroom, hx, h1]
  | some b =>
    have h2 := hst b rfl
    simp [Builtin.append_, run_underlying ht, run_underlying ht2, sizeOf, typeInfo, hi, hk, hroom, hx, h1, h2]
theorem run_app_out (w : World) (ty : TypeId) {z : Value} (ht : P.underlying t0 = some (.slice et)) (ht2 : P.underlying t2 = some d2) (hd : ∀ k, d2 ≠ .int k) (hi : P.info? et = some i) (hz : i.zero = some z) {base : Option Addr} {sLen sCap k : Nat} {x : Value} {olds news : List Value}
    (hk : (Builtin.lenOf x).run P w = .ok k w) (holds : (Builtin.firstCells i.size sLen (.slice base sLen sCap)).run P w.drew = .ok olds.toArray w.drew) (hx : (Builtin.firstCells i.size k x).run P w.drew = .ok news.toArray w.drew)
    (hg : sCap < sLen + k) (h63 : ((sLen + k : Nat) : Int) ≤ 9223372036854775807) (hfit : Builtin.nextslicecap (sLen + k) sCap * i.bytes ≤ 281474976710656) :
    (Builtin.append_ #[t0, t2] ty #[.slice base sLen sCap, x]).run P w =
      .ok (.slice (some ⟨w.heap.size, 0, none⟩) (sLen + k) (grownCap w (sLen + k) sCap et))
        (w.drew.alloc (.cells (olds.toArray ++ news.toArray ++ Builtin.zeroCells z.cells (grownCap w (sLen + k) sCap et - (sLen + k))) et)) := by
  have h1 := notInt hd
  have hn : ¬ (sLen + k ≤ sCap) := by omega
  have h63' : ¬ (9223372036854775807 < ((sLen : Int) + (k : Int))) := by omega
  have h48' : ¬ (281474976710656 < Builtin.nextslicecap (sLen + k) sCap * i.bytes) := by omega
  have hs : (Builtin.lenOf (.slice base sLen sCap)).run P w = .ok sLen w := by simp [Builtin.lenOf]
  simp [Builtin.append_, run_underlying ht, run_underlying ht2, h1, sizeOf, typeInfo, zeroValue, hi, hz, hk, hn, h63', h48', Question.forced, hx, holds, newRow, grownCap]
  congr 2
  apply Array.ext'
  simp [List.append_assoc]
end
/-- A slice that outgrows its row. -/
theorem grow_ok (h : HRel B ρ s w) (ty : TypeId) {t0 t2 et : TypeId} {d2 : TypeDesc} {i : TypeInfo} {z : Value} (ht : P.underlying t0 = some (.slice et)) (ht2 : P.underlying t2 = some d2) (hd : ∀ k, d2 ≠ .int k) (hi : P.info? et = some i) (hz : i.zero = some z) (hzs : z.cells.size = i.size) (he : 0 < i.size)
    {base : Option Addr} {n cap k : Nat} {ocs news : List CV} {olds us : List Value} (hod : denL ρ ocs = some olds) (hol : olds.length = n * i.size) (hod' : (Builtin.firstCells i.size n (.slice base n cap)).run P w.drew = .ok olds.toArray w.drew)
    (hud : denL ρ news = some us) (hul : us.length = k * i.size) (hu : ∀ w', w'.heap = w.heap → (Builtin.lenOf vy).run P w' = .ok k w' ∧ (Builtin.firstCells i.size k vy).run P w' = .ok us.toArray w') (hlt : cap < n + k) (hn : n ≤ 1000000) (hk : k ≤ 1000000) (hb : i.bytes ≤ 16384) :
    ∃ w' u ρ', (Builtin.append_ #[t0, t2] ty #[.slice base n cap, vy]).run P w = .ok u w' ∧ den ρ' (.sl s.next 0 (n + k) i.size) = some u ∧ HRel B ρ' (newC s et (ocs ++ news) false) w' ∧ ExtAt s.next ρ ρ' := by
  have hbytes : (n + k) * i.bytes ≤ 140737488355328 := by
    have : (n + k) * i.bytes ≤ 2000000 * 16384 := Nat.mul_le_mul (by omega) hb
    omega
  have hrun := run_app_out (P := P) w ty ht ht2 hd hi hz (hu w rfl).1 hod' (hu w.drew rfl).2 hlt (by omega) (growslice_fits hlt hbytes)
  have hge := grownCap_ge w (n + k) cap et
  generalize grownCap w (n + k) cap et = gc at hrun hge
  let c : Array Value := olds.toArray ++ us.toArray ++ Builtin.zeroCells z.cells (gc - (n + k))
  have hcs : c.size = gc * i.size := by
    simp only [c, Array.size_append, List.size_toArray, hol, hul, size_zeroCells, hzs, ← Nat.add_mul]
    congr 1; omega
  have hcl := denL_append hod hud
  obtain ⟨h1, h2⟩ := h.new (w' := w.drew.alloc (.cells c et)) (ty := et) (cs := ocs ++ news) (ex := false) (c := c) (f := (0, 0)) rfl (fun e => by cases e) (nofz0 _) (fun j q hq => by
    obtain ⟨u, g1, g2⟩ := denL_get hcl j q hq
    refine ⟨u, g2, ?_⟩
    have hlt := (List.getElem?_eq_some_iff.1 g1).1
    simp only [c]
    rw [Array.getElem?_append_left (by simpa using hlt)]
    simpa using g1)
  refine ⟨_, _, _, hrun, ?_, h1, h2⟩
  rw [hcs]
  exact new_sl he hge
theorem append_go (h : HRel B ρ s w) (r : TRel ρ t a) {c : Call} (ho : o.op = .call c) (hc : c.callee = .builtin .append) {x y : Operand} (ha : c.args.toList = [x, y]) (he : appendC P s c.argTypes.toList (ev t x) (ev t y) = some (v, s')) : OpGo P B ρ s w a o v s' := by
  have hx := ev_ok r x
  have hy := ev_ok r y
  generalize ev t x = X at he hx
  generalize ev t y = Y at he hy
  unfold appendC at he
  split at he
  · rename_i t0 t2 hts
    split at he
    · rename_i et d2 het hd2
      have hu := elemOf_eq het
      cases hdi : isIntD d2 with
      | true => rw [hdi] at he; cases he
      | false =>
        rw [hdi] at he
        simp only [cond_false] at he
        have hd : ∀ k, d2 ≠ .int k := fun k e => by subst e; cases hdi
        split at he
        · rename_i e by_ z hs hby hz
          unfold szOf at hs
          simp only [Option.map_eq_some_iff] at hs
          obtain ⟨i, hi, rfl⟩ := hs
          unfold zeroOf at hz
          simp only [hi, Option.bind_some] at hz
          unfold bytesC at hby
          simp only [hi, Option.map_some, Option.some.injEq] at hby
          split at he
          · rename_i k news hn
            cases hcc : (Nat.blt 0 i.size && Nat.beq z.cells.toList.length i.size && Nat.ble by_ 16384 && Nat.ble k 1000000 && news.all isCell) with
            | false => rw [hcc] at he; cases he
            | true =>
              rw [hcc] at he
              simp only [cond_true] at he
              unfold appendX at he
              simp only [Bool.and_eq_true, Nat.ble_eq, Nat.blt_eq] at hcc
              obtain ⟨⟨⟨⟨c1, c2⟩, c3⟩, c4⟩, c5⟩ := hcc
              replace c2 : z.cells.size = i.size := by simpa using Nat.eq_of_beq_eq_true c2
              obtain ⟨us, u1, u2, u3⟩ := news_ok (P := P) h hn hy
              have fin : ∀ {u : Value} {w'}, (Builtin.append_ #[t0, t2] o.type #[a.eval x, a.eval y]).run P w = .ok u w' → (execOp a.eval o).run P w = .ok (.value u) w' := fun hr => builtin_run ho hc ha hts Builtin.append_ (fun _ _ _ _ => rfl) hr
              have nil : k = 0 → us = [] := fun hk => List.length_eq_zero_iff.1 (by rw [u2, hk]; simp)
              split at he
              · have e1 := Option.some.inj (show some _ = some _ from hx)
                cases hk : Nat.beq k 0 with
                | true =>
                  rw [hk] at he
                  cases he
                  have hk0 := Nat.eq_of_beq_eq_true hk
                  have := run_app_in (P := P) w o.type hu hd2 hd hi (base := none) (sLen := 0) (sCap := 0) (w' := w) (u3 w rfl).1 (u3 w rfl).2 (by omega) (fun b hb => by cases hb) (fun _ => rfl)
                  rw [hk0] at this
                  exact OpGo.val h (fin (u := .slice none 0 0) (by rw [← e1]; exact this)) rfl
                | false =>
                  rw [hk] at he
                  cases he
                  have hk0 : k ≠ 0 := fun e => by subst e; cases hk
                  obtain ⟨w', u, ρ', g1, g2, g3, g4⟩ := grow_ok (P := P) h o.type hu hd2 hd hi hz c2 c1 (base := none) (n := 0) (cap := 0) (ocs := []) (olds := []) rfl (by simp) (run_firstCells_none w.drew _ _ _ _) u1 u2 u3 (by omega) (by omega) c4 (by omega)
                  rw [e1] at g1
                  rw [Nat.zero_add] at g2
                  exact ⟨_, u, w', ρ', fin g1, .inl rfl, g2, g3, g4⟩
              · rename_i b off n e'
                cases hc2 : (Nat.beq i.size e' && Nat.ble n 1000000) with
                | false => rw [hc2] at he; cases he
                | true =>
                  rw [hc2] at he
                  simp only [cond_true] at he
                  simp only [Bool.and_eq_true, Nat.ble_eq] at hc2
                  obtain ⟨d1, d3⟩ := hc2
                  have := Nat.eq_of_beq_eq_true d1
                  subst this
                  obtain ⟨q, hq, g1, g2, g3, e1⟩ := den_sl hx
                  have hcap : n ≤ (q.2 - off) / i.size := by rw [Nat.le_div_iff_mul_le g1]; omega
                  cases hk : Nat.beq k 0 with
                  | true =>
                    rw [hk] at he
                    cases he
                    have hk0 := Nat.eq_of_beq_eq_true hk
                    have := run_app_in (P := P) w o.type hu hd2 hd hi (base := some ⟨q.1, off, none⟩) (sLen := n) (sCap := (q.2 - off) / i.size) (w' := w) (u3 w rfl).1 (u3 w rfl).2 (by omega) (fun b hb => by rw [nil hk0]; rfl) (fun e => by cases e)
                    rw [hk0] at this
                    exact OpGo.val h (fin (by rw [e1]; exact this)) (by rw [hx, e1]; rfl)
                  | false =>
                    have hk0 : k ≠ 0 := fun e => by subst e; cases hk
                    rw [hk] at he
                    simp only [cond_false] at he
                    split at he
                    · rename_i kb hkb
                      cases hf : kb.fz with
                      | true => rw [hf] at he; cases he
                      | false =>
                        rw [hf] at he
                        simp only [Bool.not_false, cond_true] at he
                        have hlen := h.len hkb hq
                        have hml : n * i.size + k * i.size = (n + k) * i.size := (Nat.add_mul _ _ _).symm
                        have hnl := denL_len u1
                        cases hr1 : Nat.ble (off + (n + k) * i.size) kb.cs.length with
                        | true =>
                          rw [hr1] at he
                          cases he
                          rw [Nat.ble_eq] at hr1
                          obtain ⟨c', k3, k4⟩ := h.over (P := P) hkb hq hf u1 (off := off + n * i.size) (by omega) (denL_isCell u1 c5)
                          rw [hf] at k4
                          have hroom : n + k ≤ (q.2 - off) / i.size := by rw [Nat.le_div_iff_mul_le g1]; omega
                          have := run_app_in (P := P) w o.type hu hd2 hd hi (base := some ⟨q.1, off, none⟩) (sLen := n) (sCap := (q.2 - off) / i.size) (w' := w.setRow q.1 c') (u3 w rfl).1 (u3 w rfl).2 hroom (fun b hb => by cases hb; rw [XE.add_mk]; exact k3) (fun e => by cases e)
                          refine ⟨_, _, _, ρ, fin (by rw [e1]; exact this), .inl rfl, ?_, k4, .refl _ _⟩
                          exact sl_den hq g1 (by omega) g3
                        | false =>
                          have hr1' : ¬ (off + (n + k) * i.size ≤ kb.cs.length) := fun e => by rw [show Nat.ble (off + (n + k) * i.size) kb.cs.length = true by rw [Nat.ble_eq]; exact e] at hr1; cases hr1
                          rw [hr1] at he
                          simp only [cond_false] at he
                          cases hr2 : Nat.ble (off + n * i.size) kb.cs.length with
                          | false => rw [hr2] at he; cases he
                          | true =>
                            rw [hr2] at he
                            simp only [cond_true] at he
                            rw [Nat.ble_eq] at hr2
                            obtain ⟨olds, o1, o2, o3⟩ := h.read hkb hq hr2
                            have o4 : (Builtin.firstCells i.size n (.slice (some ⟨q.1, off, none⟩) n ((q.2 - off) / i.size))).run P w.drew = .ok olds.toArray w.drew :=
                              run_firstCells_some (P := P) w.drew i.size n ⟨q.1, off, none⟩ n _ olds o2 fun j v hv => by rw [XE.add_mk]; exact o3 j v hv
                            obtain ⟨cc, ff, hb⟩ := h.blk b kb q hkb hq
                            cases hex : kb.ex with
                            | true =>
                              rw [hex] at he
                              cases he
                              have hsz := hb.ex hex
                              have hlt : (q.2 - off) / i.size < n + k := by rw [Nat.div_lt_iff_lt_mul g1]; omega
                              obtain ⟨w', u, ρ', m1, m2, m3, m4⟩ := grow_ok (P := P) h o.type hu hd2 hd hi hz c2 c1 o1 o2 o4 u1 u2 u3 hlt d3 c4 (by omega)
                              rw [← e1] at m1
                              exact ⟨_, u, w', ρ', fin m1, .inl rfl, m2, m3, m4⟩
                            | false =>
                              rw [hex] at he
                              simp only [cond_false] at he
                              cases hc3 : (Nat.beq off 0 && Nat.beq (n * i.size) kb.cs.length && Nat.beq kb.ty et) with
                              | false => rw [hc3] at he; cases he
                              | true =>
                                rw [hc3] at he
                                cases he
                                simp only [Bool.and_eq_true] at hc3
                                obtain ⟨⟨f1, f2⟩, f3⟩ := hc3
                                have := Nat.eq_of_beq_eq_true f1
                                subst this
                                replace f2 := Nat.eq_of_beq_eq_true f2
                                replace f3 := Nat.eq_of_beq_eq_true f3
                                have hall : (kb.cs.drop 0).take (n * i.size) = kb.cs := by rw [List.drop_zero, f2, List.take_length]
                                rw [hall] at o1
                                by_cases hroom : n + k ≤ (q.2 - 0) / i.size
                                · have hfit : (n + k) * i.size ≤ q.2 := by rw [Nat.le_div_iff_mul_le g1] at hroom; omega
                                  obtain ⟨hnf, hown⟩ := hb.own hf
                                  have hsz := hb.size
                                  have hst := run_storeNF (P := P) q.1 (n * i.size) kb.ty ff us 0 cc w hb.at_ (by rw [hsz]; exact hnf) (by omega) (denL_isCell u1 c5)
                                  rw [Nat.add_zero] at hst
                                  have hwc := write_cells hb.cells u1 (off := n * i.size) (by omega) (by omega)
                                  have hnew : writeC kb.cs (n * i.size) news = kb.cs ++ news := by
                                    unfold writeC
                                    rw [List.take_of_length_le (by omega), List.drop_eq_nil_of_le (by omega), List.append_nil]
                                  rw [hnew] at hwc
                                  obtain ⟨k4, k5⟩ := h.move (w' := w.setRow q.1 (cc.toList.take (n * i.size) ++ us ++ cc.toList.drop (n * i.size + us.length)).toArray) hkb hq hf (k' := ⟨et, kb.cs ++ news, false, false⟩) f3.symm (setRow_heap w q.1 cc _ kb.ty ff hb.at_) (by simp; omega) (fun x hx => setRow_other w q.1 x _ hx) (by simp) (fun e => by cases e) hnf hwc
                                  have := run_app_in (P := P) w o.type hu hd2 hd hi (base := some ⟨q.1, 0, none⟩) (sLen := n) (sCap := (q.2 - 0) / i.size) (u3 w rfl).1 (u3 w rfl).2 hroom (fun b hb => by cases hb; rw [XE.add_mk, Nat.zero_add]; exact hst) (fun e => by cases e)
                                  refine ⟨_, _, _, _, fin (by rw [e1]; exact this), .inl rfl, ?_, k4, k5⟩
                                  exact sl_den (r := q) (by simp [upd]) g1 (by omega) g3
                                · obtain ⟨w', u, ρ', m1, m2, m3, m4⟩ := grow_ok (P := P) (h.kill b) o.type hu hd2 hd hi hz c2 c1 o1 o2 o4 u1 u2 u3 (by omega) d3 c4 (by omega)
                                  rw [← e1] at m1
                                  exact ⟨_, u, w', ρ', fin m1, .inl rfl, m2, m3, m4⟩
                    · cases he
              · cases he
          · cases he
        · cases he
    · cases he
  · cases he
end
end Go.XR
