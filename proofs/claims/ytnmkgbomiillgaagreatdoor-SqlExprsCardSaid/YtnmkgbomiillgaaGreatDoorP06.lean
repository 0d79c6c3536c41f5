/- Part 6 of the proof. -/
import Derived.Test.YtnmkgbomiillgaaGreatDoorP05
import Derived.Great.FillDense
import Derived.Great.BuildSlice
/- Operations, part L: conversions, slices of literals. -/
namespace Go.XE
section
variable {P : Program} {G : Nat → Option GV} {Γ : Env} {m : Mem} {s s' : St} {a : Act}

theorem foldl_push : ∀ (l : List Int) (r : ByteArray), l.foldl (fun r n => r.push (UInt8.ofNat n.toNat)) r = ⟨r.data ++ (l.map fun n => UInt8.ofNat n.toNat).toArray⟩
  | [], r => by simp
  | b :: l, r => by
    simp only [List.map_cons, List.foldl_cons]
    rw [foldl_push l]
    simp [ByteArray.push]
/-- A slice of bytes, looked at. -/
theorem peekBytes {vars : Nat} {tm : Array Value} (r : Rel P G vars m s tm) {V : V} {xs : List Int} {v : Value} (h : runR (peekD V) s = some (⟨.sl (.int .u8), xs⟩, s')) (hv : RV P m V v) :
    Same s s' ∧ ∃ p cap, v = .slice p xs.length cap ∧ (p = none → xs = []) ∧ ∀ ad, p = some ad → (0 < xs.length → ad.spot = none) ∧ ∀ (i : Nat) (y : Int), xs[i]? = some y → m.w.cell? ⟨ad.block, ad.off + i, none⟩ = some (.int .u8 y) := by
  cases V with
  | dat e p =>
    obtain ⟨h1, rfl⟩ := ret_inv h
    subst h1
    obtain ⟨p, cap, h2, h3, h4, h5⟩ := RepV.sl_inv (show RepV m.w m.C (.sl (.int .u8)) xs v from hv)
    refine ⟨.refl _, p, cap, h2, fun hp => List.length_eq_zero_iff.1 (by have := h4 hp; have h6 : xs.length ≤ cap := h3; omega), fun ad had => ⟨fun h => (h5 ad had).1 (by have h6 : xs.length ≤ cap := h3; omega), fun i y hy => ?_⟩⟩
    obtain ⟨us, g1, _, g3⟩ := (h5 ad had).2 i y hy
    have : us = [.int .u8 y] := g3
    subst this
    have := g1 0 _ rfl
    simpa [Ty.size] using this
  | own i =>
    simp only [peekD] at h
    obtain ⟨ob, s1, h1, h2⟩ := bind_inv h
    obtain ⟨h3, k1⟩ := getO_inv h1
    cases ob with
    | arr e ys fr =>
      obtain ⟨h4, rfl⟩ := ret_inv h2
      have h5 : Ty.int .u8 = e := by
        have := congrArg D.T h4
        simpa using this
      subst h5
      have h6 : xs = ys := by simpa using h4
      subst h6
      obtain ⟨hu, hs⟩ := hv
      obtain ⟨_, g1, g2, g3, g4, g5, g6, cur, et, g7, g8, g9⟩ := r.objs i _ h3
      rw [g2] at hs
      refine ⟨k1, _, _, hs, fun h => (by cases h), fun ad had => ?_⟩
      cases had
      refine ⟨fun _ => rfl, fun j y hy => ?_⟩
      obtain ⟨us, c1, c2⟩ := g9 j y hy
      have : us = [.int .u8 y] := c2
      subst this
      have := c1 0 _ rfl
      simpa [Ty.size] using this
    | _ => exact (fail_inv h2).elim
  | kb b => obtain ⟨h1, _⟩ := ret_inv h; cases h1
  | _ => exact (fail_inv h).elim
theorem peek_same {V : V} {d : D} (h : runR (peekD V) s = some (d, s')) : Same s s' := by
  cases V with
  | dat e p => obtain ⟨_, rfl⟩ := ret_inv h; exact .refl _
  | own i =>
    simp only [peekD] at h
    obtain ⟨ob, s1, h1, h2⟩ := bind_inv h
    obtain ⟨h3, k1⟩ := getO_inv h1
    split at h2
    · obtain ⟨_, rfl⟩ := ret_inv h2; exact k1
    · exact (fail_inv h2).elim
  | kb b => obtain ⟨_, rfl⟩ := ret_inv h; exact .refl _
  | _ => exact (fail_inv h).elim
theorem peek_dat {V : V} {d : D} {v : Value} (h : runR (peekD V) s = some (d, s')) (hv : RV P m V v) (hd : ∀ e, d.T ≠ .sl e) : RepV m.w m.C d.T d.x v := by
  cases V with
  | dat e p => obtain ⟨rfl, rfl⟩ := ret_inv h; exact hv
  | own i =>
    simp only [peekD] at h
    obtain ⟨ob, s1, h1, h2⟩ := bind_inv h
    split at h2
    · obtain ⟨rfl, _⟩ := ret_inv h2; exact absurd rfl (hd _)
    · exact (fail_inv h2).elim
  | kb b =>
    obtain ⟨rfl, rfl⟩ := ret_inv h
    have : v = .bool b := hv
    subst this
    exact RepV.bool b
  | _ => exact (fail_inv h).elim
theorem convert_ok (hΓ : GOk P G Γ) (r : Rel P G Γ.vars m s a.tmps) {o : Oper} {nid : Nat} {t1 t2 : TypeId} {x : Operand} (ho : o.op = .convert t1 t2 x) {u : Unit} (h : runR (evOp Γ o nid) s = some (u, s')) : Goes P G Γ.vars nid m s' o a := by
  simp only [evOp, ho] at h
  obtain ⟨V, s1, h1, h2⟩ := bind_inv h
  obtain ⟨k1, k2, k2'⟩ := opnd_ok hΓ r h1
  have r1 := r.same k1
  obtain ⟨d, s2, h3, h4⟩ := bind_inv h2
  have k3 := peek_same h3
  have r2 := r1.same k3
  obtain ⟨_, s3, h5, h6⟩ := bind_inv h4
  obtain ⟨ht1, rfl⟩ := chkT_inv hΓ h5
  obtain ⟨T, s4, h7, h8⟩ := bind_inv h6
  obtain ⟨h9, rfl⟩ := lift_inv h7
  have ht2 := hΓ.τ t2 T h9
  split at h8
  · rename_i j n k
    have hx := RepV.int_eq (peek_dat h3 k2 fun e h => by cases h)
    obtain ⟨du, hu1, _⟩ := ht1.under
    exact fin0 r2 (v := .int k (k.wrap n)) (by simp [execOp, ho, hx, convert, run_underlying hu1, run_underlying ht2.2, Conv.intToInt]) h8 (V := ofD ⟨.int k, k.wrap n⟩) (RepV.int _ _) fun _ _ e => by cases e
  · rename_i xs
    obtain ⟨_, s5, g1, g2⟩ := bind_inv h8
    obtain ⟨g3, rfl⟩ := need_inv g1
    have hx := RepV.str_eq (peek_dat h3 k2 fun e h => by cases h)
    obtain ⟨et, d1, d2, d3⟩ := ht2.2
    have hrun := run_bytes_of_string (P := P) m.w t1 t2 et ⟨xs.toArray⟩ ht1.2 d1 d3.2
    have hsz : (⟨xs.toArray⟩ : ByteArray).size = xs.length := by simp [ByteArray.size_mk']
    have hge := grownCap_ge m.w (⟨xs.toArray⟩ : ByteArray).size 0 et
    generalize grownCap m.w (⟨xs.toArray⟩ : ByteArray).size 0 et = gc at hrun hge
    rw [hsz] at hge
    generalize hw : m.w.drew.alloc (.cells (bytesRow ⟨xs.toArray⟩ gc) et ((bytesRow ⟨xs.toArray⟩ gc).size, (bytesRow ⟨xs.toArray⟩ gc).size + 1)) = w' at hrun
    have hw' : w'.heap = m.w.heap.push (Go.Obj.cells (bytesRow ⟨xs.toArray⟩ gc) et ((bytesRow ⟨xs.toArray⟩ gc).size, (bytesRow ⟨xs.toArray⟩ gc).size + 1)) ∧ w'.os = m.w.os ∧ w'.output = m.w.output := by rw [← hw]; exact ⟨rfl, rfl, rfl⟩
    have hb : w'.heap[m.w.heap.size]? = some (Go.Obj.cells (bytesRow ⟨xs.toArray⟩ gc) et ((bytesRow ⟨xs.toArray⟩ gc).size, (bytesRow ⟨xs.toArray⟩ gc).size + 1)) := by rw [hw'.1]; simp
    have f := Fr.alloc m hw' .no fun j => j < xs.length
    have r3 := r2.alloc hw' .no fun j => j < xs.length
    refine fin f (fun _ h => .inl h) r3 (v := .slice (some ⟨m.w.heap.size, 0, none⟩) xs.length gc) ?_ g2 (V := ofD ⟨.sl (.int .u8), (xs.map fun b : UInt8 => ((b.toNat : Nat) : Int) : List Int)⟩) ?_ noTips fun _ _ _ e => by cases e
    · rw [hsz] at hrun
      simp [execOp, ho, hx, hrun]
      rfl
    · refine .inr ⟨rfl, some ⟨m.w.heap.size, 0, none⟩, gc, ?_, ?_, fun h => (by cases h), fun ad had => ?_⟩
      · show _ = [Value.slice _ (List.length (α := Int) (xs.map _)) gc]
        rw [List.length_map]
      · show List.length (α := Int) (xs.map _) ≤ gc
        rw [List.length_map]; exact hge
      · cases had
        refine ⟨fun _ => rfl, fun i y hy => ⟨[.int .u8 y], fun j v hj => ?_, fun j hj => .inr ⟨rfl, ?_⟩, rfl⟩⟩
        · have hj0 : j = 0 := by have := (List.getElem?_eq_some_iff.1 hj).1; simp at this; exact this
          subst hj0
          simp at hj
          subst hj
          show w'.cell? _ = _
          rw [cell_of_row _ _ _ _ _ _ hb]
          have hlt : i < xs.length := by
            have : i < List.length (α := Int) (xs.map fun b : UInt8 => ((b.toNat : Nat) : Int)) := (List.getElem?_eq_some_iff.1 hy).1
            rwa [List.length_map] at this
          have hy' : y = ((xs[i].toNat : Nat) : Int) := by
            have : (xs.map fun b : UInt8 => ((b.toNat : Nat) : Int))[i]? = some y := hy
            simp [hlt] at this
            exact this.symm
          have e1 : 0 + i * (Ty.int .u8).size + 0 = i := by simp [Ty.size]
          show (bytesRow ⟨xs.toArray⟩ gc)[0 + i * (Ty.int .u8).size + 0]? = _
          rw [e1, bytesRow, Array.getElem?_append_left (by simpa using hlt), hy']
          simp [hlt]
        · have hlt : i < xs.length := by
            have : i < List.length (α := Int) (xs.map fun b : UInt8 => ((b.toNat : Nat) : Int)) := (List.getElem?_eq_some_iff.1 hy).1
            rwa [List.length_map] at this
          simp [Ty.size] at hj ⊢
          omega
  · rename_i xs
    obtain ⟨_, p, cap, g1, g2, g3⟩ := peekBytes r1 h3 k2
    obtain ⟨et, d1, d2, d3⟩ := ht1.2
    have hrun : (convert t1 t2 (a.eval x)).run P m.w = .ok (.string ⟨(xs.map fun n : Int => UInt8.ofNat n.toNat).toArray⟩) m.w := by
      rw [g1, run_convert_bytes_string m.w t1 t2 et p _ cap d1 d3.2 ht2.2]
      cases p with
      | none => rw [g2 rfl]; simp [Conv.bytesToString]; rfl
      | some ad =>
        obtain ⟨g4, g5⟩ := g3 ad rfl
        have hl := run_loadCells_list (P := P) m.w ad (xs.map (Value.int .u8)) (fun j v hj => by
          rw [List.getElem?_map] at hj
          cases hq : xs[j]? with
          | none => rw [hq] at hj; cases hj
          | some y =>
            rw [hq] at hj; cases hj
            rw [addr_eta (g4 (by have := (List.getElem?_eq_some_iff.1 hq).1; omega)), add_mk]
            exact g5 j y hq)
        rw [List.length_map] at hl
        rw [run_bytesToString m.w ad xs.length cap xs hl, foldl_push]
        simp
    exact fin0 r2 (v := .string ⟨(xs.map fun n : Int => UInt8.ofNat n.toNat).toArray⟩) (by simp [execOp, ho, hrun]) h8 (V := ofD ⟨.str, xs.map fun n : Int => UInt8.ofNat n.toNat⟩) (RepV.str _) fun _ _ e => by cases e
  · exact (fail_inv h8).elim
end
end Go.XE
/- Operations, part M: literals of slices and structs. -/
namespace Go.XE
section
variable {P : Program} {G : Nat → Option GV} {Γ : Env} {m : Mem} {s s' : St} {a : Act}

/-- A new row of our own, all its elements cold. -/
theorem newRow_ok {vars : Nat} {tm : Array Value} (r : Rel P G vars m s tm) {w' : World} {cells : Array Value} {et : TypeId} (hw : w'.heap = m.w.heap.push (Go.Obj.cells cells et (0, 0)) ∧ w'.os = m.w.os ∧ w'.output = m.w.output) {e : Ty} {xs : List (den e)} {row : List Value} {N cap : Nat}
    (hN : xs.length = N) (hrow : ∀ (j : Nat) v, row[j]? = some v → cells[j]? = some v) (hreps : ∀ (i : Nat) y, xs[i]? = some y → Rep m.w m.C e y ((row.drop (i * e.size)).take e.size)) (hcap : N ≤ cap) (hsz : cap * e.size ≤ cells.size) :
    Rel P G vars (m.alloc w' (.fl 0 0) fun j => j < N * e.size) s tm ∧ Fr m (m.alloc w' (.fl 0 0) fun j => j < N * e.size) ∧
      RepV w' (m.alloc w' (.fl 0 0) fun j => j < N * e.size).C (.sl e) xs (.slice (some ⟨m.w.heap.size, 0, none⟩) N cap) ∧ TipAt (m.alloc w' (.fl 0 0) fun j => j < N * e.size) (.fl 0 0) e (.slice (some ⟨m.w.heap.size, 0, none⟩) N cap) := by
  have f := Fr.alloc m hw (.fl 0 0) fun j => j < N * e.size
  have hb : w'.heap[m.w.heap.size]? = some (Go.Obj.cells cells et (0, 0)) := by rw [hw.1]; simp
  refine ⟨r.alloc hw _ _, f, row_rep (row := row) hN hcap (fun j v hj => ?_) (fun j hj => .inr ⟨rfl, hj⟩) fun i y hy => f.to.rep (hreps i y hy), .inr ⟨m.w.heap.size, _, _, cells, et, rfl, ?_, hb, hcap, hsz, fun j hj => ⟨fun hc => ?_, fun hk => ?_⟩⟩⟩
  · rw [cell_of_row _ _ _ _ _ _ hb, Nat.zero_add]
    exact hrow j v hj
  · show (if _ then _ else _) = _
    rw [if_pos rfl]
  · rcases hc with hc | ⟨_, hc⟩
    · have := r.bC _ _ hc; omega
    · omega
  · have := r.bK _ _ hk; omega
theorem buildL_ok (hΓ : GOk P G Γ) {vars : Nat} {e : Ty} : ∀ {ps : List (Nat × Operand)} {n : Nat} {m : Mem} {s s' : St} {ys : List (den e)}, Rel P G vars m s a.tmps → runR (buildL Γ e ps n) s = some (ys, s') →
    ∃ m1, Quiet m m1 ∧ Rel P G vars m1 s' a.tmps ∧ ps.map (fun q => (q.1, a.eval q.2)) = ((ps.map fun q => a.eval q.2).zipIdx n).map (fun x => (x.2, x.1)) ∧ ys.length = ps.length ∧
      ∀ (i : Nat) y v, ys[i]? = some y → (ps.map fun q => a.eval q.2)[i]? = some v → RepV m1.w m1.C e y v
  | [], n, m, s, s', ys, r, h => by
    obtain ⟨rfl, rfl⟩ := ret_inv h
    exact ⟨m, .refl m, r, rfl, rfl, fun i y v h => by cases h⟩
  | (j, x) :: ps, n, m, s, s', ys, r, h => by
    simp only [buildL] at h
    cases hj : Nat.beq j n with
    | false => rw [hj] at h; exact (fail_inv h).elim
    | true =>
      have := Nat.eq_of_beq_eq_true hj
      subst this
      simp only [hj, cond_true] at h
      obtain ⟨V, s1, h1, h2⟩ := bind_inv h
      obtain ⟨k1, k2, k2'⟩ := opnd_ok hΓ r h1
      obtain ⟨y, s2, h3, h4⟩ := bind_inv h2
      obtain ⟨m1, q1, r2, hy, e1, e2, e3, e4⟩ := asT_ok (r.same k1) h3 k2
      obtain ⟨ys', s3, h5, h6⟩ := bind_inv h4
      obtain ⟨rfl, rfl⟩ := ret_inv h6
      obtain ⟨m2, q2, r3, g1, g2, g3⟩ := buildL_ok hΓ r2 h5
      refine ⟨m2, q1.trans q2, r3, by simp [g1, List.zipIdx_cons], by simp [g2], fun i z v hz hv => ?_⟩
      cases i with
      | zero =>
        simp at hz hv
        subst hz
        subst hv
        exact q2.fr.to.repV hy
      | succ i => exact g3 i z v (by simpa using hz) (by simpa using hv)
theorem buildSlice_ok (hΓ : GOk P G Γ) (r : Rel P G Γ.vars m s a.tmps) {o : Oper} {nid : Nat} {t : TypeId} {n : Nat} {ps : Array (Nat × Operand)} (ho : o.op = .buildSlice t n ps) {u : Unit} (h : runR (evOp Γ o nid) s = some (u, s')) : Goes P G Γ.vars nid m s' o a := by
  simp only [evOp, ho] at h
  obtain ⟨T, s1, h1, h2⟩ := bind_inv h
  obtain ⟨h3, rfl⟩ := lift_inv h1
  have ht := hΓ.τ t T h3
  cases T with
  | sl e =>
    simp only at h2
    cases hc : (Nat.beq n ps.toList.length && Nat.ble (n * e.size) 16777216 && Nat.blt 0 e.size) with
    | false => rw [hc] at h2; exact (fail_inv h2).elim
    | true =>
      simp only [hc, cond_true] at h2
      simp only [Bool.and_eq_true, Nat.ble_eq, Nat.blt_eq] at hc
      obtain ⟨⟨c1, c2⟩, c3⟩ := hc
      replace c1 := Nat.eq_of_beq_eq_true c1
      obtain ⟨ys, s2, h4, h5⟩ := bind_inv h2
      obtain ⟨m1, q1, r2, g1, g2, g3⟩ := buildL_ok hΓ r h4
      obtain ⟨et, d1, d2, d3⟩ := ht.2
      have d3' : TyOk P et e := d3
      obtain ⟨i0, b1, b2, b3, b4⟩ := d3'.base
      have hvs : ∀ v ∈ ps.toList.map fun q => a.eval q.2, v.cells.size = e.size := fun v hv => by
        obtain ⟨i, hi, rfl⟩ := List.mem_iff_getElem.1 hv
        have hi' : i < ys.length := by rw [g2]; simpa using hi
        have h9 := (Rep.cells (g3 i ys[i] _ (by simp [hi']) (List.getElem?_eq_getElem hi))).len
        rwa [Array.length_toList] at h9
      have hlen : ys.length = n := by rw [g2]; exact c1.symm
      have fin9 : ∀ (cells : Array Value), cells.toList = (ps.toList.map fun q => a.eval q.2).flatMap (fun v => v.cells.toList) → (Instr.buildSlice t n (ps.map fun q => (q.1, a.eval q.2))).run P m.w = .ok (.slice (some ⟨m.w.heap.size, 0, none⟩) n n) (newW m.w cells et) → Goes P G Γ.vars nid m s' o a := fun cells hcells hrun => by
        have hflat : ∀ (vs : List Value) (ys : List (den e)), vs.length = ys.length → (∀ (i : Nat) y v, ys[i]? = some y → vs[i]? = some v → RepV m1.w m1.C e y v) → (vs.flatMap fun v => v.cells.toList).length = ys.length * e.size ∧ ∀ (i : Nat) y, ys[i]? = some y → Rep m1.w m1.C e y (((vs.flatMap fun v => v.cells.toList).drop (i * e.size)).take e.size) := fun vs => by
          induction vs with
          | nil => intro ys hl _; simp at hl; have : ys = [] := List.length_eq_zero_iff.1 hl.symm; subst this; exact ⟨by simp, fun i y h => by cases h⟩
          | cons v vs ih =>
            intro ys hl hr
            cases ys with
            | nil => simp at hl
            | cons y ys =>
              obtain ⟨i1, i2⟩ := ih ys (by simpa using hl) fun i y v hy hv => hr (i + 1) y v (by simpa using hy) (by simpa using hv)
              have h0 := Rep.cells (hr 0 y v rfl rfl)
              refine ⟨by rw [List.flatMap_cons, List.length_append, h0.len, i1, List.length_cons, Nat.succ_mul, Nat.add_comm], fun i z hz => ?_⟩
              rw [List.flatMap_cons]
              cases i with
              | zero => simp at hz; subst hz; simpa [← h0.len] using h0
              | succ i =>
                rw [Nat.succ_mul, Nat.add_comm, take_drop_append _ _ _ _ h0.len]
                exact i2 i z (by simpa using hz)
        obtain ⟨f1, f2⟩ := hflat (ps.toList.map fun q => a.eval q.2) ys (by rw [g2]; simp) g3
        rw [← hcells] at f1 f2
        obtain ⟨r3, fr, hrep, htip⟩ := newRow_ok r2 (w' := newW m.w cells et) (cells := cells) (et := et) (by rw [q1.w]; exact ⟨rfl, rfl, rfl⟩) (row := cells.toList) hlen (fun j v hj => by simpa using hj) f2 (Nat.le_refl n) (by
          have : cells.size = ys.length * e.size := by rw [← f1]; simp
          rw [this, hlen]; exact Nat.le_refl _)
        have hst : (m1.alloc (newW m.w cells et) (.fl 0 0) fun j => j < n * e.size).w = newW m.w cells et := rfl
        refine fin (q1.fr.trans fr) (fun id hid => .inl (by rw [← q1.U]; exact hid)) r3 (v := .slice (some ⟨m1.w.heap.size, 0, none⟩) n n) ?_ h5 (V := ofD ⟨.sl e, ys⟩) hrep (fun D hD off hoff e' he' => ?_) fun _ _ _ e => by cases e
        · rw [hst]
          simp only [execOp, ho, Sem.run_bind]
          have hrun' : (Instr.buildSlice t n (ps.map fun (x : Nat × Operand) => match x with | (i, x) => (i, a.eval x))).run P m.w = _ := hrun
          rw [hrun', q1.w]
          rfl
        · simp [datOf, ofD] at hD
          subst hD
          simp at hoff
          subst hoff
          simp [tipTy] at he'
          subst he'
          exact ⟨_, rfl, htip⟩
      by_cases hn0 : n = 0
      · subst hn0
        have hps : ps.toList = [] := List.length_eq_zero_iff.1 c1.symm
        have hps' : ps = #[] := by apply Array.ext'; simpa using hps
        refine fin9 #[] (by rw [hps]; rfl) ?_
        have hr0 : Array.range 0 = #[] := rfl
        simp [Instr.buildSlice, run_underlying d1, run_sizeOf d3', hps', Instr.fill, newRow, newObj, Sem.run, newW, hr0]
      · have hfill := Great.fill_whole c3 (ps.toList.map fun q => a.eval q.2) ((Array.range (n * e.size)).map ((zeroV e).cells[· % (zeroV e).cells.size]!)) hvs (by simp [c1])
        have hrun := run_buildSlice (P := P) m.w t et n (ps.map fun q => (q.1, a.eval q.2)) _ i0 (zeroV e) d1 b1 b4 (by rw [b2]; omega) (by rw [b2]; have := Nat.mul_pos (Nat.pos_of_ne_zero hn0) c3; omega) (by rw [b2, Array.toList_map, g1]; exact hfill)
        exact fin9 _ (by simp) hrun
  | _ => exact (fail_inv h2).elim
end
end Go.XE
/- Operations, part N: literals of structs; all operations but calls. -/
namespace Go.XE
section
variable {P : Program} {G : Nat → Option GV} {Γ : Env} {m : Mem} {s s' : St} {a : Act}

theorem places_ok : ∀ {T : Ty} {off : Nat} {fs : List Field}, (TyQ P T).2 off fs → ∃ places, fs.mapM (fun f => (P.info? f.type).map fun i => (f.offset, i.size)) = some places ∧
    ∀ j o U, fieldOff T j = some (o, U) → places[j]? = some (off + o, U.size)
  | .unit, off, fs, h => by
    have : fs = [] := h
    subst this
    exact ⟨[], rfl, fun j o U h => by simp [fieldOff] at h⟩
  | .pair a b, off, fs, h => by
    obtain ⟨f, r, rfl, h1, h2, h3, h4⟩ := h
    obtain ⟨ps, k1, k2⟩ := places_ok h4
    obtain ⟨i0, b1, b2, _⟩ := TyOk.base (P := P) (T := a) (t := f.type) h3
    refine ⟨(f.offset, i0.size) :: ps, by simp [b1, k1], fun j o U hj => ?_⟩
    cases j with
    | zero =>
      simp [fieldOff] at hj
      obtain ⟨rfl, rfl⟩ := hj
      simp [h1, b2]
    | succ j =>
      simp only [fieldOff] at hj
      split at hj
      · rename_i q t hq
        simp at hj
        obtain ⟨rfl, rfl⟩ := hj
        have := k2 j _ _ hq
        simp [this]; omega
      · cases hj
  | .int _, _, _, h => h.elim
  | .bool, _, _, h => h.elim
  | .str, _, _, h => h.elim
  | .sl _, _, _, h => h.elim
theorem fill_step (place : Nat → Option (Nat × Nat)) (cells : Array Value) (j : Nat) (v : Value) (rest : List (Nat × Value)) (off n : Nat) (hp : place j = some (off, n)) (hn : v.cells.size = n) (hle : off + n ≤ cells.size) :
    ∃ cells' : Array Value, Instr.fill place cells ((j, v) :: rest) = Instr.fill place cells' rest ∧ cells'.toList = cells.toList.take off ++ v.cells.toList ++ cells.toList.drop (off + n) := by
  obtain ⟨g1, g2⟩ := Great.foldl_set off v.cells.toList 0 cells
  refine ⟨(v.cells.toList.zipIdx 0).foldl (fun cs (x : Value × Nat) => cs.setIfInBounds (off + x.2) x.1) cells, ?_, ?_⟩
  · conv => lhs; unfold Instr.fill
    simp only [hp]
    rw [if_neg (by simp [hn]; omega)]
    congr 1
    rw [← Array.toList_zipIdx, Array.foldl_toList]
  · apply List.ext_getElem?
    intro k
    rw [splice_get cells.toList v.cells.toList off n (by simp [hn]) (by simpa using hle)]
    rw [Array.getElem?_toList, g2 k, Array.getElem?_toList]
    simp only [Array.length_toList, hn, Nat.add_zero]
    by_cases h : off ≤ k ∧ k < off + n
    · rw [if_pos ⟨h.1, h.2, by omega⟩, if_pos h]
      try simp
    · rw [if_neg (by omega), if_neg h]
      try simp
def toFl1 (q : Nat) : Lab → Lab
  | .fl 0 off => .fl 1 (q + off)
  | l => l
def toFl0 : Lab → Lab
  | .fl 1 off => .fl 0 off
  | l => l
theorem buildD_ok (hΓ : GOk P G Γ) {vars : Nat} {T : Ty} {place : Nat → Option (Nat × Nat)} (hplace : ∀ j o U, fieldOff T j = some (o, U) → place j = some (o, U.size)) :
    ∀ {ps : List (Nat × Operand)} {m : Mem} {s s' : St} {d : D} {ts : List Nat} {cells : Array Value} {res : D × List Nat}, Rel P G vars m s a.tmps → d.T = T → Rep m.w m.C d.T d.x cells.toList → TipsAt m (.fl 1) T cells.toList ts →
      runR (buildD Γ T ps d ts) s = some (res, s') →
      ∃ (m1 : Mem) (cells' : Array Value), m1.w = m.w ∧ Fr m m1 ∧ m1.U = m.U ∧ Rel P G vars m1 s' a.tmps ∧ Instr.fill place cells (ps.map fun q => (q.1, a.eval q.2)) = some cells' ∧ res.1.T = T ∧ Rep m1.w m1.C res.1.T res.1.x cells'.toList ∧ TipsAt m1 (.fl 1) T cells'.toList res.2
  | [], m, s, s', d, ts, cells, res, r, hd, hr, ht, h => by
    obtain ⟨rfl, rfl⟩ := ret_inv h
    exact ⟨m, cells, rfl, .refl m, rfl, r, rfl, hd, hr, ht⟩
  | (j, x) :: ps, m, s, s', d, ts, cells, res, r, hd, hr, ht, h => by
    simp only [buildD] at h
    obtain ⟨V, s1, h1, h2⟩ := bind_inv h
    obtain ⟨k1, k2, k2'⟩ := opnd_ok hΓ r h1
    obtain ⟨q, s2, h3, h4⟩ := bind_inv h2
    obtain ⟨h5, rfl⟩ := lift_inv h3
    obtain ⟨y, s3, h6, h7⟩ := bind_inv h4
    obtain ⟨m1, q1, r2, hy, e1, e2, e3, e4⟩ := asT_ok (r.same k1) h6 k2
    obtain ⟨us, s4, h8, h9⟩ := bind_inv h7
    obtain ⟨m2, q2, r3, e5, e6, e7, e8, f1⟩ := takeTips_ok r2 h8
    obtain ⟨d', s5, h10, h11⟩ := bind_inv h9
    obtain ⟨h12, rfl⟩ := lift_inv h10
    have hl : ∀ l, Live s5 l → toFl1 q.1 l = l := fun l h => by cases l <;> first | rfl | exact h.elim
    have f3 : Fr m2 (m2.relabel (toFl1 q.1)) := .relabel m2 rfl
    have r4 := r3.relabel (ρ := toFl1 q.1) rfl hl
    have fr := (q1.fr.trans q2.fr).trans f3
    have hw : (m2.relabel (toFl1 q.1)).w = m.w := q2.w.trans q1.w
    have hy3 : RepV (m2.relabel (toFl1 q.1)).w (m2.relabel (toFl1 q.1)).C q.2 y (a.eval x) := q2.fr.to.repV hy
    obtain ⟨hyc, htc⟩ := RepV.tcells hy3
    have hvs : (a.eval x).cells.size = q.2.size := by
      have := hyc.len
      rw [htc, Array.length_toList] at this
      exact this
    have hle : q.1 + q.2.size ≤ cells.size := by
      have := fieldOff_le h5
      have hl := hr.len
      rw [Array.length_toList, hd] at hl
      omega
    obtain ⟨cells', g1, g2⟩ := fill_step place cells j (a.eval x) (ps.map fun q => (q.1, a.eval q.2)) q.1 q.2.size (hplace j q.1 q.2 h5) hvs hle
    obtain ⟨hdT, o', c1, c2⟩ := Rep.setp h12 (fr.to.rep hr) (us := tcells (a.eval x)) hyc
    have e10 : o' = q.1 := by
      simp only [pathOff, hd, h5] at c1
      have := congrArg Prod.fst (Option.some.inj c1)
      simpa using this.symm
    subst e10
    rw [htc, ← g2] at c2
    have ht' : TipsAt (m2.relabel (toFl1 q.1)) (.fl 1) T cells'.toList (outRange q.1 q.2.size ts ++ shiftN q.1 (inRange 0 q.2.size (tipsFor V us))) := fun off hoff e he => by
      rw [g2]
      rcases List.mem_append.1 hoff with hoff | hoff
      · obtain ⟨hoff, hno⟩ := mem_outRange.1 hoff
        obtain ⟨v, c3, c4⟩ := ht off hoff e he
        refine ⟨v, ?_, (q2.tip _ _ _ _ (q1.tip _ _ _ _ c4)).relabel (ρ := toFl1 q.1)⟩
        rw [splice_get _ _ _ _ (by simp [hvs]) (by simpa using hle), if_neg hno]
        exact c3
      · obtain ⟨k, hk, rfl⟩ := mem_shiftN.1 hoff
        obtain ⟨hk1, hk2⟩ := mem_inRange.1 hk
        rw [Nat.zero_add] at hk1
        rw [tipTy_fieldEq h5 hk2] at he
        have tip : ∃ v, (tcells (a.eval x))[k]? = some v ∧ TipAt m2 (.fl 0 k) e v := by
          rcases e4 with ⟨rfl, hx⟩ | ⟨p', rfl⟩ | hdn
          · simp [tipsFor] at hk1
            subst hk1
            rw [hx]
            exact ⟨_, rfl, .inl rfl⟩
          · cases x with
            | tmp t0 => exact f1 t0 rfl ⟨q.2, y⟩ (by rw [e1, k1.slots, ← k2' t0 rfl]; rfl) k hk1 e he
            | const c => simp only [takeTips] at h8; obtain ⟨rfl, _⟩ := ret_inv h8; cases hk1
            | global c => simp only [takeTips] at h8; obtain ⟨rfl, _⟩ := ret_inv h8; cases hk1
            | func c => simp only [takeTips] at h8; obtain ⟨rfl, _⟩ := ret_inv h8; cases hk1
          · cases V <;> first | (cases hk1; done) | (cases hdn; done) | (simp [tipsFor] at hk1; done) | skip
            have hx : a.eval x = .slice none 0 0 := k2
            simp [tipsFor] at hk1
            subst hk1
            rw [hx]
            exact ⟨_, rfl, .inl rfl⟩
        obtain ⟨v, c3, c4⟩ := tip
        refine ⟨v, ?_, c4.relabel (ρ := toFl1 q.1)⟩
        rw [splice_get _ _ _ _ (by simp [hvs]) (by simpa using hle), if_pos (by omega), show q.1 + k - q.1 = k by omega, ← htc]
        exact c3
    obtain ⟨m5, cells5, x1, x2, x3, x4, x5, x6, x7, x8⟩ := buildD_ok hΓ hplace r4 (hdT.trans hd) c2 ht' h11
    refine ⟨m5, cells5, x1.trans hw, fr.trans x2, x3.trans ?_, x4, ?_, x6, x7, x8⟩
    · show m2.U = m.U
      rw [q2.U, q1.U]
    · rw [List.map_cons, g1]; exact x5
theorem build_ok (hΓ : GOk P G Γ) (r : Rel P G Γ.vars m s a.tmps) {o : Oper} {nid : Nat} {t : TypeId} {ps : Array (Nat × Operand)} (ho : o.op = .build t ps) {u : Unit} (h : runR (evOp Γ o nid) s = some (u, s')) : Goes P G Γ.vars nid m s' o a := by
  simp only [evOp, ho] at h
  obtain ⟨T, s1, h1, h2⟩ := bind_inv h
  obtain ⟨h3, rfl⟩ := lift_inv h1
  have ht := hΓ.τ t T h3
  cases hst : T.isSt with
  | false => rw [hst] at h2; exact (fail_inv h2).elim
  | true =>
    simp only [hst, cond_true] at h2
    obtain ⟨res, s2, h4, h5⟩ := bind_inv h2
    obtain ⟨i0, b1, b2, b3, b4⟩ := ht.base
    have hfs : ∃ fs, P.underlying t = some (.struct fs) ∧ (TyQ P T).2 0 fs.toList := by
      cases T with
      | unit => obtain ⟨_, fs, h6, h7⟩ := ht; exact ⟨fs, h6, h7⟩
      | pair a b => obtain ⟨_, fs, h6, h7⟩ := ht; exact ⟨fs, h6, h7⟩
      | _ => cases hst
    obtain ⟨fs, h6, h7⟩ := hfs
    obtain ⟨places, p1, p2⟩ := places_ok h7
    obtain ⟨m1, cells', x1, x2, x3, x4, x5, x6, x7, x8⟩ := buildD_ok hΓ (place := fun j => places.toArray[j]?) (fun j o U hj => by simpa using p2 j o U hj) r (d := ⟨T, dflt T⟩) rfl (by rw [zeroV_cells]; exact zero_rep _ _ T)
      (fun off _ e he => ⟨_, by rw [zeroV_cells]; exact zero_tips T off e he, .inl rfl⟩) h4
    have hrun := run_build (P := P) m.w t (ps.map fun q => (q.1, a.eval q.2)) cells' (by simp only [Program.built, b1, h6, b4, p1, Array.toList_map]; exact x5)
    have hl : ∀ l, Live s2 l → toFl0 l = l := fun l h => by cases l <;> first | rfl | exact h.elim
    have f3 : Fr m1 (m1.relabel toFl0) := .relabel m1 rfl
    have r4 := x4.relabel (ρ := toFl0) rfl hl
    refine fin (x2.trans f3) (fun id hid => .inl (by rw [← x3]; exact hid)) r4 (v := .agg cells') ?_ h5 (V := ofD res.1) (.inl ⟨by rw [x6]; exact hst, cells', rfl, x7⟩) (fun D hD off hoff e he => ?_) fun _ _ _ e => by cases e
    · have hrun' : (Instr.build t (ps.map fun (x : Nat × Operand) => match x with | (i, x) => (i, a.eval x))).run P m.w = _ := hrun
      simp only [execOp, ho, Sem.run_bind]
      rw [hrun', ← x1]
      rfl
    · simp [datOf, ofD] at hD
      subst hD
      rw [x6] at he
      obtain ⟨v, c1, c2⟩ := x8 off hoff e he
      exact ⟨v, c1, c2.relabel (ρ := toFl0)⟩
end
end Go.XE
/- Calls: the state at a function's entry. -/
namespace Go.XE
section
variable {P : Program} {G : Nat → Option GV} {Γ : Env} {m : Mem} {s s' : St} {a : Act}

/-- What an operation must do: in the words of 'Oper.wp'. -/
def OpWp (P : Program) (G : Nat → Option GV) (vars nid : Nat) (m : Mem) (s' : St) (o : Oper) (a : Act) : Prop :=
  ∀ (K : Act → World → Prop) (Q : Exit → Act → World → Prop),
    (∀ v m', Rel P G vars m' s' (a.put o.dst v).tmps → Fr m m' → (∀ id, m'.U id → m.U id ∨ id = nid) → K (a.put o.dst v) m'.w) → o.wp P a m.w K Q
theorem Goes.wp {vars nid : Nat} {o : Oper} (h : Goes P G vars nid m s' o a) : OpWp P G vars nid m s' o a := fun K Q hK => by
  obtain ⟨n, v, m', h1, h2, h3, h4, h5⟩ := h
  unfold Oper.wp
  rw [h1]
  rcases h2 with rfl | ⟨rfl, rfl⟩
  · exact hK v m' h3 h4 h5
  · exact hK undef m' h3 h4 h5
/-- The entries of a shape: slot, value, tips. -/
def entries : (l : List (Nat × SK)) → slotsH l → List (Nat × V × List Nat)
  | [], _ => []
  | (n, .dat T ts) :: r, x => (n, .dat ⟨T, x.1⟩ none, ts) :: entries r x.2
  | (n, .rp T) :: r, x => (n, .rp ⟨T, x.1⟩, []) :: entries r x.2
  | (n, .pv T) :: r, x => (n, .pv ⟨T, x.1⟩, []) :: entries r x.2
  | (n, .bp i p T) :: r, x => (n, .bp i p T, []) :: entries r x
  | (n, .own i) :: r, x => (n, .own i, []) :: entries r x
  | (n, .fun1 A R) :: r, x => (n, .fun1 A R x.1, []) :: entries r x.2
  | (n, .fnb f cs) :: r, x => (n, .fn f (bpsV cs), []) :: entries r x
def setVs : List (Nat × V × List Nat) → List V → List V
  | [], v => v
  | (n, V, _) :: r, v => setV (setVs r v) n V
def setTs : List (Nat × V × List Nat) → List (List Nat) → List (List Nat)
  | [], v => v
  | (n, _, ts) :: r, v => setT (setTs r v) n ts
theorem fillV_eq : ∀ (l : List (Nat × SK)) (x : slotsH l) (v : List V), fillV l x v = setVs (entries l x) v
  | [], _, _ => rfl
  | (_, .dat _ _) :: r, x, v => by simp only [fillV, entries, setVs, fillV_eq r x.2 v]
  | (_, .rp _) :: r, x, v => by simp only [fillV, entries, setVs, fillV_eq r x.2 v]
  | (_, .pv _) :: r, x, v => by simp only [fillV, entries, setVs, fillV_eq r x.2 v]
  | (_, .bp _ _ _) :: r, x, v => by simp only [fillV, entries, setVs]; rw [fillV_eq r x v]
  | (_, .own _) :: r, x, v => by simp only [fillV, entries, setVs]; rw [fillV_eq r x v]
  | (_, .fun1 _ _) :: r, x, v => by simp only [fillV, entries, setVs, fillV_eq r x.2 v]
  | (_, .fnb _ _) :: r, x, v => by simp only [fillV, entries, setVs]; rw [fillV_eq r x v]
theorem fillT_eq : ∀ (l : List (Nat × SK)) (x : slotsH l) (v : List (List Nat)), fillTips l v = setTs (entries l x) v
  | [], _, _ => rfl
  | (_, .dat _ _) :: r, x, v => by simp only [fillTips, entries, setTs, SK.tips, fillT_eq r x.2 v]
  | (_, .rp _) :: r, x, v => by simp only [fillTips, entries, setTs, SK.tips, fillT_eq r x.2 v]
  | (_, .pv _) :: r, x, v => by simp only [fillTips, entries, setTs, SK.tips, fillT_eq r x.2 v]
  | (_, .bp _ _ _) :: r, x, v => by simp only [fillTips, entries, setTs, SK.tips]; rw [fillT_eq r x v]
  | (_, .own _) :: r, x, v => by simp only [fillTips, entries, setTs, SK.tips]; rw [fillT_eq r x v]
  | (_, .fun1 _ _) :: r, x, v => by simp only [fillTips, entries, setTs, SK.tips, fillT_eq r x.2 v]
  | (_, .fnb _ _) :: r, x, v => by simp only [fillTips, entries, setTs, SK.tips]; rw [fillT_eq r x v]
theorem length_setT : ∀ (l : List (List Nat)) (n : Nat) (x : List Nat), (setT l n x).length = l.length
  | [], _, _ => rfl
  | _ :: _, 0, _ => rfl
  | v :: r, n + 1, x => by simp [setT, length_setT r n x]
theorem length_setVs : ∀ (l : List (Nat × V × List Nat)) (v : List V), (setVs l v).length = v.length
  | [], _ => rfl
  | (n, V, ts) :: r, v => by simp only [setVs, length_setV, length_setVs r v]
theorem length_setTs : ∀ (l : List (Nat × V × List Nat)) (v : List (List Nat)), (setTs l v).length = v.length
  | [], _ => rfl
  | (n, V, ts) :: r, v => by simp only [setTs, length_setT, length_setTs r v]
theorem nth_set : ∀ (l : List (Nat × V × List Nat)) (v : List V) (t : List (List Nat)), v.length = t.length → ∀ n, (∃ V ts, (n, V, ts) ∈ l ∧ nthV (setVs l v) n = V ∧ nthT (setTs l t) n = ts) ∨ (nthV (setVs l v) n = nthV v n ∧ nthT (setTs l t) n = nthT t n)
  | [], v, t, _, n => .inr ⟨rfl, rfl⟩
  | (k, W, us) :: r, v, t, hl, n => by
    simp only [setVs, setTs, nthV_setV, nthT_setT, length_setVs, length_setTs, hl]
    by_cases h : n = k ∧ k < t.length
    · simp only [if_pos h]
      exact .inl ⟨W, us, by rw [h.1]; exact List.mem_cons_self, rfl, rfl⟩
    · simp only [if_neg h]
      rcases nth_set r v t hl n with ⟨V, ts, h1, h2, h3⟩ | h1
      · exact .inl ⟨V, ts, List.mem_cons_of_mem _ h1, h2, h3⟩
      · exact .inr h1
theorem nthV_replicate (n k : Nat) : nthV (List.replicate n .bot) k = .bot := by
  induction n generalizing k with
  | zero => rfl
  | succ n ih =>
    cases k with
    | zero => rfl
    | succ k => exact ih k
/-- The entries of objects. -/
def objEntries : (l : List (Nat × OK)) → den (objsX l) → List (Nat × Obj × List Nat)
  | [], _ => []
  | (i, .box T ts) :: r, x => (i, .box ⟨T, x.1⟩, ts) :: objEntries r x.2
  | (i, .vrp T) :: r, x => (i, .vrp ⟨T, x.1⟩, []) :: objEntries r x.2
  | (i, .vbp j q T) :: r, x => (i, .vbp j q T, []) :: objEntries r x
  | (i, .arr e) :: r, x => (i, .arr e x.1 false, []) :: objEntries r x.2
theorem look_fill : ∀ (l : List (Nat × OK)) (x : den (objsX l)) (id : Nat), (∃ o ts, (id, o, ts) ∈ objEntries l x ∧ lookObj id (fillObjs l x) = some o ∧ lookT id (fillOT l) = ts) ∨ (lookObj id (fillObjs l x) = none ∧ lookT id (fillOT l) = [])
  | [], _, _ => .inr ⟨rfl, rfl⟩
  | (i, .box T ts) :: r, x, id => by
    simp only [fillObjs, fillOT, lookObj, lookT, objEntries, OK.tips]
    cases h : Nat.beq i id with
    | true => have := Nat.eq_of_beq_eq_true h; subst this; exact .inl ⟨_, _, List.mem_cons_self, rfl, rfl⟩
    | false =>
      rcases look_fill r x.2 id with ⟨o, us, h1, h2⟩ | h1
      · exact .inl ⟨o, us, List.mem_cons_of_mem _ h1, h2⟩
      · exact .inr h1
  | (i, .vrp T) :: r, x, id => by
    simp only [fillObjs, fillOT, lookObj, lookT, objEntries, OK.tips]
    cases h : Nat.beq i id with
    | true => have := Nat.eq_of_beq_eq_true h; subst this; exact .inl ⟨_, _, List.mem_cons_self, rfl, rfl⟩
    | false =>
      rcases look_fill r x.2 id with ⟨o, us, h1, h2⟩ | h1
      · exact .inl ⟨o, us, List.mem_cons_of_mem _ h1, h2⟩
      · exact .inr h1
  | (i, .vbp j q T) :: r, x, id => by
    simp only [fillObjs, fillOT, lookObj, lookT, objEntries, OK.tips]
    cases h : Nat.beq i id with
    | true => have := Nat.eq_of_beq_eq_true h; subst this; exact .inl ⟨_, _, List.mem_cons_self, rfl, rfl⟩
    | false =>
      rcases look_fill r x id with ⟨o, us, h1, h2⟩ | h1
      · exact .inl ⟨o, us, List.mem_cons_of_mem _ h1, h2⟩
      · exact .inr h1
  | (i, .arr e) :: r, x, id => by
    simp only [fillObjs, fillOT, lookObj, lookT, objEntries, OK.tips]
    cases h : Nat.beq i id with
    | true => have := Nat.eq_of_beq_eq_true h; subst this; exact .inl ⟨_, _, List.mem_cons_self, rfl, rfl⟩
    | false =>
      rcases look_fill r x.2 id with ⟨o, us, h1, h2⟩ | h1
      · exact .inl ⟨o, us, List.mem_cons_of_mem _ h1, h2⟩
      · exact .inr h1
/-- A state of a given shape holds if its entries do. -/
theorem rel_st {vars : Nat} {tm : Array Value} {k : Skel} {x : k.H} (bC : ∀ b j, m.C b j → b < m.w.heap.size) (bK : ∀ b j, m.K b j → b < m.w.heap.size) (bL : ∀ b, m.L b ≠ .no → b < m.w.heap.size) (glob : ∀ g d, G g = some d → GAt m d g)
    (len : k.ntmps ≤ tm.size) (hs : ∀ n V ts, (n, V, ts) ∈ entries k.slots x.1 → RV P m V (tm.getD n undef) ∧ ∀ d, datOf V = some d → TipsAt m (.ts n) d.T (tcells (tm.getD n undef)) ts)
    (ho : ∀ id o ts, (id, o, ts) ∈ objEntries k.objs x.2 → m.U id ∧ ObjOk m id o ∧ ∀ d, o = .box d → ∀ off, off ∈ ts → ∀ e, tipTy d.T off = some e → ∃ v, m.w.cell? ⟨(m.ad id).b, (m.ad id).o + off, none⟩ = some v ∧ TipAt m (.to id off) e v) :
    Rel P G vars m (k.st x) tm := {
  bC := bC
  bK := bK
  bL := bL
  glob := glob
  len := by
    show (fillV k.slots x.1 _).length ≤ _
    rw [fillV_eq, length_setVs]
    simpa using len
  slots n := by
    show RV P m (nthV (fillV k.slots x.1 _) n) _
    rw [fillV_eq]
    rcases nth_set (entries k.slots x.1) (List.replicate k.ntmps .bot) (List.replicate k.ntmps []) (by simp) n with ⟨V, ts, h1, h2, _⟩ | ⟨h1, _⟩
    · rw [h2]; exact (hs n V ts h1).1
    · rw [h1, nthV_replicate]; trivial
  stips n d hd := by
    replace hd : datOf (nthV (fillV k.slots x.1 _) n) = some d := hd
    show TipsAt m _ _ _ (nthT (fillTips k.slots _) n)
    rw [fillV_eq] at hd
    rw [fillT_eq k.slots x.1]
    rcases nth_set (entries k.slots x.1) (List.replicate k.ntmps .bot) (List.replicate k.ntmps []) (by simp) n with ⟨V, ts, h1, h2, h3⟩ | ⟨h1, _⟩
    · rw [h2] at hd; rw [h3]; exact (hs n V ts h1).2 d hd
    · rw [h1, nthV_replicate] at hd; cases hd
  objs id o h := by
    replace h : lookObj id (fillObjs k.objs x.2) = some o := h
    rcases look_fill k.objs x.2 id with ⟨o', ts, h1, h2, _⟩ | ⟨h1, _⟩
    · rw [h2] at h; cases h; exact ⟨(ho id _ ts h1).1, (ho id _ ts h1).2.1⟩
    · rw [h1] at h; cases h
  otips id d h off hoff e he := by
    replace h : lookObj id (fillObjs k.objs x.2) = some (.box d) := h
    replace hoff : off ∈ lookT id (fillOT k.objs) := hoff
    rcases look_fill k.objs x.2 id with ⟨o', ts, h1, h2, h3⟩ | ⟨h1, _⟩
    · rw [h2] at h; cases h; rw [h3] at hoff; exact (ho id _ ts h1).2.2 d rfl off hoff e he
    · rw [h1] at h; cases h
  prov hf := by cases hf }
/-! ### A state read in a shape -/
/-- Numbers of objects from n on may be given again. -/
def Mem.shrink (m : Mem) (n : Nat) : Mem := { m with U := fun id => m.U id ∧ id < n }
theorem RV0.shrink {n : Nat} : ∀ {V : V} {v : Value}, RV0 P m V v → (∀ i p T, V = .bp i p T → i < n) → (∀ i, V = .own i → i < n) → (∀ i k p T, V ≠ .ep i k p T) → RV0 P (m.shrink n) V v
  | .bot, _, h, _, _, _ => h
  | .und, _, h, _, _, _ => h
  | .nilsl, _, h, _, _, _ => h
  | .kb _, _, h, _, _, _ => h
  | .dat _ _, _, h, _, _, _ => h
  | .rp _, _, h, _, _, _ => h
  | .pv _, _, h, _, _, _ => h
  | .bp i p T, _, h, h1, _, _ => ⟨⟨h.1, h1 i p T rfl⟩, h.2⟩
  | .ep i k p T, _, _, _, _, h3 => absurd rfl (h3 i k p T)
  | .own i, _, h, _, h2, _ => ⟨⟨h.1, h2 i rfl⟩, h.2⟩
  | .fn _ _, _, h, _, _, _ => h
  | .fun1 _ _ _, _, h, _, _, _ => h
  | .tup _, _, h, _, _, _ => h
theorem bps_ok {nx : Nat} : ∀ {cs : List (Nat × List Nat × Ty)} {vs : List XE.V} {ws : List Value}, bpsEq cs vs = true → (cs.all fun c => Nat.blt c.1 nx) = true → (∀ i, RV0 P m (nthV vs i) (ws.getD i undef)) →
    vs.length = (bpsV cs).length ∧ ∀ i, RV0 P (m.shrink nx) (nthV (bpsV cs) i) (ws.getD i undef)
  | [], [], ws, _, _, _ => ⟨rfl, fun i => by simp [bpsV, nthV]; trivial⟩
  | (i0, p, T) :: cs, v :: vs, ws, h, hi, hw => by
    cases v with
    | bp j q U =>
      simp only [bpsEq, Bool.and_eq_true] at h
      simp only [List.all_cons, Bool.and_eq_true, Nat.blt_eq] at hi
      obtain ⟨⟨⟨h1, h2⟩, h3⟩, h4⟩ := h
      cases ht : tyEq U T with
      | none => rw [ht] at h1; cases h1
      | some e =>
        obtain ⟨e⟩ := e
        subst e
        have e2 := Nat.eq_of_beq_eq_true h2
        have e3 := beqNats_eq h3
        subst e2
        subst e3
        have hw' : ∀ i, RV0 P m (nthV vs i) ((ws.drop 1).getD i undef) := fun i => by
          have := hw (i + 1)
          simp only [nthV] at this
          rwa [List.getD_eq_getElem?_getD, List.getElem?_drop, Nat.add_comm, ← List.getD_eq_getElem?_getD]
        obtain ⟨k1, k2⟩ := bps_ok h4 (by simpa [Nat.blt_eq] using hi.2) hw'
        refine ⟨by simp [bpsV, k1], fun i => ?_⟩
        cases i with
        | zero =>
          have h0 := hw 0
          exact RV0.shrink (P := P) (V := .bp i0 p U) h0 (fun i' p' T' e => by cases e; exact hi.1) (fun _ e => by cases e) (fun _ _ _ _ e => by cases e)
        | succ i =>
          have := k2 i
          rwa [List.getD_eq_getElem?_getD, List.getElem?_drop, Nat.add_comm, ← List.getD_eq_getElem?_getD] at this
    | _ => simp [bpsEq] at h
  | [], _ :: _, _, h, _, _ => by simp [bpsEq] at h
  | _ :: _, [], _, h, _, _ => by simp [bpsEq] at h
theorem headSlots_ok {vars : Nat} {tm : Array Value} (r : Rel P G vars m s tm) {nx : Nat} : ∀ {l : List (Nat × SK)} {x : slotsH l}, headSlots s l = some x → (l.all fun p => p.2.idOk nx) = true →
    ∀ n V ts, (n, V, ts) ∈ entries l x → RV P (m.shrink nx) V (tm.getD n undef) ∧ ∀ d, datOf V = some d → TipsAt m (.ts n) d.T (tcells (tm.getD n undef)) ts
  | [], _, _, _, n, V, ts, h => by cases h
  | (k, .dat T us) :: l, x, h, ok, n, V, ts, hm => by
    simp only [List.all_cons, Bool.and_eq_true] at ok
    have hs := r.slots k
    have ht := r.stips k
    simp only [headSlots] at h
    split at h
    · rename_i d p y hV hy
      split at h
      · rename_i z hz
        cases hc : us.all (hasN · (nthT s.stips k)) with
        | false => rw [hc] at h; cases h
        | true =>
          rw [hc] at h
          cases h
          rcases List.mem_cons.1 hm with he | hm
          · cases he
            have := as_eq hz
            subst this
            rw [hV] at hs ht
            refine ⟨hs, fun d hd off hoff e he => ?_⟩
            simp [datOf] at hd
            subst hd
            exact ht _ rfl off (hasN_mem.1 (List.all_eq_true.1 hc off hoff)) e he
          · exact headSlots_ok r hy ok.2 n V ts hm
      · cases h
    · rename_i b y hV hy
      split at h
      · rename_i z hz
        cases hc : us.isEmpty with
        | false => rw [hc] at h; cases h
        | true =>
          rw [hc] at h
          cases h
          rcases List.mem_cons.1 hm with he | hm
          · cases he
            have := as_eq hz
            have hT : T = .bool := by have := congrArg D.T this; exact this.symm
            subst hT
            have hz' : b = z := by simpa using this
            subst hz'
            rw [hV] at hs
            have hv : tm.getD k undef = .bool b := hs
            refine ⟨?_, fun d hd off hoff e he => ?_⟩
            · show RepV _ _ _ _ _
              rw [hv]; exact RepV.bool b
            · rw [List.isEmpty_iff.1 hc] at hoff; cases hoff
          · exact headSlots_ok r hy ok.2 n V ts hm
      · cases h
    · cases h
  | (k, .rp T) :: l, x, h, ok, n, V, ts, hm => by
    simp only [List.all_cons, Bool.and_eq_true] at ok
    have hs := r.slots k
    simp only [headSlots] at h
    split at h
    · rename_i d y hV hy
      split at h
      · rename_i z hz
        cases h
        rcases List.mem_cons.1 hm with he | hm
        · cases he
          have := as_eq hz
          subst this
          rw [hV] at hs
          exact ⟨hs, fun d hd => by cases hd⟩
        · exact headSlots_ok r hy ok.2 n V ts hm
      · cases h
    · cases h
  | (k, .pv T) :: l, x, h, ok, n, V, ts, hm => by
    simp only [List.all_cons, Bool.and_eq_true] at ok
    have hs := r.slots k
    simp only [headSlots] at h
    split at h
    · rename_i d y hV hy
      split at h
      · rename_i z hz
        cases h
        rcases List.mem_cons.1 hm with he | hm
        · cases he
          have := as_eq hz
          subst this
          rw [hV] at hs
          exact ⟨hs, fun d hd => by cases hd⟩
        · exact headSlots_ok r hy ok.2 n V ts hm
      · cases h
    · cases h
  | (k, .bp i p T) :: l, x, h, ok, n, V, ts, hm => by
    simp only [List.all_cons, Bool.and_eq_true] at ok
    have hs := r.slots k
    simp only [headSlots] at h
    split at h
    · rename_i j q U hV
      split at h
      · rename_i e _
        obtain ⟨e⟩ := e
        subst e
        cases hc : (Nat.beq i j && beqNats p q) with
        | false => rw [hc] at h; cases h
        | true =>
          rw [hc] at h
          simp only [Bool.and_eq_true] at hc
          have e1 := Nat.eq_of_beq_eq_true hc.1
          have e2 := beqNats_eq hc.2
          subst e1
          subst e2
          rcases List.mem_cons.1 hm with he | hm
          · cases he
            rw [hV] at hs
            exact ⟨RV0.shrink (P := P) (V := .bp i p U) hs (fun i' p' T' e => by cases e; simpa [SK.idOk, Nat.blt_eq] using ok.1) (fun _ e => by cases e) (fun _ _ _ _ e => by cases e), fun d hd => by cases hd⟩
          · exact headSlots_ok r h ok.2 n V ts hm
      · cases h
    · cases h
  | (k, .own i) :: l, x, h, ok, n, V, ts, hm => by
    simp only [List.all_cons, Bool.and_eq_true] at ok
    have hs := r.slots k
    simp only [headSlots] at h
    split at h
    · rename_i j hV
      cases hc : Nat.beq i j with
      | false => rw [hc] at h; cases h
      | true =>
        rw [hc] at h
        have e1 := Nat.eq_of_beq_eq_true hc
        subst e1
        rcases List.mem_cons.1 hm with he | hm
        · cases he
          rw [hV] at hs
          exact ⟨RV0.shrink (P := P) (V := .own i) hs (fun _ _ _ e => by cases e) (fun i' e => by cases e; simpa [SK.idOk, Nat.blt_eq] using ok.1) (fun _ _ _ _ e => by cases e), fun d hd => by cases hd⟩
        · exact headSlots_ok r h ok.2 n V ts hm
    · cases h
  | (k, .fun1 A R) :: l, x, h, ok, n, V, ts, hm => by
    simp only [List.all_cons, Bool.and_eq_true] at ok
    have hs := r.slots k
    simp only [headSlots] at h
    split at h
    · rename_i A' R' g y hV hy
      split at h
      · rename_i e1 e2 _ _
        subst e1
        subst e2
        cases h
        rcases List.mem_cons.1 hm with he | hm
        · cases he
          rw [hV] at hs
          exact ⟨hs, fun d hd => by cases hd⟩
        · exact headSlots_ok r hy ok.2 n V ts hm
      · cases h
    · cases h
  | (k, .fnb f cs) :: l, x, h, ok, n, V, ts, hm => by
    simp only [List.all_cons, Bool.and_eq_true] at ok
    have hs := r.slots k
    simp only [headSlots] at h
    split at h
    · rename_i g vs hV
      cases hc : (Nat.beq f g && bpsEq cs vs) with
      | false => rw [hc] at h; cases h
      | true =>
        rw [hc] at h
        simp only [Bool.and_eq_true] at hc
        have e1 := Nat.eq_of_beq_eq_true hc.1
        subst e1
        rcases List.mem_cons.1 hm with he | hm
        · cases he
          rw [hV] at hs
          obtain ⟨ws, h1, h2, h3⟩ := hs
          obtain ⟨k1, k2⟩ := bps_ok hc.2 ok.1 h3
          exact ⟨⟨ws, h1, h2.trans k1, k2⟩, fun d hd => by cases hd⟩
        · exact headSlots_ok r h ok.2 n V ts hm
    · cases h
theorem ObjOk.shrink {id n : Nat} : ∀ {o : Obj}, ObjOk m id o → (∀ j p T, o = .vbp j p T → j < n) → ObjOk (m.shrink n) id o
  | .box _, h, _ => h
  | .vrp _, h, _ => h
  | .vbp j p T, h, hj => by
    obtain ⟨h1, h2, u, h3, h4, h5⟩ := h
    exact ⟨h1, h2, u, h3, ⟨h4, hj j p T rfl⟩, h5⟩
  | .arr _ _ _, h, _ => h
theorem loadObjs_ok {vars : Nat} {tm : Array Value} (r : Rel P G vars m s tm) {nx : Nat} : ∀ {l : List (Nat × OK)} {x : den (objsX l)}, loadObjs s l = some x → (l.all fun p => Nat.blt p.1 nx && p.2.idOk nx) = true →
    ∀ id o ts, (id, o, ts) ∈ objEntries l x → (m.shrink nx).U id ∧ ObjOk (m.shrink nx) id o ∧ ∀ d, o = .box d → ∀ off, off ∈ ts → ∀ e, tipTy d.T off = some e → ∃ v, m.w.cell? ⟨(m.ad id).b, (m.ad id).o + off, none⟩ = some v ∧ TipAt m (.to id off) e v
  | [], _, _, _, n, V, ts, h => by cases h
  | (k, .box T us) :: l, x, h, ok, id, o, ts, hm => by
    simp only [List.all_cons, Bool.and_eq_true, Nat.blt_eq] at ok
    simp only [loadObjs] at h
    split at h
    · rename_i d y hV hy
      split at h
      · rename_i z hz
        cases hc : us.all (hasN · (lookT k s.otips)) with
        | false => rw [hc] at h; cases h
        | true =>
          rw [hc] at h
          cases h
          rcases List.mem_cons.1 hm with he | hm
          · cases he
            have := as_eq hz
            subst this
            have ho := r.objs k _ hV
            refine ⟨⟨ho.1, ok.1.1⟩, ho.2.shrink fun _ _ _ e => (by cases e), fun d hd off hoff e he => ?_⟩
            cases hd
            exact r.otips k _ hV off (hasN_mem.1 (List.all_eq_true.1 hc off hoff)) e he
          · exact loadObjs_ok r hy (by simpa [Nat.blt_eq] using ok.2) id o ts hm
      · cases h
    · cases h
  | (k, .vrp T) :: l, x, h, ok, id, o, ts, hm => by
    simp only [List.all_cons, Bool.and_eq_true, Nat.blt_eq] at ok
    simp only [loadObjs] at h
    split at h
    · rename_i d y hV hy
      split at h
      · rename_i z hz
        cases h
        rcases List.mem_cons.1 hm with he | hm
        · cases he
          have := as_eq hz
          subst this
          have ho := r.objs k _ hV
          exact ⟨⟨ho.1, ok.1.1⟩, ho.2.shrink fun _ _ _ e => (by cases e), fun d hd => by cases hd⟩
        · exact loadObjs_ok r hy (by simpa [Nat.blt_eq] using ok.2) id o ts hm
      · cases h
    · cases h
  | (k, .vbp j q T) :: l, x, h, ok, id, o, ts, hm => by
    simp only [List.all_cons, Bool.and_eq_true, Nat.blt_eq] at ok
    simp only [loadObjs] at h
    split at h
    · rename_i j' q' U hV
      split at h
      · rename_i e _
        obtain ⟨e⟩ := e
        subst e
        cases hc : (Nat.beq j j' && beqNats q q') with
        | false => rw [hc] at h; cases h
        | true =>
          rw [hc] at h
          simp only [Bool.and_eq_true] at hc
          have e1 := Nat.eq_of_beq_eq_true hc.1
          have e2 := beqNats_eq hc.2
          subst e1
          subst e2
          rcases List.mem_cons.1 hm with he | hm
          · cases he
            have ho := r.objs k _ hV
            exact ⟨⟨ho.1, ok.1.1⟩, ho.2.shrink fun _ _ _ e => (by cases e; simpa [OK.idOk, Nat.blt_eq] using ok.1.2), fun d hd => by cases hd⟩
          · exact loadObjs_ok r h (by simpa [Nat.blt_eq] using ok.2) id o ts hm
      · cases h
    · cases h
  | (k, .arr e) :: l, x, h, ok, id, o, ts, hm => by
    simp only [List.all_cons, Bool.and_eq_true, Nat.blt_eq] at ok
    simp only [loadObjs] at h
    split at h
    · rename_i e' xs y hV hy
      split at h
      · rename_i z hz
        cases h
        rcases List.mem_cons.1 hm with he | hm
        · cases he
          have h1 := as_eq hz
          have hT : e' = e := by have := congrArg D.T h1; simpa using this
          subst hT
          have hx : xs = z := by simpa using h1
          subst hx
          have ho := r.objs k _ hV
          exact ⟨⟨ho.1, ok.1.1⟩, ho.2.shrink fun _ _ _ e => (by cases e), fun d hd => by cases hd⟩
        · exact loadObjs_ok r hy (by simpa [Nat.blt_eq] using ok.2) id o ts hm
      · cases h
    · cases h
/-- A state that has been read in a shape. -/
theorem load_rel {vars : Nat} {tm : Array Value} (r : Rel P G vars m s tm) {k : Skel} {x : k.H} (h : k.load s = some x) : Rel P G vars (m.shrink k.next) (k.st x) tm := by
  unfold Skel.load at h
  cases hc : (k.idsOk && Nat.ble k.ntmps s.slots.length) with
  | false => rw [hc] at h; cases h
  | true =>
    rw [hc] at h
    simp only [Bool.and_eq_true, Nat.ble_eq, Skel.idsOk] at hc
    simp only [cond_true] at h
    split at h
    · rename_i y z hy hz
      cases h
      refine rel_st r.bC r.bK r.bL r.glob (Nat.le_trans hc.2 r.len) (headSlots_ok r hy hc.1.1) fun id o ts hm => ?_
      exact loadObjs_ok r hz (by simpa [Nat.blt_eq] using hc.1.2) id o ts hm
    · cases h
end
end Go.XE
/- Outcomes, resolved; joins. -/
namespace Go.XE

inductive Leaf : Type 1 where
  | norm (s : St)
  | ext (id : Nat) (s : St)
  | ret (s : St)
def Leaf.st : Leaf → St
  | .norm s => s
  | .ext _ s => s
  | .ret s => s
def Out.res : Out → Option Leaf
  | .norm s => some (.norm s)
  | .ext i s => some (.ext i s)
  | .ret s => some (.ret s)
  | .br c t e => cond c t.res e.res
  | .need c o => cond c o.res none
  | .opt _ o k => o.bind fun b => (k b).res
  | .bad => none
def Leaf.then (f : St → Out) : Leaf → Option Leaf
  | .norm s => (f s).res
  | l => some l
theorem res_bind (f : St → Out) : ∀ o : Out, (o.bind f).res = o.res.bind (Leaf.then f)
  | .norm s => rfl
  | .ext i s => rfl
  | .ret s => rfl
  | .br c t e => by cases c <;> simp [Out.bind, Out.res, res_bind f t, res_bind f e]
  | .need c o => by cases c <;> simp [Out.bind, Out.res, res_bind f o]
  | .opt d o k => by cases o <;> simp [Out.bind, Out.res, res_bind f]
  | .bad => rfl
theorem res_runM {α : Type} (k : α → St → Out) : ∀ (m : M α) (s : St), (runM m s k).res = (runR m s).bind fun p => (k p.1 p.2).res
  | .ret a, s => rfl
  | .get l m, s => res_runM k (m (s.get l)) _
  | .put l x m, s => res_runM k m _
  | .need c m, s => by cases c <;> simp [runM, Out.res, runR, res_runM k m s]
  | .opt d o m, s => by cases o <;> simp [runM, Out.res, runR, res_runM k]
  | .fail, s => rfl
/-- All leaves. -/
def Out.All (Q : St → Prop) : Out → Prop
  | .norm s => Q s
  | .ext _ s => Q s
  | .ret s => Q s
  | .br _ t e => t.All Q ∧ e.All Q
  | .need _ o => o.All Q
  | .opt _ _ k => ∀ b, (k b).All Q
  | .bad => True
theorem All.res {Q : St → Prop} : ∀ {o : Out} {l : Leaf}, o.All Q → o.res = some l → Q l.st
  | .norm s, l, h, e => by cases e; exact h
  | .ext i s, l, h, e => by cases e; exact h
  | .ret s, l, h, e => by cases e; exact h
  | .br c t f, l, h, e => by
    cases c with
    | true => exact All.res (o := t) h.1 e
    | false => exact All.res (o := f) h.2 e
  | .need c o, l, h, e => by
    cases c with
    | true => exact All.res (o := o) h e
    | false => cases e
  | .opt d o k, l, h, e => by
    cases o with
    | none => cases e
    | some b => exact All.res (o := k b) (h b) e
  | .bad, l, h, e => by cases e
theorem All.mono {Q R : St → Prop} (hqr : ∀ s, Q s → R s) : ∀ {o : Out}, o.All Q → o.All R
  | .norm s, h => hqr s h
  | .ext i s, h => hqr s h
  | .ret s, h => hqr s h
  | .br c t f, h => ⟨All.mono hqr h.1, All.mono hqr h.2⟩
  | .need c o, h => All.mono hqr (o := o) h
  | .opt d o k, h => fun b => All.mono hqr (h b)
  | .bad, _ => trivial
theorem All.bind {Q R : St → Prop} {f : St → Out} (hf : ∀ s, Q s → (f s).All R) (hqr : ∀ s, Q s → R s) : ∀ {o : Out}, o.All Q → (o.bind f).All R
  | .norm s, h => hf s h
  | .ext i s, h => hqr s h
  | .ret s, h => hqr s h
  | .br c t e, h => ⟨All.bind hf hqr h.1, All.bind hf hqr h.2⟩
  | .need c o, h => All.bind hf hqr (o := o) h
  | .opt d o k, h => fun b => All.bind hf hqr (h b)
  | .bad, _ => trivial
theorem All.runM {α : Type} {Q R : St → Prop} {k : α → St → Out} (hk : ∀ a s, Q s → (k a s).All R) (hget : ∀ s l, Q s → Q { s with rd := addLoc l s.rd }) (hput : ∀ s l x, Q s → Q { s.put l x with wr := addLoc l s.wr, dirty := addLoc l s.dirty }) :
    ∀ {m : M α} {s : St}, Q s → (XE.runM m s k).All R
  | .ret a, s, h => hk a s h
  | .get l m, s, h => All.runM hk hget hput (m := m (s.get l)) (hget s l h)
  | .put l x m, s, h => All.runM hk hget hput (m := m) (hput s l x h)
  | .need c m, s, h => All.runM hk hget hput (m := m) h
  | .opt d o m, s, h => fun b => All.runM hk hget hput (m := m b) h
  | .fail, _, _ => trivial

/-! ### What has not been written is as it was -/
def EqAt (s0 s : St) : Loc → Prop
  | .slot n => stripV (nthV s.slots n) = stripV (nthV s0.slots n)
  | .stip n => nthT s.stips n = nthT s0.stips n
  | .obj i => lookObj i s.objs = lookObj i s0.objs
  | .otip i => lookT i s.otips = lookT i s0.otips
  | .fresh => True
structure Agr (s0 s : St) : Prop where
  len : s.slots.length ≤ s0.slots.length
  eq : s.all = true ∨ ∀ l, hasLoc l s.dirty = false → EqAt s0 s l
theorem loc_beq {l k : Loc} : l.beq k = true ↔ l = k := by
  cases l <;> cases k <;> simp [Loc.beq]
theorem hasLoc_add {l k : Loc} {r : List Loc} : hasLoc l (addLoc k r) = false ↔ hasLoc l r = false ∧ k ≠ l := by
  unfold addLoc
  cases h : hasLoc k r with
  | true =>
    simp only [cond_true]
    constructor
    · intro h1
      exact ⟨h1, fun e => by subst e; rw [h] at h1; cases h1⟩
    · exact fun h => h.1
  | false =>
    simp only [cond_false, hasLoc, Bool.or_eq_false_iff]
    constructor
    · rintro ⟨h1, h2⟩
      exact ⟨h2, fun e => by rw [loc_beq.2 e] at h1; cases h1⟩
    · rintro ⟨h1, h2⟩
      refine ⟨?_, h1⟩
      cases hb : k.beq l with
      | false => rfl
      | true => exact absurd (loc_beq.1 hb) h2
theorem hasLoc_adds {l : Loc} : ∀ {q r : List Loc}, hasLoc l (addLocs q r) = false ↔ hasLoc l q = false ∧ hasLoc l r = false
  | [], r => by simp [addLocs, hasLoc]
  | k :: q, r => by
    simp only [addLocs, hasLoc_adds (q := q), hasLoc_add, hasLoc, Bool.or_eq_false_iff]
    constructor
    · rintro ⟨h1, h2, h3⟩
      refine ⟨⟨?_, h1⟩, h2⟩
      cases hb : k.beq l with
      | false => rfl
      | true => exact absurd (loc_beq.1 hb) h3
    · rintro ⟨⟨h1, h2⟩, h3⟩
      exact ⟨h2, h3, fun e => by rw [loc_beq.2 e] at h1; cases h1⟩
theorem Agr.refl (s : St) : Agr s s := ⟨Nat.le_refl _, .inr fun l _ => by cases l <;> first | rfl | trivial⟩
theorem eqAt_put {s : St} {l k : Loc} {x : LV} (h : l ≠ k) : EqAt s (s.put l x) k := by
  cases l <;> cases x <;> cases k <;> first
    | rfl
    | trivial
    | (simp only [EqAt, St.put, nthV_setV]; rw [if_neg (fun e => h (by rw [e.1]))])
    | (simp only [EqAt, St.put, nthT_setT]; rw [if_neg (fun e => h (by rw [e.1]))])
    | (simp only [EqAt, St.put, lookObj_setObj]; rw [if_neg (fun e => h (by rw [e]))])
    | (simp only [EqAt, St.put, lookT_setTips]; rw [if_neg (fun e => h (by rw [e]))])
theorem len_put (s : St) (l : Loc) (x : LV) : (s.put l x).slots.length = s.slots.length := by
  cases l <;> cases x <;> first | rfl | exact length_setV _ _ _
theorem EqAt.trans {a b c : St} {l : Loc} (h : EqAt a b l) (k : EqAt b c l) : EqAt a c l := by
  cases l <;> first | exact Eq.trans k h | trivial
theorem all_put (s : St) (l : Loc) (x : LV) : (s.put l x).all = s.all ∧ (s.put l x).dirty = s.dirty := by
  cases l <;> cases x <;> exact ⟨rfl, rfl⟩
theorem Agr.put {s0 s : St} (h : Agr s0 s) (l : Loc) (x : LV) : Agr s0 { s.put l x with wr := addLoc l s.wr, dirty := addLoc l s.dirty } := by
  refine ⟨by show (s.put l x).slots.length ≤ _; rw [len_put]; exact h.len, ?_⟩
  rcases h.eq with ha | he
  · exact .inl (by show (s.put l x).all = true; rw [(all_put s l x).1]; exact ha)
  · refine .inr fun k hk => ?_
    obtain ⟨h1, h2⟩ := hasLoc_add.1 hk
    have h3 : EqAt s (s.put l x) k := eqAt_put h2
    have h4 := (he k h1).trans h3
    cases k <;> exact h4
end Go.XE
