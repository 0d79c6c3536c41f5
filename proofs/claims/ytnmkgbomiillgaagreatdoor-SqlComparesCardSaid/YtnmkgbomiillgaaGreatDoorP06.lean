/- Part 6 of the proof. -/
import Derived.Test.YtnmkgbomiillgaaGreatDoorP05
import Derived.Laws.Small
import Derived.Great.FillDense
import Derived.Great.BuildSlice
/- Operations, part J: append. -/
namespace Go.XE
section
variable {P : Program} {G : Nat → Option GV} {Γ : Env} {m : Mem} {s s' : St} {a : Act}

theorem run_app_room (w : World) (t ty et : TypeId) (i : TypeInfo) (ht : P.underlying t = some (.slice et)) (hi : P.info? et = some i) (g sLen sCap : Nat) (cur : Array Value) (e' : TypeId) (hg : w.heap[g]? = some (Go.Obj.cells cur e' (0, 0)))
    (x : Value) (k : Nat) (news : List Value) (hk : (Builtin.lenOf x).run P w = .ok k w) (hx : (Builtin.firstCells i.size k x).run P w = .ok news.toArray w) (h1 : ∀ u ∈ news, u.oneCell' = true) (hroom : sLen + k ≤ sCap) (hfit : sLen * i.size + news.length ≤ cur.size) :
    (Builtin.append_ #[t, t] ty #[.slice (some ⟨g, 0, none⟩) sLen sCap, x]).run P w =
      .ok (.slice (some ⟨g, 0, none⟩) (sLen + k) sCap) (w.setRow g (cur.toList.take (sLen * i.size) ++ news ++ cur.toList.drop (sLen * i.size + news.length)).toArray) := by
  have hst := run_storeCells_at P g (sLen * i.size) e' news 0 cur w hg (by simpa using hfit) h1
  simp only [Nat.add_zero] at hst
  simp [Builtin.append_, run_underlying ht, sizeOf, typeInfo, hi, hk, hroom, hx, Addr.add_lit, hst]
theorem run_app_none (w : World) (t ty et : TypeId) (i : TypeInfo) (ht : P.underlying t = some (.slice et)) (hi : P.info? et = some i) (x : Value) (hk : (Builtin.lenOf x).run P w = .ok 0 w) (hx : (Builtin.firstCells i.size 0 x).run P w = .ok #[] w) :
    (Builtin.append_ #[t, t] ty #[.slice none 0 0, x]).run P w = .ok (.slice none 0 0) w := by
  simp [Builtin.append_, run_underlying ht, sizeOf, typeInfo, hi, hk, hx]
theorem run_app_grow (w : World) (t ty et : TypeId) (i : TypeInfo) (z : Value) (ht : P.underlying t = some (.slice et)) (hi : P.info? et = some i) (hz : i.zero = some z) (base : Option Addr) (sLen sCap : Nat) (olds : List Value)
    (holds : (Builtin.firstCells i.size sLen (.slice base sLen sCap)).run P w.drew = .ok olds.toArray w.drew) (x : Value) (k : Nat) (news : List Value) (hk : (Builtin.lenOf x).run P w = .ok k w) (hx : (Builtin.firstCells i.size k x).run P w.drew = .ok news.toArray w.drew)
    (hg : sCap < sLen + k) (h63 : ((sLen + k : Nat) : Int) ≤ 9223372036854775807) (hfit : Builtin.nextslicecap (sLen + k) sCap * i.bytes ≤ 281474976710656) :
    (Builtin.append_ #[t, t] ty #[.slice base sLen sCap, x]).run P w =
      .ok (.slice (some ⟨w.heap.size, 0, none⟩) (sLen + k) (grownCap w (sLen + k) sCap et))
        (w.drew.alloc (.cells (olds.toArray ++ news.toArray ++ Builtin.zeroCells z.cells (grownCap w (sLen + k) sCap et - (sLen + k))) et)) := by
  have hn : ¬ (sLen + k ≤ sCap) := by omega
  have h63' : ¬ (9223372036854775807 < ((sLen : Int) + (k : Int))) := by omega
  have h48' : ¬ (281474976710656 < Builtin.nextslicecap (sLen + k) sCap * i.bytes) := by omega
  have hs : (Builtin.lenOf (.slice base sLen sCap)).run P w = .ok sLen w := by simp [Builtin.lenOf]
  simp [Builtin.append_, run_underlying ht, sizeOf, typeInfo, zeroValue, hi, hz, hk, hn, h63', h48', Question.forced, hx, holds, newRow, grownCap]
  congr 2
  apply Array.ext'
  simp [List.append_assoc]
/-- The cells behind a slice. -/
theorem slice_flat {w : World} {C : Cells} {e : Ty} : ∀ {xs : List (den e)} {b off : Nat},
    (∀ i y, xs[i]? = some y → ∃ us, cellsAt w b (off + i * e.size) us ∧ (∀ j, j < e.size → C b (off + i * e.size + j)) ∧ Rep w C e y us) →
    ∃ ns : List Value, ns.length = xs.length * e.size ∧ cellsAt w b off ns ∧ (∀ u ∈ ns, u.oneCell' = true) ∧ ∀ i y, xs[i]? = some y → Rep w C e y ((ns.drop (i * e.size)).take e.size)
  | [], b, off, _ => ⟨[], by simp, fun j v h => by simp at h, by simp, fun i y h => by simp at h⟩
  | x :: xs, b, off, h => by
    obtain ⟨us, h1, _, h3⟩ := h 0 x rfl
    obtain ⟨ns, k1, k2, k3, k4⟩ := slice_flat (xs := xs) (b := b) (off := off + e.size) fun i y hy => by
      have := h (i + 1) y (by simpa using hy)
      rwa [Nat.succ_mul, Nat.add_comm (i * e.size), ← Nat.add_assoc] at this
    have hl := h3.len
    refine ⟨us ++ ns, by rw [List.length_append, hl, k1, List.length_cons, Nat.succ_mul, Nat.add_comm], fun j v hj => ?_, fun u hu => ?_, fun i y hy => ?_⟩
    · by_cases hlt : j < us.length
      · rw [List.getElem?_append_left hlt] at hj
        have := h1 j v hj
        simpa using this
      · rw [List.getElem?_append_right (by omega)] at hj
        have := k2 _ v hj
        rwa [hl, Nat.add_assoc, show e.size + (j - e.size) = j by omega] at this
    · rcases List.mem_append.1 hu with hu | hu
      · exact h3.one u hu
      · exact k3 u hu
    · cases i with
      | zero =>
        simp at hy
        subst hy
        simpa [← hl] using h3
      | succ i =>
        rw [Nat.succ_mul, Nat.add_comm, take_drop_append _ _ _ _ hl]
        exact k4 i y (by simpa using hy)
/-- What is appended. -/
theorem app_arg {w : World} {C : Cells} {e : Ty} {ys : List (den e)} {x : Value} (h : RepV w C (.sl e) ys x) :
    ∃ news : List Value, news.length = ys.length * e.size ∧ (Builtin.lenOf x).run P w = .ok ys.length w ∧ (∀ w', w'.heap = w.heap → (Builtin.firstCells e.size ys.length x).run P w' = .ok news.toArray w') ∧ (∀ u ∈ news, u.oneCell' = true) ∧
      ∀ i y, ys[i]? = some y → Rep w C e y ((news.drop (i * e.size)).take e.size) := by
  obtain ⟨p, cap, rfl, h2, h3, h4⟩ := RepV.sl_inv h
  have hl : (Builtin.lenOf (.slice p ys.length cap)).run P w = .ok ys.length w := by simp [Builtin.lenOf]
  cases p with
  | none =>
    have h5 : List.length (α := den e) ys = 0 := by have := h3 rfl; have h6 : List.length (α := den e) ys ≤ cap := h2; omega
    refine ⟨[], by rw [h5]; simp, hl, fun w' _ => run_firstCells_none w' _ _ _ _, by simp, fun i y hy => ?_⟩
    have := (List.getElem?_eq_some_iff.1 hy).1
    omega
  | some ad =>
    obtain ⟨h5, h6⟩ := h4 ad rfl
    obtain ⟨ns, k1, k2, k3, k4⟩ := slice_flat h6
    refine ⟨ns, k1, hl, fun w' hw => run_firstCells_some w' _ _ _ _ _ _ k1 fun j v hj => ?_, k3, k4⟩
    rw [addr_eta h5, add_mk]
    have := k2 j v hj
    simpa [World.cell?, hw] using this
/-- The elements of two rows, one behind the other. -/
theorem rows_app {w : World} {C : Cells} {e : Ty} {xs ys : List (den e)} {olds news : List Value} (h1 : olds.length = xs.length * e.size)
    (k1 : ∀ i y, xs[i]? = some y → Rep w C e y ((olds.drop (i * e.size)).take e.size)) (k2 : ∀ i y, ys[i]? = some y → Rep w C e y ((news.drop (i * e.size)).take e.size)) :
    ∀ i y, (xs ++ ys)[i]? = some y → Rep w C e y (((olds ++ news).drop (i * e.size)).take e.size) := fun i y hy => by
  by_cases hi : i < xs.length
  · rw [List.getElem?_append_left hi] at hy
    have := k1 i y hy
    have hle : (i + 1) * e.size ≤ xs.length * e.size := Nat.mul_le_mul_right _ hi
    rw [Nat.succ_mul] at hle
    rw [List.drop_append_of_le_length (by omega), List.take_append_of_le_length (by simp; omega)]
    exact this
  · rw [List.getElem?_append_right (by omega)] at hy
    have := k2 _ y hy
    have e1 : i * e.size = xs.length * e.size + (i - xs.length) * e.size := by rw [← Nat.add_mul]; congr 1; omega
    rw [e1, take_drop_append _ _ _ _ h1]
    exact this
/-- A row in a block, all of it cold, as a slice. -/
theorem row_rep {w : World} {C : Cells} {e : Ty} {xs : List (den e)} {b cap N : Nat} {row : List Value} (hN : xs.length = N) (hcap : N ≤ cap) (hc : cellsAt w b 0 row) (hC : ∀ j, j < N * e.size → C b j)
    (k : ∀ i y, xs[i]? = some y → Rep w C e y ((row.drop (i * e.size)).take e.size)) : RepV w C (.sl e) xs (.slice (some ⟨b, 0, none⟩) N cap) := by
  subst hN
  refine .inr ⟨rfl, some ⟨b, 0, none⟩, cap, rfl, hcap, fun h => (by cases h), fun ad had => ?_⟩
  cases had
  refine ⟨rfl, fun i y hy => ⟨_, ?_, fun j hj => ?_, k i y hy⟩⟩
  · exact hc.sub (i * e.size) e.size
  · have hi := (List.getElem?_eq_some_iff.1 hy).1
    have hle : (i + 1) * e.size ≤ xs.length * e.size := Nat.mul_le_mul_right _ hi
    rw [Nat.succ_mul] at hle
    exact hC _ (by simp only [Nat.zero_add]; omega)
/-- An append to a row that is ours: what it gives. 'k': of the float. -/
theorem app_ok {vars : Nat} {tm : Array Value} (r : Rel P G vars m s tm) {t ty : TypeId} {e : Ty} (ht : TyOk P t (.sl e)) {xs ys : List (den e)} {v x : Value} (hv : RepV m.w m.C (.sl e) xs v) (htip : TipAt m (.fl 0 0) e v)
    (hx : RepV m.w m.C (.sl e) ys x) (hlim : xs.length + ys.length ≤ lim) :
    ∃ u m', (Builtin.append_ #[t, t] ty #[v, x]).run P m.w = .ok u m'.w ∧ Rel P G vars m' s tm ∧ Fr m m' ∧ m'.U = m.U ∧ RepV m'.w m'.C (.sl e) (xs ++ ys : List (den e)) u ∧ TipAt m' (.fl 0 0) e u := by
  obtain ⟨et, d1, d2, d3⟩ := ht.2
  have d3' : TyOk P et e := d3
  obtain ⟨i0, b1, b2, b3, b4⟩ := d3'.base
  obtain ⟨news, n1, n2, n3, n4, n5⟩ := app_arg (P := P) hx
  obtain ⟨olds, o1, o2, o3, o4, o5⟩ := app_arg (P := P) hv
  have hlim' : xs.length + ys.length ≤ 4294967296 := hlim
  have hz : (zeroV e).cells.size = e.size := by rw [← Array.length_toList, zeroV_cells, (zero_rep (default : World) (fun _ _ => False) e).len]
  have happ : (xs ++ ys : List (den e)).length = xs.length + ys.length := List.length_append
  have hrow : (olds ++ news).length = (xs ++ ys : List (den e)).length * e.size := by rw [List.length_append, o1, n1, happ, Nat.add_mul]
  have grow : ∀ base cap, v = .slice base xs.length cap → cap < xs.length + ys.length → ∃ u m', (Builtin.append_ #[t, t] ty #[v, x]).run P m.w = .ok u m'.w ∧ Rel P G vars m' s tm ∧ Fr m m' ∧ m'.U = m.U ∧ RepV m'.w m'.C (.sl e) (xs ++ ys : List (den e)) u ∧ TipAt m' (.fl 0 0) e u := fun base cap hv' hlt => by
    have hbytes : (xs.length + ys.length) * i0.bytes ≤ 140737488355328 := by
      have : (xs.length + ys.length) * i0.bytes ≤ 4294967296 * 16384 := Nat.mul_le_mul hlim' b3
      omega
    have o3' := o3 m.w.drew rfl
    have n3' := n3 m.w.drew rfl
    rw [hv', ← b2] at o3'
    rw [← b2] at n3'
    have hrun := run_app_grow (P := P) m.w t ty et i0 (zeroV e) d1 b1 b4 base xs.length cap olds o3' x ys.length news n2 n3' hlt (by omega) (growslice_fits hlt hbytes)
    have hge := grownCap_ge m.w (xs.length + ys.length) cap et
    generalize grownCap m.w (xs.length + ys.length) cap et = gc at hrun hge
    have hw' : (m.w.drew.alloc (.cells (olds.toArray ++ news.toArray ++ Builtin.zeroCells (zeroV e).cells (gc - (xs.length + ys.length))) et)).heap = m.w.heap.push (Go.Obj.cells (olds.toArray ++ news.toArray ++ Builtin.zeroCells (zeroV e).cells (gc - (xs.length + ys.length))) et (0, 0)) := rfl
    generalize hcells : olds.toArray ++ news.toArray ++ Builtin.zeroCells (zeroV e).cells (gc - (xs.length + ys.length)) = cells at hrun hw'
    generalize m.w.drew.alloc (.cells cells et) = w' at hrun hw'
    have f := Fr.alloc m hw' (.fl 0 0) fun j => j < (xs.length + ys.length) * e.size
    have r' := r.alloc hw' (.fl 0 0) fun j => j < (xs.length + ys.length) * e.size
    have hb : w'.heap[m.w.heap.size]? = some (Go.Obj.cells cells et (0, 0)) := by rw [hw']; simp
    refine ⟨_, m.alloc w' (.fl 0 0) fun j => j < (xs.length + ys.length) * e.size, by rw [hv']; exact hrun, r', f, rfl, ?_, .inr ⟨m.w.heap.size, _, _, cells, et, rfl, ?_, hb, hge, ?_, fun j hj => ⟨fun hc => ?_, fun hk => ?_⟩⟩⟩
    · refine row_rep (row := olds ++ news) happ hge (fun j v hj => ?_) (fun j hj => .inr ⟨rfl, hj⟩) (rows_app o1 (fun i y hy => f.to.rep (o5 i y hy)) fun i y hy => f.to.rep (n5 i y hy))
      show w'.cell? _ = _
      rw [cell_of_row _ _ _ _ _ _ hb, ← hcells, Nat.zero_add]
      have hlt := (List.getElem?_eq_some_iff.1 hj).1
      rw [Array.getElem?_append_left (by simpa using hlt)]
      simpa [← Array.getElem?_toList] using hj
    · show (if _ then _ else _) = _
      rw [if_pos rfl]
    · rw [← hcells]
      simp only [Array.size_append, List.size_toArray, o1, n1, size_zeroCells, hz, ← Nat.add_mul]
      exact Nat.mul_le_mul_right _ (by omega)
    · rcases hc with hc | ⟨_, hc⟩
      · have := r.bC _ _ hc; omega
      · omega
    · have := r.bK _ _ hk; omega
  rcases htip with rfl | ⟨b, n, cap, cur, et', rfl, t1, t2, t3, t4, t5⟩
  · have hx0 : xs.length = 0 := by
      obtain ⟨p, cap, q1, q2, q3, q4⟩ := RepV.sl_inv hv
      exact (Value.slice.inj q1).2.1.symm
    by_cases hy0 : ys.length = 0
    · have hxs : xs = [] := List.length_eq_zero_iff.1 hx0
      have hys : ys = [] := List.length_eq_zero_iff.1 hy0
      subst hxs
      subst hys
      have n3' := n3 m.w rfl
      have hnil : news = [] := by simpa using n1
      rw [hnil, ← b2] at n3'
      exact ⟨_, m, run_app_none (P := P) m.w t ty et i0 d1 b1 x n2 n3', r, .refl m, rfl, hv, .inl rfl⟩
    · exact grow none 0 (by rw [hx0]) (by omega)
  · obtain ⟨p, cap0, q1, q2, q3, q4⟩ := RepV.sl_inv hv
    have e1 : n = xs.length := by cases q1; rfl
    have e2 : p = some ⟨b, 0, none⟩ := by cases q1; rfl
    subst e1
    subst e2
    obtain ⟨_, q6⟩ := q4 _ rfl
    by_cases hroom : xs.length + ys.length ≤ cap
    · have n3' := n3 m.w rfl
      rw [← b2] at n3'
      have hcap : (xs.length + ys.length) * e.size ≤ cap * e.size := Nat.mul_le_mul_right _ hroom
      rw [Nat.add_mul] at hcap
      have hrun := run_app_room (P := P) m.w t ty et i0 d1 b1 b xs.length cap cur et' t2 x ys.length news n2 n3' n4 hroom (by rw [b2, n1]; omega)
      rw [b2, n1] at hrun
      have wr := wrote_row r (p := xs.length * e.size) (us := news) (n := ys.length * e.size) (X := fun j => xs.length * e.size ≤ j ∧ j < (xs.length + ys.length) * e.size) t2 n1 (by omega) (fun k h1 _ => t5 k h1) fun j hj => (t5 j hj.1).2
      have f := Fr.write wr
      have r' := r.write wr (by rw [t1]; exact fun h => h)
      have hb := setRow_heap m.w b cur (cur.toList.take (xs.length * e.size) ++ news ++ cur.toList.drop (xs.length * e.size + ys.length * e.size)).toArray et' (0, 0) t2
      have hnew : ∀ k, (m.w.setRow b (cur.toList.take (xs.length * e.size) ++ news ++ cur.toList.drop (xs.length * e.size + ys.length * e.size)).toArray).cell? ⟨b, k, none⟩ = if xs.length * e.size ≤ k ∧ k < xs.length * e.size + ys.length * e.size then news[k - xs.length * e.size]? else cur[k]? := fun k => by
        rw [cell_of_row _ _ _ _ _ _ hb, List.getElem?_toArray, splice_get cur.toList _ _ _ n1 (by simp; omega)]
        simp
      have hC : ∀ j, j < xs.length * e.size → m.C b j := fun j hj => by
        have h1 : j / e.size < xs.length := (Nat.div_lt_iff_lt_mul d2).2 hj
        obtain ⟨us, _, c2, _⟩ := q6 (j / e.size) xs[j / e.size] (by simp [h1])
        have := c2 (j % e.size) (Nat.mod_lt _ d2)
        rwa [Nat.zero_add, Nat.mul_comm, Nat.div_add_mod] at this
      have hold : ∀ j v, olds[j]? = some v → cur[j]? = some v := fun j v hj => by
        obtain ⟨ns, k1, k2, k3, k4⟩ := slice_flat q6
        have h1 := o3 m.w rfl
        have h2 := run_firstCells_some (P := P) m.w e.size xs.length ⟨b, 0, none⟩ xs.length cap ns k1 fun j v hj => by rw [add_mk]; exact k2 j v hj
        rw [h2] at h1
        have h3 : ns = olds := by
          have := congrArg (fun z : Result (Array Value) => match z with | .ok a _ => a.toList | _ => []) h1
          simpa using this
        subst h3
        have := k2 j v hj
        rwa [cell_of_row _ _ _ _ _ _ t2, Nat.zero_add] at this
      refine ⟨_, _, hrun, r', f, rfl, ?_, .inr ⟨b, _, cap, _, et', rfl, t1, hb, hroom, ?_, fun j hj => ⟨fun hc => ?_, ?_⟩⟩⟩
      · refine row_rep (row := olds ++ news) happ hroom (fun j v hj => ?_) (fun j hj => ?_) (rows_app o1 (fun i y hy => f.to.rep (o5 i y hy)) fun i y hy => f.to.rep (n5 i y hy))
        · rw [Nat.zero_add]
          refine (hnew j).trans ?_
          have hlt := (List.getElem?_eq_some_iff.1 hj).1
          rw [List.length_append, o1, n1] at hlt
          by_cases hj1 : j < xs.length * e.size
          · rw [if_neg (by omega)]
            rw [List.getElem?_append_left (by omega)] at hj
            exact hold j v hj
          · rw [if_pos (by omega)]
            rw [List.getElem?_append_right (by omega), o1] at hj
            exact hj
        · by_cases hj1 : j < xs.length * e.size
          · exact .inl (hC j hj1)
          · exact .inr ⟨rfl, by omega, hj⟩
      · rw [List.size_toArray]; simp [n1]; omega
      · rw [Nat.add_mul] at hj
        rcases hc with hc | ⟨_, hc⟩
        · exact (t5 j (by omega)).1 hc
        · rw [Nat.add_mul] at hc; omega
      · rw [Nat.add_mul] at hj
        exact (t5 j (by omega)).2
    · exact grow (some ⟨b, 0, none⟩) cap rfl (by omega)
end
end Go.XE
/- Operations, part K: builtins. -/
namespace Go.XE
section
variable {P : Program} {G : Nat → Option GV} {Γ : Env} {m : Mem} {s s' : St} {a : Act}

theorem arr1 {α : Type} {xs : Array α} {x : α} (h : xs.toList = [x]) : xs = #[x] := by apply Array.ext'; simpa using h
theorem arr2 {α : Type} {xs : Array α} {x y : α} (h : xs.toList = [x, y]) : xs = #[x, y] := by apply Array.ext'; simpa using h
theorem tcells_slice (p : Option Addr) (n c : Nat) : tcells (.slice p n c) = [.slice p n c] := rfl
theorem TipAt.slice {l : Lab} {e : Ty} {v : Value} (h : TipAt m l e v) : ∃ p n c, v = .slice p n c := by
  rcases h with rfl | ⟨b, n, c, _, _, rfl, _⟩
  · exact ⟨_, _, _, rfl⟩
  · exact ⟨_, _, _, rfl⟩
theorem tipOf_ok {vars : Nat} (r : Rel P G vars m s a.tmps) {x : Operand} {e : Ty} {xs : List (den e)} {p : Option Place} (hV : ∀ t, x = .tmp t → V.dat ⟨.sl e, xs⟩ p = nthV s.slots t) (hx : (∃ t, x = .tmp t) ∨ p = none) (hv : RepV m.w m.C (.sl e) xs (a.eval x))
    {u : Unit} (h : runR (tipOf x p) s = some (u, s')) : ∃ m1, Quiet m m1 ∧ Rel P G vars m1 s' a.tmps ∧ TipAt m1 (.fl 0 0) e (a.eval x) := by
  unfold tipOf at h
  obtain ⟨ts, s1, h1, h2⟩ := bind_inv h
  obtain ⟨m1, q1, r1, e1, e2, e3, e4, f1⟩ := takeTips_ok r h1
  obtain ⟨pp, cap, hsl, _⟩ := RepV.sl_inv hv
  have get : ∀ {m' : Mem} {us : List Nat}, TipsAt m' (.fl 0) (.sl e) (tcells (a.eval x)) us → hasN 0 us = true → TipAt m' (.fl 0 0) e (a.eval x) := fun ht h0 => by
    obtain ⟨v, c1, c2⟩ := ht 0 (hasN_mem.1 h0) e rfl
    rw [hsl, tcells_slice] at c1
    simp at c1
    rw [hsl, c1]
    exact c2
  split at h2
  · obtain ⟨us, s2, h3, h4⟩ := bind_inv h2
    cases x with
    | tmp t =>
      obtain ⟨m2, q2, r2, _, _, _, f2⟩ := steal_ok r1 (T := .str) (d := ⟨.sl e, xs⟩) rfl (t := t) (by rw [e1]; exact (hV t rfl).symm) h3
      cases hc : hasN 0 us with
      | false => rw [hc] at h4; exact (fail_inv h4).elim
      | true =>
        rw [hc] at h4
        obtain ⟨_, rfl⟩ := ret_inv h4
        exact ⟨m2, q1.trans q2, r2, get f2 hc⟩
    | _ =>
      rcases hx with ⟨t, ht⟩ | hp
      · cases ht
      · subst hp
        obtain ⟨rfl, rfl⟩ := ret_inv h3
        exact (fail_inv h4).elim
  · cases hc : hasN 0 ts with
    | false => rw [hc] at h2; exact (fail_inv h2).elim
    | true =>
      rw [hc] at h2
      obtain ⟨_, rfl⟩ := ret_inv h2
      cases x with
      | tmp t => exact ⟨m1, q1, r1, get (f1 t rfl ⟨.sl e, xs⟩ (by rw [← hV t rfl]; rfl)) hc⟩
      | const c => simp only [takeTips] at h1; obtain ⟨rfl, _⟩ := ret_inv h1; cases hc
      | global c => simp only [takeTips] at h1; obtain ⟨rfl, _⟩ := ret_inv h1; cases hc
      | func c => simp only [takeTips] at h1; obtain ⟨rfl, _⟩ := ret_inv h1; cases hc
theorem guardM_inv {α : Type} {c : Bool} {mm : M α} {b : α} (h : runR (M.guard c mm) s = some (b, s')) : c = true ∧ runR mm s = some (b, s') := by
  cases c with
  | false => exact (fail_inv h).elim
  | true => exact ⟨rfl, h⟩
theorem opnd_prov (hΓ : GOk P G Γ) {vars : Nat} (r : Rel P G vars m s a.tmps) {x : Operand} {d : D} {p : Option Place} (h : runR (opnd Γ x) s = some (.dat d p, s')) : (∃ t, x = .tmp t) ∨ p = none := by
  cases x with
  | tmp t => exact .inl ⟨t, rfl⟩
  | const c => simp only [opnd] at h; obtain ⟨e2, _⟩ := ret_inv h; unfold constV at e2; split at e2 <;> cases e2 <;> exact .inr rfl
  | global g =>
    simp only [opnd] at h
    split at h
    · obtain ⟨e2, _⟩ := ret_inv h; cases e2
    · exact (fail_inv h).elim
  | func f => simp only [opnd] at h; obtain ⟨e2, _⟩ := ret_inv h; cases e2
theorem append_ok (hΓ : GOk P G Γ) (r : Rel P G Γ.vars m s a.tmps) {o : Oper} {nid : Nat} {c : Call} (ho : o.op = .call c) (hc : c.callee = .builtin .append) {u : Unit} (h : runR (evOp Γ o nid) s = some (u, s')) : Goes P G Γ.vars nid m s' o a := by
  simp only [evOp, ho, evCall, hc] at h
  split at h
  · rename_i x y t t2 hxs hts
    have hargs := arr2 hxs
    have htys := arr2 hts
    obtain ⟨V, s1, h1, h2⟩ := bind_inv h
    obtain ⟨k1, k2, k2'⟩ := opnd_ok hΓ r h1
    have r1 := r.same k1
    obtain ⟨W, s2, h3, h4⟩ := bind_inv h2
    obtain ⟨k3, k4, k4'⟩ := opnd_ok hΓ r1 h3
    have r2 := r1.same k3
    obtain ⟨d, s3, h5, h6⟩ := bind_inv h4
    have last : ∀ {m1 : Mem} {s0 s4 : St} {e : Ty} {xs ys : List (den e)} {tt : TypeId} {u : Unit}, t = t2 → TyOk P t (.sl e) → Quiet m m1 → Rel P G Γ.vars m1 s0 a.tmps → RepV m1.w m1.C (.sl e) xs (a.eval x) → TipAt m1 (.fl 0 0) e (a.eval x) → RepV m1.w m1.C (.sl e) ys (a.eval y) →
        xs.length + ys.length ≤ lim → runR (dstM Γ o (ofD ⟨.sl e, (xs ++ ys : List (den e))⟩) [0]) s0 = some (u, s4) → Goes P G Γ.vars nid m s4 o a := fun {m1 s0 s4 e xs ys tt u} e1 ht q r0 hx htip hy hl hh => by
      subst e1
      obtain ⟨uv, m', g1, g2, g3, g4, g5, g6⟩ := app_ok r0 (ty := o.type) ht hx htip hy hl
      refine fin (q.fr.trans g3) (fun id hid => .inl (by rw [g4, q.U] at hid; exact hid)) g2 (v := uv) ?_ hh (V := ofD ⟨.sl e, (xs ++ ys : List (den e))⟩) g5 (fun D hD off hoff e' he' => ?_) fun _ _ _ e => by cases e
      · rw [q.w] at g1
        simp [execOp, ho, resolve, hc, hargs, htys, invoke, builtin, g1]
      · simp [datOf, ofD] at hD
        subst hD
        simp at hoff
        subst hoff
        simp [tipTy] at he'
        subst he'
        obtain ⟨pp, n, cp, hs⟩ := g6.slice
        exact ⟨uv, by rw [hs, tcells_slice]; rfl, g6⟩
    unfold appendD at h5
    split at h5
    · split at h5
      · exact (fail_inv h5).elim
      · obtain ⟨d0, s4, g1, g2⟩ := bind_inv h5
        obtain ⟨m1, q1, r3, hy, e1, e2, e3, e4⟩ := asD_ok r2 g1 k4
        split at g2
        · rename_i e ys
          obtain ⟨_, s5, g3, g4⟩ := bind_inv g2
          obtain ⟨ht, rfl⟩ := chkT_inv hΓ g3
          obtain ⟨g5, g6⟩ := guardM_inv g4
          obtain ⟨_, s6, g7, g8⟩ := bind_inv g6
          obtain ⟨g9, rfl⟩ := need_inv g7
          obtain ⟨rfl, rfl⟩ := ret_inv g8
          have hx : a.eval x = .slice none 0 0 := k2
          exact last (xs := []) (ys := ys) (tt := t) (Nat.eq_of_beq_eq_true g5) ht q1 r3 (hx ▸ .inr ⟨rfl, none, 0, rfl, Nat.le_refl _, fun _ => rfl, fun a h => by cases h⟩) (hx ▸ .inl rfl) hy (by simpa [Nat.ble_eq] using g9) h6
        · exact (fail_inv g2).elim
    · rename_i e xs p
      obtain ⟨_, s5, g3, g4⟩ := bind_inv h5
      obtain ⟨ht, rfl⟩ := chkT_inv hΓ g3
      obtain ⟨g5, g6⟩ := guardM_inv g4
      obtain ⟨ys, s6, g7, g8⟩ := bind_inv g6
      obtain ⟨m1, q1, r3, hy, e1, e2, e3, e4⟩ := asT_ok r2 g7 k4
      obtain ⟨_, s7, g9, g10⟩ := bind_inv g8
      have hx1 : RepV m1.w m1.C (.sl e) xs (a.eval x) := q1.fr.to.repV k2
      obtain ⟨m2, q2, r4, htip⟩ := tipOf_ok r3 (fun t0 ht0 => by rw [e1, k3.slots, k1.slots]; exact k2' t0 ht0) (opnd_prov hΓ r h1) hx1 g9
      obtain ⟨_, s8, g11, g12⟩ := bind_inv g10
      obtain ⟨g13, rfl⟩ := need_inv g11
      obtain ⟨rfl, rfl⟩ := ret_inv g12
      exact last (xs := xs) (ys := ys) (tt := t) (Nat.eq_of_beq_eq_true g5) ht (q1.trans q2) r4 (q2.fr.to.repV hx1) htip (q2.fr.to.repV hy) (by simpa [Nat.ble_eq] using g13) h6
    · exact (fail_inv h5).elim
  · exact (fail_inv h).elim
theorem chkSl_inv (hΓ : GOk P G Γ) {t : TypeId} {u : Unit} (h : runR (chkSl Γ t) s = some (u, s')) : (∃ e, P.underlying t = some (.slice e)) ∧ s' = s := by
  unfold chkSl at h
  split at h
  · rename_i e he
    obtain ⟨_, rfl⟩ := ret_inv h
    obtain ⟨_, et, h1, _⟩ := hΓ.τ t _ he
    exact ⟨⟨et, h1⟩, rfl⟩
  · exact (fail_inv h).elim
theorem len_ok (hΓ : GOk P G Γ) (r : Rel P G Γ.vars m s a.tmps) {o : Oper} {nid : Nat} {c : Call} (ho : o.op = .call c) (hc : c.callee = .builtin .len) {u : Unit} (h : runR (evOp Γ o nid) s = some (u, s')) : Goes P G Γ.vars nid m s' o a := by
  simp only [evOp, ho, evCall, hc] at h
  split at h
  · rename_i x t hxs hts
    have hargs := arr1 hxs
    have htys := arr1 hts
    obtain ⟨V, s1, h1, h2⟩ := bind_inv h
    obtain ⟨k1, k2, k2'⟩ := opnd_ok hΓ r h1
    have r1 := r.same k1
    obtain ⟨n, s2, h3, h4⟩ := bind_inv h2
    have main : Same s1 s2 ∧ (Builtin.len_ #[t] o.type #[a.eval x]).run P m.w = .ok (.int .i64 n) m.w := by
      unfold lenD at h3
      split at h3
      · obtain ⟨_, s3, g1, g2⟩ := bind_inv h3
        obtain ⟨⟨e, ht⟩, rfl⟩ := chkSl_inv hΓ g1
        obtain ⟨rfl, rfl⟩ := ret_inv g2
        obtain ⟨pp, cap, hs, _⟩ := RepV.sl_inv k2
        exact ⟨.refl _, by rw [hs]; simp [Builtin.len_, run_underlying ht, goInt]⟩
      · obtain ⟨_, s3, g1, g2⟩ := bind_inv h3
        obtain ⟨ht, rfl⟩ := chkT_inv hΓ g1
        obtain ⟨rfl, rfl⟩ := ret_inv g2
        exact ⟨.refl _, by rw [RepV.str_eq k2, run_len_string m.w t o.type _ ht.2]; simp [goInt, ByteArray.size_mk']⟩
      · obtain ⟨_, s3, g1, g2⟩ := bind_inv h3
        obtain ⟨⟨e, ht⟩, rfl⟩ := chkSl_inv hΓ g1
        obtain ⟨rfl, rfl⟩ := ret_inv g2
        have hs : a.eval x = .slice none 0 0 := k2
        exact ⟨.refl _, by rw [hs]; simp [Builtin.len_, run_underlying ht, goInt]⟩
      · obtain ⟨ob, s3, g1, g2⟩ := bind_inv h3
        obtain ⟨g3, g4⟩ := getO_inv g1
        split at g2
        · obtain ⟨_, s4, g5, g6⟩ := bind_inv g2
          obtain ⟨⟨e, ht⟩, rfl⟩ := chkSl_inv hΓ g5
          obtain ⟨rfl, rfl⟩ := ret_inv g6
          obtain ⟨hu, hs⟩ := k2
          have ok := r1.objs _ _ g3
          rw [ok.2.2.1] at hs
          exact ⟨g4, by rw [hs]; simp [Builtin.len_, run_underlying ht, goInt]⟩
        · exact (fail_inv g2).elim
      · exact (fail_inv h3).elim
    exact fin0 (r1.same main.1) (by simp [execOp, ho, resolve, hc, hargs, htys, invoke, builtin, main.2]) h4 (V := ofI n) (RepV.int _ _) fun _ _ e => by cases e
  · exact (fail_inv h).elim
theorem max_ok (hΓ : GOk P G Γ) (r : Rel P G Γ.vars m s a.tmps) {o : Oper} {nid : Nat} {c : Call} (ho : o.op = .call c) (hc : c.callee = .builtin .max) {u : Unit} (h : runR (evOp Γ o nid) s = some (u, s')) : Goes P G Γ.vars nid m s' o a := by
  simp only [evOp, ho, evCall, hc] at h
  split at h
  · rename_i x y hxs
    have hargs := arr2 hxs
    obtain ⟨V, s1, h1, h2⟩ := bind_inv h
    obtain ⟨k1, k2, k2'⟩ := opnd_ok hΓ r h1
    have r1 := r.same k1
    obtain ⟨W, s2, h3, h4⟩ := bind_inv h2
    obtain ⟨k3, k4, k4'⟩ := opnd_ok hΓ r1 h3
    have r2 := r1.same k3
    obtain ⟨⟨j, p⟩, s3, h5, h6⟩ := bind_inv h4
    obtain ⟨rfl, hp⟩ := asIntV_ok h5 k2
    obtain ⟨⟨k, q⟩, s4, h7, h8⟩ := bind_inv h6
    obtain ⟨rfl, hq⟩ := asIntV_ok h7 k4
    simp only at hp hq h8
    split at h8
    · have hm : (if q > p then q else p) = max p q := by
        by_cases hpq : q > p
        · rw [if_pos hpq]; omega
        · rw [if_neg hpq]; omega
      exact fin0 r2 (v := .int j (max p q)) (by simp only [execOp, ho, resolve, hc, hargs, Sem.run_bind, Sem.run_pure, Result.andThen_ok, invoke, builtin]; simp [hp, hq, run_max_int2, hm]) h8 (V := ofD ⟨.int j, max p q⟩) (RepV.int _ _) fun _ _ e => by cases e
    · exact (fail_inv h8).elim
  · exact (fail_inv h).elim
end
end Go.XE
/- Operations, part L: conversions, slices of literals. -/
namespace Go.XE
section
variable {P : Program} {G : Nat → Option GV} {Γ : Env} {m : Mem} {s s' : St} {a : Act}

theorem foldl_push : ∀ (l : List Int) (r : ByteArray), l.foldl (fun r n => r.push (UInt8.ofNat n.toNat)) r = ⟨r.data ++ (l.map fun n => UInt8.ofNat n.toNat).toArray⟩
  | [], r => by simp
  | b :: l, r => by
    simp only [List.map_cons, List.foldl_cons]
    rw [foldl_push l]
    simp [ByteArray.push]
/-- A slice of bytes, looked at. -/
theorem peekBytes {vars : Nat} {tm : Array Value} (r : Rel P G vars m s tm) {V : V} {xs : List Int} {v : Value} (h : runR (peekD V) s = some (⟨.sl (.int .u8), xs⟩, s')) (hv : RV P m V v) :
    Same s s' ∧ ∃ p cap, v = .slice p xs.length cap ∧ (p = none → xs = []) ∧ ∀ ad, p = some ad → ad.spot = none ∧ ∀ (i : Nat) (y : Int), xs[i]? = some y → m.w.cell? ⟨ad.block, ad.off + i, none⟩ = some (.int .u8 y) := by
  cases V with
  | dat e p =>
    obtain ⟨h1, rfl⟩ := ret_inv h
    subst h1
    obtain ⟨p, cap, h2, h3, h4, h5⟩ := RepV.sl_inv (show RepV m.w m.C (.sl (.int .u8)) xs v from hv)
    refine ⟨.refl _, p, cap, h2, fun hp => List.length_eq_zero_iff.1 (by have := h4 hp; have h6 : xs.length ≤ cap := h3; omega), fun ad had => ⟨(h5 ad had).1, fun i y hy => ?_⟩⟩
    obtain ⟨us, g1, _, g3⟩ := (h5 ad had).2 i y hy
    have : us = [.int .u8 y] := g3
    subst this
    have := g1 0 _ rfl
    simpa [Ty.size] using this
  | own i =>
    simp only [peekD] at h
    obtain ⟨ob, s1, h1, h2⟩ := bind_inv h
    obtain ⟨h3, k1⟩ := getO_inv h1
    cases ob with
    | arr e ys fr =>
      obtain ⟨h4, rfl⟩ := ret_inv h2
      have h5 : Ty.int .u8 = e := by
        have := congrArg D.T h4
        simpa using this
      subst h5
      have h6 : xs = ys := by simpa using h4
      subst h6
      obtain ⟨hu, hs⟩ := hv
      obtain ⟨_, g1, g2, g3, g4, g5, g6, cur, et, g7, g8, g9⟩ := r.objs i _ h3
      rw [g2] at hs
      refine ⟨k1, _, _, hs, fun h => (by cases h), fun ad had => ?_⟩
      cases had
      refine ⟨rfl, fun j y hy => ?_⟩
      obtain ⟨us, c1, c2⟩ := g9 j y hy
      have : us = [.int .u8 y] := c2
      subst this
      have := c1 0 _ rfl
      simpa [Ty.size] using this
    | _ => exact (fail_inv h2).elim
  | kb b => obtain ⟨h1, _⟩ := ret_inv h; cases h1
  | _ => exact (fail_inv h).elim
theorem peek_same {V : V} {d : D} (h : runR (peekD V) s = some (d, s')) : Same s s' := by
  cases V with
  | dat e p => obtain ⟨_, rfl⟩ := ret_inv h; exact .refl _
  | own i =>
    simp only [peekD] at h
    obtain ⟨ob, s1, h1, h2⟩ := bind_inv h
    obtain ⟨h3, k1⟩ := getO_inv h1
    split at h2
    · obtain ⟨_, rfl⟩ := ret_inv h2; exact k1
    · exact (fail_inv h2).elim
  | kb b => obtain ⟨_, rfl⟩ := ret_inv h; exact .refl _
  | _ => exact (fail_inv h).elim
theorem peek_dat {V : V} {d : D} {v : Value} (h : runR (peekD V) s = some (d, s')) (hv : RV P m V v) (hd : ∀ e, d.T ≠ .sl e) : RepV m.w m.C d.T d.x v := by
  cases V with
  | dat e p => obtain ⟨rfl, rfl⟩ := ret_inv h; exact hv
  | own i =>
    simp only [peekD] at h
    obtain ⟨ob, s1, h1, h2⟩ := bind_inv h
    split at h2
    · obtain ⟨rfl, _⟩ := ret_inv h2; exact absurd rfl (hd _)
    · exact (fail_inv h2).elim
  | kb b =>
    obtain ⟨rfl, rfl⟩ := ret_inv h
    have : v = .bool b := hv
    subst this
    exact RepV.bool b
  | _ => exact (fail_inv h).elim
theorem convert_ok (hΓ : GOk P G Γ) (r : Rel P G Γ.vars m s a.tmps) {o : Oper} {nid : Nat} {t1 t2 : TypeId} {x : Operand} (ho : o.op = .convert t1 t2 x) {u : Unit} (h : runR (evOp Γ o nid) s = some (u, s')) : Goes P G Γ.vars nid m s' o a := by
  simp only [evOp, ho] at h
  obtain ⟨V, s1, h1, h2⟩ := bind_inv h
  obtain ⟨k1, k2, k2'⟩ := opnd_ok hΓ r h1
  have r1 := r.same k1
  obtain ⟨d, s2, h3, h4⟩ := bind_inv h2
  have k3 := peek_same h3
  have r2 := r1.same k3
  obtain ⟨_, s3, h5, h6⟩ := bind_inv h4
  obtain ⟨ht1, rfl⟩ := chkT_inv hΓ h5
  obtain ⟨T, s4, h7, h8⟩ := bind_inv h6
  obtain ⟨h9, rfl⟩ := lift_inv h7
  have ht2 := hΓ.τ t2 T h9
  split at h8
  · rename_i j n k
    have hx := RepV.int_eq (peek_dat h3 k2 fun e h => by cases h)
    obtain ⟨du, hu1, _⟩ := ht1.under
    exact fin0 r2 (v := .int k (k.wrap n)) (by simp [execOp, ho, hx, convert, run_underlying hu1, run_underlying ht2.2, Conv.intToInt]) h8 (V := ofD ⟨.int k, k.wrap n⟩) (RepV.int _ _) fun _ _ e => by cases e
  · rename_i xs
    obtain ⟨_, s5, g1, g2⟩ := bind_inv h8
    obtain ⟨g3, rfl⟩ := need_inv g1
    have hx := RepV.str_eq (peek_dat h3 k2 fun e h => by cases h)
    obtain ⟨et, d1, d2, d3⟩ := ht2.2
    have hrun := run_bytes_of_string (P := P) m.w t1 t2 et ⟨xs.toArray⟩ ht1.2 d1 d3.2
    have hsz : (⟨xs.toArray⟩ : ByteArray).size = xs.length := by simp [ByteArray.size_mk']
    have hge := grownCap_ge m.w (⟨xs.toArray⟩ : ByteArray).size 0 et
    generalize grownCap m.w (⟨xs.toArray⟩ : ByteArray).size 0 et = gc at hrun hge
    rw [hsz] at hge
    generalize hw : m.w.drew.alloc (.cells (bytesRow ⟨xs.toArray⟩ gc) et ((bytesRow ⟨xs.toArray⟩ gc).size, (bytesRow ⟨xs.toArray⟩ gc).size + 1)) = w' at hrun
    have hw' : w'.heap = m.w.heap.push (Go.Obj.cells (bytesRow ⟨xs.toArray⟩ gc) et ((bytesRow ⟨xs.toArray⟩ gc).size, (bytesRow ⟨xs.toArray⟩ gc).size + 1)) := by rw [← hw]; rfl
    have hb : w'.heap[m.w.heap.size]? = some (Go.Obj.cells (bytesRow ⟨xs.toArray⟩ gc) et ((bytesRow ⟨xs.toArray⟩ gc).size, (bytesRow ⟨xs.toArray⟩ gc).size + 1)) := by rw [hw']; simp
    have f := Fr.alloc m hw' .no fun j => j < xs.length
    have r3 := r2.alloc hw' .no fun j => j < xs.length
    refine fin f (fun _ h => .inl h) r3 (v := .slice (some ⟨m.w.heap.size, 0, none⟩) xs.length gc) ?_ g2 (V := ofD ⟨.sl (.int .u8), (xs.map fun b : UInt8 => ((b.toNat : Nat) : Int) : List Int)⟩) ?_ noTips fun _ _ _ e => by cases e
    · rw [hsz] at hrun
      simp [execOp, ho, hx, hrun]
      rfl
    · refine .inr ⟨rfl, some ⟨m.w.heap.size, 0, none⟩, gc, ?_, ?_, fun h => (by cases h), fun ad had => ?_⟩
      · show _ = [Value.slice _ (List.length (α := Int) (xs.map _)) gc]
        rw [List.length_map]
      · show List.length (α := Int) (xs.map _) ≤ gc
        rw [List.length_map]; exact hge
      · cases had
        refine ⟨rfl, fun i y hy => ⟨[.int .u8 y], fun j v hj => ?_, fun j hj => .inr ⟨rfl, ?_⟩, rfl⟩⟩
        · have hj0 : j = 0 := by have := (List.getElem?_eq_some_iff.1 hj).1; simp at this; exact this
          subst hj0
          simp at hj
          subst hj
          show w'.cell? _ = _
          rw [cell_of_row _ _ _ _ _ _ hb]
          have hlt : i < xs.length := by
            have : i < List.length (α := Int) (xs.map fun b : UInt8 => ((b.toNat : Nat) : Int)) := (List.getElem?_eq_some_iff.1 hy).1
            rwa [List.length_map] at this
          have hy' : y = ((xs[i].toNat : Nat) : Int) := by
            have : (xs.map fun b : UInt8 => ((b.toNat : Nat) : Int))[i]? = some y := hy
            simp [hlt] at this
            exact this.symm
          have e1 : 0 + i * (Ty.int .u8).size + 0 = i := by simp [Ty.size]
          show (bytesRow ⟨xs.toArray⟩ gc)[0 + i * (Ty.int .u8).size + 0]? = _
          rw [e1, bytesRow, Array.getElem?_append_left (by simpa using hlt), hy']
          simp [hlt]
        · have hlt : i < xs.length := by
            have : i < List.length (α := Int) (xs.map fun b : UInt8 => ((b.toNat : Nat) : Int)) := (List.getElem?_eq_some_iff.1 hy).1
            rwa [List.length_map] at this
          simp [Ty.size] at hj ⊢
          omega
  · rename_i xs
    obtain ⟨_, p, cap, g1, g2, g3⟩ := peekBytes r1 h3 k2
    obtain ⟨et, d1, d2, d3⟩ := ht1.2
    have hrun : (convert t1 t2 (a.eval x)).run P m.w = .ok (.string ⟨(xs.map fun n : Int => UInt8.ofNat n.toNat).toArray⟩) m.w := by
      rw [g1, run_convert_bytes_string m.w t1 t2 et p _ cap d1 d3.2 ht2.2]
      cases p with
      | none => rw [g2 rfl]; simp [Conv.bytesToString]; rfl
      | some ad =>
        obtain ⟨g4, g5⟩ := g3 ad rfl
        have hl := run_loadCells_list (P := P) m.w ad (xs.map (Value.int .u8)) (fun j v hj => by
          rw [addr_eta g4, add_mk]
          rw [List.getElem?_map] at hj
          cases hq : xs[j]? with
          | none => rw [hq] at hj; cases hj
          | some y => rw [hq] at hj; cases hj; exact g5 j y hq)
        rw [List.length_map] at hl
        rw [run_bytesToString m.w ad xs.length cap xs hl, foldl_push]
        simp
    exact fin0 r2 (v := .string ⟨(xs.map fun n : Int => UInt8.ofNat n.toNat).toArray⟩) (by simp [execOp, ho, hrun]) h8 (V := ofD ⟨.str, xs.map fun n : Int => UInt8.ofNat n.toNat⟩) (RepV.str _) fun _ _ e => by cases e
  · exact (fail_inv h8).elim
end
end Go.XE
/- Operations, part M: literals of slices and structs. -/
namespace Go.XE
section
variable {P : Program} {G : Nat → Option GV} {Γ : Env} {m : Mem} {s s' : St} {a : Act}

/-- A new row of our own, all its elements cold. -/
theorem newRow_ok {vars : Nat} {tm : Array Value} (r : Rel P G vars m s tm) {w' : World} {cells : Array Value} {et : TypeId} (hw : w'.heap = m.w.heap.push (Go.Obj.cells cells et (0, 0))) {e : Ty} {xs : List (den e)} {row : List Value} {N cap : Nat}
    (hN : xs.length = N) (hrow : ∀ (j : Nat) v, row[j]? = some v → cells[j]? = some v) (hreps : ∀ (i : Nat) y, xs[i]? = some y → Rep m.w m.C e y ((row.drop (i * e.size)).take e.size)) (hcap : N ≤ cap) (hsz : cap * e.size ≤ cells.size) :
    Rel P G vars (m.alloc w' (.fl 0 0) fun j => j < N * e.size) s tm ∧ Fr m (m.alloc w' (.fl 0 0) fun j => j < N * e.size) ∧
      RepV w' (m.alloc w' (.fl 0 0) fun j => j < N * e.size).C (.sl e) xs (.slice (some ⟨m.w.heap.size, 0, none⟩) N cap) ∧ TipAt (m.alloc w' (.fl 0 0) fun j => j < N * e.size) (.fl 0 0) e (.slice (some ⟨m.w.heap.size, 0, none⟩) N cap) := by
  have f := Fr.alloc m hw (.fl 0 0) fun j => j < N * e.size
  have hb : w'.heap[m.w.heap.size]? = some (Go.Obj.cells cells et (0, 0)) := by rw [hw]; simp
  refine ⟨r.alloc hw _ _, f, row_rep (row := row) hN hcap (fun j v hj => ?_) (fun j hj => .inr ⟨rfl, hj⟩) fun i y hy => f.to.rep (hreps i y hy), .inr ⟨m.w.heap.size, _, _, cells, et, rfl, ?_, hb, hcap, hsz, fun j hj => ⟨fun hc => ?_, fun hk => ?_⟩⟩⟩
  · rw [cell_of_row _ _ _ _ _ _ hb, Nat.zero_add]
    exact hrow j v hj
  · show (if _ then _ else _) = _
    rw [if_pos rfl]
  · rcases hc with hc | ⟨_, hc⟩
    · have := r.bC _ _ hc; omega
    · omega
  · have := r.bK _ _ hk; omega
theorem buildL_ok (hΓ : GOk P G Γ) {vars : Nat} {e : Ty} : ∀ {ps : List (Nat × Operand)} {n : Nat} {m : Mem} {s s' : St} {ys : List (den e)}, Rel P G vars m s a.tmps → runR (buildL Γ e ps n) s = some (ys, s') →
    ∃ m1, Quiet m m1 ∧ Rel P G vars m1 s' a.tmps ∧ ps.map (fun q => (q.1, a.eval q.2)) = ((ps.map fun q => a.eval q.2).zipIdx n).map (fun x => (x.2, x.1)) ∧ ys.length = ps.length ∧
      ∀ (i : Nat) y v, ys[i]? = some y → (ps.map fun q => a.eval q.2)[i]? = some v → RepV m1.w m1.C e y v
  | [], n, m, s, s', ys, r, h => by
    obtain ⟨rfl, rfl⟩ := ret_inv h
    exact ⟨m, .refl m, r, rfl, rfl, fun i y v h => by cases h⟩
  | (j, x) :: ps, n, m, s, s', ys, r, h => by
    simp only [buildL] at h
    cases hj : Nat.beq j n with
    | false => rw [hj] at h; exact (fail_inv h).elim
    | true =>
      have := Nat.eq_of_beq_eq_true hj
      subst this
      simp only [hj, cond_true] at h
      obtain ⟨V, s1, h1, h2⟩ := bind_inv h
      obtain ⟨k1, k2, k2'⟩ := opnd_ok hΓ r h1
      obtain ⟨y, s2, h3, h4⟩ := bind_inv h2
      obtain ⟨m1, q1, r2, hy, e1, e2, e3, e4⟩ := asT_ok (r.same k1) h3 k2
      obtain ⟨ys', s3, h5, h6⟩ := bind_inv h4
      obtain ⟨rfl, rfl⟩ := ret_inv h6
      obtain ⟨m2, q2, r3, g1, g2, g3⟩ := buildL_ok hΓ r2 h5
      refine ⟨m2, q1.trans q2, r3, by simp [g1, List.zipIdx_cons], by simp [g2], fun i z v hz hv => ?_⟩
      cases i with
      | zero =>
        simp at hz hv
        subst hz
        subst hv
        exact q2.fr.to.repV hy
      | succ i => exact g3 i z v (by simpa using hz) (by simpa using hv)
theorem buildSlice_ok (hΓ : GOk P G Γ) (r : Rel P G Γ.vars m s a.tmps) {o : Oper} {nid : Nat} {t : TypeId} {n : Nat} {ps : Array (Nat × Operand)} (ho : o.op = .buildSlice t n ps) {u : Unit} (h : runR (evOp Γ o nid) s = some (u, s')) : Goes P G Γ.vars nid m s' o a := by
  simp only [evOp, ho] at h
  obtain ⟨T, s1, h1, h2⟩ := bind_inv h
  obtain ⟨h3, rfl⟩ := lift_inv h1
  have ht := hΓ.τ t T h3
  cases T with
  | sl e =>
    simp only at h2
    cases hc : (Nat.beq n ps.toList.length && Nat.ble (n * e.size) 16777216 && Nat.blt 0 e.size) with
    | false => rw [hc] at h2; exact (fail_inv h2).elim
    | true =>
      simp only [hc, cond_true] at h2
      simp only [Bool.and_eq_true, Nat.ble_eq, Nat.blt_eq] at hc
      obtain ⟨⟨c1, c2⟩, c3⟩ := hc
      replace c1 := Nat.eq_of_beq_eq_true c1
      obtain ⟨ys, s2, h4, h5⟩ := bind_inv h2
      obtain ⟨m1, q1, r2, g1, g2, g3⟩ := buildL_ok hΓ r h4
      obtain ⟨et, d1, d2, d3⟩ := ht.2
      have d3' : TyOk P et e := d3
      obtain ⟨i0, b1, b2, b3, b4⟩ := d3'.base
      have hvs : ∀ v ∈ ps.toList.map fun q => a.eval q.2, v.cells.size = e.size := fun v hv => by
        obtain ⟨i, hi, rfl⟩ := List.mem_iff_getElem.1 hv
        have hi' : i < ys.length := by rw [g2]; simpa using hi
        have h9 := (Rep.cells (g3 i ys[i] _ (by simp [hi']) (List.getElem?_eq_getElem hi))).len
        rwa [Array.length_toList] at h9
      have hlen : ys.length = n := by rw [g2]; exact c1.symm
      have fin9 : ∀ (cells : Array Value), cells.toList = (ps.toList.map fun q => a.eval q.2).flatMap (fun v => v.cells.toList) → (Instr.buildSlice t n (ps.map fun q => (q.1, a.eval q.2))).run P m.w = .ok (.slice (some ⟨m.w.heap.size, 0, none⟩) n n) (newW m.w cells et) → Goes P G Γ.vars nid m s' o a := fun cells hcells hrun => by
        have hflat : ∀ (vs : List Value) (ys : List (den e)), vs.length = ys.length → (∀ (i : Nat) y v, ys[i]? = some y → vs[i]? = some v → RepV m1.w m1.C e y v) → (vs.flatMap fun v => v.cells.toList).length = ys.length * e.size ∧ ∀ (i : Nat) y, ys[i]? = some y → Rep m1.w m1.C e y (((vs.flatMap fun v => v.cells.toList).drop (i * e.size)).take e.size) := fun vs => by
          induction vs with
          | nil => intro ys hl _; simp at hl; have : ys = [] := List.length_eq_zero_iff.1 hl.symm; subst this; exact ⟨by simp, fun i y h => by cases h⟩
          | cons v vs ih =>
            intro ys hl hr
            cases ys with
            | nil => simp at hl
            | cons y ys =>
              obtain ⟨i1, i2⟩ := ih ys (by simpa using hl) fun i y v hy hv => hr (i + 1) y v (by simpa using hy) (by simpa using hv)
              have h0 := Rep.cells (hr 0 y v rfl rfl)
              refine ⟨by rw [List.flatMap_cons, List.length_append, h0.len, i1, List.length_cons, Nat.succ_mul, Nat.add_comm], fun i z hz => ?_⟩
              rw [List.flatMap_cons]
              cases i with
              | zero => simp at hz; subst hz; simpa [← h0.len] using h0
              | succ i =>
                rw [Nat.succ_mul, Nat.add_comm, take_drop_append _ _ _ _ h0.len]
                exact i2 i z (by simpa using hz)
        obtain ⟨f1, f2⟩ := hflat (ps.toList.map fun q => a.eval q.2) ys (by rw [g2]; simp) g3
        rw [← hcells] at f1 f2
        obtain ⟨r3, fr, hrep, htip⟩ := newRow_ok r2 (w' := newW m.w cells et) (cells := cells) (et := et) (by rw [q1.w]; rfl) (row := cells.toList) hlen (fun j v hj => by simpa using hj) f2 (Nat.le_refl n) (by
          have : cells.size = ys.length * e.size := by rw [← f1]; simp
          rw [this, hlen]; exact Nat.le_refl _)
        have hst : (m1.alloc (newW m.w cells et) (.fl 0 0) fun j => j < n * e.size).w = newW m.w cells et := rfl
        refine fin (q1.fr.trans fr) (fun id hid => .inl (by rw [← q1.U]; exact hid)) r3 (v := .slice (some ⟨m1.w.heap.size, 0, none⟩) n n) ?_ h5 (V := ofD ⟨.sl e, ys⟩) hrep (fun D hD off hoff e' he' => ?_) fun _ _ _ e => by cases e
        · rw [hst]
          simp only [execOp, ho, Sem.run_bind]
          have hrun' : (Instr.buildSlice t n (ps.map fun (x : Nat × Operand) => match x with | (i, x) => (i, a.eval x))).run P m.w = _ := hrun
          rw [hrun', q1.w]
          rfl
        · simp [datOf, ofD] at hD
          subst hD
          simp at hoff
          subst hoff
          simp [tipTy] at he'
          subst he'
          exact ⟨_, rfl, htip⟩
      by_cases hn0 : n = 0
      · subst hn0
        have hps : ps.toList = [] := List.length_eq_zero_iff.1 c1.symm
        have hps' : ps = #[] := by apply Array.ext'; simpa using hps
        refine fin9 #[] (by rw [hps]; rfl) ?_
        have hr0 : Array.range 0 = #[] := rfl
        simp [Instr.buildSlice, run_underlying d1, run_sizeOf d3', hps', Instr.fill, newRow, newObj, Sem.run, newW, hr0]
      · have hfill := Great.fill_whole c3 (ps.toList.map fun q => a.eval q.2) ((Array.range (n * e.size)).map ((zeroV e).cells[· % (zeroV e).cells.size]!)) hvs (by simp [c1])
        have hrun := run_buildSlice (P := P) m.w t et n (ps.map fun q => (q.1, a.eval q.2)) _ i0 (zeroV e) d1 b1 b4 (by rw [b2]; omega) (by rw [b2]; have := Nat.mul_pos (Nat.pos_of_ne_zero hn0) c3; omega) (by rw [b2, Array.toList_map, g1]; exact hfill)
        exact fin9 _ (by simp) hrun
  | _ => exact (fail_inv h2).elim
end
end Go.XE
/- Operations, part N: literals of structs; all operations but calls. -/
namespace Go.XE
section
variable {P : Program} {G : Nat → Option GV} {Γ : Env} {m : Mem} {s s' : St} {a : Act}

theorem places_ok : ∀ {T : Ty} {off : Nat} {fs : List Field}, (TyQ P T).2 off fs → ∃ places, fs.mapM (fun f => (P.info? f.type).map fun i => (f.offset, i.size)) = some places ∧
    ∀ j o U, fieldOff T j = some (o, U) → places[j]? = some (off + o, U.size)
  | .unit, off, fs, h => by
    have : fs = [] := h
    subst this
    exact ⟨[], rfl, fun j o U h => by simp [fieldOff] at h⟩
  | .pair a b, off, fs, h => by
    obtain ⟨f, r, rfl, h1, h2, h3, h4⟩ := h
    obtain ⟨ps, k1, k2⟩ := places_ok h4
    obtain ⟨i0, b1, b2, _⟩ := TyOk.base (P := P) (T := a) (t := f.type) h3
    refine ⟨(f.offset, i0.size) :: ps, by simp [b1, k1], fun j o U hj => ?_⟩
    cases j with
    | zero =>
      simp [fieldOff] at hj
      obtain ⟨rfl, rfl⟩ := hj
      simp [h1, b2]
    | succ j =>
      simp only [fieldOff] at hj
      split at hj
      · rename_i q t hq
        simp at hj
        obtain ⟨rfl, rfl⟩ := hj
        have := k2 j _ _ hq
        simp [this]; omega
      · cases hj
  | .int _, _, _, h => h.elim
  | .bool, _, _, h => h.elim
  | .str, _, _, h => h.elim
  | .sl _, _, _, h => h.elim
theorem fill_step (place : Nat → Option (Nat × Nat)) (cells : Array Value) (j : Nat) (v : Value) (rest : List (Nat × Value)) (off n : Nat) (hp : place j = some (off, n)) (hn : v.cells.size = n) (hle : off + n ≤ cells.size) :
    ∃ cells' : Array Value, Instr.fill place cells ((j, v) :: rest) = Instr.fill place cells' rest ∧ cells'.toList = cells.toList.take off ++ v.cells.toList ++ cells.toList.drop (off + n) := by
  obtain ⟨g1, g2⟩ := Great.foldl_set off v.cells.toList 0 cells
  refine ⟨(v.cells.toList.zipIdx 0).foldl (fun cs (x : Value × Nat) => cs.setIfInBounds (off + x.2) x.1) cells, ?_, ?_⟩
  · conv => lhs; unfold Instr.fill
    simp only [hp]
    rw [if_neg (by simp [hn]; omega)]
    congr 1
    rw [← Array.toList_zipIdx, Array.foldl_toList]
  · apply List.ext_getElem?
    intro k
    rw [splice_get cells.toList v.cells.toList off n (by simp [hn]) (by simpa using hle)]
    rw [Array.getElem?_toList, g2 k, Array.getElem?_toList]
    simp only [Array.length_toList, hn, Nat.add_zero]
    by_cases h : off ≤ k ∧ k < off + n
    · rw [if_pos ⟨h.1, h.2, by omega⟩, if_pos h]
      try simp
    · rw [if_neg (by omega), if_neg h]
      try simp
def toFl1 (q : Nat) : Lab → Lab
  | .fl 0 off => .fl 1 (q + off)
  | l => l
def toFl0 : Lab → Lab
  | .fl 1 off => .fl 0 off
  | l => l
theorem buildD_ok (hΓ : GOk P G Γ) {vars : Nat} {T : Ty} {place : Nat → Option (Nat × Nat)} (hplace : ∀ j o U, fieldOff T j = some (o, U) → place j = some (o, U.size)) :
    ∀ {ps : List (Nat × Operand)} {m : Mem} {s s' : St} {d : D} {ts : List Nat} {cells : Array Value} {res : D × List Nat}, Rel P G vars m s a.tmps → d.T = T → Rep m.w m.C d.T d.x cells.toList → TipsAt m (.fl 1) T cells.toList ts →
      runR (buildD Γ T ps d ts) s = some (res, s') →
      ∃ (m1 : Mem) (cells' : Array Value), m1.w = m.w ∧ Fr m m1 ∧ m1.U = m.U ∧ Rel P G vars m1 s' a.tmps ∧ Instr.fill place cells (ps.map fun q => (q.1, a.eval q.2)) = some cells' ∧ res.1.T = T ∧ Rep m1.w m1.C res.1.T res.1.x cells'.toList ∧ TipsAt m1 (.fl 1) T cells'.toList res.2
  | [], m, s, s', d, ts, cells, res, r, hd, hr, ht, h => by
    obtain ⟨rfl, rfl⟩ := ret_inv h
    exact ⟨m, cells, rfl, .refl m, rfl, r, rfl, hd, hr, ht⟩
  | (j, x) :: ps, m, s, s', d, ts, cells, res, r, hd, hr, ht, h => by
    simp only [buildD] at h
    obtain ⟨V, s1, h1, h2⟩ := bind_inv h
    obtain ⟨k1, k2, k2'⟩ := opnd_ok hΓ r h1
    obtain ⟨q, s2, h3, h4⟩ := bind_inv h2
    obtain ⟨h5, rfl⟩ := lift_inv h3
    obtain ⟨y, s3, h6, h7⟩ := bind_inv h4
    obtain ⟨m1, q1, r2, hy, e1, e2, e3, e4⟩ := asT_ok (r.same k1) h6 k2
    obtain ⟨us, s4, h8, h9⟩ := bind_inv h7
    obtain ⟨m2, q2, r3, e5, e6, e7, e8, f1⟩ := takeTips_ok r2 h8
    obtain ⟨d', s5, h10, h11⟩ := bind_inv h9
    obtain ⟨h12, rfl⟩ := lift_inv h10
    have hl : ∀ l, Live s5 l → toFl1 q.1 l = l := fun l h => by cases l <;> first | rfl | exact h.elim
    have f3 : Fr m2 (m2.relabel (toFl1 q.1)) := .relabel m2 rfl
    have r4 := r3.relabel (ρ := toFl1 q.1) rfl hl
    have fr := (q1.fr.trans q2.fr).trans f3
    have hw : (m2.relabel (toFl1 q.1)).w = m.w := q2.w.trans q1.w
    have hy3 : RepV (m2.relabel (toFl1 q.1)).w (m2.relabel (toFl1 q.1)).C q.2 y (a.eval x) := q2.fr.to.repV hy
    obtain ⟨hyc, htc⟩ := RepV.tcells hy3
    have hvs : (a.eval x).cells.size = q.2.size := by
      have := hyc.len
      rw [htc, Array.length_toList] at this
      exact this
    have hle : q.1 + q.2.size ≤ cells.size := by
      have := fieldOff_le h5
      have hl := hr.len
      rw [Array.length_toList, hd] at hl
      omega
    obtain ⟨cells', g1, g2⟩ := fill_step place cells j (a.eval x) (ps.map fun q => (q.1, a.eval q.2)) q.1 q.2.size (hplace j q.1 q.2 h5) hvs hle
    obtain ⟨hdT, o', c1, c2⟩ := Rep.setp h12 (fr.to.rep hr) (us := tcells (a.eval x)) hyc
    have e10 : o' = q.1 := by
      simp only [pathOff, hd, h5] at c1
      have := congrArg Prod.fst (Option.some.inj c1)
      simpa using this.symm
    subst e10
    rw [htc, ← g2] at c2
    have ht' : TipsAt (m2.relabel (toFl1 q.1)) (.fl 1) T cells'.toList (outRange q.1 q.2.size ts ++ shiftN q.1 (inRange 0 q.2.size (tipsFor V us))) := fun off hoff e he => by
      rw [g2]
      rcases List.mem_append.1 hoff with hoff | hoff
      · obtain ⟨hoff, hno⟩ := mem_outRange.1 hoff
        obtain ⟨v, c3, c4⟩ := ht off hoff e he
        refine ⟨v, ?_, (q2.tip _ _ _ _ (q1.tip _ _ _ _ c4)).relabel (ρ := toFl1 q.1)⟩
        rw [splice_get _ _ _ _ (by simp [hvs]) (by simpa using hle), if_neg hno]
        exact c3
      · obtain ⟨k, hk, rfl⟩ := mem_shiftN.1 hoff
        obtain ⟨hk1, hk2⟩ := mem_inRange.1 hk
        rw [Nat.zero_add] at hk1
        rw [tipTy_fieldEq h5 hk2] at he
        have tip : ∃ v, (tcells (a.eval x))[k]? = some v ∧ TipAt m2 (.fl 0 k) e v := by
          rcases e4 with ⟨rfl, hx⟩ | ⟨p', rfl⟩ | hdn
          · simp [tipsFor] at hk1
            subst hk1
            rw [hx]
            exact ⟨_, rfl, .inl rfl⟩
          · cases x with
            | tmp t0 => exact f1 t0 rfl ⟨q.2, y⟩ (by rw [e1, k1.slots, ← k2' t0 rfl]; rfl) k hk1 e he
            | const c => simp only [takeTips] at h8; obtain ⟨rfl, _⟩ := ret_inv h8; cases hk1
            | global c => simp only [takeTips] at h8; obtain ⟨rfl, _⟩ := ret_inv h8; cases hk1
            | func c => simp only [takeTips] at h8; obtain ⟨rfl, _⟩ := ret_inv h8; cases hk1
          · cases V <;> first | (cases hk1; done) | (cases hdn; done) | (simp [tipsFor] at hk1; done) | skip
            have hx : a.eval x = .slice none 0 0 := k2
            simp [tipsFor] at hk1
            subst hk1
            rw [hx]
            exact ⟨_, rfl, .inl rfl⟩
        obtain ⟨v, c3, c4⟩ := tip
        refine ⟨v, ?_, c4.relabel (ρ := toFl1 q.1)⟩
        rw [splice_get _ _ _ _ (by simp [hvs]) (by simpa using hle), if_pos (by omega), show q.1 + k - q.1 = k by omega, ← htc]
        exact c3
    obtain ⟨m5, cells5, x1, x2, x3, x4, x5, x6, x7, x8⟩ := buildD_ok hΓ hplace r4 (hdT.trans hd) c2 ht' h11
    refine ⟨m5, cells5, x1.trans hw, fr.trans x2, x3.trans ?_, x4, ?_, x6, x7, x8⟩
    · show m2.U = m.U
      rw [q2.U, q1.U]
    · rw [List.map_cons, g1]; exact x5
theorem build_ok (hΓ : GOk P G Γ) (r : Rel P G Γ.vars m s a.tmps) {o : Oper} {nid : Nat} {t : TypeId} {ps : Array (Nat × Operand)} (ho : o.op = .build t ps) {u : Unit} (h : runR (evOp Γ o nid) s = some (u, s')) : Goes P G Γ.vars nid m s' o a := by
  simp only [evOp, ho] at h
  obtain ⟨T, s1, h1, h2⟩ := bind_inv h
  obtain ⟨h3, rfl⟩ := lift_inv h1
  have ht := hΓ.τ t T h3
  cases hst : T.isSt with
  | false => rw [hst] at h2; exact (fail_inv h2).elim
  | true =>
    simp only [hst, cond_true] at h2
    obtain ⟨res, s2, h4, h5⟩ := bind_inv h2
    obtain ⟨i0, b1, b2, b3, b4⟩ := ht.base
    have hfs : ∃ fs, P.underlying t = some (.struct fs) ∧ (TyQ P T).2 0 fs.toList := by
      cases T with
      | unit => obtain ⟨_, fs, h6, h7⟩ := ht; exact ⟨fs, h6, h7⟩
      | pair a b => obtain ⟨_, fs, h6, h7⟩ := ht; exact ⟨fs, h6, h7⟩
      | _ => cases hst
    obtain ⟨fs, h6, h7⟩ := hfs
    obtain ⟨places, p1, p2⟩ := places_ok h7
    obtain ⟨m1, cells', x1, x2, x3, x4, x5, x6, x7, x8⟩ := buildD_ok hΓ (place := fun j => places.toArray[j]?) (fun j o U hj => by simpa using p2 j o U hj) r (d := ⟨T, dflt T⟩) rfl (by rw [zeroV_cells]; exact zero_rep _ _ T)
      (fun off _ e he => ⟨_, by rw [zeroV_cells]; exact zero_tips T off e he, .inl rfl⟩) h4
    have hrun := run_build (P := P) m.w t (ps.map fun q => (q.1, a.eval q.2)) cells' (by simp only [Program.built, b1, h6, b4, p1, Array.toList_map]; exact x5)
    have hl : ∀ l, Live s2 l → toFl0 l = l := fun l h => by cases l <;> first | rfl | exact h.elim
    have f3 : Fr m1 (m1.relabel toFl0) := .relabel m1 rfl
    have r4 := x4.relabel (ρ := toFl0) rfl hl
    refine fin (x2.trans f3) (fun id hid => .inl (by rw [← x3]; exact hid)) r4 (v := .agg cells') ?_ h5 (V := ofD res.1) (.inl ⟨by rw [x6]; exact hst, cells', rfl, x7⟩) (fun D hD off hoff e he => ?_) fun _ _ _ e => by cases e
    · have hrun' : (Instr.build t (ps.map fun (x : Nat × Operand) => match x with | (i, x) => (i, a.eval x))).run P m.w = _ := hrun
      simp only [execOp, ho, Sem.run_bind]
      rw [hrun', ← x1]
      rfl
    · simp [datOf, ofD] at hD
      subst hD
      rw [x6] at he
      obtain ⟨v, c1, c2⟩ := x8 off hoff e he
      exact ⟨v, c1, c2.relabel (ρ := toFl0)⟩
end
end Go.XE
