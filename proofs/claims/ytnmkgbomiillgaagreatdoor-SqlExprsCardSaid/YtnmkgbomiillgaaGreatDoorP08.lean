/- Part 8 of the proof. -/
import Derived.Test.YtnmkgbomiillgaaGreatDoorP07
/- Code: what holds behind it. -/
namespace Go.XE
section
variable {P : Program} {G : Nat → Option GV} {Γ : Env} {m : Mem} {s s' : St} {a : Act}

/-- How a frame's memory goes on; of the numbers of objects those below 'low' alone. -/
structure FrL (low : Nat) (m m' : Mem) : Prop where
  pre : Pre (fun b j => m.C b j ∨ m.K b j) m.w m'.w
  C : ∀ b j, m.C b j → m'.C b j
  K : m'.K = m.K
  gC : ∀ b j, m'.C b j → b < m.w.heap.size → m.C b j ∨ ¬ m.K b j
  no : ∀ b, b < m.w.heap.size → m.L b = .no → m'.L b = .no
  ad : ∀ id, id < low → m.U id → m'.U id ∧ m'.ad id = m.ad id
theorem Fr.low {m m' : Mem} (h : Fr m m') (low : Nat) : FrL low m m' := ⟨h.to.pre, h.to.C, h.to.K, h.gC, h.no, fun id _ hu => ⟨h.to.U id hu, h.to.ad id hu⟩⟩
theorem FrL.trans {low : Nat} {m m' m'' : Mem} (h : FrL low m m') (k : FrL low m' m'') : FrL low m m'' := {
  pre := h.pre.trans k.pre fun b j _ hs => hs.elim (fun a => .inl (h.C _ _ a)) fun a => .inr (by rw [h.K]; exact a)
  C b j hc := k.C _ _ (h.C _ _ hc)
  K := k.K.trans h.K
  gC b j hc hb := by
    rcases k.gC b j hc (Nat.lt_of_lt_of_le hb h.pre.size) with h1 | h1
    · exact h.gC b j h1 hb
    · exact .inr (by rw [← h.K]; exact h1)
  no b hb hl := k.no b (Nat.lt_of_lt_of_le hb h.pre.size) (h.no b hb hl)
  ad id hid hu := by
    obtain ⟨h1, h2⟩ := h.ad id hid hu
    obtain ⟨k1, k2⟩ := k.ad id hid h1
    exact ⟨k1, k2.trans h2⟩ }
theorem FrL.shrink (low : Nat) (m : Mem) {n : Nat} (h : low ≤ n) : FrL low m (m.shrink n) :=
  ⟨.refl _ _, fun _ _ h => h, rfl, fun _ _ h _ => .inl h, fun _ _ h => h, fun id hid hu => ⟨⟨hu, by omega⟩, rfl⟩⟩
def Leaf.exit : Leaf → Exit
  | .norm _ => .normal
  | .ext i _ => .exit i
  | .ret _ => .ret
/-- Behind a piece of code: the leaf. -/
def LeafOk (P : Program) (G : Nat → Option GV) (vars low : Nat) (m0 : Mem) (a0 : Act) (leaf : Leaf) : Exit → Act → World → Prop := fun e a' w' =>
  ∃ m' : Mem, m'.w = w' ∧ Rel P G vars m' leaf.st a'.tmps ∧ FrL low m0 m' ∧ (∀ id, m'.U id → id < leaf.st.next) ∧ a'.tmps.size = a0.tmps.size ∧ a'.defers = a0.defers ∧ e = leaf.exit
theorem LeafOk.le {vars low n : Nat} {m0 : Mem} {a0 a' : Act} {l0 l : Leaf} {e : Exit} {w' : World} (h : LeafOk P G vars low m0 a0 l0 e a' w') (hle : LeafLe n l0 l) (hn : n ≤ a0.tmps.size) : LeafOk P G vars low m0 a0 l e a' w' := by
  obtain ⟨m', h1, h2, h3, h4, h5, h6, h7⟩ := h
  refine ⟨m', h1, h2.stLe hle.st (by rw [h5]; exact hn), h3, fun id hid => Nat.lt_of_lt_of_le (h4 id hid) hle.st.next, h5, h6, ?_⟩
  cases hle <;> exact h7
def RegOk (P : Program) (G : Nat → Option GV) (Γ : Env) (low : Nat) : Prop := ∀ (id : Nat) (ops : Array Oper) (draw : Bool) (m : Mem) (s : St) (a : Act) (leaf : Leaf), Rel P G Γ.vars m s a.tmps → (∀ id, m.U id → id < s.next) →
  (evRegion Γ id ops draw s).res = some leaf → (Code.region id ops draw).wp P (LeafOk P G Γ.vars low m a leaf) a m.w
def LoopOk (P : Program) (G : Nat → Option GV) (Γ : Env) (low : Nat) (c : Code) (f : St → Out) : Prop := ∀ (m : Mem) (s : St) (a : Act) (leaf : Leaf), Rel P G Γ.vars m s a.tmps → (∀ id, m.U id → id < s.next) →
  (f s).res = some leaf → (Code.loop c).wp P (LeafOk P G Γ.vars low m a leaf) a m.w
/-- The bodies of the outermost loops. -/
def loopsIn : Code → List Code
  | .seq a b => loopsIn a ++ loopsIn b
  | .cond _ a b => loopsIn a ++ loopsIn b
  | .block _ c => loopsIn c
  | .loop c => [c]
  | _ => []
theorem LeafOk.then {vars low : Nat} {m m1 : Mem} {a a1 : Act} {l : Leaf} (hf : FrL low m m1) (hs : a1.tmps.size = a.tmps.size) (hd : a1.defers = a.defers) {e : Exit} {a' : Act} {w' : World} (h : LeafOk P G vars low m1 a1 l e a' w') : LeafOk P G vars low m a l e a' w' := by
  obtain ⟨m', h1, h2, h3, h4, h5, h6, h7⟩ := h
  exact ⟨m', h1, h2, hf.trans h3, h4, h5.trans hs, h6.trans hd, h7⟩
theorem code_ok {low : Nat} (hR : RegOk P G Γ low) (hA : HooksAll Γ) : ∀ (c : Code), (∀ c' ∈ loopsIn c, ∀ f, Γ.loops (firstRegion c') = some f → LoopOk P G Γ low c' f) →
    ∀ (m : Mem) (s : St) (a : Act) (leaf : Leaf), Rel P G Γ.vars m s a.tmps → (∀ id, m.U id → id < s.next) → (evCode Γ c s).res = some leaf → c.wp P (LeafOk P G Γ.vars low m a leaf) a m.w
  | .skip, _, m, s, a, leaf, r, hU, h => by
    cases h
    exact wp_skip ⟨m, rfl, r, (Fr.refl m).low low, hU, rfl, rfl, rfl⟩
  | .region id ops draw, _, m, s, a, leaf, r, hU, h => hR id ops draw m s a leaf r hU h
  | .seq x y, hL, m, s, a, leaf, r, hU, h => by
    simp only [evCode, res_bind] at h
    cases hx : (evCode Γ x s).res with
    | none => rw [hx] at h; cases h
    | some l0 =>
      rw [hx] at h
      have h1 := code_ok hR hA x (fun c' hc => hL c' (by simp [loopsIn, hc])) m s a l0 r hU hx
      refine wp_seq (wp_mono h1 fun e a1 w1 hl => ?_)
      obtain ⟨m1, e1, r1, f1, u1, s1, d1, x1⟩ := hl
      cases l0 with
      | norm s2 =>
        subst x1
        subst e1
        show y.wp P _ a1 m1.w
        exact wp_mono (code_ok hR hA y (fun c' hc => hL c' (by simp [loopsIn, hc])) m1 s2 a1 leaf r1 u1 h) fun e a2 w2 h2 => h2.then f1 s1 d1
      | ext i s2 =>
        subst x1
        cases h
        exact ⟨m1, e1, r1, f1, u1, s1, d1, rfl⟩
      | ret s2 =>
        subst x1
        cases h
        exact ⟨m1, e1, r1, f1, u1, s1, d1, rfl⟩
  | .exit id, _, m, s, a, leaf, r, hU, h => by
    cases h
    exact wp_exit ⟨m, rfl, r, (Fr.refl m).low low, hU, rfl, rfl, rfl⟩
  | .ret, _, m, s, a, leaf, r, hU, h => by
    cases h
    exact wp_ret ⟨m, rfl, r, (Fr.refl m).low low, hU, rfl, rfl, rfl⟩
  | .loop c, hL, m, s, a, leaf, r, hU, h => by
    simp only [evCode] at h
    split at h
    · rename_i f hf
      exact hL c (by simp [loopsIn]) f hf m s a leaf r hU h
    · cases h
  | .block id c, hL, m, s, a, leaf, r, hU, h => by
    obtain ⟨l0, h1, h2⟩ := catch_res (S0 := s) (evCode_all hA c s s (.refl s)) h
    refine wp_block (wp_mono (code_ok hR hA c hL m s a l0 r hU h1) fun e a1 w1 hl => ?_)
    obtain ⟨m1, e1, r1, f1, u1, s1, d1, x1⟩ := hl
    subst x1
    cases l0 with
    | norm s2 => exact LeafOk.le (l0 := .norm s2) ⟨m1, e1, r1, f1, u1, s1, d1, rfl⟩ h2 r.len
    | ret s2 => exact LeafOk.le (l0 := .ret s2) ⟨m1, e1, r1, f1, u1, s1, d1, rfl⟩ h2 r.len
    | ext i s2 =>
      replace h2 : LeafLe s.slots.length (cond (Nat.beq i id) (.norm s2) (.ext i s2)) leaf := h2
      show (if i = id then _ else _)
      by_cases hi : i = id
      · subst hi
        rw [if_pos rfl]
        rw [show Nat.beq i i = true by simp] at h2
        exact LeafOk.le (l0 := .norm s2) ⟨m1, e1, r1, f1, u1, s1, d1, rfl⟩ h2 r.len
      · rw [if_neg hi]
        rw [nbeq hi] at h2
        exact LeafOk.le (l0 := .ext i s2) ⟨m1, e1, r1, f1, u1, s1, d1, rfl⟩ h2 r.len
  | .cond c x y, hL, m, s, a, leaf, r, hU, h => by
    cases c with
    | tmp t =>
      have hs := r.slots t
      simp only [evCode] at h
      split at h
      · rename_i hV
        rw [hV] at hs
        exact wp_cond_true (show a.eval (.tmp t) = .bool true from hs) (code_ok hR hA x (fun c' hc => hL c' (by simp [loopsIn, hc])) m s a leaf r hU h)
      · rename_i hV
        rw [hV] at hs
        exact wp_cond_false (show a.eval (.tmp t) = .bool false from hs) (code_ok hR hA y (fun c' hc => hL c' (by simp [loopsIn, hc])) m s a leaf r hU h)
      · rename_i b p hV
        rw [hV] at hs
        have hb : a.eval (.tmp t) = .bool b := RepV.bool_eq hs
        obtain ⟨l0, h1, h2⟩ := mkBr_res (b := s) (evCode_all hA x s _ (agr_slot (S0 := s) (.refl s) t _)) (evCode_all hA y s _ (agr_slot (S0 := s) (.refl s) t _)) h
        have r' : Rel P G Γ.vars m { s with slots := setV s.slots t (.kb b), dirty := [.slot t], all := false } a.tmps := (r.le (kb_le b t s ⟨p, hV⟩)).same ⟨rfl, rfl, rfl, rfl, rfl⟩
        cases b with
        | true => exact wp_cond_true hb (wp_mono (code_ok hR hA x (fun c' hc => hL c' (by simp [loopsIn, hc])) m _ a l0 r' hU h1) fun e a1 w1 hl => hl.le h2 r.len)
        | false => exact wp_cond_false hb (wp_mono (code_ok hR hA y (fun c' hc => hL c' (by simp [loopsIn, hc])) m _ a l0 r' hU h1) fun e a1 w1 hl => hl.le h2 r.len)
      · cases h
    | _ => simp only [evCode] at h; cases h
  | .rangeFunc .., _, _, _, _, _, _, _, h => by cases h
  | .scope _, _, _, _, _, _, _, _, h => by cases h
  | .label _, _, _, _, _, _, _, _, h => by cases h
  | .goto _, _, _, _, _, _, _, _, h => by cases h
  | .refuse _, _, _, _, _, _, _, _, h => by cases h
end
end Go.XE
/- Loops, round by round. -/
namespace Go.XE
/-- A loop that stands before a round. -/
def InLoop (P : Program) (c : Code) (Q : Exit → Act → World → Prop) (a : Act) (w : World) : Prop :=
  ∀ (b : Frame) (k : List Item) (cs : List Frame), ∃ e a' w', Q e a' w' ∧ Arrives P (lone (b.at a (.code c :: .inLoop c :: k)) cs w) b k cs e a' w'
theorem loop_of_in {P : Program} {c : Code} {Q : Exit → Act → World → Prop} {a : Act} {w : World} (h : InLoop P c Q a w) : (Code.loop c).wp P Q a w := fun b k cs => by
  obtain ⟨e, a', w', hq, harr⟩ := h b k cs
  exact ⟨e, a', w', hq, .of_steps (.one step_loop) harr⟩
theorem in_round {P : Program} {c : Code} {Q : Exit → Act → World → Prop} {a : Act} {w : World} (h : c.wp P (Exit.then (InLoop P c Q) Q) a w) : InLoop P c Q a w := fun b k cs => by
  obtain ⟨e, a₁, w₁, hq, harr⟩ := h b (.inLoop c :: k) cs
  cases e with
  | normal =>
    obtain ⟨e₂, a₂, w₂, hq₂, harr₂⟩ := hq b k cs
    exact ⟨e₂, a₂, w₂, hq₂, .of_steps (Steps.trans harr (.one step_inLoop)) harr₂⟩
  | exit id => exact ⟨_, a₁, w₁, hq, .pass (x := .inLoop c) rfl (fun _ _ => .inl (by simp)) harr⟩
  | goto l => exact ⟨_, a₁, w₁, hq, .pass (x := .inLoop c) rfl (fun _ _ => .inl (by simp)) harr⟩
  | ret => exact ⟨_, a₁, w₁, hq, .pass (x := .inLoop c) rfl (fun _ _ => .inl (by simp)) harr⟩
  | panic ch => exact ⟨_, a₁, w₁, hq, .pass (x := .inLoop c) rfl (fun _ _ => .inl (by simp)) harr⟩
  | outgrown => exact ⟨_, a₁, w₁, hq, .pass (x := .inLoop c) rfl (fun _ _ => .inl (by simp)) harr⟩
theorem mergeO_cond {β : Type} (c : Bool) (a b : Option β) : mergeO c a b = cond c a b := by
  cases a <;> cases b <;> cases c <;> rfl
/-- A round's end. -/
def Loop.ends (l : Loop) (f : l.head.H → Option l.Y) : Leaf → Option l.Y
  | .norm s => (l.head.load s).bind f
  | .ext j s => cond (Nat.beq j l.id) ((l.out.load s).bind fun y => some (l.mkOut y)) none
  | .ret s => l.mkBack s
theorem round_res (l : Loop) (f : l.head.H → Option l.Y) : ∀ o : Out, o.round l f = o.res.bind (l.ends f)
  | .norm s => by simp only [Out.round, Out.res, Option.bind_some, Loop.ends]; cases l.head.load s <;> rfl
  | .ext j s => by simp only [Out.round, Out.res, Option.bind_some, Loop.ends]; cases l.out.load s <;> rfl
  | .ret s => rfl
  | .br c t e => by simp only [Out.round, mergeO_cond, Out.res, round_res l f t, round_res l f e]; cases c <;> rfl
  | .need c o => by simp only [Out.round, Out.res, round_res l f o]; cases c <;> rfl
  | .opt d o k => by cases o <;> simp [Out.round, Out.res, round_res l f]
  | .bad => rfl
/-! ### The loops of a function -/
def Loop.okB (low : Nat) (l : Loop) : Bool :=
  Nat.ble low l.head.next && (Nat.ble low l.out.next && Nat.ble l.out.ntmps l.head.ntmps) && (match l.back with | none => true | some b => Nat.ble low b.next && Nat.ble b.ntmps l.head.ntmps)
structure LoopE where
  r : Nat
  L : Loop
  H : Nat → L.head.H → Option L.Y
def loopsOf : List LoopE → Nat → Nat → Option (St → Out)
  | [], _, _ => none
  | e :: t, k, r => cond (Nat.beq e.r r) (some (e.L.enter (e.H k))) (loopsOf t k r)
theorem loopsOf_some {k r : Nat} {f : St → Out} : ∀ {tbl : List LoopE}, loopsOf tbl k r = some f → ∃ e ∈ tbl, e.r = r ∧ f = e.L.enter (e.H k)
  | [], h => by cases h
  | e :: t, h => by
    simp only [loopsOf] at h
    cases hb : Nat.beq e.r r with
    | true => rw [hb] at h; cases h; exact ⟨e, List.mem_cons_self, Nat.eq_of_beq_eq_true hb, rfl⟩
    | false => rw [hb] at h; obtain ⟨e', h1, h2⟩ := loopsOf_some h; exact ⟨e', List.mem_cons_of_mem _ h1, h2⟩
def allLoops : Code → List Code
  | .seq a b => allLoops a ++ allLoops b
  | .cond _ a b => allLoops a ++ allLoops b
  | .block _ c => allLoops c
  | .loop c => c :: allLoops c
  | _ => []
theorem findLoop_eq (r : Nat) : ∀ c : Code, findLoop r c = (allLoops c).find? fun d => Nat.beq (firstRegion d) r
  | .seq a b => by
    simp only [findLoop, allLoops, List.find?_append, findLoop_eq r a, findLoop_eq r b]
    cases (allLoops a).find? _ <;> rfl
  | .cond _ a b => by
    simp only [findLoop, allLoops, List.find?_append, findLoop_eq r a, findLoop_eq r b]
    cases (allLoops a).find? _ <;> rfl
  | .block _ c => by simp only [findLoop, allLoops, findLoop_eq r c]
  | .loop c => by
    simp only [findLoop, allLoops, List.find?_cons, findLoop_eq r c]
    cases Nat.beq (firstRegion c) r <;> rfl
  | .skip => rfl
  | .region _ _ _ => rfl
  | .exit _ => rfl
  | .ret => rfl
  | .rangeFunc .. => rfl
  | .scope _ => rfl
  | .label _ => rfl
  | .goto _ => rfl
  | .refuse _ => rfl
theorem loopsIn_all {d : Code} : ∀ {c : Code}, d ∈ loopsIn c → d ∈ allLoops c
  | .seq a b, h => by
    rcases List.mem_append.1 h with h | h
    · exact List.mem_append_left _ (loopsIn_all h)
    · exact List.mem_append_right _ (loopsIn_all h)
  | .cond _ a b, h => by
    rcases List.mem_append.1 h with h | h
    · exact List.mem_append_left _ (loopsIn_all h)
    · exact List.mem_append_right _ (loopsIn_all h)
  | .block _ c, h => loopsIn_all (c := c) h
  | .loop c, h => by
    simp only [loopsIn, List.mem_singleton] at h
    subst h
    exact List.mem_cons_self
  | .skip, h => by cases h
  | .region _ _ _, h => by cases h
  | .exit _, h => by cases h
  | .ret, h => by cases h
  | .rangeFunc .., h => by cases h
  | .scope _, h => by cases h
  | .label _, h => by cases h
  | .goto _, h => by cases h
  | .refuse _, h => by cases h
theorem allLoops_trans {d e : Code} : ∀ {c : Code}, d ∈ allLoops c → e ∈ allLoops d → e ∈ allLoops c
  | .seq a b, h, k => by
    rcases List.mem_append.1 h with h | h
    · exact List.mem_append_left _ (allLoops_trans h k)
    · exact List.mem_append_right _ (allLoops_trans h k)
  | .cond _ a b, h, k => by
    rcases List.mem_append.1 h with h | h
    · exact List.mem_append_left _ (allLoops_trans h k)
    · exact List.mem_append_right _ (allLoops_trans h k)
  | .block _ c, h, k => allLoops_trans (c := c) h k
  | .loop c, h, k => by
    rcases List.mem_cons.1 h with h | h
    · subst h; exact List.mem_cons_of_mem _ k
    · exact List.mem_cons_of_mem _ (allLoops_trans h k)
  | .skip, h, _ => by cases h
  | .region _ _ _, h, _ => by cases h
  | .exit _, h, _ => by cases h
  | .ret, h, _ => by cases h
  | .rangeFunc .., h, _ => by cases h
  | .scope _, h, _ => by cases h
  | .label _, h, _ => by cases h
  | .goto _, h, _ => by cases h
  | .refuse _, h, _ => by cases h
theorem find_first {r : Nat} {d : Code} : ∀ {l : List Code}, distinctN (l.map firstRegion) = true → d ∈ l → firstRegion d = r → l.find? (fun d => Nat.beq (firstRegion d) r) = some d
  | c :: l, hd, hm, hr => by
    simp only [List.map_cons, distinctN, Bool.and_eq_true, Bool.not_eq_true'] at hd
    simp only [List.find?_cons]
    rcases List.mem_cons.1 hm with h | h
    · subst h; rw [hr]; simp
    · have : Nat.beq (firstRegion c) r = false := by
        cases hb : Nat.beq (firstRegion c) r with
        | false => rfl
        | true =>
          have e := Nat.eq_of_beq_eq_true hb
          have : hasN (firstRegion c) (l.map firstRegion) = true := hasN_mem.2 (List.mem_map.2 ⟨d, h, by rw [hr, e]⟩)
          rw [this] at hd; cases hd.1
      rw [this]
      exact find_first hd.2 h hr
theorem loopAt_of {fn : Func} {c0 d : Code} (hb : fn.body = some c0) (hd : distinctN ((allLoops c0).map firstRegion) = true) (hm : d ∈ allLoops c0) : loopAt (firstRegion d) fn = d := by
  unfold loopAt
  rw [hb]
  simp only [findLoop_eq, find_first hd hm rfl]
theorem st_len (k : Skel) (x : k.H) : (k.st x).slots.length = k.ntmps := by
  show (fillV k.slots x.1 _).length = _
  rw [fillV_eq, length_setVs]; simp
theorem load_ntmps {k : Skel} {s : St} {x : k.H} (h : k.load s = some x) : k.ntmps ≤ s.slots.length := by
  unfold Skel.load at h
  cases hc : (k.idsOk && Nat.ble k.ntmps s.slots.length) with
  | false => rw [hc] at h; cases h
  | true => simp only [Bool.and_eq_true, Nat.ble_eq] at hc; exact hc.2
theorem enter_all {low : Nat} {l : Loop} (hl : l.okB low = true) (f : l.head.H → Option l.Y) {S0 s : St} (h : Agr S0 s) : (l.enter f s).All (Agr S0) := by
  unfold Loop.enter
  cases hx : l.head.load s with
  | none => trivial
  | some x =>
    have h1 := Nat.le_trans (load_ntmps hx) h.len
    obtain ⟨head, i, out, back⟩ := l
    simp only [Loop.okB, Bool.and_eq_true, Nat.ble_eq] at hl
    intro y
    cases back with
    | none => exact ⟨Nat.le_trans (Nat.le_of_eq (st_len out _)) (Nat.le_trans hl.1.2.2 h1), .inl rfl⟩
    | some b =>
      simp only [Bool.and_eq_true, Nat.ble_eq] at hl
      exact ⟨⟨Nat.le_trans (Nat.le_of_eq (st_len out _)) (Nat.le_trans hl.1.2.2 h1), .inl rfl⟩, ⟨Nat.le_trans (Nat.le_of_eq (st_len b _)) (Nat.le_trans hl.2.2 h1), .inl rfl⟩⟩
section
variable {P : Program} {G : Nat → Option GV}
/-- What is asked of a function's loops. -/
structure Loops (Γ : Nat → Env) (vars low : Nat) (tbl : List LoopE) (fn : Func) (c0 : Code) : Prop where
  body : fn.body = some c0
  dist : distinctN ((allLoops c0).map firstRegion) = true
  loops : ∀ k, (Γ k).loops = loopsOf tbl k
  vars : ∀ k, (Γ k).vars = vars
  inls : ∀ k id i h, (Γ k).inls id i = some h → InlAll h
  ok : ∀ e ∈ tbl, e.L.okB low = true
  h0 : ∀ e ∈ tbl, ∀ x, e.H 0 x = none
  hs : ∀ e ∈ tbl, ∀ k x, e.H (k + 1) x = Out.round e.L (e.H k) (evCode (Γ k) (loopAt e.r fn) (e.L.head.st x))
theorem Loops.all {Γ : Nat → Env} {vars low : Nat} {tbl : List LoopE} {fn : Func} {c0 : Code} (h : Loops Γ vars low tbl fn c0) (k : Nat) : HooksAll (Γ k) := ⟨fun r f hf S0 s hs => by
  rw [h.loops] at hf
  obtain ⟨e, h1, _, rfl⟩ := loopsOf_some hf
  exact enter_all (h.ok e h1) _ hs, h.inls k⟩
/-- From the head. -/
def HeadOk (P : Program) (G : Nat → Option GV) (vars low : Nat) (c : Code) (l : Loop) (f : l.head.H → Option l.Y) : Prop := ∀ (m0 m : Mem) (x : l.head.H) (y : l.Y) (a0 a : Act) (leaf : Leaf), Rel P G vars m (l.head.st x) a.tmps → (∀ id, m.U id → id < l.head.next) →
  FrL low m0 m → a.tmps.size = a0.tmps.size → a.defers = a0.defers → f x = some y → (l.leaf y).res = some leaf → InLoop P c (LeafOk P G vars low m0 a0 leaf) a m.w
theorem HeadOk.enter {Γ : Env} {vars low : Nat} (hv : Γ.vars = vars) {c : Code} {l : Loop} (hl : l.okB low = true) {f : l.head.H → Option l.Y} (h : HeadOk P G vars low c l f) : LoopOk P G Γ low c (l.enter f) := fun m s a leaf r hU hres => by
  rw [hv] at r ⊢
  unfold Loop.enter at hres
  cases hx : l.head.load s with
  | none => rw [hx] at hres; cases hres
  | some x =>
    rw [hx] at hres
    simp only [Out.res] at hres
    cases hy : f x with
    | none => rw [hy] at hres; cases hres
    | some y =>
      rw [hy] at hres
      simp only [Loop.okB, Bool.and_eq_true, Nat.ble_eq] at hl
      exact loop_of_in (h m (m.shrink l.head.next) x y a a leaf (load_rel r hx) (fun id hid => hid.2) (FrL.shrink low m hl.1.1) rfl rfl hy hres)
theorem loops_ok {Γ : Nat → Env} {vars low : Nat} {tbl : List LoopE} {fn : Func} {c0 : Code} (h : Loops Γ vars low tbl fn c0) : ∀ k, (∀ j, j < k → RegOk P G (Γ j) low) → ∀ e ∈ tbl, ∀ c ∈ allLoops c0, firstRegion c = e.r → HeadOk P G vars low c e.L (e.H k)
  | 0, _, e, he, c, _, _ => fun m0 m x y a0 a leaf _ _ _ _ _ hy _ => by rw [h.h0 e he] at hy; cases hy
  | k + 1, hR, e, he, c, hc, hr => fun m0 m x y a0 a leaf r hU hf hs hd hy hleaf => by
    have ih := loops_ok h k (fun j hj => hR j (by omega))
    have hh := ih e he c hc hr
    have hl := h.ok e he
    have hloop : loopAt e.r fn = c := by rw [← hr]; exact loopAt_of h.body h.dist hc
    rw [h.hs e he, hloop, round_res] at hy
    obtain ⟨r0, L, H⟩ := e
    simp only at hh hl hr hy x y r hU hleaf
    cases ho : (evCode (Γ k) c (L.head.st x)).res with
    | none => rw [ho] at hy; cases hy
    | some l0 =>
      rw [ho] at hy
      replace hy : L.ends (H k) l0 = some y := hy
      have hcode := code_ok (P := P) (G := G) (Γ := Γ k) (hR k (by omega)) (h.all k) c (fun c' hc' f hf => by
        have hin := allLoops_trans hc (loopsIn_all hc')
        rw [h.loops] at hf
        obtain ⟨e', h1, h2, rfl⟩ := loopsOf_some hf
        exact (ih e' h1 c' hin h2.symm).enter (h.vars k) (h.ok e' h1)) m (L.head.st x) a l0 (by rw [h.vars]; exact r) hU ho
      refine in_round (wp_mono hcode fun ex a1 w1 hlf => ?_)
      obtain ⟨m1, e1, r1, f1, u1, s1, d1, x1⟩ := hlf
      rw [h.vars] at r1
      subst e1
      subst x1
      cases l0 with
      | norm s2 =>
        show InLoop P c _ a1 m1.w
        simp only [Loop.ends] at hy
        cases hx2 : L.head.load s2 with
        | none => rw [hx2] at hy; cases hy
        | some x2 =>
          rw [hx2] at hy
          simp only [Loop.okB, Bool.and_eq_true, Nat.ble_eq] at hl
          exact hh m0 (m1.shrink L.head.next) x2 y a0 a1 leaf (load_rel r1 hx2) (fun id hid => hid.2) ((hf.trans f1).trans (FrL.shrink low m1 hl.1.1)) (s1.trans hs) (d1.trans hd) hy hleaf
      | ext j s2 =>
        show LeafOk P G vars low m0 a0 leaf (.exit j) a1 m1.w
        simp only [Loop.ends] at hy
        cases hj : Nat.beq j L.id with
        | false => rw [hj] at hy; cases hy
        | true =>
          rw [hj] at hy
          have hj' := Nat.eq_of_beq_eq_true hj
          cases hz : L.out.load s2 with
          | none => rw [hz] at hy; cases hy
          | some z =>
            rw [hz] at hy
            cases hy
            have hlf : leaf = .ext L.id (L.out.st z) := by
              obtain ⟨head, i, out, back⟩ := L
              cases back <;> (cases hleaf; rfl)
            subst hlf
            simp only [Loop.okB, Bool.and_eq_true, Nat.ble_eq] at hl
            exact ⟨m1.shrink L.out.next, rfl, load_rel r1 hz, (hf.trans f1).trans (FrL.shrink low m1 hl.1.2.1), fun id hid => hid.2, s1.trans hs, d1.trans hd, by rw [hj']; rfl⟩
      | ret s2 =>
        show LeafOk P G vars low m0 a0 leaf .ret a1 m1.w
        simp only [Loop.ends] at hy
        obtain ⟨head, i, out, back⟩ := L
        cases back with
        | none => cases hy
        | some b =>
          simp only [Loop.mkBack] at hy
          split at hy
          · rename_i z hz
            cases hy
            cases hleaf
            simp only [Loop.okB, Bool.and_eq_true, Nat.ble_eq] at hl
            exact ⟨m1.shrink b.next, rfl, load_rel r1 hz, (hf.trans f1).trans (FrL.shrink low m1 hl.2.1), fun id hid => hid.2, s1.trans hs, d1.trans hd, rfl⟩
          · cases hy
end
end Go.XE
/- Regions whose order is drawn: operations that don't wait for each other don't meet. -/
namespace Go.XE
section
variable {P : Program} {G : Nat → Option GV} {Γ : Env} {m : Mem} {s s' : St} {a : Act}

/-! ### A run elsewhere -/
structure Lens (s t : St) : Prop where
  slots : s.slots.length = t.slots.length
  stips : s.stips.length = t.stips.length
theorem length_setT' : ∀ (l : List (List Nat)) (n : Nat) (x : List Nat), (setT l n x).length = l.length := length_setT
theorem lens_put {s t : St} (h : Lens s t) (l : Loc) (x : LV) : Lens (s.put l x) (t.put l x) := by
  have h1 := h.slots
  have h2 := h.stips
  cases l <;> cases x <;> refine ⟨?_, ?_⟩ <;> simp [St.put, length_setV, length_setT, h1, h2]
theorem get_put_ne {s : St} {l k : Loc} {x : LV} (h : l ≠ k) : (s.put l x).get k = s.get k := by
  cases l <;> cases x <;> cases k <;> first
    | rfl
    | (simp only [St.get, St.put, nthV_setV]; rw [if_neg (fun e => h (by rw [e.1]))])
    | (simp only [St.get, St.put, nthT_setT]; rw [if_neg (fun e => h (by rw [e.1]))])
    | (simp only [St.get, St.put, lookObj_setObj]; rw [if_neg (fun e => h (by rw [e]))])
    | (simp only [St.get, St.put, lookT_setTips]; rw [if_neg (fun e => h (by rw [e]))])
    | exact absurd rfl h
theorem get_put_eq {s t : St} (hl : Lens s t) {l : Loc} {x : LV} (h : s.get l = t.get l) : (s.put l x).get l = (t.put l x).get l := by
  have h1 := hl.slots
  have h2 := hl.stips
  cases l <;> cases x <;> first
    | exact h
    | rfl
    | (simp only [St.get, LV.v.injEq] at h; simp only [St.get, St.put, nthV_setV, h1, h]; done)
    | (simp only [St.get, LV.t.injEq] at h; simp only [St.get, St.put, nthT_setT, h2, h]; done)
    | (simp [St.get, St.put, lookObj_setObj]; done)
    | (simp [St.get, St.put, lookT_setTips]; done)
theorem hasLoc_mem {l : Loc} : ∀ {r : List Loc}, hasLoc l r = true ↔ l ∈ r
  | [] => by simp [hasLoc]
  | k :: r => by
    simp only [hasLoc, Bool.or_eq_true, hasLoc_mem (r := r), List.mem_cons, loc_beq]
    constructor
    · rintro (h | h)
      · exact .inl h.symm
      · exact .inr h
    · rintro (h | h)
      · exact .inl h.symm
      · exact .inr h
theorem mem_addLoc {l k : Loc} {r : List Loc} : l ∈ addLoc k r ↔ l = k ∨ l ∈ r := by
  unfold addLoc
  cases h : hasLoc k r with
  | true =>
    simp only [cond_true]
    constructor
    · exact .inr
    · rintro (rfl | h')
      · exact hasLoc_mem.1 h
      · exact h'
  | false => simp
theorem runR_mono {α : Type} : ∀ {mm : M α} {s : St} {p : α × St}, runR mm s = some p → (∀ l, l ∈ s.rd → l ∈ p.2.rd) ∧ ∀ l, l ∈ s.wr → l ∈ p.2.wr
  | .ret a, s, p, h => by cases h; exact ⟨fun _ h => h, fun _ h => h⟩
  | .get l k, s, p, h => by
    obtain ⟨h1, h2⟩ := runR_mono (mm := k (s.get l)) (s := { s with rd := addLoc l s.rd }) h
    exact ⟨fun x hx => h1 x (mem_addLoc.2 (.inr hx)), h2⟩
  | .put l x k, s, p, h => by
    obtain ⟨h1, h2⟩ := runR_mono (mm := k) (s := { s.put l x with wr := addLoc l s.wr, dirty := addLoc l s.dirty }) h
    exact ⟨fun y hy => h1 y (by show y ∈ (s.put l x).rd; cases l <;> cases x <;> exact hy), fun y hy => h2 y (mem_addLoc.2 (.inr hy))⟩
  | .need c k, s, p, h => by
    cases c with
    | true => exact runR_mono (mm := k) h
    | false => cases h
  | .opt d o k, s, p, h => by
    cases o with
    | none => cases h
    | some b => exact runR_mono (mm := k b) h
  | .fail, _, _, h => by cases h
theorem runR_lens {α : Type} : ∀ {mm : M α} {s : St} {p : α × St}, runR mm s = some p → Lens p.2 s
  | .ret a, s, p, h => by cases h; exact ⟨rfl, rfl⟩
  | .get l k, s, p, h => by
    have h1 := runR_lens (mm := k (s.get l)) (s := { s with rd := addLoc l s.rd }) h
    exact ⟨h1.slots, h1.stips⟩
  | .put l x k, s, p, h => by
    have h1 := runR_lens (mm := k) (s := { s.put l x with wr := addLoc l s.wr, dirty := addLoc l s.dirty }) h
    refine ⟨h1.slots.trans (len_put s l x), h1.stips.trans ?_⟩
    show (s.put l x).stips.length = _
    cases l <;> cases x <;> first | rfl | exact length_setT _ _ _
  | .need c k, s, p, h => by
    cases c with
    | true => exact runR_lens (mm := k) h
    | false => cases h
  | .opt d o k, s, p, h => by
    cases o with
    | none => cases h
    | some b => exact runR_lens (mm := k b) h
  | .fail, _, _, h => by cases h
theorem runR_frame {α : Type} (S : Loc → Prop) : ∀ {mm : M α} {s t : St} {b : α} {s' : St}, runR mm s = some (b, s') → (∀ l, l ∈ s'.rd → S l) → (∀ l, l ∈ s'.wr → S l) → (∀ l, S l → s.get l = t.get l) → Lens s t →
    ∃ t', runR mm t = some (b, t') ∧ (∀ l, S l → s'.get l = t'.get l) ∧ Lens s' t' ∧ ∀ l, l ∉ s'.wr → t'.get l = t.get l ∧ s'.get l = s.get l
  | .ret a, s, t, b, s', h, _, _, he, hl => by cases h; exact ⟨t, rfl, he, hl, fun _ _ => ⟨rfl, rfl⟩⟩
  | .get l k, s, t, b, s', h, hr, hw, he, hl => by
    replace h : runR (k (s.get l)) { s with rd := addLoc l s.rd } = some (b, s') := h
    have hm := runR_mono h
    have e := he l (hr l (hm.1 l (mem_addLoc.2 (.inl rfl))))
    obtain ⟨t', h1, h2, h3, h4⟩ := runR_frame S (t := { t with rd := addLoc l t.rd }) h hr hw (fun l hl => by have := he l hl; cases l <;> exact this) ⟨hl.slots, hl.stips⟩
    refine ⟨t', ?_, h2, h3, fun k hk => ?_⟩
    · show runR (k (t.get l)) _ = _
      rw [← e]; exact h1
    · have := h4 k hk
      cases k <;> exact this
  | .put l x k, s, t, b, s', h, hr, hw, he, hl => by
    replace h : runR k { s.put l x with wr := addLoc l s.wr, dirty := addLoc l s.dirty } = some (b, s') := h
    have hm := runR_mono h
    have hlw : l ∈ s'.wr := hm.2 l (mem_addLoc.2 (.inl rfl))
    have hS := hw l hlw
    have lp := lens_put hl l x
    obtain ⟨t', h1, h2, h3, h4⟩ := runR_frame S (t := { t.put l x with wr := addLoc l t.wr, dirty := addLoc l t.dirty }) h hr hw (fun q hq => by
      have : (s.put l x).get q = (t.put l x).get q := by
        by_cases e : l = q
        · subst e; exact get_put_eq hl (he l hS)
        · rw [get_put_ne e, get_put_ne e]; exact he q hq
      cases q <;> exact this) ⟨lp.slots, lp.stips⟩
    refine ⟨t', h1, h2, h3, fun q hq => ?_⟩
    have e : l ≠ q := fun e => hq (e ▸ hlw)
    obtain ⟨k1, k2⟩ := h4 q hq
    have g1 : (t.put l x).get q = t.get q := get_put_ne e
    have g2 : (s.put l x).get q = s.get q := get_put_ne e
    refine ⟨k1.trans ?_, k2.trans ?_⟩
    · rw [← g1]; cases q <;> rfl
    · rw [← g2]; cases q <;> rfl
  | .need c k, s, t, b, s', h, hr, hw, he, hl => by
    cases c with
    | true =>
      obtain ⟨t', h1⟩ := runR_frame S (mm := k) h hr hw he hl
      exact ⟨t', h1⟩
    | false => cases h
  | .opt d o k, s, t, b, s', h, hr, hw, he, hl => by
    cases o with
    | none => cases h
    | some c =>
      obtain ⟨t', h1⟩ := runR_frame S (mm := k c) h hr hw he hl
      exact ⟨t', h1⟩
  | .fail, _, _, _, _, h, _, _, _, _ => by cases h

/-! ### The steps of a region -/
def Wants (all : List Oper) (o : Oper) (s : St) (rd : List Loc) : Prop :=
  (o.guard = none ∧ rd = []) ∨ ∃ j want g b, o.guard = some (j, want) ∧ dstAt all j = some g ∧ nthV s.slots g = .kb b ∧ bEq b want = true ∧ rd = [.slot g]
def Unwanted (all : List Oper) (o : Oper) (s : St) (g : Nat) : Prop :=
  ∃ j want, o.guard = some (j, want) ∧ dstAt all j = some g ∧ (nthV s.slots g = .und ∨ ∃ b, nthV s.slots g = .kb b ∧ bEq b want = false)
def Sharp (dst : Option Nat) (s s' : St) : Prop :=
  s' = s ∨ ∃ d b p, dst = some d ∧ nthV s.slots d = .dat ⟨.bool, b⟩ p ∧ s' = { s with slots := setV s.slots d (.kb b), dirty := [.slot d], all := false }
def skipSt (dst : Option Nat) (s : St) : St :=
  match dst with
  | some d => { s with slots := setV s.slots d .und, stips := setT s.stips d [], dirty := addLoc (.slot d) (addLoc (.stip d) s.dirty) }
  | none => s
def skipTr (g : Nat) : Option Nat → Tr
  | some d => ([.slot g], [.slot d, .stip d])
  | none => ([.slot g], [])
inductive Stp (Γ : Env) (all : List Oper) (nx i : Nat) (o : Oper) : Tr → St → St → Prop
  | run {rd : List Loc} {s s1 s2 : St} {u : Unit} (hw : Wants all o s rd) (h : runR (evOp Γ o (nx + i)) { s with rd := rd, wr := [] } = some (u, s1)) (hs : Sharp o.dst s1 s2) : Stp Γ all nx i o (s1.rd, dstWr o.dst s1.wr) s s2
  | skip {g : Nat} {s : St} (hg : Unwanted all o s g) (hv : ∀ d, o.dst = some d → Nat.testBit Γ.vars d = false) : Stp Γ all nx i o (skipTr g o.dst) s (skipSt o.dst s)
theorem mem_dstWr {l : Loc} {d : Option Nat} {wr : List Loc} : l ∈ dstWr d wr ↔ (∃ n, d = some n ∧ l = .slot n) ∨ l ∈ wr := by
  cases d with
  | none => simp [dstWr]
  | some d => simp [dstWr, mem_addLoc]
theorem put_two (s : St) (d : Nat) (V : V) (ts : List Nat) (l : Loc) : St.get { s with slots := setV s.slots d V, stips := setT s.stips d ts, dirty := addLoc (.slot d) (addLoc (.stip d) s.dirty) } l = ((s.put (.slot d) (.v V)).put (.stip d) (.t ts)).get l := by
  cases l <;> rfl
theorem put_one (s : St) (d : Nat) (V : V) (l : Loc) : St.get { s with slots := setV s.slots d V, dirty := [.slot d], all := false } l = (s.put (.slot d) (.v V)).get l := by
  cases l <;> rfl
theorem get_slot {s t : St} {g : Nat} (h : s.get (.slot g) = t.get (.slot g)) : nthV t.slots g = nthV s.slots g := by
  simp only [St.get, LV.v.injEq] at h; exact h.symm
theorem Stp.frame {all : List Oper} {nx i : Nat} {o : Oper} {tr : Tr} {t : St} (S : Loc → Prop) (h : Stp Γ all nx i o tr s s') (hr : ∀ l, l ∈ tr.1 → S l) (hw : ∀ l, l ∈ tr.2 → S l) (he : ∀ l, S l → s.get l = t.get l) (hl : Lens s t) :
    ∃ t' tr', Stp Γ all nx i o tr' t t' ∧ (∀ l, S l → s'.get l = t'.get l) ∧ Lens s' t' ∧ ∀ l, l ∉ tr.2 → t'.get l = t.get l ∧ s'.get l = s.get l := by
  cases h with
  | run hwn hrun hs =>
    rename_i rd s1 u
    have hm := runR_mono hrun
    have hw' : Wants all o t rd := by
      rcases hwn with ⟨h1, h2⟩ | ⟨j, want, g, b, h1, h2, h3, h4, h5⟩
      · exact .inl ⟨h1, h2⟩
      · refine .inr ⟨j, want, g, b, h1, h2, ?_, h4, h5⟩
        rw [get_slot (he (.slot g) (hr _ (hm.1 _ (by simp [h5]))))]
        exact h3
    obtain ⟨t1, k1, k2, k3, k4⟩ := runR_frame S (t := { t with rd := rd, wr := [] }) hrun hr (fun l hl => hw l (mem_dstWr.2 (.inr hl))) (fun l hl => by have := he l hl; cases l <;> exact this) ⟨hl.slots, hl.stips⟩
    have k4' : ∀ l, l ∉ s1.wr → t1.get l = t.get l ∧ s1.get l = s.get l := fun l hl => by
      have := k4 l hl
      cases l <;> exact this
    rcases hs with rfl | ⟨d, b, p, e1, e2, rfl⟩
    · exact ⟨t1, _, .run hw' k1 (.inl rfl), k2, k3, fun l hl => k4' l fun h => hl (mem_dstWr.2 (.inr h))⟩
    · have hd : S (.slot d) := hw _ (mem_dstWr.2 (.inl ⟨d, e1, rfl⟩))
      have e3 := get_slot (k2 _ hd)
      have lp := lens_put k3 (.slot d) (.v (.kb b))
      refine ⟨{ t1 with slots := setV t1.slots d (.kb b), dirty := [.slot d], all := false }, _, .run hw' k1 (.inr ⟨d, b, p, e1, by rw [e3]; exact e2, rfl⟩), fun l hl => ?_, ⟨lp.slots, lp.stips⟩, fun l hl => ?_⟩
      · rw [put_one, put_one]
        by_cases e : Loc.slot d = l
        · subst e; exact get_put_eq k3 (k2 _ hl)
        · rw [get_put_ne e, get_put_ne e]; exact k2 l hl
      · have e : Loc.slot d ≠ l := fun e => hl (mem_dstWr.2 (.inl ⟨d, e1, e.symm⟩))
        rw [put_one, put_one, get_put_ne e, get_put_ne e]
        exact k4' l fun h => hl (mem_dstWr.2 (.inr h))
  | skip hg hv =>
    rename_i g
    have hgS : S (.slot g) := hr _ (by cases o.dst <;> simp [skipTr])
    have hg' : Unwanted all o t g := by
      obtain ⟨j, want, h1, h2, h3⟩ := hg
      refine ⟨j, want, h1, h2, ?_⟩
      rw [get_slot (he _ hgS)]
      exact h3
    refine ⟨skipSt o.dst t, _, .skip hg' hv, ?_⟩
    cases hd : o.dst with
    | none => exact ⟨he, hl, fun _ _ => ⟨rfl, rfl⟩⟩
    | some d =>
      have lp := lens_put (lens_put hl (.slot d) (.v .und)) (.stip d) (.t [])
      rw [hd] at hw
      refine ⟨fun l hl' => ?_, ⟨lp.slots, lp.stips⟩, fun l hl' => ?_⟩
      · simp only [skipSt, put_two]
        by_cases e : Loc.stip d = l
        · subst e
          refine get_put_eq (lens_put hl _ _) ?_
          rw [get_put_ne (by simp), get_put_ne (by simp)]; exact he _ hl'
        · rw [get_put_ne e, get_put_ne e]
          by_cases e2 : Loc.slot d = l
          · subst e2; exact get_put_eq hl (he _ hl')
          · rw [get_put_ne e2, get_put_ne e2]; exact he l hl'
      · simp only [skipTr, List.mem_cons, List.not_mem_nil, or_false, not_or] at hl'
        simp only [skipSt, put_two]
        rw [get_put_ne (Ne.symm hl'.2), get_put_ne (Ne.symm hl'.1), get_put_ne (Ne.symm hl'.2), get_put_ne (Ne.symm hl'.1)]
        exact ⟨rfl, rfl⟩
theorem Stp.next {all : List Oper} {nx i : Nat} {o : Oper} {tr : Tr} (h : Stp Γ all nx i o tr s s') : s'.next = s.next := by
  cases h with
  | run _ hrun hs =>
    have := runR_next hrun
    rcases hs with rfl | ⟨d, b, p, _, _, rfl⟩ <;> exact this
  | skip _ _ => cases o.dst <;> rfl
theorem Stp.lens {all : List Oper} {nx i : Nat} {o : Oper} {tr : Tr} (h : Stp Γ all nx i o tr s s') : Lens s' s := by
  cases h with
  | run _ hrun hs =>
    have := runR_lens hrun
    rcases hs with rfl | ⟨d, b, p, _, _, rfl⟩
    · exact ⟨this.slots, this.stips⟩
    · exact ⟨(length_setV _ _ _).trans this.slots, this.stips⟩
  | skip _ _ =>
    cases o.dst with
    | none => exact ⟨rfl, rfl⟩
    | some d => exact ⟨length_setV _ _ _, length_setT _ _ _⟩
/-- What a step does. -/
theorem Stp.wp (H : OpsOk P G Γ) {all : List Oper} {nx i : Nat} {o : Oper} {tr : Tr} {Q : Exit → Act → World → Prop} {K : Act → World → Prop} (h : Stp Γ all nx i o tr s s') (hget : all.toArray[i]? = some o) (r : Rel P G Γ.vars m s a.tmps) (hf : ¬ m.U (nx + i))
    (hK : ∀ v m', Rel P G Γ.vars m' s' (a.put o.dst v).tmps → Fr m m' → (∀ id, m'.U id → m.U id ∨ id = nx + i) → K (a.put o.dst v) m'.w) : wpOp P all.toArray Q i K a m.w := by
  unfold wpOp
  simp only [hget]
  cases h with
  | run hwn hrun hs =>
    have hw : Region.wanted o (yielded all.toArray a.tmps) = true := by
      rcases hwn with ⟨h1, h2⟩ | ⟨j, want, g, b, h1, h2, h3, h4, h5⟩
      · simp [Region.wanted, h1]
      · have hsl := r.slots g
        rw [h3] at hsl
        have hy := yielded_kb h2 (show a.tmps.getD g undef = .bool b from hsl)
        cases b <;> cases want <;> simp_all [Region.wanted, bEq]
    rw [if_pos hw]
    rename_i rd s1 u
    have hop := H o (nx + i) m { s with rd := rd, wr := [] } s1 a u (r.same ⟨rfl, rfl, rfl, rfl, rfl⟩) hf hrun
    refine .inl (hop _ Q fun v m' r' f' hU' => hK v m' ?_ f' hU')
    rcases hs with rfl | ⟨d, b, p, _, h2, rfl⟩
    · exact r'
    · exact (r'.le (kb_le b d _ ⟨p, h2⟩)).same ⟨rfl, rfl, rfl, rfl, rfl⟩
  | skip hg hv =>
    obtain ⟨j, want, h1, h2, h3⟩ := hg
    rename_i g
    have hw : Region.wanted o (yielded all.toArray a.tmps) = false := by
      have hsl := r.slots g
      rcases h3 with h3 | ⟨b, h3, h4⟩
      · rw [h3] at hsl
        have hy := yielded_und h2 (show a.tmps.getD g undef = undef from hsl)
        simp [Region.wanted, h1, hy]
      · rw [h3] at hsl
        have hy := yielded_kb h2 (show a.tmps.getD g undef = .bool b from hsl)
        cases b <;> cases want <;> simp_all [Region.wanted, bEq]
    rw [hw]
    simp only [Bool.false_eq_true, if_false]
    refine hK undef m ?_ (.refl m) fun id h => .inl h
    cases hd : o.dst with
    | none => exact r
    | some d => exact (r.setSlot (n := d) (V := .und) (ts := []) (v := undef) rfl (fun D hD => by cases hD) (fun _ D p e => by cases e) (fun _ => hv d hd)).same ⟨rfl, rfl, rfl, rfl, rfl⟩

/-! ### The steps in the order of the text -/
theorem sharpen_steps {gs : List Nat} {dst : Option Nat} {k : St → Out} {l : Leaf} (hk : ∀ B s, Agr B s → (k s).All (Agr B)) (h : (sharpen gs dst s k).res = some l) :
    ∃ s1 l0, (k s1).res = some l0 ∧ LeafLe s.slots.length l0 l ∧ Sharp dst s s1 := by
  have plain : (k s).res = some l → ∃ s1 l0, (k s1).res = some l0 ∧ LeafLe s.slots.length l0 l ∧ Sharp dst s s1 := fun h => ⟨s, l, h, .refl _ _, .inl rfl⟩
  unfold sharpen at h
  cases dst with
  | none => exact plain h
  | some d =>
    simp only at h
    cases hd : hasN d gs with
    | false => rw [hd] at h; exact plain h
    | true =>
      simp only [hd, cond_true] at h
      split at h
      · rename_i b p hb
        obtain ⟨l0, h1, h2⟩ := mkBr_res (b := s) (hk s _ (agr_slot (S0 := s) (.refl s) d _)) (hk s _ (agr_slot (S0 := s) (.refl s) d _)) h
        cases b with
        | true => exact ⟨_, l0, h1, h2, .inr ⟨d, true, p, rfl, hb, rfl⟩⟩
        | false => exact ⟨_, l0, h1, h2, .inr ⟨d, false, p, rfl, hb, rfl⟩⟩
      · exact plain h
theorem evOps_steps {all : List Oper} {gs : List Nat} {chk : List Tr → Bool} : ∀ (l : List Oper) (i : Nat) (trs : List Tr) (s : St) (leaf : Leaf), (evOps Γ all gs chk (fun _ => none) l i trs s).res = some leaf →
    ∃ (ts : List Tr) (S : Nat → St), S 0 = s ∧ (∀ k o, l[k]? = some o → ∃ tr, ts[k]? = some tr ∧ Stp Γ all s.next (i + k) o tr (S k) (S (k + 1))) ∧ ts.length = l.length ∧ chk (trs ++ ts) = true ∧ LeafLe s.slots.length (.norm (S l.length)) leaf
  | [], i, trs, s, leaf, h => by
    replace h : (cond (chk trs) (Out.norm s) .bad).res = some leaf := h
    cases hc : chk trs with
    | false => rw [hc] at h; cases h
    | true =>
      rw [hc] at h
      cases h
      exact ⟨[], fun _ => s, rfl, fun k o h => (by simp at h), rfl, by simpa using hc, LeafLe.refl _ _⟩
  | o :: rest, i, trs, s, leaf, h => by
    have cons : ∀ (tr : Tr) (s1 : St) (l0 : Leaf), Stp Γ all s.next i o tr s s1 → (evOps Γ all gs chk (fun _ => none) rest (i + 1) (trs ++ [tr]) s1).res = some l0 → LeafLe s.slots.length l0 leaf →
        ∃ (ts : List Tr) (S : Nat → St), S 0 = s ∧ (∀ k o', (o :: rest)[k]? = some o' → ∃ tr, ts[k]? = some tr ∧ Stp Γ all s.next (i + k) o' tr (S k) (S (k + 1))) ∧ ts.length = (o :: rest).length ∧ chk (trs ++ ts) = true ∧ LeafLe s.slots.length (.norm (S (o :: rest).length)) leaf := fun tr s1 l0 hst he hle => by
      obtain ⟨ts, S, h1, h2, h3, h4, h5⟩ := evOps_steps rest (i + 1) (trs ++ [tr]) s1 l0 he
      refine ⟨tr :: ts, fun | 0 => s | k + 1 => S k, rfl, fun k o' hk => ?_, by simp [h3], by simpa using h4, ?_⟩
      · cases k with
        | zero => cases hk; exact ⟨tr, rfl, by show Stp Γ all s.next i o tr s (S 0); rw [h1]; exact hst⟩
        | succ k =>
          obtain ⟨tr', g1, g2⟩ := h2 k o' (by simpa using hk)
          refine ⟨tr', by simpa using g1, ?_⟩
          rw [hst.next] at g2
          rw [show i + (k + 1) = i + 1 + k by omega]
          exact g2
      · rw [hst.lens.slots] at h5
        exact h5.trans hle
    have run : ∀ (rd : List Loc), Wants all o s rd → (runM (evOp Γ o (s.next + i)) { s with rd := rd, wr := [] } fun _ s' => sharpen gs o.dst s' (evOps Γ all gs chk (fun _ => none) rest (i + 1) (trs ++ [(s'.rd, dstWr o.dst s'.wr)]))).res = some leaf →
        ∃ (ts : List Tr) (S : Nat → St), S 0 = s ∧ (∀ k o', (o :: rest)[k]? = some o' → ∃ tr, ts[k]? = some tr ∧ Stp Γ all s.next (i + k) o' tr (S k) (S (k + 1))) ∧ ts.length = (o :: rest).length ∧ chk (trs ++ ts) = true ∧ LeafLe s.slots.length (.norm (S (o :: rest).length)) leaf := fun rd hw h => by
      rw [res_runM] at h
      cases hr : runR (evOp Γ o (s.next + i)) { s with rd := rd, wr := [] } with
      | none => rw [hr] at h; cases h
      | some p =>
        obtain ⟨u, s1⟩ := p
        rw [hr] at h
        replace h : (sharpen gs o.dst s1 (evOps Γ all gs chk (fun _ => none) rest (i + 1) (trs ++ [(s1.rd, dstWr o.dst s1.wr)]))).res = some leaf := h
        obtain ⟨s2, l0, g1, g2, g3⟩ := sharpen_steps (fun B s hB => evOps_all (inls := fun _ => none) (fun _ _ h => by cases h) all gs chk rest _ _ B s hB) h
        have hl := (runR_lens hr).slots
        exact cons _ s2 l0 (.run hw hr g3) g1 (by rw [hl] at g2; exact g2)
    have skip : ∀ (g : Nat), Unwanted all o s g → (match o.dst with
          | some d => cond (Nat.testBit Γ.vars d) .bad (evOps Γ all gs chk (fun _ => none) rest (i + 1) (trs ++ [([.slot g], [.slot d, .stip d])]) { s with slots := setV s.slots d .und, stips := setT s.stips d [], dirty := addLoc (.slot d) (addLoc (.stip d) s.dirty) })
          | none => evOps Γ all gs chk (fun _ => none) rest (i + 1) (trs ++ [([.slot g], [])]) s : Out).res = some leaf →
        ∃ (ts : List Tr) (S : Nat → St), S 0 = s ∧ (∀ k o', (o :: rest)[k]? = some o' → ∃ tr, ts[k]? = some tr ∧ Stp Γ all s.next (i + k) o' tr (S k) (S (k + 1))) ∧ ts.length = (o :: rest).length ∧ chk (trs ++ ts) = true ∧ LeafLe s.slots.length (.norm (S (o :: rest).length)) leaf := fun g hw h => by
      cases hd : o.dst with
      | none =>
        simp only [hd] at h
        have := Stp.skip (Γ := Γ) (all := all) (nx := s.next) (i := i) hw (fun d e => by rw [hd] at e; cases e)
        rw [hd] at this
        exact cons _ s leaf this h (.refl _ _)
      | some d =>
        simp only [hd] at h
        cases hb : Nat.testBit Γ.vars d with
        | true => rw [hb] at h; cases h
        | false =>
          simp only [hb, cond_false] at h
          have := Stp.skip (Γ := Γ) (all := all) (nx := s.next) (i := i) hw (fun d' e => by rw [hd] at e; cases e; exact hb)
          rw [hd] at this
          exact cons _ _ leaf this h (.refl _ _)
    simp only [evOps] at h
    cases hg : o.guard with
    | none =>
      simp only [hg] at h
      exact run [] (.inl ⟨hg, rfl⟩) h
    | some jw =>
      obtain ⟨j, want⟩ := jw
      simp only [hg] at h
      cases hd : dstAt all j with
      | none => simp only [hd] at h; cases h
      | some g =>
        simp only [hd] at h
        cases hV : nthV s.slots g with
        | kb b =>
          simp only [hV] at h
          cases hq : bEq b want with
          | true =>
            rw [hq] at h
            exact run [.slot g] (.inr ⟨j, want, g, b, hg, hd, hV, hq, rfl⟩) h
          | false =>
            rw [hq] at h
            exact skip g ⟨j, want, hg, hd, .inr ⟨b, hV, hq⟩⟩ h
        | und =>
          simp only [hV] at h
          exact skip g ⟨j, want, hg, hd, .inl hV⟩ h
        | _ => simp only [hV] at h; cases h
end
end Go.XE
