/- Part 17 of the proof. -/
import Derived.Test.YtnmkgbomiillgaaGreatDoorP16
/- The concrete evaluator: one operation. -/
namespace Go.XR
section
variable {P : Program} {B w w' : World} {ρ ρ' : Pm} {s s' : VS} {t t' : Tr CV} {a : Act} {o : Oper} {v x y : CV} {vx vy : Value} {callF : FuncId → List CV → VS → Res}

/-! ### What changes -/
theorem at1_ev {f : Value → Sem Value} (h : at1 P s f x = some (v, s')) : s' = s := by
  unfold at1 at h
  repeat' split at h
  all_goals first | (cases h; rfl) | cases h
theorem at2_ev {f : Value → Value → Sem Value} (h : at2 P s f x y = some (v, s')) : s' = s := by
  unfold at2 at h
  repeat' split at h
  all_goals first | (cases h; rfl) | cases h
theorem map_ev {q : Option CV} (h : q.map (fun v => (v, s)) = some (v, s')) : s' = s := by
  cases q with
  | none => cases h
  | some z => cases h; rfl
theorem appendX_ev {et : TypeId} {e k : Nat} {news : List CV} (h : appendX s et e k news x = some (v, s')) : Ev s s' := by
  unfold appendX at h
  simp only [Bool.cond_eq_ite] at h
  repeat' split at h
  all_goals first
    | (cases h; done)
    | (cases h; exact .refl _)
    | (cases h; exact .new _ _)
    | (cases h; exact .put _ _ _)
    | (cases h; exact (Ev.put _ _ _).trans (.new _ _))
theorem appendC_ev {ts : List TypeId} (h : appendC P s ts x y = some (v, s')) : Ev s s' := by
  unfold appendC at h
  simp only [Bool.cond_eq_ite] at h
  repeat' split at h
  all_goals first
    | (cases h; done)
    | exact appendX_ev h
theorem store_ev {ty : TypeId} (h : storeC P s ty x y = some s') : Ev s s' := by
  unfold storeC at h
  simp only [Bool.cond_eq_ite] at h
  repeat' split at h
  all_goals first
    | (cases h; done)
    | (cases h; exact .put _ _ _)
theorem buildSlice_ev {ty : TypeId} {n : Nat} {ps : List (Nat × CV)} (h : buildSliceC P s ty n ps = some (v, s')) : Ev s s' := by
  unfold buildSliceC at h
  simp only [Bool.cond_eq_ite] at h
  repeat' split at h
  all_goals first
    | (cases h; done)
    | (cases h; exact .new _ _)
theorem makeSlice_ev {ty : TypeId} (h : makeSliceC P s ty x y = some (v, s')) : Ev s s' := by
  unfold makeSliceC at h
  simp only [Bool.cond_eq_ite] at h
  repeat' split at h
  all_goals first
    | (cases h; done)
    | (cases h; exact .new _ _)
theorem conv_ev {src dst : TypeId} (h : convC P s src dst x = some (v, s')) : Ev s s' := by
  unfold convC at h
  split at h
  · rename_i q hq
    cases h
    rw [at1_ev hq]; exact .refl _
  · simp only [Bool.cond_eq_ite] at h
    repeat' split at h
    all_goals first
      | (cases h; done)
      | (cases h; exact .refl _)
      | (cases h; exact .new _ _)
theorem clear_ev {ty : TypeId} (h : clearC P s ty x = some (v, s')) : Ev s s' := by
  unfold clearC at h
  simp only [Bool.cond_eq_ite] at h
  repeat' split at h
  all_goals first
    | (cases h; done)
    | (cases h; exact .refl _)
    | (cases h; exact .put _ _ _)
theorem len_ev {ty : TypeId} (h : lenC P s ty x = some (v, s')) : Ev s s' := by
  unfold lenC at h
  split at h
  · rename_i q hq
    cases h
    rw [at1_ev hq]; exact .refl _
  · repeat' split at h
    all_goals first
      | (cases h; done)
      | (cases h; exact .refl _)
theorem builtin_ev {b : Builtin} {ts : List TypeId} {ty : TypeId} {xs : List CV} (h : builtinC P s b ts ty xs = some (v, s')) : Ev s s' := by
  unfold builtinC at h
  split at h
  · exact len_ev h
  · exact appendC_ev h
  · exact clear_ev h
  · rw [at2_ev h]; exact .refl _
  · rw [at2_ev h]; exact .refl _
  all_goals
    try simp only [Bool.cond_eq_ite] at h
    repeat' split at h
    all_goals first
      | (cases h; done)
      | (cases h; exact .refl _)
      | (cases h; exact .put _ _ _)
theorem bin_ev {op : BinOp} {ty : TypeId} {xo yo : Operand} (h : binC P s op ty xo yo x y = some (v, s')) : Ev s s' := by
  unfold binC at h
  split at h
  · rename_i q hq
    cases h
    rw [at2_ev hq]; exact .refl _
  · cases op <;> simp only [Option.map_eq_some_iff, reduceCtorEq] at h
    · obtain ⟨b, _, e⟩ := h; cases e; exact .refl _
    · obtain ⟨b, _, e⟩ := h; cases e; exact .refl _

/-! ### Calls -/
/-- What is known of a call. -/
inductive CallV (P : Program) (B : World) (ρ : Pm) (s : VS) (w : World) (f : FuncId) (us : List Value) (v : CV) (s' : VS) : Prop
  | enter (h1 : (callFunc f us.toArray).run P w = .ok (.enter f us.toArray) w) (h2 : Calls P f us.toArray w fun e w' => ∃ u ρ', e = .returned u ∧ den ρ' v = some u ∧ HRel B ρ' s' w' ∧ ExtAt s.next ρ ρ') : CallV P B ρ s w f us v s'
  | value {u : Value} (h1 : (callFunc f us.toArray).run P w = .ok (.value u) w) (h2 : den ρ v = some u) (h3 : HRel B ρ s w → HRel B ρ s' w) : CallV P B ρ s w f us v s'
def CallOk (P : Program) (B : World) (callF : FuncId → List CV → VS → Res) : Prop := ∀ f args s v s', callF f args s = some (v, s') → Ev s s' ∧ ∀ ρ w us, HRel B ρ s w → denL ρ args = some us → CallV P B ρ s w f us v s'
/-- A step. -/
def StepWp (P : Program) (B : World) (ρ : Pm) (s : VS) (w : World) (a : Act) (o : Oper) (v : CV) (s' : VS) : Prop :=
  ∀ (K : Act → World → Prop) (Q : Exit → Act → World → Prop), (∀ u w' ρ', den ρ' v = some u → HRel B ρ' s' w' → ExtAt s.next ρ ρ' → K (a.put o.dst u) w') → o.wp P a w K Q
theorem OpGo.wp (h : OpGo P B ρ s w a o v s') : StepWp P B ρ s w a o v s' := fun K Q hK => by
  obtain ⟨n, u, w', ρ', h1, h2, h3, h4, h5⟩ := h
  unfold Oper.wp
  rw [h1]
  rcases h2 with rfl | ⟨rfl, rfl⟩
  · exact hK u w' ρ' h3 h4 h5
  · exact hK undef w' ρ' h3 h4 h5
theorem call_go (hC : CallOk P B callF) (h : HRel B ρ s w) (r : TRel ρ t a) {c : Call} (ho : o.op = .call c) {f : FuncId} {p q : List CV} (hc : calleeC t c.callee = some (f, p, q)) (he : callF f (p ++ mapC t c.args.toList ++ q) s = some (v, s')) : StepWp P B ρ s w a o v s' := fun K Q hK => by
  have key : ∃ x : Operand, c.callee = .value x ∧ ∃ us vs : List Value, denL ρ p = some us ∧ denL ρ q = some vs ∧ a.eval x = .func (.func f) us.toArray vs.toArray := by
    cases hcc : c.callee with
    | value x =>
      rw [hcc] at hc
      refine ⟨x, rfl, ?_⟩
      have hx := ev_ok r x
      unfold calleeC at hc
      simp only at hc
      split at hc
      · rename_i f' a' b' hev
        cases hc
        rw [hev] at hx
        simp only [den, Option.bind_eq_some_iff, Option.map_eq_some_iff] at hx
        obtain ⟨us, h1, vs, h2, e⟩ := hx
        exact ⟨us, vs, h1, h2, e.symm⟩
      · rename_i f' a' b' hev
        cases hc
        rw [hev] at hx
        have e1 := Option.some.inj (show some _ = some _ from hx)
        exact ⟨a'.toList, b'.toList, denL_at ρ _, denL_at ρ _, by rw [← e1]⟩
      · cases hc
    | invoke x n => rw [hcc] at hc; cases hc
    | builtin b => rw [hcc] at hc; cases hc
  obtain ⟨x, hcx, us, vs, h1, h2, h3⟩ := key
  have hrun : (execOp a.eval o).run P w = (callFunc f (us ++ c.args.toList.map a.eval ++ vs).toArray).run P w := by
    simp only [execOp, ho, resolve, hcx, h3, Deferred.ofValue, Sem.run_bind, Sem.run_pure, Result.andThen_ok, invoke]
    congr 2
    apply Array.ext'
    simp
  have hargs : denL ρ (p ++ mapC t c.args.toList ++ q) = some (us ++ c.args.toList.map a.eval ++ vs) := denL_append (denL_append h1 (mapC_ok r _)) h2
  unfold Oper.wp
  rw [hrun]
  cases (hC _ _ _ _ _ he).2 ρ w _ h hargs with
  | enter g1 g2 =>
    rw [g1]
    refine Calls.mono g2 fun e w' hr => ?_
    obtain ⟨u, ρ', rfl, k1, k2, k3⟩ := hr
    exact hK u w' ρ' k1 k2 k3
  | value g1 g2 g3 =>
    rw [g1]
    exact hK _ w ρ g2 (g3 h) (.refl _ _)
theorem opC_ev (hC : CallOk P B callF) {op : Op} (he : opC P callF t s op = some (v, s')) : Ev s s' := by
  have me : ∀ {q : Option CV}, q.map (fun v => (v, s)) = some (v, s') → Ev s s' := fun h => by rw [map_ev h]; exact .refl _
  have so : ∀ {x : CV} {s1 : VS}, some (x, s1) = some (v, s') → Ev s s1 → Ev s s' := fun h k => by cases h; exact k
  cases op with
  | move x => exact so he (.refl _)
  | assign x => exact so he (.refl _)
  | pick c x y =>
    simp only [opC] at he
    split at he
    · exact so he (.refl _)
    · exact so he (.refl _)
    · cases he
  | alloc et =>
    simp only [opC] at he
    split at he
    · exact so he (.new _ _)
    · cases he
  | box et x => exact so he (.new _ _)
  | build ty ps => exact me he
  | buildSlice ty n ps => exact buildSlice_ev he
  | load ty x => exact me he
  | store ty x y =>
    simp only [opC, Option.map_eq_some_iff] at he
    obtain ⟨q, h1, h2⟩ := he
    cases h2
    exact store_ev h1
  | nilCheck x => exact me he
  | binOp op ty x y ty2 => exact bin_ev he
  | unOp op ty x => rw [at1_ev he]; exact .refl _
  | convert p q x => exact conv_ev he
  | makeInterface ty x =>
    simp only [opC] at he
    split at he
    · cases he
    · cases he
    · exact so he (.refl _)
  | makeFunc fn p q =>
    cases fn with
    | func f => exact so he (.refl _)
    | _ => cases he
  | makeMap ty z =>
    cases z with
    | none => exact so he (.new _ _)
    | some z => cases he
  | makeSlice ty l c => exact makeSlice_ev he
  | slice ty x lo hi mx =>
    simp only [opC] at he
    split at he
    · rename_i q hq
      cases he
      rw [at1_ev hq]; exact .refl _
    · exact me he
  | fieldAddr ty x f => exact me he
  | field ty x f =>
    simp only [opC] at he
    split at he
    · rename_i q hq
      cases he
      rw [at1_ev hq]; exact .refl _
    · exact me he
  | indexAddr ty x i => exact me he
  | index ty x i =>
    simp only [opC] at he
    split at he
    · rename_i q hq
      cases he
      rw [at2_ev hq]; exact .refl _
    · exact me he
  | extract x i => exact me he
  | call c =>
    simp only [opC] at he
    split at he
    · exact builtin_ev he
    · split at he
      · exact (hC _ _ _ _ _ he).1
      · cases he
  | _ => cases he
theorem op_ok (hC : CallOk P B callF) (h : HRel B ρ s w) (r : TRel ρ t a) (he : opC P callF t s o.op = some (v, s')) : StepWp P B ρ s w a o v s' := by
  cases ho : o.op with
  | move x =>
    rw [ho] at he
    replace he : some (ev t x, s) = some (v, s') := he
    cases he
    exact (move_go h r (.inl ho)).wp
  | assign x =>
    rw [ho] at he
    replace he : some (ev t x, s) = some (v, s') := he
    cases he
    exact (move_go h r (.inr ho)).wp
  | pick c x y =>
    rw [ho] at he
    simp only [opC] at he
    split at he
    · rename_i hb; cases he; exact (pick_go h r ho hb).wp
    · rename_i hb; cases he; exact (pick_go h r ho hb).wp
    · cases he
  | alloc et =>
    rw [ho] at he
    simp only [opC] at he
    split at he
    · rename_i z hz; cases he; exact (alloc_go h ho hz).wp
    · cases he
  | box et x => rw [ho] at he; cases he; exact (box_go h r ho).wp
  | build ty ps =>
    rw [ho] at he
    simp only [opC, Option.map_eq_some_iff] at he
    obtain ⟨q, h1, h2⟩ := he
    cases h2
    exact (build_go h r ho h1).wp
  | buildSlice ty n ps => rw [ho] at he; exact (buildSlice_go h r ho he).wp
  | load ty x =>
    rw [ho] at he
    simp only [opC, Option.map_eq_some_iff] at he
    obtain ⟨q, h1, h2⟩ := he
    cases h2
    exact (loadAt_go h r ho h1).wp
  | store ty x y =>
    rw [ho] at he
    simp only [opC, Option.map_eq_some_iff] at he
    obtain ⟨q, h1, h2⟩ := he
    cases h2
    exact (store_go h r ho h1).wp
  | nilCheck x =>
    rw [ho] at he
    simp only [opC, Option.map_eq_some_iff] at he
    obtain ⟨q, h1, h2⟩ := he
    cases h2
    exact (nilCheck_go h r ho h1).wp
  | binOp op ty x y ty2 => rw [ho] at he; exact (binOp_go h r ho he).wp
  | unOp op ty x => rw [ho] at he; exact (unOp_go h r ho he).wp
  | convert p q x => rw [ho] at he; exact (conv_go h r ho he).wp
  | makeInterface ty x =>
    rw [ho] at he
    simp only [opC] at he
    split at he
    · cases he
    · cases he
    · rename_i d hn hd
      cases he
      exact (makeIf_go h r ho hd fun ms e => by subst e; exact hn ms rfl).wp
  | makeFunc fn p q =>
    rw [ho] at he
    cases fn with
    | func f =>
      replace he : some (CV.fn f (mapC t p.toList) (mapC t q.toList), s) = some (v, s') := he
      cases he
      exact (makeFn_go h r ho).wp
    | _ => cases he
  | makeMap ty z =>
    rw [ho] at he
    cases z with
    | none =>
      replace he : some (CV.mp s.next, s.new none) = some (v, s') := he
      cases he
      exact (makeMap_go h ho).wp
    | some z => cases he
  | makeSlice ty l c => rw [ho] at he; exact (makeSlice_go h r ho he).wp
  | slice ty x lo hi mx =>
    rw [ho] at he
    simp only [opC] at he
    split at he
    · rename_i q hq
      cases he
      exact (pureSlice_go h r ho hq).wp
    · rename_i hno
      clear hno
      simp only [Option.map_eq_some_iff] at he
      obtain ⟨q, h1, h2⟩ := he
      cases h2
      exact (sliceAt_go h r ho h1).wp
  | fieldAddr ty x f =>
    rw [ho] at he
    simp only [opC, Option.map_eq_some_iff] at he
    obtain ⟨q, h1, h2⟩ := he
    cases h2
    exact (fieldAddr_go h r ho h1).wp
  | field ty x f => rw [ho] at he; exact (field_go h r ho he).wp
  | indexAddr ty x i =>
    rw [ho] at he
    simp only [opC, Option.map_eq_some_iff] at he
    obtain ⟨q, h1, h2⟩ := he
    cases h2
    exact (indexAddr_go h r ho h1).wp
  | index ty x i => rw [ho] at he; exact (index_go h r ho he).wp
  | extract x i =>
    rw [ho] at he
    simp only [opC, Option.map_eq_some_iff] at he
    obtain ⟨q, h1, h2⟩ := he
    cases h2
    exact (extract_go h r ho h1).wp
  | call c =>
    rw [ho] at he
    simp only [opC] at he
    split at he
    · rename_i b hc
      unfold builtinC at he
      split at he
      · rename_i ty X hts hxs
        obtain ⟨x, hx, rfl⟩ := map1 hxs
        exact (len_go h r ho hc hx hts he).wp
      · rename_i X Y hxs
        obtain ⟨x, y, hx, rfl, rfl⟩ := map2 hxs
        exact (append_go h r ho hc hx he).wp
      · rename_i ty X hts hxs
        obtain ⟨x, hx, rfl⟩ := map1 hxs
        exact (clear_go h r ho hc hx hts he).wp
      · rename_i X Y hxs
        obtain ⟨x, y, hx, rfl, rfl⟩ := map2 hxs
        exact (minmax_go h r ho hc hx rfl Builtin.max_ (fun _ _ _ _ => rfl) (fun _ _ _ _ => rfl) he).wp
      · rename_i X Y hxs
        obtain ⟨x, y, hx, rfl, rfl⟩ := map2 hxs
        exact (minmax_go h r ho hc hx rfl Builtin.min_ (fun _ _ _ _ => rfl) (fun _ _ _ _ => rfl) he).wp
      · rename_i b' off n e hxs
        obtain ⟨x, hx, hX⟩ := map1 hxs
        cases hn : Nat.blt 0 n with
        | false => rw [hn] at he; cases he
        | true =>
          rw [hn] at he
          cases he
          rw [Nat.blt_eq] at hn
          exact (sliceData_go h r ho hc hx hX.symm hn).wp
      · rename_i pt it b' n hts hxs
        obtain ⟨x, y, hx, hX, hY⟩ := map2 hxs
        split at he
        · rename_i k et hk hp
          cases hcc : (!k.fz && decide (0 < n) && decide (n ≤ 1000000) && Nat.ble n.toNat k.cs.length && Nat.beq (P.cellsOf et) 1 && Nat.beq k.ty et) with
          | false => rw [hcc] at he; cases he
          | true =>
            rw [hcc] at he
            simp only [cond_true] at he
            split at he
            · rename_i l hl
              cases he
              simp only [Bool.and_eq_true, Bool.not_eq_true', decide_eq_true_eq, Nat.ble_eq] at hcc
              obtain ⟨⟨⟨⟨⟨c1, c2⟩, c3⟩, c4⟩, c5⟩, c6⟩ := hcc
              exact (unsafeStr_go h r ho hc hx hts hX.symm hY.symm hk hp c1 c2 c3 c4 (Nat.eq_of_beq_eq_true c5) (Nat.eq_of_beq_eq_true c6) hl).wp
            · cases he
        · cases he
      · cases he
    · split at he
      · rename_i f p q hf
        exact call_go hC h r ho hf he
      · cases he
  | _ => rw [ho] at he; cases he
end
end Go.XR
/- The concrete evaluator: regions. -/
namespace Go.XR

/-! ### The test of equality -/
mutual
theorem beqV_eq : ∀ {a b : Value}, beqV a b = true → a = b
  | .bool a, b, h => by
    unfold beqV at h
    split at h <;> simp_all
  | .int k a, b, h => by
    unfold beqV at h
    split at h <;> simp_all
  | .float k a, b, h => by
    unfold beqV at h
    cases h
  | .complex k a c, b, h => by
    unfold beqV at h
    cases h
  | .string a, b, h => by
    unfold beqV at h
    split at h <;> simp_all
    rename_i x y _
    cases x; cases y; simp_all
  | .pointer a, b, h => by
    unfold beqV at h
    split at h <;> simp_all
  | .slice a n c, b, h => by
    unfold beqV at h
    split at h <;> simp_all
  | .map a, b, h => by
    unfold beqV at h
    cases h
  | .chan a, b, h => by
    unfold beqV at h
    cases h
  | .func f a c, b, h => by
    unfold beqV at h
    cases h
  | .nilFunc, b, h => by
    unfold beqV at h
    split at h <;> simp_all
  | .iface t v, b, h => by
    unfold beqV at h
    cases h
  | .nilIface, b, h => by
    unfold beqV at h
    split at h <;> simp_all
  | .agg ⟨l⟩, b, h => by
    cases b with
    | agg l' =>
      cases l' with
      | mk l' => rw [beqVs_eq (a := l) (b := l') (by simpa [beqV] using h)]
    | _ => simp [beqV] at h
  | .tuple ⟨l⟩, b, h => by
    unfold beqV at h
    split at h <;> simp_all
theorem beqVs_eq : ∀ {a b : List Value}, beqVs a b = true → a = b
  | [], [], _ => rfl
  | [], _ :: _, h => by simp [beqVs] at h
  | _ :: _, [], h => by simp [beqVs] at h
  | a :: r, b :: r', h => by
    simp only [beqVs, Bool.and_eq_true] at h
    rw [beqV_eq h.1, beqVs_eq h.2]
end
mutual
theorem beqCV_eq : ∀ {a b : CV}, beqCV a b = true → a = b
  | .at a, b, h => by
    cases b <;> simp only [beqCV, reduceCtorEq, Bool.false_eq_true] at h
    rw [beqV_eq h]
  | .ptr a c, b, h => by
    cases b <;> simp [beqCV] at h
    simp_all
  | .sl a c d e, b, h => by
    cases b <;> simp [beqCV] at h
    simp_all
  | .esl a c d e, b, h => by
    cases b <;> simp [beqCV] at h
    simp_all
  | .gp a c, b, h => by
    cases b <;> simp [beqCV] at h
    simp_all
  | .gs a c, b, h => by
    cases b <;> simp [beqCV] at h
    simp_all
  | .agg l, b, h => by
    cases b <;> simp only [beqCV, reduceCtorEq, Bool.false_eq_true] at h
    rw [beqCVs_eq h]
  | .tup l, b, h => by
    cases b <;> simp only [beqCV, reduceCtorEq, Bool.false_eq_true] at h
    rw [beqCVs_eq h]
  | .fn f p q, b, h => by
    unfold beqCV at h
    split at h <;> simp_all
  | .ifc t v, b, h => by
    unfold beqCV at h
    cases h
  | .mp n, b, h => by
    unfold beqCV at h
    cases h
theorem beqCVs_eq : ∀ {a b : List CV}, beqCVs a b = true → a = b
  | [], [], _ => rfl
  | [], _ :: _, h => by simp [beqCVs] at h
  | _ :: _, [], h => by simp [beqCVs] at h
  | a :: r, b :: r', h => by
    simp only [beqCVs, Bool.and_eq_true] at h
    rw [beqCV_eq h.1, beqCVs_eq h.2]
end
section
variable {P : Program} {B w w' : World} {ρ ρ' : Pm} {s s' : VS} {t t' : Tr CV} {a : Act} {o : Oper} {v x y : CV} {vx vy : Value} {callF : FuncId → List CV → VS → Res}

/-! ### Slots and guards -/
theorem TRel.put (r : TRel ρ t a) {d : Option Nat} {u : Value} (hv : den ρ v = some u) (hd : ∀ n, d = some n → n < a.tmps.size) : TRel ρ (putC t d v) (a.put d u) := by
  cases d with
  | none => exact r
  | some d =>
    intro i
    have hlt := hd d rfl
    simp only [putC, Act.put, Tr.get_set, XE.tm_getD]
    by_cases e : i = d
    · rw [if_pos e, if_pos ⟨e, hlt⟩]; exact hv
    · rw [if_neg e, if_neg (fun h => e h.1)]; exact r i
theorem want_ok {all : List Oper} {b : Bool} (r : TRel ρ t a) (h : wantC all o t = some b) : Region.wanted o (yielded all.toArray a.tmps) = b := by
  unfold wantC at h
  unfold Region.wanted
  cases hg : o.guard with
  | none => rw [hg] at h; cases h; rfl
  | some jw =>
    obtain ⟨j, w⟩ := jw
    rw [hg] at h
    simp only at h ⊢
    split at h
    · rename_i g hd
      have h1 : ((all.toArray[j]?).bind (·.dst)) = some g := by simpa using hd
      have hr := r g
      split at h
      · rename_i q hq
        rw [hq] at hr
        have := XE.getD_bool (Option.some.inj hr).symm
        cases h
        simp only [yielded, h1, Option.bind_some, this]
        cases q <;> cases w <;> rfl
      · rename_i vs hq
        rw [hq] at hr
        have hr' : Value.tuple vs = a.tmps.getD g undef := Option.some.inj hr
        cases h
        have hy : yielded all.toArray a.tmps j = none := by
          simp only [yielded, h1, Option.bind_some]
          cases ht : a.tmps[g]? with
          | none => rfl
          | some z =>
            rw [Array.getD_eq_getD_getElem?, ht] at hr'
            have hz : Value.tuple vs = z := hr'
            subst hz
            rfl
        rw [hy]; rfl
      · rename_i hq
        rw [hq] at hr
        have hr' : undef = a.tmps.getD g undef := Option.some.inj hr
        cases h
        have hy : yielded all.toArray a.tmps j = none := XE.yielded_und (show XE.dstAt all j = some g from hd) hr'.symm
        rw [hy]; rfl
      · cases h
    · cases h
/-- A step of a region. -/
theorem step_ok (hC : CallOk P B callF) {all : List Oper} {fid : Option Nat} {i : Nat} (hget : all.toArray[i]? = some o) (he : stepC P callF all o fid t s = some (v, s')) (h : HRel B ρ s w) (r : TRel ρ t a) (hf : ∀ b, fid = some b → ρ b = none ∧ b < s.next)
    {K : Act → World → Prop} {Q : Exit → Act → World → Prop} (hK : ∀ u w' ρ', den ρ' v = some u → HRel B ρ' s' w' → Ext ρ ρ' → (∀ x, x < s.next → fid ≠ some x → ρ' x = ρ x) → K (a.put o.dst u) w') : wpOp P all.toArray Q i K a w := by
  unfold wpOp
  simp only [hget]
  unfold stepC at he
  split at he
  · rename_i hw
    rw [want_ok r hw, if_pos rfl]
    split at he
    · rename_i b
      obtain ⟨hb, hlt⟩ := hf b rfl
      unfold floatC at he
      split at he
      · rename_i et ho
        split at he
        · rename_i k z hk hz
          cases hc : (Nat.beq k.ty et && k.ex && !k.fz && beqCVs k.cs (z.cells.toList.map CV.at)) with
          | false => rw [hc] at he; cases he
          | true =>
            rw [hc] at he
            cases he
            simp only [Bool.and_eq_true, Bool.not_eq_true'] at hc
            obtain ⟨⟨⟨c1, c2⟩, c3⟩, c4⟩ := hc
            replace c1 := Nat.eq_of_beq_eq_true c1
            replace c4 := beqCVs_eq c4
            have hr := h.real (w' := XE.newW w z.cells et) (o := .cells z.cells et (0, 0)) (n := z.cells.size) hlt hb rfl fun k' hk' => by
              rw [hk] at hk'
              cases hk'
              exact ⟨z.cells, (0, 0), by rw [c1], rfl, fun _ => by rw [c4]; simp, nofz0 _, by rw [c4]; exact cells_at ρ z⟩
            have hrun : (execOp a.eval o).run P w = .ok (.value (.pointer (some ⟨w.heap.size, 0, none⟩))) (XE.newW w z.cells et) := by
              simp [execOp, ho, Instr.alloc, zero_run hz, XE.run_newVar]
            refine .inl ?_
            unfold Oper.wp
            rw [hrun]
            exact hK _ _ _ (new_ptr ρ b _) hr (upd_ext hb) fun x _ hx => by unfold upd; rw [if_neg fun e => hx (by rw [e])]
        · cases he
      · cases he
    · refine .inl ((op_ok hC h r he) K Q fun u w' ρ' h1 h2 h3 => hK u w' ρ' h1 h2 (h.ext h3) fun x hx _ => h3 x hx)
  · rename_i hw
    cases he
    rw [want_ok r hw]
    simp only [Bool.false_eq_true, if_false]
    exact hK undef w ρ rfl h (.refl ρ) fun _ _ _ => rfl
  · cases he
theorem stepC_ev (hC : CallOk P B callF) {all : List Oper} {fid : Option Nat} (he : stepC P callF all o fid t s = some (v, s')) : Ev s s' := by
  unfold stepC at he
  split at he
  · split at he
    · unfold floatC at he
      simp only [Bool.cond_eq_ite] at he
      repeat' split at he
      all_goals first
        | (cases he; done)
        | (cases he; exact .refl _)
    · exact opC_ev hC he
  · cases he; exact .refl _
  · cases he

/-! ### In the order of the text -/
def DstsIn (n : Nat) (l : List Oper) : Prop := ∀ o ∈ l, ∀ d, o.dst = some d → d < n
theorem opsC_ev (hC : CallOk P B callF) {all : List Oper} : ∀ {l : List Oper} {t : Tr CV} {s : VS}, opsC P callF all l t s = some (t', s') → Ev s s'
  | [], t, s, h => by cases h; exact .refl _
  | o :: r, t, s, h => by
    simp only [opsC] at h
    split at h
    · split at h
      · rename_i hv
        exact (opC_ev hC hv).trans (opsC_ev hC h)
      · cases h
    · exact opsC_ev hC h
    · cases h
theorem ops_text (hC : CallOk P B callF) {all : List Oper} {Q : Exit → Act → World → Prop} : ∀ (l : List Oper) (i : Nat) (t : Tr CV) (s : VS) (a : Act) (w : World) (ρ : Pm), all.drop i = l → HRel B ρ s w → TRel ρ t a → DstsIn a.tmps.size l → opsC P callF all l t s = some (t', s') →
    (∀ a' w' ρ', HRel B ρ' s' w' → TRel ρ' t' a' → ExtAt s.next ρ ρ' → a'.tmps.size = a.tmps.size → a'.defers = a.defers → Q .normal a' w') → wpOps P all.toArray Q (List.range' i l.length) a w
  | [], i, t, s, a, w, ρ, _, h, r, _, he, hQ => by
    cases he
    exact hQ a w ρ h r (.refl _ _) rfl rfl
  | o :: rest, i, t, s, a, w, ρ, hdrop, h, r, hd, he, hQ => by
    have hget : all.toArray[i]? = some o := by
      have : (all.drop i)[0]? = some o := by rw [hdrop]; rfl
      simpa using this
    have hdrop' : all.drop (i + 1) = rest := by rw [← List.drop_drop, hdrop]; rfl
    have hst : ∃ v s1, stepC P callF all o none t s = some (v, s1) ∧ opsC P callF all rest (putC t o.dst v) s1 = some (t', s') := by
      simp only [opsC] at he
      unfold stepC
      split at he
      · rename_i hw
        split at he
        · rename_i v s1 hv
          exact ⟨v, s1, hv, he⟩
        · cases he
      · rename_i hw
        exact ⟨_, _, rfl, he⟩
      · cases he
    obtain ⟨v, s1, h1, h2⟩ := hst
    have hev := stepC_ev hC h1
    rw [List.length_cons, List.range'_succ, wpOps_cons]
    refine step_ok hC hget h1 h r (fun b e => by cases e) fun u w' ρ' g1 g2 g3 g4 => ?_
    refine ops_text hC rest (i + 1) _ s1 (a.put o.dst u) w' ρ' hdrop' g2 ((r.mono g3).put g1 fun n e => hd o (by simp) n e) (fun o' ho' d e => by rw [XE.put_size]; exact hd o' (by simp [ho']) d e) h2 fun a2 w2 ρ2 k1 k2 k3 k4 k5 => ?_
    exact hQ a2 w2 ρ2 k1 k2 (ExtAt.trans (fun x hx => g4 x hx (by simp)) k3 hev.next) (k4.trans (XE.put_size a _ u)) (k5.trans (XE.put_defers a _ u))
theorem region_ok (hC : CallOk P B callF) {id : Nat} {ops : Array Oper} {Q : Exit → Act → World → Prop} (h : HRel B ρ s w) (r : TRel ρ t a) (hd : DstsIn a.tmps.size ops.toList) (he : opsC P callF ops.toList ops.toList t s = some (t', s'))
    (hQ : ∀ a' w' ρ', HRel B ρ' s' w' → TRel ρ' t' a' → ExtAt s.next ρ ρ' → a'.tmps.size = a.tmps.size → a'.defers = a.defers → Q .normal a' w') : (Code.region id ops false).wp P Q a w := by
  refine wp_region ?_
  have := ops_text (Q := Q) hC ops.toList 0 t s a w ρ rfl h r hd he hQ
  rwa [List.range_eq_range', ← Array.length_toList]
end
end Go.XR
/- The concrete evaluator: regions whose order is drawn. -/
namespace Go.XR

/-! ### Counting -/
section
variable {f g : Nat → Bool}
theorem countE_shift : ∀ (l : List Stp) (i : Nat), countE f (i + 1) l = countE (fun q => f (q + 1)) i l
  | [], _ => rfl
  | x :: r, i => by simp only [countE]; rw [countE_shift r (i + 1)]
theorem countE_mono : ∀ (l : List Stp) (i : Nat), (∀ q x, l[q]? = some x → x.eff = true → f (i + q) = true → g (i + q) = true) → countE f i l ≤ countE g i l
  | [], _, _ => Nat.le_refl _
  | x :: r, i, h => by
    have ih := countE_mono r (i + 1) fun q y hy he hf => by
      have := h (q + 1) y (by simpa using hy) he (by rwa [show i + (q + 1) = i + 1 + q by omega])
      rwa [show i + (q + 1) = i + 1 + q by omega] at this
    have h0 := h 0 x rfl
    simp only [Nat.add_zero] at h0
    simp only [countE]
    cases hx : x.eff <;> cases hf : f i <;> cases hg : g i <;> simp_all <;> omega
theorem countE_cong (l : List Stp) (i : Nat) (h : ∀ q x, l[q]? = some x → x.eff = true → f (i + q) = g (i + q)) : countE f i l = countE g i l :=
  Nat.le_antisymm (countE_mono l i fun q x hx he hf => by rw [← h q x hx he]; exact hf) (countE_mono l i fun q x hx he hf => by rw [h q x hx he]; exact hf)
theorem countE_disj : ∀ (l : List Stp) (i : Nat), (∀ q x, l[q]? = some x → x.eff = true → f (i + q) = true → g (i + q) = true → False) → countE f i l + countE g i l ≤ countE (fun _ => true) i l
  | [], _, _ => Nat.le_refl _
  | x :: r, i, h => by
    have ih := countE_disj r (i + 1) fun q y hy he hf hg => by
      refine h (q + 1) y (by simpa using hy) he ?_ ?_ <;> rwa [show i + (q + 1) = i + 1 + q by omega]
    have h0 := h 0 x rfl
    simp only [Nat.add_zero] at h0
    simp only [countE]
    cases hx : x.eff <;> cases hf : f i <;> cases hg : g i <;> simp_all <;> omega
theorem countE_none : ∀ (l : List Stp) (i : Nat), (∀ q x, l[q]? = some x → x.eff = true → f (i + q) = false) → countE f i l = 0
  | [], _, _ => rfl
  | x :: r, i, h => by
    have ih := countE_none r (i + 1) fun q y hy he => by
      have := h (q + 1) y (by simpa using hy) he
      rwa [show i + (q + 1) = i + 1 + q by omega] at this
    have h0 := h 0 x rfl
    simp only [Nat.add_zero] at h0
    simp only [countE]
    cases hx : x.eff <;> simp_all
theorem countE_succ : ∀ (l : List Stp) (i p : Nat) (x : Stp), l[p]? = some x → x.eff = true → f (i + p) = false → g (i + p) = true → (∀ q y, l[q]? = some y → y.eff = true → q ≠ p → f (i + q) = g (i + q)) → countE g i l = countE f i l + 1
  | [], _, _, _, h, _, _, _, _ => by cases h
  | z :: r, i, 0, x, h, he, hf, hg, ho => by
    cases h
    have := countE_cong (f := f) (g := g) r (i + 1) fun q y hy hye => by
      have := ho (q + 1) y (by simpa using hy) hye (by omega)
      rwa [show i + (q + 1) = i + 1 + q by omega] at this
    simp only [Nat.add_zero] at hf hg
    simp [countE, he, hf, hg, this]
  | z :: r, i, p + 1, x, h, he, hf, hg, ho => by
    have ih := countE_succ r (i + 1) p x (by simpa using h) he (by rwa [show i + 1 + p = i + (p + 1) by omega]) (by rwa [show i + 1 + p = i + (p + 1) by omega]) fun q y hy hye hq => by
      have := ho (q + 1) y (by simpa using hy) hye (by omega)
      rwa [show i + (q + 1) = i + 1 + q by omega] at this
    have h0 := ho 0 z rfl
    simp only [Nat.add_zero] at h0
    simp only [countE]
    cases hz : z.eff with
    | false => simpa using ih
    | true => rw [h0 hz (by omega)]; cases g i <;> simp [ih]
end
section
variable {P : Program} {B w w' : World} {ρ ρ' : Pm} {s s' : VS} {t t' : Tr CV} {a : Act} {o : Oper} {v x y : CV} {callF : FuncId → List CV → VS → Res}

/-! ### The trace -/
structure Trace (P : Program) (callF : FuncId → List CV → VS → Res) (all : List Oper) (fids : List (Option Nat)) (i0 : Nat) (l : List Oper) (s : VS) (sts : List Stp) (hs : List VS) (T : Nat → Tr CV) (S : Nat → VS) : Prop where
  len : sts.length = l.length
  step : ∀ k o, l[k]? = some o → ∃ x, sts[k]? = some x ∧ x.t = T k ∧ stepC P callF all o (fids[i0 + k]?).join (T k) (S k) = some (x.v, S (k + 1)) ∧ T (k + 1) = putC (T k) o.dst x.v ∧ (x.eff = false → S (k + 1) = S k)
  heap : ∀ k, k ≤ l.length → (s :: hs)[countE (fun q => decide (q < k)) 0 sts]? = some (S k)
  num : hs.length = countE (fun _ => true) 0 sts
theorem trace_ok (hC : CallOk P B callF) {all : List Oper} {fids : List (Option Nat)} : ∀ (l : List Oper) (i : Nat) (t : Tr CV) (s : VS) (sts : List Stp) (hs : List VS) (t' : Tr CV) (s' : VS), traceC P callF all fids i l t s = some (sts, hs, t', s') →
    ∃ (T : Nat → Tr CV) (S : Nat → VS), T 0 = t ∧ S 0 = s ∧ T l.length = t' ∧ S l.length = s' ∧ Trace P callF all fids i l s sts hs T S
  | [], i, t, s, sts, hs, t', s', h => by
    cases h
    exact ⟨fun _ => t, fun _ => s, rfl, rfl, rfl, rfl, rfl, (fun k o h => by cases h), (fun k _ => rfl), rfl⟩
  | o :: r, i, t, s, sts, hs, t', s', h => by
    simp only [traceC] at h
    split at h
    · rename_i v s1 hst
      split at h
      · rename_i st hs1 t1 s2 hr
        obtain ⟨T, S, h1, h2, h3, h4, tr⟩ := trace_ok hC r (i + 1) _ s1 st hs1 t1 s2 hr
        have hev := stepC_ev hC hst
        have mk : ∀ (e : Bool) (hs' : List VS), (e = false → s1 = s ∧ hs' = hs1) → (e = true → hs' = s1 :: hs1) → sts = ⟨t, v, e⟩ :: st → hs = hs' → t' = t1 → s' = s2 →
            ∃ (T : Nat → Tr CV) (S : Nat → VS), T 0 = t ∧ S 0 = s ∧ T (o :: r).length = t' ∧ S (o :: r).length = s' ∧ Trace P callF all fids i (o :: r) s sts hs T S := fun e hs' he0 he1 e1 e2 e3 e4 => by
          subst e1 e2 e3 e4
          refine ⟨fun | 0 => t | k + 1 => T k, fun | 0 => s | k + 1 => S k, rfl, rfl, h3, h4, by simp [tr.len], fun k o' hk => ?_, fun k hk => ?_, ?_⟩
          · cases k with
            | zero =>
              cases hk
              refine ⟨_, rfl, rfl, by show _ = some (v, S 0); rw [h2]; exact hst, h1, fun he => ?_⟩
              show S 0 = s
              rw [h2]; exact (he0 he).1
            | succ k =>
              obtain ⟨x, g1, g2, g3, g4, g5⟩ := tr.step k o' (by simpa using hk)
              exact ⟨x, by simpa using g1, g2, by rw [show i + (k + 1) = i + 1 + k by omega]; exact g3, g4, g5⟩
          · cases k with
            | zero =>
              rw [countE_none _ _ fun q x _ _ => by simp]; rfl
            | succ k =>
              have := tr.heap k (by simpa using hk)
              simp only [countE]
              rw [countE_shift, show (fun q => decide (q + 1 < k + 1)) = fun q => decide (q < k) from funext fun q => by simp]
              cases e with
              | false =>
                obtain ⟨q1, q2⟩ := he0 rfl
                rw [q2]
                rw [q1] at this
                simpa using this
              | true =>
                rw [he1 rfl]
                simpa using this
          · simp only [countE]
            rw [countE_shift]
            cases e with
            | false => rw [(he0 rfl).2, tr.num]; simp
            | true => rw [he1 rfl, List.length_cons, tr.num]; simp
        cases hv : Nat.beq s.ver s1.ver with
        | true =>
          rw [hv] at h
          cases h
          refine mk false _ (fun _ => ⟨?_, rfl⟩) (fun e => by cases e) rfl rfl rfl rfl
          rcases hev.ver with e | e
          · exact e
          · have := Nat.eq_of_beq_eq_true hv; omega
        | false =>
          rw [hv] at h
          cases h
          exact mk true _ (fun e => by cases e) (fun _ => rfl) rfl rfl rfl rfl
      · cases h
    · cases h

/-! ### The checks -/
theorem hasN_mem {d : Nat} : ∀ {l : List Nat}, d ∈ l → XE.hasN d l = true
  | [], h => by cases h
  | x :: r, h => by
    simp only [XE.hasN, Bool.or_eq_true]
    rcases List.mem_cons.1 h with rfl | h
    · exact .inl (by simp)
    · exact .inr (hasN_mem h)
theorem apart_one {all : List Oper} {ms : List Nat} {i : Nat} {sl : List Nat} {dst : Option Nat} : ∀ {l : List Oper} {q0 : Nat}, apartC all ms i sl dst q0 l = true → ∀ q o', l[q]? = some o' → q0 + q ≠ i → ∀ d, o'.dst = some d → dst ≠ some d ∧ (d ∈ sl → Nat.testBit (ms.getD i 0) (q0 + q) = true ∨ Nat.testBit (ms.getD (q0 + q) 0) i = true)
  | [], _, _, q, o', h, _, _, _ => by cases h
  | x :: r, q0, h, q, o', hq, hne, d, hd => by
    simp only [apartC, Bool.and_eq_true] at h
    cases q with
    | zero =>
      cases hq
      simp only [Nat.add_zero] at hne ⊢
      rw [XE.nbeq hne, hd] at h
      simp only [Bool.false_or, Bool.and_eq_true, Bool.not_eq_true', Bool.or_eq_true] at h
      refine ⟨fun e => ?_, fun hm => ?_⟩
      · rw [e] at h
        have := h.1.1
        simp [beqO] at this
      · rcases h.1.2 with (h1 | h1) | h1
        · rw [hasN_mem hm] at h1; cases h1
        · exact .inl h1
        · exact .inr h1
    | succ q =>
      have := apart_one h.2 q o' (by simpa using hq) (by omega) d hd
      rwa [show q0 + 1 + q = q0 + (q + 1) by omega] at this
theorem apart_all {all : List Oper} {ms : List Nat} : ∀ {l : List Oper} {i0 : Nat}, apartAll all ms i0 l = true → ∀ i o, l[i]? = some o → apartC all ms (i0 + i) (slotsOf all o) o.dst 0 all = true
  | [], _, _, i, o, h => by cases h
  | x :: r, i0, h, i, o, hi => by
    simp only [apartAll, Bool.and_eq_true] at h
    cases i with
    | zero => cases hi; exact h.1
    | succ i =>
      have := apart_all h.2 i o (by simpa using hi)
      rwa [show i0 + 1 + i = i0 + (i + 1) by omega] at this
theorem effB_ok {ms : List Nat} {i : Nat} : ∀ {l : List Stp} {q0 : Nat}, effB ms i q0 l = true → ∀ q y, l[q]? = some y → y.eff = true → q0 + q ≠ i → Nat.testBit (ms.getD i 0) (q0 + q) = true ∨ Nat.testBit (ms.getD (q0 + q) 0) i = true
  | [], _, _, q, y, h, _, _ => by cases h
  | x :: r, q0, h, q, y, hq, he, hne => by
    simp only [effB, Bool.and_eq_true] at h
    cases q with
    | zero =>
      cases hq
      simp only [Nat.add_zero] at hne ⊢
      rw [he, XE.nbeq hne] at h
      simpa using h.1
    | succ q =>
      have := effB_ok h.2 q y (by simpa using hq) he (by omega)
      rwa [show q0 + 1 + q = q0 + (q + 1) by omega] at this
theorem allAt_ok {f : VS → Bool} {lo hi c : Nat} : ∀ {l : List VS} {j0 : Nat}, allAt f lo hi c j0 l = true → ∀ j h, l[j]? = some h → lo ≤ j0 + j → j0 + j ≤ hi → j0 + j ≠ c → f h = true
  | [], _, _, j, h, hj, _, _, _ => by cases hj
  | x :: r, j0, h, j, hh, hj, h1, h2, h3 => by
    simp only [allAt, Bool.and_eq_true] at h
    cases j with
    | zero =>
      cases hj
      simp only [Nat.add_zero] at h1 h2 h3
      have a1 : Nat.blt j0 lo = false := by
        cases e : Nat.blt j0 lo with
        | false => rfl
        | true => rw [Nat.blt_eq] at e; omega
      have a2 : Nat.blt hi j0 = false := by
        cases e : Nat.blt hi j0 with
        | false => rfl
        | true => rw [Nat.blt_eq] at e; omega
      rw [a1, a2, XE.nbeq h3] at h
      simpa using h.1
    | succ j => exact allAt_ok h.2 j hh (by simpa using hj) (by omega) (by omega) (by omega)
theorem quiet_ok {all : List Oper} {fids : List (Option Nat)} {ms : List Nat} {sts : List Stp} {hs : List VS} : ∀ {l : List Oper} {xs : List Stp} {i c : Nat}, quietAll P callF all fids ms sts hs i c l xs = true → ∀ k o x, l[k]? = some o → xs[k]? = some x →
    (x.eff = true → effB ms (i + k) 0 sts = true) ∧ (x.eff = false → allAt (sameAt P callF all o (fids[i + k]?).join x) (countE (fun q => Nat.testBit (ms.getD (i + k) 0) q) 0 sts) (hs.length - 1 - countE (fun q => Nat.testBit (ms.getD q 0) (i + k)) 0 sts) (c + countE (fun q => decide (q < k)) 0 xs) 0 hs = true)
  | [], _, _, _, _, k, o, x, h, _ => by cases h
  | o0 :: r, [], _, _, _, k, o, x, _, h => by cases h
  | o0 :: r, x0 :: xs, i, c, h, k, o, x, hk, hx => by
    simp only [quietAll, Bool.and_eq_true] at h
    cases k with
    | zero =>
      cases hk
      cases hx
      refine ⟨fun e => by rw [e] at h; exact h.1, fun e => ?_⟩
      rw [e] at h
      rw [show countE (fun q => decide (q < 0)) 0 (x0 :: xs) = 0 from countE_none _ _ fun q x _ _ => by simp]
      exact h.1
    | succ k =>
      have := quiet_ok h.2 k o x (by simpa using hk) (by simpa using hx)
      rw [show i + 1 + k = i + (k + 1) by omega] at this
      refine ⟨this.1, fun e => ?_⟩
      have h2 := this.2 e
      simp only [countE]
      rw [countE_shift, show (fun q => decide (q + 1 < k + 1)) = fun q => decide (q < k) from funext fun q => by simp]
      cases hx0 : x0.eff with
      | false => rw [hx0] at h2; simpa using h2
      | true =>
        rw [hx0] at h2
        simp only [cond_true] at h2
        simp only [Nat.zero_lt_succ, decide_true, Bool.and_true, cond_true]
        rwa [show c + (countE (fun q => decide (q < k)) 0 xs + 1) = c + 1 + countE (fun q => decide (q < k)) 0 xs by omega]

/-! ### Only the slots count -/
theorem mapC_congr : ∀ {l : List Operand}, (∀ x ∈ l, ev t x = ev t' x) → mapC t l = mapC t' l
  | [], _ => rfl
  | x :: r, h => by
    have := mapC_congr (l := r) fun y hy => h y (by simp [hy])
    unfold mapC at this ⊢
    rw [List.map_cons, List.map_cons, this, h x (by simp)]
theorem opt_congr {z : Option Operand} (h : ∀ x ∈ z.toArray, ev t x = ev t' x) : z.map (ev t) = z.map (ev t') := by
  cases z with
  | none => rfl
  | some x => simp [h x (by simp)]
theorem parts_congr {ps : Array (Nat × Operand)} (h : ∀ x ∈ (ps.toList.map (·.2)).toArray, ev t x = ev t' x) : (ps.toList.map fun p => (p.1, ev t p.2)) = ps.toList.map fun p => (p.1, ev t' p.2) := by
  refine List.map_congr_left fun p hp => ?_
  rw [h p.2 (by simp; exact ⟨p.1, by simpa using hp⟩)]
theorem opC_congr {op : Op} (h : ∀ x ∈ op.operands, ev t x = ev t' x) : opC P callF t s op = opC P callF t' s op := by
  cases op with
  | move x => simp only [opC, h x (by simp [Op.operands])]
  | assign x => simp only [opC, h x (by simp [Op.operands])]
  | pick c x y => simp only [opC, h c (by simp [Op.operands]), h x (by simp [Op.operands]), h y (by simp [Op.operands])]
  | alloc et => rfl
  | box et x => simp only [opC, h x (by simp [Op.operands])]
  | build ty ps => simp only [opC]; rw [parts_congr h]
  | buildSlice ty n ps => simp only [opC]; rw [parts_congr h]
  | load ty x => simp only [opC, h x (by simp [Op.operands])]
  | store ty x y => simp only [opC, h x (by simp [Op.operands]), h y (by simp [Op.operands])]
  | nilCheck x => simp only [opC, h x (by simp [Op.operands])]
  | binOp op ty x y ty2 => simp only [opC, h x (by simp [Op.operands]), h y (by simp [Op.operands])]
  | unOp op ty x => simp only [opC, h x (by simp [Op.operands])]
  | convert p q x => simp only [opC, h x (by simp [Op.operands])]
  | makeInterface ty x => simp only [opC, h x (by simp [Op.operands])]
  | makeFunc fn p q =>
    cases fn with
    | func f =>
      show some _ = some _
      rw [mapC_congr (l := p.toList) fun x hx => h x (by simp [Op.operands]; exact .inl (by simpa using hx)), mapC_congr (l := q.toList) fun x hx => h x (by simp [Op.operands]; exact .inr (by simpa using hx))]
    | _ => rfl
  | makeMap ty z => cases z <;> rfl
  | makeSlice ty l c => simp only [opC, h l (by simp [Op.operands]), h c (by simp [Op.operands])]
  | slice ty x lo hi mx =>
    have h1 := h x (by simp [Op.operands])
    have h2 : lo.map (ev t) = lo.map (ev t') := opt_congr fun y hy => h y (by simp [Op.operands] at hy ⊢; simp [hy])
    have h3 : hi.map (ev t) = hi.map (ev t') := opt_congr fun y hy => h y (by simp [Op.operands] at hy ⊢; simp [hy])
    have h4 : mx.map (ev t) = mx.map (ev t') := opt_congr fun y hy => h y (by simp [Op.operands] at hy ⊢; simp [hy])
    have h5 : (lo.map fun y => toVal (ev t y)) = lo.map fun y => toVal (ev t' y) := by
      have := congrArg (Option.map toVal) h2
      simpa [Option.map_map, Function.comp_def] using this
    have h6 : (hi.map fun y => toVal (ev t y)) = hi.map fun y => toVal (ev t' y) := by
      have := congrArg (Option.map toVal) h3
      simpa [Option.map_map, Function.comp_def] using this
    simp only [opC, h1, h2, h3, h4, h5, h6]
  | fieldAddr ty x f => simp only [opC, h x (by simp [Op.operands])]
  | field ty x f => simp only [opC, h x (by simp [Op.operands])]
  | indexAddr ty x i => simp only [opC, h x (by simp [Op.operands]), h i (by simp [Op.operands])]
  | index ty x i => simp only [opC, h x (by simp [Op.operands]), h i (by simp [Op.operands])]
  | extract x i => simp only [opC, h x (by simp [Op.operands])]
  | call c =>
    have h1 : mapC t c.args.toList = mapC t' c.args.toList := mapC_congr fun x hx => h x (by simp [Op.operands, Call.operands]; exact .inr (by simpa using hx))
    have h2 : calleeC t c.callee = calleeC t' c.callee := by
      cases hc : c.callee with
      | value x => simp only [calleeC]; rw [h x (by simp [Op.operands, Call.operands, hc])]
      | _ => rfl
    simp only [opC, h1]
    cases hc : c.callee with
    | builtin b => rfl
    | value x => rw [hc] at h2; simp only [h2]
    | invoke x n => rw [hc] at h2; simp only [h2]
  | _ => rfl
theorem slots_ev {all : List Oper} (h : ∀ d ∈ slotsOf all o, t.get d = t'.get d) : ∀ x ∈ o.op.operands, ev t x = ev t' x := fun x hx => by
  cases x with
  | tmp n =>
    simp only [ev]
    rw [h n]
    simp only [slotsOf, List.mem_append, List.mem_filterMap]
    exact .inl ⟨.tmp n, by simpa using hx, rfl⟩
  | _ => rfl
theorem stepC_congr {all : List Oper} {fid : Option Nat} (h : ∀ d ∈ slotsOf all o, t.get d = t'.get d) : stepC P callF all o fid t s = stepC P callF all o fid t' s := by
  have hw : wantC all o t = wantC all o t' := by
    unfold wantC
    cases hg : o.guard with
    | none => rfl
    | some jw =>
      obtain ⟨j, w⟩ := jw
      simp only
      cases hd : (all[j]?).bind (·.dst) with
      | none => rfl
      | some g =>
        simp only
        rw [h g (by simp [slotsOf, hg, hd])]
  unfold stepC
  rw [hw, opC_congr (slots_ev h)]
end
end Go.XR
