/- Part 9 of the proof. -/
import Derived.Test.YtnmkgbomiillgaaGreatDoorP08
/- Regions whose order is drawn: any order that keeps what must wait comes to the same. -/
namespace Go.XE

/-! ### Masks -/
theorem meets_false {a b : List Loc} (h : meets a b = false) : ∀ l, l ∈ a → l ∉ b := by
  induction a with
  | nil => exact fun l h => by cases h
  | cons x r ih =>
    simp only [meets, Bool.or_eq_false_iff] at h
    intro l hl hb
    rcases List.mem_cons.1 hl with rfl | hl
    · rw [hasLoc_mem.2 hb] at h; cases h.1
    · exact ih h.2 l hl hb
def NoMeet (t u : Tr) : Prop := ∀ l, (l ∈ t.2 → l ∉ u.1 ∧ l ∉ u.2) ∧ (l ∈ t.1 → l ∉ u.2)
theorem freeOf_ok {masks : List Nat} {i : Nat} {t : Tr} : ∀ {l : List Tr} {j : Nat}, freeOf masks i t j l = true → ∀ k u, l[k]? = some u → Nat.testBit (masks.getD (j + k) 0) i = true ∨ NoMeet t u
  | [], _, _, k, u, h => by cases h
  | x :: r, j, h, k, u, hk => by
    simp only [freeOf, Bool.and_eq_true] at h
    cases k with
    | zero =>
      cases hk
      rcases Bool.or_eq_true_iff.1 h.1 with h1 | h1
      · exact .inl h1
      · simp only [Bool.not_eq_true', Bool.or_eq_false_iff] at h1
        exact .inr fun l => ⟨fun hl => ⟨meets_false h1.1.1 l hl, meets_false h1.1.2 l hl⟩, fun hl => meets_false h1.2 l hl⟩
    | succ k =>
      have := freeOf_ok h.2 k u (by simpa using hk)
      rwa [show j + 1 + k = j + (k + 1) by omega] at this
theorem allFree_ok {masks : List Nat} : ∀ {l : List Tr} {i : Nat}, allFree masks i l = true → ∀ p q t u, p < q → l[p]? = some t → l[q]? = some u → Nat.testBit (masks.getD (i + q) 0) (i + p) = true ∨ NoMeet t u
  | [], _, _, p, q, t, u, _, h, _ => by cases h
  | x :: r, i, h, p, q, t, u, hpq, hp, hq => by
    simp only [allFree, Bool.and_eq_true] at h
    cases q with
    | zero => omega
    | succ q =>
      cases p with
      | zero =>
        cases hp
        have := freeOf_ok h.1 q u (by simpa using hq)
        rwa [show i + 1 + q = i + (q + 1) by omega] at this
      | succ p =>
        have := allFree_ok h.2 p q t u (by omega) (by simpa using hp) (by simpa using hq)
        rwa [show i + 1 + q = i + (q + 1) by omega, show i + 1 + p = i + (p + 1) by omega] at this
theorem backOnly_ok : ∀ {l : List Oper} {i : Nat}, backOnly l i = true → ∀ k o, l[k]? = some o → ∀ e ∈ o.after.toList, Region.binds .any e = true → e.on < i + k
  | [], _, _, k, o, h => by cases h
  | x :: r, i, h, k, o, hk => by
    simp only [backOnly, Bool.and_eq_true, List.all_eq_true] at h
    cases k with
    | zero =>
      cases hk
      intro e he hb
      have := h.1 e he
      simpa [hb, Nat.blt_eq] using this
    | succ k =>
      intro e he hb
      have := backOnly_ok h.2 k o (by simpa using hk) e he hb
      omega
theorem fold_bits {acc : List Nat} {j : Nat} : ∀ {l : List Edge} {x : Nat}, Nat.testBit (l.foldl (fun s e => if Region.binds .any e then s ||| 2 ^ e.on ||| acc.getD e.on 0 else s) x) j = true → Nat.testBit x j = true ∨ ∃ e ∈ l, Region.binds .any e = true ∧ (e.on = j ∨ Nat.testBit (acc.getD e.on 0) j = true)
  | [], x, h => .inl h
  | e :: l, x, h => by
    simp only [List.foldl_cons] at h
    rcases fold_bits h with h1 | ⟨e', h1, h2⟩
    · split at h1
      · rename_i hb
        simp only [Nat.testBit_or, Bool.or_eq_true, Nat.testBit_two_pow, decide_eq_true_eq] at h1
        rcases h1 with (h1 | h1) | h1
        · exact .inl h1
        · exact .inr ⟨e, List.mem_cons_self, hb, .inl h1⟩
        · exact .inr ⟨e, List.mem_cons_self, hb, .inr h1⟩
      · exact .inl h1
    · exact .inr ⟨e', List.mem_cons_of_mem _ h1, h2⟩
theorem waitMasks_pre : ∀ (l : List Oper) (acc : List Nat), ∃ r, waitMasks l acc = acc ++ r
  | [], acc => ⟨[], by simp [waitMasks]⟩
  | o :: l, acc => by
    simp only [waitMasks]
    obtain ⟨r, h⟩ := waitMasks_pre l (acc ++ [_])
    exact ⟨_ :: r, by rw [h, List.append_assoc]; rfl⟩
theorem getD_pre {acc r : List Nat} {k j : Nat} (h : Nat.testBit (acc.getD k 0) j = true) : Nat.testBit ((acc ++ r).getD k 0) j = true := by
  by_cases hk : k < acc.length
  · simpa [List.getD_eq_getElem?_getD, List.getElem?_append_left hk] using h
  · rw [List.getD_eq_getElem?_getD, List.getElem?_eq_none (by omega)] at h; simp at h
theorem masks_ok : ∀ (l : List Oper) (acc : List Nat) (k : Nat) (o : Oper), l[k]? = some o → ∀ j, Nat.testBit ((waitMasks l acc).getD (acc.length + k) 0) j = true →
    ∃ e ∈ o.after.toList, Region.binds .any e = true ∧ (e.on = j ∨ Nat.testBit ((waitMasks l acc).getD e.on 0) j = true)
  | [], _, k, o, h, _, _ => by cases h
  | x :: l, acc, k, o, hk, j, hj => by
    simp only [waitMasks] at hj ⊢
    cases k with
    | zero =>
      have hxo : x = o := by simpa using hk
      subst hxo
      obtain ⟨r, hr⟩ := waitMasks_pre l (acc ++ [x.after.toList.foldl (fun s e => if Region.binds .any e then s ||| 2 ^ e.on ||| acc.getD e.on 0 else s) 0])
      rw [hr] at hj ⊢
      have e1 : ∀ y : Nat, ((acc ++ [y]) ++ r).getD (acc.length + 0) 0 = y := fun y => by
        rw [List.append_assoc, List.getD_eq_getElem?_getD, List.getElem?_append_right (by omega)]; simp
      rw [e1] at hj
      rcases fold_bits hj with h1 | ⟨e, h1, h2, h3⟩
      · simp at h1
      · refine ⟨e, h1, h2, h3.imp id fun h3 => ?_⟩
        rw [List.append_assoc]; exact getD_pre h3
    | succ k =>
      have := masks_ok l (acc ++ [x.after.toList.foldl (fun s e => if Region.binds .any e then s ||| 2 ^ e.on ||| acc.getD e.on 0 else s) 0]) k o (by simpa using hk) j (by
        rw [List.length_append, List.length_singleton, show acc.length + 1 + k = acc.length + (k + 1) by omega]; exact hj)
      exact this

/-! ### Who wrote last -/
section
variable (T : Nat → Tr) (S : Nat → St)
open Classical in
noncomputable def lastW (L : Nat → Bool) (l : Loc) : Nat → Nat
  | 0 => 0
  | k + 1 => if L k = true ∧ l ∈ (T k).2 then k + 1 else lastW L l k
variable {T S} {n : Nat} {L : Nat → Bool} {l : Loc}
theorem lw_all (hS : ∀ k, k < n → ∀ l, l ∉ (T k).2 → (S (k + 1)).get l = (S k).get l) : ∀ k, k ≤ n → (∀ j, j < k → l ∈ (T j).2 → L j = true) → (S (lastW T L l k)).get l = (S k).get l
  | 0, _, _ => rfl
  | k + 1, hk, h => by
    simp only [lastW]
    split
    · rfl
    · rename_i hc
      have hw : l ∉ (T k).2 := fun hw => hc ⟨h k (by omega) hw, hw⟩
      rw [hS k (by omega) l hw]
      exact lw_all hS k (by omega) fun j hj => h j (by omega)
theorem lw_ext {i : Nat} : ∀ k, i ≤ k → (∀ j, i ≤ j → j < k → L j = true → l ∉ (T j).2) → lastW T L l k = lastW T L l i
  | 0, h, _ => by rw [show i = 0 by omega]
  | k + 1, hk, h => by
    by_cases e : i = k + 1
    · rw [e]
    · simp only [lastW]
      rw [if_neg fun hc => h k (by omega) (by omega) hc.1 hc.2]
      exact lw_ext k (by omega) fun j h1 h2 => h j h1 (by omega)
theorem lw_cong {L' : Nat → Bool} : ∀ k, (∀ j, j < k → l ∈ (T j).2 → L j = L' j) → lastW T L l k = lastW T L' l k
  | 0, _ => rfl
  | k + 1, h => by
    simp only [lastW]
    by_cases hw : l ∈ (T k).2
    · rw [h k (by omega) hw, lw_cong k fun j hj => h j (by omega)]
    · rw [if_neg fun hc => hw hc.2, if_neg fun hc => hw hc.2]
      exact lw_cong k fun j hj => h j (by omega)
end

/-! ### Any order -/
def left (listed : Array Bool) : Nat → Nat
  | 0 => 0
  | k + 1 => left listed k + (if listed.getD k true = false then 1 else 0)
theorem left_zero {listed : Array Bool} : ∀ n, left listed n = 0 → ∀ k, k < n → listed.getD k true = true
  | 0, _, k, hk => by omega
  | n + 1, h, k, hk => by
    simp only [left] at h
    by_cases e : k = n
    · subst e
      cases hb : listed.getD k true with
      | true => rfl
      | false => rw [if_pos hb] at h; omega
    · exact left_zero n (by omega) k (by omega)
theorem set_getD (listed : Array Bool) (i k : Nat) (b : Bool) : (listed.setIfInBounds i true).getD k b = if k = i ∧ i < listed.size then true else listed.getD k b := by
  simp only [Array.getD_eq_getD_getElem?, Array.getElem?_setIfInBounds]
  by_cases h : i = k
  · subst h
    by_cases h2 : i < listed.size
    · simp [h2]
    · simp [h2]
  · simp [h, Ne.symm h]
theorem left_set {listed : Array Bool} {i : Nat} (hi : i < listed.size) (hl : listed.getD i true = false) : ∀ n, left (listed.setIfInBounds i true) n + (if i < n then 1 else 0) = left listed n
  | 0 => rfl
  | n + 1 => by
    have ih := left_set hi hl n
    simp only [left, set_getD]
    by_cases e : n = i
    · subst e
      rw [if_neg (Nat.lt_irrefl _)] at ih
      simp [hi, hl]
      omega
    · have h1 : ¬ (n = i ∧ i < listed.size) := fun h => e h.1
      rw [if_neg h1]
      by_cases h2 : i < n
      · rw [if_pos h2] at ih
        rw [if_pos (show i < n + 1 by omega)]
        omega
      · rw [if_neg h2] at ih
        rw [if_neg (show ¬ i < n + 1 by omega)]
        omega
theorem left_all (n k : Nat) (h : k ≤ n) : left (Array.replicate n false) k = k := by
  induction k with
  | zero => rfl
  | succ k ih =>
    simp only [left, ih (by omega)]
    have : (Array.replicate n false).getD k true = false := by
      rw [Array.getD_eq_getD_getElem?]; simp [show k < n by omega]
    rw [if_pos this]

section
variable {P : Program} {G : Nat → Option GV} {Γ : Env}
theorem mem_ready {ops : Array Oper} {listed : Array Bool} {i : Nat} : i ∈ Region.ready .any ops listed ↔ listed.getD i true = false ∧ ∃ o, ops[i]? = some o ∧ ∀ e ∈ o.after.toList, Region.binds .any e = true → listed.getD e.on false = true := by
  unfold Region.ready
  simp only [List.mem_filter, List.mem_range, Bool.and_eq_true, Bool.not_eq_true']
  constructor
  · rintro ⟨h1, h2, h3⟩
    refine ⟨h2, ops[i], by simp [h1], fun e he hb => ?_⟩
    simp only [Array.getElem?_eq_getElem h1, Option.map_some, Option.getD_some, Array.all_eq_true_iff_forall_mem] at h3
    have := h3 e (by simpa using he)
    simpa [hb] using this
  · rintro ⟨h1, o, h2, h3⟩
    have hlt := (Array.getElem?_eq_some_iff.1 h2).1
    refine ⟨hlt, h1, ?_⟩
    simp only [h2, Option.map_some, Option.getD_some, Array.all_eq_true_iff_forall_mem]
    intro e he
    cases hb : Region.binds .any e with
    | false => simp
    | true => simp [h3 e (by simpa using he) hb]
/-- What is known of a region's steps in the order of the text. -/
structure Text (Γ : Env) (all : List Oper) (nx : Nat) (T : Nat → Tr) (S : Nat → St) : Prop where
  step : ∀ (i : Nat) (o : Oper), all[i]? = some o → Stp Γ all nx i o (T i) (S i) (S (i + 1))
  free : ∀ (p q : Nat), p < q → q < all.length → Nat.testBit ((waitMasks all []).getD q 0) p = true ∨ NoMeet (T p) (T q)
  back : ∀ (i : Nat) (o : Oper), all[i]? = some o → ∀ e ∈ o.after.toList, Region.binds .any e = true → e.on < i
structure AnyInv (all : List Oper) (nx : Nat) (T : Nat → Tr) (S : Nat → St) (listed : Array Bool) (cur : St) (m0 m : Mem) : Prop where
  size : listed.size = all.length
  closed : ∀ i, i < all.length → listed.getD i false = true → ∀ j, Nat.testBit ((waitMasks all []).getD i 0) j = true → listed.getD j false = true
  lens : Lens (S 0) cur
  get : ∀ l, (S (lastW T (fun k => listed.getD k false) l all.length)).get l = cur.get l
  U : ∀ id, m.U id → id < nx ∨ ∃ j, j < all.length ∧ listed.getD j false = true ∧ id = nx + j
  fr : Fr m0 m
theorem getD_both {listed : Array Bool} {i : Nat} (h : i < listed.size) (b c : Bool) : listed.getD i b = listed.getD i c := by
  simp [Array.getD_eq_getD_getElem?, h]
theorem lens_all {all : List Oper} {nx : Nat} {T : Nat → Tr} {S : Nat → St} (tx : Text Γ all nx T S) : ∀ k, k ≤ all.length → Lens (S k) (S 0)
  | 0, _ => ⟨rfl, rfl⟩
  | k + 1, hk => by
    have h1 := (tx.step k all[k] (by simp)).lens
    have h2 := lens_all tx k (by omega)
    exact ⟨h1.slots.trans h2.slots, h1.stips.trans h2.stips⟩
theorem keep_all {all : List Oper} {nx : Nat} {T : Nat → Tr} {S : Nat → St} (tx : Text Γ all nx T S) : ∀ k, k < all.length → ∀ l, l ∉ (T k).2 → (S (k + 1)).get l = (S k).get l := fun k hk l hl => by
  obtain ⟨_, _, _, _, _, h⟩ := (tx.step k all[k] (by simp)).frame (t := S k) (fun _ => True) (fun _ _ => trivial) (fun _ _ => trivial) (fun _ _ => rfl) ⟨rfl, rfl⟩
  exact (h l hl).2
theorem any_ok (H : OpsOk P G Γ) {all : List Oper} {nx : Nat} {T : Nat → Tr} {S : Nat → St} (tx : Text Γ all nx T S) {Q : Exit → Act → World → Prop} {m0 : Mem} {a0 : Act}
    (hQ : ∀ (a : Act) (m : Mem), Rel P G Γ.vars m (S all.length) a.tmps → Fr m0 m → (∀ id, m.U id → id < nx + all.length) → a.tmps.size = a0.tmps.size → a.defers = a0.defers → Q .normal a m.w) :
    ∀ (fuel : Nat) (listed : Array Bool) (a : Act) (m : Mem) (cur : St), left listed all.length ≤ fuel → AnyInv all nx T S listed cur m0 m → Rel P G Γ.vars m cur a.tmps → a.tmps.size = a0.tmps.size → a.defers = a0.defers →
      wpAny P .any all.toArray Q fuel listed a m.w := by
  intro fuel
  have done : ∀ (listed : Array Bool) (a : Act) (m : Mem) (cur : St), AnyInv all nx T S listed cur m0 m → Rel P G Γ.vars m cur a.tmps → a.tmps.size = a0.tmps.size → a.defers = a0.defers → Region.ready .any all.toArray listed = [] → Q .normal a m.w := fun listed a m cur hI r hs hd hr => by
    have hall : ∀ k, k < all.length → listed.getD k false = true := by
      intro k
      induction k using Nat.strongRecOn with
      | _ k ih =>
        intro hk
        cases hb : listed.getD k false with
        | true => rfl
        | false =>
          exfalso
          have : k ∈ Region.ready .any all.toArray listed := mem_ready.2 ⟨by rw [getD_both (by rw [hI.size]; exact hk) true false]; exact hb, all[k], by simp [hk], fun e he hb => by
            have h1 := tx.back k all[k] (by simp) e he hb
            exact ih e.on h1 (by omega)⟩
          rw [hr] at this; cases this
    refine hQ a m (r.le ?_) hI.fr (fun id hid => ?_) hs hd
    · have hg : ∀ l, (S all.length).get l = cur.get l := fun l => (lw_all (keep_all tx) all.length (Nat.le_refl _) fun j hj _ => hall j hj).symm.trans (hI.get l)
      have hl := lens_all tx all.length (Nat.le_refl _)
      refine ⟨fun n => ?_, by rw [hl.slots, hI.lens.slots]; exact Nat.le_refl _, fun n off ho => ?_, fun id o ho => ⟨o, ?_, .refl _ _⟩, fun id off ho => ?_, fun hf => ?_⟩
      · have := hg (.slot n)
        simp only [St.get, LV.v.injEq] at this
        rw [this]; exact .refl _
      · have := hg (.stip n)
        simp only [St.get, LV.t.injEq] at this
        rw [← this]; exact ho
      · have := hg (.obj id)
        simp only [St.get, LV.o.injEq] at this
        rw [← this]; exact ho
      · have := hg (.otip id)
        simp only [St.get, LV.t.injEq] at this
        rw [← this]; exact ho
      · have := hg .fresh
        simp only [St.get, LV.b.injEq] at this
        rw [← this]; exact hf
    · rcases hI.U id hid with h1 | ⟨j, h1, _, h2⟩ <;> omega
  induction fuel with
  | zero =>
    intro listed a m cur hle hI r hs hd
    have hr : Region.ready .any all.toArray listed = [] := by
      cases hq : Region.ready .any all.toArray listed with
      | nil => rfl
      | cons x xs =>
        obtain ⟨h1, o, h2, _⟩ := mem_ready.1 (show x ∈ Region.ready .any all.toArray listed by rw [hq]; exact List.mem_cons_self)
        have hlt : x < all.length := by have := (Array.getElem?_eq_some_iff.1 h2).1; simpa using this
        rw [left_zero all.length (by omega) x hlt] at h1; cases h1
    exact ⟨hr, done listed a m cur hI r hs hd hr⟩
  | succ fuel ih =>
    intro listed a m cur hle hI r hs hd
    refine ⟨done listed a m cur hI r hs hd, fun i hi => ?_⟩
    obtain ⟨h1, o, h2, h3⟩ := mem_ready.1 hi
    have hlt : i < all.length := by have := (Array.getElem?_eq_some_iff.1 h2).1; simpa using this
    have hli : listed.getD i false = false := by rw [getD_both (by rw [hI.size]; exact hlt) false true]; exact h1
    have ho : all[i]? = some o := by simpa using h2
    -- what i waits for is listed
    have hwait : ∀ j, Nat.testBit ((waitMasks all []).getD i 0) j = true → listed.getD j false = true := fun j hj => by
      obtain ⟨e, e1, e2, e3⟩ := masks_ok all [] i o ho j (by simpa using hj)
      have hb := tx.back i o ho e e1 e2
      have hl := h3 e e1 e2
      rcases e3 with rfl | e3
      · exact hl
      · exact hI.closed e.on (by omega) hl j e3
    -- the places that i looks at
    have hbefore : ∀ j, j < i → ∀ l, l ∈ (T i).1 ∨ l ∈ (T i).2 → l ∈ (T j).2 → listed.getD j false = true := fun j hj l hl hw => by
      rcases tx.free j i hj hlt with h | h
      · exact hwait j h
      · exact (hl.elim (fun q => ((h l).1 hw).1 q) fun q => ((h l).1 hw).2 q).elim
    have hafter : ∀ j, i ≤ j → j < all.length → ∀ l, l ∈ (T i).1 ∨ l ∈ (T i).2 → listed.getD j false = true → l ∉ (T j).2 := fun j hj hjl l hl hlj hw => by
      by_cases e : j = i
      · rw [e, hli] at hlj; cases hlj
      · rcases tx.free i j (by omega) hjl with h | h
        · rw [hI.closed j hjl hlj i h] at hli; cases hli
        · exact hl.elim (fun q => (h l).2 q hw) fun q => ((h l).1 q).2 hw
    have hat : ∀ l, l ∈ (T i).1 ∨ l ∈ (T i).2 → (S i).get l = cur.get l := fun l hl => by
      rw [← hI.get l, lw_ext (i := i) all.length (by omega) fun j hj1 hj2 hj3 => hafter j hj1 hj2 l hl hj3]
      exact (lw_all (keep_all tx) i (by omega) fun j hj hw => hbefore j hj l hl hw).symm
    have hst := tx.step i o ho
    have hls := lens_all tx i (by omega)
    obtain ⟨cur', tr', k1, k2, k3, k4⟩ := hst.frame (t := cur) (fun l => l ∈ (T i).1 ∨ l ∈ (T i).2) (fun l h => .inl h) (fun l h => .inr h) hat ⟨hls.slots.trans hI.lens.slots, hls.stips.trans hI.lens.stips⟩
    refine k1.wp H h2 r (fun hu => ?_) fun v m' r' f' hU' => ?_
    · rcases hI.U _ hu with h | ⟨j, j1, j2, j3⟩
      · omega
      · rw [show j = i by omega, hli] at j2; cases j2
    · have hsz : i < listed.size := by rw [hI.size]; exact hlt
      have hleft := left_set hsz h1 all.length
      rw [if_pos hlt] at hleft
      have hset : ∀ k b, (listed.setIfInBounds i true).getD k b = if k = i then true else listed.getD k b := fun k b => by
        rw [set_getD]; by_cases e : k = i <;> simp [e, hsz]
      refine ih (listed.setIfInBounds i true) (a.put o.dst v) m' cur' (by omega) ⟨by simp [hI.size], fun p hp hlp j hj => ?_, ?_, fun l => ?_, fun id hid => ?_, hI.fr.trans f'⟩ r' ((put_size a _ v).trans hs) ((put_defers a _ v).trans hd)
      · rw [hset] at hlp ⊢
        by_cases e : j = i
        · rw [if_pos e]
        · rw [if_neg e]
          by_cases e2 : p = i
          · subst e2; exact hwait j hj
          · rw [if_neg e2] at hlp; exact hI.closed p hp hlp j hj
      · exact ⟨hI.lens.slots.trans k1.lens.slots.symm, hI.lens.stips.trans k1.lens.stips.symm⟩
      · by_cases hw : l ∈ (T i).2
        · rw [← k2 l (.inr hw)]
          rw [lw_ext (i := i + 1) all.length (by omega) fun j hj1 hj2 hj3 => by
            rw [hset, if_neg (by omega)] at hj3
            exact hafter j (by omega) hj2 l (.inr hw) hj3]
          simp only [lastW]
          rw [if_pos ⟨by rw [hset, if_pos rfl], hw⟩]
        · rw [(k4 l hw).1, ← hI.get l]
          refine congrArg (fun k => (S k).get l) (lw_cong (L' := fun k => listed.getD k false) all.length fun j _ hj => ?_)
          have hne : j ≠ i := fun e => by subst e; exact hw hj
          show (listed.setIfInBounds i true).getD j false = _
          rw [hset, if_neg hne]
      · rcases hU' id hid with h | h
        · rcases hI.U id h with h | ⟨j, j1, j2, j3⟩
          · exact .inl h
          · exact .inr ⟨j, j1, by rw [hset]; split <;> first | rfl | exact j2, j3⟩
        · exact .inr ⟨i, hlt, by rw [hset, if_pos rfl], h⟩
theorem drawn_rel {vars : Nat} {m : Mem} {s : St} {tm : Array Value} (r : Rel P G vars m s tm) (k : Nat) : Rel P G vars { m with w := { m.w with drawn := k } } s tm ∧ Fr m { m with w := { m.w with drawn := k } } := by
  have fr : Fr m { m with w := { m.w with drawn := k } } := ⟨⟨⟨Nat.le_refl _, fun b c e f h => ⟨c, h, rfl, fun _ _ => rfl⟩, fun b o h _ => h, rfl, rfl⟩, fun _ _ h => h, rfl, fun _ _ => rfl, fun _ h => h⟩, fun _ _ h _ => .inl h, fun _ _ h => h⟩
  exact ⟨r.move ⟨fr.to, r.bC, r.bL, fun b _ => ⟨rfl, rfl, fun _ h => h⟩⟩, fr⟩
theorem region_any (hm : P.follows .mixedOrders = true) (H : OpsOk P G Γ) {m : Mem} {s : St} {a : Act} {id : Nat} {ops : Array Oper} {Q : Exit → Act → World → Prop} {leaf : Leaf} (r : Rel P G Γ.vars m s a.tmps) (hU : ∀ id, m.U id → id < s.next)
    (h : (evRegion Γ id ops true s).res = some leaf)
    (hQ : ∀ (a' : Act) (m' : Mem) (s'' : St), leaf = .norm s'' → Rel P G Γ.vars m' s'' a'.tmps → Fr m m' → (∀ id, m'.U id → id < s''.next) → a'.tmps.size = a.tmps.size → a'.defers = a.defers → Q .normal a' m'.w) :
    (Code.region id ops true).wp P Q a m.w := by
  unfold evRegion at h
  simp only [res_bind, cond_true] at h
  cases he : (evOps Γ ops.toList (guardsOf ops.toList ops.toList) (fun trs => backOnly ops.toList 0 && allFree (waitMasks ops.toList []) 0 trs) (fun _ => none) ops.toList 0 [] s.begin).res with
  | none => rw [he] at h; cases h
  | some l0 =>
    rw [he] at h
    obtain ⟨ts, S, h1, h2, h3, h4, h5⟩ := evOps_steps ops.toList 0 [] s.begin l0 he
    simp only [List.nil_append, Bool.and_eq_true] at h4
    have hT : ∀ k, k < ops.toList.length → ts[k]? = some (ts.getD k ([], [])) := fun k hk => by
      rw [List.getD_eq_getElem?_getD, List.getElem?_eq_getElem (by omega)]; rfl
    have tx : Text Γ ops.toList s.begin.next (fun k => ts.getD k ([], [])) S := by
      refine ⟨fun i o ho => ?_, fun p q hpq hq => ?_, fun i o ho e he hb => ?_⟩
      · obtain ⟨tr, g1, g2⟩ := h2 i o ho
        rw [hT i (List.getElem?_eq_some_iff.1 ho).1] at g1
        cases g1
        rw [Nat.zero_add] at g2; exact g2
      · have := allFree_ok h4.2 p q _ _ hpq (hT p (by omega)) (hT q hq)
        simpa using this
      · have := backOnly_ok h4.1 i o ho e he hb
        omega
    obtain ⟨r0, f0⟩ := drawn_rel r (m.w.drawn + 1)
    refine wp_region_any hm ?_
    have key := any_ok H tx (Q := Q) (m0 := m) (a0 := a) (fun a' m' r' f' hU' hs hd => by
      cases h5 with
      | norm hle =>
        cases h
        have hln := lens_all tx ops.toList.length (Nat.le_refl _)
        have r2 := r'.stLe (by rw [← h1, ← hln.slots] at hle; exact hle) (by rw [← h1, ← hln.slots] at *; exact r'.len)
        refine hQ a' m' _ rfl (r2.same ⟨rfl, rfl, rfl, rfl, rfl⟩) f' (fun id hid => ?_) hs hd
        have := hU' id hid
        have hn : ∀ k, k ≤ ops.toList.length → (S k).next = s.begin.next := fun k => by
          induction k with
          | zero => intro _; rw [h1]
          | succ k ih => intro hk; rw [(tx.step k ops.toList[k] (by simp)).next]; exact ih (by omega)
        have h7 := hle.next
        rw [hn _ (Nat.le_refl _)] at h7
        show id < _ + _
        omega) ops.toList.length (Array.replicate ops.size false) a { m with w := { m.w with drawn := m.w.drawn + 1 } } s.begin
      (by rw [show ops.size = ops.toList.length by simp, left_all _ _ (Nat.le_refl _)]; exact Nat.le_refl _)
      ⟨by simp, fun i hi hl => by simp [Array.getD_eq_getD_getElem?, Array.getElem?_replicate] at hl; split at hl <;> simp at hl, by rw [h1]; exact ⟨rfl, rfl⟩, fun l => by
        rw [lw_ext (i := 0) ops.toList.length (by omega) fun j _ _ hj => by
          simp [Array.getD_eq_getD_getElem?, Array.getElem?_replicate] at hj; split at hj <;> simp at hj]
        simp only [lastW, h1], fun id hid => .inl (by rw [begin_next]; exact hU id hid), f0⟩
      (begin_rel r0) rfl rfl
    simpa using key
end
end Go.XE
/- Calls: the arguments. -/
namespace Go.XE
section
variable {P : Program} {G : Nat → Option GV} {Γ : Env} {m : Mem} {s s' : St} {a : Act}

/-! ### Values that name no local object -/
structure Cool (m mc : Mem) : Prop where
  pre : Pre (fun b j => m.C b j ∨ m.K b j) m.w mc.w
  C : ∀ b j, m.C b j → mc.C b j
  CK : ∀ b j, m.C b j ∨ m.K b j → mc.C b j ∨ mc.K b j
def V.cold : V → Bool
  | .bp _ _ _ | .ep _ _ _ _ | .own _ => false
  | _ => true
theorem PAt.cool {mc : Mem} (h : Cool m mc) {d : D} {b o : Nat} (r : PAt m d b o) : PAt mc d b o := by
  obtain ⟨vs, h1, h2, h3⟩ := r
  exact ⟨vs, h1.mono h.pre fun j hj => h3 j (h2.len ▸ hj), h2.mono (h.pre.mono fun _ _ _ hc => .inl hc) h.C, fun j hj => h.CK _ _ (h3 j hj)⟩
theorem GAt.cool {mc : Mem} (h : Cool m mc) : ∀ {v : GV} {g : Nat}, GAt m v g → GAt mc v g
  | .d _, _, r => PAt.cool h r
  | .c _, _, r => ⟨r.1.mono h.pre fun j hj => by rw [Nat.zero_add]; exact r.2 j hj, fun j hj => h.CK _ _ (r.2 j hj)⟩
  | .o _, g, r => ⟨(h.pre.heap (Array.getElem?_eq_some_iff.1 r.1).1 r.2).trans r.1, fun j => h.CK _ _ (r.2 j)⟩
theorem PtrTo.cool {mc : Mem} (h : Cool m mc) {d : D} {v : Value} (r : PtrTo m d v) : PtrTo mc d v := by
  obtain ⟨a, h1, h2, h3⟩ := r
  exact ⟨a, h1, h2, h3.cool h⟩
theorem FunOk.cool {mc : Mem} (h : Cool m mc) {A R : Ty} {g : den A → Option (den R)} {v : Value} (r : FunOk P m A R g v) : FunOk P mc A R g v := by
  obtain ⟨f, caps, h1, h2, h3⟩ := r
  exact ⟨f, caps, h1, h2, fun w' C' hp hc hb x vx y hx hg => h3 w' C' (h.pre.trans hp fun b j _ hs => h.CK b j hs) (fun b j hj => hc b j (h.C b j hj)) hb x vx y hx hg⟩
theorem RV0.cool {mc : Mem} (h : Cool m mc) : ∀ {V : V} {v : Value}, V.cold = true → RV0 P m V v → RV0 P mc V v
  | .bot, _, _, _ => trivial
  | .und, _, _, r => r
  | .nilsl, _, _, r => r
  | .kb _, _, _, r => r
  | .dat _ _, _, _, r => r.mono (h.pre.mono fun _ _ _ hc => .inl hc) h.C
  | .rp _, _, _, r => PtrTo.cool h r
  | .pv _, _, _, r => by
    obtain ⟨a, u, h1, h2, h3, h4, h5⟩ := r
    exact ⟨a, u, h1, h2, h.pre.cell h3 h4, h.CK _ _ h4, h5.cool h⟩
  | .fn _ _, _, _, r => r.elim
  | .fun1 _ _ _, _, _, r => FunOk.cool h r
  | .tup _, _, _, r => by
    obtain ⟨vs, h1, h2⟩ := r
    exact ⟨vs, h1, h2.mono (h.pre.mono fun _ _ _ hc => .inl hc) h.C⟩
/-- Made arrays are frozen. -/
structure Frz (m m1 : Mem) : Prop where
  w : m1.w = m.w
  fr : Fr m m1
  L : m1.L = m.L
  ad : m1.ad = m.ad
  U : m1.U = m.U
  tip : ∀ l e v, (∀ i, l ≠ .obj i) → TipAt m l e v → TipAt m1 l e v
theorem Frz.refl (m : Mem) : Frz m m := ⟨rfl, .refl m, rfl, rfl, rfl, fun _ _ _ _ h => h⟩
theorem Frz.trans {m m1 m2 : Mem} (h : Frz m m1) (k : Frz m1 m2) : Frz m m2 := ⟨k.w.trans h.w, h.fr.trans k.fr, k.L.trans h.L, k.ad.trans h.ad, k.U.trans h.U, fun l e v hl t => k.tip l e v hl (h.tip l e v hl t)⟩
/-- What of a state an argument may change: made arrays, frozen. -/
structure SFrz (s s1 : St) : Prop where
  slots : s1.slots = s.slots
  stips : s1.stips = s.stips
  otips : s1.otips = s.otips
  fresh : s1.fresh = s.fresh
  box : ∀ id d, lookObj id s1.objs = some (.box d) ↔ lookObj id s.objs = some (.box d)
theorem SFrz.refl (s : St) : SFrz s s := ⟨rfl, rfl, rfl, rfl, fun _ _ => .rfl⟩
theorem SFrz.trans {a b c : St} (h : SFrz a b) (k : SFrz b c) : SFrz a c := ⟨k.slots.trans h.slots, k.stips.trans h.stips, k.otips.trans h.otips, k.fresh.trans h.fresh, fun id d => (k.box id d).trans (h.box id d)⟩
theorem SFrz.of_same {a b : St} (h : Same a b) : SFrz a b := ⟨h.slots, h.stips, h.otips, h.fresh, fun id d => by rw [h.objs]⟩
theorem asD_frz {vars : Nat} {tm : Array Value} (r : Rel P G vars m s tm) {V : V} {d : D} {v : Value} (h : runR (asD V) s = some (d, s')) (hv : RV P m V v) :
    ∃ m1, Frz m m1 ∧ Rel P G vars m1 s' tm ∧ RepV m1.w m1.C d.T d.x v ∧ SFrz s s' := by
  cases V with
  | dat e p => obtain ⟨rfl, rfl⟩ := ret_inv h; exact ⟨m, .refl m, r, hv, .refl _⟩
  | kb b =>
    obtain ⟨rfl, rfl⟩ := ret_inv h
    have : v = .bool b := hv
    subst this
    exact ⟨m, .refl m, r, RepV.bool b, .refl _⟩
  | own i =>
    simp only [asD] at h
    obtain ⟨o, s1, h1, h2⟩ := bind_inv h
    obtain ⟨h3, k1⟩ := getO_inv h1
    obtain ⟨hu, hv⟩ := hv
    split at h2
    · rename_i e xs fr
      obtain ⟨_, s2, h4, h5⟩ := bind_inv h2
      obtain ⟨rfl, rfl⟩ := ret_inv h5
      have k2 := setO_inv h4
      obtain ⟨_, ok⟩ := r.objs i _ h3
      obtain ⟨g1, g2, g3, g4, g5, g6, cur, et, g7, g8, g9⟩ := ok
      have wr : Wrote m m.w (m.ad i).b (fun _ => True) := .same g7 fun j _ => g5 j
      have r1 := r.le (le_noObj s i)
      have r2 := r1.write wr (by rw [g3]; exact dead_noObj s i)
      have kp := keeps_write r wr
      have ok2 : ObjOk (m.write m.w (m.ad i).b fun _ => True) i (.arr e xs true) := by
        refine ⟨g1, g2, g3, g4, g5, fun h => (by cases h), cur, et, g7, g8, fun j y hy => ?_⟩
        obtain ⟨us, q1, q2⟩ := g9 j y hy
        exact ⟨us, q1, kp.toTo.rep q2⟩
      have r3 := r2.putObj (id := i) hu ok2 (fun d h => by cases h)
      have hs : Same { s with objs := setObj i (some (.arr e xs true)) s.objs } s' := by
        have := k1.objs
        exact ⟨k2.slots.trans k1.slots, k2.stips.trans k1.stips, k2.objs.trans (by simp only [k1.objs]), k2.otips.trans k1.otips, k2.fresh.trans k1.fresh⟩
      refine ⟨m.write m.w (m.ad i).b fun _ => True, ⟨rfl, .write wr, rfl, rfl, rfl, fun l e v hl t => t.to kp (by rw [g3]; exact hl i)⟩, (r3.le (le_again s i _)).same hs, .inr ⟨rfl, ?_⟩, hs.slots, hs.stips, hs.otips, hs.fresh, fun id d => ?_⟩
      · subst hv
        subst g1
        rw [g2]
        refine ⟨_, _, rfl, Nat.le_refl _, fun h => (by cases h), fun ad had => ?_⟩
        cases had
        refine ⟨fun _ => rfl, fun j y hy => ?_⟩
        obtain ⟨us, q1, q2⟩ := g9 j y hy
        exact ⟨us, by rw [Nat.zero_add]; exact q1, fun k _ => .inr ⟨rfl, trivial⟩, kp.toTo.rep q2⟩
      · rw [hs.objs, lookObj_setObj]
        by_cases e : id = i
        · subst e; rw [if_pos rfl, h3]; simp
        · rw [if_neg e]
    · exact (fail_inv h2).elim
  | _ => exact (fail_inv h).elim
theorem asT_frz {vars : Nat} {tm : Array Value} (r : Rel P G vars m s tm) {T : Ty} {V : V} {y : den T} {v : Value} (h : runR (asT T V) s = some (y, s')) (hv : RV P m V v) :
    ∃ m1, Frz m m1 ∧ Rel P G vars m1 s' tm ∧ RepV m1.w m1.C T y v ∧ SFrz s s' := by
  unfold asT at h
  split at h
  · obtain ⟨rfl, rfl⟩ := ret_inv h
    have : v = .slice none 0 0 := hv
    subst this
    exact ⟨m, .refl m, r, .inr ⟨rfl, none, 0, rfl, Nat.le_refl _, fun _ => rfl, fun a h => by cases h⟩, .refl _⟩
  · obtain ⟨d, s1, h1, h2⟩ := bind_inv h
    obtain ⟨h3, rfl⟩ := lift_inv h2
    obtain ⟨m1, k1, k2, k3, k4⟩ := asD_frz r h1 hv
    have := as_eq h3
    subst this
    exact ⟨m1, k1, k2, k3, k4⟩
/-- The callee's memory, for the arguments' sake. 'ms': the objects that it may change; 'b': what it sees it may not hand back. -/
structure Suit (m : Mem) (ms : List Nat) (b : Bool) (mc : Mem) : Prop where
  w : mc.w = m.w
  C : ∀ x j, m.C x j → mc.C x j
  CK : ∀ x j, m.C x j ∨ m.K x j → mc.C x j ∨ mc.K x j
  obj : ∀ x id j, m.L x = .obj id → id ∉ ms → mc.C x j ∨ mc.K x j
  lend : b = true → ∀ x id j, m.L x = .obj id → id ∉ ms → mc.C x j
  old : ∀ x j, mc.C x j ∨ mc.K x j → x < m.w.heap.size
theorem Suit.cool {ms : List Nat} {b : Bool} {mc : Mem} (h : Suit m ms b mc) : Cool m mc := ⟨by rw [h.w]; exact .refl _ _, h.C, h.CK⟩
theorem Suit.frz {ms : List Nat} {b : Bool} {m1 mc : Mem} (f : Frz m m1) (h : Suit m1 ms b mc) : Suit m ms b mc :=
  ⟨h.w.trans f.w, fun x j hc => h.C x j (f.fr.to.C x j hc), fun x j hc => h.CK x j (hc.imp (f.fr.to.C x j) fun q => by rw [f.fr.to.K]; exact q), fun x id j hl => h.obj x id j (by rw [f.L]; exact hl), fun hb x id j hl => h.lend hb x id j (by rw [f.L]; exact hl), fun x j hc => by rw [← f.w]; exact h.old x j hc⟩
theorem Suit.weak {ms : List Nat} {b : Bool} {mc : Mem} (h : Suit m ms b mc) : Suit m ms false mc := ⟨h.w, h.C, h.CK, h.obj, fun e => (by cases e), h.old⟩
theorem peekT_ok {vars : Nat} {tm : Array Value} (r : Rel P G vars m s tm) {ms : List Nat} {T : Ty} {V : V} {y : den T} {v : Value} (h : runR (peekT T V) s = some (y, s')) (hn : notOwnIn ms V = true) (hv : RV P m V v) :
    Same s s' ∧ ∀ mc, Suit m ms true mc → RepV mc.w mc.C T y v := by
  unfold peekT at h
  split at h
  · obtain ⟨rfl, rfl⟩ := ret_inv h
    have : v = .slice none 0 0 := hv
    subst this
    exact ⟨.refl _, fun mc _ => .inr ⟨rfl, none, 0, rfl, Nat.le_refl _, fun _ => rfl, fun a h => by cases h⟩⟩
  · obtain ⟨d, s1, h1, h2⟩ := bind_inv h
    obtain ⟨h3, rfl⟩ := lift_inv h2
    have := as_eq h3
    subst this
    cases V with
    | dat e p =>
      obtain ⟨e2, rfl⟩ := ret_inv h1
      cases e2
      exact ⟨.refl _, fun mc hm => RV0.cool (P := P) (V := .dat ⟨T, y⟩ p) hm.cool rfl hv⟩
    | kb b =>
      obtain ⟨e2, rfl⟩ := ret_inv h1
      cases e2
      have : v = .bool b := hv
      subst this
      exact ⟨.refl _, fun mc _ => RepV.bool b⟩
    | own i =>
      simp only [peekD] at h1
      obtain ⟨o, s1, h4, h5⟩ := bind_inv h1
      obtain ⟨h6, k1⟩ := getO_inv h4
      obtain ⟨hu, hv⟩ := hv
      split at h5
      · rename_i e xs fr
        obtain ⟨e2, rfl⟩ := ret_inv h5
        cases e2
        refine ⟨k1, fun mc hm => .inr ⟨rfl, ?_⟩⟩
        obtain ⟨_, ok⟩ := r.objs i _ h6
        obtain ⟨g1, g2, g3, g4, g5, g6, cur, et, g7, g8, g9⟩ := ok
        subst hv
        subst g1
        rw [g2]
        refine ⟨_, _, rfl, Nat.le_refl _, fun h => (by cases h), fun ad had => ?_⟩
        cases had
        refine ⟨fun _ => rfl, fun j y hy => ?_⟩
        obtain ⟨us, q1, q2⟩ := g9 j y hy
        have hni : i ∉ ms := fun hi => by
          simp only [notOwnIn, hasN_mem.2 hi] at hn; cases hn
        refine ⟨us, by rw [Nat.zero_add, hm.w]; exact q1, fun k _ => hm.lend rfl _ i _ g3 hni, ?_⟩
        rw [hm.w]
        exact q2.mono (.refl _ _) hm.C
      · exact (fail_inv h5).elim
    | _ => exact (fail_inv h1).elim
theorem argD_ok {vars : Nat} {tm : Array Value} (r : Rel P G vars m s tm) {b : Bool} {ms : List Nat} {T : Ty} {V : V} {y : den T} {v : Value} (h : runR (argD b ms T V) s = some (y, s')) (hv : RV P m V v) :
    ∃ m1, Frz m m1 ∧ Rel P G vars m1 s' tm ∧ SFrz s s' ∧ ∀ mc, Suit m1 ms b mc → RepV mc.w mc.C T y v := by
  cases b with
  | false =>
    obtain ⟨m1, h1, h2, h3, h4⟩ := asT_frz r (show runR (asT T V) s = some (y, s') from h) hv
    exact ⟨m1, h1, h2, h4, fun mc hm => RV0.cool (P := P) (V := .dat ⟨T, y⟩ none) hm.cool rfl h3⟩
  | true =>
    simp only [argD, cond_true, M.guard] at h
    cases hn : notOwnIn ms V with
    | false => rw [hn] at h; exact (fail_inv h).elim
    | true =>
      rw [hn] at h
      obtain ⟨h1, h2⟩ := peekT_ok r (show runR (peekT T V) s = some (y, s') from h) hn hv
      exact ⟨m, .refl m, r.same h1, .of_same h1, h2⟩
theorem part {ms : List Nat} {b : Bool} {mc : Mem} (hm : Suit m ms b mc) {i : Nat} (hi : hasN i ms = false) {x o : Nat} (hL : m.L x = .obj i) {v : Value} (hv : v = .pointer (some ⟨x, o, none⟩)) {cs : List Value} (hc : cellsAt m.w x o cs) {d : D} (hr : Rep m.w m.C d.T d.x cs)
    {T : Ty} {y : den T} (he : d.as T = some y) : PtrTo mc ⟨T, y⟩ v := by
  have := as_eq he
  subst this
  refine ⟨_, hv, rfl, cs, by rw [hm.w]; exact hc, by rw [hm.w]; exact hr.mono (.refl _ _) hm.C, fun j _ => hm.obj _ i _ hL fun hc => ?_⟩
  rw [hasN_mem.2 hc] at hi; cases hi
theorem argP_ok {vars : Nat} {tm : Array Value} (r : Rel P G vars m s tm) {ms : List Nat} {T : Ty} {V : V} {y : den T} {v : Value} (h : runR (argP ms T V) s = some (y, s')) (hv : RV P m V v) :
    Same s s' ∧ ∀ b mc, Suit m ms b mc → PtrTo mc ⟨T, y⟩ v := by
  cases V with
  | rp d =>
    obtain ⟨h3, rfl⟩ := lift_inv h
    have := as_eq h3
    subst this
    exact ⟨.refl _, fun b mc hm => PtrTo.cool hm.cool hv⟩
  | bp i p U =>
    simp only [argP] at h
    cases hi : hasN i ms with
    | true => rw [hi] at h; exact (fail_inv h).elim
    | false =>
      simp only [hi, cond_false] at h
      obtain ⟨q, s1, h1, h2⟩ := bind_inv h
      obtain ⟨h3, rfl⟩ := lift_inv h2
      obtain ⟨k1, b, o, cs, k2, k3, k4, _⟩ := loadP_ok r h1 hv
      obtain ⟨_, o', _, hv2⟩ := hv
      rw [k2] at hv2
      cases hv2
      have hL : m.L (m.ad i).b = .obj i := by
        simp only [loadP] at h1
        obtain ⟨ob, s2, c1, c2⟩ := bind_inv h1
        obtain ⟨c3, _⟩ := getO_inv c1
        split at c2
        · exact (r.objs i _ c3).2.2.1
        · exact (fail_inv c2).elim
      exact ⟨k1, fun b mc hm => part hm hi hL k2 k3 k4 h3⟩
  | ep i n p U =>
    simp only [argP] at h
    cases hi : hasN i ms with
    | true => rw [hi] at h; exact (fail_inv h).elim
    | false =>
      simp only [hi, cond_false] at h
      obtain ⟨q, s1, h1, h2⟩ := bind_inv h
      obtain ⟨h3, rfl⟩ := lift_inv h2
      obtain ⟨k1, b, o, cs, k2, k3, k4, _⟩ := loadP_ok r h1 hv
      obtain ⟨_, _, _, o', _, hv2⟩ := hv
      rw [k2] at hv2
      cases hv2
      have hL : m.L (m.ad i).b = .obj i := by
        simp only [loadP] at h1
        obtain ⟨ob, s2, c1, c2⟩ := bind_inv h1
        obtain ⟨c3, _⟩ := getO_inv c1
        split at c2
        · exact (r.objs i _ c3).2.2.2.1
        · exact (fail_inv c2).elim
      exact ⟨k1, fun b mc hm => part hm hi hL k2 k3 k4 h3⟩
  | _ => exact (fail_inv h).elim
theorem argW_ok {vars : Nat} {tm : Array Value} (r : Rel P G vars m s tm) {ms : List Nat} {T : Ty} {V : V} {y : den T} {v : Value} (h : runR (argW ms T V) s = some (y, s')) (hv : RV P m V v) :
    Same s s' ∧ ∀ b mc, Suit m ms b mc → RV0 P mc (.pv ⟨T, y⟩) v := by
  unfold argW at h
  split at h
  · rename_i d
    obtain ⟨h3, rfl⟩ := lift_inv h
    have := as_eq h3
    subst this
    exact ⟨.refl _, fun b mc hm => RV0.cool (P := P) (V := .pv ⟨T, y⟩) hm.cool rfl hv⟩
  · rename_i i U
    cases hi : hasN i ms with
    | true => rw [hi] at h; exact (fail_inv h).elim
    | false =>
      have hni : i ∉ ms := fun hc => by rw [hasN_mem.2 hc] at hi; cases hi
      simp only [hi, cond_false] at h
      obtain ⟨ob, s1, h1, h2⟩ := bind_inv h
      obtain ⟨h3, k1⟩ := getO_inv h1
      obtain ⟨_, o', g8, rfl⟩ := hv
      simp only [pathOff, Option.some.injEq, Prod.mk.injEq] at g8
      obtain ⟨rfl, _⟩ := g8
      split at h2
      · rename_i d
        obtain ⟨h4, rfl⟩ := lift_inv h2
        have := as_eq h4
        subst this
        obtain ⟨_, g1, g2, u, g3, g4⟩ := r.objs i _ h3
        exact ⟨k1, fun b mc hm => ⟨_, u, rfl, rfl, by rw [hm.w]; exact g3, hm.obj _ i _ g1 hni, g4.cool hm.cool⟩⟩
      · rename_i j q W
        obtain ⟨_, g1, g2, u, g3, g4⟩ := r.objs i _ h3
        have h2' : runR (argP ms T (.bp j q W)) s1 = some (y, s') := h2
        obtain ⟨k2, k3⟩ := argP_ok (r.same k1) h2' (show RV P m (.bp j q W) u from g4)
        exact ⟨k1.trans k2, fun b mc hm => ⟨_, u, rfl, rfl, by rw [hm.w]; exact g3, hm.obj _ i _ g1 hni, k3 b mc hm⟩⟩
      · exact (fail_inv h2).elim
  · exact (fail_inv h).elim
theorem RV.of0 {V : V} {v : Value} (h : RV0 P m V v) : RV P m V v := by
  cases V <;> first | exact h.elim | exact h
theorem RV.to0 {V : V} {v : Value} (h : RV P m V v) (hc : ∀ f cs, V ≠ .fn f cs) : RV0 P m V v := by
  cases V <;> first | exact absurd rfl (hc _ _) | exact h
theorem Frz.to {m1 : Mem} (h : Frz m m1) : m.To m1 := h.fr.to
/-- Arguments that are data. -/
theorem argsC_ok {vars : Nat} {tm : Array Value} {b : Bool} {ms : List Nat} {vs : List V} {vals : List Value} : ∀ {l : List (Nat × SK)} {x : slotsH l} {m : Mem} {s s' : St}, Rel P G vars m s tm → (∀ i, RV P m (nthV vs i) (vals.getD i undef)) → runR (argsC b ms l vs) s = some (x, s') →
    ∃ m1, Frz m m1 ∧ Rel P G vars m1 s' tm ∧ SFrz s s' ∧ ∀ mc, Suit m1 ms b mc → ∀ n V ts, (n, V, ts) ∈ entries l x → V.cold = true ∧ RV0 P mc V (vals.getD n undef)
  | [], x, m, s, s', r, hv, h => by
    obtain ⟨_, rfl⟩ := ret_inv h
    exact ⟨m, .refl m, r, .refl _, fun mc _ n V ts h => by cases h⟩
  | (k, .dat T us) :: l, x, m, s, s', r, hv, h => by
    simp only [argsC] at h
    obtain ⟨y, s1, h1, h2⟩ := bind_inv h
    obtain ⟨m1, k1, k2, k3, k4⟩ := argD_ok r h1 (hv k)
    obtain ⟨z, s2, h3, h4⟩ := bind_inv h2
    obtain ⟨rfl, rfl⟩ := ret_inv h4
    obtain ⟨m2, g1, g2, g3, g4⟩ := argsC_ok k2 (fun i => (hv i).to k1.to) h3
    refine ⟨m2, k1.trans g1, g2, k3.trans g3, fun mc hm n V ts he => ?_⟩
    rcases List.mem_cons.1 he with he | he
    · cases he; exact ⟨rfl, k4 mc (.frz g1 hm)⟩
    · exact g4 mc hm n V ts he
  | (k, .rp T) :: l, x, m, s, s', r, hv, h => by
    simp only [argsC] at h
    obtain ⟨y, s1, h1, h2⟩ := bind_inv h
    obtain ⟨k1, k2⟩ := argP_ok r h1 (hv k)
    obtain ⟨z, s2, h3, h4⟩ := bind_inv h2
    obtain ⟨rfl, rfl⟩ := ret_inv h4
    obtain ⟨m2, g1, g2, g3, g4⟩ := argsC_ok (r.same k1) hv h3
    refine ⟨m2, g1, g2, (SFrz.of_same k1).trans g3, fun mc hm n V ts he => ?_⟩
    rcases List.mem_cons.1 he with he | he
    · cases he; exact ⟨rfl, k2 b mc (.frz g1 hm)⟩
    · exact g4 mc hm n V ts he
  | (k, .pv T) :: l, x, m, s, s', r, hv, h => by
    simp only [argsC] at h
    obtain ⟨y, s1, h1, h2⟩ := bind_inv h
    obtain ⟨k1, k2⟩ := argW_ok r h1 (hv k)
    obtain ⟨z, s2, h3, h4⟩ := bind_inv h2
    obtain ⟨rfl, rfl⟩ := ret_inv h4
    obtain ⟨m2, g1, g2, g3, g4⟩ := argsC_ok (r.same k1) hv h3
    refine ⟨m2, g1, g2, (SFrz.of_same k1).trans g3, fun mc hm n V ts he => ?_⟩
    rcases List.mem_cons.1 he with he | he
    · cases he; exact ⟨rfl, k2 b mc (.frz g1 hm)⟩
    · exact g4 mc hm n V ts he
  | (k, .bp i p T) :: l, x, m, s, s', r, hv, h => (fail_inv h).elim
  | (k, .own i) :: l, x, m, s, s', r, hv, h => (fail_inv h).elim
  | (k, .fun1 A R) :: l, x, m, s, s', r, hv, h => (fail_inv h).elim
  | (k, .fnb _ _) :: l, x, m, s, s', r, hv, h => (fail_inv h).elim
theorem entry_tips {l : List (Nat × SK)} (h : l.all (fun p => p.2.argOk) = true) : ∀ {x : slotsH l} {n : Nat} {V : V} {ts : List Nat}, (n, V, ts) ∈ entries l x → ts = [] := by
  induction l with
  | nil => intro x n V ts h; cases h
  | cons p l ih =>
    obtain ⟨k, sk⟩ := p
    simp only [List.all_cons, Bool.and_eq_true] at h
    intro x n V ts hm
    cases sk <;> (rcases List.mem_cons.1 hm with he | he)
    all_goals first
      | (cases he; rfl)
      | (cases he; exact List.isEmpty_iff.1 h.1)
      | exact ih h.2 he
theorem entry_mem {l : List (Nat × SK)} : ∀ {x : slotsH l} {n : Nat} {V : V} {ts : List Nat}, (n, V, ts) ∈ entries l x → n ∈ l.map (·.1) := by
  induction l with
  | nil => intro x n V ts h; cases h
  | cons p l ih =>
    obtain ⟨k, sk⟩ := p
    intro x n V ts hm
    cases sk <;> (rcases List.mem_cons.1 hm with he | he)
    all_goals first
      | (cases he; exact List.mem_cons_self)
      | exact List.mem_cons_of_mem _ (ih he)
theorem padA_getD (n : Nat) (vals : List Value) (k : Nat) : (padA n vals.toArray).getD k undef = vals.getD k undef := by
  unfold padA
  rw [Array.getD_eq_getD_getElem?, Array.getElem?_append]
  split
  · simp [List.getD_eq_getElem?_getD]
  · rename_i hk
    simp only [List.size_toArray] at hk
    rw [Array.getElem?_replicate, List.getD_eq_getElem?_getD, List.getElem?_eq_none (by omega)]
    split <;> rfl
theorem padA_size (n : Nat) (vals : Array Value) : n ≤ (padA n vals).size := by
  simp [padA]; omega
/-- A closure, given as an argument. -/
theorem fn_fun1 {f : FuncId} {A R : Ty} {ts : List Nat} {l : List (Nat × SK)} {nt nx : Nat} {total : Bool} {tips : List Nat} {F : (⟨(0, .dat A ts) :: l, [], nt, nx⟩ : Skel).H → Option (den R)} (S : Sound P G f ⟨⟨(0, .dat A ts) :: l, [], nt, nx⟩, R, false, total, tips, F⟩)
    {ms : List Nat} {b : Bool} {mc : Mem} (hm : Suit m ms b mc) (hg : ∀ g d, G g = some d → GAt m d g) {ds : slotsH l} {vs : List Value} (hb : ∀ mx, Suit m ms (noSl R) mx → ∀ n V ts, (n, V, ts) ∈ entries l ds → V.cold = true ∧ RV0 P mx V ((undef :: vs).getD n undef)) (hlen : vs.length = l.length) :
    FunOk P mc A R (fun x => F ((x, ds), ())) (.func (.func f) #[] vs.toArray) := by
  obtain ⟨hE, hok, hS⟩ := S
  refine ⟨f, vs.toArray, rfl, hE, fun w' C' hp hc hbd x vx y hx hy => ?_⟩
  have hsub : ∀ X Y : Cells, (∀ p q, X p q → p < m.w.heap.size ∨ Y p q) → (∀ p q, Y p q → p < w'.heap.size) → ∀ p q, X p q → p < w'.heap.size := fun X Y h1 h2 p q h3 => (h1 p q h3).elim (fun h => Nat.lt_of_lt_of_le h (by rw [← hm.w]; exact hp.size)) (h2 p q)
  let mx : Mem := { mc with C := fun p q => mc.C p q ∨ (noSl R = true ∧ mc.K p q) }
  have hmx : Suit m ms (noSl R) mx := ⟨hm.w, fun p q h => .inl (hm.C p q h), fun p q h => (hm.CK p q h).imp .inl fun h => h, fun p i q h1 h2 => (hm.obj p i q h1 h2).imp .inl fun h => h, fun e p i q h1 h2 => (hm.obj p i q h1 h2).imp (fun h => h) fun h => ⟨e, h⟩, fun p q h => hm.old p q (h.elim (fun h => h.elim .inl fun h => .inr h.2) .inr)⟩
  let m2 : Mem := { w := w', C := fun p q => C' p q ∨ mx.C p q, K := fun p q => p < w'.heap.size, L := fun _ => .no, ad := fun _ => ⟨0, 0, 0, .unit⟩, U := fun _ => False }
  have hCb : ∀ p q, mx.C p q → p < w'.heap.size := fun p q h => Nat.lt_of_lt_of_le (hmx.old p q (.inl h)) (by rw [← hm.w]; exact hp.size)
  have hKb : ∀ p q, mx.C p q ∨ mx.K p q → p < w'.heap.size := fun p q h => Nat.lt_of_lt_of_le (hmx.old p q h) (by rw [← hm.w]; exact hp.size)
  have cool : Cool mx m2 := ⟨hp.mono fun p q _ h => h.elim (fun h => h.elim .inl fun h => .inr h.2) .inr, fun p q h => .inr h, fun p q h => .inr (hKb p q h)⟩
  simp only [Spec.okB, Bool.and_eq_true] at hok
  have hall := hok.1.1
  have rel : Rel P G 0 m2 ((⟨(0, .dat A ts) :: l, [], nt, nx⟩ : Skel).st ((x, ds), ())) (padA nt (#[vx] ++ vs.toArray)) := by
    refine rel_st (fun p q h => h.elim (hbd p q) (hCb p q)) (fun p q h => h) (fun p h => absurd rfl h) (fun g d h => ((hg g d h).cool hmx.cool).cool cool) (padA_size _ _) (fun n V us hm' => ?_) fun id o us hm' => by cases hm'
    have ht := entry_tips hall hm'
    subst ht
    refine ⟨?_, fun d _ off ho => by cases ho⟩
    rw [show (#[vx] ++ vs.toArray) = (vx :: vs).toArray by simp, padA_getD]
    rcases List.mem_cons.1 hm' with he | he
    · cases he
      exact hx.mono (.refl _ _) fun p q h => .inl h
    · obtain ⟨c1, c2⟩ := hb mx hmx n V [] he
      refine RV.of0 ?_
      have c3 := RV0.cool cool c1 c2
      cases n with
      | zero =>
        have h0 := hok.1.2.2
        simp only [List.map_cons, distinctN, Bool.and_eq_true, Bool.not_eq_true'] at h0
        rw [hasN_mem.2 (entry_mem he)] at h0
        cases h0.1
      | succ n => simpa using c3
  refine Calls.mono (hS m2 ((x, ds), ()) y _ (by simp [hlen]) rel (fun _ h => h.elim) hy) fun e w'' he => ?_
  obtain ⟨v, rfl, m', e1, fr, b1, b2, ⟨r1, _, _⟩, _⟩ := he
  subst e1
  refine ⟨v, (if noSl R = true then C' else m'.C), rfl, fr.to.pre.mono fun p q hlt _ => .inr hlt, fun p q h => ?_, fun p q h => ?_, fun p q h hlt => ?_, ?_⟩
  · split
    · exact h
    · exact fr.to.C p q (.inl h)
  · split at h
    · exact Nat.lt_of_lt_of_le (hbd p q h) fr.to.pre.size
    · exact b1 p q h
  · split at h
    · exact h
    · rename_i hn
      rcases fr.gC p q h hlt with h1 | h1
      · rcases h1 with h1 | h1 | h1
        · exact h1
        · exact hc p q h1
        · exact absurd h1.1 hn
      · exact absurd hlt h1
  · split
    · rename_i hn
      rcases r1 rfl with ⟨q1, cs, q2, q3⟩ | ⟨q1, q2⟩
      · exact .inl ⟨q1, cs, q2, q3.noSl hn⟩
      · exact .inr ⟨q1, q2.noSl hn⟩
    · exact r1 rfl
theorem argF_ok (hΓ : GOk P G Γ) {vars : Nat} {tm : Array Value} (r : Rel P G vars m s tm) {ms : List Nat} {A R : Ty} {V : V} {g : den A → Option (den R)} {v : Value} (h : runR (argF Γ ms A R V) s = some (g, s')) (hv : RV P m V v) :
    ∃ m1, Frz m m1 ∧ Rel P G vars m1 s' tm ∧ SFrz s s' ∧ ∀ b mc, Suit m1 ms b mc → FunOk P mc A R g v := by
  unfold argF at h
  split at h
  · rename_i A' R' g'
    split at h
    · rename_i e1 e2 _ _
      subst e1
      subst e2
      obtain ⟨rfl, rfl⟩ := ret_inv h
      exact ⟨m, .refl m, r, .refl _, fun b mc hm => FunOk.cool hm.cool hv⟩
    · exact (fail_inv h).elim
  · rename_i f cs
    split at h
    · rename_i A' us l nt nx R' total tips F hF
      split at h
      · rename_i e1 e2 _ _
        subst e1
        subst e2
        obtain ⟨ws, rfl, hl, hw⟩ := hv
        cases hbq : Nat.beq cs.length l.length with
        | false => rw [hbq] at h; exact (fail_inv h).elim
        | true =>
        rw [hbq, cond_true] at h
        have hlen : ws.length = l.length := hl.trans (Nat.eq_of_beq_eq_true hbq)
        obtain ⟨ds, s1, h1, h2⟩ := bind_inv h
        obtain ⟨rfl, rfl⟩ := ret_inv h2
        obtain ⟨m1, k1, k2, k3, k4⟩ := argsC_ok (vals := undef :: ws) r (fun i => by
          cases i with
          | zero => exact trivial
          | succ i => simpa [nthV] using RV.of0 (hw i)) h1
        exact ⟨m1, k1, k2, k3, fun b mc hm => fn_fun1 (hΓ.Φ f _ hF) hm k2.glob k4 hlen⟩
      · exact (fail_inv h).elim
    · exact (fail_inv h).elim
  · exact (fail_inv h).elim
/-- The arguments of a call. -/
theorem argsH_ok (hΓ : GOk P G Γ) {vars : Nat} {tm : Array Value} {b : Bool} {ms : List Nat} {vs : List V} {vals : List Value} : ∀ {l : List (Nat × SK)} {x : slotsH l} {m : Mem} {s s' : St}, Rel P G vars m s tm → (∀ i, RV P m (nthV vs i) (vals.getD i undef)) → runR (argsH Γ b ms l vs) s = some (x, s') →
    ∃ m1, Frz m m1 ∧ Rel P G vars m1 s' tm ∧ SFrz s s' ∧ ∀ mc, Suit m1 ms b mc → ∀ n V ts, (n, V, ts) ∈ entries l x → (∃ i p T, V = .bp i p T ∧ (n, SK.bp i p T) ∈ l) ∨ RV0 P mc V (vals.getD n undef)
  | [], x, m, s, s', r, hv, h => by
    obtain ⟨_, rfl⟩ := ret_inv h
    exact ⟨m, .refl m, r, .refl _, fun mc _ n V ts h => by cases h⟩
  | (k, .dat T us) :: l, x, m, s, s', r, hv, h => by
    simp only [argsH] at h
    obtain ⟨y, s1, h1, h2⟩ := bind_inv h
    obtain ⟨m1, k1, k2, k3, k4⟩ := argD_ok r h1 (hv k)
    obtain ⟨z, s2, h3, h4⟩ := bind_inv h2
    obtain ⟨rfl, rfl⟩ := ret_inv h4
    obtain ⟨m2, g1, g2, g3, g4⟩ := argsH_ok hΓ k2 (fun i => (hv i).to k1.to) h3
    refine ⟨m2, k1.trans g1, g2, k3.trans g3, fun mc hm n V ts he => ?_⟩
    rcases List.mem_cons.1 he with he | he
    · cases he; exact .inr (k4 mc (.frz g1 hm))
    · exact (g4 mc hm n V ts he).imp (fun ⟨i, p, T, e, q⟩ => ⟨i, p, T, e, List.mem_cons_of_mem _ q⟩) id
  | (k, .rp T) :: l, x, m, s, s', r, hv, h => by
    simp only [argsH] at h
    obtain ⟨y, s1, h1, h2⟩ := bind_inv h
    obtain ⟨k1, k2⟩ := argP_ok r h1 (hv k)
    obtain ⟨z, s2, h3, h4⟩ := bind_inv h2
    obtain ⟨rfl, rfl⟩ := ret_inv h4
    obtain ⟨m2, g1, g2, g3, g4⟩ := argsH_ok hΓ (r.same k1) hv h3
    refine ⟨m2, g1, g2, (SFrz.of_same k1).trans g3, fun mc hm n V ts he => ?_⟩
    rcases List.mem_cons.1 he with he | he
    · cases he; exact .inr (k2 b mc (.frz g1 hm))
    · exact (g4 mc hm n V ts he).imp (fun ⟨i, p, T, e, q⟩ => ⟨i, p, T, e, List.mem_cons_of_mem _ q⟩) id
  | (k, .pv T) :: l, x, m, s, s', r, hv, h => by
    simp only [argsH] at h
    obtain ⟨y, s1, h1, h2⟩ := bind_inv h
    obtain ⟨k1, k2⟩ := argW_ok r h1 (hv k)
    obtain ⟨z, s2, h3, h4⟩ := bind_inv h2
    obtain ⟨rfl, rfl⟩ := ret_inv h4
    obtain ⟨m2, g1, g2, g3, g4⟩ := argsH_ok hΓ (r.same k1) hv h3
    refine ⟨m2, g1, g2, (SFrz.of_same k1).trans g3, fun mc hm n V ts he => ?_⟩
    rcases List.mem_cons.1 he with he | he
    · cases he; exact .inr (k2 b mc (.frz g1 hm))
    · exact (g4 mc hm n V ts he).imp (fun ⟨i, p, T, e, q⟩ => ⟨i, p, T, e, List.mem_cons_of_mem _ q⟩) id
  | (k, .bp i p T) :: l, x, m, s, s', r, hv, h => by
    simp only [argsH] at h
    obtain ⟨m2, g1, g2, g3, g4⟩ := argsH_ok hΓ r hv h
    refine ⟨m2, g1, g2, g3, fun mc hm n V ts he => ?_⟩
    rcases List.mem_cons.1 he with he | he
    · cases he; exact .inl ⟨i, p, T, rfl, List.mem_cons_self⟩
    · exact (g4 mc hm n V ts he).imp (fun ⟨i, p, T, e, q⟩ => ⟨i, p, T, e, List.mem_cons_of_mem _ q⟩) id
  | (k, .own i) :: l, x, m, s, s', r, hv, h => (fail_inv h).elim
  | (k, .fnb _ _) :: l, x, m, s, s', r, hv, h => (fail_inv h).elim
  | (k, .fun1 A R) :: l, x, m, s, s', r, hv, h => by
    simp only [argsH] at h
    obtain ⟨y, s1, h1, h2⟩ := bind_inv h
    obtain ⟨m1, k1, k2, k3, k4⟩ := argF_ok hΓ r h1 (hv k)
    obtain ⟨z, s2, h3, h4⟩ := bind_inv h2
    obtain ⟨rfl, rfl⟩ := ret_inv h4
    obtain ⟨m2, g1, g2, g3, g4⟩ := argsH_ok hΓ k2 (fun i => (hv i).to k1.to) h3
    refine ⟨m2, k1.trans g1, g2, k3.trans g3, fun mc hm n V ts he => ?_⟩
    rcases List.mem_cons.1 he with he | he
    · cases he; exact .inr (k4 b mc (.frz g1 hm))
    · exact (g4 mc hm n V ts he).imp (fun ⟨i, p, T, e, q⟩ => ⟨i, p, T, e, List.mem_cons_of_mem _ q⟩) id
end
end Go.XE
