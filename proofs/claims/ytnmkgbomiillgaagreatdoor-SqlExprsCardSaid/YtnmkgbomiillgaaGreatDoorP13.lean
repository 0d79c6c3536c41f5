/- Part 13 of the proof. -/
import Derived.Test.YtnmkgbomiillgaaGreatDoorP12
import Derived.KernelRfl
import Derived.Test.YtnmkgbomiillgaaGreatDoorP11
/- SqlExprs: small expressions. -/
namespace Go.XE
abbrev Node := den api_SqlNode
def nArgs (n : Node) : List Int := n.2.2.2.2.2.1
def nText (n : Node) : List UInt8 := n.2.2.2.2.1
def nFile (n : Node) : List UInt8 := n.2.2.2.1
theorem wrapS {i : Nat} (h : i ≤ 1000000) : IntKind.i64.wrap ((i : Int) + 1) = ((i + 1 : Nat) : Int) := by rw [IntKind.wrap_i64] <;> omega
def smallN (n : Node) : Bool := decide ((nArgs n).length ≤ 12) && decide ((nText n).length ≤ 296)
theorem few_loop (l : List Node) (hl : l.length ≤ 41) : ∀ k i : Nat, i ≤ l.length → l.length - i < k →
    law30_fewExpr.l0 k l (i : Int) = if (l.drop i).all smallN = true then some (true, ((), ()), (dflt (.pair (.pair .bool .unit) .unit))) else some (false, dflt (.pair .unit .unit), (false, ()), ())
  | 0, i, _, h => by omega
  | k + 1, i, hi, h => by
    unfold law30_fewExpr.l0
    rw [mergeO_cond]
    by_cases hlt : i < l.length
    · have h1 : ((i : Int) < (l.length : Int)) := by omega
      have h0 : ((0 : Int) ≤ (i : Int)) := by omega
      have hd : l.drop i = l[i] :: l.drop (i + 1) := List.drop_eq_getElem_cons hlt
      have hg : List.getD l (Int.toNat (i : Int)) (dflt api_SqlNode) = l[i] := by simp [List.getD, hlt]
      have ih := few_loop l hl k (i + 1) hlt (by omega)
      rw [hd, List.all_cons]
      simp only [decide_eq_true h1, decide_eq_true h0, Bool.and_self, cond_true, hg]
      rw [wrapS (by omega), ih, mergeO_cond]
      have e : smallN l[i] = !(cond (decide ((List.length (l[i]).2.2.2.2.2.1 : Int) > 12)) true (decide ((List.length (l[i]).2.2.2.2.1 : Int) > 296))) := by
        simp only [smallN, nArgs, nText]
        by_cases a1 : (List.length (l[i]).2.2.2.2.2.1) ≤ 12 <;> by_cases a2 : (List.length (l[i]).2.2.2.2.1) ≤ 296 <;>
          simp [a1, a2] <;> omega
      generalize decide ((List.length (l[i]).2.2.2.2.2.1 : Int) > 12) = p at e ⊢
      generalize decide ((List.length (l[i]).2.2.2.2.1 : Int) > 296) = q at e ⊢
      rw [e]
      generalize (List.drop (i + 1) l).all smallN = t
      cases p <;> cases q <;> cases t <;> rfl
    · obtain rfl : i = l.length := by omega
      simp
/-- What 'fewExpr' lets in. -/
theorem few_iff (k : Nat) (hk : 1000 ≤ k) (l : List Node) : law30_fewExpr k l = some (decide (l.length ≤ 41) && l.all smallN) := by
  unfold law30_fewExpr
  rw [mergeO_cond]
  by_cases h : l.length ≤ 41
  · have hl := few_loop l h k 0 (by omega) (by omega)
    rw [List.drop_zero] at hl
    have e : (decide ((List.length l : Int) > 41)) = false := by rw [decide_eq_false_iff_not]; omega
    rw [e, show ((0 : Int)) = ((0 : Nat) : Int) from rfl, hl, decide_eq_true h]
    generalize l.all smallN = t
    cases t <;> rfl
  · have e : (decide ((List.length l : Int) > 41)) = true := by rw [decide_eq_true_eq]; omega
    rw [e, decide_eq_false h]
    rfl
theorem ble_lim {n : Nat} (h : n ≤ 4294967296) : Nat.ble n lim = true := Nat.ble_eq_true_of_le h
theorem own_loop (l : List Node) (hl : l.length ≤ 41) (ha : ∀ n ∈ l, (nArgs n).length ≤ 12) : ∀ (k i : Nat) (o : List Node), i ≤ l.length → o.length = i → l.length - i < k →
    ref30_OwnExpr.l0 k l o (i : Int) = some ((o ++ l.drop i, ()), ())
  | 0, i, _, _, _, h => by omega
  | k + 1, i, o, hi, ho, h => by
    unfold ref30_OwnExpr.l0
    rw [mergeO_cond]
    by_cases hlt : i < l.length
    · have h1 : ((i : Int) < (l.length : Int)) := by omega
      have h0 : ((0 : Int) ≤ (i : Int)) := by omega
      have hd : l.drop i = l[i] :: l.drop (i + 1) := List.drop_eq_getElem_cons hlt
      have hg : List.getD l (Int.toNat (i : Int)) (dflt api_SqlNode) = l[i] := by simp [List.getD, hlt]
      have hc : base_CopyInts (l[i]).2.2.2.2.2.1 = some (l[i]).2.2.2.2.2.1 := by
        have := ha l[i] (List.getElem_mem hlt)
        unfold nArgs at this
        rw [base_CopyInts, ble_lim (by omega), cond_true]
      have ih := own_loop l hl ha k (i + 1) (o ++ [l[i]]) hlt (by rw [List.length_append, ho]; rfl) (by omega)
      simp only [decide_eq_true h1, decide_eq_true h0, Bool.and_self, cond_true, hg, hc, Option.bind_some]
      rw [ble_lim (by rw [ho]; exact Nat.le_trans (Nat.add_le_add_right hi 1) (by omega)), cond_true, wrapS (by omega)]
      show ref30_OwnExpr.l0 k l (o ++ [l[i]]) _ = _
      rw [ih, hd, List.append_assoc]
      rfl
    · obtain rfl : i = l.length := by omega
      have h1 : ¬ ((l.length : Int) < (l.length : Int)) := by omega
      rw [decide_eq_false h1, cond_false, List.drop_length, List.append_nil]
theorem own_same (k : Nat) (hk : 1000 ≤ k) (l : List Node) (hl : l.length ≤ 41) (ha : ∀ n ∈ l, (nArgs n).length ≤ 12) : ref30_OwnExpr k l = some l := by
  have h := own_loop l hl ha k 0 [] (by omega) rfl (by omega)
  rw [List.drop_zero] at h
  unfold ref30_OwnExpr
  rw [show ((0 : Int)) = ((0 : Nat) : Int) from rfl, h]
  rfl
end Go.XE
/- Loops that look for something. -/
namespace Go.XE
abbrev FndT : Type := Bool × (Unit × Unit) × (Int × Unit) × Unit
/-- Whether one of the next m has it. -/
def anyUp (p : Nat → Bool) : Nat → Nat → Bool
  | _, 0 => false
  | i, m + 1 => p i || anyUp p (i + 1) m
theorem anyUp_drop {α : Type} (q : α → Bool) (d : α) (l : List α) : ∀ (m i : Nat), l.length = i + m → anyUp (fun j => q (l.getD j d)) i m = (l.drop i).any q
  | 0, i, h => by rw [anyUp, List.drop_eq_nil_of_le (by omega)]; rfl
  | m + 1, i, h => by
    have hlt : i < l.length := by omega
    rw [anyUp, anyUp_drop q d l m (i + 1) (by omega), List.drop_eq_getElem_cons hlt, List.any_cons]
    simp [List.getD, hlt]
theorem find_loop {L : Nat → Int → Option FndT} {p : Nat → Bool} {n : Nat} {d1 : Unit × Unit} {d2 : Int × Unit} (hn : n ≤ 1000000)
    (hs : ∀ k i : Nat, i ≤ n → L (k + 1) (i : Int) = cond (decide (i < n)) (cond (p i) (some (false, d1, ((i : Int), ()), ())) (L k ((i + 1 : Nat) : Int))) (some (true, ((), ()), d2, ()))) :
    ∀ m k i : Nat, n = i + m → m < k → ∃ r, L k (i : Int) = some r ∧ r.1 = !(anyUp p i m) ∧ (r.1 = false → 0 ≤ r.2.2.1.1)
  | 0, k + 1, i, h, hk => by
    rw [hs k i (by omega), decide_eq_false (by omega), cond_false]
    exact ⟨_, rfl, rfl, fun h => by cases h⟩
  | m + 1, k + 1, i, h, hk => by
    rw [hs k i (by omega), decide_eq_true (by omega), cond_true]
    cases hp : p i
    · obtain ⟨r, h1, h2, h3⟩ := find_loop hn hs m k (i + 1) (by omega) (by omega)
      exact ⟨r, h1, by rw [h2, anyUp, hp]; rfl, h3⟩
    · exact ⟨_, rfl, by rw [anyUp, hp]; rfl, fun _ => Int.natCast_nonneg i⟩
theorem getD_toNat {α : Type} (l : List α) (i : Nat) (d : α) : List.getD l (Int.toNat (i : Int)) d = List.getD l i d := by rw [Int.toNat_natCast]
theorem idx_in {i n : Nat} : (decide (0 ≤ (i : Int)) && decide ((i : Int) < (n : Int))) = decide (i < n) := by
  rw [decide_eq_true (Int.natCast_nonneg i), Bool.true_and]
  exact decide_eq_decide.2 (by omega)
theorem int_lt {i n : Nat} : decide ((i : Int) < (n : Int)) = decide (i < n) := decide_eq_decide.2 (by omega)
/-- slices.ContainsFunc over bytes, the function given as a predicate. -/
theorem anyByte (k : Nat) (a : List Int) (f : Int → Option Bool) (p : Int → Bool) (hf : ∀ x, f x = some (p x)) (ha : a.length < 1000) (hk : 1000 ≤ k) : slices_ContainsFunc_byte_byte k a f = some (a.any p) := by
  have hL := find_loop (L := fun k i => slices_IndexFunc_byte_byte.l0 k a f (a.length : Int) i) (p := fun j => p (a.getD j 0)) (n := a.length) (d1 := dflt (.pair .unit .unit)) (d2 := (0, ())) (by omega) (fun k i hi => by
    show slices_IndexFunc_byte_byte.l0 (k + 1) a f _ _ = _
    conv => lhs; unfold slices_IndexFunc_byte_byte.l0
    rw [mergeO_cond, idx_in, int_lt, hf, getD_toNat, wrapS (by omega)]
    cases decide (i < a.length)
    · rfl
    · rw [cond_true, cond_true, cond_true, Option.bind_some, mergeO_cond]) a.length k 0 (by omega) (by omega)
  obtain ⟨r, h1, h2, h3⟩ := hL
  have e := anyUp_drop p 0 a a.length 0 (by omega)
  rw [List.drop_zero] at e
  rw [e] at h2
  unfold slices_ContainsFunc_byte_byte slices_IndexFunc_byte_byte
  have h1' : slices_IndexFunc_byte_byte.l0 k a f (a.length : Int) 0 = some r := h1
  rw [h1', Option.bind_some, mergeO_cond]
  cases hb : a.any p
  · rw [hb] at h2
    rw [h2]
    rfl
  · rw [hb] at h2
    have := h3 h2
    rw [h2, Bool.not_true, cond_false, Option.bind_some, decide_eq_true this]
/-- slices.ContainsFunc over ints, the function given as a predicate. -/
theorem anyInt (k : Nat) (a : List Int) (f : Int → Option Bool) (p : Int → Bool) (hf : ∀ x, f x = some (p x)) (ha : a.length < 1000) (hk : 1000 ≤ k) : slices_ContainsFunc_int_int k a f = some (a.any p) := by
  have hL := find_loop (L := fun k i => slices_IndexFunc_int_int.l0 k a f (a.length : Int) i) (p := fun j => p (a.getD j 0)) (n := a.length) (d1 := dflt (.pair .unit .unit)) (d2 := (0, ())) (by omega) (fun k i hi => by
    show slices_IndexFunc_int_int.l0 (k + 1) a f _ _ = _
    conv => lhs; unfold slices_IndexFunc_int_int.l0
    rw [mergeO_cond, idx_in, int_lt, hf, getD_toNat, wrapS (by omega)]
    cases decide (i < a.length)
    · rfl
    · rw [cond_true, cond_true, cond_true, Option.bind_some, mergeO_cond]) a.length k 0 (by omega) (by omega)
  obtain ⟨r, h1, h2, h3⟩ := hL
  have e := anyUp_drop p 0 a a.length 0 (by omega)
  rw [List.drop_zero] at e
  rw [e] at h2
  unfold slices_ContainsFunc_int_int slices_IndexFunc_int_int
  have h1' : slices_IndexFunc_int_int.l0 k a f (a.length : Int) 0 = some r := h1
  rw [h1', Option.bind_some, mergeO_cond]
  cases hb : a.any p
  · rw [hb] at h2
    rw [h2]
    rfl
  · rw [hb] at h2
    have := h3 h2
    rw [h2, Bool.not_true, cond_false, Option.bind_some, decide_eq_true this]
/-- slices.Contains over strings. -/
theorem hasStr (k : Nat) (a : List (List UInt8)) (x : List UInt8) (ha : a.length < 1000) (hk : 1000 ≤ k) : slices_Contains_string_string k a x = some (a.any fun y => x == y) := by
  have hL := find_loop (L := fun k i => slices_Index_string_string.l0 k a x (a.length : Int) i) (p := fun j => x == a.getD j []) (n := a.length) (d1 := dflt (.pair .unit .unit)) (d2 := (0, ())) (by omega) (fun k i hi => by
    show slices_Index_string_string.l0 (k + 1) a x _ _ = _
    conv => lhs; unfold slices_Index_string_string.l0
    rw [mergeO_cond, idx_in, int_lt, getD_toNat, wrapS (by omega)]
    cases decide (i < a.length)
    · rfl
    · rw [cond_true, cond_true, cond_true, mergeO_cond]) a.length k 0 (by omega) (by omega)
  obtain ⟨r, h1, h2, h3⟩ := hL
  have e := anyUp_drop (fun y => x == y) [] a a.length 0 (by omega)
  rw [List.drop_zero] at e
  rw [e] at h2
  unfold slices_Contains_string_string slices_Index_string_string
  have h1' : slices_Index_string_string.l0 k a x (a.length : Int) 0 = some r := h1
  rw [h1', Option.bind_some, mergeO_cond]
  cases hb : a.any fun y => x == y
  · rw [hb] at h2
    rw [h2]
    rfl
  · rw [hb] at h2
    have := h3 h2
    rw [h2, Bool.not_true, cond_false, Option.bind_some, decide_eq_true this]
/-- The reference's IndexOfString: found or not. -/
theorem idxStr (k : Nat) (a : List (List UInt8)) (x : List UInt8) (ha : a.length < 1000) (hk : 1000 ≤ k) : ∃ v, base_IndexOfString k a x = some v ∧ (v != -1) = a.any fun y => y == x := by
  have hL := find_loop (L := fun k i => base_IndexOfString.l0 k a x i) (p := fun j => a.getD j [] == x) (n := a.length) (d1 := dflt (.pair .unit .unit)) (d2 := (0, ())) (by omega) (fun k i hi => by
    show base_IndexOfString.l0 (k + 1) a x _ = _
    conv => lhs; unfold base_IndexOfString.l0
    rw [mergeO_cond, idx_in, int_lt, getD_toNat, wrapS (by omega)]
    cases decide (i < a.length)
    · rfl
    · rw [cond_true, cond_true, cond_true, mergeO_cond]) a.length k 0 (by omega) (by omega)
  obtain ⟨r, h1, h2, h3⟩ := hL
  have e := anyUp_drop (fun y => y == x) [] a a.length 0 (by omega)
  rw [List.drop_zero] at e
  rw [e] at h2
  unfold base_IndexOfString
  have h1' : base_IndexOfString.l0 k a x 0 = some r := h1
  rw [h1', Option.bind_some, mergeO_cond]
  cases hb : a.any fun y => y == x
  · rw [hb] at h2
    rw [h2]
    exact ⟨-1, rfl, rfl⟩
  · rw [hb] at h2
    have := h3 h2
    rw [h2, Bool.not_true, cond_false]
    exact ⟨_, rfl, by rw [bne_iff_ne]; omega⟩
/-- The same, whatever is handed back. -/
theorem find_loop2 {X Y : Type} {L : Nat → Int → Option (Bool × X × Y × Unit)} {p : Nat → Bool} {n : Nat} {d1 d0 : X} {d2 : Y} {y : Nat → Y} (hn : n ≤ 1000000)
    (hs : ∀ k i : Nat, i ≤ n → L (k + 1) (i : Int) = cond (decide (i < n)) (cond (p i) (some (false, d1, y i, ())) (L k ((i + 1 : Nat) : Int))) (some (true, d0, d2, ()))) :
    ∀ m k i : Nat, n = i + m → m < k → ∃ r, L k (i : Int) = some r ∧ r.1 = !(anyUp p i m) ∧ (r.1 = false → ∃ j, r.2.2.1 = y j) ∧ (r.1 = true → r.2.1 = d0)
  | 0, k + 1, i, h, hk => by
    rw [hs k i (by omega), decide_eq_false (by omega), cond_false]
    exact ⟨_, rfl, rfl, (fun h => by cases h), fun _ => rfl⟩
  | m + 1, k + 1, i, h, hk => by
    rw [hs k i (by omega), decide_eq_true (by omega), cond_true]
    cases hp : p i
    · obtain ⟨r, h1, h2, h3⟩ := find_loop2 hn hs m k (i + 1) (by omega) (by omega)
      exact ⟨r, h1, by rw [h2, anyUp, hp]; rfl, h3⟩
    · exact ⟨_, rfl, by rw [anyUp, hp]; rfl, (fun _ => ⟨i, rfl⟩), fun h => by cases h⟩
end Go.XE
/- Names. -/
namespace Go.XE
theorem reserved_words : sql_reserved = some ref30_words := by kernel_rfl
theorem upper_eq (c : Int) : (cond (base_IsUpper c) true (cond (c == (36:Int)) true (cond (c == (35:Int)) true (c == (64:Int))))) = sql_isLetter c := by
  unfold base_IsUpper sql_isLetter
  cases decide ((65:Int) ≤ c) <;> rfl
theorem other_eq (c : Int) : sql_isOther c = (sql_isLetter c || !(cond (!(base_IsDigit c)) (c != (95:Int)) false)) := by
  unfold sql_isOther base_IsDigit
  cases sql_isLetter c <;> cases decide ((48:Int) ≤ c) <;> cases decide (c ≤ (57:Int)) <;> cases h : (c == (95:Int)) <;> simp [bne, h]
def byteI (b : UInt8) : Int := ((b.toNat : Nat) : Int)
/-- Whether a text is a name. -/
noncomputable def nameB (s : List UInt8) (most : Int) : Bool :=
  (decide (1 ≤ s.length) && decide ((s.length : Int) ≤ most)) && (!(ref30_words.any fun y => y == s) && (sql_isLetter (byteI (s.getD 0 0)) && s.all fun b => sql_isOther (byteI b)))
theorem words_len : ref30_words.length < 1000 := by decide
theorem isName_eq (k : Nat) (hk : 1000 ≤ k) (s : List UInt8) (most : Int) (hm : most ≤ 100) : sql_isName k s most = some (nameB s most) := by
  unfold sql_isName nameB
  simp only [mergeO_cond]
  by_cases h0 : s = []
  · subst h0; rfl
  · have hp : 1 ≤ s.length := by
      cases s with
      | nil => exact absurd rfl h0
      | cons a r => simp
    have e0 : (s == ([] : List UInt8)) = false := by rw [beq_eq_false_iff_ne]; exact h0
    have e3 : (decide (0 ≤ (0:Int)) && decide ((0:Int) < (List.length s : Int))) = true := by
      rw [decide_eq_true (by omega), decide_eq_true (by omega)]; rfl
    rw [e0, e3, decide_eq_true hp, Bool.true_and]
    by_cases hl : (s.length : Int) ≤ most
    · have e1 : decide ((List.length s : Int) > most) = false := by rw [decide_eq_false_iff_not]; omega
      rw [e1, decide_eq_true hl, Bool.true_and]
      simp only [cond_false, cond_true]
      rw [show List.getD s (Int.toNat (0:Int)) 0 = List.getD s 0 0 from rfl, reserved_words]
      have hany := anyByte k (s.map fun b : UInt8 => ((b.toNat : Nat) : Int)) (fun x => some (sql_isName_1 x)) sql_isName_1 (fun _ => rfl) (by rw [List.length_map]; omega) hk
      have hall : (s.all fun b => sql_isOther (byteI b)) = !((s.map fun b : UInt8 => ((b.toNat : Nat) : Int)).any sql_isName_1) := by
        rw [List.any_map, List.all_eq_not_any_not]
        rfl
      cases hL : sql_isLetter (byteI (s.getD 0 0))
      · have hL' : sql_isLetter ((List.getD s 0 0).toNat : Int) = false := hL
        rw [hL']
        cases (ref30_words.any fun y => y == s) <;> rfl
      · have hL' : sql_isLetter ((List.getD s 0 0).toNat : Int) = true := hL
        simp only [hL', Bool.not_true, cond_false, cond_true, Option.bind_some, hasStr k ref30_words s words_len hk, ble_lim (show List.length s ≤ 4294967296 by omega), hany, hall, Bool.true_and]
        have hc : (ref30_words.any fun y => s == y) = ref30_words.any fun y => y == s := by
          congr 1; funext y; exact Bool.beq_comm
        rw [hc]
        cases (ref30_words.any fun y => y == s) <;> rfl
    · have e1 : decide ((List.length s : Int) > most) = true := by rw [decide_eq_true_eq]; omega
      rw [e1, decide_eq_false hl]
      rfl
theorem anyUp_congr {p q : Nat → Bool} : ∀ (m i : Nat), (∀ j, i ≤ j → j < i + m → p j = q j) → anyUp p i m = anyUp q i m
  | 0, _, _ => rfl
  | m + 1, i, h => by rw [anyUp, anyUp, h i (Nat.le_refl _) (by omega), anyUp_congr m (i + 1) fun j h1 h2 => h j (by omega) (by omega)]
theorem letter_other {c : Int} (h : sql_isLetter c = true) : sql_isOther c = true := by unfold sql_isOther; rw [h]; rfl
theorem isNamed_eq (k : Nat) (hk : 1000 ≤ k) (s : List UInt8) (most : Int) (hm : most ≤ 100) : ref30_isNamed k s most = some (nameB s most) := by
  unfold ref30_isNamed nameB
  simp only [mergeO_cond]
  have hW : base_Within (List.length s : Int) 1 most = (decide (1 ≤ s.length) && decide ((s.length : Int) ≤ most)) := by
    unfold base_Within
    rw [show decide ((1 : Int) ≤ (s.length : Int)) = decide (1 ≤ s.length) from decide_eq_decide.2 (by omega)]
    cases decide (1 ≤ s.length) <;> rfl
  rw [hW]
  cases hw : (decide (1 ≤ s.length) && decide ((s.length : Int) ≤ most))
  · rfl
  · have hw2 := hw
    rw [Bool.and_eq_true, decide_eq_true_eq, decide_eq_true_eq] at hw2
    obtain ⟨v, hv1, hv2⟩ := idxStr k ref30_words s words_len hk
    simp only [Bool.not_true, cond_false, hv1, Option.bind_some, hv2, Bool.true_and]
    cases hr : (ref30_words.any fun y => y == s)
    · simp only [cond_false, Bool.not_false, Bool.true_and]
      have hL := find_loop2 (L := fun k i => ref30_isNamed.l0 k s i) (p := fun j => !(sql_isLetter (byteI (s.getD j 0))) && (decide (j = 0) || cond (!(base_IsDigit (byteI (s.getD j 0)))) (byteI (s.getD j 0) != (95:Int)) false)) (n := s.length)
        (d1 := dflt (.pair .unit .unit)) (d0 := ((), ())) (d2 := (dflt (.pair (.pair .bool .unit) .unit)).1) (y := fun _ => (false, ())) (by omega) (fun _ i hi => by
          show ref30_isNamed.l0 (_ + 1) s _ = _
          conv => lhs; unfold ref30_isNamed.l0
          simp only [mergeO_cond]
          rw [idx_in, int_lt, getD_toNat, wrapS (by omega), upper_eq]
          have hz : ((i : Int) == (0 : Int)) = decide (i = 0) := by
            cases i with
            | zero => rfl
            | succ n => rw [decide_eq_false (by omega), beq_eq_false_iff_ne]; omega
          rw [hz]
          show _ = cond _ (cond (!(sql_isLetter ((List.getD s i 0).toNat : Int)) && (decide (i = 0) || cond (!(base_IsDigit ((List.getD s i 0).toNat : Int))) (((List.getD s i 0).toNat : Int) != (95:Int)) false)) _ _) _
          cases decide (i < s.length)
          · rfl
          · cases sql_isLetter ((List.getD s i 0).toNat : Int) <;> cases decide (i = 0) <;> rfl) s.length k 0 (by omega) (by omega)
      obtain ⟨r, h1, h2, h3, h4⟩ := hL
      have h1' : ref30_isNamed.l0 k s 0 = some r := h1
      rw [h1', Option.bind_some]
      have hval : cond r.1 (some true) (some r.2.2.1.1) = some r.1 := by
        cases hr1 : r.1
        · obtain ⟨j, hj⟩ := h3 hr1
          rw [hj]; rfl
        · rfl
      rw [hval, h2]
      congr 1
      obtain ⟨n, hn⟩ : ∃ n, s.length = n + 1 := ⟨s.length - 1, by omega⟩
      rw [hn, anyUp]
      have hrest := anyUp_congr (p := fun j => !(sql_isLetter (byteI (s.getD j 0))) && (decide (j = 0) || cond (!(base_IsDigit (byteI (s.getD j 0)))) (byteI (s.getD j 0) != (95:Int)) false)) (q := fun j => !(sql_isOther (byteI (s.getD j 0)))) n 1 (fun j hj _ => by
        rw [decide_eq_false (by omega), Bool.false_or, other_eq]
        cases sql_isLetter (byteI (s.getD j 0)) <;> cases (cond (!(base_IsDigit (byteI (s.getD j 0)))) (byteI (s.getD j 0) != (95:Int)) false) <;> rfl)
      rw [hrest, anyUp_drop (fun b => !(sql_isOther (byteI b))) 0 s n 1 (by omega), decide_eq_true rfl, Bool.true_or, Bool.and_true]
      have hs : s = s.getD 0 0 :: s.drop 1 := by
        cases s with
        | nil => simp at hn
        | cons a r => simp
      have hall : (s.all fun b => sql_isOther (byteI b)) = (sql_isOther (byteI (s.getD 0 0)) && (s.drop 1).all fun b => sql_isOther (byteI b)) := by
        conv => lhs; rw [hs]
        rw [List.all_cons]
      rw [hall, List.all_eq_not_any_not]
      cases hl : sql_isLetter (byteI (s.getD 0 0))
      · rfl
      · rw [letter_other hl]
        cases ((s.drop 1).any fun b => !(sql_isOther (byteI b))) <;> rfl
    · rfl
end Go.XE
/- The error of a node. -/
namespace Go.XE
noncomputable def wrongN (n : Node) (i : Int) : Bool :=
  cond (cond ((nArgs n).any fun x => sql_nodeErr_1 x i) true (cond (n.1 == (1:Int)) (cond (decide (n.2.1 < (0:Int))) true ((numeric_CheckNumber (n.2.1, n.2.2.1, ())) != (0:Int))) false)) true (cond (n.1 == (7:Int)) (!(sql_in n.2.1 (0:Int) (5:Int))) false)
def shownB (t : List UInt8) : Bool := t.any fun b => decide (byteI b < 32) || decide (byteI b > 126)
noncomputable def nodeE (n : Node) (i : Int) : Int :=
  cond (!(sql_in n.1 0 16)) 4 (cond (!(sql_in (List.length (nArgs n) : Int) (sql_arity n.1).1 (sql_arity n.1).2.1)) 37 (cond (wrongN n i) 3 (cond (sql_formErr n != 0) 5
    (cond (n.1 == (0:Int)) (cond (!(nameB (nText n) 10)) 7 (cond (!(nFile n == ([] : List UInt8))) (cond (!(nameB (nFile n) 10)) 7 0) 0))
      (cond (cond (n.1 == (2:Int)) true (n.1 == (8:Int))) (cond (decide ((List.length (nText n) : Int) > 256)) 2 (cond (shownB (nText n)) 8 0)) 0)))))
theorem first2 (k : Nat) (hk : 1000 ≤ k) (a b : Int) : sql_first k [a, b] = some (cond (a != 0) a b) := by
  obtain ⟨n, rfl⟩ : ∃ n, k = n + 3 := ⟨k - 3, by omega⟩
  have e2 : sql_first.l0 (n + 1) [a, b] 2 2 = some (true, ((), ()), (dflt (.pair (.pair (.int .i64) .unit) .unit))) := rfl
  have e1 : sql_first.l0 (n + 2) [a, b] 2 1 = cond (b != 0) (some (false, (dflt (.pair .unit .unit)), (b, ()), ())) (sql_first.l0 (n + 1) [a, b] 2 2) := by
    conv => lhs; unfold sql_first.l0
    rw [mergeO_cond, mergeO_cond]
    rfl
  have e0 : sql_first.l0 (n + 3) [a, b] 2 0 = cond (a != 0) (some (false, (dflt (.pair .unit .unit)), (a, ()), ())) (sql_first.l0 (n + 2) [a, b] 2 1) := by
    conv => lhs; unfold sql_first.l0
    rw [mergeO_cond, mergeO_cond]
    rfl
  have hl : ((List.length [a, b] : Nat) : Int) = 2 := rfl
  unfold sql_first
  rw [hl, e0, e1, e2]
  simp only [mergeO_cond]
  cases h : (a != 0)
  · cases h2 : (b != 0)
    · have : b = 0 := by simpa using h2
      rw [this]; rfl
    · rfl
  · rfl
theorem isShown_eq (k : Nat) (hk : 1000 ≤ k) (t : List UInt8) (ht : t.length ≤ 296) : sql_isShown k t = some (!(shownB t)) := by
  unfold sql_isShown shownB
  rw [ble_lim (by omega), cond_true, anyByte k _ _ sql_isShown_1 (fun _ => rfl) (by rw [List.length_map]; omega) hk, Option.bind_some, List.any_map]
  have h : (sql_isShown_1 ∘ fun b : UInt8 => ((b.toNat : Nat) : Int)) = fun b => decide (byteI b < 32) || decide (byteI b > 126) := by
    funext b
    show sql_isShown_1 (byteI b) = _
    unfold sql_isShown_1
    cases decide (byteI b < 32) <;> rfl
  rw [h]
theorem formErr_eq (n : Node) : sql_formErr n = cond ((!(cond (n.1 == (0:Int)) true (cond (n.1 == (2:Int)) true (n.1 == (8:Int)))) && !(nText n == ([] : List UInt8))) || ((n.1 != (0:Int)) && !(nFile n == ([] : List UInt8)))
    || (!(cond (n.1 == (1:Int)) true (n.1 == (7:Int))) && (n.2.1 != (0:Int))) || ((n.1 != (1:Int)) && (n.2.2.1 != (0:Int)))) 5 0 := by
  unfold sql_formErr sql_cond nText nFile
  have b0 : (n.1 != (0:Int)) = !(n.1 == (0:Int)) := rfl
  have b1 : (n.1 != (1:Int)) = !(n.1 == (1:Int)) := rfl
  rw [b0, b1]
  generalize (n.1 == (0:Int)) = k0
  generalize (n.1 == (2:Int)) = k2
  generalize (n.1 == (8:Int)) = k8
  generalize (n.1 == (1:Int)) = k1
  generalize (n.1 == (7:Int)) = k7
  generalize (n.2.2.2.2.1 == ([] : List UInt8)) = t
  generalize (n.2.2.2.1 == ([] : List UInt8)) = f
  generalize (n.2.1 != (0:Int)) = a
  generalize (n.2.2.1 != (0:Int)) = b
  cases k0 <;> cases k2 <;> cases k8 <;> cases k1 <;> cases k7 <;> cases t <;> cases f <;> cases a <;> cases b <;> rfl
theorem formErr_two (n : Node) : sql_formErr n = cond (sql_formErr n != 0) 5 0 := by
  rw [formErr_eq]
  generalize ((!(cond (n.1 == (0:Int)) true (cond (n.1 == (2:Int)) true (n.1 == (8:Int)))) && !(nText n == ([] : List UInt8))) || ((n.1 != (0:Int)) && !(nFile n == ([] : List UInt8)))
    || (!(cond (n.1 == (1:Int)) true (n.1 == (7:Int))) && (n.2.1 != (0:Int))) || ((n.1 != (1:Int)) && (n.2.2.1 != (0:Int)))) = x
  cases x <;> rfl
theorem sqlNode_eq (k : Nat) (hk : 1000 ≤ k) (n : Node) (i : Int) (hA : (nArgs n).length ≤ 12) (hT : (nText n).length ≤ 296) : sql_nodeErr k n i = some (nodeE n i) := by
  unfold sql_nodeErr nodeE
  simp only [mergeO_cond]
  cases h1 : sql_in n.1 0 16
  · rfl
  · simp only [Bool.not_true, cond_false]
    show cond (!(sql_in (List.length (nArgs n) : Int) (sql_arity n.1).1 (sql_arity n.1).2.1)) _ _ = _
    cases h2 : sql_in (List.length (nArgs n) : Int) (sql_arity n.1).1 (sql_arity n.1).2.1
    · rfl
    · simp only [Bool.not_true, cond_false]
      have hany := anyInt k (nArgs n) (fun x => some (sql_nodeErr_1 x i)) (fun x => sql_nodeErr_1 x i) (fun _ => rfl) (by omega) hk
      unfold nArgs at hany
      rw [hany, Option.bind_some]
      change (sql_first k [sql_cond (wrongN n i) 3, sql_formErr n]).bind _ = _
      rw [first2 k hk, Option.bind_some]
      cases hw : wrongN n i
      · have e : cond ((sql_cond false 3) != 0) (sql_cond false 3) (sql_formErr n) = sql_formErr n := rfl
        rw [e, cond_false]
        cases hf : (sql_formErr n != 0)
        · simp only [cond_false]
          cases h0 : (n.1 == (0:Int))
          · simp only [cond_false]
            cases h28 : cond (n.1 == (2:Int)) true (n.1 == (8:Int))
            · rfl
            · have hsh := isShown_eq k hk (nText n) hT
              unfold nText at hsh
              simp only [cond_true]
              rw [hsh, Option.bind_some, first2 k hk, Option.bind_some, Bool.not_not]
              show _ = some (cond (decide ((List.length n.2.2.2.2.1 : Int) > 256)) 2 (cond (shownB n.2.2.2.2.1) 8 0))
              cases decide ((List.length n.2.2.2.2.1 : Int) > 256) <;> cases shownB n.2.2.2.2.1 <;> rfl
          · simp only [cond_true]
            have hn1 := isName_eq k hk (nText n) 10 (by omega)
            have hn2 := isName_eq k hk (nFile n) 10 (by omega)
            unfold nText at hn1
            unfold nFile at hn2
            rw [hn1, Option.bind_some, hn2]
            show _ = some (cond (!(nameB n.2.2.2.2.1 10)) 7 (cond (!(n.2.2.2.1 == ([] : List UInt8))) (cond (!(nameB n.2.2.2.1 10)) 7 0) 0))
            cases nameB n.2.2.2.2.1 10 <;> cases (n.2.2.2.1 == ([] : List UInt8)) <;> cases nameB n.2.2.2.1 10 <;> rfl
        · have h5 := formErr_two n
          rw [hf, cond_true] at h5
          rw [h5]; rfl
      · rfl
end Go.XE
/- The error of a node, by the reference. -/
namespace Go.XE
theorem arity_eq (K : Int) (h : sql_in K 0 16 = true) : ref30_arity K = sql_arity K := by
  have hb : 0 ≤ K ∧ K ≤ 16 := by
    unfold sql_in at h
    cases h0 : decide ((0:Int) ≤ K)
    · rw [h0] at h; cases h
    · rw [h0, cond_true] at h
      exact ⟨of_decide_eq_true h0, of_decide_eq_true h⟩
  obtain ⟨k, rfl⟩ := Int.eq_ofNat_of_zero_le hb.1
  have hk : k ≤ 16 := by omega
  match k, hk with
  | 0, _ => rfl
  | 1, _ => rfl
  | 2, _ => rfl
  | 3, _ => rfl
  | 4, _ => rfl
  | 5, _ => rfl
  | 6, _ => rfl
  | 7, _ => rfl
  | 8, _ => rfl
  | 9, _ => rfl
  | 10, _ => rfl
  | 11, _ => rfl
  | 12, _ => rfl
  | 13, _ => rfl
  | 14, _ => rfl
  | 15, _ => rfl
  | 16, _ => rfl
theorem number_eq (x : den api_Number) : ref01_NumberErr x = numeric_CheckNumber x := by
  unfold ref01_NumberErr numeric_CheckNumber base_Count numeric_cond
  have e1 : ∀ a b c, base_Within a b c = numeric_in a b c := fun _ _ _ => rfl
  rw [e1, e1]
  cases numeric_in x.1 (-999999999999999) 999999999999999 <;> cases numeric_in x.2.1 0 15 <;> rfl
theorem form_big (n : Node) : (cond (!(cond (n.1 == (1:Int)) (cond (n.1 == (0:Int)) true (cond (n.1 == (2:Int)) true true)) (cond (n.1 == (0:Int)) (n.1 == (7:Int)) (cond (n.1 == (2:Int)) (n.1 == (7:Int)) (n.1 == (7:Int)))))) (cond (n.2.1 != (0:Int)) true (cond (n.1 != (1:Int)) (cond (n.2.2.1 != (0:Int)) true (cond (n.1 != (0:Int)) (cond (!(n.2.2.2.1 == ([] : List UInt8))) true (cond (!(cond (n.1 == (1:Int)) (cond (n.1 == (0:Int)) true (cond (n.1 == (2:Int)) true (n.1 == (8:Int)))) (cond (n.1 == (0:Int)) true (cond (n.1 == (2:Int)) true (n.1 == (8:Int)))))) (!(n.2.2.2.2.1 == ([] : List UInt8))) false)) (cond (!(cond (n.1 == (1:Int)) (cond (n.1 == (0:Int)) true (cond (n.1 == (2:Int)) true (n.1 == (8:Int)))) (cond (n.1 == (0:Int)) true (cond (n.1 == (2:Int)) true (n.1 == (8:Int)))))) (!(n.2.2.2.2.1 == ([] : List UInt8))) false))) (cond (n.1 != (0:Int)) (cond (!(n.2.2.2.1 == ([] : List UInt8))) true (cond (!(cond (n.1 == (1:Int)) (cond (n.1 == (0:Int)) true (cond (n.1 == (2:Int)) true (n.1 == (8:Int)))) (cond (n.1 == (0:Int)) true (cond (n.1 == (2:Int)) true (n.1 == (8:Int)))))) (!(n.2.2.2.2.1 == ([] : List UInt8))) false)) (cond (!(cond (n.1 == (1:Int)) (cond (n.1 == (0:Int)) true (cond (n.1 == (2:Int)) true (n.1 == (8:Int)))) (cond (n.1 == (0:Int)) true (cond (n.1 == (2:Int)) true (n.1 == (8:Int)))))) (!(n.2.2.2.2.1 == ([] : List UInt8))) false)))) (cond (n.1 != (1:Int)) (cond (n.2.2.1 != (0:Int)) true (cond (n.1 != (0:Int)) (cond (!(n.2.2.2.1 == ([] : List UInt8))) true (cond (!(cond (n.1 == (1:Int)) (cond (n.1 == (0:Int)) true (cond (n.1 == (2:Int)) true (n.1 == (8:Int)))) (cond (n.1 == (0:Int)) true (cond (n.1 == (2:Int)) true (n.1 == (8:Int)))))) (!(n.2.2.2.2.1 == ([] : List UInt8))) false)) (cond (!(cond (n.1 == (1:Int)) (cond (n.1 == (0:Int)) true (cond (n.1 == (2:Int)) true (n.1 == (8:Int)))) (cond (n.1 == (0:Int)) true (cond (n.1 == (2:Int)) true (n.1 == (8:Int)))))) (!(n.2.2.2.2.1 == ([] : List UInt8))) false))) (cond (n.1 != (0:Int)) (cond (!(n.2.2.2.1 == ([] : List UInt8))) true (cond (!(cond (n.1 == (1:Int)) (cond (n.1 == (0:Int)) true (cond (n.1 == (2:Int)) true (n.1 == (8:Int)))) (cond (n.1 == (0:Int)) true (cond (n.1 == (2:Int)) true (n.1 == (8:Int)))))) (!(n.2.2.2.2.1 == ([] : List UInt8))) false)) (cond (!(cond (n.1 == (1:Int)) (cond (n.1 == (0:Int)) true (cond (n.1 == (2:Int)) true (n.1 == (8:Int)))) (cond (n.1 == (0:Int)) true (cond (n.1 == (2:Int)) true (n.1 == (8:Int)))))) (!(n.2.2.2.2.1 == ([] : List UInt8))) false)))) = (sql_formErr n != 0) := by
  rw [formErr_eq]
  unfold nText nFile
  have b0 : (n.1 != (0:Int)) = !(n.1 == (0:Int)) := rfl
  have b1 : (n.1 != (1:Int)) = !(n.1 == (1:Int)) := rfl
  rw [b0, b1]
  generalize (n.1 == (0:Int)) = k0
  generalize (n.1 == (2:Int)) = k2
  generalize (n.1 == (8:Int)) = k8
  generalize (n.1 == (1:Int)) = k1
  generalize (n.1 == (7:Int)) = k7
  generalize (n.2.2.2.2.1 == ([] : List UInt8)) = t
  generalize (n.2.2.2.1 == ([] : List UInt8)) = f
  generalize (n.2.1 != (0:Int)) = a
  generalize (n.2.2.1 != (0:Int)) = b
  cases k0 <;> cases k2 <;> cases k8 <;> cases k1 <;> cases k7 <;> cases t <;> cases f <;> cases a <;> cases b <;> rfl
theorem args_loop (k : Nat) (hk : 1000 ≤ k) (n : Node) (i : Int) (hA : (nArgs n).length ≤ 12) : ∃ r, ref30_nodeErr.l0 k i 0 n = some r ∧ r.1 = !((nArgs n).any fun x => sql_nodeErr_1 x i) ∧ (r.1 = false → r.2.2.1 = ((3:Int), ())) ∧ (r.1 = true → r.2.1 = ((), n, ())) := by
  have hL := find_loop2 (L := fun k j => ref30_nodeErr.l0 k i j n) (p := fun j => sql_nodeErr_1 ((nArgs n).getD j 0) i) (n := (nArgs n).length)
    (d1 := dflt (.pair .unit (.pair api_SqlNode .unit))) (d0 := ((), n, ())) (d2 := (dflt (.pair (.pair (.int .i64) .unit) .unit)).1) (y := fun _ => ((3:Int), ())) (by omega) (fun _ j hj => by
      show ref30_nodeErr.l0 (_ + 1) i _ n = _
      conv => lhs; unfold ref30_nodeErr.l0
      simp only [mergeO_cond]
      show cond (decide ((j : Int) < (List.length (nArgs n) : Int))) (cond (decide (0 ≤ (j : Int)) && decide ((j : Int) < (List.length (nArgs n) : Int))) (cond (sql_nodeErr_1 (List.getD (nArgs n) (Int.toNat (j : Int)) 0) i) _ _) _) _ = _
      rw [idx_in, int_lt, getD_toNat, wrapS (by omega)]
      cases decide (j < (nArgs n).length) <;> rfl) (nArgs n).length k 0 (by omega) (by omega)
  obtain ⟨r, h1, h2, h3, h4⟩ := hL
  have e := anyUp_drop (fun x => sql_nodeErr_1 x i) 0 (nArgs n) (nArgs n).length 0 (by omega)
  rw [List.drop_zero] at e
  exact ⟨r, h1, by rw [h2, e], (fun h => by obtain ⟨j, hj⟩ := h3 h; exact hj), h4⟩
theorem text_loop (k : Nat) (hk : 1000 ≤ k) (n : Node) (hT : (nText n).length ≤ 296) : ∃ r, ref30_nodeErr.l1 k 0 n = some r ∧ r.1 = !(shownB (nText n)) ∧ (r.1 = false → r.2.2.1 = ((8:Int), ())) := by
  have hL := find_loop2 (L := fun k j => ref30_nodeErr.l1 k j n) (p := fun j => decide (byteI ((nText n).getD j 0) < 32) || decide (byteI ((nText n).getD j 0) > 126)) (n := (nText n).length)
    (d1 := dflt (.pair .unit .unit)) (d0 := ((), ())) (d2 := (dflt (.pair (.pair (.int .i64) .unit) .unit)).1) (y := fun _ => ((8:Int), ())) (by omega) (fun _ j hj => by
      show ref30_nodeErr.l1 (_ + 1) _ n = _
      conv => lhs; unfold ref30_nodeErr.l1
      simp only [mergeO_cond]
      show cond (decide ((j : Int) < (List.length (nText n) : Int))) (cond (decide (0 ≤ (j : Int)) && decide ((j : Int) < (List.length (nText n) : Int))) (cond (cond (decide (((List.getD (nText n) (Int.toNat (j : Int)) 0).toNat : Int) < (32:Int))) true (decide (0 ≤ (j : Int)) && decide ((j : Int) < (List.length (nText n) : Int)))) (cond (cond (decide (((List.getD (nText n) (Int.toNat (j : Int)) 0).toNat : Int) < (32:Int))) true (decide (((List.getD (nText n) (Int.toNat (j : Int)) 0).toNat : Int) > (126:Int)))) _ _) _) _) _ = _
      rw [idx_in, int_lt, getD_toNat, wrapS (by omega)]
      show _ = cond _ (cond (decide (((List.getD (nText n) j 0).toNat : Int) < (32:Int)) || decide (((List.getD (nText n) j 0).toNat : Int) > (126:Int))) _ _) _
      cases decide (j < (nText n).length)
      · rfl
      · cases decide (((List.getD (nText n) j 0).toNat : Int) < (32:Int)) <;> rfl) (nText n).length k 0 (by omega) (by omega)
  obtain ⟨r, h1, h2, h3, h4⟩ := hL
  have e := anyUp_drop (fun b => decide (byteI b < 32) || decide (byteI b > 126)) 0 (nText n) (nText n).length 0 (by omega)
  rw [List.drop_zero] at e
  exact ⟨r, h1, by rw [h2, e]; rfl, fun h => by obtain ⟨j, hj⟩ := h3 h; exact hj⟩
theorem refNode_eq (k : Nat) (hk : 1000 ≤ k) (l : List Node) (i : Nat) (hi : i < l.length) (n : Node) (hn : l.getD i (dflt api_SqlNode) = n) (hA : (nArgs n).length ≤ 12) (hT : (nText n).length ≤ 296) : ref30_nodeErr k l (i : Int) = some (nodeE n (i : Int)) := by
  unfold ref30_nodeErr nodeE
  simp only [mergeO_cond]
  rw [idx_in, decide_eq_true hi, cond_true, getD_toNat, hn]
  have hW : ∀ a b c, base_Within a b c = sql_in a b c := fun _ _ _ => rfl
  simp only [hW]
  cases h1 : sql_in n.1 0 16
  · rfl
  · simp only [Bool.not_true, cond_false]
    rw [arity_eq n.1 h1]
    show cond (!(sql_in (List.length (nArgs n) : Int) (sql_arity n.1).1 (sql_arity n.1).2.1)) _ _ = _
    cases h2 : sql_in (List.length (nArgs n) : Int) (sql_arity n.1).1 (sql_arity n.1).2.1
    · rfl
    · simp only [Bool.not_true, cond_false]
      obtain ⟨r, r1, r2, r3, r4⟩ := args_loop k hk n (i : Int) hA
      rw [r1, Option.bind_some]
      cases hr : r.1
      · rw [hr] at r2
        have hany : ((nArgs n).any fun x => sql_nodeErr_1 x (i : Int)) = true := by
          cases h : ((nArgs n).any fun x => sql_nodeErr_1 x (i : Int))
          · rw [h] at r2; cases r2
          · rfl
        rw [cond_false, r3 hr, wrongN, hany]
        rfl
      · rw [hr] at r2
        have hany : ((nArgs n).any fun x => sql_nodeErr_1 x (i : Int)) = false := by
          cases h : ((nArgs n).any fun x => sql_nodeErr_1 x (i : Int))
          · rfl
          · rw [h] at r2; cases r2
        rw [cond_true, r4 hr]
        have hw : wrongN n (i : Int) = cond (n.1 == (1:Int)) (cond (decide (n.2.1 < (0:Int))) true (cond (numeric_CheckNumber (n.2.1, n.2.2.1, ()) != (0:Int)) true (cond (n.1 == (7:Int)) (!(sql_in n.2.1 (0:Int) (5:Int))) false))) (cond (n.1 == (7:Int)) (!(sql_in n.2.1 (0:Int) (5:Int))) false) := by
          rw [wrongN, hany]
          cases (n.1 == (1:Int)) <;> cases decide (n.2.1 < (0:Int)) <;> cases (numeric_CheckNumber (n.2.1, n.2.2.1, ()) != (0:Int)) <;> rfl
        simp only [number_eq]
        rw [← hw, form_big]
        cases wrongN n (i : Int)
        · rw [cond_false, cond_false]
          cases (sql_formErr n != 0)
          · rw [cond_false, cond_false]
            have hn1 := isNamed_eq k hk (nText n) 10 (by omega)
            have hn2 := isNamed_eq k hk (nFile n) 10 (by omega)
            obtain ⟨q, q1, q2, q3⟩ := text_loop k hk n hT
            unfold nText at hn1
            unfold nFile at hn2
            rw [hn1, hn2, q1]
            show _ = some (cond (n.1 == (0:Int)) (cond (!(nameB n.2.2.2.2.1 10)) 7 (cond (!(n.2.2.2.1 == ([] : List UInt8))) (cond (!(nameB n.2.2.2.1 10)) 7 0) 0)) (cond (cond (n.1 == (2:Int)) true (n.1 == (8:Int))) (cond (decide ((List.length n.2.2.2.2.1 : Int) > 256)) 2 (cond (shownB (nText n)) 8 0)) 0))
            have hq : cond q.1 (some (0:Int)) (some q.2.2.1.1) = some (cond (shownB (nText n)) 8 0) := by
              cases hq1 : q.1
              · rw [hq1] at q2
                have : shownB (nText n) = true := by
                  cases h : shownB (nText n)
                  · rw [h] at q2; cases q2
                  · rfl
                rw [q3 hq1, this]; rfl
              · rw [hq1] at q2
                have : shownB (nText n) = false := by
                  cases h : shownB (nText n)
                  · rfl
                  · rw [h] at q2; cases q2
                rw [this]; rfl
            simp only [Option.bind_some, hq]
            have hk : n.1 == (0:Int) → cond (n.1 == (2:Int)) true (n.1 == (8:Int)) = false := fun h => by
              have : n.1 = 0 := by simpa using h
              rw [this]; rfl
            cases h0 : (n.1 == (0:Int))
            · cases cond (n.1 == (2:Int)) true (n.1 == (8:Int))
              · rfl
              · cases decide ((List.length n.2.2.2.2.1 : Int) > 256) <;> rfl
            · rw [hk h0]
              cases nameB n.2.2.2.2.1 10 <;> cases (n.2.2.2.1 == ([] : List UInt8)) <;> cases nameB n.2.2.2.1 10 <;> rfl
          · rfl
        · rfl
end Go.XE
/- Trees. -/
namespace Go.XE
abbrev ErrT (X : Type) : Type := Bool × X × (Int × Unit) × Unit
/-- The first error of the next m. -/
def firstE (e : Nat → Int) : Nat → Nat → Int
  | _, 0 => 0
  | i, m + 1 => cond (e i != 0) (e i) (firstE e (i + 1) m)
theorem err_loop {X : Type} {L : Nat → Int → Option (ErrT X)} {e : Nat → Int} {n K : Nat} {d1 d0 : X} {d2 : (Int × Unit) × Unit}
    (hs : ∀ k i : Nat, K ≤ k → i ≤ n → L (k + 1) (i : Int) = cond (decide (i < n)) (cond (e i != 0) (some (false, d1, (e i, ()), ())) (L k ((i + 1 : Nat) : Int))) (some (true, d0, d2))) :
    ∀ m k i : Nat, n = i + m → K + m < k → L k (i : Int) = cond (firstE e i m != 0) (some (false, d1, (firstE e i m, ()), ())) (some (true, d0, d2))
  | 0, k + 1, i, h, hk => by
    rw [hs k i (by omega) (by omega), decide_eq_false (by omega), cond_false]
    rfl
  | m + 1, k + 1, i, h, hk => by
    rw [hs k i (by omega) (by omega), decide_eq_true (by omega), cond_true, firstE]
    cases hp : (e i != 0)
    · rw [cond_false, cond_false]
      exact err_loop hs m k (i + 1) (by omega) (by omega)
    · rw [cond_true, cond_true, hp, cond_true]
theorem firstE_zero {e : Nat → Int} : ∀ {m i : Nat}, firstE e i m = 0 → ∀ j, i ≤ j → j < i + m → e j = 0
  | 0, _, _, _, _, _ => by omega
  | m + 1, i, h, j, h1, h2 => by
    rw [firstE] at h
    cases hp : (e i != 0)
    · rw [hp, cond_false] at h
      by_cases hj : j = i
      · subst hj; simpa using hp
      · exact firstE_zero h j (by omega) (by omega)
    · rw [hp, cond_true] at h
      rw [h] at hp; cases hp
/-- One operand, the last one first. -/
def stepT (beg : List Int) (nx a : Int) : Option Int := if a = nx then some (beg[a.toNat]?.getD 0 - 1) else none
theorem pairs_rev (zs : List Int) : (treePairs zs).map (·.2) = zs.reverse := by
  unfold treePairs
  rw [List.map_map]
  apply List.ext_getElem?
  intro i
  by_cases h : i < zs.length
  · have h2 : zs.length - 1 - i < zs.length := by omega
    simp [h, h2]
  · simp [h]
theorem fold_pairs (beg : List Int) (nx : Int) (zs : List Int) : (treePairs zs).foldlM (treeStep beg) nx = zs.reverse.foldlM (stepT beg) nx := by
  rw [← pairs_rev, List.foldlM_map]
  rfl
theorem wrapP {x : Int} (h : -100 ≤ x) (h2 : x ≤ 1000000) : IntKind.i64.wrap (x - 1) = x - 1 := by rw [IntKind.wrap_i64] <;> omega
/-- What the reference has gathered of the first nodes, beside what the program has. -/
structure TreeAt (st beg : List Int) (i : Nat) : Prop where
  len : st.length = i
  eq : ∀ a : Nat, a < i → st.getD a 0 = beg[a]?.getD 0
  nn : ∀ a : Nat, a < i → 0 ≤ st.getD a 0 ∧ st.getD a 0 ≤ 40
theorem inner_loop (l : List Node) (hl : l.length ≤ 40) (i : Nat) (hi : i < l.length) (n : Node) (hn : l.getD i (dflt api_SqlNode) = n) (hA : (nArgs n).length ≤ 12) (hr : ∀ z ∈ nArgs n, 0 ≤ z ∧ z < (i : Int)) {st beg : List Int} (hS : TreeAt st beg i) :
    ∀ (m k : Nat) (fr : Int), m ≤ (nArgs n).length → m < k → 0 ≤ fr → fr ≤ 40 →
    ∃ r, ref30_ExprErr.l2 k l st (i : Int) fr ((m : Int) - 1) = some r ∧ (match ((nArgs n).take m).reverse.foldlM (stepT beg) (fr - 1) with
      | some nx => r.1 = true ∧ r.2.1 = ((l, st, (i : Int), nx + 1, ()), ()) ∧ 0 ≤ nx + 1 ∧ nx + 1 ≤ 40
      | none => r.1 = false ∧ r.2.2.1 = ((6 : Int), ()))
  | 0, k + 1, fr, _, _, hf, hf2 => by
    unfold ref30_ExprErr.l2
    simp only [mergeO_cond]
    rw [show decide (((0 : Nat) : Int) - 1 ≥ 0) = false from rfl, cond_false]
    refine ⟨_, rfl, ?_⟩
    rw [List.take_zero]
    show true = true ∧ _ = _ ∧ _
    exact ⟨rfl, by rw [Int.sub_add_cancel], by omega, by omega⟩
  | m + 1, k + 1, fr, hm, hk, hf, hf2 => by
    unfold ref30_ExprErr.l2
    simp only [mergeO_cond]
    have e1 : (((m + 1 : Nat) : Int) - 1) = (m : Int) := by omega
    rw [e1, show decide ((m : Int) ≥ 0) = true from decide_eq_true (Int.natCast_nonneg m), cond_true, idx_in, decide_eq_true hi, cond_true, getD_toNat, hn]
    show ∃ r, cond (decide (0 ≤ (m : Int)) && decide ((m : Int) < (List.length (nArgs n) : Int))) (cond (List.getD (nArgs n) (Int.toNat (m : Int)) 0 != IntKind.i64.wrap (fr - 1)) _ _) _ = some r ∧ _
    rw [idx_in, decide_eq_true (Nat.lt_of_succ_le hm), cond_true, getD_toNat, wrapP (by omega) (by omega)]
    obtain ⟨z, hz⟩ : ∃ z, (nArgs n)[m]? = some z := ⟨_, List.getElem?_eq_getElem hm⟩
    have hg : List.getD (nArgs n) m 0 = z := by rw [List.getD_eq_getElem?_getD, hz]; rfl
    have ht : ((nArgs n).take (m + 1)).reverse = z :: ((nArgs n).take m).reverse := by
      rw [List.take_add_one, hz, Option.toList_some, List.reverse_append]; rfl
    have hzr := hr z (List.mem_of_getElem? hz)
    rw [hg, ht, List.foldlM_cons]
    by_cases he : z = fr - 1
    · have hb : (z != fr - 1) = false := by simp [he]
      rw [hb, cond_false]
      obtain ⟨a, ha⟩ : ∃ a : Nat, fr - 1 = (a : Int) := ⟨(fr - 1).toNat, by omega⟩
      have hai : a < i := by omega
      rw [ha, hS.len, idx_in, decide_eq_true hai, cond_true, getD_toNat, wrapP (by omega) (by omega)]
      have hnn := hS.nn a hai
      have ih := inner_loop l hl i hi n hn hA hr hS m k (st.getD a 0) (by omega) (by omega) hnn.1 hnn.2
      have hs : stepT beg (a : Int) z = some (st.getD a 0 - 1) := by
        rw [stepT, if_pos (by rw [he, ha]), hS.eq a hai, he, ha, Int.toNat_natCast]
      rw [hs]
      exact ih
    · have hb : (z != fr - 1) = true := by simpa using he
      rw [hb, cond_true]
      refine ⟨_, rfl, ?_⟩
      have hs : stepT beg (fr - 1) z = none := if_neg he
      rw [hs]
      exact ⟨rfl, rfl⟩
end Go.XE
/- SqlExprs: the plain law. -/
namespace Go.XE
theorem upto_len {N : Nat} {es : List (List Int)} : ∀ {k : Nat} {beg : List Int}, treeUpto N es k = some beg → beg.length = N
  | 0, beg, h => by
    rw [treeUpto, Option.some.injEq] at h
    subst h; simp
  | k + 1, beg, h => by
    rw [treeUpto] at h
    obtain ⟨b, h1, h2⟩ := Option.bind_eq_some_iff.1 h
    obtain ⟨nx, _, rfl⟩ := Option.map_eq_some_iff.1 h2
    rw [List.length_set]; exact upto_len h1
theorem upto_none {N : Nat} {es : List (List Int)} {k : Nat} (h : treeUpto N es k = none) : ∀ d, treeUpto N es (k + d) = none
  | 0 => h
  | d + 1 => by rw [← Nat.add_assoc, treeUpto, upto_none h d]; rfl
theorem TreeAt.step {st beg : List Int} {i : Nat} {x : Int} (h : TreeAt st beg i) (hb : i < beg.length) (h0 : 0 ≤ x) (h1 : x ≤ 40) : TreeAt (st ++ [x]) (beg.set i x) (i + 1) := by
  have hg : ∀ a : Nat, a < i → (st ++ [x]).getD a 0 = st.getD a 0 := fun a ha => by
    rw [List.getD_eq_getElem?_getD, List.getElem?_append_left (by rw [h.len]; exact ha), List.getD_eq_getElem?_getD]
  have hi : (st ++ [x]).getD i 0 = x := by
    rw [List.getD_eq_getElem?_getD, List.getElem?_append_right (by rw [h.len]; exact Nat.le_refl _), h.len, Nat.sub_self]; rfl
  refine ⟨by rw [List.length_append, h.len]; rfl, fun a ha => ?_, fun a ha => ?_⟩
  · by_cases e : a = i
    · subst e
      rw [hi, List.getElem?_set_self hb]; rfl
    · rw [hg a (by omega), List.getElem?_set_ne (Ne.symm e)]
      exact h.eq a (by omega)
  · by_cases e : a = i
    · subst e; rw [hi]; exact ⟨h0, h1⟩
    · rw [hg a (by omega)]; exact h.nn a (by omega)
theorem outer_loop (l : List Node) (hl : l.length ≤ 40) (hA : ∀ n ∈ l, (nArgs n).length ≤ 12) (hr : ∀ (i : Nat) (n : Node), l[i]? = some n → ∀ z ∈ nArgs n, 0 ≤ z ∧ z < (i : Int)) :
    ∀ (m k i : Nat) (st beg : List Int), l.length = i + m → m + 100 < k → treeUpto l.length (l.map nArgs) i = some beg → TreeAt st beg i →
    ∃ r, ref30_ExprErr.l1 k l st (i : Int) = some r ∧ (match treeUpto l.length (l.map nArgs) l.length with
      | some b => r.1 = true ∧ ∃ st', r.2.1 = ((l, st', ()), ()) ∧ TreeAt st' b l.length
      | none => r.1 = false ∧ r.2.2.1 = ((6 : Int), ()))
  | 0, k + 1, i, st, beg, h, _, hu, hS => by
    obtain rfl : i = l.length := by omega
    unfold ref30_ExprErr.l1
    simp only [mergeO_cond]
    rw [int_lt, decide_eq_false (Nat.lt_irrefl _), cond_false, hu]
    exact ⟨_, rfl, rfl, st, rfl, hS⟩
  | m + 1, k + 1, i, st, beg, h, hk, hu, hS => by
    have hi : i < l.length := by omega
    obtain ⟨n, hn⟩ : ∃ n, l[i]? = some n := ⟨_, List.getElem?_eq_getElem hi⟩
    have hg : l.getD i (dflt api_SqlNode) = n := by rw [List.getD_eq_getElem?_getD, hn]; rfl
    have hAn := hA n (List.mem_of_getElem? hn)
    obtain ⟨r, r1, r2⟩ := inner_loop l hl i hi n hg hAn (hr i n hn) hS (nArgs n).length k (i : Int) (Nat.le_refl _) (by omega) (Int.natCast_nonneg i) (by omega)
    rw [List.take_length] at r2
    unfold ref30_ExprErr.l1
    simp only [mergeO_cond]
    rw [int_lt, decide_eq_true hi, cond_true, Bool.and_true, decide_eq_true (Int.natCast_nonneg i), cond_true, getD_toNat, hg]
    have hw : IntKind.i64.wrap ((List.length (nArgs n) : Int) - 1) = ((nArgs n).length : Int) - 1 := wrapP (by omega) (by omega)
    show ∃ r', (ref30_ExprErr.l2 k l st (i : Int) (i : Int) (IntKind.i64.wrap ((List.length (nArgs n) : Int) - 1))).bind _ = some r' ∧ _
    rw [hw, r1, Option.bind_some]
    have hup : treeUpto l.length (l.map nArgs) (i + 1) = ((nArgs n).reverse.foldlM (stepT beg) ((i : Int) - 1)).map fun nx => beg.set i (nx + 1) := by
      rw [treeUpto, hu, Option.bind_some, List.getElem?_map, hn, Option.map_some, Option.getD_some, fold_pairs]
    cases hf : (nArgs n).reverse.foldlM (stepT beg) ((i : Int) - 1) with
    | none =>
      rw [hf] at r2 hup
      have hnone : treeUpto l.length (l.map nArgs) l.length = none := by
        have := upto_none hup m
        rwa [show i + 1 + m = l.length by omega] at this
      rw [r2.1, cond_false, hnone, r2.2]
      exact ⟨_, rfl, rfl, rfl⟩
    | some nx =>
      rw [hf] at r2 hup
      obtain ⟨q1, q2, q3, q4⟩ := r2
      rw [q1, cond_true, q2]
      have hS2 := hS.step (by rw [upto_len hu]; exact hi) q3 q4
      show ∃ r', cond (Nat.ble (List.length st + 1) lim) (ref30_ExprErr.l1 k l (st ++ [nx + 1]) (IntKind.i64.wrap ((i : Int) + 1))) none = some r' ∧ _
      rw [hS.len, ble_lim (by omega), cond_true, wrapS (by omega)]
      exact outer_loop l hl hA hr m k (i + 1) _ _ (by omega) (by omega) hup hS2
/-- The first error of the nodes; the error of an expression. -/
noncomputable def nodesE (l : List Node) : Int := firstE (fun i => nodeE (l.getD i (dflt api_SqlNode)) (i : Int)) 0 l.length
noncomputable def exprE (l : List Node) : Int := cond (decide (l.length = 0)) 1 (cond (decide (40 < l.length)) 2 (cond (nodesE l != 0) (nodesE l) (cond (treeB (l.map nArgs)) 0 6)))
theorem nodes_args {l : List Node} (hl : l.length ≤ 40) (h : nodesE l = 0) (i : Nat) (n : Node) (hn : l[i]? = some n) : ∀ z ∈ nArgs n, 0 ≤ z ∧ z < (i : Int) := by
  have hi : i < l.length := (List.getElem?_eq_some_iff.1 hn).1
  have h0 := firstE_zero h i (Nat.zero_le _) (by omega)
  rw [List.getD_eq_getElem?_getD, hn, Option.getD_some] at h0
  intro z hz
  have hany : ((nArgs n).any fun x => sql_nodeErr_1 x (i : Int)) = false := by
    cases ha : ((nArgs n).any fun x => sql_nodeErr_1 x (i : Int))
    · rfl
    · exfalso
      have hw : wrongN n (i : Int) = true := by rw [wrongN, ha]; rfl
      rw [nodeE, hw] at h0
      cases h1 : !(sql_in n.1 0 16)
      · cases h2 : !(sql_in (List.length (nArgs n) : Int) (sql_arity n.1).1 (sql_arity n.1).2.1)
        · rw [h1, h2] at h0; cases h0
        · rw [h1, h2] at h0; cases h0
      · rw [h1] at h0; cases h0
  have hz' := List.any_eq_false.1 hany z hz
  unfold sql_nodeErr_1 sql_in at hz'
  rw [wrapP (by omega) (by omega)] at hz'
  by_cases a : (0:Int) ≤ z
  · rw [decide_eq_true a, cond_true] at hz'
    have : z ≤ (i : Int) - 1 := by simpa using hz'
    omega
  · rw [decide_eq_false a] at hz'
    exact absurd rfl hz'
theorem isTree_eq {l : List Node} (h0 : 0 < l.length) (hl : l.length ≤ 40) (hA : ∀ n ∈ l, (nArgs n).length ≤ 12) (h : nodesE l = 0) : sql_isTree l = some (treeB (l.map nArgs)) := by
  unfold sql_isTree
  have h1 : Nat.blt 0 (List.length l) = true := Nat.ble_eq_true_of_le h0
  have h2 : Nat.ble (List.length l) 1000 = true := Nat.ble_eq_true_of_le (by omega)
  have h3 : (l.all fun n => Nat.ble (List.length n.2.2.2.2.2.1) 1000 && n.2.2.2.2.2.1.all fun z => decide (0 ≤ z) && decide (z < (List.length l : Int))) = true := by
    rw [List.all_eq_true]
    intro n hn
    obtain ⟨i, hi⟩ := List.getElem?_of_mem hn
    have hr := nodes_args hl h i n hi
    have hlt := (List.getElem?_eq_some_iff.1 hi).1
    have ha := hA n hn
    unfold nArgs at hr ha
    rw [Bool.and_eq_true]
    refine ⟨Nat.ble_eq_true_of_le (by omega), ?_⟩
    rw [List.all_eq_true]
    intro z hz
    have := hr z hz
    rw [Bool.and_eq_true, decide_eq_true_eq, decide_eq_true_eq]
    exact ⟨this.1, Int.lt_trans this.2 (Int.ofNat_lt.2 hlt)⟩
  rw [h1, h2, h3]
  rfl
theorem check_eq (k : Nat) (hk : 2000 ≤ k) (l : List Node) (hA : ∀ n ∈ l, (nArgs n).length ≤ 12) (hT : ∀ n ∈ l, (nText n).length ≤ 296) : sql_CheckExpr k l = some (exprE l) := by
  unfold sql_CheckExpr exprE
  simp only [mergeO_cond]
  have e0 : ((List.length l : Int) == 0) = decide (l.length = 0) := by
    by_cases h : l.length = 0
    · rw [decide_eq_true h, beq_iff_eq, h]; rfl
    · rw [decide_eq_false h, beq_eq_false_iff_ne]
      intro e
      exact h (Int.ofNat.inj e)
  have e1 : decide ((List.length l : Int) > 40) = decide (40 < l.length) := decide_eq_decide.2 (by omega)
  rw [e0, e1]
  by_cases h0 : l.length = 0
  · rw [decide_eq_true h0]; rfl
  · by_cases h40 : 40 < l.length
    · rw [decide_eq_false h0, decide_eq_true h40]; rfl
    · rw [decide_eq_false h0, decide_eq_false h40]
      simp only [cond_false]
      have hL := err_loop (L := fun k i => sql_CheckExpr.l0 k l l (l.length : Int) i) (e := fun i => nodeE (l.getD i (dflt api_SqlNode)) (i : Int)) (n := l.length) (K := 1000)
        (d1 := dflt (.pair (.pair (.sl api_SqlNode) .unit) .unit)) (d0 := ((l, ()), ())) (d2 := dflt (.pair (.pair (.int .i64) .unit) .unit)) (fun k i hk' hi => by
          show sql_CheckExpr.l0 (k + 1) l l _ _ = _
          conv => lhs; unfold sql_CheckExpr.l0
          simp only [mergeO_cond]
          rw [idx_in, int_lt, getD_toNat, wrapS (by omega)]
          by_cases hlt : i < l.length
          · have hm : l.getD i (dflt api_SqlNode) ∈ l := by
              rw [List.getD_eq_getElem?_getD, List.getElem?_eq_getElem hlt, Option.getD_some]; exact List.getElem_mem hlt
            rw [decide_eq_true hlt, cond_true, cond_true, cond_true, sqlNode_eq k hk' _ _ (hA _ hm) (hT _ hm), Option.bind_some]
          · rw [decide_eq_false hlt]; rfl) l.length k 0 (by omega) (by omega)
      have hL' : sql_CheckExpr.l0 k l l (l.length : Int) 0 = cond (nodesE l != 0) (some (false, dflt (.pair (.pair (.sl api_SqlNode) .unit) .unit), (nodesE l, ()), ())) (some (true, ((l, ()), ()), dflt (.pair (.pair (.int .i64) .unit) .unit))) := hL
      rw [hL']
      cases hn : (nodesE l != 0)
      · rw [cond_false, cond_false, Option.bind_some, cond_true]
        have hz : nodesE l = 0 := by simpa using hn
        show (sql_isTree l).bind _ = _
        rw [isTree_eq (by omega) (by omega) hA hz, Option.bind_some]
        cases treeB (l.map nArgs) <;> rfl
      · rfl
theorem exprErr_eq (k : Nat) (hk : 2000 ≤ k) (l : List Node) (hA : ∀ n ∈ l, (nArgs n).length ≤ 12) (hT : ∀ n ∈ l, (nText n).length ≤ 296) : ref30_ExprErr k l = some (exprE l) := by
  unfold ref30_ExprErr exprE
  simp only [mergeO_cond]
  have e0 : ((List.length l : Int) == 0) = decide (l.length = 0) := by
    by_cases h : l.length = 0
    · rw [decide_eq_true h, beq_iff_eq, h]; rfl
    · rw [decide_eq_false h, beq_eq_false_iff_ne]
      intro e
      exact h (Int.ofNat.inj e)
  have e1 : decide ((List.length l : Int) > 40) = decide (40 < l.length) := decide_eq_decide.2 (by omega)
  rw [e0, e1]
  by_cases h0 : l.length = 0
  · rw [decide_eq_true h0]; rfl
  · by_cases h40 : 40 < l.length
    · rw [decide_eq_false h0, decide_eq_true h40]; rfl
    · rw [decide_eq_false h0, decide_eq_false h40]
      simp only [cond_false]
      have hL := err_loop (L := fun k i => ref30_ExprErr.l0 k l i) (e := fun i => nodeE (l.getD i (dflt api_SqlNode)) (i : Int)) (n := l.length) (K := 1000)
        (d1 := dflt (.pair (.pair (.sl api_SqlNode) .unit) .unit)) (d0 := ((l, ()), ())) (d2 := dflt (.pair (.pair (.int .i64) .unit) .unit)) (fun k i hk' hi => by
          show ref30_ExprErr.l0 (k + 1) l _ = _
          conv => lhs; unfold ref30_ExprErr.l0
          simp only [mergeO_cond]
          rw [int_lt, wrapS (by omega)]
          by_cases hlt : i < l.length
          · have hm : l.getD i (dflt api_SqlNode) ∈ l := by
              rw [List.getD_eq_getElem?_getD, List.getElem?_eq_getElem hlt, Option.getD_some]; exact List.getElem_mem hlt
            rw [decide_eq_true hlt, cond_true, cond_true, refNode_eq k hk' l i hlt _ rfl (hA _ hm) (hT _ hm), Option.bind_some]
          · rw [decide_eq_false hlt]; rfl) l.length k 0 (by omega) (by omega)
      have hL' : ref30_ExprErr.l0 k l 0 = cond (nodesE l != 0) (some (false, dflt (.pair (.pair (.sl api_SqlNode) .unit) .unit), (nodesE l, ()), ())) (some (true, ((l, ()), ()), dflt (.pair (.pair (.int .i64) .unit) .unit))) := hL
      rw [hL']
      cases hn : (nodesE l != 0)
      · rw [cond_false, cond_false, Option.bind_some, cond_true]
        have hz : nodesE l = 0 := by simpa using hn
        obtain ⟨r, r1, r2⟩ := outer_loop l (by omega) hA (nodes_args (by omega) hz) l.length k 0 [] (List.replicate l.length 0) (by omega) (by omega) rfl ⟨rfl, fun a ha => by omega, fun a ha => by omega⟩
        show (ref30_ExprErr.l1 k l [] 0).bind _ = _
        have r1' : ref30_ExprErr.l1 k l [] 0 = some r := r1
        rw [r1', Option.bind_some, treeB, List.length_map]
        cases hu : treeUpto l.length (l.map nArgs) l.length with
        | none =>
          rw [hu] at r2
          rw [r2.1, cond_false, r2.2]
          rfl
        | some b =>
          rw [hu] at r2
          obtain ⟨q1, st, q2, q3⟩ := r2
          rw [q1, cond_true, q2]
          show cond (decide (0 ≤ IntKind.i64.wrap ((List.length l : Int) - 1)) && decide (IntKind.i64.wrap ((List.length l : Int) - 1) < (List.length st : Int))) (some (IntKind.i64.wrap ((6:Int) * (base_Count ((List.getD st (Int.toNat (IntKind.i64.wrap ((List.length l : Int) - 1))) (0:Int)) != (0:Int)))))) none = _
          rw [wrapP (by omega) (by omega), q3.len]
          obtain ⟨p, hp⟩ : ∃ p : Nat, (l.length : Int) - 1 = (p : Int) := ⟨l.length - 1, by omega⟩
          have hpl : p < l.length := by omega
          rw [hp, idx_in, decide_eq_true hpl, cond_true, getD_toNat, q3.eq p hpl, show l.length - 1 = p by omega]
          unfold base_Count
          show _ = some (cond (decide (b[p]?.getD 0 = 0)) 0 6)
          cases hb : (b[p]?.getD 0 != (0:Int))
          · have : b[p]?.getD 0 = 0 := by simpa using hb
            rw [this]; rfl
          · have : ¬ b[p]?.getD 0 = 0 := by simpa using hb
            rw [decide_eq_false this]; rfl
      · rfl
end Go.XE
/- SqlExprs: the law answers true at every expression. -/
namespace Go.XE
theorem law_exprs (l : List Node) : law30_SqlExprs 2000 l = some true := by
  unfold law30_SqlExprs law30_awake
  rw [few_iff 2000 (by omega)]
  simp only [Option.bind_some, Bool.not_true, mergeO_cond, cond_false]
  cases hb : (decide (l.length ≤ 41) && l.all smallN) with
  | false => rfl
  | true =>
    rw [Bool.and_eq_true, List.all_eq_true] at hb
    obtain ⟨h1, h2⟩ := hb
    have h1 : l.length ≤ 41 := by simpa using h1
    have hA : ∀ n ∈ l, (nArgs n).length ≤ 12 := fun n hn => by
      have := h2 n hn
      simp only [smallN, Bool.and_eq_true, decide_eq_true_eq] at this
      omega
    have hT : ∀ n ∈ l, (nText n).length ≤ 296 := fun n hn => by
      have := h2 n hn
      simp only [smallN, Bool.and_eq_true, decide_eq_true_eq] at this
      omega
    simp only [Bool.not_true, cond_false, own_same 2000 (by omega) l h1 hA, Option.bind_some, check_eq 2000 (by omega) l hA hT, exprErr_eq 2000 (by omega) l hA hT]
    simp
end Go.XE
/- From the contract of a function to a call of it in a world as it stands: arguments that are plain data. -/
namespace Go.XE
section
variable {P : Program} {G : Nat → Option GV} {f : FuncId} {sp : Spec}
/-- A world in which nothing is ours. -/
def worldMem (w : World) (C : Cells) : Mem := { w := w, C := C, K := fun b _ => b < w.heap.size, L := fun _ => .no, ad := fun _ => ⟨0, 0, 0, .unit⟩, U := fun _ => False }
/-- What was there stays. -/
structure Kept (w w' : World) : Prop where
  size : w.heap.size ≤ w'.heap.size
  old : ∀ k, k < w.heap.size → w'.heap[k]? = w.heap[k]?
  out : w'.os = w.os ∧ w'.output = w.output
theorem Fr.kept {w : World} {C : Cells} {m' : Mem} (h : Fr (worldMem w C) m') : Kept w m'.w :=
  ⟨h.to.pre.size, fun _ hk => h.to.pre.heap hk fun _ => .inr hk, h.to.pre.out⟩
theorem sound_call (hS : Sound P G f sp) (hobj : sp.head.objs = []) {w : World} {C : Cells} {x : sp.head.H} {y : den (outTy sp.R sp.head.objs)} {args : Array Value} (hn : args.size = sp.head.slots.length) (hC : ∀ b j, C b j → b < w.heap.size)
    (hG : ∀ g d, G g = some d → GAt (worldMem w C) d g)
    (hent : ∀ n V ts, (n, V, ts) ∈ entries sp.head.slots x.1 → RV P (worldMem w C) V ((padA sp.head.ntmps args).getD n undef) ∧ ts = []) (hF : sp.F x = some y) :
    Calls P f args w fun e w' => ∃ v m', e = .returned v ∧ m'.w = w' ∧ Kept w w' ∧ (∀ b j, m'.C b j → b < w'.heap.size) ∧ (∀ b j, C b j → m'.C b j) ∧ ResOk m' sp.multi sp.R (splitO sp.R sp.head.objs y).1 v sp.tips := by
  have hr : Rel P G 0 (worldMem w C) (sp.head.st x) (padA sp.head.ntmps args) := by
    refine rel_st hC (fun b j hb => hb) (fun b hb => absurd rfl hb) hG ?_ (fun n V ts hm => ?_) fun id o ts hm => ?_
    · simp only [padA, Array.size_append, Array.size_replicate]; omega
    · obtain ⟨h1, rfl⟩ := hent n V ts hm
      exact ⟨h1, fun d _ off ho => by cases ho⟩
    · exfalso
      revert hm
      generalize x.2 = z
      revert z
      rw [hobj]
      intro z hm
      cases hm
  refine (hS.2.2 (worldMem w C) x y args hn hr (fun id h => h.elim) hF).mono fun e w' h => ?_
  obtain ⟨v, rfl, m', rfl, h1, h2, _, h3, _⟩ := h
  exact ⟨v, m', rfl, rfl, h1.kept, h2, h1.to.C, h3⟩
end
end Go.XE
/- Functions whose contract was proved by other means. -/
namespace Go.XE
section
variable {P : Program} {G : Nat → Option GV} {f : FuncId}
theorem Kept.pre {w w' : World} (h : Kept w w') (S : Cells) : Pre S w w' := {
  size := h.size
  cells b c _ _ hb := ⟨c, (h.old b (Array.getElem?_eq_some_iff.1 hb).1).trans hb, rfl, fun _ _ => rfl⟩
  other b _ hb _ := (h.old b (Array.getElem?_eq_some_iff.1 hb).1).trans hb
  out := h.out }
/-- One argument, plain data; what the call hands back lies in old cold cells or in new blocks. -/
theorem leaf1 {A R : Ty} {nt : Nat} {F : (⟨[(0, .dat A [])], [], nt + 1, 0⟩ : Skel).H → Option (den R)} (hE : Enter P f)
    (hcall : ∀ (w : World) (C : Cells) (x : den A) (v : Value) (y : den R), (∀ g vs, G g = some (.c vs) → cellsAt w g 0 vs) → RepV w C A x v → F ((x, ()), ()) = some y →
      Calls P f #[v] w fun e w' => ∃ u C', e = .returned u ∧ Kept w w' ∧ (∀ b j, C b j → C' b j) ∧ (∀ b j, C' b j → b < w.heap.size → C b j) ∧ (∀ b j, C' b j → C b j ∨ b < w'.heap.size) ∧ RepV w' C' R y u)
    (hok : (⟨⟨[(0, .dat A [])], [], nt + 1, 0⟩, R, false, false, [], F⟩ : Spec).okB = true) : Sound P G f ⟨⟨[(0, .dat A [])], [], nt + 1, 0⟩, R, false, false, [], F⟩ := by
  refine ⟨hE, hok, fun m x y args hn r hU hy => ?_⟩
  obtain ⟨⟨x, ⟨⟩⟩, ⟨⟩⟩ := x
  obtain ⟨v, rfl⟩ : ∃ v, args = #[v] := by
    obtain ⟨l⟩ := args
    match l, hn with
    | [v], _ => exact ⟨v, rfl⟩
  have hs := r.slots 0
  have hv : RepV m.w m.C A x v := by
    have : (padA (nt + 1) #[v]).getD 0 undef = v := by
      rw [padA, Array.getD_eq_getD_getElem?, Array.getElem?_append_left (by simp)]; rfl
    have hs : RV P m (.dat ⟨A, x⟩ none) ((padA (nt + 1) #[v]).getD 0 undef) := hs
    rw [this] at hs
    exact hs
  refine (hcall m.w m.C x v y (fun g vs hg => (r.glob g _ hg).1) hv hy).mono fun e w' h => ?_
  obtain ⟨u, C', rfl, hk, h1, h2, h3, h4⟩ := h
  refine ⟨u, rfl, { m with w := w', C := C' }, rfl, ⟨⟨hk.pre _, h1, rfl, fun _ _ => rfl, fun _ h => h⟩, fun b j hc hb => .inl (h2 b j hc hb), fun _ _ h => h⟩, fun b j hc => ?_, fun b hb => ?_, ⟨fun _ => h4, (fun e => by cases e), (fun off ho => by cases ho)⟩, trivial⟩
  · rcases h3 b j hc with h | h
    · exact Nat.lt_of_lt_of_le (r.bC b j h) hk.size
    · exact h
  · exact Nat.lt_of_lt_of_le (r.bL b hb) hk.size
end
end Go.XE
