/- Part 24 of the proof. -/
import Derived.Test.YtnmkgbomiillgaaGreatDoorP23
import Derived.Test.YtnmkgbomiillgaaGreatDoorRows
import Derived.LaidLaws
import Derived.ChangeArms
import Derived.DataReads
import Derived.Lib.LaidTab
import Derived.MakeChecks
import Derived.Test.YtnmkgbomiillgaaGreatDoorP13
import Derived.Test.YtnmkgbomiillgaaGreatDoorP14
import Derived.Test.YtnmkgbomiillgaaGreatDoorP20
/- awake, by its run. -/
namespace Go.XR
open Proofs
theorem m102_good {B : World} {ρg : Pm} (hG : Good B gl0 5 ρg) : MemoGood PT B m102 := memo_of hG (fun _ _ => fok tree_ok) m102_run
theorem orc_ok {B : World} {ρg : Pm} (hG : Good B gl0 5 ρg) {l : List Ck} (h : ∀ c ∈ l, CkGood PT B gl0 c) : OrcOk PT B (orE (treeC 20) (orE (memoC [m102]) (ckC gl0 l))) :=
  tree_ok.or ((memoC_ok fun m hm => by rw [List.mem_singleton.1 hm]; exact m102_good hG).or (ckC_ok h))
theorem cons_ok {B : World} {c : Ck} {l : List Ck} (h : CkGood PT B gl0 c) (k : ∀ c ∈ l, CkGood PT B gl0 c) : ∀ x ∈ c :: l, CkGood PT B gl0 x := fun x hx => by
  rcases List.mem_cons.1 hx with rfl | hx
  · exact h
  · exact k x hx
theorem cks_good {B : World} {ρg : Pm} (hG : Good B gl0 5 ρg) : ∀ c ∈ [ck4, ck3, ck2, ck1, ck0], CkGood PT B gl0 c := by
  have h0 : ∀ c ∈ ([] : List Ck), CkGood PT B gl0 c := fun c hc => by cases hc
  have h1 := cons_ok (ck_of (fok (orc_ok hG h0)) ck0_run) h0
  have h2 := cons_ok (ck_of (fok (orc_ok hG h1)) ck1_run) h1
  have h3 := cons_ok (ck_of (fok (orc_ok hG h2)) ck2_run) h2
  have h4 := cons_ok (ck_of (fok (orc_ok hG h3)) ck3_run) h3
  exact cons_ok (ck_of (fok (orc_ok hG h4)) ck4_run) h4
theorem isTrueR_eq {r : Res} (h : isTrueR r = true) : ∃ s, r = some (.at (.bool true), s) := by
  unfold isTrueR at h
  split at h
  · exact ⟨_, rfl⟩
  · cases h
theorem awake_calls {B : World} {ρg : Pm} (hG : Good B gl0 5 ρg) : Calls PT 6 #[] B fun e w' => e = .returned (.bool true) ∧ ExtW B w' := by
  obtain ⟨s', he⟩ := isTrueR_eq awake_run
  cases calls_go (fok (orc_ok hG (cks_good hG))) he hG.rel (us := []) rfl with
  | enter h1 h2 =>
    refine h2.mono fun e w' h => ?_
    obtain ⟨u, ρ', k1, k2, k3, _⟩ := h
    cases k2
    exact ⟨k1, k3.ext_w⟩
  | value h1 h2 h3 =>
    have := enters_of Tryz.func6 (by kernel_rfl) rfl #[] B
    rw [this] at h1
    cases h1
end Go.XR
/- The package-level variables of the row, as the run of awake wants them. -/
namespace Go.XR
open Proofs
theorem laid_mem {P : Program} {w : World} : ∀ {l : List (String × DataW Unit)} {ps : List MemPlace}, DataW.LaidVars P w l ps → ∀ n d, (n, d) ∈ l →
    ∃ g t cs fuel p, P.globalNamed n = some g ∧ (P.globals[g]?).map (·.type) = some t ∧ w.var? P n = some cs ∧ DataW.trod (fun _ => ()) P w 0 (fun _ => true) false fuel t cs.toList = some (d, p)
  | [], _, _, n, d, hm => by cases hm
  | (n', d') :: r, ps, h, n, d, hm => by
    obtain ⟨g, t, cs, fuel, p, q, h1, h2, h3, h4, h5, _⟩ := h
    rcases List.mem_cons.1 hm with e | hm
    · cases e; exact ⟨g, t, cs, fuel, p, h1, h2, h3, h4⟩
    · exact laid_mem h5 n d hm
theorem one_of_toList {α : Type} {a : Array α} {v : α} (h : a.toList = [v]) : a = #[v] := by cases a; simp_all
theorem strs_of {H : Type} {enc : TypeId × Value → H} {P : Program} {w : World} {fuel : Nat} {t e : TypeId} {cs : List Value} {bs : List (List UInt8)} {p : List MemPlace} (ht : P.underlying t = some (.slice e)) (he : P.underlying e = some .string) (hce : P.cellsOf e = 1) (hne : 0 < bs.length)
    (hd : DataW.trod enc P w 0 (fun _ => true) false fuel t cs = some (.slice (bs.map fun b => .lit (.string b)) [], p)) :
    ∃ b off cap, cs = [.slice (some ⟨b, off, none⟩) bs.length cap] ∧ bs.length ≤ cap ∧ b < w.heap.size ∧ ∀ (i : Nat) (x : List UInt8), bs[i]? = some x → w.cell? ⟨b, off + i, none⟩ = some (.string (sv x)) := by
  rcases DataW.trod_slice ht hd with ⟨_, hx⟩ | ⟨a, len, cap, elems, rest, n, _, rfl, hx, _, hlc, _, hl, hel, _, _⟩
  · cases hx
  simp only [Prod.mk.injEq, DataW.slice.injEq] at hx
  obtain ⟨⟨hx1, hx2⟩, _⟩ := hx
  have hlen : len = bs.length := by
    have := congrArg List.length hx1
    simp at this
    omega
  subst hlen
  have key : ∀ (i : Nat) (x : List UInt8), bs[i]? = some x → w.cell? (a.add i) = some (.string (sv x)) := fun i x hi => by
    have hlt := (List.getElem?_eq_some_iff.1 hi).1
    have h1 := hel i hlt
    rw [hce, Nat.mul_one] at h1
    have h2 : (elems.map (·.1))[i]? = some (.lit (.string x)) := by rw [← hx1]; simp [hi]
    simp only [List.getElem?_map, Option.map_eq_some_iff] at h2
    obtain ⟨y, hy, hy2⟩ := h2
    rw [hy, Option.bind_eq_some_iff] at h1
    obtain ⟨l, h3, h4⟩ := h1
    obtain ⟨_, h5, h6⟩ := World.cells?_some h3
    obtain ⟨s, rfl, rfl, _⟩ := DataW.trod_string he h4
    have h7 := h6 0 (by omega)
    simp only [DataW.lit.injEq, Lit.string.injEq] at hy2
    have h8 : (a.add i).add 0 = a.add i := by simp [Addr.add]
    rw [h8] at h7
    rw [h7, ← hy2]
    rfl
  have hspot : a.spot = none := by
    have := key 0 bs[0] (by simp [hne])
    rw [show a.add 0 = a by simp [Addr.add]] at this
    cases hs : a.spot with
    | none => rfl
    | some z =>
      exfalso
      simp only [World.cell?] at this
      split at this
      · rw [if_pos (by rw [hs]; rfl)] at this
        cases this
      · cases this
  obtain ⟨b, off, sp⟩ := a
  simp only at hspot
  subst hspot
  refine ⟨b, off, cap, rfl, hlc, ?_, fun i x hi => by have := key i x hi; rwa [XE.add_mk] at this⟩
  have := key 0 bs[0] (by simp [hne])
  simp only [World.cell?] at this
  split at this
  · rename_i h; exact (Array.getElem?_eq_some_iff.1 h).1
  · cases this
def symB : List (List UInt8) := [[60, 62], [60, 61], [62, 61], [40], [41], [44], [46], [42], [43], [45], [61], [60], [62]]
def cmpB : List (List UInt8) := [[61], [60, 62], [60], [60, 61], [62], [62, 61]]
def rhoOf (b0 o0 c0 b2 o2 c2 : Nat) : Pm := fun k => match k with
  | 0 => some (b0, o0)
  | 1 => some (b0, c0)
  | 2 => some (b2, o2)
  | 3 => some (b2, c2)
  | 4 => some (2, 0)
  | _ => none
/-- The package-level variables, as they lie. -/
structure Facts (W : World) (s0 o0 k0 s2 o2 k2 : Nat) : Prop where
  h0 : W.cell? ⟨0, 0, none⟩ = some (.slice (some ⟨s0, o0, none⟩) 13 k0)
  c0 : 13 ≤ k0
  l0 : s0 < W.heap.size
  m0 : ∀ (i : Nat) (x : List UInt8), symB[i]? = some x → W.cell? ⟨s0, o0 + i, none⟩ = some (.string (sv x))
  h4 : W.cell? ⟨4, 0, none⟩ = some (.slice (some ⟨s2, o2, none⟩) 6 k2)
  c2 : 6 ≤ k2
  l2 : s2 < W.heap.size
  m2 : ∀ (i : Nat) (x : List UInt8), cmpB[i]? = some x → W.cell? ⟨s2, o2 + i, none⟩ = some (.string (sv x))
  hsp : ∀ (i : Nat) (v : Value), spcL[i]? = some v → W.cell? ⟨2, i, none⟩ = some v
theorem facts_of_laid {W : World} (h : laidMetH PT YtnmkgbomiillgaaGreatDoor.Rows.sqlLikesRow.laid W) : ∃ s0 o0 k0 s2 o2 k2, Facts W s0 o0 k0 s2 o2 k2 := by
  rw [MakeChecks.laidMetH_plain _ _ _ (by kernel_rfl)] at h
  obtain ⟨ps, hv, _, _⟩ := h
  obtain ⟨g0, t0, cs0, f0, p0, a1, a2, a3, a4⟩ := laid_mem hv "midrange/sql.symbols" YtnmkgbomiillgaaGreatDoor.Rows.laid_midrange_sql_symbols (by simp [YtnmkgbomiillgaaGreatDoor.Rows.sqlLikesRow])
  obtain ⟨g2, t2, cs2, f2, p2, b1, b2, b3, b4⟩ := laid_mem hv "midrange/sql.comparisons" YtnmkgbomiillgaaGreatDoor.Rows.laid_midrange_sql_comparisons (by simp [YtnmkgbomiillgaaGreatDoor.Rows.sqlLikesRow])
  obtain ⟨g4, t4, cs4, f4, p4, d1, d2, d3, d4⟩ := laid_mem hv "strings.asciiSpace" YtnmkgbomiillgaaGreatDoor.Rows.laid_strings_asciiSpace (by simp [YtnmkgbomiillgaaGreatDoor.Rows.sqlLikesRow])
  obtain rfl : g0 = 0 := Option.some.inj (a1.symm.trans (show PT.globalNamed "midrange/sql.symbols" = some 0 by kernel_rfl))
  obtain rfl : g2 = 4 := Option.some.inj (b1.symm.trans (show PT.globalNamed "midrange/sql.comparisons" = some 4 by kernel_rfl))
  obtain rfl : g4 = 2 := Option.some.inj (d1.symm.trans (show PT.globalNamed "strings.asciiSpace" = some 2 by kernel_rfl))
  obtain rfl : t0 = 45 := Option.some.inj (a2.symm.trans (show (PT.globals[0]?).map (·.type) = some 45 by kernel_rfl))
  obtain rfl : t2 = 45 := Option.some.inj (b2.symm.trans (show (PT.globals[4]?).map (·.type) = some 45 by kernel_rfl))
  obtain rfl : t4 = 328 := Option.some.inj (d2.symm.trans (show (PT.globals[2]?).map (·.type) = some 328 by kernel_rfl))
  have u45 : PT.underlying 45 = some (.slice 9) := by kernel_rfl
  have u9 : PT.underlying 9 = some .string := by kernel_rfl
  have c9 : PT.cellsOf 9 = 1 := by kernel_rfl
  have u328 : PT.underlying 328 = some (.array 256 5) := by kernel_rfl
  have u5 : PT.underlying 5 = some (.int .u8) := by kernel_rfl
  have c5 : PT.cellsOf 5 = 1 := by kernel_rfl
  have c328 : PT.cellsOf 328 = 256 := by kernel_rfl
  obtain ⟨s0, o0, k0, e0, c0, l0, m0⟩ := strs_of (bs := symB) u45 u9 c9 (by decide) a4
  obtain ⟨s2, o2, k2, e2, c2, l2, m2⟩ := strs_of (bs := cmpB) u45 u9 c9 (by decide) b4
  have e4 := Lib.cells_of_tab (zs := (List.range 256).map fun i => if Nat.beq i 9 || Nat.beq i 10 || Nat.beq i 11 || Nat.beq i 12 || Nat.beq i 13 || Nat.beq i 32 then (1 : Int) else 0) u328 u5 c5 c328 (by
    rw [d4]
    have : (YtnmkgbomiillgaaGreatDoor.Rows.laid_strings_asciiSpace : DataW Unit) = Lib.tabData .u8 ((List.range 256).map fun i => if Nat.beq i 9 || Nat.beq i 10 || Nat.beq i 11 || Nat.beq i 12 || Nat.beq i 13 || Nat.beq i 32 then (1 : Int) else 0) := by kernel_rfl
    rw [this])
  have h0 : W.cell? ⟨0, 0, none⟩ = some (.slice (some ⟨s0, o0, none⟩) 13 k0) := by
    have := World.var?_cell a1 a3 0
    rw [one_of_toList e0] at this
    have h2 : W.cell? ⟨0, 0, none⟩ = some (.slice (some ⟨s0, o0, none⟩) symB.length k0) := by simpa using this
    exact h2
  have h4 : W.cell? ⟨4, 0, none⟩ = some (.slice (some ⟨s2, o2, none⟩) 6 k2) := by
    have := World.var?_cell b1 b3 0
    rw [one_of_toList e2] at this
    have h2 : W.cell? ⟨4, 0, none⟩ = some (.slice (some ⟨s2, o2, none⟩) cmpB.length k2) := by simpa using this
    exact h2
  have hsp : ∀ (i : Nat) (v : Value), spcL[i]? = some v → W.cell? ⟨2, i, none⟩ = some v := fun i v hi => by
    have := World.var?_cell d1 d3 i
    rw [this]
    have e5 : cs4.toList[i]? = some v := by
      rw [e4, ← hi]
      simp only [spcL, List.map_map]
      congr 1
    simpa using e5
  exact ⟨s0, o0, k0, s2, o2, k2, h0, c0, l0, m0, h4, c2, l2, m2, hsp⟩
theorem Facts.good {W : World} {s0 o0 k0 s2 o2 k2 : Nat} (h : Facts W s0 o0 k0 s2 o2 k2) : Good W gl0 5 (rhoOf s0 o0 k0 s2 o2 k2) := by
  obtain ⟨h0, _, l0, m0, h4, _, l2, m2, hsp⟩ := h
  have size_of : ∀ {g o : Nat} {v : Value}, W.cell? ⟨g, o, none⟩ = some v → g < W.heap.size := fun hc => by
    simp only [World.cell?] at hc
    split at hc
    · rename_i h; exact (Array.getElem?_eq_some_iff.1 h).1
    · cases hc
  have n2 : (2 : Nat) < W.heap.size := size_of (hsp 0 _ rfl)
  refine ⟨⟨fun g v hg => ?_, fun k l hl => ?_, fun g k hk => ?_⟩, fun b hb => ?_, fun b r hb => ?_⟩
  · simp only [gl0, lookG] at hg
    by_cases e : g = 0
    · subst e
      cases hg
      exact ⟨size_of h0, _, rfl, h0⟩
    · rw [XE.nbeq (Ne.symm e), cond_false] at hg
      by_cases e' : g = 4
      · subst e'
        cases hg
        exact ⟨size_of h4, _, rfl, h4⟩
      · rw [XE.nbeq (Ne.symm e')] at hg; cases hg
  · simp only [gl0, lookA] at hl
    by_cases e : k = 0
    · subst e
      cases hl
      refine ⟨_, rfl, l0, fun i v hi => ?_⟩
      have : symL = symB.map fun x => .string (sv x) := rfl
      rw [this] at hi
      simp only [List.getElem?_map, Option.map_eq_some_iff] at hi
      obtain ⟨x, hx, rfl⟩ := hi
      exact m0 i x hx
    · rw [XE.nbeq (Ne.symm e), cond_false] at hl
      by_cases e' : k = 2
      · subst e'
        cases hl
        refine ⟨_, rfl, l2, fun i v hi => ?_⟩
        have : cmpL = cmpB.map fun x => .string (sv x) := rfl
        rw [this] at hi
        simp only [List.getElem?_map, Option.map_eq_some_iff] at hi
        obtain ⟨x, hx, rfl⟩ := hi
        exact m2 i x hx
      · rw [XE.nbeq (Ne.symm e'), cond_false] at hl
        by_cases e'' : k = 4
        · subst e''
          cases hl
          exact ⟨_, rfl, n2, fun i v hi => by rw [Nat.zero_add]; exact hsp i v hi⟩
        · rw [XE.nbeq (Ne.symm e'')] at hl; cases hl
  · simp only [gl0, lookA] at hk
    by_cases e : g = 2
    · subst e
      cases hk
      rfl
    · rw [XE.nbeq (Ne.symm e)] at hk; cases hk
  · match b, hb with
    | b + 5, _ => rfl
  · match b, hb with
    | 0, hb => cases hb; exact l0
    | 1, hb => cases hb; exact l0
    | 2, hb => cases hb; exact l2
    | 3, hb => cases hb; exact l2
    | 4, hb => cases hb; exact n2
    | b + 5, hb => cases hb
theorem good_of_laid {W : World} (h : laidMetH PT YtnmkgbomiillgaaGreatDoor.Rows.sqlLikesRow.laid W) : ∃ ρg, Good W gl0 5 ρg := by
  obtain ⟨s0, o0, k0, s2, o2, k2, hF⟩ := facts_of_laid h
  exact ⟨_, hF.good⟩
end Go.XR
/- awake, as a leaf of the evaluator; the package-level variables, as the evaluator wants them. -/
namespace Go.XE
open Go.XR (symB cmpB spcL sv Facts PT)
section
variable {P : Program} {G : Nat → Option GV} {f : FuncId}
/-- No arguments, plain result without a slice. -/
theorem leaf0 {R : Ty} {nt : Nat} {y : den R} (hE : Enter P f) (hR : ∀ {w w' : World} {C C' : Cells} {v : Value}, RepV w C R y v → RepV w' C' R y v)
    (hcall : ∀ (m : Mem), (∀ g d, G g = some d → GAt m d g) → Calls P f #[] m.w fun e w' => ∃ u, e = .returned u ∧ Kept m.w w' ∧ RepV w' m.C R y u)
    (hok : (⟨⟨[], [], nt, 0⟩, R, false, false, [], fun _ => some y⟩ : Spec).okB = true) : Sound P G f ⟨⟨[], [], nt, 0⟩, R, false, false, [], fun _ => some y⟩ := by
  refine ⟨hE, hok, fun m x z args hn r hU hy => ?_⟩
  obtain rfl : y = z := Option.some.inj hy
  obtain rfl : args = #[] := by
    obtain ⟨l⟩ := args
    match l, hn with
    | [], _ => rfl
  refine (hcall m (fun g d hg => r.glob g d hg)).mono fun e w' h => ?_
  obtain ⟨u, rfl, hk, h4⟩ := h
  refine ⟨u, rfl, { m with w := w' }, rfl, ⟨⟨hk.pre _, fun _ _ h => h, rfl, fun _ _ => rfl, fun _ h => h⟩, fun b j hc hb => .inl hc, fun _ _ h => h⟩, fun b j hc => ?_, fun b hb => ?_, ⟨fun _ => h4, (fun e => by cases e), (fun off ho => by cases ho)⟩, trivial⟩
  · exact Nat.lt_of_lt_of_le (r.bC b j hc) hk.size
  · exact Nat.lt_of_lt_of_le (r.bL b hb) hk.size
theorem strs_rep {w : World} {C : Cells} {bs : List (List UInt8)} {vs : List Value} (hne : 0 < bs.length) (h : Rep w C (.sl .str) bs vs) :
    ∃ b off cap, vs = [.slice (some ⟨b, off, none⟩) bs.length cap] ∧ bs.length ≤ cap ∧ b < w.heap.size ∧ ∀ (i : Nat) (x : List UInt8), bs[i]? = some x → w.cell? ⟨b, off + i, none⟩ = some (.string (sv x)) := by
  simp only [Rep] at h
  obtain ⟨p, cap, rfl, h1, h2, h3⟩ := h
  have h1 : bs.length ≤ cap := h1
  cases p with
  | none => have := h2 rfl; omega
  | some a =>
    obtain ⟨b, o, s⟩ := a
    obtain ⟨e, hc⟩ := h3 _ rfl
    have e : s = none := e (by omega)
    subst e
    have key : ∀ (i : Nat) (x : List UInt8), bs[i]? = some x → w.cell? ⟨b, o + i, none⟩ = some (.string (sv x)) := fun i x hx => by
      obtain ⟨us, k1, _, k3⟩ := hc i x hx
      subst k3
      have := k1 0 _ rfl
      simpa [Ty.size, sv] using this
    exact ⟨b, o, cap, rfl, h1, World.block_lt_of_cell? _ ⟨b, o + 0, none⟩ (key 0 bs[0] (by simp [hne])), key⟩
theorem tabF_eq : tabF = spcL := by kernel_rfl
theorem laid_facts (m : Mem) (hG : ∀ g d, G g = some d → GAt m d g) (g0 : G 0 = some (.d ⟨.sl .str, symB⟩)) (g4 : G 4 = some (.d ⟨.sl .str, cmpB⟩)) (g2 : G 2 = some (.c tabF)) :
    ∃ s0 o0 k0 s2 o2 k2, Facts m.w s0 o0 k0 s2 o2 k2 := by
  obtain ⟨vs, a1, a2, _⟩ := hG 0 _ g0
  obtain ⟨us, b1, b2, _⟩ := hG 4 _ g4
  obtain ⟨d1, _⟩ := hG 2 _ g2
  obtain ⟨s0, o0, k0, rfl, c0, l0, m0⟩ := strs_rep (by decide) a2
  obtain ⟨s2, o2, k2, rfl, c2, l2, m2⟩ := strs_rep (by decide) b2
  exact ⟨s0, o0, k0, s2, o2, k2, a1 0 _ rfl, c0, l0, m0, b1 0 _ rfl, c2, l2, m2, fun i v hv => by
    rw [tabF_eq] at d1
    have := d1 i v hv
    rwa [Nat.zero_add] at this⟩
theorem gat_of {W : World} {s0 o0 k0 s2 o2 k2 : Nat} (h : Facts W s0 o0 k0 s2 o2 k2) :
    GAt (worldMem W (inHeap W)) (.d ⟨.sl .str, symB⟩) 0 ∧ GAt (worldMem W (inHeap W)) (.d ⟨.sl .str, cmpB⟩) 4 ∧ GAt (worldMem W (inHeap W)) (.c tabF) 2 := by
  have strs : ∀ {bs : List (List UInt8)} {g s o k : Nat}, W.cell? ⟨g, 0, none⟩ = some (.slice (some ⟨s, o, none⟩) bs.length k) → bs.length ≤ k → s < W.heap.size →
      (∀ (i : Nat) (x : List UInt8), bs[i]? = some x → W.cell? ⟨s, o + i, none⟩ = some (.string (sv x))) → GAt (worldMem W (inHeap W)) (.d ⟨.sl .str, bs⟩) g := fun {bs g s o k} h0 hc hl hm => by
    refine ⟨[.slice (some ⟨s, o, none⟩) bs.length k], fun j v hj => ?_, ?_, fun j hj => .inl (World.block_lt_of_cell? _ ⟨g, 0, none⟩ h0)⟩
    · cases j with
      | zero => cases hj; exact h0
      | succ j => simp at hj
    · simp only [Rep]
      refine ⟨_, k, rfl, hc, (fun e => by cases e), fun a ha => ?_⟩
      cases ha
      refine ⟨fun _ => rfl, fun i y hy => ⟨[.string (sv y)], fun j v hj => ?_, fun j _ => hl, rfl⟩⟩
      cases j with
      | zero =>
        cases hj
        have := hm i y hy
        show W.cell? _ = _
        simpa [Ty.size] using this
      | succ j => simp at hj
  refine ⟨strs h.h0 h.c0 h.l0 h.m0, strs h.h4 h.c2 h.l2 h.m2, fun j v hj => ?_, fun j hj => .inl ?_⟩
  · rw [tabF_eq] at hj
    have := h.hsp j v hj
    rwa [Nat.zero_add]
  · exact World.block_lt_of_cell? _ ⟨2, 0, none⟩ (h.hsp 0 _ rfl)
end
theorem enter6 : Enter PT 6 := enter_of (fn := Proofs.Tryz.f6) (by kernel_rfl) (by kernel_rfl) (by kernel_rfl)
theorem awake_sound {G : Nat → Option GV} (g0 : G 0 = some (.d ⟨.sl .str, symB⟩)) (g4 : G 4 = some (.d ⟨.sl .str, cmpB⟩)) (g2 : G 2 = some (.c tabF)) :
    Sound PT G 6 { head := ⟨[], [], 68, 0⟩, R := .bool, F := fun _ => some true } :=
  leaf0 (R := .bool) (y := true) enter6 (fun h => by
    rcases h with ⟨h, _⟩ | ⟨h, h2⟩
    · cases h
    · exact .inr ⟨h, h2⟩) (fun m hG => by
    obtain ⟨s0, o0, k0, s2, o2, k2, hF⟩ := laid_facts m hG g0 g4 g2
    exact (Go.XR.awake_calls hF.good).mono fun e w' h => ⟨_, h.1, ⟨h.2.size, h.2.old, h.2.out⟩, .inr ⟨rfl, rfl⟩⟩) rfl
end Go.XE
