/- Part 31 of the proof. -/
import Derived.Test.YtnmkgbomiillgaaGreatDoorP29
import Derived.Test.YtnmkgbomiillgaaGreatDoorRows
import Derived.LaidLaws
import Derived.ChangeArms
import Derived.DataReads
import Derived.Lib.LaidTab
import Derived.MakeChecks
import Derived.Test.YtnmkgbomiillgaaGreatDoorP30
import Derived.ChangeMaps5
import Derived.Lib.SmallJoins
/- The package-level variables of the row, as the run of awake wants them. -/
namespace Go.XR
open Proofs
theorem laid_mem {P : Program} {w : World} : ∀ {l : List (String × DataW Unit)} {ps : List MemPlace}, DataW.LaidVars P w l ps → ∀ n d, (n, d) ∈ l →
    ∃ g t cs fuel p, P.globalNamed n = some g ∧ (P.globals[g]?).map (·.type) = some t ∧ w.var? P n = some cs ∧ DataW.trod (fun _ => ()) P w 0 (fun _ => true) false fuel t cs.toList = some (d, p)
  | [], _, _, n, d, hm => by cases hm
  | (n', d') :: r, ps, h, n, d, hm => by
    obtain ⟨g, t, cs, fuel, p, q, h1, h2, h3, h4, h5, _⟩ := h
    rcases List.mem_cons.1 hm with e | hm
    · cases e; exact ⟨g, t, cs, fuel, p, h1, h2, h3, h4⟩
    · exact laid_mem h5 n d hm
theorem one_of_toList {α : Type} {a : Array α} {v : α} (h : a.toList = [v]) : a = #[v] := by cases a; simp_all
theorem strs_of {H : Type} {enc : TypeId × Value → H} {P : Program} {w : World} {fuel : Nat} {t e : TypeId} {cs : List Value} {bs : List (List UInt8)} {p : List MemPlace} (ht : P.underlying t = some (.slice e)) (he : P.underlying e = some .string) (hce : P.cellsOf e = 1) (hne : 0 < bs.length)
    (hd : DataW.trod enc P w 0 (fun _ => true) false fuel t cs = some (.slice (bs.map fun b => .lit (.string b)) [], p)) :
    ∃ b off cap, cs = [.slice (some ⟨b, off, none⟩) bs.length cap] ∧ b < w.heap.size ∧ ∀ (i : Nat) (x : List UInt8), bs[i]? = some x → w.cell? ⟨b, off + i, none⟩ = some (.string (sv x)) := by
  rcases DataW.trod_slice ht hd with ⟨_, hx⟩ | ⟨a, len, cap, elems, rest, n, _, rfl, hx, _, _, _, hl, hel, _, _⟩
  · cases hx
  simp only [Prod.mk.injEq, DataW.slice.injEq] at hx
  obtain ⟨⟨hx1, hx2⟩, _⟩ := hx
  have hlen : len = bs.length := by
    have := congrArg List.length hx1
    simp at this
    omega
  subst hlen
  have key : ∀ (i : Nat) (x : List UInt8), bs[i]? = some x → w.cell? (a.add i) = some (.string (sv x)) := fun i x hi => by
    have hlt := (List.getElem?_eq_some_iff.1 hi).1
    have h1 := hel i hlt
    rw [hce, Nat.mul_one] at h1
    have h2 : (elems.map (·.1))[i]? = some (.lit (.string x)) := by rw [← hx1]; simp [hi]
    simp only [List.getElem?_map, Option.map_eq_some_iff] at h2
    obtain ⟨y, hy, hy2⟩ := h2
    rw [hy, Option.bind_eq_some_iff] at h1
    obtain ⟨l, h3, h4⟩ := h1
    obtain ⟨_, h5, h6⟩ := World.cells?_some h3
    obtain ⟨s, rfl, rfl, _⟩ := DataW.trod_string he h4
    have h7 := h6 0 (by omega)
    simp only [DataW.lit.injEq, Lit.string.injEq] at hy2
    have h8 : (a.add i).add 0 = a.add i := by simp [Addr.add]
    rw [h8] at h7
    rw [h7, ← hy2]
    rfl
  have hspot : a.spot = none := by
    have := key 0 bs[0] (by simp [hne])
    rw [show a.add 0 = a by simp [Addr.add]] at this
    cases hs : a.spot with
    | none => rfl
    | some z =>
      exfalso
      simp only [World.cell?] at this
      split at this
      · rw [if_pos (by rw [hs]; rfl)] at this
        cases this
      · cases this
  obtain ⟨b, off, sp⟩ := a
  simp only at hspot
  subst hspot
  refine ⟨b, off, cap, rfl, ?_, fun i x hi => by have := key i x hi; rwa [XE.add_mk] at this⟩
  have := key 0 bs[0] (by simp [hne])
  simp only [World.cell?] at this
  split at this
  · rename_i h; exact (Array.getElem?_eq_some_iff.1 h).1
  · cases this
def symB : List (List UInt8) := [[60, 62], [60, 61], [62, 61], [40], [41], [44], [46], [42], [43], [45], [61], [60], [62]]
def cmpB : List (List UInt8) := [[61], [60, 62], [60], [60, 61], [62], [62, 61]]
def rhoOf (b0 o0 c0 b2 o2 c2 : Nat) : Pm := fun k => match k with
  | 0 => some (b0, o0)
  | 1 => some (b0, c0)
  | 2 => some (b2, o2)
  | 3 => some (b2, c2)
  | 4 => some (2, 0)
  | _ => none
theorem good_of_laid {W : World} (h : laidMetH PT YtnmkgbomiillgaaGreatDoor.Rows.sqlLikesRow.laid W) : ∃ ρg, Good W gl0 5 ρg := by
  rw [MakeChecks.laidMetH_plain _ _ _ (by kernel_rfl)] at h
  obtain ⟨ps, hv, _, _⟩ := h
  obtain ⟨g0, t0, cs0, f0, p0, a1, a2, a3, a4⟩ := laid_mem hv "midrange/sql.symbols" YtnmkgbomiillgaaGreatDoor.Rows.laid_midrange_sql_symbols (by simp [YtnmkgbomiillgaaGreatDoor.Rows.sqlLikesRow])
  obtain ⟨g2, t2, cs2, f2, p2, b1, b2, b3, b4⟩ := laid_mem hv "midrange/sql.comparisons" YtnmkgbomiillgaaGreatDoor.Rows.laid_midrange_sql_comparisons (by simp [YtnmkgbomiillgaaGreatDoor.Rows.sqlLikesRow])
  obtain ⟨g4, t4, cs4, f4, p4, d1, d2, d3, d4⟩ := laid_mem hv "strings.asciiSpace" YtnmkgbomiillgaaGreatDoor.Rows.laid_strings_asciiSpace (by simp [YtnmkgbomiillgaaGreatDoor.Rows.sqlLikesRow])
  obtain rfl : g0 = 0 := Option.some.inj (a1.symm.trans (show PT.globalNamed "midrange/sql.symbols" = some 0 by kernel_rfl))
  obtain rfl : g2 = 4 := Option.some.inj (b1.symm.trans (show PT.globalNamed "midrange/sql.comparisons" = some 4 by kernel_rfl))
  obtain rfl : g4 = 2 := Option.some.inj (d1.symm.trans (show PT.globalNamed "strings.asciiSpace" = some 2 by kernel_rfl))
  obtain rfl : t0 = 45 := Option.some.inj (a2.symm.trans (show (PT.globals[0]?).map (·.type) = some 45 by kernel_rfl))
  obtain rfl : t2 = 45 := Option.some.inj (b2.symm.trans (show (PT.globals[4]?).map (·.type) = some 45 by kernel_rfl))
  obtain rfl : t4 = 328 := Option.some.inj (d2.symm.trans (show (PT.globals[2]?).map (·.type) = some 328 by kernel_rfl))
  have u45 : PT.underlying 45 = some (.slice 9) := by kernel_rfl
  have u9 : PT.underlying 9 = some .string := by kernel_rfl
  have c9 : PT.cellsOf 9 = 1 := by kernel_rfl
  have u328 : PT.underlying 328 = some (.array 256 5) := by kernel_rfl
  have u5 : PT.underlying 5 = some (.int .u8) := by kernel_rfl
  have c5 : PT.cellsOf 5 = 1 := by kernel_rfl
  have c328 : PT.cellsOf 328 = 256 := by kernel_rfl
  obtain ⟨s0, o0, k0, e0, l0, m0⟩ := strs_of (bs := symB) u45 u9 c9 (by decide) a4
  obtain ⟨s2, o2, k2, e2, l2, m2⟩ := strs_of (bs := cmpB) u45 u9 c9 (by decide) b4
  have e4 := Lib.cells_of_tab (zs := (List.range 256).map fun i => if Nat.beq i 9 || Nat.beq i 10 || Nat.beq i 11 || Nat.beq i 12 || Nat.beq i 13 || Nat.beq i 32 then (1 : Int) else 0) u328 u5 c5 c328 (by
    rw [d4]
    have : (YtnmkgbomiillgaaGreatDoor.Rows.laid_strings_asciiSpace : DataW Unit) = Lib.tabData .u8 ((List.range 256).map fun i => if Nat.beq i 9 || Nat.beq i 10 || Nat.beq i 11 || Nat.beq i 12 || Nat.beq i 13 || Nat.beq i 32 then (1 : Int) else 0) := by kernel_rfl
    rw [this])
  have h0 : W.cell? ⟨0, 0, none⟩ = some (.slice (some ⟨s0, o0, none⟩) 13 k0) := by
    have := World.var?_cell a1 a3 0
    rw [one_of_toList e0] at this
    have h2 : W.cell? ⟨0, 0, none⟩ = some (.slice (some ⟨s0, o0, none⟩) symB.length k0) := by simpa using this
    exact h2
  have h4 : W.cell? ⟨4, 0, none⟩ = some (.slice (some ⟨s2, o2, none⟩) 6 k2) := by
    have := World.var?_cell b1 b3 0
    rw [one_of_toList e2] at this
    have h2 : W.cell? ⟨4, 0, none⟩ = some (.slice (some ⟨s2, o2, none⟩) cmpB.length k2) := by simpa using this
    exact h2
  have hsp : ∀ (i : Nat) (v : Value), spcL[i]? = some v → W.cell? ⟨2, i, none⟩ = some v := fun i v hi => by
    have := World.var?_cell d1 d3 i
    rw [this]
    have e5 : cs4.toList[i]? = some v := by
      rw [e4, ← hi]
      simp only [spcL, List.map_map]
      congr 1
    simpa using e5
  have size_of : ∀ {g o : Nat} {v : Value}, W.cell? ⟨g, o, none⟩ = some v → g < W.heap.size := fun hc => by
    simp only [World.cell?] at hc
    split at hc
    · rename_i h; exact (Array.getElem?_eq_some_iff.1 h).1
    · cases hc
  have n2 : (2 : Nat) < W.heap.size := size_of (hsp 0 _ rfl)
  refine ⟨rhoOf s0 o0 k0 s2 o2 k2, ⟨fun g v hg => ?_, fun k l hl => ?_, fun g k hk => ?_⟩, fun b hb => ?_, fun b r hb => ?_⟩
  · simp only [gl0, lookG] at hg
    by_cases e : g = 0
    · subst e
      cases hg
      exact ⟨size_of h0, _, rfl, h0⟩
    · rw [XE.nbeq (Ne.symm e), cond_false] at hg
      by_cases e' : g = 4
      · subst e'
        cases hg
        exact ⟨size_of h4, _, rfl, h4⟩
      · rw [XE.nbeq (Ne.symm e')] at hg; cases hg
  · simp only [gl0, lookA] at hl
    by_cases e : k = 0
    · subst e
      cases hl
      refine ⟨_, rfl, l0, fun i v hi => ?_⟩
      have : symL = symB.map fun x => .string (sv x) := rfl
      rw [this] at hi
      simp only [List.getElem?_map, Option.map_eq_some_iff] at hi
      obtain ⟨x, hx, rfl⟩ := hi
      exact m0 i x hx
    · rw [XE.nbeq (Ne.symm e), cond_false] at hl
      by_cases e' : k = 2
      · subst e'
        cases hl
        refine ⟨_, rfl, l2, fun i v hi => ?_⟩
        have : cmpL = cmpB.map fun x => .string (sv x) := rfl
        rw [this] at hi
        simp only [List.getElem?_map, Option.map_eq_some_iff] at hi
        obtain ⟨x, hx, rfl⟩ := hi
        exact m2 i x hx
      · rw [XE.nbeq (Ne.symm e'), cond_false] at hl
        by_cases e'' : k = 4
        · subst e''
          cases hl
          exact ⟨_, rfl, n2, fun i v hi => by rw [Nat.zero_add]; exact hsp i v hi⟩
        · rw [XE.nbeq (Ne.symm e'')] at hl; cases hl
  · simp only [gl0, lookA] at hk
    by_cases e : g = 2
    · subst e
      cases hk
      rfl
    · rw [XE.nbeq (Ne.symm e)] at hk; cases hk
  · match b, hb with
    | b + 5, _ => rfl
  · match b, hb with
    | 0, hb => cases hb; exact l0
    | 1, hb => cases hb; exact l0
    | 2, hb => cases hb; exact l2
    | 3, hb => cases hb; exact l2
    | 4, hb => cases hb; exact n2
    | b + 5, hb => cases hb
end Go.XR
/- SqlCompares: values that come in. -/
namespace Go.Proofs.YtnmkgbomiillgaaGreatDoor.sqlCompares
open Go.ChangeShapes Go.WideShapes Go.ChangeAt Go.RowKit Go.ChangeMaps Go.Joins Go.Deep
def vdat {H : Type} (K N S : Int) (T : ByteArray) : DataW H := .agg [.lit (.int .i64 K), .agg [.lit (.int .i64 N), .lit (.int .i64 S)], .lit (.string T.data.toList)]
def vval (K N S : Int) (T : ByteArray) : Value := .agg #[.int .i64 K, .int .i64 N, .int .i64 S, .string T]
structure VOk (K N S : Int) (T : ByteArray) : Prop where
  k : (Lit.int .i64 K).wf = true
  n : (Lit.int .i64 N).wf = true
  s : (Lit.int .i64 S).wf = true
  t : T.size ≤ maxLen
set_option maxRecDepth 100000 in
theorem open35 {H : Type} {enc : TypeId × Value → H} {w : World} {base : Nat} {sp : Nat → Bool} {held : Bool} {r : Reach} {b0 : Nat} {v : Value} {d : DataW H} {p : List MemPlace} (hv : Value.okWide Tryz.prog w r b0 35 v)
    (h : DataW.Trod enc Tryz.prog w base sp held 35 v d p) : ∃ K N S T, v = vval K N S T ∧ d = vdat K N S T ∧ p = [] ∧ VOk K N S T := by
  obtain ⟨cs, rfl, hsz⟩ := okWide_struct Tryz.underlying35 hv
  obtain ⟨c0, c1, c2, c3, rfl⟩ := array4 (hsz.trans (show Tryz.prog.cellsOf 35 = 4 by kernel_rfl))
  obtain ⟨fuel, hf⟩ := h
  obtain ⟨y0, y1, y2, n, hx, _, h0, h1, h2⟩ := trod_struct3 Tryz.underlying35 hf
  have e3 : Tryz.prog.cellsOf 3 = 1 := by kernel_rfl
  have e33 : Tryz.prog.cellsOf 33 = 2 := by kernel_rfl
  have e9 : Tryz.prog.cellsOf 9 = 1 := by kernel_rfl
  simp only [e3, e33, e9, Value.cells, List.drop_zero, List.drop_succ_cons, List.take_succ_cons, List.take_zero] at h0 h1 h2
  obtain ⟨K, k1, rfl, k3⟩ := DataW.trod_int Tryz.underlying3 h0
  obtain ⟨z0, z1, m, rfl, _, g0, g1⟩ := trod_struct2 Tryz.underlying33 h1
  simp only [e3, List.drop_zero, List.drop_succ_cons, List.take_succ_cons, List.take_zero] at g0 g1
  obtain ⟨N, n1, rfl, n3⟩ := DataW.trod_int Tryz.underlying3 g0
  obtain ⟨S, s1, rfl, s3⟩ := DataW.trod_int Tryz.underlying3 g1
  obtain ⟨T, t1, rfl, t3⟩ := DataW.trod_string Tryz.underlying9 h2
  simp only [List.cons.injEq, and_true] at k1 n1 s1 t1
  subst k1 n1 s1 t1
  simp only [Prod.mk.injEq] at hx
  exact ⟨K, N, S, T, rfl, hx.1, hx.2, k3, n3, s3, t3⟩
set_option maxRecDepth 100000 in
theorem shut35 {H : Type} {enc : TypeId × Value → H} {w : World} {base : Nat} {sp : Nat → Bool} {held : Bool} {K N S : Int} {T : ByteArray} (h : VOk K N S T) :
    DataW.Trod enc Tryz.prog w base sp held 35 (vval K N S T) (vdat K N S T) [] := by
  have e3 : Tryz.prog.cellsOf 3 = 1 := by kernel_rfl
  have e33 : Tryz.prog.cellsOf 33 = 2 := by kernel_rfl
  have e9 : Tryz.prog.cellsOf 9 = 1 := by kernel_rfl
  refine ⟨3, trod_struct3_mk (y0 := (.lit (.int .i64 K), [])) (y1 := (.agg [.lit (.int .i64 N), .lit (.int .i64 S)], [])) (y2 := (.lit (.string T.data.toList), [])) Tryz.underlying35 (show _ = _ by kernel_rfl) ?_ ?_ ?_⟩
  · simp only [e3, vval, Value.cells, List.drop_zero, List.take_succ_cons, List.take_zero]
    exact trod_int_mk 1 Tryz.underlying3 h.k
  · simp only [e33, vval, Value.cells, List.drop_succ_cons, List.drop_zero, List.take_succ_cons, List.take_zero]
    refine trod_struct2_mk (y0 := (.lit (.int .i64 N), [])) (y1 := (.lit (.int .i64 S), [])) Tryz.underlying33 (show _ = _ by kernel_rfl) ?_ ?_
    · simp only [e3, List.drop_zero, List.take_succ_cons, List.take_zero]
      exact trod_int_mk 0 Tryz.underlying3 h.n
    · simp only [e3, List.drop_succ_cons, List.drop_zero, List.take_succ_cons, List.take_zero]
      exact trod_int_mk 0 Tryz.underlying3 h.s
  · simp only [e9, vval, Value.cells, List.drop_succ_cons, List.drop_zero, List.take_succ_cons, List.take_zero]
    simp [DataW.trod, Tryz.underlying9, h.t]
theorem kept_ext {W W' : World} (h : Tryz.Ext W W') (may : MemPlace → Prop) : W.keptBut W' may := by
  refine ⟨h.out.1, h.out.2, fun i hi => ?_⟩
  rw [h.old i hi]
  cases W.heap[i]? with
  | none => rfl
  | some o => cases o <;> simp
theorem post_plain {H : Type} {enc : TypeId × Value → H} {P : Program} {f : Func} {s : ChangeSpec} {apart fresh handsOn again : Bool} {W W' : World} {args : Array Value} {v : Value} {ds gs : List (DataW H)}
    (hW : DataW.Whole enc P f.params.toList s.vars apart W args.toList ds gs [])
    (hres : ∀ (b : Nat) (sp : Nat → Bool) (hd : Bool), DataW.TrodAll enc P W' b sp hd f.resultTypes.toList (v.resultList f.resultTypes.size) (s.fn H (ds ++ gs)).results [])
    (hargs : ∀ sp : Nat → Bool, DataW.TrodAll enc P W' 0 sp true f.params.toList args.toList (s.fn H (ds ++ gs)).args [])
    (hvars : ∀ sp : Nat → Bool, DataW.TrodVars enc P W' sp s.vars (s.fn H (ds ++ gs)).vars [])
    (hk : Tryz.Ext W W')
    (hok : ∀ (j : Nat) (t : TypeId) (r : Value), f.resultTypes[j]? = some t → (v.resultList f.resultTypes.size)[j]? = some r → Value.okWide P W' .any 0 t r) :
    s.post enc P f apart fresh handsOn again W args v W' := by
  refine ⟨ds, gs, [], [], [], [], hW, hres _ _ _, hargs _, hvars _, kept_ext hk _, fun _ => ?_⟩
  refine ⟨hok, _, _, ([] ++ []) ++ [], ⟨[] ++ [], [], trodAll_append (hargs _) (hres _ _ _), hvars _, rfl, ?_, ?_⟩, ?_⟩
  · intro b off hp; simp at hp
  · intro ha; simp
  · intro p hp _; simp at hp
set_option maxRecDepth 100000 in
theorem contract (H : Type) (enc : TypeId × Value → H) (W : World) (base : Nat) (args : Array Value) (ds gs : List (DataW H)) (before : List MemPlace)
    (hval : ∀ (j : Nat) t v, Tryz.f5.params[j]? = some t → args[j]? = some v → Value.okWide Tryz.prog W .any base t v)
    (hW : DataW.Whole enc Tryz.prog Tryz.f5.params.toList Rows.sqlComparesSpec.vars false W args.toList ds gs before) (hL : laidMetH Tryz.prog Rows.sqlComparesRow.laid W) :
    Calls Tryz.prog 5 args W fun e W' => ∃ v, e = .returned v ∧ Rows.sqlComparesSpec.post enc Tryz.prog Tryz.f5 false true false false W args v W' := by
  have hW' := hW
  obtain ⟨p, q, hA0, hV, rfl, hfz, hnd⟩ := hW
  have hA : DataW.TrodAll enc Tryz.prog W 0 (fun _ => true) true Tryz.f5.params.toList args.toList ds p := hA0
  rw [Tryz.params5] at hA hval
  obtain ⟨v0, vs0, d0, ds0, p0, q0, hargs, rfl, rfl, h0, r0⟩ := trodAll_cons hA
  obtain ⟨v1, vs1, d1, ds1, p1, q1, rfl, rfl, rfl, h1, r1⟩ := trodAll_cons r0
  obtain ⟨rfl, rfl, rfl⟩ := trodAll_nil r1
  obtain rfl : args = #[v0, v1] := by cases args; simp_all
  obtain ⟨rfl, rfl⟩ := trodVars_none hV
  obtain ⟨K, N, S, T, rfl, rfl, rfl, ha⟩ := open35 (hval 0 35 v0 rfl rfl) h0
  obtain ⟨J, M, R, U, rfl, rfl, rfl, hb⟩ := open35 (hval 1 35 v1 rfl rfl) h1
  clear hA0
  simp only [List.append_nil] at hW'
  obtain ⟨ρg, hG⟩ := Go.XR.good_of_laid hL
  have walk := Tryz.compares_in K N S T J M R U W (fun o o2 => (Go.XR.awake_calls (hG.ext (⟨by simp; omega, fun k hk => by rw [Below.heap_alloc _ _ _ (by simp; omega), Below.heap_alloc _ _ _ hk], rfl, rfl⟩ : Go.XR.ExtW W ((W.alloc o).alloc o2)))).mono fun e w' h => ⟨h.1, h.2.size, h.2.old, h.2.out⟩)
  refine walk.mono fun e W' ⟨he, hg⟩ => ?_
  subst he
  exact ⟨_, rfl, post_plain hW' (fun _ _ _ => trodAll_cons_mk (shut_bool Tryz.underlying4 _) trodAll_mk0)
    (fun _ => trodAll_cons_mk (shut35 ha) (trodAll_cons_mk (shut35 hb) trodAll_mk0)) (fun _ => rfl)
    hg (ok_one (by kernel_rfl) rfl (okWide_bool_mk Tryz.underlying4 _))⟩

set_option maxRecDepth 100000 in
theorem lifted (os : Os) (started : os.Started) (H : Type) (enc : TypeId × Value → H) (F : Stop.Interp) :
    ReturnsInHanded {} Tryz.checked os 5 .any ((OpenSpec.ofChange Rows.sqlComparesSpec).preRow enc Tryz.prog Tryz.f5 Rows.sqlComparesRow.domain false Rows.sqlComparesRow.laid) (((OpenSpec.ofChange Rows.sqlComparesSpec).at F).post enc Tryz.prog Tryz.f5 false true false false) := by
  obtain ⟨places, hx⟩ := reads os enc
  refine returnsInHanded_of_row (C := Tryz.checked) (s := OpenSpec.ofChange Rows.sqlComparesSpec) own started (by kernel_rfl) Tryz.func5
    (witness_row_atRef (enc := enc) (C := Tryz.checked) false (laidWorld os) wArgs (World.laidAll_os _ _ _) (vars_ok os) (rest_ok os) (args_ok os)
      (OpenSpec.preRow_of_cond 8 hx (by kernel_rfl) (fun k hk => by cases hk) (by kernel_rfl) (laid_met os))) ?_
  intro W base args ds gs before hval hW _ _ _ hL _ _
  exact contract H enc W base args ds gs before hval hW hL
end Go.Proofs.YtnmkgbomiillgaaGreatDoor.sqlCompares
