/- Part 28 of the proof. -/
import Derived.Test.YtnmkgbomiillgaaGreatDoorP13
import Derived.Test.YtnmkgbomiillgaaGreatDoorP25
import Derived.Test.YtnmkgbomiillgaaGreatDoorP26
import Derived.Test.YtnmkgbomiillgaaGreatDoorP27
import Derived.Test.YtnmkgbomiillgaaGreatDoorP24
import Derived.Test.YtnmkgbomiillgaaGreatDoorP19
import Derived.ChangeMaps5
import Derived.Lib.SmallJoins
/- SqlExprs: values that come in. -/
namespace Go.Proofs.YtnmkgbomiillgaaGreatDoor.sqlExprs
open Go.ChangeShapes Go.WideShapes Go.ChangeAt Go.RowKit Go.ChangeMaps Go.Joins Go.Deep
theorem g0_at {W : World} {s0 o0 k0 s2 o2 k2 : Nat} (h : Go.XR.Facts W s0 o0 k0 s2 o2 k2) : ∀ g d, XE.G0 g = some d → XE.GAt (XE.worldMem W (XE.inHeap W)) d g := by
  intro g d hg
  obtain ⟨h0, h4, h2⟩ := XE.gat_of h
  have hg : cond (Nat.beq g 2) (some (XE.GV.c XE.tabF)) (cond (Nat.beq g 0) (some (.d ⟨.sl .str, Go.XR.symB⟩)) (cond (Nat.beq g 4) (some (.d ⟨.sl .str, Go.XR.cmpB⟩)) none)) = some d := hg
  cases e2 : Nat.beq g 2 with
  | true =>
    rw [e2] at hg
    obtain rfl := Nat.eq_of_beq_eq_true e2
    cases hg; exact h2
  | false =>
    rw [e2] at hg
    cases e0 : Nat.beq g 0 with
    | true =>
      rw [e0] at hg
      obtain rfl := Nat.eq_of_beq_eq_true e0
      cases hg; exact h0
    | false =>
      rw [e0] at hg
      cases e4 : Nat.beq g 4 with
      | true =>
        rw [e4] at hg
        obtain rfl := Nat.eq_of_beq_eq_true e4
        cases hg; exact h4
      | false => rw [e4] at hg; cases hg
def Ts : List XE.Ty := [.sl XE.api_SqlNode]
theorem tys (j : Nat) (T : XE.Ty) (t : TypeId) (hT : Ts[j]? = some T) (ht : Tryz.f3.params.toList[j]? = some t) : XE.TyOk Tryz.prog t T := by
  rw [Tryz.params3] at ht
  match j, hT, ht with
  | 0, hT, ht =>
    obtain rfl := Option.some.inj (show some (XE.Ty.sl XE.api_SqlNode) = some T from hT)
    obtain rfl := Option.some.inj (show some 22 = some t from ht)
    exact XE.ty_t22
  | j + 1, hT, _ => cases (show none = some T from hT)
theorem readable : ∀ t ∈ Tryz.f3.params.toList, Tryz.prog.readableRec t = true ∧ t < Tryz.prog.types.size := by
  rw [Tryz.params3]
  intro t ht
  simp only [List.mem_cons, List.not_mem_nil, or_false] at ht
  rcases ht with rfl
  all_goals exact ⟨by kernel_rfl, Nat.lt_of_succ_le (Nat.le_of_ble_eq_true (by kernel_rfl))⟩
set_option maxRecDepth 100000 in
theorem contract (H : Type) (enc : TypeId × Value → H) (W : World) (base : Nat) (args : Array Value) (ds gs : List (DataW H)) (before : List MemPlace)
    (hval : ∀ (j : Nat) t v, Tryz.f3.params[j]? = some t → args[j]? = some v → Value.okWide Tryz.prog W .any base t v)
    (hW : DataW.Whole enc Tryz.prog Tryz.f3.params.toList Rows.sqlExprsSpec.vars false W args.toList ds gs before) (hL : laidMetH Tryz.prog Rows.sqlExprsRow.laid W) :
    Calls Tryz.prog 3 args W fun e W' => ∃ v, e = .returned v ∧ Rows.sqlExprsSpec.post enc Tryz.prog Tryz.f3 false true false false W args v W' := by
  have hW' := hW
  obtain ⟨p, q, hA0, hV, rfl, hfz, hnd⟩ := hW
  obtain ⟨rfl, rfl⟩ := trodVars_none hV
  have hlen : Tryz.f3.params.toList.length = Ts.length := by rw [Tryz.params3]; rfl
  obtain ⟨s0, o0, k0, s2, o2, k2, hF⟩ := Go.XR.facts_of_laid hL
  obtain ⟨x, hx1, hx2⟩ := XE.args_of Ts _ _ _ _ 0 hlen.symm tys (fun j T v hT hv => by
    have hj : j < Tryz.f3.params.toList.length := by rw [hlen]; exact (List.getElem?_eq_some_iff.1 hT).1
    exact XE.shape_of (tys j T _ hT (List.getElem?_eq_getElem hj)) (hval j _ v (by simpa using List.getElem?_eq_getElem hj) (by simpa using hv))) hA0
  refine (XE.law_calls (XE.law30_SqlExprs.sound 2000) rfl (Ts := Ts) rfl rfl rfl (fun x => ⟨true, XE.law_exprs x.1.1, HEq.rfl⟩) (g0_at hF) (by simpa using hx1) hx2).mono fun e W' ⟨he, hk⟩ => ?_
  subst he
  have hds : ∃ d0, ds = [d0] := by
    have : ∀ (ts : List TypeId) (vs : List Value) (ds : List (DataW H)) (p : List MemPlace), DataW.TrodAll enc Tryz.prog W 0 (fun _ => true) true ts vs ds p → ds.length = ts.length := by
      intro ts
      induction ts with
      | nil => intro vs ds p h; obtain ⟨rfl, rfl, rfl⟩ := trodAll_nil h; rfl
      | cons t ts ih => intro vs ds p h; obtain ⟨v, vs', d, ds', p, q, rfl, rfl, rfl, h1, h2⟩ := trodAll_cons h; simp [ih _ _ _ h2]
    have h := this _ _ _ _ hA0
    rw [Tryz.params3] at h
    match ds, h with
    | [d0], _ => exact ⟨_, rfl⟩
  obtain ⟨d0, rfl⟩ := hds
  exact ⟨_, rfl, XE.post_kept k1 readable rfl hW' (fun _ _ _ => trodAll_cons_mk (shut_bool Tryz.underlying4 _) trodAll_mk0) (fun _ => rfl) (fun _ => rfl) hk
    (ok_one (by kernel_rfl) rfl (okWide_bool_mk Tryz.underlying4 _))⟩
set_option maxRecDepth 100000 in
theorem lifted (os : Os) (started : os.Started) (H : Type) (enc : TypeId × Value → H) (F : Stop.Interp) :
    ReturnsInHanded {} Tryz.checked os 3 .any ((OpenSpec.ofChange Rows.sqlExprsSpec).preRow enc Tryz.prog Tryz.f3 Rows.sqlExprsRow.domain false Rows.sqlExprsRow.laid) (((OpenSpec.ofChange Rows.sqlExprsSpec).at F).post enc Tryz.prog Tryz.f3 false true false false) := by
  obtain ⟨places, hx⟩ := reads os enc
  refine returnsInHanded_of_row (C := Tryz.checked) (s := OpenSpec.ofChange Rows.sqlExprsSpec) own started (by kernel_rfl) Tryz.func3
    (witness_row_atRef (enc := enc) (C := Tryz.checked) false (laidWorld os) wArgs (World.laidAll_os _ _ _) (vars_ok os) (rest_ok os) (args_ok os)
      (OpenSpec.preRow_of_cond 8 hx (by kernel_rfl) (fun k hk => by cases hk) (by kernel_rfl) (laid_met os))) ?_
  intro W base args ds gs before hval hW _ _ _ hL _ _
  exact contract H enc W base args ds gs before hval hW hL
end Go.Proofs.YtnmkgbomiillgaaGreatDoor.sqlExprs
