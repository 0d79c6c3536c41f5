/- Part 25 of the proof. -/
import Derived.Test.YtnmkgbomiillgaaGreatDoorP12
import Derived.Test.YtnmkgbomiillgaaGreatDoorP11
import Derived.Test.YtnmkgbomiillgaaGreatDoorP20
import Derived.Test.YtnmkgbomiillgaaGreatDoorP24
import Derived.Test.YtnmkgbomiillgaaGreatDoorProg
import Derived.KernelRfl
/- The functions that SqlExprs reaches, as the evaluator sees them: printed. -/
set_option linter.unusedVariables false
namespace Go.XE
def tauL : List (Nat × Ty) := [(68, api_SqlNode), (3, .int .i64), (9, .str), (66, .sl (.int .i64)), (22, .sl api_SqlNode), (33, api_Number), (45, .sl .str), (122, .sl (.int .i64)), (121, .sl (.int .u8)), (25, .int .i64), (5, .int .u8)]
def tau0 (t : Nat) : Option Ty := lookTy t tauL
def pts0 : List Nat := []
def glob0 : Nat → Option D := fun _ => none
noncomputable abbrev P : Program := Proofs.Tryz.prog
def G0 : Nat → Option GV := fun g => match glob0 g with | some d => some (.d d) | none => cond (Nat.beq g 2) (some (.c tabF)) (cond (Nat.beq g 0) (some (.d ⟨.sl .str, Go.XR.symB⟩)) (cond (Nat.beq g 4) (some (.d ⟨.sl .str, Go.XR.cmpB⟩)) none))
theorem ty_t3 : TyOk P 3 (.int .i64) := ty_int (bytesOf P 3) (by kernel_rfl) (by kernel_rfl) (Nat.le_of_ble_eq_true (by kernel_rfl))
theorem ty_t9 : TyOk P 9 .str := ty_str (bytesOf P 9) (by kernel_rfl) (by kernel_rfl) (Nat.le_of_ble_eq_true (by kernel_rfl))
theorem ty_t66 : TyOk P 66 (.sl (.int .i64)) := ty_sl (et := 3) (bytesOf P 66) (by kernel_rfl) (by kernel_rfl) (Nat.le_of_ble_eq_true (by kernel_rfl)) (by decide) ty_t3
theorem ty_t68 : TyOk P 68 api_SqlNode := ty_pair (bytesOf P 68) (by kernel_rfl) (by kernel_rfl) (Nat.le_of_ble_eq_true (by kernel_rfl)) (row_cons (by decide) ty_t3 (row_cons (by decide) ty_t3 (row_cons (by decide) ty_t3 (row_cons (by decide) ty_t9 (row_cons (by decide) ty_t9 (row_cons (by decide) ty_t66 (row_nil)))))))
theorem ty_t22 : TyOk P 22 (.sl api_SqlNode) := ty_sl (et := 68) (bytesOf P 22) (by kernel_rfl) (by kernel_rfl) (Nat.le_of_ble_eq_true (by kernel_rfl)) (by decide) ty_t68
theorem ty_t33 : TyOk P 33 api_Number := ty_pair (bytesOf P 33) (by kernel_rfl) (by kernel_rfl) (Nat.le_of_ble_eq_true (by kernel_rfl)) (row_cons (by decide) ty_t3 (row_cons (by decide) ty_t3 (row_nil)))
theorem ty_t45 : TyOk P 45 (.sl .str) := ty_sl (et := 9) (bytesOf P 45) (by kernel_rfl) (by kernel_rfl) (Nat.le_of_ble_eq_true (by kernel_rfl)) (by decide) ty_t9
theorem ty_t25 : TyOk P 25 (.int .i64) := ty_int (bytesOf P 25) (by kernel_rfl) (by kernel_rfl) (Nat.le_of_ble_eq_true (by kernel_rfl))
theorem ty_t122 : TyOk P 122 (.sl (.int .i64)) := ty_sl (et := 25) (bytesOf P 122) (by kernel_rfl) (by kernel_rfl) (Nat.le_of_ble_eq_true (by kernel_rfl)) (by decide) ty_t25
theorem ty_t5 : TyOk P 5 (.int .u8) := ty_int (bytesOf P 5) (by kernel_rfl) (by kernel_rfl) (Nat.le_of_ble_eq_true (by kernel_rfl))
theorem ty_t121 : TyOk P 121 (.sl (.int .u8)) := ty_sl (et := 5) (bytesOf P 121) (by kernel_rfl) (by kernel_rfl) (Nat.le_of_ble_eq_true (by kernel_rfl)) (by decide) ty_t5
theorem tau_all : ∀ p ∈ tauL, TyOk P p.1 p.2 := List.forall_mem_cons.2 ⟨ty_t68, List.forall_mem_cons.2 ⟨ty_t3, List.forall_mem_cons.2 ⟨ty_t9, List.forall_mem_cons.2 ⟨ty_t66, List.forall_mem_cons.2 ⟨ty_t22, List.forall_mem_cons.2 ⟨ty_t33, List.forall_mem_cons.2 ⟨ty_t45, List.forall_mem_cons.2 ⟨ty_t122, List.forall_mem_cons.2 ⟨ty_t121, List.forall_mem_cons.2 ⟨ty_t25, List.forall_mem_cons.2 ⟨ty_t5, (fun _ h => nomatch h)⟩⟩⟩⟩⟩⟩⟩⟩⟩⟩⟩
theorem tau_ok : ∀ t T, tau0 t = some T → TyOk P t T := fun t T h => tau_all (t, T) (lookTy_mem h)
theorem pts_all : ∀ t ∈ pts0, ∃ e, P.underlying t = some (.pointer e) := (fun _ h => nomatch h)
theorem pts_ok : ∀ t, hasN t pts0 = true → ∃ e, P.underlying t = some (.pointer e) := fun t h => pts_all t (hasN_mem.1 h)
theorem glob_ok : ∀ (g : Nat) (d : D), glob0 g = some d → G0 g = some (.d d) := fun g d h => by unfold G0; rw [h]
theorem hm : P.follows .mixedOrders = true := by kernel_rfl
theorem law30_awake.en : Enter P 6 := enter_of (fn := Proofs.Tryz.f6) (by kernel_rfl) (by kernel_rfl) (by kernel_rfl)
noncomputable def law30_awake.sp (k : Nat) : Spec := { head := ⟨[], [], 68, 0⟩, R := .bool, F := fun x => law30_awake  }
theorem law30_awake.sound (k : Nat) : Sound P G0 6 (law30_awake.sp k) := awake_sound rfl rfl rfl
theorem strings_Fields.en : Enter P 185 := enter_of (fn := Proofs.Tryz.f185) (by kernel_rfl) (by kernel_rfl) (by kernel_rfl)
noncomputable def strings_Fields.sp (k : Nat) : Spec := { head := ⟨[(0, .dat .str [])], [], 106, 0⟩, R := .sl .str, F := fun x => strings_Fields x.1.1 }
theorem strings_Fields.sound (k : Nat) : Sound P G0 185 (strings_Fields.sp k) := fields185 rfl
theorem sql_isTree.en : Enter P 20 := enter_of (fn := Proofs.Tryz.f20) (by kernel_rfl) (by kernel_rfl) (by kernel_rfl)
noncomputable def sql_isTree.sp (k : Nat) : Spec := { head := ⟨[(0, .dat (.sl api_SqlNode) [])], [], 47, 0⟩, R := .bool, F := fun x => sql_isTree x.1.1 }
theorem sql_isTree.sound (k : Nat) : Sound P G0 20 (sql_isTree.sp k) := isTree_sound enter20
noncomputable def law30_fewExpr.l0.L : Loop := { head := ⟨[(0, .dat (.sl api_SqlNode) []), (3, .dat (.int .i64) [])], [], 29, 5⟩, id := 0, out := ⟨[], [], 29, 5⟩, back := some ⟨[(2, .dat .bool [])], [], 29, 5⟩ }
noncomputable def law30_fewExpr.l0.H (k : Nat) (x : law30_fewExpr.l0.L.head.H) : Option law30_fewExpr.l0.L.Y := law30_fewExpr.l0 k (x.1.1) (x.1.2.1)
noncomputable def law30_fewExpr.sp (k : Nat) : Spec := { head := ⟨[(0, .dat (.sl api_SqlNode) [])], [], 29, 0⟩, R := .bool, F := fun x => law30_fewExpr k x.1.1 }
noncomputable def law30_fewExpr.tbl : List LoopE := [⟨4, law30_fewExpr.l0.L, law30_fewExpr.l0.H⟩]
noncomputable def law30_fewExpr.Γ (k : Nat) : Env := { τ := tau0, pts := pts0, glob := glob0, Φ := fun f => lookS f [], loops := loopsOf (law30_fewExpr.tbl) k, res := [2], vars := 12 }
theorem law30_fewExpr.l0.ev (k : Nat) (x : law30_fewExpr.l0.L.head.H) : Out.round law30_fewExpr.l0.L (law30_fewExpr.l0.H k) (evCode (law30_fewExpr.Γ k) (loopAt 4 Proofs.Tryz.f7) (law30_fewExpr.l0.L.head.st x)) = law30_fewExpr.l0.H (k + 1) x := by kernel_rfl
theorem law30_fewExpr.ev (k : Nat) (x : (law30_fewExpr.sp k).head.H) : evFn (law30_fewExpr.Γ k) (law30_fewExpr.sp k) Proofs.Tryz.f7 x = (law30_fewExpr.sp k).F x := by kernel_rfl
theorem law30_fewExpr.lp : Loops (law30_fewExpr.Γ) 12 0 (law30_fewExpr.tbl) Proofs.Tryz.f7 (bodyOf Proofs.Tryz.f7) := loops_of (by kernel_rfl) (by kernel_rfl) (fun _ => rfl) (fun _ => rfl) (fun _ _ _ _ h => nomatch h) ⟨by kernel_rfl, fun _ => rfl, fun k x => (law30_fewExpr.l0.ev k x).symm, trivial⟩
theorem law30_fewExpr.gok (k : Nat) : GOk P G0 (law30_fewExpr.Γ k) := ⟨tau_ok, pts_ok, glob_ok, phi_of trivial⟩
theorem law30_fewExpr.en : Enter P 7 := enter_of (fn := Proofs.Tryz.f7) (by kernel_rfl) (by kernel_rfl) (by kernel_rfl)
theorem law30_fewExpr.sound (k : Nat) : Sound P G0 7 (law30_fewExpr.sp k) := fn_sound hm (Γ := law30_fewExpr.Γ) (k := k) (by kernel_rfl) law30_fewExpr.en (by kernel_rfl) law30_fewExpr.lp (fun j _ => law30_fewExpr.gok j) (fun _ _ _ _ _ h => nomatch h) fun x y h => (law30_fewExpr.ev k x).trans h
noncomputable def sql_cond.sp (k : Nat) : Spec := { head := ⟨[(0, .dat .bool []), (1, .dat (.int .i64) [])], [], 7, 0⟩, R := .int .i64, total := true, F := fun x => some (sql_cond x.1.1 x.1.2.1) }
noncomputable def sql_cond.tbl : List LoopE := []
noncomputable def sql_cond.Γ (k : Nat) : Env := { τ := tau0, pts := pts0, glob := glob0, Φ := fun f => lookS f [], loops := loopsOf (sql_cond.tbl) k, res := [4], vars := 16 }
theorem sql_cond.ev (k : Nat) (x : (sql_cond.sp k).head.H) : evFn (sql_cond.Γ k) (sql_cond.sp k) Proofs.Tryz.f19 x = (sql_cond.sp k).F x := by kernel_rfl
theorem sql_cond.lp : Loops (sql_cond.Γ) 16 0 (sql_cond.tbl) Proofs.Tryz.f19 (bodyOf Proofs.Tryz.f19) := loops_of (by kernel_rfl) (by kernel_rfl) (fun _ => rfl) (fun _ => rfl) (fun _ _ _ _ h => nomatch h) trivial
theorem sql_cond.gok (k : Nat) : GOk P G0 (sql_cond.Γ k) := ⟨tau_ok, pts_ok, glob_ok, phi_of trivial⟩
theorem sql_cond.en : Enter P 19 := enter_of (fn := Proofs.Tryz.f19) (by kernel_rfl) (by kernel_rfl) (by kernel_rfl)
theorem sql_cond.sound (k : Nat) : Sound P G0 19 (sql_cond.sp k) := fn_sound hm (Γ := sql_cond.Γ) (k := k) (by kernel_rfl) sql_cond.en (by kernel_rfl) sql_cond.lp (fun j _ => sql_cond.gok j) (fun _ _ _ _ _ h => nomatch h) fun x y h => (sql_cond.ev k x).trans h
noncomputable def sql_in.sp (k : Nat) : Spec := { head := ⟨[(0, .dat (.int .i64) []), (1, .dat (.int .i64) []), (2, .dat (.int .i64) [])], [], 15, 0⟩, R := .bool, total := true, F := fun x => some (sql_in x.1.1 x.1.2.1 x.1.2.2.1) }
noncomputable def sql_in.tbl : List LoopE := []
noncomputable def sql_in.Γ (k : Nat) : Env := { τ := tau0, pts := pts0, glob := glob0, Φ := fun f => lookS f [], loops := loopsOf (sql_in.tbl) k, res := [6], vars := 64 }
theorem sql_in.ev (k : Nat) (x : (sql_in.sp k).head.H) : evFn (sql_in.Γ k) (sql_in.sp k) Proofs.Tryz.f26 x = (sql_in.sp k).F x := by kernel_rfl
theorem sql_in.lp : Loops (sql_in.Γ) 64 0 (sql_in.tbl) Proofs.Tryz.f26 (bodyOf Proofs.Tryz.f26) := loops_of (by kernel_rfl) (by kernel_rfl) (fun _ => rfl) (fun _ => rfl) (fun _ _ _ _ h => nomatch h) trivial
theorem sql_in.gok (k : Nat) : GOk P G0 (sql_in.Γ k) := ⟨tau_ok, pts_ok, glob_ok, phi_of trivial⟩
theorem sql_in.en : Enter P 26 := enter_of (fn := Proofs.Tryz.f26) (by kernel_rfl) (by kernel_rfl) (by kernel_rfl)
theorem sql_in.sound (k : Nat) : Sound P G0 26 (sql_in.sp k) := fn_sound hm (Γ := sql_in.Γ) (k := k) (by kernel_rfl) sql_in.en (by kernel_rfl) sql_in.lp (fun j _ => sql_in.gok j) (fun _ _ _ _ _ h => nomatch h) fun x y h => (sql_in.ev k x).trans h
noncomputable def sql_first.l0.L : Loop := { head := ⟨[(5, .dat (.sl (.int .i64)) []), (6, .dat (.int .i64) []), (7, .dat (.int .i64) [])], [], 15, 4⟩, id := 0, out := ⟨[], [], 15, 4⟩, back := some ⟨[(2, .dat (.int .i64) [])], [], 15, 4⟩ }
noncomputable def sql_first.l0.H (k : Nat) (x : sql_first.l0.L.head.H) : Option sql_first.l0.L.Y := sql_first.l0 k (x.1.1) (x.1.2.1) (x.1.2.2.1)
noncomputable def sql_first.sp (k : Nat) : Spec := { head := ⟨[(0, .dat (.sl (.int .i64)) [])], [], 15, 0⟩, R := .int .i64, F := fun x => sql_first k x.1.1 }
noncomputable def sql_first.tbl : List LoopE := [⟨2, sql_first.l0.L, sql_first.l0.H⟩]
noncomputable def sql_first.Γ (k : Nat) : Env := { τ := tau0, pts := pts0, glob := glob0, Φ := fun f => lookS f [], loops := loopsOf (sql_first.tbl) k, res := [2], vars := 20 }
theorem sql_first.l0.ev (k : Nat) (x : sql_first.l0.L.head.H) : Out.round sql_first.l0.L (sql_first.l0.H k) (evCode (sql_first.Γ k) (loopAt 2 Proofs.Tryz.f27) (sql_first.l0.L.head.st x)) = sql_first.l0.H (k + 1) x := by kernel_rfl
theorem sql_first.ev (k : Nat) (x : (sql_first.sp k).head.H) : evFn (sql_first.Γ k) (sql_first.sp k) Proofs.Tryz.f27 x = (sql_first.sp k).F x := by kernel_rfl
theorem sql_first.lp : Loops (sql_first.Γ) 20 0 (sql_first.tbl) Proofs.Tryz.f27 (bodyOf Proofs.Tryz.f27) := loops_of (by kernel_rfl) (by kernel_rfl) (fun _ => rfl) (fun _ => rfl) (fun _ _ _ _ h => nomatch h) ⟨by kernel_rfl, fun _ => rfl, fun k x => (sql_first.l0.ev k x).symm, trivial⟩
theorem sql_first.gok (k : Nat) : GOk P G0 (sql_first.Γ k) := ⟨tau_ok, pts_ok, glob_ok, phi_of trivial⟩
theorem sql_first.en : Enter P 27 := enter_of (fn := Proofs.Tryz.f27) (by kernel_rfl) (by kernel_rfl) (by kernel_rfl)
theorem sql_first.sound (k : Nat) : Sound P G0 27 (sql_first.sp k) := fn_sound hm (Γ := sql_first.Γ) (k := k) (by kernel_rfl) sql_first.en (by kernel_rfl) sql_first.lp (fun j _ => sql_first.gok j) (fun _ _ _ _ _ h => nomatch h) fun x y h => (sql_first.ev k x).trans h
noncomputable def sql_arity.sp (k : Nat) : Spec := { head := ⟨[(0, .dat (.int .i64) [])], [], 21, 0⟩, R := api_Number, multi := true, total := true, F := fun x => some (sql_arity x.1.1) }
noncomputable def sql_arity.tbl : List LoopE := []
noncomputable def sql_arity.Γ (k : Nat) : Env := { τ := tau0, pts := pts0, glob := glob0, Φ := fun f => lookS f [], loops := loopsOf (sql_arity.tbl) k, res := [2, 3], vars := 528428 }
theorem sql_arity.ev (k : Nat) (x : (sql_arity.sp k).head.H) : evFn (sql_arity.Γ k) (sql_arity.sp k) Proofs.Tryz.f45 x = (sql_arity.sp k).F x := by kernel_rfl
theorem sql_arity.lp : Loops (sql_arity.Γ) 528428 0 (sql_arity.tbl) Proofs.Tryz.f45 (bodyOf Proofs.Tryz.f45) := loops_of (by kernel_rfl) (by kernel_rfl) (fun _ => rfl) (fun _ => rfl) (fun _ _ _ _ h => nomatch h) trivial
theorem sql_arity.gok (k : Nat) : GOk P G0 (sql_arity.Γ k) := ⟨tau_ok, pts_ok, glob_ok, phi_of trivial⟩
theorem sql_arity.en : Enter P 45 := enter_of (fn := Proofs.Tryz.f45) (by kernel_rfl) (by kernel_rfl) (by kernel_rfl)
theorem sql_arity.sound (k : Nat) : Sound P G0 45 (sql_arity.sp k) := fn_sound hm (Γ := sql_arity.Γ) (k := k) (by kernel_rfl) sql_arity.en (by kernel_rfl) sql_arity.lp (fun j _ => sql_arity.gok j) (fun _ _ _ _ _ h => nomatch h) fun x y h => (sql_arity.ev k x).trans h
noncomputable def slices_IndexFunc_int_int.l0.L : Loop := { head := ⟨[(0, .dat (.sl (.int .i64)) []), (1, .fun1 (.int .i64) .bool), (7, .dat (.int .i64) []), (8, .dat (.int .i64) [])], [], 19, 4⟩, id := 0, out := ⟨[], [], 19, 4⟩, back := some ⟨[(4, .dat (.int .i64) [])], [], 19, 4⟩ }
noncomputable def slices_IndexFunc_int_int.l0.H (k : Nat) (x : slices_IndexFunc_int_int.l0.L.head.H) : Option slices_IndexFunc_int_int.l0.L.Y := slices_IndexFunc_int_int.l0 k (x.1.1) (x.1.2.1) (x.1.2.2.1) (x.1.2.2.2.1)
noncomputable def slices_IndexFunc_int_int.sp (k : Nat) : Spec := { head := ⟨[(0, .dat (.sl (.int .i64)) []), (1, .fun1 (.int .i64) .bool)], [], 19, 0⟩, R := .int .i64, F := fun x => slices_IndexFunc_int_int k x.1.1 x.1.2.1 }
noncomputable def slices_IndexFunc_int_int.tbl : List LoopE := [⟨2, slices_IndexFunc_int_int.l0.L, slices_IndexFunc_int_int.l0.H⟩]
noncomputable def slices_IndexFunc_int_int.Γ (k : Nat) : Env := { τ := tau0, pts := pts0, glob := glob0, Φ := fun f => lookS f [], loops := loopsOf (slices_IndexFunc_int_int.tbl) k, res := [4], vars := 48 }
theorem slices_IndexFunc_int_int.l0.ev (k : Nat) (x : slices_IndexFunc_int_int.l0.L.head.H) : Out.round slices_IndexFunc_int_int.l0.L (slices_IndexFunc_int_int.l0.H k) (evCode (slices_IndexFunc_int_int.Γ k) (loopAt 2 Proofs.Tryz.f97) (slices_IndexFunc_int_int.l0.L.head.st x)) = slices_IndexFunc_int_int.l0.H (k + 1) x := by kernel_rfl
theorem slices_IndexFunc_int_int.ev (k : Nat) (x : (slices_IndexFunc_int_int.sp k).head.H) : evFn (slices_IndexFunc_int_int.Γ k) (slices_IndexFunc_int_int.sp k) Proofs.Tryz.f97 x = (slices_IndexFunc_int_int.sp k).F x := by kernel_rfl
theorem slices_IndexFunc_int_int.lp : Loops (slices_IndexFunc_int_int.Γ) 48 0 (slices_IndexFunc_int_int.tbl) Proofs.Tryz.f97 (bodyOf Proofs.Tryz.f97) := loops_of (by kernel_rfl) (by kernel_rfl) (fun _ => rfl) (fun _ => rfl) (fun _ _ _ _ h => nomatch h) ⟨by kernel_rfl, fun _ => rfl, fun k x => (slices_IndexFunc_int_int.l0.ev k x).symm, trivial⟩
theorem slices_IndexFunc_int_int.gok (k : Nat) : GOk P G0 (slices_IndexFunc_int_int.Γ k) := ⟨tau_ok, pts_ok, glob_ok, phi_of trivial⟩
theorem slices_IndexFunc_int_int.en : Enter P 97 := enter_of (fn := Proofs.Tryz.f97) (by kernel_rfl) (by kernel_rfl) (by kernel_rfl)
theorem slices_IndexFunc_int_int.sound (k : Nat) : Sound P G0 97 (slices_IndexFunc_int_int.sp k) := fn_sound hm (Γ := slices_IndexFunc_int_int.Γ) (k := k) (by kernel_rfl) slices_IndexFunc_int_int.en (by kernel_rfl) slices_IndexFunc_int_int.lp (fun j _ => slices_IndexFunc_int_int.gok j) (fun _ _ _ _ _ h => nomatch h) fun x y h => (slices_IndexFunc_int_int.ev k x).trans h
noncomputable def slices_ContainsFunc_int_int.sp (k : Nat) : Spec := { head := ⟨[(0, .dat (.sl (.int .i64)) []), (1, .fun1 (.int .i64) .bool)], [], 9, 0⟩, R := .bool, F := fun x => slices_ContainsFunc_int_int k x.1.1 x.1.2.1 }
noncomputable def slices_ContainsFunc_int_int.tbl : List LoopE := []
noncomputable def slices_ContainsFunc_int_int.Γ (k : Nat) : Env := { τ := tau0, pts := pts0, glob := glob0, Φ := fun f => lookS f [(97, slices_IndexFunc_int_int.sp k)], loops := loopsOf (slices_ContainsFunc_int_int.tbl) k, res := [4], vars := 16 }
theorem slices_ContainsFunc_int_int.ev (k : Nat) (x : (slices_ContainsFunc_int_int.sp k).head.H) : evFn (slices_ContainsFunc_int_int.Γ k) (slices_ContainsFunc_int_int.sp k) Proofs.Tryz.f46 x = (slices_ContainsFunc_int_int.sp k).F x := by kernel_rfl
theorem slices_ContainsFunc_int_int.lp : Loops (slices_ContainsFunc_int_int.Γ) 16 0 (slices_ContainsFunc_int_int.tbl) Proofs.Tryz.f46 (bodyOf Proofs.Tryz.f46) := loops_of (by kernel_rfl) (by kernel_rfl) (fun _ => rfl) (fun _ => rfl) (fun _ _ _ _ h => nomatch h) trivial
theorem slices_ContainsFunc_int_int.gok (k : Nat) : GOk P G0 (slices_ContainsFunc_int_int.Γ k) := ⟨tau_ok, pts_ok, glob_ok, phi_of ⟨slices_IndexFunc_int_int.sound k, trivial⟩⟩
theorem slices_ContainsFunc_int_int.en : Enter P 46 := enter_of (fn := Proofs.Tryz.f46) (by kernel_rfl) (by kernel_rfl) (by kernel_rfl)
theorem slices_ContainsFunc_int_int.sound (k : Nat) : Sound P G0 46 (slices_ContainsFunc_int_int.sp k) := fn_sound hm (Γ := slices_ContainsFunc_int_int.Γ) (k := k) (by kernel_rfl) slices_ContainsFunc_int_int.en (by kernel_rfl) slices_ContainsFunc_int_int.lp (fun j _ => slices_ContainsFunc_int_int.gok j) (fun _ _ _ _ _ h => nomatch h) fun x y h => (slices_ContainsFunc_int_int.ev k x).trans h
noncomputable def numeric_cond.sp (k : Nat) : Spec := { head := ⟨[(0, .dat .bool []), (1, .dat (.int .i64) [])], [], 7, 0⟩, R := .int .i64, total := true, F := fun x => some (numeric_cond x.1.1 x.1.2.1) }
noncomputable def numeric_cond.tbl : List LoopE := []
noncomputable def numeric_cond.Γ (k : Nat) : Env := { τ := tau0, pts := pts0, glob := glob0, Φ := fun f => lookS f [], loops := loopsOf (numeric_cond.tbl) k, res := [4], vars := 16 }
theorem numeric_cond.ev (k : Nat) (x : (numeric_cond.sp k).head.H) : evFn (numeric_cond.Γ k) (numeric_cond.sp k) Proofs.Tryz.f98 x = (numeric_cond.sp k).F x := by kernel_rfl
theorem numeric_cond.lp : Loops (numeric_cond.Γ) 16 0 (numeric_cond.tbl) Proofs.Tryz.f98 (bodyOf Proofs.Tryz.f98) := loops_of (by kernel_rfl) (by kernel_rfl) (fun _ => rfl) (fun _ => rfl) (fun _ _ _ _ h => nomatch h) trivial
theorem numeric_cond.gok (k : Nat) : GOk P G0 (numeric_cond.Γ k) := ⟨tau_ok, pts_ok, glob_ok, phi_of trivial⟩
theorem numeric_cond.en : Enter P 98 := enter_of (fn := Proofs.Tryz.f98) (by kernel_rfl) (by kernel_rfl) (by kernel_rfl)
theorem numeric_cond.sound (k : Nat) : Sound P G0 98 (numeric_cond.sp k) := fn_sound hm (Γ := numeric_cond.Γ) (k := k) (by kernel_rfl) numeric_cond.en (by kernel_rfl) numeric_cond.lp (fun j _ => numeric_cond.gok j) (fun _ _ _ _ _ h => nomatch h) fun x y h => (numeric_cond.ev k x).trans h
noncomputable def numeric_in.sp (k : Nat) : Spec := { head := ⟨[(0, .dat (.int .i64) []), (1, .dat (.int .i64) []), (2, .dat (.int .i64) [])], [], 15, 0⟩, R := .bool, total := true, F := fun x => some (numeric_in x.1.1 x.1.2.1 x.1.2.2.1) }
noncomputable def numeric_in.tbl : List LoopE := []
noncomputable def numeric_in.Γ (k : Nat) : Env := { τ := tau0, pts := pts0, glob := glob0, Φ := fun f => lookS f [], loops := loopsOf (numeric_in.tbl) k, res := [6], vars := 64 }
theorem numeric_in.ev (k : Nat) (x : (numeric_in.sp k).head.H) : evFn (numeric_in.Γ k) (numeric_in.sp k) Proofs.Tryz.f99 x = (numeric_in.sp k).F x := by kernel_rfl
theorem numeric_in.lp : Loops (numeric_in.Γ) 64 0 (numeric_in.tbl) Proofs.Tryz.f99 (bodyOf Proofs.Tryz.f99) := loops_of (by kernel_rfl) (by kernel_rfl) (fun _ => rfl) (fun _ => rfl) (fun _ _ _ _ h => nomatch h) trivial
theorem numeric_in.gok (k : Nat) : GOk P G0 (numeric_in.Γ k) := ⟨tau_ok, pts_ok, glob_ok, phi_of trivial⟩
theorem numeric_in.en : Enter P 99 := enter_of (fn := Proofs.Tryz.f99) (by kernel_rfl) (by kernel_rfl) (by kernel_rfl)
theorem numeric_in.sound (k : Nat) : Sound P G0 99 (numeric_in.sp k) := fn_sound hm (Γ := numeric_in.Γ) (k := k) (by kernel_rfl) numeric_in.en (by kernel_rfl) numeric_in.lp (fun j _ => numeric_in.gok j) (fun _ _ _ _ _ h => nomatch h) fun x y h => (numeric_in.ev k x).trans h
noncomputable def numeric_CheckNumber.sp (k : Nat) : Spec := { head := ⟨[(0, .dat api_Number [])], [], 14, 0⟩, R := .int .i64, total := true, F := fun x => some (numeric_CheckNumber x.1.1) }
noncomputable def numeric_CheckNumber.tbl : List LoopE := []
noncomputable def numeric_CheckNumber.Γ (k : Nat) : Env := { τ := tau0, pts := pts0, glob := glob0, Φ := fun f => lookS f [(98, numeric_cond.sp k), (99, numeric_in.sp k)], loops := loopsOf (numeric_CheckNumber.tbl) k, res := [2], vars := 4 }
theorem numeric_CheckNumber.ev (k : Nat) (x : (numeric_CheckNumber.sp k).head.H) : evFn (numeric_CheckNumber.Γ k) (numeric_CheckNumber.sp k) Proofs.Tryz.f48 x = (numeric_CheckNumber.sp k).F x := by kernel_rfl
theorem numeric_CheckNumber.lp : Loops (numeric_CheckNumber.Γ) 4 0 (numeric_CheckNumber.tbl) Proofs.Tryz.f48 (bodyOf Proofs.Tryz.f48) := loops_of (by kernel_rfl) (by kernel_rfl) (fun _ => rfl) (fun _ => rfl) (fun _ _ _ _ h => nomatch h) trivial
theorem numeric_CheckNumber.gok (k : Nat) : GOk P G0 (numeric_CheckNumber.Γ k) := ⟨tau_ok, pts_ok, glob_ok, phi_of ⟨numeric_cond.sound k, ⟨numeric_in.sound k, trivial⟩⟩⟩
theorem numeric_CheckNumber.en : Enter P 48 := enter_of (fn := Proofs.Tryz.f48) (by kernel_rfl) (by kernel_rfl) (by kernel_rfl)
theorem numeric_CheckNumber.sound (k : Nat) : Sound P G0 48 (numeric_CheckNumber.sp k) := fn_sound hm (Γ := numeric_CheckNumber.Γ) (k := k) (by kernel_rfl) numeric_CheckNumber.en (by kernel_rfl) numeric_CheckNumber.lp (fun j _ => numeric_CheckNumber.gok j) (fun _ _ _ _ _ h => nomatch h) fun x y h => (numeric_CheckNumber.ev k x).trans h
noncomputable def sql_formErr.sp (k : Nat) : Spec := { head := ⟨[(0, .dat api_SqlNode [])], [], 63, 0⟩, R := .int .i64, total := true, F := fun x => some (sql_formErr x.1.1) }
noncomputable def sql_formErr.tbl : List LoopE := []
noncomputable def sql_formErr.Γ (k : Nat) : Env := { τ := tau0, pts := pts0, glob := glob0, Φ := fun f => lookS f [(19, sql_cond.sp k)], loops := loopsOf (sql_formErr.tbl) k, res := [2], vars := 28 }
theorem sql_formErr.ev (k : Nat) (x : (sql_formErr.sp k).head.H) : evFn (sql_formErr.Γ k) (sql_formErr.sp k) Proofs.Tryz.f49 x = (sql_formErr.sp k).F x := by kernel_rfl
theorem sql_formErr.lp : Loops (sql_formErr.Γ) 28 0 (sql_formErr.tbl) Proofs.Tryz.f49 (bodyOf Proofs.Tryz.f49) := loops_of (by kernel_rfl) (by kernel_rfl) (fun _ => rfl) (fun _ => rfl) (fun _ _ _ _ h => nomatch h) trivial
theorem sql_formErr.gok (k : Nat) : GOk P G0 (sql_formErr.Γ k) := ⟨tau_ok, pts_ok, glob_ok, phi_of ⟨sql_cond.sound k, trivial⟩⟩
theorem sql_formErr.en : Enter P 49 := enter_of (fn := Proofs.Tryz.f49) (by kernel_rfl) (by kernel_rfl) (by kernel_rfl)
theorem sql_formErr.sound (k : Nat) : Sound P G0 49 (sql_formErr.sp k) := fn_sound hm (Γ := sql_formErr.Γ) (k := k) (by kernel_rfl) sql_formErr.en (by kernel_rfl) sql_formErr.lp (fun j _ => sql_formErr.gok j) (fun _ _ _ _ _ h => nomatch h) fun x y h => (sql_formErr.ev k x).trans h
noncomputable def sql_isLetter.sp (k : Nat) : Spec := { head := ⟨[(0, .dat (.int .u8) [])], [], 21, 0⟩, R := .bool, total := true, F := fun x => some (sql_isLetter x.1.1) }
noncomputable def sql_isLetter.tbl : List LoopE := []
noncomputable def sql_isLetter.Γ (k : Nat) : Env := { τ := tau0, pts := pts0, glob := glob0, Φ := fun f => lookS f [], loops := loopsOf (sql_isLetter.tbl) k, res := [2], vars := 4 }
theorem sql_isLetter.ev (k : Nat) (x : (sql_isLetter.sp k).head.H) : evFn (sql_isLetter.Γ k) (sql_isLetter.sp k) Proofs.Tryz.f100 x = (sql_isLetter.sp k).F x := by kernel_rfl
theorem sql_isLetter.lp : Loops (sql_isLetter.Γ) 4 0 (sql_isLetter.tbl) Proofs.Tryz.f100 (bodyOf Proofs.Tryz.f100) := loops_of (by kernel_rfl) (by kernel_rfl) (fun _ => rfl) (fun _ => rfl) (fun _ _ _ _ h => nomatch h) trivial
theorem sql_isLetter.gok (k : Nat) : GOk P G0 (sql_isLetter.Γ k) := ⟨tau_ok, pts_ok, glob_ok, phi_of trivial⟩
theorem sql_isLetter.en : Enter P 100 := enter_of (fn := Proofs.Tryz.f100) (by kernel_rfl) (by kernel_rfl) (by kernel_rfl)
theorem sql_isLetter.sound (k : Nat) : Sound P G0 100 (sql_isLetter.sp k) := fn_sound hm (Γ := sql_isLetter.Γ) (k := k) (by kernel_rfl) sql_isLetter.en (by kernel_rfl) sql_isLetter.lp (fun j _ => sql_isLetter.gok j) (fun _ _ _ _ _ h => nomatch h) fun x y h => (sql_isLetter.ev k x).trans h
noncomputable def slices_Index_string_string.l0.L : Loop := { head := ⟨[(0, .dat (.sl .str) []), (1, .dat .str []), (7, .dat (.int .i64) []), (8, .dat (.int .i64) [])], [], 19, 4⟩, id := 0, out := ⟨[], [], 19, 4⟩, back := some ⟨[(4, .dat (.int .i64) [])], [], 19, 4⟩ }
noncomputable def slices_Index_string_string.l0.H (k : Nat) (x : slices_Index_string_string.l0.L.head.H) : Option slices_Index_string_string.l0.L.Y := slices_Index_string_string.l0 k (x.1.1) (x.1.2.1) (x.1.2.2.1) (x.1.2.2.2.1)
noncomputable def slices_Index_string_string.sp (k : Nat) : Spec := { head := ⟨[(0, .dat (.sl .str) []), (1, .dat .str [])], [], 19, 0⟩, R := .int .i64, F := fun x => slices_Index_string_string k x.1.1 x.1.2.1 }
noncomputable def slices_Index_string_string.tbl : List LoopE := [⟨2, slices_Index_string_string.l0.L, slices_Index_string_string.l0.H⟩]
noncomputable def slices_Index_string_string.Γ (k : Nat) : Env := { τ := tau0, pts := pts0, glob := glob0, Φ := fun f => lookS f [], loops := loopsOf (slices_Index_string_string.tbl) k, res := [4], vars := 48 }
theorem slices_Index_string_string.l0.ev (k : Nat) (x : slices_Index_string_string.l0.L.head.H) : Out.round slices_Index_string_string.l0.L (slices_Index_string_string.l0.H k) (evCode (slices_Index_string_string.Γ k) (loopAt 2 Proofs.Tryz.f184) (slices_Index_string_string.l0.L.head.st x)) = slices_Index_string_string.l0.H (k + 1) x := by kernel_rfl
theorem slices_Index_string_string.ev (k : Nat) (x : (slices_Index_string_string.sp k).head.H) : evFn (slices_Index_string_string.Γ k) (slices_Index_string_string.sp k) Proofs.Tryz.f184 x = (slices_Index_string_string.sp k).F x := by kernel_rfl
theorem slices_Index_string_string.lp : Loops (slices_Index_string_string.Γ) 48 0 (slices_Index_string_string.tbl) Proofs.Tryz.f184 (bodyOf Proofs.Tryz.f184) := loops_of (by kernel_rfl) (by kernel_rfl) (fun _ => rfl) (fun _ => rfl) (fun _ _ _ _ h => nomatch h) ⟨by kernel_rfl, fun _ => rfl, fun k x => (slices_Index_string_string.l0.ev k x).symm, trivial⟩
theorem slices_Index_string_string.gok (k : Nat) : GOk P G0 (slices_Index_string_string.Γ k) := ⟨tau_ok, pts_ok, glob_ok, phi_of trivial⟩
theorem slices_Index_string_string.en : Enter P 184 := enter_of (fn := Proofs.Tryz.f184) (by kernel_rfl) (by kernel_rfl) (by kernel_rfl)
theorem slices_Index_string_string.sound (k : Nat) : Sound P G0 184 (slices_Index_string_string.sp k) := fn_sound hm (Γ := slices_Index_string_string.Γ) (k := k) (by kernel_rfl) slices_Index_string_string.en (by kernel_rfl) slices_Index_string_string.lp (fun j _ => slices_Index_string_string.gok j) (fun _ _ _ _ _ h => nomatch h) fun x y h => (slices_Index_string_string.ev k x).trans h
noncomputable def slices_Contains_string_string.sp (k : Nat) : Spec := { head := ⟨[(0, .dat (.sl .str) []), (1, .dat .str [])], [], 9, 0⟩, R := .bool, F := fun x => slices_Contains_string_string k x.1.1 x.1.2.1 }
noncomputable def slices_Contains_string_string.tbl : List LoopE := []
noncomputable def slices_Contains_string_string.Γ (k : Nat) : Env := { τ := tau0, pts := pts0, glob := glob0, Φ := fun f => lookS f [(184, slices_Index_string_string.sp k)], loops := loopsOf (slices_Contains_string_string.tbl) k, res := [4], vars := 16 }
theorem slices_Contains_string_string.ev (k : Nat) (x : (slices_Contains_string_string.sp k).head.H) : evFn (slices_Contains_string_string.Γ k) (slices_Contains_string_string.sp k) Proofs.Tryz.f101 x = (slices_Contains_string_string.sp k).F x := by kernel_rfl
theorem slices_Contains_string_string.lp : Loops (slices_Contains_string_string.Γ) 16 0 (slices_Contains_string_string.tbl) Proofs.Tryz.f101 (bodyOf Proofs.Tryz.f101) := loops_of (by kernel_rfl) (by kernel_rfl) (fun _ => rfl) (fun _ => rfl) (fun _ _ _ _ h => nomatch h) trivial
theorem slices_Contains_string_string.gok (k : Nat) : GOk P G0 (slices_Contains_string_string.Γ k) := ⟨tau_ok, pts_ok, glob_ok, phi_of ⟨slices_Index_string_string.sound k, trivial⟩⟩
theorem slices_Contains_string_string.en : Enter P 101 := enter_of (fn := Proofs.Tryz.f101) (by kernel_rfl) (by kernel_rfl) (by kernel_rfl)
theorem slices_Contains_string_string.sound (k : Nat) : Sound P G0 101 (slices_Contains_string_string.sp k) := fn_sound hm (Γ := slices_Contains_string_string.Γ) (k := k) (by kernel_rfl) slices_Contains_string_string.en (by kernel_rfl) slices_Contains_string_string.lp (fun j _ => slices_Contains_string_string.gok j) (fun _ _ _ _ _ h => nomatch h) fun x y h => (slices_Contains_string_string.ev k x).trans h
noncomputable def sql_reserved.sp (k : Nat) : Spec := { head := ⟨[], [], 2, 0⟩, R := .sl .str, F := fun x => sql_reserved  }
noncomputable def sql_reserved.tbl : List LoopE := []
noncomputable def sql_reserved.Γ (k : Nat) : Env := { τ := tau0, pts := pts0, glob := glob0, Φ := fun f => lookS f [(185, strings_Fields.sp k)], loops := loopsOf (sql_reserved.tbl) k, res := [0], vars := 1 }
theorem sql_reserved.ev (k : Nat) (x : (sql_reserved.sp k).head.H) : evFn (sql_reserved.Γ k) (sql_reserved.sp k) Proofs.Tryz.f102 x = (sql_reserved.sp k).F x := by kernel_rfl
theorem sql_reserved.lp : Loops (sql_reserved.Γ) 1 0 (sql_reserved.tbl) Proofs.Tryz.f102 (bodyOf Proofs.Tryz.f102) := loops_of (by kernel_rfl) (by kernel_rfl) (fun _ => rfl) (fun _ => rfl) (fun _ _ _ _ h => nomatch h) trivial
theorem sql_reserved.gok (k : Nat) : GOk P G0 (sql_reserved.Γ k) := ⟨tau_ok, pts_ok, glob_ok, phi_of ⟨strings_Fields.sound k, trivial⟩⟩
theorem sql_reserved.en : Enter P 102 := enter_of (fn := Proofs.Tryz.f102) (by kernel_rfl) (by kernel_rfl) (by kernel_rfl)
theorem sql_reserved.sound (k : Nat) : Sound P G0 102 (sql_reserved.sp k) := fn_sound hm (Γ := sql_reserved.Γ) (k := k) (by kernel_rfl) sql_reserved.en (by kernel_rfl) sql_reserved.lp (fun j _ => sql_reserved.gok j) (fun _ _ _ _ _ h => nomatch h) fun x y h => (sql_reserved.ev k x).trans h
noncomputable def slices_IndexFunc_byte_byte.l0.L : Loop := { head := ⟨[(0, .dat (.sl (.int .u8)) []), (1, .fun1 (.int .u8) .bool), (7, .dat (.int .i64) []), (8, .dat (.int .i64) [])], [], 19, 4⟩, id := 0, out := ⟨[], [], 19, 4⟩, back := some ⟨[(4, .dat (.int .i64) [])], [], 19, 4⟩ }
noncomputable def slices_IndexFunc_byte_byte.l0.H (k : Nat) (x : slices_IndexFunc_byte_byte.l0.L.head.H) : Option slices_IndexFunc_byte_byte.l0.L.Y := slices_IndexFunc_byte_byte.l0 k (x.1.1) (x.1.2.1) (x.1.2.2.1) (x.1.2.2.2.1)
noncomputable def slices_IndexFunc_byte_byte.sp (k : Nat) : Spec := { head := ⟨[(0, .dat (.sl (.int .u8)) []), (1, .fun1 (.int .u8) .bool)], [], 19, 0⟩, R := .int .i64, F := fun x => slices_IndexFunc_byte_byte k x.1.1 x.1.2.1 }
noncomputable def slices_IndexFunc_byte_byte.tbl : List LoopE := [⟨2, slices_IndexFunc_byte_byte.l0.L, slices_IndexFunc_byte_byte.l0.H⟩]
noncomputable def slices_IndexFunc_byte_byte.Γ (k : Nat) : Env := { τ := tau0, pts := pts0, glob := glob0, Φ := fun f => lookS f [], loops := loopsOf (slices_IndexFunc_byte_byte.tbl) k, res := [4], vars := 48 }
theorem slices_IndexFunc_byte_byte.l0.ev (k : Nat) (x : slices_IndexFunc_byte_byte.l0.L.head.H) : Out.round slices_IndexFunc_byte_byte.l0.L (slices_IndexFunc_byte_byte.l0.H k) (evCode (slices_IndexFunc_byte_byte.Γ k) (loopAt 2 Proofs.Tryz.f186) (slices_IndexFunc_byte_byte.l0.L.head.st x)) = slices_IndexFunc_byte_byte.l0.H (k + 1) x := by kernel_rfl
theorem slices_IndexFunc_byte_byte.ev (k : Nat) (x : (slices_IndexFunc_byte_byte.sp k).head.H) : evFn (slices_IndexFunc_byte_byte.Γ k) (slices_IndexFunc_byte_byte.sp k) Proofs.Tryz.f186 x = (slices_IndexFunc_byte_byte.sp k).F x := by kernel_rfl
theorem slices_IndexFunc_byte_byte.lp : Loops (slices_IndexFunc_byte_byte.Γ) 48 0 (slices_IndexFunc_byte_byte.tbl) Proofs.Tryz.f186 (bodyOf Proofs.Tryz.f186) := loops_of (by kernel_rfl) (by kernel_rfl) (fun _ => rfl) (fun _ => rfl) (fun _ _ _ _ h => nomatch h) ⟨by kernel_rfl, fun _ => rfl, fun k x => (slices_IndexFunc_byte_byte.l0.ev k x).symm, trivial⟩
theorem slices_IndexFunc_byte_byte.gok (k : Nat) : GOk P G0 (slices_IndexFunc_byte_byte.Γ k) := ⟨tau_ok, pts_ok, glob_ok, phi_of trivial⟩
theorem slices_IndexFunc_byte_byte.en : Enter P 186 := enter_of (fn := Proofs.Tryz.f186) (by kernel_rfl) (by kernel_rfl) (by kernel_rfl)
theorem slices_IndexFunc_byte_byte.sound (k : Nat) : Sound P G0 186 (slices_IndexFunc_byte_byte.sp k) := fn_sound hm (Γ := slices_IndexFunc_byte_byte.Γ) (k := k) (by kernel_rfl) slices_IndexFunc_byte_byte.en (by kernel_rfl) slices_IndexFunc_byte_byte.lp (fun j _ => slices_IndexFunc_byte_byte.gok j) (fun _ _ _ _ _ h => nomatch h) fun x y h => (slices_IndexFunc_byte_byte.ev k x).trans h
noncomputable def slices_ContainsFunc_byte_byte.sp (k : Nat) : Spec := { head := ⟨[(0, .dat (.sl (.int .u8)) []), (1, .fun1 (.int .u8) .bool)], [], 9, 0⟩, R := .bool, F := fun x => slices_ContainsFunc_byte_byte k x.1.1 x.1.2.1 }
noncomputable def slices_ContainsFunc_byte_byte.tbl : List LoopE := []
noncomputable def slices_ContainsFunc_byte_byte.Γ (k : Nat) : Env := { τ := tau0, pts := pts0, glob := glob0, Φ := fun f => lookS f [(186, slices_IndexFunc_byte_byte.sp k)], loops := loopsOf (slices_ContainsFunc_byte_byte.tbl) k, res := [4], vars := 16 }
theorem slices_ContainsFunc_byte_byte.ev (k : Nat) (x : (slices_ContainsFunc_byte_byte.sp k).head.H) : evFn (slices_ContainsFunc_byte_byte.Γ k) (slices_ContainsFunc_byte_byte.sp k) Proofs.Tryz.f103 x = (slices_ContainsFunc_byte_byte.sp k).F x := by kernel_rfl
theorem slices_ContainsFunc_byte_byte.lp : Loops (slices_ContainsFunc_byte_byte.Γ) 16 0 (slices_ContainsFunc_byte_byte.tbl) Proofs.Tryz.f103 (bodyOf Proofs.Tryz.f103) := loops_of (by kernel_rfl) (by kernel_rfl) (fun _ => rfl) (fun _ => rfl) (fun _ _ _ _ h => nomatch h) trivial
theorem slices_ContainsFunc_byte_byte.gok (k : Nat) : GOk P G0 (slices_ContainsFunc_byte_byte.Γ k) := ⟨tau_ok, pts_ok, glob_ok, phi_of ⟨slices_IndexFunc_byte_byte.sound k, trivial⟩⟩
theorem slices_ContainsFunc_byte_byte.en : Enter P 103 := enter_of (fn := Proofs.Tryz.f103) (by kernel_rfl) (by kernel_rfl) (by kernel_rfl)
theorem slices_ContainsFunc_byte_byte.sound (k : Nat) : Sound P G0 103 (slices_ContainsFunc_byte_byte.sp k) := fn_sound hm (Γ := slices_ContainsFunc_byte_byte.Γ) (k := k) (by kernel_rfl) slices_ContainsFunc_byte_byte.en (by kernel_rfl) slices_ContainsFunc_byte_byte.lp (fun j _ => slices_ContainsFunc_byte_byte.gok j) (fun _ _ _ _ _ h => nomatch h) fun x y h => (slices_ContainsFunc_byte_byte.ev k x).trans h
noncomputable def sql_isOther.sp (k : Nat) : Spec := { head := ⟨[(0, .dat (.int .u8) [])], [], 17, 0⟩, R := .bool, total := true, F := fun x => some (sql_isOther x.1.1) }
noncomputable def sql_isOther.tbl : List LoopE := []
noncomputable def sql_isOther.Γ (k : Nat) : Env := { τ := tau0, pts := pts0, glob := glob0, Φ := fun f => lookS f [(100, sql_isLetter.sp k)], loops := loopsOf (sql_isOther.tbl) k, res := [2], vars := 4 }
theorem sql_isOther.ev (k : Nat) (x : (sql_isOther.sp k).head.H) : evFn (sql_isOther.Γ k) (sql_isOther.sp k) Proofs.Tryz.f105 x = (sql_isOther.sp k).F x := by kernel_rfl
theorem sql_isOther.lp : Loops (sql_isOther.Γ) 4 0 (sql_isOther.tbl) Proofs.Tryz.f105 (bodyOf Proofs.Tryz.f105) := loops_of (by kernel_rfl) (by kernel_rfl) (fun _ => rfl) (fun _ => rfl) (fun _ _ _ _ h => nomatch h) trivial
theorem sql_isOther.gok (k : Nat) : GOk P G0 (sql_isOther.Γ k) := ⟨tau_ok, pts_ok, glob_ok, phi_of ⟨sql_isLetter.sound k, trivial⟩⟩
theorem sql_isOther.en : Enter P 105 := enter_of (fn := Proofs.Tryz.f105) (by kernel_rfl) (by kernel_rfl) (by kernel_rfl)
theorem sql_isOther.sound (k : Nat) : Sound P G0 105 (sql_isOther.sp k) := fn_sound hm (Γ := sql_isOther.Γ) (k := k) (by kernel_rfl) sql_isOther.en (by kernel_rfl) sql_isOther.lp (fun j _ => sql_isOther.gok j) (fun _ _ _ _ _ h => nomatch h) fun x y h => (sql_isOther.ev k x).trans h
noncomputable def sql_isName_1.sp (k : Nat) : Spec := { head := ⟨[(0, .dat (.int .u8) [])], [], 6, 0⟩, R := .bool, total := true, F := fun x => some (sql_isName_1 x.1.1) }
noncomputable def sql_isName_1.tbl : List LoopE := []
noncomputable def sql_isName_1.Γ (k : Nat) : Env := { τ := tau0, pts := pts0, glob := glob0, Φ := fun f => lookS f [(105, sql_isOther.sp k)], loops := loopsOf (sql_isName_1.tbl) k, res := [2], vars := 4 }
theorem sql_isName_1.ev (k : Nat) (x : (sql_isName_1.sp k).head.H) : evFn (sql_isName_1.Γ k) (sql_isName_1.sp k) Proofs.Tryz.f104 x = (sql_isName_1.sp k).F x := by kernel_rfl
theorem sql_isName_1.lp : Loops (sql_isName_1.Γ) 4 0 (sql_isName_1.tbl) Proofs.Tryz.f104 (bodyOf Proofs.Tryz.f104) := loops_of (by kernel_rfl) (by kernel_rfl) (fun _ => rfl) (fun _ => rfl) (fun _ _ _ _ h => nomatch h) trivial
theorem sql_isName_1.gok (k : Nat) : GOk P G0 (sql_isName_1.Γ k) := ⟨tau_ok, pts_ok, glob_ok, phi_of ⟨sql_isOther.sound k, trivial⟩⟩
theorem sql_isName_1.en : Enter P 104 := enter_of (fn := Proofs.Tryz.f104) (by kernel_rfl) (by kernel_rfl) (by kernel_rfl)
theorem sql_isName_1.sound (k : Nat) : Sound P G0 104 (sql_isName_1.sp k) := fn_sound hm (Γ := sql_isName_1.Γ) (k := k) (by kernel_rfl) sql_isName_1.en (by kernel_rfl) sql_isName_1.lp (fun j _ => sql_isName_1.gok j) (fun _ _ _ _ _ h => nomatch h) fun x y h => (sql_isName_1.ev k x).trans h
noncomputable def sql_isName.sp (k : Nat) : Spec := { head := ⟨[(0, .dat .str []), (1, .dat (.int .i64) [])], [], 28, 0⟩, R := .bool, F := fun x => sql_isName k x.1.1 x.1.2.1 }
noncomputable def sql_isName.tbl : List LoopE := []
noncomputable def sql_isName.Γ (k : Nat) : Env := { τ := tau0, pts := pts0, glob := glob0, Φ := fun f => lookS f [(100, sql_isLetter.sp k), (101, slices_Contains_string_string.sp k), (102, sql_reserved.sp k), (103, slices_ContainsFunc_byte_byte.sp k), (104, sql_isName_1.sp k)], loops := loopsOf (sql_isName.tbl) k, res := [4], vars := 16 }
theorem sql_isName.ev (k : Nat) (x : (sql_isName.sp k).head.H) : evFn (sql_isName.Γ k) (sql_isName.sp k) Proofs.Tryz.f50 x = (sql_isName.sp k).F x := by kernel_rfl
theorem sql_isName.lp : Loops (sql_isName.Γ) 16 0 (sql_isName.tbl) Proofs.Tryz.f50 (bodyOf Proofs.Tryz.f50) := loops_of (by kernel_rfl) (by kernel_rfl) (fun _ => rfl) (fun _ => rfl) (fun _ _ _ _ h => nomatch h) trivial
theorem sql_isName.gok (k : Nat) : GOk P G0 (sql_isName.Γ k) := ⟨tau_ok, pts_ok, glob_ok, phi_of ⟨sql_isLetter.sound k, ⟨slices_Contains_string_string.sound k, ⟨sql_reserved.sound k, ⟨slices_ContainsFunc_byte_byte.sound k, ⟨sql_isName_1.sound k, trivial⟩⟩⟩⟩⟩⟩
theorem sql_isName.en : Enter P 50 := enter_of (fn := Proofs.Tryz.f50) (by kernel_rfl) (by kernel_rfl) (by kernel_rfl)
theorem sql_isName.sound (k : Nat) : Sound P G0 50 (sql_isName.sp k) := fn_sound hm (Γ := sql_isName.Γ) (k := k) (by kernel_rfl) sql_isName.en (by kernel_rfl) sql_isName.lp (fun j _ => sql_isName.gok j) (fun _ _ _ _ _ h => nomatch h) fun x y h => (sql_isName.ev k x).trans h
noncomputable def sql_isShown_1.sp (k : Nat) : Spec := { head := ⟨[(0, .dat (.int .u8) [])], [], 9, 0⟩, R := .bool, total := true, F := fun x => some (sql_isShown_1 x.1.1) }
noncomputable def sql_isShown_1.tbl : List LoopE := []
noncomputable def sql_isShown_1.Γ (k : Nat) : Env := { τ := tau0, pts := pts0, glob := glob0, Φ := fun f => lookS f [], loops := loopsOf (sql_isShown_1.tbl) k, res := [2], vars := 4 }
theorem sql_isShown_1.ev (k : Nat) (x : (sql_isShown_1.sp k).head.H) : evFn (sql_isShown_1.Γ k) (sql_isShown_1.sp k) Proofs.Tryz.f106 x = (sql_isShown_1.sp k).F x := by kernel_rfl
theorem sql_isShown_1.lp : Loops (sql_isShown_1.Γ) 4 0 (sql_isShown_1.tbl) Proofs.Tryz.f106 (bodyOf Proofs.Tryz.f106) := loops_of (by kernel_rfl) (by kernel_rfl) (fun _ => rfl) (fun _ => rfl) (fun _ _ _ _ h => nomatch h) trivial
theorem sql_isShown_1.gok (k : Nat) : GOk P G0 (sql_isShown_1.Γ k) := ⟨tau_ok, pts_ok, glob_ok, phi_of trivial⟩
theorem sql_isShown_1.en : Enter P 106 := enter_of (fn := Proofs.Tryz.f106) (by kernel_rfl) (by kernel_rfl) (by kernel_rfl)
theorem sql_isShown_1.sound (k : Nat) : Sound P G0 106 (sql_isShown_1.sp k) := fn_sound hm (Γ := sql_isShown_1.Γ) (k := k) (by kernel_rfl) sql_isShown_1.en (by kernel_rfl) sql_isShown_1.lp (fun j _ => sql_isShown_1.gok j) (fun _ _ _ _ _ h => nomatch h) fun x y h => (sql_isShown_1.ev k x).trans h
noncomputable def sql_isShown.sp (k : Nat) : Spec := { head := ⟨[(0, .dat .str [])], [], 7, 0⟩, R := .bool, F := fun x => sql_isShown k x.1.1 }
noncomputable def sql_isShown.tbl : List LoopE := []
noncomputable def sql_isShown.Γ (k : Nat) : Env := { τ := tau0, pts := pts0, glob := glob0, Φ := fun f => lookS f [(103, slices_ContainsFunc_byte_byte.sp k), (106, sql_isShown_1.sp k)], loops := loopsOf (sql_isShown.tbl) k, res := [2], vars := 4 }
theorem sql_isShown.ev (k : Nat) (x : (sql_isShown.sp k).head.H) : evFn (sql_isShown.Γ k) (sql_isShown.sp k) Proofs.Tryz.f51 x = (sql_isShown.sp k).F x := by kernel_rfl
theorem sql_isShown.lp : Loops (sql_isShown.Γ) 4 0 (sql_isShown.tbl) Proofs.Tryz.f51 (bodyOf Proofs.Tryz.f51) := loops_of (by kernel_rfl) (by kernel_rfl) (fun _ => rfl) (fun _ => rfl) (fun _ _ _ _ h => nomatch h) trivial
theorem sql_isShown.gok (k : Nat) : GOk P G0 (sql_isShown.Γ k) := ⟨tau_ok, pts_ok, glob_ok, phi_of ⟨slices_ContainsFunc_byte_byte.sound k, ⟨sql_isShown_1.sound k, trivial⟩⟩⟩
theorem sql_isShown.en : Enter P 51 := enter_of (fn := Proofs.Tryz.f51) (by kernel_rfl) (by kernel_rfl) (by kernel_rfl)
theorem sql_isShown.sound (k : Nat) : Sound P G0 51 (sql_isShown.sp k) := fn_sound hm (Γ := sql_isShown.Γ) (k := k) (by kernel_rfl) sql_isShown.en (by kernel_rfl) sql_isShown.lp (fun j _ => sql_isShown.gok j) (fun _ _ _ _ _ h => nomatch h) fun x y h => (sql_isShown.ev k x).trans h
noncomputable def sql_nodeErr_1.sp (k : Nat) : Spec := { head := ⟨[(0, .dat (.int .i64) []), (1, .rp (.int .i64))], [], 9, 0⟩, R := .bool, total := true, F := fun x => some (sql_nodeErr_1 x.1.1 x.1.2.1) }
noncomputable def sql_nodeErr_1.tbl : List LoopE := []
noncomputable def sql_nodeErr_1.Γ (k : Nat) : Env := { τ := tau0, pts := pts0, glob := glob0, Φ := fun f => lookS f [(26, sql_in.sp k)], loops := loopsOf (sql_nodeErr_1.tbl) k, res := [3], vars := 8 }
theorem sql_nodeErr_1.ev (k : Nat) (x : (sql_nodeErr_1.sp k).head.H) : evFn (sql_nodeErr_1.Γ k) (sql_nodeErr_1.sp k) Proofs.Tryz.f47 x = (sql_nodeErr_1.sp k).F x := by kernel_rfl
theorem sql_nodeErr_1.lp : Loops (sql_nodeErr_1.Γ) 8 0 (sql_nodeErr_1.tbl) Proofs.Tryz.f47 (bodyOf Proofs.Tryz.f47) := loops_of (by kernel_rfl) (by kernel_rfl) (fun _ => rfl) (fun _ => rfl) (fun _ _ _ _ h => nomatch h) trivial
theorem sql_nodeErr_1.gok (k : Nat) : GOk P G0 (sql_nodeErr_1.Γ k) := ⟨tau_ok, pts_ok, glob_ok, phi_of ⟨sql_in.sound k, trivial⟩⟩
theorem sql_nodeErr_1.en : Enter P 47 := enter_of (fn := Proofs.Tryz.f47) (by kernel_rfl) (by kernel_rfl) (by kernel_rfl)
theorem sql_nodeErr_1.sound (k : Nat) : Sound P G0 47 (sql_nodeErr_1.sp k) := fn_sound hm (Γ := sql_nodeErr_1.Γ) (k := k) (by kernel_rfl) sql_nodeErr_1.en (by kernel_rfl) sql_nodeErr_1.lp (fun j _ => sql_nodeErr_1.gok j) (fun _ _ _ _ _ h => nomatch h) fun x y h => (sql_nodeErr_1.ev k x).trans h
noncomputable def sql_nodeErr.sp (k : Nat) : Spec := { head := ⟨[(0, .dat api_SqlNode []), (1, .dat (.int .i64) [])], [], 106, 0⟩, R := .int .i64, F := fun x => sql_nodeErr k x.1.1 x.1.2.1 }
noncomputable def sql_nodeErr.tbl : List LoopE := []
noncomputable def sql_nodeErr.Γ (k : Nat) : Env := { τ := tau0, pts := pts0, glob := glob0, Φ := fun f => lookS f [(19, sql_cond.sp k), (26, sql_in.sp k), (27, sql_first.sp k), (45, sql_arity.sp k), (46, slices_ContainsFunc_int_int.sp k), (47, sql_nodeErr_1.sp k), (48, numeric_CheckNumber.sp k), (49, sql_formErr.sp k), (50, sql_isName.sp k), (51, sql_isShown.sp k)], loops := loopsOf (sql_nodeErr.tbl) k, res := [4], vars := 2475889523303726289088676336 }
theorem sql_nodeErr.ev (k : Nat) (x : (sql_nodeErr.sp k).head.H) : evFn (sql_nodeErr.Γ k) (sql_nodeErr.sp k) Proofs.Tryz.f18 x = (sql_nodeErr.sp k).F x := by kernel_rfl
theorem sql_nodeErr.lp : Loops (sql_nodeErr.Γ) 2475889523303726289088676336 0 (sql_nodeErr.tbl) Proofs.Tryz.f18 (bodyOf Proofs.Tryz.f18) := loops_of (by kernel_rfl) (by kernel_rfl) (fun _ => rfl) (fun _ => rfl) (fun _ _ _ _ h => nomatch h) trivial
theorem sql_nodeErr.gok (k : Nat) : GOk P G0 (sql_nodeErr.Γ k) := ⟨tau_ok, pts_ok, glob_ok, phi_of ⟨sql_cond.sound k, ⟨sql_in.sound k, ⟨sql_first.sound k, ⟨sql_arity.sound k, ⟨slices_ContainsFunc_int_int.sound k, ⟨sql_nodeErr_1.sound k, ⟨numeric_CheckNumber.sound k, ⟨sql_formErr.sound k, ⟨sql_isName.sound k, ⟨sql_isShown.sound k, trivial⟩⟩⟩⟩⟩⟩⟩⟩⟩⟩⟩
theorem sql_nodeErr.en : Enter P 18 := enter_of (fn := Proofs.Tryz.f18) (by kernel_rfl) (by kernel_rfl) (by kernel_rfl)
theorem sql_nodeErr.sound (k : Nat) : Sound P G0 18 (sql_nodeErr.sp k) := fn_sound hm (Γ := sql_nodeErr.Γ) (k := k) (by kernel_rfl) sql_nodeErr.en (by kernel_rfl) sql_nodeErr.lp (fun j _ => sql_nodeErr.gok j) (fun _ _ _ _ _ h => nomatch h) fun x y h => (sql_nodeErr.ev k x).trans h
noncomputable def sql_CheckExpr.l0.L : Loop := { head := ⟨[(0, .dat (.sl api_SqlNode) []), (12, .dat (.sl api_SqlNode) []), (13, .dat (.int .i64) []), (14, .dat (.int .i64) [])], [], 30, 10⟩, id := 0, out := ⟨[(0, .dat (.sl api_SqlNode) [])], [], 30, 10⟩, back := some ⟨[(2, .dat (.int .i64) [])], [], 30, 10⟩ }
noncomputable def sql_CheckExpr.l0.H (k : Nat) (x : sql_CheckExpr.l0.L.head.H) : Option sql_CheckExpr.l0.L.Y := sql_CheckExpr.l0 k (x.1.1) (x.1.2.1) (x.1.2.2.1) (x.1.2.2.2.1)
noncomputable def sql_CheckExpr.sp (k : Nat) : Spec := { head := ⟨[(0, .dat (.sl api_SqlNode) [])], [], 30, 0⟩, R := .int .i64, F := fun x => sql_CheckExpr k x.1.1 }
noncomputable def sql_CheckExpr.tbl : List LoopE := [⟨6, sql_CheckExpr.l0.L, sql_CheckExpr.l0.H⟩]
noncomputable def sql_CheckExpr.Γ (k : Nat) : Env := { τ := tau0, pts := pts0, glob := glob0, Φ := fun f => lookS f [(18, sql_nodeErr.sp k), (19, sql_cond.sp k), (20, sql_isTree.sp k)], loops := loopsOf (sql_CheckExpr.tbl) k, res := [2], vars := 44 }
theorem sql_CheckExpr.l0.ev (k : Nat) (x : sql_CheckExpr.l0.L.head.H) : Out.round sql_CheckExpr.l0.L (sql_CheckExpr.l0.H k) (evCode (sql_CheckExpr.Γ k) (loopAt 6 Proofs.Tryz.f8) (sql_CheckExpr.l0.L.head.st x)) = sql_CheckExpr.l0.H (k + 1) x := by kernel_rfl
theorem sql_CheckExpr.ev (k : Nat) (x : (sql_CheckExpr.sp k).head.H) : evFn (sql_CheckExpr.Γ k) (sql_CheckExpr.sp k) Proofs.Tryz.f8 x = (sql_CheckExpr.sp k).F x := by kernel_rfl
theorem sql_CheckExpr.lp : Loops (sql_CheckExpr.Γ) 44 0 (sql_CheckExpr.tbl) Proofs.Tryz.f8 (bodyOf Proofs.Tryz.f8) := loops_of (by kernel_rfl) (by kernel_rfl) (fun _ => rfl) (fun _ => rfl) (fun _ _ _ _ h => nomatch h) ⟨by kernel_rfl, fun _ => rfl, fun k x => (sql_CheckExpr.l0.ev k x).symm, trivial⟩
theorem sql_CheckExpr.gok (k : Nat) : GOk P G0 (sql_CheckExpr.Γ k) := ⟨tau_ok, pts_ok, glob_ok, phi_of ⟨sql_nodeErr.sound k, ⟨sql_cond.sound k, ⟨sql_isTree.sound k, trivial⟩⟩⟩⟩
theorem sql_CheckExpr.en : Enter P 8 := enter_of (fn := Proofs.Tryz.f8) (by kernel_rfl) (by kernel_rfl) (by kernel_rfl)
theorem sql_CheckExpr.sound (k : Nat) : Sound P G0 8 (sql_CheckExpr.sp k) := fn_sound hm (Γ := sql_CheckExpr.Γ) (k := k) (by kernel_rfl) sql_CheckExpr.en (by kernel_rfl) sql_CheckExpr.lp (fun j _ => sql_CheckExpr.gok j) (fun _ _ _ _ _ h => nomatch h) fun x y h => (sql_CheckExpr.ev k x).trans h
noncomputable def base_CopyInts.sp (k : Nat) : Spec := { head := ⟨[(0, .dat (.sl (.int .i64)) [])], [], 5, 0⟩, R := .sl (.int .i64), tips := [0], F := fun x => base_CopyInts x.1.1 }
noncomputable def base_CopyInts.tbl : List LoopE := []
noncomputable def base_CopyInts.Γ (k : Nat) : Env := { τ := tau0, pts := pts0, glob := glob0, Φ := fun f => lookS f [], loops := loopsOf (base_CopyInts.tbl) k, res := [2], vars := 4 }
theorem base_CopyInts.ev (k : Nat) (x : (base_CopyInts.sp k).head.H) : evFn (base_CopyInts.Γ k) (base_CopyInts.sp k) Proofs.Tryz.f21 x = (base_CopyInts.sp k).F x := by kernel_rfl
theorem base_CopyInts.lp : Loops (base_CopyInts.Γ) 4 0 (base_CopyInts.tbl) Proofs.Tryz.f21 (bodyOf Proofs.Tryz.f21) := loops_of (by kernel_rfl) (by kernel_rfl) (fun _ => rfl) (fun _ => rfl) (fun _ _ _ _ h => nomatch h) trivial
theorem base_CopyInts.gok (k : Nat) : GOk P G0 (base_CopyInts.Γ k) := ⟨tau_ok, pts_ok, glob_ok, phi_of trivial⟩
theorem base_CopyInts.en : Enter P 21 := enter_of (fn := Proofs.Tryz.f21) (by kernel_rfl) (by kernel_rfl) (by kernel_rfl)
theorem base_CopyInts.sound (k : Nat) : Sound P G0 21 (base_CopyInts.sp k) := fn_sound hm (Γ := base_CopyInts.Γ) (k := k) (by kernel_rfl) base_CopyInts.en (by kernel_rfl) base_CopyInts.lp (fun j _ => base_CopyInts.gok j) (fun _ _ _ _ _ h => nomatch h) fun x y h => (base_CopyInts.ev k x).trans h
noncomputable def ref30_OwnExpr.l0.L : Loop := { head := ⟨[(0, .dat (.sl api_SqlNode) []), (3, .dat (.sl api_SqlNode) [0]), (4, .dat (.int .i64) [])], [], 25, 3⟩, id := 0, out := ⟨[(3, .dat (.sl api_SqlNode) [0])], [], 25, 3⟩, back := none }
noncomputable def ref30_OwnExpr.l0.H (k : Nat) (x : ref30_OwnExpr.l0.L.head.H) : Option ref30_OwnExpr.l0.L.Y := ref30_OwnExpr.l0 k (x.1.1) (x.1.2.1) (x.1.2.2.1)
noncomputable def ref30_OwnExpr.sp (k : Nat) : Spec := { head := ⟨[(0, .dat (.sl api_SqlNode) [])], [], 25, 0⟩, R := .sl api_SqlNode, tips := [0], F := fun x => ref30_OwnExpr k x.1.1 }
noncomputable def ref30_OwnExpr.tbl : List LoopE := [⟨3, ref30_OwnExpr.l0.L, ref30_OwnExpr.l0.H⟩]
noncomputable def ref30_OwnExpr.Γ (k : Nat) : Env := { τ := tau0, pts := pts0, glob := glob0, Φ := fun f => lookS f [(21, base_CopyInts.sp k)], loops := loopsOf (ref30_OwnExpr.tbl) k, res := [2], vars := 28 }
theorem ref30_OwnExpr.l0.ev (k : Nat) (x : ref30_OwnExpr.l0.L.head.H) : Out.round ref30_OwnExpr.l0.L (ref30_OwnExpr.l0.H k) (evCode (ref30_OwnExpr.Γ k) (loopAt 3 Proofs.Tryz.f9) (ref30_OwnExpr.l0.L.head.st x)) = ref30_OwnExpr.l0.H (k + 1) x := by kernel_rfl
theorem ref30_OwnExpr.ev (k : Nat) (x : (ref30_OwnExpr.sp k).head.H) : evFn (ref30_OwnExpr.Γ k) (ref30_OwnExpr.sp k) Proofs.Tryz.f9 x = (ref30_OwnExpr.sp k).F x := by kernel_rfl
theorem ref30_OwnExpr.lp : Loops (ref30_OwnExpr.Γ) 28 0 (ref30_OwnExpr.tbl) Proofs.Tryz.f9 (bodyOf Proofs.Tryz.f9) := loops_of (by kernel_rfl) (by kernel_rfl) (fun _ => rfl) (fun _ => rfl) (fun _ _ _ _ h => nomatch h) ⟨by kernel_rfl, fun _ => rfl, fun k x => (ref30_OwnExpr.l0.ev k x).symm, trivial⟩
theorem ref30_OwnExpr.gok (k : Nat) : GOk P G0 (ref30_OwnExpr.Γ k) := ⟨tau_ok, pts_ok, glob_ok, phi_of ⟨base_CopyInts.sound k, trivial⟩⟩
theorem ref30_OwnExpr.en : Enter P 9 := enter_of (fn := Proofs.Tryz.f9) (by kernel_rfl) (by kernel_rfl) (by kernel_rfl)
theorem ref30_OwnExpr.sound (k : Nat) : Sound P G0 9 (ref30_OwnExpr.sp k) := fn_sound hm (Γ := ref30_OwnExpr.Γ) (k := k) (by kernel_rfl) ref30_OwnExpr.en (by kernel_rfl) ref30_OwnExpr.lp (fun j _ => ref30_OwnExpr.gok j) (fun _ _ _ _ _ h => nomatch h) fun x y h => (ref30_OwnExpr.ev k x).trans h
noncomputable def base_Within.sp (k : Nat) : Spec := { head := ⟨[(0, .dat (.int .i64) []), (1, .dat (.int .i64) []), (2, .dat (.int .i64) [])], [], 15, 0⟩, R := .bool, total := true, F := fun x => some (base_Within x.1.1 x.1.2.1 x.1.2.2.1) }
noncomputable def base_Within.tbl : List LoopE := []
noncomputable def base_Within.Γ (k : Nat) : Env := { τ := tau0, pts := pts0, glob := glob0, Φ := fun f => lookS f [], loops := loopsOf (base_Within.tbl) k, res := [6], vars := 64 }
theorem base_Within.ev (k : Nat) (x : (base_Within.sp k).head.H) : evFn (base_Within.Γ k) (base_Within.sp k) Proofs.Tryz.f30 x = (base_Within.sp k).F x := by kernel_rfl
theorem base_Within.lp : Loops (base_Within.Γ) 64 0 (base_Within.tbl) Proofs.Tryz.f30 (bodyOf Proofs.Tryz.f30) := loops_of (by kernel_rfl) (by kernel_rfl) (fun _ => rfl) (fun _ => rfl) (fun _ _ _ _ h => nomatch h) trivial
theorem base_Within.gok (k : Nat) : GOk P G0 (base_Within.Γ k) := ⟨tau_ok, pts_ok, glob_ok, phi_of trivial⟩
theorem base_Within.en : Enter P 30 := enter_of (fn := Proofs.Tryz.f30) (by kernel_rfl) (by kernel_rfl) (by kernel_rfl)
theorem base_Within.sound (k : Nat) : Sound P G0 30 (base_Within.sp k) := fn_sound hm (Γ := base_Within.Γ) (k := k) (by kernel_rfl) base_Within.en (by kernel_rfl) base_Within.lp (fun j _ => base_Within.gok j) (fun _ _ _ _ _ h => nomatch h) fun x y h => (base_Within.ev k x).trans h
noncomputable def ref30_arity.sp (k : Nat) : Spec := { head := ⟨[(0, .dat (.int .i64) [])], [], 19, 0⟩, R := api_Number, multi := true, total := true, F := fun x => some (ref30_arity x.1.1) }
noncomputable def ref30_arity.tbl : List LoopE := []
noncomputable def ref30_arity.Γ (k : Nat) : Env := { τ := tau0, pts := pts0, glob := glob0, Φ := fun f => lookS f [], loops := loopsOf (ref30_arity.tbl) k, res := [2, 3], vars := 132140 }
theorem ref30_arity.ev (k : Nat) (x : (ref30_arity.sp k).head.H) : evFn (ref30_arity.Γ k) (ref30_arity.sp k) Proofs.Tryz.f53 x = (ref30_arity.sp k).F x := by kernel_rfl
theorem ref30_arity.lp : Loops (ref30_arity.Γ) 132140 0 (ref30_arity.tbl) Proofs.Tryz.f53 (bodyOf Proofs.Tryz.f53) := loops_of (by kernel_rfl) (by kernel_rfl) (fun _ => rfl) (fun _ => rfl) (fun _ _ _ _ h => nomatch h) trivial
theorem ref30_arity.gok (k : Nat) : GOk P G0 (ref30_arity.Γ k) := ⟨tau_ok, pts_ok, glob_ok, phi_of trivial⟩
theorem ref30_arity.en : Enter P 53 := enter_of (fn := Proofs.Tryz.f53) (by kernel_rfl) (by kernel_rfl) (by kernel_rfl)
theorem ref30_arity.sound (k : Nat) : Sound P G0 53 (ref30_arity.sp k) := fn_sound hm (Γ := ref30_arity.Γ) (k := k) (by kernel_rfl) ref30_arity.en (by kernel_rfl) ref30_arity.lp (fun j _ => ref30_arity.gok j) (fun _ _ _ _ _ h => nomatch h) fun x y h => (ref30_arity.ev k x).trans h
noncomputable def base_Count.sp (k : Nat) : Spec := { head := ⟨[(0, .dat .bool [])], [], 4, 0⟩, R := .int .i64, total := true, F := fun x => some (base_Count x.1.1) }
noncomputable def base_Count.tbl : List LoopE := []
noncomputable def base_Count.Γ (k : Nat) : Env := { τ := tau0, pts := pts0, glob := glob0, Φ := fun f => lookS f [], loops := loopsOf (base_Count.tbl) k, res := [2], vars := 4 }
theorem base_Count.ev (k : Nat) (x : (base_Count.sp k).head.H) : evFn (base_Count.Γ k) (base_Count.sp k) Proofs.Tryz.f23 x = (base_Count.sp k).F x := by kernel_rfl
theorem base_Count.lp : Loops (base_Count.Γ) 4 0 (base_Count.tbl) Proofs.Tryz.f23 (bodyOf Proofs.Tryz.f23) := loops_of (by kernel_rfl) (by kernel_rfl) (fun _ => rfl) (fun _ => rfl) (fun _ _ _ _ h => nomatch h) trivial
theorem base_Count.gok (k : Nat) : GOk P G0 (base_Count.Γ k) := ⟨tau_ok, pts_ok, glob_ok, phi_of trivial⟩
theorem base_Count.en : Enter P 23 := enter_of (fn := Proofs.Tryz.f23) (by kernel_rfl) (by kernel_rfl) (by kernel_rfl)
theorem base_Count.sound (k : Nat) : Sound P G0 23 (base_Count.sp k) := fn_sound hm (Γ := base_Count.Γ) (k := k) (by kernel_rfl) base_Count.en (by kernel_rfl) base_Count.lp (fun j _ => base_Count.gok j) (fun _ _ _ _ _ h => nomatch h) fun x y h => (base_Count.ev k x).trans h
noncomputable def ref01_NumberErr.sp (k : Nat) : Spec := { head := ⟨[(0, .dat api_Number [])], [], 16, 0⟩, R := .int .i64, total := true, F := fun x => some (ref01_NumberErr x.1.1) }
noncomputable def ref01_NumberErr.tbl : List LoopE := []
noncomputable def ref01_NumberErr.Γ (k : Nat) : Env := { τ := tau0, pts := pts0, glob := glob0, Φ := fun f => lookS f [(23, base_Count.sp k), (30, base_Within.sp k)], loops := loopsOf (ref01_NumberErr.tbl) k, res := [2], vars := 12 }
theorem ref01_NumberErr.ev (k : Nat) (x : (ref01_NumberErr.sp k).head.H) : evFn (ref01_NumberErr.Γ k) (ref01_NumberErr.sp k) Proofs.Tryz.f54 x = (ref01_NumberErr.sp k).F x := by kernel_rfl
theorem ref01_NumberErr.lp : Loops (ref01_NumberErr.Γ) 12 0 (ref01_NumberErr.tbl) Proofs.Tryz.f54 (bodyOf Proofs.Tryz.f54) := loops_of (by kernel_rfl) (by kernel_rfl) (fun _ => rfl) (fun _ => rfl) (fun _ _ _ _ h => nomatch h) trivial
theorem ref01_NumberErr.gok (k : Nat) : GOk P G0 (ref01_NumberErr.Γ k) := ⟨tau_ok, pts_ok, glob_ok, phi_of ⟨base_Count.sound k, ⟨base_Within.sound k, trivial⟩⟩⟩
theorem ref01_NumberErr.en : Enter P 54 := enter_of (fn := Proofs.Tryz.f54) (by kernel_rfl) (by kernel_rfl) (by kernel_rfl)
theorem ref01_NumberErr.sound (k : Nat) : Sound P G0 54 (ref01_NumberErr.sp k) := fn_sound hm (Γ := ref01_NumberErr.Γ) (k := k) (by kernel_rfl) ref01_NumberErr.en (by kernel_rfl) ref01_NumberErr.lp (fun j _ => ref01_NumberErr.gok j) (fun _ _ _ _ _ h => nomatch h) fun x y h => (ref01_NumberErr.ev k x).trans h
noncomputable def base_IndexOfString.l0.L : Loop := { head := ⟨[(0, .dat (.sl .str) []), (1, .dat .str []), (5, .dat (.int .i64) [])], [], 19, 2⟩, id := 0, out := ⟨[], [], 19, 2⟩, back := some ⟨[(4, .dat (.int .i64) [])], [], 19, 2⟩ }
noncomputable def base_IndexOfString.l0.H (k : Nat) (x : base_IndexOfString.l0.L.head.H) : Option base_IndexOfString.l0.L.Y := base_IndexOfString.l0 k (x.1.1) (x.1.2.1) (x.1.2.2.1)
noncomputable def base_IndexOfString.sp (k : Nat) : Spec := { head := ⟨[(0, .dat (.sl .str) []), (1, .dat .str [])], [], 19, 0⟩, R := .int .i64, F := fun x => base_IndexOfString k x.1.1 x.1.2.1 }
noncomputable def base_IndexOfString.tbl : List LoopE := [⟨2, base_IndexOfString.l0.L, base_IndexOfString.l0.H⟩]
noncomputable def base_IndexOfString.Γ (k : Nat) : Env := { τ := tau0, pts := pts0, glob := glob0, Φ := fun f => lookS f [], loops := loopsOf (base_IndexOfString.tbl) k, res := [4], vars := 48 }
theorem base_IndexOfString.l0.ev (k : Nat) (x : base_IndexOfString.l0.L.head.H) : Out.round base_IndexOfString.l0.L (base_IndexOfString.l0.H k) (evCode (base_IndexOfString.Γ k) (loopAt 2 Proofs.Tryz.f108) (base_IndexOfString.l0.L.head.st x)) = base_IndexOfString.l0.H (k + 1) x := by kernel_rfl
theorem base_IndexOfString.ev (k : Nat) (x : (base_IndexOfString.sp k).head.H) : evFn (base_IndexOfString.Γ k) (base_IndexOfString.sp k) Proofs.Tryz.f108 x = (base_IndexOfString.sp k).F x := by kernel_rfl
theorem base_IndexOfString.lp : Loops (base_IndexOfString.Γ) 48 0 (base_IndexOfString.tbl) Proofs.Tryz.f108 (bodyOf Proofs.Tryz.f108) := loops_of (by kernel_rfl) (by kernel_rfl) (fun _ => rfl) (fun _ => rfl) (fun _ _ _ _ h => nomatch h) ⟨by kernel_rfl, fun _ => rfl, fun k x => (base_IndexOfString.l0.ev k x).symm, trivial⟩
theorem base_IndexOfString.gok (k : Nat) : GOk P G0 (base_IndexOfString.Γ k) := ⟨tau_ok, pts_ok, glob_ok, phi_of trivial⟩
theorem base_IndexOfString.en : Enter P 108 := enter_of (fn := Proofs.Tryz.f108) (by kernel_rfl) (by kernel_rfl) (by kernel_rfl)
theorem base_IndexOfString.sound (k : Nat) : Sound P G0 108 (base_IndexOfString.sp k) := fn_sound hm (Γ := base_IndexOfString.Γ) (k := k) (by kernel_rfl) base_IndexOfString.en (by kernel_rfl) base_IndexOfString.lp (fun j _ => base_IndexOfString.gok j) (fun _ _ _ _ _ h => nomatch h) fun x y h => (base_IndexOfString.ev k x).trans h
noncomputable def ref30_words.sp (k : Nat) : Spec := { head := ⟨[], [], 2, 0⟩, R := .sl .str, total := true, tips := [0], F := fun x => some (ref30_words ) }
noncomputable def ref30_words.tbl : List LoopE := []
noncomputable def ref30_words.Γ (k : Nat) : Env := { τ := tau0, pts := pts0, glob := glob0, Φ := fun f => lookS f [], loops := loopsOf (ref30_words.tbl) k, res := [0], vars := 1 }
theorem ref30_words.ev (k : Nat) (x : (ref30_words.sp k).head.H) : evFn (ref30_words.Γ k) (ref30_words.sp k) Proofs.Tryz.f109 x = (ref30_words.sp k).F x := by kernel_rfl
theorem ref30_words.lp : Loops (ref30_words.Γ) 1 0 (ref30_words.tbl) Proofs.Tryz.f109 (bodyOf Proofs.Tryz.f109) := loops_of (by kernel_rfl) (by kernel_rfl) (fun _ => rfl) (fun _ => rfl) (fun _ _ _ _ h => nomatch h) trivial
theorem ref30_words.gok (k : Nat) : GOk P G0 (ref30_words.Γ k) := ⟨tau_ok, pts_ok, glob_ok, phi_of trivial⟩
theorem ref30_words.en : Enter P 109 := enter_of (fn := Proofs.Tryz.f109) (by kernel_rfl) (by kernel_rfl) (by kernel_rfl)
theorem ref30_words.sound (k : Nat) : Sound P G0 109 (ref30_words.sp k) := fn_sound hm (Γ := ref30_words.Γ) (k := k) (by kernel_rfl) ref30_words.en (by kernel_rfl) ref30_words.lp (fun j _ => ref30_words.gok j) (fun _ _ _ _ _ h => nomatch h) fun x y h => (ref30_words.ev k x).trans h
noncomputable def base_IsUpper.sp (k : Nat) : Spec := { head := ⟨[(0, .dat (.int .u8) [])], [], 9, 0⟩, R := .bool, total := true, F := fun x => some (base_IsUpper x.1.1) }
noncomputable def base_IsUpper.tbl : List LoopE := []
noncomputable def base_IsUpper.Γ (k : Nat) : Env := { τ := tau0, pts := pts0, glob := glob0, Φ := fun f => lookS f [], loops := loopsOf (base_IsUpper.tbl) k, res := [2], vars := 4 }
theorem base_IsUpper.ev (k : Nat) (x : (base_IsUpper.sp k).head.H) : evFn (base_IsUpper.Γ k) (base_IsUpper.sp k) Proofs.Tryz.f110 x = (base_IsUpper.sp k).F x := by kernel_rfl
theorem base_IsUpper.lp : Loops (base_IsUpper.Γ) 4 0 (base_IsUpper.tbl) Proofs.Tryz.f110 (bodyOf Proofs.Tryz.f110) := loops_of (by kernel_rfl) (by kernel_rfl) (fun _ => rfl) (fun _ => rfl) (fun _ _ _ _ h => nomatch h) trivial
theorem base_IsUpper.gok (k : Nat) : GOk P G0 (base_IsUpper.Γ k) := ⟨tau_ok, pts_ok, glob_ok, phi_of trivial⟩
theorem base_IsUpper.en : Enter P 110 := enter_of (fn := Proofs.Tryz.f110) (by kernel_rfl) (by kernel_rfl) (by kernel_rfl)
theorem base_IsUpper.sound (k : Nat) : Sound P G0 110 (base_IsUpper.sp k) := fn_sound hm (Γ := base_IsUpper.Γ) (k := k) (by kernel_rfl) base_IsUpper.en (by kernel_rfl) base_IsUpper.lp (fun j _ => base_IsUpper.gok j) (fun _ _ _ _ _ h => nomatch h) fun x y h => (base_IsUpper.ev k x).trans h
noncomputable def base_IsDigit.sp (k : Nat) : Spec := { head := ⟨[(0, .dat (.int .u8) [])], [], 9, 0⟩, R := .bool, total := true, F := fun x => some (base_IsDigit x.1.1) }
noncomputable def base_IsDigit.tbl : List LoopE := []
noncomputable def base_IsDigit.Γ (k : Nat) : Env := { τ := tau0, pts := pts0, glob := glob0, Φ := fun f => lookS f [], loops := loopsOf (base_IsDigit.tbl) k, res := [2], vars := 4 }
theorem base_IsDigit.ev (k : Nat) (x : (base_IsDigit.sp k).head.H) : evFn (base_IsDigit.Γ k) (base_IsDigit.sp k) Proofs.Tryz.f111 x = (base_IsDigit.sp k).F x := by kernel_rfl
theorem base_IsDigit.lp : Loops (base_IsDigit.Γ) 4 0 (base_IsDigit.tbl) Proofs.Tryz.f111 (bodyOf Proofs.Tryz.f111) := loops_of (by kernel_rfl) (by kernel_rfl) (fun _ => rfl) (fun _ => rfl) (fun _ _ _ _ h => nomatch h) trivial
theorem base_IsDigit.gok (k : Nat) : GOk P G0 (base_IsDigit.Γ k) := ⟨tau_ok, pts_ok, glob_ok, phi_of trivial⟩
theorem base_IsDigit.en : Enter P 111 := enter_of (fn := Proofs.Tryz.f111) (by kernel_rfl) (by kernel_rfl) (by kernel_rfl)
theorem base_IsDigit.sound (k : Nat) : Sound P G0 111 (base_IsDigit.sp k) := fn_sound hm (Γ := base_IsDigit.Γ) (k := k) (by kernel_rfl) base_IsDigit.en (by kernel_rfl) base_IsDigit.lp (fun j _ => base_IsDigit.gok j) (fun _ _ _ _ _ h => nomatch h) fun x y h => (base_IsDigit.ev k x).trans h
noncomputable def ref30_isNamed.l0.L : Loop := { head := ⟨[(0, .dat .str []), (5, .dat (.int .i64) [])], [], 57, 13⟩, id := 0, out := ⟨[], [], 57, 13⟩, back := some ⟨[(4, .dat .bool [])], [], 57, 13⟩ }
noncomputable def ref30_isNamed.l0.H (k : Nat) (x : ref30_isNamed.l0.L.head.H) : Option ref30_isNamed.l0.L.Y := ref30_isNamed.l0 k (x.1.1) (x.1.2.1)
noncomputable def ref30_isNamed.sp (k : Nat) : Spec := { head := ⟨[(0, .dat .str []), (1, .dat (.int .i64) [])], [], 57, 0⟩, R := .bool, F := fun x => ref30_isNamed k x.1.1 x.1.2.1 }
noncomputable def ref30_isNamed.tbl : List LoopE := [⟨4, ref30_isNamed.l0.L, ref30_isNamed.l0.H⟩]
noncomputable def ref30_isNamed.Γ (k : Nat) : Env := { τ := tau0, pts := pts0, glob := glob0, Φ := fun f => lookS f [(30, base_Within.sp k), (108, base_IndexOfString.sp k), (109, ref30_words.sp k), (110, base_IsUpper.sp k), (111, base_IsDigit.sp k)], loops := loopsOf (ref30_isNamed.tbl) k, res := [4], vars := 240 }
theorem ref30_isNamed.l0.ev (k : Nat) (x : ref30_isNamed.l0.L.head.H) : Out.round ref30_isNamed.l0.L (ref30_isNamed.l0.H k) (evCode (ref30_isNamed.Γ k) (loopAt 4 Proofs.Tryz.f55) (ref30_isNamed.l0.L.head.st x)) = ref30_isNamed.l0.H (k + 1) x := by kernel_rfl
theorem ref30_isNamed.ev (k : Nat) (x : (ref30_isNamed.sp k).head.H) : evFn (ref30_isNamed.Γ k) (ref30_isNamed.sp k) Proofs.Tryz.f55 x = (ref30_isNamed.sp k).F x := by kernel_rfl
theorem ref30_isNamed.lp : Loops (ref30_isNamed.Γ) 240 0 (ref30_isNamed.tbl) Proofs.Tryz.f55 (bodyOf Proofs.Tryz.f55) := loops_of (by kernel_rfl) (by kernel_rfl) (fun _ => rfl) (fun _ => rfl) (fun _ _ _ _ h => nomatch h) ⟨by kernel_rfl, fun _ => rfl, fun k x => (ref30_isNamed.l0.ev k x).symm, trivial⟩
theorem ref30_isNamed.gok (k : Nat) : GOk P G0 (ref30_isNamed.Γ k) := ⟨tau_ok, pts_ok, glob_ok, phi_of ⟨base_Within.sound k, ⟨base_IndexOfString.sound k, ⟨ref30_words.sound k, ⟨base_IsUpper.sound k, ⟨base_IsDigit.sound k, trivial⟩⟩⟩⟩⟩⟩
theorem ref30_isNamed.en : Enter P 55 := enter_of (fn := Proofs.Tryz.f55) (by kernel_rfl) (by kernel_rfl) (by kernel_rfl)
theorem ref30_isNamed.sound (k : Nat) : Sound P G0 55 (ref30_isNamed.sp k) := fn_sound hm (Γ := ref30_isNamed.Γ) (k := k) (by kernel_rfl) ref30_isNamed.en (by kernel_rfl) ref30_isNamed.lp (fun j _ => ref30_isNamed.gok j) (fun _ _ _ _ _ h => nomatch h) fun x y h => (ref30_isNamed.ev k x).trans h
noncomputable def ref30_nodeErr.l0.L : Loop := { head := ⟨[(1, .dat (.int .i64) []), (5, .bp 5 [] api_SqlNode), (8, .dat (.int .i64) [])], [(5, .box api_SqlNode [])], 185, 27⟩, id := 0, out := ⟨[(5, .bp 5 [] api_SqlNode)], [(5, .box api_SqlNode [])], 185, 27⟩, back := some ⟨[(4, .dat (.int .i64) [])], [], 185, 27⟩ }
noncomputable def ref30_nodeErr.l0.H (k : Nat) (x : ref30_nodeErr.l0.L.head.H) : Option ref30_nodeErr.l0.L.Y := ref30_nodeErr.l0 k (x.1.1) (x.1.2.1) (x.2.1)
noncomputable def ref30_nodeErr.l1.L : Loop := { head := ⟨[(5, .bp 5 [] api_SqlNode), (11, .dat (.int .i64) [])], [(5, .box api_SqlNode [])], 185, 147⟩, id := 2, out := ⟨[], [], 185, 147⟩, back := some ⟨[(4, .dat (.int .i64) [])], [], 185, 147⟩ }
noncomputable def ref30_nodeErr.l1.H (k : Nat) (x : ref30_nodeErr.l1.L.head.H) : Option ref30_nodeErr.l1.L.Y := ref30_nodeErr.l1 k (x.1.1) (x.2.1)
noncomputable def ref30_nodeErr.sp (k : Nat) : Spec := { head := ⟨[(0, .dat (.sl api_SqlNode) []), (1, .dat (.int .i64) [])], [], 185, 0⟩, R := .int .i64, F := fun x => ref30_nodeErr k x.1.1 x.1.2.1 }
noncomputable def ref30_nodeErr.tbl : List LoopE := [⟨8, ref30_nodeErr.l0.L, ref30_nodeErr.l0.H⟩, ⟨23, ref30_nodeErr.l1.L, ref30_nodeErr.l1.H⟩]
noncomputable def ref30_nodeErr.Γ (k : Nat) : Env := { τ := tau0, pts := pts0, glob := glob0, Φ := fun f => lookS f [(30, base_Within.sp k), (53, ref30_arity.sp k), (54, ref01_NumberErr.sp k), (55, ref30_isNamed.sp k)], loops := loopsOf (ref30_nodeErr.tbl) k, res := [4], vars := 4048 }
theorem ref30_nodeErr.l0.ev (k : Nat) (x : ref30_nodeErr.l0.L.head.H) : Out.round ref30_nodeErr.l0.L (ref30_nodeErr.l0.H k) (evCode (ref30_nodeErr.Γ k) (loopAt 8 Proofs.Tryz.f22) (ref30_nodeErr.l0.L.head.st x)) = ref30_nodeErr.l0.H (k + 1) x := by kernel_rfl
theorem ref30_nodeErr.l1.ev (k : Nat) (x : ref30_nodeErr.l1.L.head.H) : Out.round ref30_nodeErr.l1.L (ref30_nodeErr.l1.H k) (evCode (ref30_nodeErr.Γ k) (loopAt 23 Proofs.Tryz.f22) (ref30_nodeErr.l1.L.head.st x)) = ref30_nodeErr.l1.H (k + 1) x := by kernel_rfl
theorem ref30_nodeErr.ev (k : Nat) (x : (ref30_nodeErr.sp k).head.H) : evFn (ref30_nodeErr.Γ k) (ref30_nodeErr.sp k) Proofs.Tryz.f22 x = (ref30_nodeErr.sp k).F x := by kernel_rfl
theorem ref30_nodeErr.lp : Loops (ref30_nodeErr.Γ) 4048 0 (ref30_nodeErr.tbl) Proofs.Tryz.f22 (bodyOf Proofs.Tryz.f22) := loops_of (by kernel_rfl) (by kernel_rfl) (fun _ => rfl) (fun _ => rfl) (fun _ _ _ _ h => nomatch h) ⟨by kernel_rfl, fun _ => rfl, fun k x => (ref30_nodeErr.l0.ev k x).symm, ⟨by kernel_rfl, fun _ => rfl, fun k x => (ref30_nodeErr.l1.ev k x).symm, trivial⟩⟩
theorem ref30_nodeErr.gok (k : Nat) : GOk P G0 (ref30_nodeErr.Γ k) := ⟨tau_ok, pts_ok, glob_ok, phi_of ⟨base_Within.sound k, ⟨ref30_arity.sound k, ⟨ref01_NumberErr.sound k, ⟨ref30_isNamed.sound k, trivial⟩⟩⟩⟩⟩
theorem ref30_nodeErr.en : Enter P 22 := enter_of (fn := Proofs.Tryz.f22) (by kernel_rfl) (by kernel_rfl) (by kernel_rfl)
theorem ref30_nodeErr.sound (k : Nat) : Sound P G0 22 (ref30_nodeErr.sp k) := fn_sound hm (Γ := ref30_nodeErr.Γ) (k := k) (by kernel_rfl) ref30_nodeErr.en (by kernel_rfl) ref30_nodeErr.lp (fun j _ => ref30_nodeErr.gok j) (fun _ _ _ _ _ h => nomatch h) fun x y h => (ref30_nodeErr.ev k x).trans h
noncomputable def ref30_ExprErr.l0.L : Loop := { head := ⟨[(0, .dat (.sl api_SqlNode) []), (3, .dat (.int .i64) [])], [], 74, 8⟩, id := 0, out := ⟨[(0, .dat (.sl api_SqlNode) [])], [], 74, 8⟩, back := some ⟨[(2, .dat (.int .i64) [])], [], 74, 8⟩ }
noncomputable def ref30_ExprErr.l0.H (k : Nat) (x : ref30_ExprErr.l0.L.head.H) : Option ref30_ExprErr.l0.L.Y := ref30_ExprErr.l0 k (x.1.1) (x.1.2.1)
noncomputable def ref30_ExprErr.l2.L : Loop := { head := ⟨[(0, .dat (.sl api_SqlNode) []), (5, .dat (.sl (.int .i64)) [0]), (6, .dat (.int .i64) []), (7, .dat (.int .i64) []), (8, .dat (.int .i64) [])], [], 74, 24⟩, id := 4, out := ⟨[(0, .dat (.sl api_SqlNode) []), (5, .dat (.sl (.int .i64)) [0]), (6, .dat (.int .i64) []), (7, .dat (.int .i64) [])], [], 74, 24⟩, back := some ⟨[(2, .dat (.int .i64) [])], [], 74, 24⟩ }
noncomputable def ref30_ExprErr.l2.H (k : Nat) (x : ref30_ExprErr.l2.L.head.H) : Option ref30_ExprErr.l2.L.Y := ref30_ExprErr.l2 k (x.1.1) (x.1.2.1) (x.1.2.2.1) (x.1.2.2.2.1) (x.1.2.2.2.2.1)
noncomputable def ref30_ExprErr.l1.L : Loop := { head := ⟨[(0, .dat (.sl api_SqlNode) []), (5, .dat (.sl (.int .i64)) [0]), (6, .dat (.int .i64) [])], [], 74, 10⟩, id := 2, out := ⟨[(0, .dat (.sl api_SqlNode) []), (5, .dat (.sl (.int .i64)) [0])], [], 74, 10⟩, back := some ⟨[(2, .dat (.int .i64) [])], [], 74, 10⟩ }
noncomputable def ref30_ExprErr.l1.H (k : Nat) (x : ref30_ExprErr.l1.L.head.H) : Option ref30_ExprErr.l1.L.Y := ref30_ExprErr.l1 k (x.1.1) (x.1.2.1) (x.1.2.2.1)
noncomputable def ref30_ExprErr.sp (k : Nat) : Spec := { head := ⟨[(0, .dat (.sl api_SqlNode) [])], [], 74, 0⟩, R := .int .i64, F := fun x => ref30_ExprErr k x.1.1 }
noncomputable def ref30_ExprErr.tbl : List LoopE := [⟨6, ref30_ExprErr.l0.L, ref30_ExprErr.l0.H⟩, ⟨13, ref30_ExprErr.l1.L, ref30_ExprErr.l1.H⟩, ⟨17, ref30_ExprErr.l2.L, ref30_ExprErr.l2.H⟩]
noncomputable def ref30_ExprErr.Γ (k : Nat) : Env := { τ := tau0, pts := pts0, glob := glob0, Φ := fun f => lookS f [(22, ref30_nodeErr.sp k), (23, base_Count.sp k)], loops := loopsOf (ref30_ExprErr.tbl) k, res := [2], vars := 508 }
theorem ref30_ExprErr.l0.ev (k : Nat) (x : ref30_ExprErr.l0.L.head.H) : Out.round ref30_ExprErr.l0.L (ref30_ExprErr.l0.H k) (evCode (ref30_ExprErr.Γ k) (loopAt 6 Proofs.Tryz.f10) (ref30_ExprErr.l0.L.head.st x)) = ref30_ExprErr.l0.H (k + 1) x := by kernel_rfl
theorem ref30_ExprErr.l2.ev (k : Nat) (x : ref30_ExprErr.l2.L.head.H) : Out.round ref30_ExprErr.l2.L (ref30_ExprErr.l2.H k) (evCode (ref30_ExprErr.Γ k) (loopAt 17 Proofs.Tryz.f10) (ref30_ExprErr.l2.L.head.st x)) = ref30_ExprErr.l2.H (k + 1) x := by kernel_rfl
theorem ref30_ExprErr.l1.ev (k : Nat) (x : ref30_ExprErr.l1.L.head.H) : Out.round ref30_ExprErr.l1.L (ref30_ExprErr.l1.H k) (evCode (ref30_ExprErr.Γ k) (loopAt 13 Proofs.Tryz.f10) (ref30_ExprErr.l1.L.head.st x)) = ref30_ExprErr.l1.H (k + 1) x := by kernel_rfl
theorem ref30_ExprErr.ev (k : Nat) (x : (ref30_ExprErr.sp k).head.H) : evFn (ref30_ExprErr.Γ k) (ref30_ExprErr.sp k) Proofs.Tryz.f10 x = (ref30_ExprErr.sp k).F x := by kernel_rfl
theorem ref30_ExprErr.lp : Loops (ref30_ExprErr.Γ) 508 0 (ref30_ExprErr.tbl) Proofs.Tryz.f10 (bodyOf Proofs.Tryz.f10) := loops_of (by kernel_rfl) (by kernel_rfl) (fun _ => rfl) (fun _ => rfl) (fun _ _ _ _ h => nomatch h) ⟨by kernel_rfl, fun _ => rfl, fun k x => (ref30_ExprErr.l0.ev k x).symm, ⟨by kernel_rfl, fun _ => rfl, fun k x => (ref30_ExprErr.l1.ev k x).symm, ⟨by kernel_rfl, fun _ => rfl, fun k x => (ref30_ExprErr.l2.ev k x).symm, trivial⟩⟩⟩
theorem ref30_ExprErr.gok (k : Nat) : GOk P G0 (ref30_ExprErr.Γ k) := ⟨tau_ok, pts_ok, glob_ok, phi_of ⟨ref30_nodeErr.sound k, ⟨base_Count.sound k, trivial⟩⟩⟩
theorem ref30_ExprErr.en : Enter P 10 := enter_of (fn := Proofs.Tryz.f10) (by kernel_rfl) (by kernel_rfl) (by kernel_rfl)
theorem ref30_ExprErr.sound (k : Nat) : Sound P G0 10 (ref30_ExprErr.sp k) := fn_sound hm (Γ := ref30_ExprErr.Γ) (k := k) (by kernel_rfl) ref30_ExprErr.en (by kernel_rfl) ref30_ExprErr.lp (fun j _ => ref30_ExprErr.gok j) (fun _ _ _ _ _ h => nomatch h) fun x y h => (ref30_ExprErr.ev k x).trans h
noncomputable def law30_SqlExprs.sp (k : Nat) : Spec := { head := ⟨[(0, .dat (.sl api_SqlNode) [])], [], 16, 0⟩, R := .bool, F := fun x => law30_SqlExprs k x.1.1 }
noncomputable def law30_SqlExprs.tbl : List LoopE := []
noncomputable def law30_SqlExprs.Γ (k : Nat) : Env := { τ := tau0, pts := pts0, glob := glob0, Φ := fun f => lookS f [(6, law30_awake.sp k), (7, law30_fewExpr.sp k), (8, sql_CheckExpr.sp k), (9, ref30_OwnExpr.sp k), (10, ref30_ExprErr.sp k)], loops := loopsOf (law30_SqlExprs.tbl) k, res := [2], vars := 4 }
theorem law30_SqlExprs.ev (k : Nat) (x : (law30_SqlExprs.sp k).head.H) : evFn (law30_SqlExprs.Γ k) (law30_SqlExprs.sp k) Proofs.Tryz.f3 x = (law30_SqlExprs.sp k).F x := by kernel_rfl
theorem law30_SqlExprs.lp : Loops (law30_SqlExprs.Γ) 4 0 (law30_SqlExprs.tbl) Proofs.Tryz.f3 (bodyOf Proofs.Tryz.f3) := loops_of (by kernel_rfl) (by kernel_rfl) (fun _ => rfl) (fun _ => rfl) (fun _ _ _ _ h => nomatch h) trivial
theorem law30_SqlExprs.gok (k : Nat) : GOk P G0 (law30_SqlExprs.Γ k) := ⟨tau_ok, pts_ok, glob_ok, phi_of ⟨law30_awake.sound k, ⟨law30_fewExpr.sound k, ⟨sql_CheckExpr.sound k, ⟨ref30_OwnExpr.sound k, ⟨ref30_ExprErr.sound k, trivial⟩⟩⟩⟩⟩⟩
theorem law30_SqlExprs.en : Enter P 3 := enter_of (fn := Proofs.Tryz.f3) (by kernel_rfl) (by kernel_rfl) (by kernel_rfl)
theorem law30_SqlExprs.sound (k : Nat) : Sound P G0 3 (law30_SqlExprs.sp k) := fn_sound hm (Γ := law30_SqlExprs.Γ) (k := k) (by kernel_rfl) law30_SqlExprs.en (by kernel_rfl) law30_SqlExprs.lp (fun j _ => law30_SqlExprs.gok j) (fun _ _ _ _ _ h => nomatch h) fun x y h => (law30_SqlExprs.ev k x).trans h
end Go.XE
