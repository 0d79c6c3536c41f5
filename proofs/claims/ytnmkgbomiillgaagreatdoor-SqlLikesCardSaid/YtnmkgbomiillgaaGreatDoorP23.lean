/- Part 23 of the proof. -/
import Derived.Test.YtnmkgbomiillgaaGreatDoorP22
import Derived.Test.YtnmkgbomiillgaaGreatDoorP18
/- awake, by its run. -/
namespace Go.XR
open Proofs
theorem m102_good {B : World} {ρg : Pm} (hG : Good B gl0 5 ρg) : MemoGood PT B m102 := memo_of hG (fun _ _ => fok tree_ok) m102_run
theorem orc_ok {B : World} {ρg : Pm} (hG : Good B gl0 5 ρg) {l : List Ck} (h : ∀ c ∈ l, CkGood PT B gl0 c) : OrcOk PT B (orE (treeC 20) (orE (memoC [m102]) (ckC gl0 l))) :=
  tree_ok.or ((memoC_ok fun m hm => by rw [List.mem_singleton.1 hm]; exact m102_good hG).or (ckC_ok h))
theorem cons_ok {B : World} {c : Ck} {l : List Ck} (h : CkGood PT B gl0 c) (k : ∀ c ∈ l, CkGood PT B gl0 c) : ∀ x ∈ c :: l, CkGood PT B gl0 x := fun x hx => by
  rcases List.mem_cons.1 hx with rfl | hx
  · exact h
  · exact k x hx
theorem cks_good {B : World} {ρg : Pm} (hG : Good B gl0 5 ρg) : ∀ c ∈ [ck4, ck3, ck2, ck1, ck0], CkGood PT B gl0 c := by
  have h0 : ∀ c ∈ ([] : List Ck), CkGood PT B gl0 c := fun c hc => by cases hc
  have h1 := cons_ok (ck_of (fok (orc_ok hG h0)) ck0_run) h0
  have h2 := cons_ok (ck_of (fok (orc_ok hG h1)) ck1_run) h1
  have h3 := cons_ok (ck_of (fok (orc_ok hG h2)) ck2_run) h2
  have h4 := cons_ok (ck_of (fok (orc_ok hG h3)) ck3_run) h3
  exact cons_ok (ck_of (fok (orc_ok hG h4)) ck4_run) h4
theorem isTrueR_eq {r : Res} (h : isTrueR r = true) : ∃ s, r = some (.at (.bool true), s) := by
  unfold isTrueR at h
  split at h
  · exact ⟨_, rfl⟩
  · cases h
theorem awake_calls {B : World} {ρg : Pm} (hG : Good B gl0 5 ρg) : Calls PT 6 #[] B fun e w' => e = .returned (.bool true) ∧ ExtW B w' := by
  obtain ⟨s', he⟩ := isTrueR_eq awake_run
  cases calls_go (fok (orc_ok hG (cks_good hG))) he hG.rel (us := []) rfl with
  | enter h1 h2 =>
    refine h2.mono fun e w' h => ?_
    obtain ⟨u, ρ', k1, k2, k3, _⟩ := h
    cases k2
    exact ⟨k1, k3.ext_w⟩
  | value h1 h2 h3 =>
    have := enters_of Tryz.func6 (by kernel_rfl) rfl #[] B
    rw [this] at h1
    cases h1
end Go.XR
/- sql.Likes and the law over patterns: the walks. -/
namespace Go.Proofs
open Go.RowKit
def Tryz.tooWide (p s : ByteArray) : Bool := decide (256 < p.size) || decide (256 < s.size)
def Tryz.lkV (p s : ByteArray) : Bool := if Tryz.tooWide p s then false else Tryz.likesF p.data.toList (Tryz.trimL s.data.toList)
def Tryz.lkE (p s : ByteArray) : Int := if Tryz.tooWide p s then 2 else 0
theorem Tryz.lkV_t {p s : ByteArray} (h : Tryz.tooWide p s = true) : Tryz.lkV p s = false := by rw [Tryz.lkV, if_pos h]
theorem Tryz.lkE_t {p s : ByteArray} (h : Tryz.tooWide p s = true) : Tryz.lkE p s = 2 := by rw [Tryz.lkE, if_pos h]
theorem Tryz.lkV_f {p s : ByteArray} (h : Tryz.tooWide p s = false) : Tryz.lkV p s = Tryz.likesF p.data.toList (Tryz.trimL s.data.toList) := by rw [Tryz.lkV, h]; rfl
theorem Tryz.lkE_f {p s : ByteArray} (h : Tryz.tooWide p s = false) : Tryz.lkE p s = 0 := by rw [Tryz.lkE, h]; rfl
theorem Tryz.sqlLikes_in (p s : ByteArray) (w : World) (hp : p.size ≤ 300) (hs : s.size ≤ 300) :
    Calls Tryz.prog 11 #[.string p, .string s] w fun e w' => e = .returned (.tuple #[.bool (Tryz.lkV p s), .int .i64 (Tryz.lkE p s)]) ∧ Tryz.Ext w w' := by
  have hL := fun w => Tryz.likes_in p s w (by omega) (by omega)
  have HL := Lib.hid hL
  clear hL
  by_cases h1 : 256 < p.size
  · have h1' : (256 : Int) < (p.size : Int) := by omega
    have hw : Tryz.tooWide p s = true := by simp [Tryz.tooWide, h1]
    have HW := Lib.hid hw
    clear hw
    go_enter Tryz.func11, Tryz.ntmps11
    go_wp2
    go_ret2
    exact ⟨by rw [Tryz.lkV_t HW.out, Tryz.lkE_t HW.out]; rfl, Tryz.Ext.refl _⟩
  · have h1' : ¬ ((256 : Int) < (p.size : Int)) := by omega
    by_cases h2 : 256 < s.size
    · have h2' : (256 : Int) < (s.size : Int) := by omega
      have hw : Tryz.tooWide p s = true := by simp [Tryz.tooWide, h2]
      have HW := Lib.hid hw
      clear hw
      go_enter Tryz.func11, Tryz.ntmps11
      go_wp2
      go_ret2
      exact ⟨by rw [Tryz.lkV_t HW.out, Tryz.lkE_t HW.out]; rfl, Tryz.Ext.refl _⟩
    · have h2' : ¬ ((256 : Int) < (s.size : Int)) := by omega
      have hw : Tryz.tooWide p s = false := by simp [Tryz.tooWide, h1, h2]
      have HW := Lib.hid hw
      clear hw
      go_enter Tryz.func11, Tryz.ntmps11
      go_wp2_with (go_at_call 24; refine (HL.out _).mono ?_; rintro e w' ⟨rfl, hx⟩; have HX := Lib.hid hx; clear hx)
      go_ret2
      exact ⟨by rw [Tryz.lkV_f HW.out, Tryz.lkE_f HW.out]; rfl, HX.out⟩
theorem Tryz.law_in (p s : ByteArray) (w : World) (haw : Calls Tryz.prog 6 #[] w fun e w' => e = .returned (.bool true) ∧ Tryz.Ext w w') :
    Calls Tryz.prog 4 #[.string p, .string s] w fun e w' => e = .returned (.bool true) ∧ Tryz.Ext w w' := by
  have HA := Lib.hid haw
  clear haw
  by_cases h1 : 300 < p.size
  · have h1' : (300 : Int) < (p.size : Int) := by omega
    go_enter Tryz.func4, Tryz.ntmps4
    go_wp2_with (go_at_call 6; refine HA.out.mono ?_; rintro e w' ⟨rfl, hx⟩; have HX := Lib.hid hx; clear hx)
    go_ret
    exact ⟨rfl, HX.out⟩
  · have h1' : ¬ ((300 : Int) < (p.size : Int)) := by omega
    by_cases h2 : 300 < s.size
    · have h2' : (300 : Int) < (s.size : Int) := by omega
      go_enter Tryz.func4, Tryz.ntmps4
      go_wp2_with (go_at_call 6; refine HA.out.mono ?_; rintro e w' ⟨rfl, hx⟩; have HX := Lib.hid hx; clear hx)
      go_ret
      exact ⟨rfl, HX.out⟩
    · have h2' : ¬ ((300 : Int) < (s.size : Int)) := by omega
      have hL := fun w => Tryz.sqlLikes_in p s w (by omega) (by omega)
      have hR := fun w => Tryz.refLikes_in p s w (by omega) (by omega)
      have HL := Lib.hid hL
      have HR := Lib.hid hR
      clear hL hR
      by_cases hw : Tryz.tooWide p s = true
      · have HW := Lib.hid hw
        simp only [Tryz.tooWide, Bool.or_eq_true, decide_eq_true_eq] at hw
        by_cases h3 : 256 < p.size
        · have h3' : (256 : Int) < (p.size : Int) := by omega
          clear hw
          go_enter Tryz.func4, Tryz.ntmps4
          go_wp2_with (first
            | (go_at_call 6; refine HA.out.mono ?_; rintro e w' ⟨rfl, hx⟩; have HX := Lib.hid hx; clear hx)
            | (go_at_call 11; refine (HL.out _).mono ?_; rintro e w' ⟨rfl, hx⟩; rw [Tryz.lkV_t HW.out, Tryz.lkE_t HW.out]; have HY := Lib.hid hx; clear hx))
          go_ret
          exact ⟨rfl, HX.out.trans HY.out⟩
        · have h4 : 256 < s.size := by omega
          have h3' : ¬ ((256 : Int) < (p.size : Int)) := by omega
          have h4' : (256 : Int) < (s.size : Int) := by omega
          clear hw
          go_enter Tryz.func4, Tryz.ntmps4
          go_wp2_with (first
            | (go_at_call 6; refine HA.out.mono ?_; rintro e w' ⟨rfl, hx⟩; have HX := Lib.hid hx; clear hx)
            | (go_at_call 11; refine (HL.out _).mono ?_; rintro e w' ⟨rfl, hx⟩; rw [Tryz.lkV_t HW.out, Tryz.lkE_t HW.out]; have HY := Lib.hid hx; clear hx))
          go_ret
          exact ⟨rfl, HX.out.trans HY.out⟩
      · have hw : Tryz.tooWide p s = false := by simpa using hw
        have HW := Lib.hid hw
        simp only [Tryz.tooWide, Bool.or_eq_false_iff, decide_eq_false_iff_not] at hw
        have h3' : ¬ ((256 : Int) < (p.size : Int)) := by omega
        have h4' : ¬ ((256 : Int) < (s.size : Int)) := by omega
        clear hw
        go_enter Tryz.func4, Tryz.ntmps4
        go_wp2_with (first
          | (go_at_call 6; refine HA.out.mono ?_; rintro e w' ⟨rfl, hx⟩; have HX := Lib.hid hx; clear hx)
          | (go_at_call 11; refine (HL.out _).mono ?_; rintro e w' ⟨rfl, hx⟩; rw [Tryz.lkV_f HW.out, Tryz.lkE_f HW.out]; have HY := Lib.hid hx; clear hx)
          | (go_at_call 12; refine (HR.out _).mono ?_; rintro e w' ⟨rfl, hx⟩; have HZ := Lib.hid hx; clear hx))
        go_ret
        exact ⟨by simp, (HX.out.trans HY.out).trans HZ.out⟩
end Go.Proofs
