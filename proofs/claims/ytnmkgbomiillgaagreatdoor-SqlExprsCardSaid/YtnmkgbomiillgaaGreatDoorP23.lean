/- Part 23 of the proof. -/
import Derived.Test.YtnmkgbomiillgaaGreatDoorP22
import Derived.KernelRfl
/- The concrete evaluator over the program: the run of awake. -/
namespace Go.XR
open Proofs
def sv (l : List UInt8) : ByteArray := ⟨⟨l⟩⟩
def ci (n : Int) : CV := .at (.int .i64 n)
def cs (l : List UInt8) : CV := .at (.string (sv l))
def c0 : CV := .at (.string (sv []))
def cb (b : Bool) : CV := .at (.bool b)
def cn : CV := .at (.slice none 0 0)
def symL : List Value := [.string (sv [60, 62]), .string (sv [60, 61]), .string (sv [62, 61]), .string (sv [40]), .string (sv [41]), .string (sv [44]), .string (sv [46]), .string (sv [42]), .string (sv [43]), .string (sv [45]), .string (sv [61]), .string (sv [60]), .string (sv [62])]
def cmpL : List Value := [.string (sv [61]), .string (sv [60, 62]), .string (sv [60]), .string (sv [60, 61]), .string (sv [62]), .string (sv [62, 61])]
def spcL : List Value := (List.range 256).map fun i => .int .u8 (if Nat.beq i 9 || Nat.beq i 10 || Nat.beq i 11 || Nat.beq i 12 || Nat.beq i 13 || Nat.beq i 32 then 1 else 0)
def gl0 : Gl := { v := [(0, .gs 0 13), (4, .gs 2 6)], a := [(0, symL), (2, cmpL), (4, spcL)], n := [(2, 4)] }
def m102 : Memo := { f := 102, us := [], v := .sl 5 0 27 1, k := some ⟨9, [cs [65, 76, 76], cs [65, 78, 68], cs [65, 83], cs [66, 89], cs [67, 79, 85, 78, 84], cs [68, 69, 76, 69, 84, 69], cs [68, 69, 83, 67], cs [68, 73, 83, 84, 73, 78, 67, 84], cs [70, 82, 79, 77], cs [71, 82, 79, 85, 80], cs [72, 65, 86, 73, 78, 71], cs [73, 78], cs [73, 78, 83, 69, 82, 84], cs [73, 78, 84, 79], cs [76, 73, 75, 69], cs [77, 65, 88], cs [77, 73, 78], cs [78, 79, 84], cs [79, 82], cs [79, 82, 68, 69, 82], cs [83, 69, 76, 69, 67, 84], cs [83, 69, 84], cs [83, 85, 77], cs [85, 78, 73, 79, 78], cs [85, 80, 68, 65, 84, 69], cs [86, 65, 76, 85, 69, 83], cs [87, 72, 69, 82, 69]], true, false⟩ }
def ck0 : Ck := ⟨33, [(cs [83, 69, 76, 69, 67, 84, 32, 65, 32, 70, 82, 79, 77, 32, 84, 32, 87, 72, 69, 82, 69, 32, 66, 32, 61, 32, 39, 120, 39, 32, 79, 82, 68, 69, 82, 32, 66, 89, 32, 49, 32, 68, 69, 83, 67])], 6,
  [(5, ⟨48, [(ci 0), cn, (cb false), cn, c0, cn, cn, cn], true, false⟩)],
  (.tup [(.sl 41 0 12 3), (ci 0), (ci 0)]), 42,
  [(5, ⟨48, [(ci 0), cn, (cb false), cn, c0, cn, cn, cn], true, false⟩),
    (41, ⟨129, [(ci 1), (cs [83, 69, 76, 69, 67, 84]), (ci 0), (ci 0), (cs [65]), (ci 7), (ci 1), (cs [70, 82, 79, 77]), (ci 9), (ci 0), (cs [84]), (ci 14), (ci 1), (cs [87, 72, 69, 82, 69]), (ci 16), (ci 0), (cs [66]), (ci 22), (ci 4), (cs [61]), (ci 24), (ci 3), (cs [120]), (ci 26), (ci 1), (cs [79, 82, 68, 69, 82]), (ci 30), (ci 1), (cs [66, 89]), (ci 36), (ci 2), (cs [49]), (ci 39), (ci 1), (cs [68, 69, 83, 67]), (ci 41)], false, false⟩)]⟩
def ck1 : Ck := ⟨15, [(cs [83, 69, 76, 69, 67, 84, 32, 65, 32, 70, 82, 79, 77, 32, 84, 32, 87, 72, 69, 82, 69, 32, 66, 32, 61, 32, 39, 120, 39, 32, 79, 82, 68, 69, 82, 32, 66, 89, 32, 49, 32, 68, 69, 83, 67])], 5,
  [],
  (.tup [(.agg [(ci 0), (.sl 119 0 1 6), (cb false), (.sl 126 0 1 2), c0, cn, cn, cn]), (ci 45), (ci 0)]), 128,
  [(73, ⟨68, [(ci 0), (ci 0), (ci 0), c0, (cs [65]), cn], false, false⟩),
    (76, ⟨159, [(cs [65]), (.sl 73 0 1 6)], false, false⟩),
    (82, ⟨9, [(cs [84])], false, false⟩),
    (115, ⟨3, [(ci 0), (ci 1)], true, false⟩),
    (118, ⟨68, [(ci 0), (ci 0), (ci 0), c0, (cs [66]), cn, (ci 2), (ci 0), (ci 0), c0, (cs [120]), cn, (ci 7), (ci 0), (ci 0), c0, c0, (.sl 115 0 2 1)], false, false⟩),
    (119, ⟨95, [(cb false), (.sl 76 0 1 2), (.sl 82 0 1 1), (.sl 118 0 3 6), cn, cn], true, false⟩),
    (126, ⟨101, [(ci 0), (cb true)], false, false⟩)]⟩
def ck2 : Ck := ⟨36, [(.sl 133 0 1 6)], 135,
  [(73, ⟨68, [(ci 0), (ci 0), (ci 0), c0, (cs [65]), cn], false, false⟩),
    (76, ⟨159, [(cs [65]), (.sl 73 0 1 6)], false, false⟩),
    (82, ⟨9, [(cs [84])], false, false⟩),
    (115, ⟨3, [(ci 0), (ci 1)], true, false⟩),
    (118, ⟨68, [(ci 0), (ci 0), (ci 0), c0, (cs [66]), cn, (ci 2), (ci 0), (ci 0), c0, (cs [120]), cn, (ci 7), (ci 0), (ci 0), c0, c0, (.sl 115 0 2 1)], false, false⟩),
    (119, ⟨95, [(cb false), (.sl 76 0 1 2), (.sl 82 0 1 1), (.sl 118 0 3 6), cn, cn], true, false⟩),
    (126, ⟨101, [(ci 0), (cb true)], false, false⟩),
    (128, ⟨48, [(ci 0), (.sl 119 0 1 6), (cb false), (.sl 126 0 1 2), c0, cn, cn, cn], true, false⟩),
    (130, ⟨106, [(cs [65]), (ci 2), (ci 1), (ci 0), (cs [66]), (ci 0), (ci 1), (ci 0)], true, false⟩),
    (132, ⟨108, [(cb false), (cs [243, 120]), (cb false), (cs [241, 121]), (cb false), (cs [242, 120])], true, false⟩),
    (133, ⟨62, [(cs [84]), (cs [82]), (.sl 130 0 2 4), cn, (cb false), (.sl 132 0 3 2)], true, false⟩),
    (134, ⟨44, [(.sl 119 0 1 6), (cb false), (.sl 126 0 1 2)], true, false⟩)],
  (ci 0), 135,
  [(73, ⟨68, [(ci 0), (ci 0), (ci 0), c0, (cs [65]), cn], false, false⟩),
    (76, ⟨159, [(cs [65]), (.sl 73 0 1 6)], false, false⟩),
    (82, ⟨9, [(cs [84])], false, false⟩),
    (115, ⟨3, [(ci 0), (ci 1)], true, false⟩),
    (118, ⟨68, [(ci 0), (ci 0), (ci 0), c0, (cs [66]), cn, (ci 2), (ci 0), (ci 0), c0, (cs [120]), cn, (ci 7), (ci 0), (ci 0), c0, c0, (.sl 115 0 2 1)], false, false⟩),
    (119, ⟨95, [(cb false), (.sl 76 0 1 2), (.sl 82 0 1 1), (.sl 118 0 3 6), cn, cn], true, false⟩),
    (126, ⟨101, [(ci 0), (cb true)], false, false⟩),
    (128, ⟨48, [(ci 0), (.sl 119 0 1 6), (cb false), (.sl 126 0 1 2), c0, cn, cn, cn], true, false⟩),
    (130, ⟨106, [(cs [65]), (ci 2), (ci 1), (ci 0), (cs [66]), (ci 0), (ci 1), (ci 0)], true, false⟩),
    (132, ⟨108, [(cb false), (cs [243, 120]), (cb false), (cs [241, 121]), (cb false), (cs [242, 120])], true, false⟩),
    (133, ⟨62, [(cs [84]), (cs [82]), (.sl 130 0 2 4), cn, (cb false), (.sl 132 0 3 2)], true, false⟩),
    (134, ⟨44, [(.sl 119 0 1 6), (cb false), (.sl 126 0 1 2)], true, false⟩)]⟩
def ck3 : Ck := ⟨37, [(.sl 137 0 1 5), (.agg [(ci 0), (.sl 119 0 1 6), (cb false), (.sl 126 0 1 2), c0, cn, cn, cn])], 138,
  [(73, ⟨68, [(ci 0), (ci 0), (ci 0), c0, (cs [65]), cn], false, false⟩),
    (76, ⟨159, [(cs [65]), (.sl 73 0 1 6)], false, false⟩),
    (82, ⟨9, [(cs [84])], false, false⟩),
    (115, ⟨3, [(ci 0), (ci 1)], true, false⟩),
    (118, ⟨68, [(ci 0), (ci 0), (ci 0), c0, (cs [66]), cn, (ci 2), (ci 0), (ci 0), c0, (cs [120]), cn, (ci 7), (ci 0), (ci 0), c0, c0, (.sl 115 0 2 1)], false, false⟩),
    (119, ⟨95, [(cb false), (.sl 76 0 1 2), (.sl 82 0 1 1), (.sl 118 0 3 6), cn, cn], true, false⟩),
    (126, ⟨101, [(ci 0), (cb true)], false, false⟩),
    (128, ⟨48, [(ci 0), (.sl 119 0 1 6), (cb false), (.sl 126 0 1 2), c0, cn, cn, cn], true, false⟩),
    (130, ⟨106, [(cs [65]), (ci 2), (ci 1), (ci 0), (cs [66]), (ci 0), (ci 1), (ci 0)], true, false⟩),
    (132, ⟨108, [(cb false), (cs [243, 120]), (cb false), (cs [241, 121]), (cb false), (cs [242, 120])], true, false⟩),
    (133, ⟨62, [(cs [84]), (cs [82]), (.sl 130 0 2 4), cn, (cb false), (.sl 132 0 3 2)], true, false⟩),
    (134, ⟨44, [(.sl 119 0 1 6), (cb false), (.sl 126 0 1 2)], true, false⟩),
    (137, ⟨59, [(cs [84]), (cs [82]), (.sl 130 0 2 4), cn, (cb false)], false, false⟩)],
  (ci 0), 138,
  [(73, ⟨68, [(ci 0), (ci 0), (ci 0), c0, (cs [65]), cn], false, false⟩),
    (76, ⟨159, [(cs [65]), (.sl 73 0 1 6)], false, false⟩),
    (82, ⟨9, [(cs [84])], false, false⟩),
    (115, ⟨3, [(ci 0), (ci 1)], true, false⟩),
    (118, ⟨68, [(ci 0), (ci 0), (ci 0), c0, (cs [66]), cn, (ci 2), (ci 0), (ci 0), c0, (cs [120]), cn, (ci 7), (ci 0), (ci 0), c0, c0, (.sl 115 0 2 1)], false, false⟩),
    (119, ⟨95, [(cb false), (.sl 76 0 1 2), (.sl 82 0 1 1), (.sl 118 0 3 6), cn, cn], true, false⟩),
    (126, ⟨101, [(ci 0), (cb true)], false, false⟩),
    (128, ⟨48, [(ci 0), (.sl 119 0 1 6), (cb false), (.sl 126 0 1 2), c0, cn, cn, cn], true, false⟩),
    (130, ⟨106, [(cs [65]), (ci 2), (ci 1), (ci 0), (cs [66]), (ci 0), (ci 1), (ci 0)], true, false⟩),
    (132, ⟨108, [(cb false), (cs [243, 120]), (cb false), (cs [241, 121]), (cb false), (cs [242, 120])], true, false⟩),
    (133, ⟨62, [(cs [84]), (cs [82]), (.sl 130 0 2 4), cn, (cb false), (.sl 132 0 3 2)], true, false⟩),
    (134, ⟨44, [(.sl 119 0 1 6), (cb false), (.sl 126 0 1 2)], true, false⟩),
    (137, ⟨59, [(cs [84]), (cs [82]), (.sl 130 0 2 4), cn, (cb false)], false, false⟩)]⟩
def ck4 : Ck := ⟨40, [(.sl 133 0 1 6), (.agg [(cb false), (.sl 76 0 1 2), (.sl 82 0 1 1), (.sl 118 0 3 6), cn, cn])], 140,
  [(73, ⟨68, [(ci 0), (ci 0), (ci 0), c0, (cs [65]), cn], false, false⟩),
    (76, ⟨159, [(cs [65]), (.sl 73 0 1 6)], false, false⟩),
    (82, ⟨9, [(cs [84])], false, false⟩),
    (115, ⟨3, [(ci 0), (ci 1)], true, false⟩),
    (118, ⟨68, [(ci 0), (ci 0), (ci 0), c0, (cs [66]), cn, (ci 2), (ci 0), (ci 0), c0, (cs [120]), cn, (ci 7), (ci 0), (ci 0), c0, c0, (.sl 115 0 2 1)], false, false⟩),
    (119, ⟨95, [(cb false), (.sl 76 0 1 2), (.sl 82 0 1 1), (.sl 118 0 3 6), cn, cn], true, false⟩),
    (126, ⟨101, [(ci 0), (cb true)], false, false⟩),
    (128, ⟨48, [(ci 0), (.sl 119 0 1 6), (cb false), (.sl 126 0 1 2), c0, cn, cn, cn], true, false⟩),
    (130, ⟨106, [(cs [65]), (ci 2), (ci 1), (ci 0), (cs [66]), (ci 0), (ci 1), (ci 0)], true, false⟩),
    (132, ⟨108, [(cb false), (cs [243, 120]), (cb false), (cs [241, 121]), (cb false), (cs [242, 120])], true, false⟩),
    (133, ⟨62, [(cs [84]), (cs [82]), (.sl 130 0 2 4), cn, (cb false), (.sl 132 0 3 2)], true, false⟩),
    (134, ⟨44, [(.sl 119 0 1 6), (cb false), (.sl 126 0 1 2)], true, false⟩),
    (137, ⟨59, [(cs [84]), (cs [82]), (.sl 130 0 2 4), cn, (cb false)], false, false⟩),
    (138, ⟨95, [(cb false), (.sl 76 0 1 2), (.sl 82 0 1 1), (.sl 118 0 3 6), cn, cn], true, false⟩),
    (139, ⟨95, [(cb false), (.sl 76 0 1 2), (.sl 82 0 1 1), (.sl 118 0 3 6), cn, cn], true, false⟩)],
  (.sl 241 0 2 1), 242,
  [(73, ⟨68, [(ci 0), (ci 0), (ci 0), c0, (cs [65]), cn], false, false⟩),
    (76, ⟨159, [(cs [65]), (.sl 73 0 1 6)], false, false⟩),
    (82, ⟨9, [(cs [84])], false, false⟩),
    (115, ⟨3, [(ci 0), (ci 1)], true, false⟩),
    (118, ⟨68, [(ci 0), (ci 0), (ci 0), c0, (cs [66]), cn, (ci 2), (ci 0), (ci 0), c0, (cs [120]), cn, (ci 7), (ci 0), (ci 0), c0, c0, (.sl 115 0 2 1)], false, false⟩),
    (119, ⟨95, [(cb false), (.sl 76 0 1 2), (.sl 82 0 1 1), (.sl 118 0 3 6), cn, cn], true, false⟩),
    (126, ⟨101, [(ci 0), (cb true)], false, false⟩),
    (128, ⟨48, [(ci 0), (.sl 119 0 1 6), (cb false), (.sl 126 0 1 2), c0, cn, cn, cn], true, false⟩),
    (130, ⟨106, [(cs [65]), (ci 2), (ci 1), (ci 0), (cs [66]), (ci 0), (ci 1), (ci 0)], true, false⟩),
    (132, ⟨108, [(cb false), (cs [243, 120]), (cb false), (cs [241, 121]), (cb false), (cs [242, 120])], true, false⟩),
    (133, ⟨62, [(cs [84]), (cs [82]), (.sl 130 0 2 4), cn, (cb false), (.sl 132 0 3 2)], true, false⟩),
    (134, ⟨44, [(.sl 119 0 1 6), (cb false), (.sl 126 0 1 2)], true, false⟩),
    (137, ⟨59, [(cs [84]), (cs [82]), (.sl 130 0 2 4), cn, (cb false)], false, false⟩),
    (138, ⟨95, [(cb false), (.sl 76 0 1 2), (.sl 82 0 1 1), (.sl 118 0 3 6), cn, cn], true, false⟩),
    (139, ⟨95, [(cb false), (.sl 76 0 1 2), (.sl 82 0 1 1), (.sl 118 0 3 6), cn, cn], true, false⟩),
    (234, ⟨35, [(ci 1), (ci 3), (ci 0), c0], false, false⟩),
    (239, ⟨35, [(ci 1), (ci 2), (ci 0), c0], false, false⟩),
    (241, ⟨65, [(.sl 234 0 1 4), (.sl 239 0 1 4)], false, false⟩)]⟩
set_option maxRecDepth 1000000
theorem m102_run : memoB PT (funsOf PT) (treeC 20) idT gl0 5 100000 m102 = true := by kernel_rfl
theorem ck0_run : ckB PT (funsOf PT) (orE (treeC 20) (orE (memoC [m102]) (ckC gl0 []))) idT gl0 100000 ck0 = true := by kernel_rfl
theorem ck1_run : ckB PT (funsOf PT) (orE (treeC 20) (orE (memoC [m102]) (ckC gl0 [ck0]))) idT gl0 100000 ck1 = true := by kernel_rfl
theorem ck2_run : ckB PT (funsOf PT) (orE (treeC 20) (orE (memoC [m102]) (ckC gl0 [ck1, ck0]))) idT gl0 100000 ck2 = true := by kernel_rfl
theorem ck3_run : ckB PT (funsOf PT) (orE (treeC 20) (orE (memoC [m102]) (ckC gl0 [ck2, ck1, ck0]))) idT gl0 100000 ck3 = true := by kernel_rfl
theorem ck4_run : ckB PT (funsOf PT) (orE (treeC 20) (orE (memoC [m102]) (ckC gl0 [ck3, ck2, ck1, ck0]))) idT gl0 100000 ck4 = true := by kernel_rfl
def isTrueR : Res → Bool
  | some (.at (.bool true), _) => true
  | _ => false
theorem awake_run : isTrueR (callGo PT (funsOf PT) (orE (treeC 20) (orE (memoC [m102]) (ckC gl0 [ck4, ck3, ck2, ck1, ck0]))) idT 100000 6 [] (mkVS gl0 5 [])) = true := by kernel_rfl
end Go.XR
