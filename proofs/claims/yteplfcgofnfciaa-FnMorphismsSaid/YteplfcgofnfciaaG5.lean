/-
  The typed functions that this claim reaches, written by a program of this session: each is what the code does. No conditions.
-/
import Derived.Test.YteplfcgofnfciaaProg
import Derived.Test.YteplfcgofnfciaaMb
set_option linter.unusedVariables false
namespace Go.Pm.Try
open Go.Pm
def tab : List (TypeId × TD) := [(3, .one (.int .i64 0)),
  (5, .one (.int .u8 0)),
  (27, .slice 76 .ii),
  (29, .struct [(0, 1), (1, 1)] [.int .i64 0, .slice none 0 0]),
  (33, .slice 5 (.int .u8)),
  (35, .slice 3 (.int .i64)),
  (37, .struct [(0, 1), (1, 1)] [.slice none 0 0, .slice none 0 0]),
  (76, .ii),
  (79, .one (.pointer none)),
  (110, .one (.nilFunc)),
  (115, .struct [(0, 1), (1, 1), (2, 1)] [.slice none 0 0, .int .i64 0, .int .i64 0])]
theorem tab_ok : chkTab Go.Proofs.Try.prog tab = true := by kernel_rfl
theorem mix : Go.Proofs.Try.prog.follows .mixedOrders = true := by kernel_rfl
def spec_l01New_ins : List Item := [.t 0 (.ro (.int .u8))]
def spec_l01New_outs : List Item := [.t 500 (.ptr 31), .box 31 115 [.ro (.int .u8), .int .i64, .int .i64]]
def spec_l01New_ann : List (Nat × List Item) := [(58, [.t 0 (.ro (.int .u8)), .t 3 (.int .i64), .t 4 (.int .i64)])]
noncomputable def spec_l01New_L58 : (List Int) × Int × Int × Unit → Option (((List Int) × Int × Int × Unit) ⊕ ((List Int) × Int × Int × Unit)) := fun (t0, t3, t4, _) =>
  cond (decide (t4 < ((t0).length : Int)))
    (cond (decide (t4 < 4000))
    (chk (0 ≤ t4 ∧ t4 < ((t0).length : Int)) (some (.inl (t0, (iand .i64 (w64 ((w64 ((w64 (t3 * 97)) + (w64 (atD 0 t0 t4)))) + 7)) 1073741823), (w64 (t4 + 1)), ()))))
    (Option.map Sum.inr (some (t0, 0, t3, ()))))
    (Option.map Sum.inr (some (t0, 0, t3, ())))
noncomputable def spec_l01New : (List Int) × Unit → Option ((List Int) × Int × Int × Unit) := fun (t0, _) =>
  loopM spec_l01New_L58 (t0, (w64 (2069 + ((t0).length : Int))), 0, ())
noncomputable def spec_l01New_F : Fun := ⟨spec_l01New_ins, [], spec_l01New_outs, spec_l01New⟩
noncomputable def spec_l01New_orc : Orc := orcGet []
theorem spec_l01New_eq (x : Den spec_l01New_ins) : pmFn (tdGet tab) spec_l01New_orc spec_l01New_F.mn spec_l01New_ann Go.Proofs.Try.f61 spec_l01New_ins spec_l01New_outs x = spec_l01New x := by kernel_rfl
theorem spec_l01New_c : CallsD Go.Proofs.Try.prog 61 spec_l01New_F :=
  fn_contract (F := spec_l01New_F) (C := spec_l01New_orc) mix (chkTab_get tab_ok) orc_nil spec_l01New_ann (fn := Go.Proofs.Try.f61) (by kernel_rfl) (by kernel_rfl) (by kernel_rfl) (by kernel_rfl) (by kernel_rfl) (fun x y h => (spec_l01New_eq x).trans h)

def spec_l01Byte_ins : List Item := [.t 0 (.ptr 900), .box 900 115 [.ro (.int .u8), .int .i64, .int .i64]]
def spec_l01Byte_outs : List Item := [.t 500 (.int .i64), .box 900 115 [.ro (.int .u8), .int .i64, .int .i64]]
def spec_l01Byte_ann : List (Nat × List Item) := []
noncomputable def spec_l01Byte : (List Int) × Int × Int × Unit → Option (Int × (List Int) × Int × Int × Unit) := fun (b900_0, b900_1, b900_2, _) =>
  chk (0 ≤ 33) (chk (0 ≤ 45) (cond (decide (b900_1 < ((b900_0).length : Int)))
    (chk (0 ≤ b900_1 ∧ b900_1 < ((b900_0).length : Int)) (some ((iand .i64 (w64 ((iand .i64 (ixor .i64 (ishr .i64 (w64 ((w64 (b900_2 * 6364136223846793005)) + 1442695040888963407)) 33) (ishr .i64 (w64 ((w64 (b900_2 * 6364136223846793005)) + 1442695040888963407)) 45)) 255) + (w64 (atD 0 b900_0 b900_1)))) 255), b900_0, (w64 (b900_1 + 1)), (w64 ((w64 (b900_2 * 6364136223846793005)) + 1442695040888963407)), ())))
    (some ((iand .i64 (ixor .i64 (ishr .i64 (w64 ((w64 (b900_2 * 6364136223846793005)) + 1442695040888963407)) 33) (ishr .i64 (w64 ((w64 (b900_2 * 6364136223846793005)) + 1442695040888963407)) 45)) 255), b900_0, b900_1, (w64 ((w64 (b900_2 * 6364136223846793005)) + 1442695040888963407)), ()))))
noncomputable def spec_l01Byte_F : Fun := ⟨spec_l01Byte_ins, [900], spec_l01Byte_outs, spec_l01Byte⟩
noncomputable def spec_l01Byte_orc : Orc := orcGet []
theorem spec_l01Byte_eq (x : Den spec_l01Byte_ins) : pmFn (tdGet tab) spec_l01Byte_orc spec_l01Byte_F.mn spec_l01Byte_ann Go.Proofs.Try.f79 spec_l01Byte_ins spec_l01Byte_outs x = spec_l01Byte x := by kernel_rfl
theorem spec_l01Byte_c : CallsD Go.Proofs.Try.prog 79 spec_l01Byte_F :=
  fn_contract (F := spec_l01Byte_F) (C := spec_l01Byte_orc) mix (chkTab_get tab_ok) orc_nil spec_l01Byte_ann (fn := Go.Proofs.Try.f79) (by kernel_rfl) (by kernel_rfl) (by kernel_rfl) (by kernel_rfl) (by kernel_rfl) (fun x y h => (spec_l01Byte_eq x).trans h)

def spec_l01Below_ins : List Item := [.t 0 (.ptr 900), .t 1 (.int .i64), .box 900 115 [.ro (.int .u8), .int .i64, .int .i64]]
def spec_l01Below_outs : List Item := [.t 500 (.int .i64), .box 900 115 [.ro (.int .u8), .int .i64, .int .i64]]
def spec_l01Below_ann : List (Nat × List Item) := []
noncomputable def spec_l01Below : Int × (List Int) × Int × Int × Unit → Option (Int × (List Int) × Int × Int × Unit) := fun (t1, b900_0, b900_1, b900_2, _) =>
  cond (decide (t1 ≤ 0))
    (some (0, b900_0, b900_1, b900_2, ()))
    (cond (decide (t1 ≤ 256))
    (Option.bind (spec_l01Byte (b900_0, b900_1, b900_2, ())) fun (v1, v2, v3, v4, _) => chk (t1 ≠ 0) (some ((v1.tmod t1), v2, v3, v4, ())))
    (Option.bind (spec_l01Byte (b900_0, b900_1, b900_2, ())) fun (v5, v6, v7, v8, _) => Option.bind (spec_l01Byte (v6, v7, v8, ())) fun (v9, v10, v11, v12, _) => Option.bind (spec_l01Byte (v10, v11, v12, ())) fun (v13, v14, v15, v16, _) => Option.bind (spec_l01Byte (v14, v15, v16, ())) fun (v17, v18, v19, v20, _) => chk (t1 ≠ 0) (some (((w64 ((w64 ((w64 ((w64 (v5 * 16777216)) + (w64 (v9 * 65536)))) + (w64 (v13 * 256)))) + v17)).tmod t1), v18, v19, v20, ()))))
noncomputable def spec_l01Below_F : Fun := ⟨spec_l01Below_ins, [900], spec_l01Below_outs, spec_l01Below⟩
noncomputable def spec_l01Below_orc : Orc := orcGet [(79, spec_l01Byte_F)]
theorem spec_l01Below_eq (x : Den spec_l01Below_ins) : pmFn (tdGet tab) spec_l01Below_orc spec_l01Below_F.mn spec_l01Below_ann Go.Proofs.Try.f74 spec_l01Below_ins spec_l01Below_outs x = spec_l01Below x := by kernel_rfl
theorem spec_l01Below_c : CallsD Go.Proofs.Try.prog 74 spec_l01Below_F :=
  fn_contract (F := spec_l01Below_F) (C := spec_l01Below_orc) mix (chkTab_get tab_ok) (orc_cons spec_l01Byte_c orc_nil) spec_l01Below_ann (fn := Go.Proofs.Try.f74) (by kernel_rfl) (by kernel_rfl) (by kernel_rfl) (by kernel_rfl) (by kernel_rfl) (fun x y h => (spec_l01Below_eq x).trans h)

def spec_l02Vert_ins : List Item := [.agg 0 [.int .i64, .ro .ii], .t 1 (.int .i64)]
def spec_l02Vert_outs : List Item := [.t 500 (.bool)]
def spec_l02Vert_ann : List (Nat × List Item) := []
noncomputable def spec_l02Vert : Int × (List (Int × Int)) × Int × Unit → Option (Bool × Unit) := fun (t0_0, t0_1, t1, _) =>
  cond (decide (t1 ≥ 0))
    (some ((decide (t1 < t0_0)), ()))
    (some (false, ()))
noncomputable def spec_l02Vert_F : Fun := ⟨spec_l02Vert_ins, [], spec_l02Vert_outs, spec_l02Vert⟩
noncomputable def spec_l02Vert_orc : Orc := orcGet []
theorem spec_l02Vert_eq (x : Den spec_l02Vert_ins) : pmFn (tdGet tab) spec_l02Vert_orc spec_l02Vert_F.mn spec_l02Vert_ann Go.Proofs.Try.f139 spec_l02Vert_ins spec_l02Vert_outs x = spec_l02Vert x := by kernel_rfl
theorem spec_l02Vert_c : CallsD Go.Proofs.Try.prog 139 spec_l02Vert_F :=
  fn_contract (F := spec_l02Vert_F) (C := spec_l02Vert_orc) mix (chkTab_get tab_ok) orc_nil spec_l02Vert_ann (fn := Go.Proofs.Try.f139) (by kernel_rfl) (by kernel_rfl) (by kernel_rfl) (by kernel_rfl) (by kernel_rfl) (fun x y h => (spec_l02Vert_eq x).trans h)

def spec_Multiplicity_ins : List Item := [.agg 0 [.int .i64, .ro .ii], .t 1 (.int .i64), .t 2 (.int .i64)]
def spec_Multiplicity_outs : List Item := [.t 500 (.int .i64)]
def spec_Multiplicity_ann : List (Nat × List Item) := [(28, [.t 1 (.int .i64), .t 2 (.int .i64), .t 3 (.ptr 3), .t 7 (.int .i64), .t 24 (.bool), .box 3 29 [.int .i64, .ro .ii]]),
  (122, [.t 1 (.int .i64), .t 2 (.int .i64), .t 7 (.int .i64), .t 26 (.ro .ii), .t 27 (.int .i64), .t 28 (.int .i64)])]
noncomputable def spec_Multiplicity_L122 : Int × Int × Int × (List (Int × Int)) × Int × Int × Unit → Option ((Int × Int × Int × (List (Int × Int)) × Int × Int × Unit) ⊕ (Int × Unit)) := fun (t1, t2, t7, t26, t27, t28, _) =>
  cond (decide (t28 < t27))
    (chk (0 ≤ t28 ∧ t28 < ((t26).length : Int)) (cond ((atD (0, 0) t26 t28).1 == (min2 t1 t2))
    (cond ((atD (0, 0) t26 t28).2 == (max2 t1 t2))
    (some (.inl (t1, t2, (w64 (t7 + 1)), t26, t27, (w64 (t28 + 1)), ())))
    (some (.inl (t1, t2, t7, t26, t27, (w64 (t28 + 1)), ()))))
    (some (.inl (t1, t2, t7, t26, t27, (w64 (t28 + 1)), ())))))
    (Option.map Sum.inr (some (t7, ())))
noncomputable def spec_Multiplicity_J28 : Int × Int × Int × Bool × Int × (List (Int × Int)) × Unit → Option (Int × Unit) := fun (t1, t2, t7, t24, b3_0, b3_1, _) =>
  cond t24
    (some (0, ()))
    (loopM spec_Multiplicity_L122 (t1, t2, t7, b3_1, ((b3_1).length : Int), 0, ()))
noncomputable def spec_Multiplicity : Int × (List (Int × Int)) × Int × Int × Unit → Option (Int × Unit) := fun (t0_0, t0_1, t1, t2, _) =>
  joinB (T := Int × Int × Int × Bool × Int × (List (Int × Int)) × Unit) (R := Int × Unit) (Option.bind (spec_l02Vert (t0_0, t0_1, t1, ())) fun (v2, _) => cond (!v2)
    (some (.inl (t1, t2, 0, true, t0_0, t0_1, ())))
    (Option.bind (spec_l02Vert (t0_0, t0_1, t2, ())) fun (v3, _) => cond (!v3)
    (some (.inl (t1, t2, 0, true, t0_0, t0_1, ())))
    (some (.inl (t1, t2, 0, (t1 == t2), t0_0, t0_1, ()))))) spec_Multiplicity_J28
noncomputable def spec_Multiplicity_F : Fun := ⟨spec_Multiplicity_ins, [], spec_Multiplicity_outs, spec_Multiplicity⟩
noncomputable def spec_Multiplicity_orc : Orc := orcGet [(139, spec_l02Vert_F)]
theorem spec_Multiplicity_eq (x : Den spec_Multiplicity_ins) : pmFn (tdGet tab) spec_Multiplicity_orc spec_Multiplicity_F.mn spec_Multiplicity_ann Go.Proofs.Try.f104 spec_Multiplicity_ins spec_Multiplicity_outs x = spec_Multiplicity x := by kernel_rfl
theorem spec_Multiplicity_c : CallsD Go.Proofs.Try.prog 104 spec_Multiplicity_F :=
  fn_contract (F := spec_Multiplicity_F) (C := spec_Multiplicity_orc) mix (chkTab_get tab_ok) (orc_cons spec_l02Vert_c orc_nil) spec_Multiplicity_ann (fn := Go.Proofs.Try.f104) (by kernel_rfl) (by kernel_rfl) (by kernel_rfl) (by kernel_rfl) (by kernel_rfl) (fun x y h => (spec_Multiplicity_eq x).trans h)

def spec_l01In_ins : List Item := [.t 0 (.int .i64), .t 1 (.int .i64), .t 2 (.int .i64)]
def spec_l01In_outs : List Item := [.t 500 (.bool)]
def spec_l01In_ann : List (Nat × List Item) := []
noncomputable def spec_l01In : Int × Int × Int × Unit → Option (Bool × Unit) := fun (t0, t1, t2, _) =>
  cond (decide (t0 ≥ t1))
    (some ((decide (t0 ≤ t2)), ()))
    (some (false, ()))
noncomputable def spec_l01In_F : Fun := ⟨spec_l01In_ins, [], spec_l01In_outs, spec_l01In⟩
noncomputable def spec_l01In_orc : Orc := orcGet []
theorem spec_l01In_eq (x : Den spec_l01In_ins) : pmFn (tdGet tab) spec_l01In_orc spec_l01In_F.mn spec_l01In_ann Go.Proofs.Try.f122 spec_l01In_ins spec_l01In_outs x = spec_l01In x := by kernel_rfl
theorem spec_l01In_c : CallsD Go.Proofs.Try.prog 122 spec_l01In_F :=
  fn_contract (F := spec_l01In_F) (C := spec_l01In_orc) mix (chkTab_get tab_ok) orc_nil spec_l01In_ann (fn := Go.Proofs.Try.f122) (by kernel_rfl) (by kernel_rfl) (by kernel_rfl) (by kernel_rfl) (by kernel_rfl) (fun x y h => (spec_l01In_eq x).trans h)

def spec_EdgesOk_ins : List Item := [.agg 0 [.int .i64, .ro .ii]]
def spec_EdgesOk_outs : List Item := [.t 500 (.bool)]
def spec_EdgesOk_ann : List (Nat × List Item) := [(12, [.t 1 (.ptr 1), .t 14 (.bool), .box 1 29 [.int .i64, .ro .ii]]),
  (58, [.t 1 (.ptr 1), .t 16 (.ro .ii), .t 17 (.int .i64), .t 18 (.int .i64), .box 1 29 [.int .i64, .ro .ii]])]
noncomputable def spec_EdgesOk_L58 : (List (Int × Int)) × Int × Int × Int × (List (Int × Int)) × Unit → Option (((List (Int × Int)) × Int × Int × Int × (List (Int × Int)) × Unit) ⊕ (Bool × Unit)) := fun (t16, t17, t18, b1_0, b1_1, _) =>
  cond (decide (t18 < t17))
    (chk (0 ≤ t18 ∧ t18 < ((t16).length : Int)) (Option.bind (spec_l01In ((atD (0, 0) t16 t18).1, 0, (w64 (b1_0 - 1)), ())) fun (v3, _) => cond (!v3)
    (Option.map Sum.inr (some (false, ())))
    (Option.bind (spec_l01In ((atD (0, 0) t16 t18).2, (w64 ((atD (0, 0) t16 t18).1 + 1)), (w64 (b1_0 - 1)), ())) fun (v4, _) => cond (!v4)
    (Option.map Sum.inr (some (false, ())))
    (some (.inl (t16, t17, (w64 (t18 + 1)), b1_0, b1_1, ()))))))
    (Option.map Sum.inr (some (true, ())))
noncomputable def spec_EdgesOk_J12 : Bool × Int × (List (Int × Int)) × Unit → Option (Bool × Unit) := fun (t14, b1_0, b1_1, _) =>
  cond t14
    (some (false, ()))
    (loopM spec_EdgesOk_L58 (b1_1, ((b1_1).length : Int), 0, b1_0, b1_1, ()))
noncomputable def spec_EdgesOk : Int × (List (Int × Int)) × Unit → Option (Bool × Unit) := fun (t0_0, t0_1, _) =>
  joinB (T := Bool × Int × (List (Int × Int)) × Unit) (R := Bool × Unit) (Option.bind (spec_l01In (t0_0, 1, 6, ())) fun (v2, _) => cond (!v2)
    (some (.inl (true, t0_0, t0_1, ())))
    (some (.inl ((decide (((t0_1).length : Int) > 12)), t0_0, t0_1, ())))) spec_EdgesOk_J12
noncomputable def spec_EdgesOk_F : Fun := ⟨spec_EdgesOk_ins, [], spec_EdgesOk_outs, spec_EdgesOk⟩
noncomputable def spec_EdgesOk_orc : Orc := orcGet [(122, spec_l01In_F)]
theorem spec_EdgesOk_eq (x : Den spec_EdgesOk_ins) : pmFn (tdGet tab) spec_EdgesOk_orc spec_EdgesOk_F.mn spec_EdgesOk_ann Go.Proofs.Try.f97 spec_EdgesOk_ins spec_EdgesOk_outs x = spec_EdgesOk x := by kernel_rfl
theorem spec_EdgesOk_c : CallsD Go.Proofs.Try.prog 97 spec_EdgesOk_F :=
  fn_contract (F := spec_EdgesOk_F) (C := spec_EdgesOk_orc) mix (chkTab_get tab_ok) (orc_cons spec_l01In_c orc_nil) spec_EdgesOk_ann (fn := Go.Proofs.Try.f97) (by kernel_rfl) (by kernel_rfl) (by kernel_rfl) (by kernel_rfl) (by kernel_rfl) (fun x y h => (spec_EdgesOk_eq x).trans h)

def spec_l02Has_ins : List Item := [.t 0 (.ro (.int .i64)), .t 1 (.int .i64)]
def spec_l02Has_outs : List Item := [.t 500 (.bool)]
def spec_l02Has_ann : List (Nat × List Item) := [(26, [.t 1 (.int .i64), .t 7 (.ro (.int .i64)), .t 8 (.int .i64), .t 9 (.int .i64)])]
noncomputable def spec_l02Has_L26 : Int × (List Int) × Int × Int × Unit → Option ((Int × (List Int) × Int × Int × Unit) ⊕ (Bool × Unit)) := fun (t1, t7, t8, t9, _) =>
  cond (decide (t9 < t8))
    (chk (0 ≤ t9 ∧ t9 < ((t7).length : Int)) (cond (atD 0 t7 t9 == t1)
    (Option.map Sum.inr (some (true, ())))
    (some (.inl (t1, t7, t8, (w64 (t9 + 1)), ())))))
    (Option.map Sum.inr (some (false, ())))
noncomputable def spec_l02Has : (List Int) × Int × Unit → Option (Bool × Unit) := fun (t0, t1, _) =>
  loopM spec_l02Has_L26 (t1, t0, ((t0).length : Int), 0, ())
noncomputable def spec_l02Has_F : Fun := ⟨spec_l02Has_ins, [], spec_l02Has_outs, spec_l02Has⟩
noncomputable def spec_l02Has_orc : Orc := orcGet []
theorem spec_l02Has_eq (x : Den spec_l02Has_ins) : pmFn (tdGet tab) spec_l02Has_orc spec_l02Has_F.mn spec_l02Has_ann Go.Proofs.Try.f137 spec_l02Has_ins spec_l02Has_outs x = spec_l02Has x := by kernel_rfl
theorem spec_l02Has_c : CallsD Go.Proofs.Try.prog 137 spec_l02Has_F :=
  fn_contract (F := spec_l02Has_F) (C := spec_l02Has_orc) mix (chkTab_get tab_ok) orc_nil spec_l02Has_ann (fn := Go.Proofs.Try.f137) (by kernel_rfl) (by kernel_rfl) (by kernel_rfl) (by kernel_rfl) (by kernel_rfl) (fun x y h => (spec_l02Has_eq x).trans h)

def spec_l02Reach_ins : List Item := [.agg 0 [.int .i64, .ro .ii]]
def spec_l02Reach_outs : List Item := [.t 500 (.own 3 (.int .i64))]
def spec_l02Reach_ann : List (Nat × List Item) := [(58, [.t 1 (.ptr 1), .t 3 (.own 3 (.int .i64)), .t 4 (.int .i64), .box 1 29 [.int .i64, .ro .ii]]),
  (3730, [.t 1 (.ptr 1), .t 3 (.own 3 (.int .i64)), .t 4 (.int .i64), .t 15 (.ro .ii), .t 16 (.int .i64), .t 17 (.int .i64), .box 1 29 [.int .i64, .ro .ii]]),
  (954980, [.t 1 (.ptr 1), .t 3 (.own 3 (.int .i64)), .t 4 (.int .i64), .t 6 (.ptr 6), .t 15 (.ro .ii), .t 16 (.int .i64), .t 17 (.int .i64), .t 34 (.bool), .box 1 29 [.int .i64, .ro .ii], .box 6 76 [.int .i64, .int .i64]]),
  (954981, [.t 1 (.ptr 1), .t 3 (.own 3 (.int .i64)), .t 4 (.int .i64), .t 6 (.ptr 6), .t 15 (.ro .ii), .t 16 (.int .i64), .t 17 (.int .i64), .box 1 29 [.int .i64, .ro .ii], .box 6 76 [.int .i64, .int .i64]])]
noncomputable def spec_l02Reach_J954981 : (List Int) × Int × (List (Int × Int)) × Int × Int × Int × (List (Int × Int)) × Int × Int × Unit → Option ((((List Int) × Int × (List (Int × Int)) × Int × Int × Int × (List (Int × Int)) × Unit) ⊕ (((List Int) × Int × Int × (List (Int × Int)) × Unit) ⊕ (List Int) × Unit))) := fun (t3, t4, t15, t16, t17, b1_0, b1_1, b6_0, b6_1, _) =>
  chk (0 ≤ t4 ∧ t4 < ((t3).length : Int)) (cond (b6_1 == atD 0 t3 t4)
    (Option.bind (spec_l02Has (t3, b6_0, ())) fun (v4, _) => cond (!v4)
    (chk ((t3).length + (([b6_0] : List Int)).length ≤ 17592186044416) (some (.inl ((t3 ++ ([b6_0] : List Int)), t4, t15, t16, (w64 (t17 + 1)), b1_0, b1_1, ()))))
    (some (.inl (t3, t4, t15, t16, (w64 (t17 + 1)), b1_0, b1_1, ()))))
    (some (.inl (t3, t4, t15, t16, (w64 (t17 + 1)), b1_0, b1_1, ()))))
noncomputable def spec_l02Reach_J954980 : (List Int) × Int × (List (Int × Int)) × Int × Int × Bool × Int × (List (Int × Int)) × Int × Int × Unit → Option ((((List Int) × Int × (List (Int × Int)) × Int × Int × Int × (List (Int × Int)) × Unit) ⊕ (((List Int) × Int × Int × (List (Int × Int)) × Unit) ⊕ (List Int) × Unit))) := fun (t3, t4, t15, t16, t17, t34, b1_0, b1_1, b6_0, b6_1, _) =>
  joinB (T := (List Int) × Int × (List (Int × Int)) × Int × Int × Int × (List (Int × Int)) × Int × Int × Unit) (R := (((List Int) × Int × (List (Int × Int)) × Int × Int × Int × (List (Int × Int)) × Unit) ⊕ (((List Int) × Int × Int × (List (Int × Int)) × Unit) ⊕ (List Int) × Unit))) (cond t34
    (chk ((t3).length + (([b6_1] : List Int)).length ≤ 17592186044416) (some (.inl ((t3 ++ ([b6_1] : List Int)), t4, t15, t16, t17, b1_0, b1_1, b6_0, b6_1, ()))))
    (some (.inl (t3, t4, t15, t16, t17, b1_0, b1_1, b6_0, b6_1, ())))) spec_l02Reach_J954981
noncomputable def spec_l02Reach_L3730 : (List Int) × Int × (List (Int × Int)) × Int × Int × Int × (List (Int × Int)) × Unit → Option (((List Int) × Int × (List (Int × Int)) × Int × Int × Int × (List (Int × Int)) × Unit) ⊕ ((((List Int) × Int × Int × (List (Int × Int)) × Unit) ⊕ (List Int) × Unit))) := fun (t3, t4, t15, t16, t17, b1_0, b1_1, _) =>
  cond (decide (t17 < t16))
    (chk (0 ≤ t17 ∧ t17 < ((t15).length : Int)) (joinB (T := (List Int) × Int × (List (Int × Int)) × Int × Int × Bool × Int × (List (Int × Int)) × Int × Int × Unit) (R := (((List Int) × Int × (List (Int × Int)) × Int × Int × Int × (List (Int × Int)) × Unit) ⊕ (((List Int) × Int × Int × (List (Int × Int)) × Unit) ⊕ (List Int) × Unit))) (chk (0 ≤ t4 ∧ t4 < ((t3).length : Int)) (cond ((atD (0, 0) t15 t17).1 == atD 0 t3 t4)
    (Option.bind (spec_l02Has (t3, (atD (0, 0) t15 t17).2, ())) fun (v2, _) => some (.inl (t3, t4, t15, t16, t17, (!v2), b1_0, b1_1, (atD (0, 0) t15 t17).1, (atD (0, 0) t15 t17).2, ())))
    (some (.inl (t3, t4, t15, t16, t17, false, b1_0, b1_1, (atD (0, 0) t15 t17).1, (atD (0, 0) t15 t17).2, ()))))) spec_l02Reach_J954980))
    (Option.map Sum.inr (some (.inl (t3, (w64 (t4 + 1)), b1_0, b1_1, ()))))
noncomputable def spec_l02Reach_L58 : (List Int) × Int × Int × (List (Int × Int)) × Unit → Option (((List Int) × Int × Int × (List (Int × Int)) × Unit) ⊕ ((List Int) × Unit)) := fun (t3, t4, b1_0, b1_1, _) =>
  cond (decide (t4 < ((t3).length : Int)))
    (loopM spec_l02Reach_L3730 (t3, t4, b1_1, ((b1_1).length : Int), 0, b1_0, b1_1, ()))
    (Option.map Sum.inr (some (t3, ())))
noncomputable def spec_l02Reach : Int × (List (Int × Int)) × Unit → Option ((List Int) × Unit) := fun (t0_0, t0_1, _) =>
  loopM spec_l02Reach_L58 (([0] : List Int), 0, t0_0, t0_1, ())
noncomputable def spec_l02Reach_F : Fun := ⟨spec_l02Reach_ins, [], spec_l02Reach_outs, spec_l02Reach⟩
noncomputable def spec_l02Reach_orc : Orc := orcGet [(137, spec_l02Has_F)]
theorem spec_l02Reach_eq (x : Den spec_l02Reach_ins) : pmFn (tdGet tab) spec_l02Reach_orc spec_l02Reach_F.mn spec_l02Reach_ann Go.Proofs.Try.f98 spec_l02Reach_ins spec_l02Reach_outs x = spec_l02Reach x := by kernel_rfl
theorem spec_l02Reach_c : CallsD Go.Proofs.Try.prog 98 spec_l02Reach_F :=
  fn_contract (F := spec_l02Reach_F) (C := spec_l02Reach_orc) mix (chkTab_get tab_ok) (orc_cons spec_l02Has_c orc_nil) spec_l02Reach_ann (fn := Go.Proofs.Try.f98) (by kernel_rfl) (by kernel_rfl) (by kernel_rfl) (by kernel_rfl) (by kernel_rfl) (fun x y h => (spec_l02Reach_eq x).trans h)

def spec_GraphOk_ins : List Item := [.agg 0 [.int .i64, .ro .ii]]
def spec_GraphOk_outs : List Item := [.t 500 (.bool)]
def spec_GraphOk_ann : List (Nat × List Item) := [(58, [.t 1 (.ptr 1), .t 9 (.ro .ii), .t 10 (.int .i64), .t 11 (.int .i64), .box 1 29 [.int .i64, .ro .ii]])]
noncomputable def spec_GraphOk_L58 : (List (Int × Int)) × Int × Int × Int × (List (Int × Int)) × Unit → Option (((List (Int × Int)) × Int × Int × Int × (List (Int × Int)) × Unit) ⊕ (Bool × Unit)) := fun (t9, t10, t11, b1_0, b1_1, _) =>
  cond (decide (t11 < t10))
    (chk (0 ≤ t11 ∧ t11 < ((t9).length : Int)) (cond (decide (t11 > 0))
    (chk (0 ≤ (w64 (t11 - 1)) ∧ (w64 (t11 - 1)) < ((b1_1).length : Int)) (cond (decide ((atD (0, 0) t9 t11).1 < (atD (0, 0) b1_1 (w64 (t11 - 1))).1))
    (Option.map Sum.inr (some (false, ())))
    (chk (0 ≤ (w64 (t11 - 1)) ∧ (w64 (t11 - 1)) < ((b1_1).length : Int)) (cond ((atD (0, 0) t9 t11).1 == (atD (0, 0) b1_1 (w64 (t11 - 1))).1)
    (chk (0 ≤ (w64 (t11 - 1)) ∧ (w64 (t11 - 1)) < ((b1_1).length : Int)) (cond (decide ((atD (0, 0) t9 t11).2 < (atD (0, 0) b1_1 (w64 (t11 - 1))).2))
    (Option.map Sum.inr (some (false, ())))
    (some (.inl (t9, t10, (w64 (t11 + 1)), b1_0, b1_1, ())))))
    (some (.inl (t9, t10, (w64 (t11 + 1)), b1_0, b1_1, ())))))))
    (some (.inl (t9, t10, (w64 (t11 + 1)), b1_0, b1_1, ())))))
    (Option.map Sum.inr (Option.bind (spec_l02Reach (b1_0, b1_1, ())) fun (v2, _) => some ((((v2).length : Int) == b1_0), ())))
noncomputable def spec_GraphOk : Int × (List (Int × Int)) × Unit → Option (Bool × Unit) := fun (t0_0, t0_1, _) =>
  Option.bind (spec_EdgesOk (t0_0, t0_1, ())) fun (v1, _) => cond (!v1)
    (some (false, ()))
    (loopM spec_GraphOk_L58 (t0_1, ((t0_1).length : Int), 0, t0_0, t0_1, ()))
noncomputable def spec_GraphOk_F : Fun := ⟨spec_GraphOk_ins, [], spec_GraphOk_outs, spec_GraphOk⟩
noncomputable def spec_GraphOk_orc : Orc := orcGet [(97, spec_EdgesOk_F), (98, spec_l02Reach_F)]
theorem spec_GraphOk_eq (x : Den spec_GraphOk_ins) : pmFn (tdGet tab) spec_GraphOk_orc spec_GraphOk_F.mn spec_GraphOk_ann Go.Proofs.Try.f51 spec_GraphOk_ins spec_GraphOk_outs x = spec_GraphOk x := by kernel_rfl
theorem spec_GraphOk_c : CallsD Go.Proofs.Try.prog 51 spec_GraphOk_F :=
  fn_contract (F := spec_GraphOk_F) (C := spec_GraphOk_orc) mix (chkTab_get tab_ok) (orc_cons spec_EdgesOk_c (orc_cons spec_l02Reach_c orc_nil)) spec_GraphOk_ann (fn := Go.Proofs.Try.f51) (by kernel_rfl) (by kernel_rfl) (by kernel_rfl) (by kernel_rfl) (by kernel_rfl) (fun x y h => (spec_GraphOk_eq x).trans h)

def spec_AddEdge_ins : List Item := [.agg 0 [.int .i64, .ro .ii], .t 1 (.int .i64), .t 2 (.int .i64)]
def spec_AddEdge_outs : List Item := [.agg 500 [.int .i64, .own 76 .ii], .t 501 (.bool)]
def spec_AddEdge_ann : List (Nat × List Item) := [(12, [.t 1 (.int .i64), .t 2 (.int .i64), .t 3 (.ptr 3), .t 6 (.ptr 6), .t 42 (.bool), .box 3 29 [.int .i64, .ro .ii], .box 6 29 [.int .i64, .cn (.slice none 0 0)]]),
  (506, [.t 6 (.ptr 6), .t 8 (.ptr 8), .t 9 (.ptr 9), .t 10 (.bool), .t 55 (.ro .ii), .t 56 (.int .i64), .t 57 (.int .i64), .box 6 29 [.int .i64, .cn (.slice none 0 0)], .box 8 76 [.int .i64, .int .i64], .box 9 29 [.int .i64, .own 76 .ii]]),
  (129636, [.t 6 (.ptr 6), .t 8 (.ptr 8), .t 9 (.ptr 9), .t 10 (.bool), .t 12 (.ptr 12), .t 55 (.ro .ii), .t 56 (.int .i64), .t 57 (.int .i64), .t 83 (.bool), .box 6 29 [.int .i64, .cn (.slice none 0 0)], .box 8 76 [.int .i64, .int .i64], .box 9 29 [.int .i64, .own 76 .ii], .box 12 76 [.int .i64, .int .i64]])]
noncomputable def spec_AddEdge_J129636 : Bool × (List (Int × Int)) × Int × Int × Bool × Int × Int × Int × Int × (List (Int × Int)) × Int × Int × Unit → Option (((Bool × (List (Int × Int)) × Int × Int × Int × Int × Int × Int × (List (Int × Int)) × Unit) ⊕ Int × (List (Int × Int)) × Bool × Unit)) := fun (t10, t55, t56, t57, t83, b6_0, b8_0, b8_1, b9_0, b9_1, b12_0, b12_1, _) =>
  cond t83
    (chk ((b9_1).length + (([(b8_0, b8_1)] : List (Int × Int))).length ≤ 8796093022208) (chk (((b9_1 ++ ([(b8_0, b8_1)] : List (Int × Int)))).length + (([(b12_0, b12_1)] : List (Int × Int))).length ≤ 8796093022208) (some (.inl (true, t55, t56, (w64 (t57 + 1)), b6_0, b8_0, b8_1, b9_0, ((b9_1 ++ ([(b8_0, b8_1)] : List (Int × Int))) ++ ([(b12_0, b12_1)] : List (Int × Int))), ())))))
    (chk ((b9_1).length + (([(b12_0, b12_1)] : List (Int × Int))).length ≤ 8796093022208) (some (.inl (t10, t55, t56, (w64 (t57 + 1)), b6_0, b8_0, b8_1, b9_0, (b9_1 ++ ([(b12_0, b12_1)] : List (Int × Int))), ()))))
noncomputable def spec_AddEdge_L506 : Bool × (List (Int × Int)) × Int × Int × Int × Int × Int × Int × (List (Int × Int)) × Unit → Option ((Bool × (List (Int × Int)) × Int × Int × Int × Int × Int × Int × (List (Int × Int)) × Unit) ⊕ (Int × (List (Int × Int)) × Bool × Unit)) := fun (t10, t55, t56, t57, b6_0, b8_0, b8_1, b9_0, b9_1, _) =>
  cond (decide (t57 < t56))
    (chk (0 ≤ t57 ∧ t57 < ((t55).length : Int)) (joinB (T := Bool × (List (Int × Int)) × Int × Int × Bool × Int × Int × Int × Int × (List (Int × Int)) × Int × Int × Unit) (R := ((Bool × (List (Int × Int)) × Int × Int × Int × Int × Int × Int × (List (Int × Int)) × Unit) ⊕ Int × (List (Int × Int)) × Bool × Unit)) (cond (!t10)
    (cond (decide ((atD (0, 0) t55 t57).1 > b8_0))
    (some (.inl (t10, t55, t56, t57, true, b6_0, b8_0, b8_1, b9_0, b9_1, (atD (0, 0) t55 t57).1, (atD (0, 0) t55 t57).2, ())))
    (cond ((atD (0, 0) t55 t57).1 == b8_0)
    (some (.inl (t10, t55, t56, t57, (decide ((atD (0, 0) t55 t57).2 > b8_1)), b6_0, b8_0, b8_1, b9_0, b9_1, (atD (0, 0) t55 t57).1, (atD (0, 0) t55 t57).2, ())))
    (some (.inl (t10, t55, t56, t57, false, b6_0, b8_0, b8_1, b9_0, b9_1, (atD (0, 0) t55 t57).1, (atD (0, 0) t55 t57).2, ())))))
    (some (.inl (t10, t55, t56, t57, false, b6_0, b8_0, b8_1, b9_0, b9_1, (atD (0, 0) t55 t57).1, (atD (0, 0) t55 t57).2, ())))) spec_AddEdge_J129636))
    (Option.map Sum.inr (cond (!t10)
    (chk ((b9_1).length + (([(b8_0, b8_1)] : List (Int × Int))).length ≤ 8796093022208) (some (b9_0, (b9_1 ++ ([(b8_0, b8_1)] : List (Int × Int))), true, ())))
    (some (b9_0, b9_1, true, ()))))
noncomputable def spec_AddEdge_J12 : Int × Int × Bool × Int × (List (Int × Int)) × Int × Unit → Option (Int × (List (Int × Int)) × Bool × Unit) := fun (t1, t2, t42, b3_0, b3_1, b6_0, _) =>
  cond t42
    (some (0, ([] : List (Int × Int)), false, ()))
    (loopM spec_AddEdge_L506 (false, b3_1, ((b3_1).length : Int), 0, b6_0, (min2 t1 t2), (max2 t1 t2), b3_0, ([] : List (Int × Int)), ()))
noncomputable def spec_AddEdge : Int × (List (Int × Int)) × Int × Int × Unit → Option (Int × (List (Int × Int)) × Bool × Unit) := fun (t0_0, t0_1, t1, t2, _) =>
  joinB (T := Int × Int × Bool × Int × (List (Int × Int)) × Int × Unit) (R := Int × (List (Int × Int)) × Bool × Unit) (Option.bind (spec_GraphOk (t0_0, t0_1, ())) fun (v2, _) => cond (!v2)
    (some (.inl (t1, t2, true, t0_0, t0_1, 0, ())))
    (Option.bind (spec_l01In (t1, 0, (w64 (t0_0 - 1)), ())) fun (v3, _) => cond (!v3)
    (some (.inl (t1, t2, true, t0_0, t0_1, 0, ())))
    (Option.bind (spec_l01In (t2, 0, (w64 (t0_0 - 1)), ())) fun (v4, _) => cond (!v4)
    (some (.inl (t1, t2, true, t0_0, t0_1, 0, ())))
    (cond (t1 == t2)
    (some (.inl (t1, t2, true, t0_0, t0_1, 0, ())))
    (some (.inl (t1, t2, (((t0_1).length : Int) == 12), t0_0, t0_1, 0, ()))))))) spec_AddEdge_J12
noncomputable def spec_AddEdge_F : Fun := ⟨spec_AddEdge_ins, [], spec_AddEdge_outs, spec_AddEdge⟩
noncomputable def spec_AddEdge_orc : Orc := orcGet [(51, spec_GraphOk_F), (122, spec_l01In_F)]
theorem spec_AddEdge_eq (x : Den spec_AddEdge_ins) : pmFn (tdGet tab) spec_AddEdge_orc spec_AddEdge_F.mn spec_AddEdge_ann Go.Proofs.Try.f105 spec_AddEdge_ins spec_AddEdge_outs x = spec_AddEdge x := by kernel_rfl
theorem spec_AddEdge_c : CallsD Go.Proofs.Try.prog 105 spec_AddEdge_F :=
  fn_contract (F := spec_AddEdge_F) (C := spec_AddEdge_orc) mix (chkTab_get tab_ok) (orc_cons spec_GraphOk_c (orc_cons spec_l01In_c orc_nil)) spec_AddEdge_ann (fn := Go.Proofs.Try.f105) (by kernel_rfl) (by kernel_rfl) (by kernel_rfl) (by kernel_rfl) (by kernel_rfl) (fun x y h => (spec_AddEdge_eq x).trans h)

def spec_l02Draw_ins : List Item := [.t 0 (.ptr 900), .t 1 (.int .i64), .box 900 115 [.ro (.int .u8), .int .i64, .int .i64]]
def spec_l02Draw_outs : List Item := [.agg 500 [.int .i64, .own 76 .ii], .box 900 115 [.ro (.int .u8), .int .i64, .int .i64]]
def spec_l02Draw_ann : List (Nat × List Item) := [(61, [.t 0 (.ptr 900), .t 4 (.ptr 4), .t 5 (.ptr 5), .t 6 (.int .i64), .box 900 115 [.ro (.int .u8), .int .i64, .int .i64], .box 4 29 [.int .i64, .cn (.slice none 0 0)], .box 5 29 [.int .i64, .own 76 .ii]]),
  (122, [.t 0 (.ptr 900), .t 4 (.ptr 4), .t 5 (.ptr 5), .t 6 (.int .i64), .t 7 (.int .i64), .box 900 115 [.ro (.int .u8), .int .i64, .int .i64], .box 4 29 [.int .i64, .cn (.slice none 0 0)], .box 5 29 [.int .i64, .own 76 .ii]]),
  (253, [.t 0 (.ptr 900), .t 4 (.ptr 4), .t 6 (.int .i64), .t 9 (.ptr 9), .box 900 115 [.ro (.int .u8), .int .i64, .int .i64], .box 4 29 [.int .i64, .cn (.slice none 0 0)], .box 9 29 [.int .i64, .own 76 .ii]]),
  (506, [.t 0 (.ptr 900), .t 4 (.ptr 4), .t 5 (.ptr 5), .t 6 (.int .i64), .t 9 (.ptr 9), .t 10 (.int .i64), .box 900 115 [.ro (.int .u8), .int .i64, .int .i64], .box 4 29 [.int .i64, .cn (.slice none 0 0)], .box 5 29 [.int .i64, .own 76 .ii], .box 9 29 [.int .i64, .own 76 .ii]]),
  (1018, [.t 0 (.ptr 900), .t 4 (.ptr 4), .t 6 (.int .i64), .t 9 (.ptr 9), .t 13 (.int .i64), .box 900 115 [.ro (.int .u8), .int .i64, .int .i64], .box 4 29 [.int .i64, .cn (.slice none 0 0)], .box 9 29 [.int .i64, .own 76 .ii]]),
  (32402, [.t 0 (.ptr 900), .t 4 (.ptr 4), .t 5 (.ptr 5), .t 6 (.int .i64), .t 9 (.ptr 9), .t 10 (.int .i64), .t 11 (.int .i64), .box 900 115 [.ro (.int .u8), .int .i64, .int .i64], .box 4 29 [.int .i64, .cn (.slice none 0 0)], .box 5 29 [.int .i64, .own 76 .ii], .box 9 29 [.int .i64, .own 76 .ii]]),
  (2073746, [.t 0 (.ptr 900), .t 4 (.ptr 4), .t 5 (.ptr 5), .t 6 (.int .i64), .t 9 (.ptr 9), .t 10 (.int .i64), .t 11 (.int .i64), .t 12 (.int .i64), .box 900 115 [.ro (.int .u8), .int .i64, .int .i64], .box 4 29 [.int .i64, .cn (.slice none 0 0)], .box 5 29 [.int .i64, .own 76 .ii], .box 9 29 [.int .i64, .own 76 .ii]])]
noncomputable def spec_l02Draw_L122 : Int × Int × (List Int) × Int × Int × Int × Int × (List (Int × Int)) × Unit → Option ((Int × Int × (List Int) × Int × Int × Int × Int × (List (Int × Int)) × Unit) ⊕ (((Int × (List Int) × Int × Int × Int × Int × (List (Int × Int)) × Unit) ⊕ Int × (List (Int × Int)) × (List Int) × Int × Int × Unit))) := fun (t6, t7, b900_0, b900_1, b900_2, b4_0, b5_0, b5_1, _) =>
  cond (decide (t7 < t6))
    (Option.bind (spec_l01Below (t7, b900_0, b900_1, b900_2, ())) fun (v6, v7, v8, v9, _) => chk ((b5_1).length + (([(v6, t7)] : List (Int × Int))).length ≤ 8796093022208) (some (.inl (t6, (w64 (t7 + 1)), v7, v8, v9, b4_0, (w64 (t7 + 1)), (b5_1 ++ ([(v6, t7)] : List (Int × Int))), ()))))
    (Option.map Sum.inr (some (.inl (t6, b900_0, b900_1, b900_2, b4_0, b5_0, b5_1, ()))))
noncomputable def spec_l02Draw_L2073746 : Int × Int × Int × Int × (List Int) × Int × Int × Int × Int × (List (Int × Int)) × Int × (List (Int × Int)) × Unit → Option ((Int × Int × Int × Int × (List Int) × Int × Int × Int × Int × (List (Int × Int)) × Int × (List (Int × Int)) × Unit) ⊕ (((Int × Int × Int × (List Int) × Int × Int × Int × Int × (List (Int × Int)) × Int × (List (Int × Int)) × Unit) ⊕ ((Int × Int × (List Int) × Int × Int × Int × Int × (List (Int × Int)) × Int × (List (Int × Int)) × Unit) ⊕ ((Int × (List Int) × Int × Int × Int × Int × (List (Int × Int)) × Unit) ⊕ Int × (List (Int × Int)) × (List Int) × Int × Int × Unit))))) := fun (t6, t10, t11, t12, b900_0, b900_1, b900_2, b4_0, b5_0, b5_1, b9_0, b9_1, _) =>
  cond (decide (t12 > 0))
    (chk ((b9_1).length + (([(t10, t11)] : List (Int × Int))).length ≤ 8796093022208) (some (.inl (t6, t10, t11, (w64 (t12 - 1)), b900_0, b900_1, b900_2, b4_0, b5_0, b5_1, b9_0, (b9_1 ++ ([(t10, t11)] : List (Int × Int))), ()))))
    (Option.map Sum.inr (some (.inl (t6, t10, (w64 (t11 + 1)), b900_0, b900_1, b900_2, b4_0, b5_0, b5_1, b9_0, b9_1, ()))))
noncomputable def spec_l02Draw_L32402 : Int × Int × Int × (List Int) × Int × Int × Int × Int × (List (Int × Int)) × Int × (List (Int × Int)) × Unit → Option ((Int × Int × Int × (List Int) × Int × Int × Int × Int × (List (Int × Int)) × Int × (List (Int × Int)) × Unit) ⊕ (((Int × Int × (List Int) × Int × Int × Int × Int × (List (Int × Int)) × Int × (List (Int × Int)) × Unit) ⊕ ((Int × (List Int) × Int × Int × Int × Int × (List (Int × Int)) × Unit) ⊕ Int × (List (Int × Int)) × (List Int) × Int × Int × Unit)))) := fun (t6, t10, t11, b900_0, b900_1, b900_2, b4_0, b5_0, b5_1, b9_0, b9_1, _) =>
  cond (decide (t11 < t6))
    (Option.bind (spec_Multiplicity (b5_0, b5_1, t10, t11, ())) fun (v11, _) => loopM spec_l02Draw_L2073746 (t6, t10, t11, v11, b900_0, b900_1, b900_2, b4_0, b5_0, b5_1, b9_0, b9_1, ()))
    (Option.map Sum.inr (some (.inl (t6, (w64 (t10 + 1)), b900_0, b900_1, b900_2, b4_0, b5_0, b5_1, b9_0, b9_1, ()))))
noncomputable def spec_l02Draw_L506 : Int × Int × (List Int) × Int × Int × Int × Int × (List (Int × Int)) × Int × (List (Int × Int)) × Unit → Option ((Int × Int × (List Int) × Int × Int × Int × Int × (List (Int × Int)) × Int × (List (Int × Int)) × Unit) ⊕ (((Int × (List Int) × Int × Int × Int × Int × (List (Int × Int)) × Unit) ⊕ Int × (List (Int × Int)) × (List Int) × Int × Int × Unit))) := fun (t6, t10, b900_0, b900_1, b900_2, b4_0, b5_0, b5_1, b9_0, b9_1, _) =>
  cond (decide (t10 < t6))
    (loopM spec_l02Draw_L32402 (t6, t10, (w64 (t10 + 1)), b900_0, b900_1, b900_2, b4_0, b5_0, b5_1, b9_0, b9_1, ()))
    (Option.map Sum.inr (some (.inl (t6, b900_0, b900_1, b900_2, b4_0, b9_0, b9_1, ()))))
noncomputable def spec_l02Draw_L1018 : Int × Int × (List Int) × Int × Int × Int × Int × (List (Int × Int)) × Unit → Option ((Int × Int × (List Int) × Int × Int × Int × Int × (List (Int × Int)) × Unit) ⊕ (Int × (List (Int × Int)) × (List Int) × Int × Int × Unit)) := fun (t6, t13, b900_0, b900_1, b900_2, b4_0, b9_0, b9_1, _) =>
  cond (decide (t13 > 0))
    (Option.bind (spec_l01Below (t6, b900_0, b900_1, b900_2, ())) fun (v16, v17, v18, v19, _) => Option.bind (spec_l01Below ((w64 (t6 - 1)), v17, v18, v19, ())) fun (v20, v21, v22, v23, _) => chk (t6 ≠ 0) (Option.bind (spec_AddEdge (b9_0, b9_1, v16, ((w64 ((w64 (v16 + 1)) + v20)).tmod t6), ())) fun (v24, v25, v26, _) => cond v26
    (some (.inl (t6, (w64 (t13 - 1)), v21, v22, v23, b4_0, v24, v25, ())))
    (some (.inl (t6, (w64 (t13 - 1)), v21, v22, v23, b4_0, b9_0, b9_1, ())))))
    (Option.map Sum.inr (some (b9_0, b9_1, b900_0, b900_1, b900_2, ())))
noncomputable def spec_l02Draw_J253 : Int × (List Int) × Int × Int × Int × Int × (List (Int × Int)) × Unit → Option (Int × (List (Int × Int)) × (List Int) × Int × Int × Unit) := fun (t6, b900_0, b900_1, b900_2, b4_0, b9_0, b9_1, _) =>
  Option.bind (spec_l01Below (5, b900_0, b900_1, b900_2, ())) fun (v12, v13, v14, v15, _) => loopM spec_l02Draw_L1018 (t6, v12, v13, v14, v15, b4_0, b9_0, b9_1, ())
noncomputable def spec_l02Draw_J61 : Int × (List Int) × Int × Int × Int × Int × (List (Int × Int)) × Unit → Option (Int × (List (Int × Int)) × (List Int) × Int × Int × Unit) := fun (t6, b900_0, b900_1, b900_2, b4_0, b5_0, b5_1, _) =>
  joinB (T := Int × (List Int) × Int × Int × Int × Int × (List (Int × Int)) × Unit) (R := Int × (List (Int × Int)) × (List Int) × Int × Int × Unit) (loopM spec_l02Draw_L506 (t6, 0, b900_0, b900_1, b900_2, b4_0, b5_0, b5_1, t6, ([] : List (Int × Int)), ())) spec_l02Draw_J253
noncomputable def spec_l02Draw : Int × (List Int) × Int × Int × Unit → Option (Int × (List (Int × Int)) × (List Int) × Int × Int × Unit) := fun (t1, b900_0, b900_1, b900_2, _) =>
  Option.bind (spec_l01Below ((w64 (t1 - 1)), b900_0, b900_1, b900_2, ())) fun (v1, v2, v3, v4, _) => joinB (T := Int × (List Int) × Int × Int × Int × Int × (List (Int × Int)) × Unit) (R := Int × (List (Int × Int)) × (List Int) × Int × Int × Unit) (loopM spec_l02Draw_L122 ((w64 (2 + v1)), 1, v2, v3, v4, 0, 1, ([] : List (Int × Int)), ())) spec_l02Draw_J61
noncomputable def spec_l02Draw_F : Fun := ⟨spec_l02Draw_ins, [900], spec_l02Draw_outs, spec_l02Draw⟩
noncomputable def spec_l02Draw_orc : Orc := orcGet [(74, spec_l01Below_F), (104, spec_Multiplicity_F), (105, spec_AddEdge_F)]
theorem spec_l02Draw_eq (x : Den spec_l02Draw_ins) : pmFn (tdGet tab) spec_l02Draw_orc spec_l02Draw_F.mn spec_l02Draw_ann Go.Proofs.Try.f60 spec_l02Draw_ins spec_l02Draw_outs x = spec_l02Draw x := by kernel_rfl
theorem spec_l02Draw_c : CallsD Go.Proofs.Try.prog 60 spec_l02Draw_F :=
  fn_contract (F := spec_l02Draw_F) (C := spec_l02Draw_orc) mix (chkTab_get tab_ok) (orc_cons spec_l01Below_c (orc_cons spec_Multiplicity_c (orc_cons spec_AddEdge_c orc_nil))) spec_l02Draw_ann (fn := Go.Proofs.Try.f60) (by kernel_rfl) (by kernel_rfl) (by kernel_rfl) (by kernel_rfl) (by kernel_rfl) (fun x y h => (spec_l02Draw_eq x).trans h)

def spec_l02Graph_ins : List Item := [.t 0 (.ptr 900), .box 900 115 [.ro (.int .u8), .int .i64, .int .i64]]
def spec_l02Graph_outs : List Item := [.agg 500 [.int .i64, .own 76 .ii], .box 900 115 [.ro (.int .u8), .int .i64, .int .i64]]
def spec_l02Graph_ann : List (Nat × List Item) := []
noncomputable def spec_l02Graph : (List Int) × Int × Int × Unit → Option (Int × (List (Int × Int)) × (List Int) × Int × Int × Unit) := fun (b900_0, b900_1, b900_2, _) =>
  Option.bind (spec_l02Draw (5, b900_0, b900_1, b900_2, ())) fun (v1, v2, v3, v4, v5, _) => some (v1, v2, v3, v4, v5, ())
noncomputable def spec_l02Graph_F : Fun := ⟨spec_l02Graph_ins, [900], spec_l02Graph_outs, spec_l02Graph⟩
noncomputable def spec_l02Graph_orc : Orc := orcGet [(60, spec_l02Draw_F)]
theorem spec_l02Graph_eq (x : Den spec_l02Graph_ins) : pmFn (tdGet tab) spec_l02Graph_orc spec_l02Graph_F.mn spec_l02Graph_ann Go.Proofs.Try.f68 spec_l02Graph_ins spec_l02Graph_outs x = spec_l02Graph x := by kernel_rfl
theorem spec_l02Graph_c : CallsD Go.Proofs.Try.prog 68 spec_l02Graph_F :=
  fn_contract (F := spec_l02Graph_F) (C := spec_l02Graph_orc) mix (chkTab_get tab_ok) (orc_cons spec_l02Draw_c orc_nil) spec_l02Graph_ann (fn := Go.Proofs.Try.f68) (by kernel_rfl) (by kernel_rfl) (by kernel_rfl) (by kernel_rfl) (by kernel_rfl) (fun x y h => (spec_l02Graph_eq x).trans h)

def spec_l03All_ins : List Item := [.t 0 (.int .i64)]
def spec_l03All_outs : List Item := [.t 500 (.own 3 (.int .i64))]
def spec_l03All_ann : List (Nat × List Item) := [(58, [.t 0 (.int .i64), .t 3 (.own 3 (.int .i64)), .t 4 (.int .i64)])]
noncomputable def spec_l03All_L58 : Int × (List Int) × Int × Unit → Option ((Int × (List Int) × Int × Unit) ⊕ ((List Int) × Unit)) := fun (t0, t3, t4, _) =>
  cond (decide (t4 < t0))
    (chk ((t3).length + (([t4] : List Int)).length ≤ 17592186044416) (some (.inl (t0, (t3 ++ ([t4] : List Int)), (w64 (t4 + 1)), ()))))
    (Option.map Sum.inr (some (t3, ())))
noncomputable def spec_l03All : Int × Unit → Option ((List Int) × Unit) := fun (t0, _) =>
  loopM spec_l03All_L58 (t0, ([] : List Int), 0, ())
noncomputable def spec_l03All_F : Fun := ⟨spec_l03All_ins, [], spec_l03All_outs, spec_l03All⟩
noncomputable def spec_l03All_orc : Orc := orcGet []
theorem spec_l03All_eq (x : Den spec_l03All_ins) : pmFn (tdGet tab) spec_l03All_orc spec_l03All_F.mn spec_l03All_ann Go.Proofs.Try.f111 spec_l03All_ins spec_l03All_outs x = spec_l03All x := by kernel_rfl
theorem spec_l03All_c : CallsD Go.Proofs.Try.prog 111 spec_l03All_F :=
  fn_contract (F := spec_l03All_F) (C := spec_l03All_orc) mix (chkTab_get tab_ok) orc_nil spec_l03All_ann (fn := Go.Proofs.Try.f111) (by kernel_rfl) (by kernel_rfl) (by kernel_rfl) (by kernel_rfl) (by kernel_rfl) (fun x y h => (spec_l03All_eq x).trans h)

def spec_IdentityMorphism_ins : List Item := [.agg 0 [.int .i64, .ro .ii]]
def spec_IdentityMorphism_outs : List Item := [.agg 500 [.own 3 (.int .i64), .own 3 (.int .i64)], .t 501 (.bool)]
def spec_IdentityMorphism_ann : List (Nat × List Item) := []
noncomputable def spec_IdentityMorphism : Int × (List (Int × Int)) × Unit → Option ((List Int) × (List Int) × Bool × Unit) := fun (t0_0, t0_1, _) =>
  Option.bind (spec_GraphOk (t0_0, t0_1, ())) fun (v1, _) => cond (!v1)
    (some (([] : List Int), ([] : List Int), false, ()))
    (Option.bind (spec_l03All (t0_0, ())) fun (v2, _) => Option.bind (spec_l03All (((t0_1).length : Int), ())) fun (v3, _) => some (v2, v3, true, ()))
noncomputable def spec_IdentityMorphism_F : Fun := ⟨spec_IdentityMorphism_ins, [], spec_IdentityMorphism_outs, spec_IdentityMorphism⟩
noncomputable def spec_IdentityMorphism_orc : Orc := orcGet [(51, spec_GraphOk_F), (111, spec_l03All_F)]
theorem spec_IdentityMorphism_eq (x : Den spec_IdentityMorphism_ins) : pmFn (tdGet tab) spec_IdentityMorphism_orc spec_IdentityMorphism_F.mn spec_IdentityMorphism_ann Go.Proofs.Try.f69 spec_IdentityMorphism_ins spec_IdentityMorphism_outs x = spec_IdentityMorphism x := by kernel_rfl
theorem spec_IdentityMorphism_c : CallsD Go.Proofs.Try.prog 69 spec_IdentityMorphism_F :=
  fn_contract (F := spec_IdentityMorphism_F) (C := spec_IdentityMorphism_orc) mix (chkTab_get tab_ok) (orc_cons spec_GraphOk_c (orc_cons spec_l03All_c orc_nil)) spec_IdentityMorphism_ann (fn := Go.Proofs.Try.f69) (by kernel_rfl) (by kernel_rfl) (by kernel_rfl) (by kernel_rfl) (by kernel_rfl) (fun x y h => (spec_IdentityMorphism_eq x).trans h)

def spec_l01Pick_ins : List Item := [.t 0 (.ptr 900), .t 1 (.ro (.int .i64)), .box 900 115 [.ro (.int .u8), .int .i64, .int .i64]]
def spec_l01Pick_outs : List Item := [.t 500 (.int .i64), .box 900 115 [.ro (.int .u8), .int .i64, .int .i64]]
def spec_l01Pick_ann : List (Nat × List Item) := []
noncomputable def spec_l01Pick : (List Int) × (List Int) × Int × Int × Unit → Option (Int × (List Int) × Int × Int × Unit) := fun (t1, b900_0, b900_1, b900_2, _) =>
  Option.bind (spec_l01Below (((t1).length : Int), b900_0, b900_1, b900_2, ())) fun (v1, v2, v3, v4, _) => chk (0 ≤ v1 ∧ v1 < ((t1).length : Int)) (some (atD 0 t1 v1, v2, v3, v4, ()))
noncomputable def spec_l01Pick_F : Fun := ⟨spec_l01Pick_ins, [900], spec_l01Pick_outs, spec_l01Pick⟩
noncomputable def spec_l01Pick_orc : Orc := orcGet [(74, spec_l01Below_F)]
theorem spec_l01Pick_eq (x : Den spec_l01Pick_ins) : pmFn (tdGet tab) spec_l01Pick_orc spec_l01Pick_F.mn spec_l01Pick_ann Go.Proofs.Try.f106 spec_l01Pick_ins spec_l01Pick_outs x = spec_l01Pick x := by kernel_rfl
theorem spec_l01Pick_c : CallsD Go.Proofs.Try.prog 106 spec_l01Pick_F :=
  fn_contract (F := spec_l01Pick_F) (C := spec_l01Pick_orc) mix (chkTab_get tab_ok) (orc_cons spec_l01Below_c orc_nil) spec_l01Pick_ann (fn := Go.Proofs.Try.f106) (by kernel_rfl) (by kernel_rfl) (by kernel_rfl) (by kernel_rfl) (by kernel_rfl) (fun x y h => (spec_l01Pick_eq x).trans h)

def spec_l01Near_ins : List Item := [.t 0 (.ptr 900), .t 1 (.int .i64), .t 2 (.int .i64), .box 900 115 [.ro (.int .u8), .int .i64, .int .i64]]
def spec_l01Near_outs : List Item := [.t 500 (.int .i64), .box 900 115 [.ro (.int .u8), .int .i64, .int .i64]]
def spec_l01Near_ann : List (Nat × List Item) := []
noncomputable def spec_l01Near : Int × Int × (List Int) × Int × Int × Unit → Option (Int × (List Int) × Int × Int × Unit) := fun (t1, t2, b900_0, b900_1, b900_2, _) =>
  Option.bind (spec_l01Below (12, b900_0, b900_1, b900_2, ())) fun (v1, v2, v3, v4, _) => cond (v1 == 0)
    (some (t1, v2, v3, v4, ()))
    (cond (v1 == 1)
    (some (t2, v2, v3, v4, ()))
    (cond (v1 == 2)
    (some ((w64 (t1 - 1)), v2, v3, v4, ()))
    (cond (v1 == 3)
    (some ((w64 (t2 + 1)), v2, v3, v4, ()))
    (cond (v1 == 4)
    (Option.bind (spec_l01Pick (([9223372036854775807, (-9223372036854775808), (-1), 0, 1000000000] : List Int), v2, v3, v4, ())) fun (v5, v6, v7, v8, _) => some (v5, v6, v7, v8, ()))
    (cond (decide ((w64 (t2 - t1)) > 60000))
    (Option.bind (spec_l01Below (60000, v2, v3, v4, ())) fun (v9, v10, v11, v12, _) => some ((w64 (t1 + v9)), v10, v11, v12, ()))
    (Option.bind (spec_l01Below ((w64 ((w64 (t2 - t1)) + 1)), v2, v3, v4, ())) fun (v13, v14, v15, v16, _) => some ((w64 (t1 + v13)), v14, v15, v16, ())))))))
noncomputable def spec_l01Near_F : Fun := ⟨spec_l01Near_ins, [900], spec_l01Near_outs, spec_l01Near⟩
noncomputable def spec_l01Near_orc : Orc := orcGet [(74, spec_l01Below_F), (106, spec_l01Pick_F)]
theorem spec_l01Near_eq (x : Den spec_l01Near_ins) : pmFn (tdGet tab) spec_l01Near_orc spec_l01Near_F.mn spec_l01Near_ann Go.Proofs.Try.f107 spec_l01Near_ins spec_l01Near_outs x = spec_l01Near x := by kernel_rfl
theorem spec_l01Near_c : CallsD Go.Proofs.Try.prog 107 spec_l01Near_F :=
  fn_contract (F := spec_l01Near_F) (C := spec_l01Near_orc) mix (chkTab_get tab_ok) (orc_cons spec_l01Below_c (orc_cons spec_l01Pick_c orc_nil)) spec_l01Near_ann (fn := Go.Proofs.Try.f107) (by kernel_rfl) (by kernel_rfl) (by kernel_rfl) (by kernel_rfl) (by kernel_rfl) (fun x y h => (spec_l01Near_eq x).trans h)

def spec_l02Any_ins : List Item := [.t 0 (.ptr 900), .box 900 115 [.ro (.int .u8), .int .i64, .int .i64]]
def spec_l02Any_outs : List Item := [.agg 500 [.int .i64, .ro .ii], .box 900 115 [.ro (.int .u8), .int .i64, .int .i64]]
def spec_l02Any_ann : List (Nat × List Item) := []
noncomputable def spec_l02Any : (List Int) × Int × Int × Unit → Option (Int × (List (Int × Int)) × (List Int) × Int × Int × Unit) := fun (b900_0, b900_1, b900_2, _) =>
  Option.bind (spec_l02Graph (b900_0, b900_1, b900_2, ())) fun (v1, v2, v3, v4, v5, _) => Option.bind (spec_l01Below (14, v3, v4, v5, ())) fun (v6, v7, v8, v9, _) => cond (v6 == 0)
    (Option.bind (spec_l01Near (1, 6, v7, v8, v9, ())) fun (v10, v11, v12, v13, _) => some (v10, v2, v11, v12, v13, ()))
    (cond (v6 == 1)
    (chk ((0 : Int) ≤ 1 ∧ 1 ≤ ((v2).length : Int) ∧ ((v2).length : Int) ≤ ((v2).length : Int)) (some (v1, winOf v2 (some (1, (((v2).length : Int) - 1))), v7, v8, v9, ())))
    (cond (v6 == 2)
    (Option.bind (spec_l01Near (0, (w64 (v1 - 1)), v7, v8, v9, ())) fun (v14, v15, v16, v17, _) => chk ((0 : Int) ≤ 0 ∧ 0 < ((v2).length : Int)) (some (v1, (v2.set (0 : Int).toNat (v14, (atD (0, 0) v2 0).2)), v15, v16, v17, ())))
    (cond (v6 == 3)
    (chk ((0 : Int) ≤ 0 ∧ 0 < ((v2).length : Int)) (chk ((v2).length + (([((atD (0, 0) v2 0).1, (atD (0, 0) v2 0).2)] : List (Int × Int))).length ≤ 8796093022208) (some (v1, (v2 ++ ([((atD (0, 0) v2 0).1, (atD (0, 0) v2 0).2)] : List (Int × Int))), v7, v8, v9, ()))))
    (some (v1, v2, v7, v8, v9, ())))))
noncomputable def spec_l02Any_F : Fun := ⟨spec_l02Any_ins, [900], spec_l02Any_outs, spec_l02Any⟩
noncomputable def spec_l02Any_orc : Orc := orcGet [(68, spec_l02Graph_F), (74, spec_l01Below_F), (107, spec_l01Near_F)]
theorem spec_l02Any_eq (x : Den spec_l02Any_ins) : pmFn (tdGet tab) spec_l02Any_orc spec_l02Any_F.mn spec_l02Any_ann Go.Proofs.Try.f108 spec_l02Any_ins spec_l02Any_outs x = spec_l02Any x := by kernel_rfl
theorem spec_l02Any_c : CallsD Go.Proofs.Try.prog 108 spec_l02Any_F :=
  fn_contract (F := spec_l02Any_F) (C := spec_l02Any_orc) mix (chkTab_get tab_ok) (orc_cons spec_l02Graph_c (orc_cons spec_l01Below_c (orc_cons spec_l01Near_c orc_nil))) spec_l02Any_ann (fn := Go.Proofs.Try.f108) (by kernel_rfl) (by kernel_rfl) (by kernel_rfl) (by kernel_rfl) (by kernel_rfl) (fun x y h => (spec_l02Any_eq x).trans h)

def spec_l16Case_ins : List Item := [.t 0 (.ptr 900), .box 900 115 [.ro (.int .u8), .int .i64, .int .i64]]
def spec_l16Case_outs : List Item := [.agg 500 [.int .i64, .ro .ii], .agg 501 [.int .i64, .ro .ii], .agg 502 [.own 3 (.int .i64), .own 3 (.int .i64)], .box 900 115 [.ro (.int .u8), .int .i64, .int .i64]]
def spec_l16Case_ann : List (Nat × List Item) := [(125, [.t 0 (.ptr 900), .t 2 (.ptr 2), .t 3 (.ptr 3), .t 4 (.ptr 4), .t 5 (.ptr 5), .t 6 (.ptr 6), .t 7 (.ptr 7), .box 900 115 [.ro (.int .u8), .int .i64, .int .i64], .box 2 29 [.int .i64, .cn (.slice none 0 0)], .box 3 29 [.int .i64, .cn (.slice none 0 0)], .box 4 37 [.cn (.slice none 0 0), .cn (.slice none 0 0)], .box 5 29 [.int .i64, .ro .ii], .box 6 29 [.int .i64, .ro .ii], .box 7 37 [.own 3 (.int .i64), .own 3 (.int .i64)]]),
  (64190, [.t 0 (.ptr 900), .t 2 (.ptr 2), .t 3 (.ptr 3), .t 4 (.ptr 4), .t 5 (.ptr 5), .t 6 (.ptr 6), .t 7 (.ptr 7), .t 9 (.int .i64), .t 10 (.int .i64), .box 900 115 [.ro (.int .u8), .int .i64, .int .i64], .box 2 29 [.int .i64, .cn (.slice none 0 0)], .box 3 29 [.int .i64, .cn (.slice none 0 0)], .box 4 37 [.cn (.slice none 0 0), .cn (.slice none 0 0)], .box 5 29 [.int .i64, .own 76 .ii], .box 6 29 [.int .i64, .own 76 .ii], .box 7 37 [.own 3 (.int .i64), .own 3 (.int .i64)]])]
noncomputable def spec_l16Case_L64190 : Int × Int × (List Int) × Int × Int × Int × Int × Int × (List (Int × Int)) × Int × (List (Int × Int)) × (List Int) × (List Int) × Unit → Option ((Int × Int × (List Int) × Int × Int × Int × Int × Int × (List (Int × Int)) × Int × (List (Int × Int)) × (List Int) × (List Int) × Unit) ⊕ ((((List Int) × Int × Int × Int × Int × Int × (List (Int × Int)) × Int × (List (Int × Int)) × (List Int) × (List Int) × Unit) ⊕ Int × (List (Int × Int)) × Int × (List (Int × Int)) × (List Int) × (List Int) × (List Int) × Int × Int × Unit))) := fun (t9, t10, b900_0, b900_1, b900_2, b2_0, b3_0, b5_0, b5_1, b6_0, b6_1, b7_0, b7_1, _) =>
  cond (decide (t10 < t9))
    (chk ((b5_1).length + (([(0, 1)] : List (Int × Int))).length ≤ 8796093022208) (chk ((b7_1).length + (([0] : List Int)).length ≤ 17592186044416) (some (.inl (t9, (w64 (t10 + 1)), b900_0, b900_1, b900_2, b2_0, b3_0, b5_0, (b5_1 ++ ([(0, 1)] : List (Int × Int))), b6_0, b6_1, b7_0, (b7_1 ++ ([0] : List Int)), ())))))
    (Option.map Sum.inr (some (.inl (b900_0, b900_1, b900_2, b2_0, b3_0, b5_0, b5_1, b6_0, b6_1, b7_0, b7_1, ()))))
noncomputable def spec_l16Case_J125 : (List Int) × Int × Int × Int × Int × Int × (List (Int × Int)) × Int × (List (Int × Int)) × (List Int) × (List Int) × Unit → Option (Int × (List (Int × Int)) × Int × (List (Int × Int)) × (List Int) × (List Int) × (List Int) × Int × Int × Unit) := fun (b900_0, b900_1, b900_2, b2_0, b3_0, b5_0, b5_1, b6_0, b6_1, b7_0, b7_1, _) =>
  Option.bind (spec_l01Below (10, b900_0, b900_1, b900_2, ())) fun (v18, v19, v20, v21, _) => cond (v18 == 0)
    (Option.bind (spec_l01Near (0, (w64 (b6_0 - 1)), v19, v20, v21, ())) fun (v22, v23, v24, v25, _) => chk ((0 : Int) ≤ 0 ∧ 0 < ((b7_0).length : Int)) (some (b5_0, b5_1, b6_0, b6_1, (b7_0.set (0 : Int).toNat v22), b7_1, v23, v24, v25, ())))
    (cond (v18 == 1)
    (Option.bind (spec_l01Near ((-1), (w64 (((b6_1).length : Int) - 1)), v19, v20, v21, ())) fun (v26, v27, v28, v29, _) => chk ((0 : Int) ≤ 0 ∧ 0 < ((b7_1).length : Int)) (some (b5_0, b5_1, b6_0, b6_1, b7_0, (b7_1.set (0 : Int).toNat v26), v27, v28, v29, ())))
    (cond (v18 == 2)
    (Option.bind (spec_l02Any (v19, v20, v21, ())) fun (v30, v31, v32, v33, v34, _) => some (b5_0, b5_1, v30, v31, b7_0, b7_1, v32, v33, v34, ()))
    (some (b5_0, b5_1, b6_0, b6_1, b7_0, b7_1, v19, v20, v21, ()))))
noncomputable def spec_l16Case : (List Int) × Int × Int × Unit → Option (Int × (List (Int × Int)) × Int × (List (Int × Int)) × (List Int) × (List Int) × (List Int) × Int × Int × Unit) := fun (b900_0, b900_1, b900_2, _) =>
  Option.bind (spec_l02Graph (b900_0, b900_1, b900_2, ())) fun (v1, v2, v3, v4, v5, _) => Option.bind (spec_IdentityMorphism (v1, v2, ())) fun (v6, v7, v8, _) => Option.bind (spec_l01Below (4, v3, v4, v5, ())) fun (v9, v10, v11, v12, _) => joinB (T := (List Int) × Int × Int × Int × Int × Int × (List (Int × Int)) × Int × (List (Int × Int)) × (List Int) × (List Int) × Unit) (R := Int × (List (Int × Int)) × Int × (List (Int × Int)) × (List Int) × (List Int) × (List Int) × Int × Int × Unit) (cond (v9 == 0)
    (Option.bind (spec_l01Below (4, v10, v11, v12, ())) fun (v14, v15, v16, v17, _) => loopM spec_l16Case_L64190 ((w64 (1 + v14)), 0, v15, v16, v17, 0, 0, 2, ([] : List (Int × Int)), 2, ([(0, 1)] : List (Int × Int)), ([0, 1] : List Int), ([] : List Int), ()))
    (cond (v9 == 1)
    (some (.inl (v10, v11, v12, 0, 0, 4, ([(0, 1), (0, 3), (1, 2), (2, 3)] : List (Int × Int)), 3, ([(0, 1), (1, 2)] : List (Int × Int)), ([0, 1, 2, 1] : List Int), ([0, 0, 1, 1] : List Int), ())))
    (some (.inl (v10, v11, v12, 0, 0, v1, v2, v1, v2, v6, v7, ()))))) spec_l16Case_J125
noncomputable def spec_l16Case_F : Fun := ⟨spec_l16Case_ins, [900], spec_l16Case_outs, spec_l16Case⟩
noncomputable def spec_l16Case_orc : Orc := orcGet [(68, spec_l02Graph_F), (69, spec_IdentityMorphism_F), (74, spec_l01Below_F), (107, spec_l01Near_F), (108, spec_l02Any_F)]
theorem spec_l16Case_eq (x : Den spec_l16Case_ins) : pmFn (tdGet tab) spec_l16Case_orc spec_l16Case_F.mn spec_l16Case_ann Go.Proofs.Try.f66 spec_l16Case_ins spec_l16Case_outs x = spec_l16Case x := by kernel_rfl
theorem spec_l16Case_c : CallsD Go.Proofs.Try.prog 66 spec_l16Case_F :=
  fn_contract (F := spec_l16Case_F) (C := spec_l16Case_orc) mix (chkTab_get tab_ok) (orc_cons spec_l02Graph_c (orc_cons spec_IdentityMorphism_c (orc_cons spec_l01Below_c (orc_cons spec_l01Near_c (orc_cons spec_l02Any_c orc_nil))))) spec_l16Case_ann (fn := Go.Proofs.Try.f66) (by kernel_rfl) (by kernel_rfl) (by kernel_rfl) (by kernel_rfl) (by kernel_rfl) (fun x y h => (spec_l16Case_eq x).trans h)

def spec_MorphismOk_ins : List Item := [.agg 0 [.int .i64, .ro .ii], .agg 1 [.int .i64, .ro .ii], .agg 2 [.ro (.int .i64), .ro (.int .i64)]]
def spec_MorphismOk_outs : List Item := [.t 500 (.bool)]
def spec_MorphismOk_ann : List (Nat × List Item) := [(12, [.t 3 (.ptr 3), .t 4 (.ptr 4), .t 5 (.ptr 5), .t 38 (.bool), .box 3 29 [.int .i64, .ro .ii], .box 4 29 [.int .i64, .ro .ii], .box 5 37 [.ro (.int .i64), .ro (.int .i64)]]),
  (29, [.t 3 (.ptr 3), .t 4 (.ptr 4), .t 5 (.ptr 5), .box 3 29 [.int .i64, .ro .ii], .box 4 29 [.int .i64, .ro .ii], .box 5 37 [.ro (.int .i64), .ro (.int .i64)]]),
  (58, [.t 3 (.ptr 3), .t 4 (.ptr 4), .t 5 (.ptr 5), .t 40 (.ro (.int .i64)), .t 41 (.int .i64), .t 42 (.int .i64), .box 3 29 [.int .i64, .ro .ii], .box 4 29 [.int .i64, .ro .ii], .box 5 37 [.ro (.int .i64), .ro (.int .i64)]]),
  (122, [.t 4 (.ptr 4), .t 5 (.ptr 5), .t 54 (.ro .ii), .t 55 (.int .i64), .t 56 (.int .i64), .box 4 29 [.int .i64, .ro .ii], .box 5 37 [.ro (.int .i64), .ro (.int .i64)]])]
noncomputable def spec_MorphismOk_L58 : (List Int) × Int × Int × Int × (List (Int × Int)) × Int × (List (Int × Int)) × (List Int) × (List Int) × Unit → Option (((List Int) × Int × Int × Int × (List (Int × Int)) × Int × (List (Int × Int)) × (List Int) × (List Int) × Unit) ⊕ (((Int × (List (Int × Int)) × Int × (List (Int × Int)) × (List Int) × (List Int) × Unit) ⊕ Bool × Unit))) := fun (t40, t41, t42, b3_0, b3_1, b4_0, b4_1, b5_0, b5_1, _) =>
  cond (decide (t42 < t41))
    (chk (0 ≤ t42 ∧ t42 < ((t40).length : Int)) (Option.bind (spec_l01In (atD 0 t40 t42, 0, (w64 (b4_0 - 1)), ())) fun (v5, _) => cond (!v5)
    (Option.map Sum.inr (Option.map Sum.inr (some (false, ()))))
    (some (.inl (t40, t41, (w64 (t42 + 1)), b3_0, b3_1, b4_0, b4_1, b5_0, b5_1, ())))))
    (Option.map Sum.inr (some (.inl (b3_0, b3_1, b4_0, b4_1, b5_0, b5_1, ()))))
noncomputable def spec_MorphismOk_L122 : (List (Int × Int)) × Int × Int × Int × (List (Int × Int)) × (List Int) × (List Int) × Unit → Option (((List (Int × Int)) × Int × Int × Int × (List (Int × Int)) × (List Int) × (List Int) × Unit) ⊕ (Bool × Unit)) := fun (t54, t55, t56, b4_0, b4_1, b5_0, b5_1, _) =>
  cond (decide (t56 < t55))
    (chk (0 ≤ t56 ∧ t56 < ((t54).length : Int)) (chk (0 ≤ (atD (0, 0) t54 t56).1 ∧ (atD (0, 0) t54 t56).1 < ((b5_0).length : Int)) (chk (0 ≤ (atD (0, 0) t54 t56).2 ∧ (atD (0, 0) t54 t56).2 < ((b5_0).length : Int)) (chk (0 ≤ t56 ∧ t56 < ((b5_1).length : Int)) (cond (atD 0 b5_1 t56 == (-1))
    (cond (atD 0 b5_0 ((atD (0, 0) t54 t56).1) != atD 0 b5_0 ((atD (0, 0) t54 t56).2))
    (Option.map Sum.inr (some (false, ())))
    (some (.inl (t54, t55, (w64 (t56 + 1)), b4_0, b4_1, b5_0, b5_1, ()))))
    (Option.bind (spec_l01In (atD 0 b5_1 t56, 0, (w64 (((b4_1).length : Int) - 1)), ())) fun (v6, _) => cond (!v6)
    (Option.map Sum.inr (some (false, ())))
    (chk (0 ≤ atD 0 b5_1 t56 ∧ atD 0 b5_1 t56 < ((b4_1).length : Int)) (cond ((atD (0, 0) b4_1 (atD 0 b5_1 t56)).1 != (min2 (atD 0 b5_0 ((atD (0, 0) t54 t56).1)) (atD 0 b5_0 ((atD (0, 0) t54 t56).2))))
    (Option.map Sum.inr (some (false, ())))
    (chk (0 ≤ atD 0 b5_1 t56 ∧ atD 0 b5_1 t56 < ((b4_1).length : Int)) (cond ((atD (0, 0) b4_1 (atD 0 b5_1 t56)).2 != (max2 (atD 0 b5_0 ((atD (0, 0) t54 t56).1)) (atD 0 b5_0 ((atD (0, 0) t54 t56).2))))
    (Option.map Sum.inr (some (false, ())))
    (some (.inl (t54, t55, (w64 (t56 + 1)), b4_0, b4_1, b5_0, b5_1, ())))))))))))))
    (Option.map Sum.inr (some (true, ())))
noncomputable def spec_MorphismOk_J29 : Int × (List (Int × Int)) × Int × (List (Int × Int)) × (List Int) × (List Int) × Unit → Option (Bool × Unit) := fun (b3_0, b3_1, b4_0, b4_1, b5_0, b5_1, _) =>
  loopM spec_MorphismOk_L122 (b3_1, ((b3_1).length : Int), 0, b4_0, b4_1, b5_0, b5_1, ())
noncomputable def spec_MorphismOk_J12 : Bool × Int × (List (Int × Int)) × Int × (List (Int × Int)) × (List Int) × (List Int) × Unit → Option (Bool × Unit) := fun (t38, b3_0, b3_1, b4_0, b4_1, b5_0, b5_1, _) =>
  cond t38
    (some (false, ()))
    (joinB (T := Int × (List (Int × Int)) × Int × (List (Int × Int)) × (List Int) × (List Int) × Unit) (R := Bool × Unit) (loopM spec_MorphismOk_L58 (b5_0, ((b5_0).length : Int), 0, b3_0, b3_1, b4_0, b4_1, b5_0, b5_1, ())) spec_MorphismOk_J29)
noncomputable def spec_MorphismOk : Int × (List (Int × Int)) × Int × (List (Int × Int)) × (List Int) × (List Int) × Unit → Option (Bool × Unit) := fun (t0_0, t0_1, t1_0, t1_1, t2_0, t2_1, _) =>
  joinB (T := Bool × Int × (List (Int × Int)) × Int × (List (Int × Int)) × (List Int) × (List Int) × Unit) (R := Bool × Unit) (Option.bind (spec_GraphOk (t0_0, t0_1, ())) fun (v2, _) => cond (!v2)
    (some (.inl (true, t0_0, t0_1, t1_0, t1_1, t2_0, t2_1, ())))
    (Option.bind (spec_GraphOk (t1_0, t1_1, ())) fun (v3, _) => cond (!v3)
    (some (.inl (true, t0_0, t0_1, t1_0, t1_1, t2_0, t2_1, ())))
    (cond (((t2_0).length : Int) != t0_0)
    (some (.inl (true, t0_0, t0_1, t1_0, t1_1, t2_0, t2_1, ())))
    (some (.inl ((((t2_1).length : Int) != ((t0_1).length : Int)), t0_0, t0_1, t1_0, t1_1, t2_0, t2_1, ())))))) spec_MorphismOk_J12
noncomputable def spec_MorphismOk_F : Fun := ⟨spec_MorphismOk_ins, [], spec_MorphismOk_outs, spec_MorphismOk⟩
noncomputable def spec_MorphismOk_orc : Orc := orcGet [(51, spec_GraphOk_F), (122, spec_l01In_F)]
theorem spec_MorphismOk_eq (x : Den spec_MorphismOk_ins) : pmFn (tdGet tab) spec_MorphismOk_orc spec_MorphismOk_F.mn spec_MorphismOk_ann Go.Proofs.Try.f109 spec_MorphismOk_ins spec_MorphismOk_outs x = spec_MorphismOk x := by kernel_rfl
theorem spec_MorphismOk_c : CallsD Go.Proofs.Try.prog 109 spec_MorphismOk_F :=
  fn_contract (F := spec_MorphismOk_F) (C := spec_MorphismOk_orc) mix (chkTab_get tab_ok) (orc_cons spec_GraphOk_c (orc_cons spec_l01In_c orc_nil)) spec_MorphismOk_ann (fn := Go.Proofs.Try.f109) (by kernel_rfl) (by kernel_rfl) (by kernel_rfl) (by kernel_rfl) (by kernel_rfl) (fun x y h => (spec_MorphismOk_eq x).trans h)

def spec_l16Over_ins : List Item := [.agg 0 [.int .i64, .ro .ii], .agg 1 [.ro (.int .i64), .ro (.int .i64)], .t 2 (.int .i64), .t 3 (.int .i64)]
def spec_l16Over_outs : List Item := [.t 500 (.int .i64)]
def spec_l16Over_ann : List (Nat × List Item) := [(58, [.t 2 (.int .i64), .t 3 (.int .i64), .t 5 (.ptr 5), .t 9 (.int .i64), .t 13 (.ro .ii), .t 14 (.int .i64), .t 15 (.int .i64), .box 5 37 [.ro (.int .i64), .ro (.int .i64)]])]
noncomputable def spec_l16Over_L58 : Int × Int × Int × (List (Int × Int)) × Int × Int × (List Int) × (List Int) × Unit → Option ((Int × Int × Int × (List (Int × Int)) × Int × Int × (List Int) × (List Int) × Unit) ⊕ (Int × Unit)) := fun (t2, t3, t9, t13, t14, t15, b5_0, b5_1, _) =>
  cond (decide (t15 < t14))
    (chk (0 ≤ t15 ∧ t15 < ((t13).length : Int)) (cond ((atD (0, 0) t13 t15).1 == t2)
    (chk (0 ≤ t15 ∧ t15 < ((b5_1).length : Int)) (cond (atD 0 b5_1 t15 == t3)
    (some (.inl (t2, t3, (w64 (t9 + 1)), t13, t14, (w64 (t15 + 1)), b5_0, b5_1, ())))
    (some (.inl (t2, t3, t9, t13, t14, (w64 (t15 + 1)), b5_0, b5_1, ())))))
    (cond ((atD (0, 0) t13 t15).2 == t2)
    (chk (0 ≤ t15 ∧ t15 < ((b5_1).length : Int)) (cond (atD 0 b5_1 t15 == t3)
    (some (.inl (t2, t3, (w64 (t9 + 1)), t13, t14, (w64 (t15 + 1)), b5_0, b5_1, ())))
    (some (.inl (t2, t3, t9, t13, t14, (w64 (t15 + 1)), b5_0, b5_1, ())))))
    (some (.inl (t2, t3, t9, t13, t14, (w64 (t15 + 1)), b5_0, b5_1, ()))))))
    (Option.map Sum.inr (some (t9, ())))
noncomputable def spec_l16Over : Int × (List (Int × Int)) × (List Int) × (List Int) × Int × Int × Unit → Option (Int × Unit) := fun (t0_0, t0_1, t1_0, t1_1, t2, t3, _) =>
  loopM spec_l16Over_L58 (t2, t3, 0, t0_1, ((t0_1).length : Int), 0, t1_0, t1_1, ())
noncomputable def spec_l16Over_F : Fun := ⟨spec_l16Over_ins, [], spec_l16Over_outs, spec_l16Over⟩
noncomputable def spec_l16Over_orc : Orc := orcGet []
theorem spec_l16Over_eq (x : Den spec_l16Over_ins) : pmFn (tdGet tab) spec_l16Over_orc spec_l16Over_F.mn spec_l16Over_ann Go.Proofs.Try.f140 spec_l16Over_ins spec_l16Over_outs x = spec_l16Over x := by kernel_rfl
theorem spec_l16Over_c : CallsD Go.Proofs.Try.prog 140 spec_l16Over_F :=
  fn_contract (F := spec_l16Over_F) (C := spec_l16Over_orc) mix (chkTab_get tab_ok) orc_nil spec_l16Over_ann (fn := Go.Proofs.Try.f140) (by kernel_rfl) (by kernel_rfl) (by kernel_rfl) (by kernel_rfl) (by kernel_rfl) (fun x y h => (spec_l16Over_eq x).trans h)

def spec_l16Horizontal_ins : List Item := [.agg 0 [.int .i64, .ro .ii], .agg 1 [.int .i64, .ro .ii], .agg 2 [.ro (.int .i64), .ro (.int .i64)], .t 3 (.int .i64)]
def spec_l16Horizontal_outs : List Item := [.t 500 (.int .i64)]
def spec_l16Horizontal_ann : List (Nat × List Item) := [(122, [.t 3 (.int .i64), .t 4 (.ptr 4), .t 6 (.ptr 6), .t 9 (.int .i64), .t 10 (.bool), .t 15 (.ro .ii), .t 16 (.int .i64), .t 17 (.int .i64), .box 4 29 [.int .i64, .ro .ii], .box 6 37 [.ro (.int .i64), .ro (.int .i64)]]),
  (31332, [.t 3 (.int .i64), .t 4 (.ptr 4), .t 6 (.ptr 6), .t 9 (.int .i64), .t 10 (.bool), .t 11 (.int .i64), .t 15 (.ro .ii), .t 16 (.int .i64), .t 17 (.int .i64), .t 39 (.bool), .box 4 29 [.int .i64, .ro .ii], .box 6 37 [.ro (.int .i64), .ro (.int .i64)]])]
noncomputable def spec_l16Horizontal_J31332 : Int × Int × Bool × Int × (List (Int × Int)) × Int × Int × Bool × Int × (List (Int × Int)) × (List Int) × (List Int) × Unit → Option (((Int × Int × Bool × (List (Int × Int)) × Int × Int × Int × (List (Int × Int)) × (List Int) × (List Int) × Unit) ⊕ Int × Unit)) := fun (t3, t9, t10, t11, t15, t16, t17, t39, b4_0, b4_1, b6_0, b6_1, _) =>
  cond t39
    (some (.inl (t3, t9, t10, t15, t16, (w64 (t17 + 1)), b4_0, b4_1, b6_0, b6_1, ())))
    (Option.bind (spec_l16Over (b4_0, b4_1, b6_0, b6_1, t3, t11, ())) fun (v2, _) => cond (!t10)
    (cond (v2 != t9)
    (Option.map Sum.inr (some ((-1), ())))
    (some (.inl (t3, v2, false, t15, t16, (w64 (t17 + 1)), b4_0, b4_1, b6_0, b6_1, ()))))
    (some (.inl (t3, v2, false, t15, t16, (w64 (t17 + 1)), b4_0, b4_1, b6_0, b6_1, ()))))
noncomputable def spec_l16Horizontal_L122 : Int × Int × Bool × (List (Int × Int)) × Int × Int × Int × (List (Int × Int)) × (List Int) × (List Int) × Unit → Option ((Int × Int × Bool × (List (Int × Int)) × Int × Int × Int × (List (Int × Int)) × (List Int) × (List Int) × Unit) ⊕ (Int × Unit)) := fun (t3, t9, t10, t15, t16, t17, b4_0, b4_1, b6_0, b6_1, _) =>
  cond (decide (t17 < t16))
    (chk (0 ≤ t17 ∧ t17 < ((t15).length : Int)) (joinB (T := Int × Int × Bool × Int × (List (Int × Int)) × Int × Int × Bool × Int × (List (Int × Int)) × (List Int) × (List Int) × Unit) (R := ((Int × Int × Bool × (List (Int × Int)) × Int × Int × Int × (List (Int × Int)) × (List Int) × (List Int) × Unit) ⊕ Int × Unit)) (chk (0 ≤ t3 ∧ t3 < ((b6_0).length : Int)) (cond ((atD (0, 0) t15 t17).1 != atD 0 b6_0 t3)
    (chk (0 ≤ t3 ∧ t3 < ((b6_0).length : Int)) (some (.inl (t3, t9, t10, t17, t15, t16, t17, ((atD (0, 0) t15 t17).2 != atD 0 b6_0 t3), b4_0, b4_1, b6_0, b6_1, ()))))
    (some (.inl (t3, t9, t10, t17, t15, t16, t17, false, b4_0, b4_1, b6_0, b6_1, ()))))) spec_l16Horizontal_J31332))
    (Option.map Sum.inr (some (t9, ())))
noncomputable def spec_l16Horizontal : Int × (List (Int × Int)) × Int × (List (Int × Int)) × (List Int) × (List Int) × Int × Unit → Option (Int × Unit) := fun (t0_0, t0_1, t1_0, t1_1, t2_0, t2_1, t3, _) =>
  loopM spec_l16Horizontal_L122 (t3, 0, true, t1_1, ((t1_1).length : Int), 0, t0_0, t0_1, t2_0, t2_1, ())
noncomputable def spec_l16Horizontal_F : Fun := ⟨spec_l16Horizontal_ins, [], spec_l16Horizontal_outs, spec_l16Horizontal⟩
noncomputable def spec_l16Horizontal_orc : Orc := orcGet [(140, spec_l16Over_F)]
theorem spec_l16Horizontal_eq (x : Den spec_l16Horizontal_ins) : pmFn (tdGet tab) spec_l16Horizontal_orc spec_l16Horizontal_F.mn spec_l16Horizontal_ann Go.Proofs.Try.f110 spec_l16Horizontal_ins spec_l16Horizontal_outs x = spec_l16Horizontal x := by kernel_rfl
theorem spec_l16Horizontal_c : CallsD Go.Proofs.Try.prog 110 spec_l16Horizontal_F :=
  fn_contract (F := spec_l16Horizontal_F) (C := spec_l16Horizontal_orc) mix (chkTab_get tab_ok) (orc_cons spec_l16Over_c orc_nil) spec_l16Horizontal_ann (fn := Go.Proofs.Try.f110) (by kernel_rfl) (by kernel_rfl) (by kernel_rfl) (by kernel_rfl) (by kernel_rfl) (fun x y h => (spec_l16Horizontal_eq x).trans h)

def spec_IsHarmonic_ins : List Item := [.agg 0 [.int .i64, .ro .ii], .agg 1 [.int .i64, .ro .ii], .agg 2 [.ro (.int .i64), .ro (.int .i64)]]
def spec_IsHarmonic_outs : List Item := [.t 500 (.bool)]
def spec_IsHarmonic_ann : List (Nat × List Item) := [(58, [.t 3 (.ptr 3), .t 4 (.ptr 4), .t 5 (.ptr 5), .t 7 (.int .i64), .box 3 29 [.int .i64, .ro .ii], .box 4 29 [.int .i64, .ro .ii], .box 5 37 [.ro (.int .i64), .ro (.int .i64)]])]
noncomputable def spec_IsHarmonic_L58 : Int × Int × (List (Int × Int)) × Int × (List (Int × Int)) × (List Int) × (List Int) × Unit → Option ((Int × Int × (List (Int × Int)) × Int × (List (Int × Int)) × (List Int) × (List Int) × Unit) ⊕ (Bool × Unit)) := fun (t7, b3_0, b3_1, b4_0, b4_1, b5_0, b5_1, _) =>
  cond (decide (t7 < b3_0))
    (Option.bind (spec_l16Horizontal (b3_0, b3_1, b4_0, b4_1, b5_0, b5_1, t7, ())) fun (v2, _) => cond (decide (v2 < 0))
    (Option.map Sum.inr (some (false, ())))
    (some (.inl ((w64 (t7 + 1)), b3_0, b3_1, b4_0, b4_1, b5_0, b5_1, ()))))
    (Option.map Sum.inr (some (true, ())))
noncomputable def spec_IsHarmonic : Int × (List (Int × Int)) × Int × (List (Int × Int)) × (List Int) × (List Int) × Unit → Option (Bool × Unit) := fun (t0_0, t0_1, t1_0, t1_1, t2_0, t2_1, _) =>
  Option.bind (spec_MorphismOk (t0_0, t0_1, t1_0, t1_1, t2_0, t2_1, ())) fun (v1, _) => cond (!v1)
    (some (false, ()))
    (loopM spec_IsHarmonic_L58 (0, t0_0, t0_1, t1_0, t1_1, t2_0, t2_1, ()))
noncomputable def spec_IsHarmonic_F : Fun := ⟨spec_IsHarmonic_ins, [], spec_IsHarmonic_outs, spec_IsHarmonic⟩
noncomputable def spec_IsHarmonic_orc : Orc := orcGet [(109, spec_MorphismOk_F), (110, spec_l16Horizontal_F)]
theorem spec_IsHarmonic_eq (x : Den spec_IsHarmonic_ins) : pmFn (tdGet tab) spec_IsHarmonic_orc spec_IsHarmonic_F.mn spec_IsHarmonic_ann Go.Proofs.Try.f67 spec_IsHarmonic_ins spec_IsHarmonic_outs x = spec_IsHarmonic x := by kernel_rfl
theorem spec_IsHarmonic_c : CallsD Go.Proofs.Try.prog 67 spec_IsHarmonic_F :=
  fn_contract (F := spec_IsHarmonic_F) (C := spec_IsHarmonic_orc) mix (chkTab_get tab_ok) (orc_cons spec_MorphismOk_c (orc_cons spec_l16Horizontal_c orc_nil)) spec_IsHarmonic_ann (fn := Go.Proofs.Try.f67) (by kernel_rfl) (by kernel_rfl) (by kernel_rfl) (by kernel_rfl) (by kernel_rfl) (fun x y h => (spec_IsHarmonic_eq x).trans h)

def spec_MakeMorphism_ins : List Item := [.t 0 (.ro (.int .u8))]
def spec_MakeMorphism_outs : List Item := [.agg 500 [.int .i64, .ro .ii], .agg 501 [.int .i64, .ro .ii], .agg 502 [.own 3 (.int .i64), .own 3 (.int .i64)]]
def spec_MakeMorphism_ann : List (Nat × List Item) := [(58, [.t 2 (.ptr 2), .t 3 (.ptr 3), .t 4 (.ptr 4), .t 5 (.ptr 150000031), .t 6 (.int .i64), .box 2 29 [.int .i64, .cn (.slice none 0 0)], .box 3 29 [.int .i64, .cn (.slice none 0 0)], .box 4 37 [.cn (.slice none 0 0), .cn (.slice none 0 0)], .box 150000031 115 [.ro (.int .u8), .int .i64, .int .i64]])]
noncomputable def spec_MakeMorphism_L58 : Int × Int × Int × (List Int) × Int × Int × Unit → Option ((Int × Int × Int × (List Int) × Int × Int × Unit) ⊕ (Int × (List (Int × Int)) × Int × (List (Int × Int)) × (List Int) × (List Int) × Unit)) := fun (t6, b2_0, b3_0, b150000031_0, b150000031_1, b150000031_2, _) =>
  cond (decide (t6 < 9))
    (Option.bind (spec_l16Case (b150000031_0, b150000031_1, b150000031_2, ())) fun (v4, v5, v6, v7, v8, v9, v10, v11, v12, _) => Option.bind (spec_IsHarmonic (v4, v5, v6, v7, v8, v9, ())) fun (v13, _) => cond v13
    (Option.map Sum.inr (some (v4, v5, v6, v7, v8, v9, ())))
    (some (.inl ((w64 (t6 + 1)), b2_0, b3_0, v10, v11, v12, ()))))
    (Option.map Sum.inr (Option.bind (spec_l02Graph (b150000031_0, b150000031_1, b150000031_2, ())) fun (v14, v15, v16, v17, v18, _) => Option.bind (spec_IdentityMorphism (v14, v15, ())) fun (v19, v20, v21, _) => some (v14, v15, v14, v15, v19, v20, ())))
noncomputable def spec_MakeMorphism : (List Int) × Unit → Option (Int × (List (Int × Int)) × Int × (List (Int × Int)) × (List Int) × (List Int) × Unit) := fun (t0, _) =>
  Option.bind (spec_l01New (t0, ())) fun (v1, v2, v3, _) => loopM spec_MakeMorphism_L58 (0, 0, 0, v1, v2, v3, ())
noncomputable def spec_MakeMorphism_F : Fun := ⟨spec_MakeMorphism_ins, [], spec_MakeMorphism_outs, spec_MakeMorphism⟩
noncomputable def spec_MakeMorphism_orc : Orc := orcGet [(61, spec_l01New_F), (66, spec_l16Case_F), (67, spec_IsHarmonic_F), (68, spec_l02Graph_F), (69, spec_IdentityMorphism_F)]
theorem spec_MakeMorphism_eq (x : Den spec_MakeMorphism_ins) : pmFn (tdGet tab) spec_MakeMorphism_orc spec_MakeMorphism_F.mn spec_MakeMorphism_ann Go.Proofs.Try.f22 spec_MakeMorphism_ins spec_MakeMorphism_outs x = spec_MakeMorphism x := by kernel_rfl
theorem spec_MakeMorphism_c : CallsD Go.Proofs.Try.prog 22 spec_MakeMorphism_F :=
  fn_contract (F := spec_MakeMorphism_F) (C := spec_MakeMorphism_orc) mix (chkTab_get tab_ok) (orc_cons spec_l01New_c (orc_cons spec_l16Case_c (orc_cons spec_IsHarmonic_c (orc_cons spec_l02Graph_c (orc_cons spec_IdentityMorphism_c orc_nil))))) spec_MakeMorphism_ann (fn := Go.Proofs.Try.f22) (by kernel_rfl) (by kernel_rfl) (by kernel_rfl) (by kernel_rfl) (by kernel_rfl) (fun x y h => (spec_MakeMorphism_eq x).trans h)

def impl_within_ins : List Item := [.t 0 (.int .i64), .t 1 (.int .i64), .t 2 (.int .i64)]
def impl_within_outs : List Item := [.t 500 (.bool)]
def impl_within_ann : List (Nat × List Item) := []
noncomputable def impl_within : Int × Int × Int × Unit → Option (Bool × Unit) := fun (t0, t1, t2, _) =>
  cond (decide (t0 ≥ t1))
    (some ((decide (t0 ≤ t2)), ()))
    (some (false, ()))
noncomputable def impl_within_F : Fun := ⟨impl_within_ins, [], impl_within_outs, impl_within⟩
noncomputable def impl_within_orc : Orc := orcGet []
theorem impl_within_eq (x : Den impl_within_ins) : pmFn (tdGet tab) impl_within_orc impl_within_F.mn impl_within_ann Go.Proofs.Try.f71 impl_within_ins impl_within_outs x = impl_within x := by kernel_rfl
theorem impl_within_c : CallsD Go.Proofs.Try.prog 71 impl_within_F :=
  fn_contract (F := impl_within_F) (C := impl_within_orc) mix (chkTab_get tab_ok) orc_nil impl_within_ann (fn := Go.Proofs.Try.f71) (by kernel_rfl) (by kernel_rfl) (by kernel_rfl) (by kernel_rfl) (by kernel_rfl) (fun x y h => (impl_within_eq x).trans h)

def impl_EdgesOk_ins : List Item := [.agg 0 [.int .i64, .ro .ii]]
def impl_EdgesOk_outs : List Item := [.t 500 (.bool)]
def impl_EdgesOk_ann : List (Nat × List Item) := [(12, [.t 1 (.ptr 1), .t 14 (.bool), .box 1 29 [.int .i64, .ro .ii]]),
  (58, [.t 1 (.ptr 1), .t 16 (.ro .ii), .t 17 (.int .i64), .t 18 (.int .i64), .box 1 29 [.int .i64, .ro .ii]])]
noncomputable def impl_EdgesOk_L58 : (List (Int × Int)) × Int × Int × Int × (List (Int × Int)) × Unit → Option (((List (Int × Int)) × Int × Int × Int × (List (Int × Int)) × Unit) ⊕ (Bool × Unit)) := fun (t16, t17, t18, b1_0, b1_1, _) =>
  cond (decide (t18 < t17))
    (chk (0 ≤ t18 ∧ t18 < ((t16).length : Int)) (cond (decide ((atD (0, 0) t16 t18).1 < 0))
    (Option.map Sum.inr (some (false, ())))
    (cond (decide ((atD (0, 0) t16 t18).1 ≥ (atD (0, 0) t16 t18).2))
    (Option.map Sum.inr (some (false, ())))
    (cond (decide ((atD (0, 0) t16 t18).2 ≥ b1_0))
    (Option.map Sum.inr (some (false, ())))
    (some (.inl (t16, t17, (w64 (t18 + 1)), b1_0, b1_1, ())))))))
    (Option.map Sum.inr (some (true, ())))
noncomputable def impl_EdgesOk_J12 : Bool × Int × (List (Int × Int)) × Unit → Option (Bool × Unit) := fun (t14, b1_0, b1_1, _) =>
  cond t14
    (some (false, ()))
    (loopM impl_EdgesOk_L58 (b1_1, ((b1_1).length : Int), 0, b1_0, b1_1, ()))
noncomputable def impl_EdgesOk : Int × (List (Int × Int)) × Unit → Option (Bool × Unit) := fun (t0_0, t0_1, _) =>
  joinB (T := Bool × Int × (List (Int × Int)) × Unit) (R := Bool × Unit) (Option.bind (impl_within (t0_0, 1, 6, ())) fun (v2, _) => cond (!v2)
    (some (.inl (true, t0_0, t0_1, ())))
    (some (.inl ((decide (((t0_1).length : Int) > 12)), t0_0, t0_1, ())))) impl_EdgesOk_J12
noncomputable def impl_EdgesOk_F : Fun := ⟨impl_EdgesOk_ins, [], impl_EdgesOk_outs, impl_EdgesOk⟩
noncomputable def impl_EdgesOk_orc : Orc := orcGet [(71, impl_within_F)]
theorem impl_EdgesOk_eq (x : Den impl_EdgesOk_ins) : pmFn (tdGet tab) impl_EdgesOk_orc impl_EdgesOk_F.mn impl_EdgesOk_ann Go.Proofs.Try.f100 impl_EdgesOk_ins impl_EdgesOk_outs x = impl_EdgesOk x := by kernel_rfl
theorem impl_EdgesOk_c : CallsD Go.Proofs.Try.prog 100 impl_EdgesOk_F :=
  fn_contract (F := impl_EdgesOk_F) (C := impl_EdgesOk_orc) mix (chkTab_get tab_ok) (orc_cons impl_within_c orc_nil) impl_EdgesOk_ann (fn := Go.Proofs.Try.f100) (by kernel_rfl) (by kernel_rfl) (by kernel_rfl) (by kernel_rfl) (by kernel_rfl) (fun x y h => (impl_EdgesOk_eq x).trans h)

def cmp_isNaN_int_ins : List Item := [.t 0 (.int .i64)]
def cmp_isNaN_int_outs : List Item := [.t 500 (.bool)]
def cmp_isNaN_int_ann : List (Nat × List Item) := []
noncomputable def cmp_isNaN_int : Int × Unit → Option (Bool × Unit) := fun (t0, _) =>
  some ((t0 != t0), ())
noncomputable def cmp_isNaN_int_F : Fun := ⟨cmp_isNaN_int_ins, [], cmp_isNaN_int_outs, cmp_isNaN_int⟩
noncomputable def cmp_isNaN_int_orc : Orc := orcGet []
theorem cmp_isNaN_int_eq (x : Den cmp_isNaN_int_ins) : pmFn (tdGet tab) cmp_isNaN_int_orc cmp_isNaN_int_F.mn cmp_isNaN_int_ann Go.Proofs.Try.f157 cmp_isNaN_int_ins cmp_isNaN_int_outs x = cmp_isNaN_int x := by kernel_rfl
theorem cmp_isNaN_int_c : CallsD Go.Proofs.Try.prog 157 cmp_isNaN_int_F :=
  fn_contract (F := cmp_isNaN_int_F) (C := cmp_isNaN_int_orc) mix (chkTab_get tab_ok) orc_nil cmp_isNaN_int_ann (fn := Go.Proofs.Try.f157) (by kernel_rfl) (by kernel_rfl) (by kernel_rfl) (by kernel_rfl) (by kernel_rfl) (fun x y h => (cmp_isNaN_int_eq x).trans h)

def cmp_Compare_int_ins : List Item := [.t 0 (.int .i64), .t 1 (.int .i64)]
def cmp_Compare_int_outs : List Item := [.t 500 (.int .i64)]
def cmp_Compare_int_ann : List (Nat × List Item) := []
noncomputable def cmp_Compare_int : Int × Int × Unit → Option (Int × Unit) := fun (t0, t1, _) =>
  Option.bind (cmp_isNaN_int (t0, ())) fun (v1, _) => Option.bind (cmp_isNaN_int (t1, ())) fun (v2, _) => cond v1
    (cond v2
    (some (0, ()))
    (some ((-1), ())))
    (cond v2
    (some (1, ()))
    (cond (decide (t0 < t1))
    (some ((-1), ()))
    (cond (decide (t0 > t1))
    (some (1, ()))
    (some (0, ())))))
noncomputable def cmp_Compare_int_F : Fun := ⟨cmp_Compare_int_ins, [], cmp_Compare_int_outs, cmp_Compare_int⟩
noncomputable def cmp_Compare_int_orc : Orc := orcGet [(157, cmp_isNaN_int_F)]
theorem cmp_Compare_int_eq (x : Den cmp_Compare_int_ins) : pmFn (tdGet tab) cmp_Compare_int_orc cmp_Compare_int_F.mn cmp_Compare_int_ann Go.Proofs.Try.f138 cmp_Compare_int_ins cmp_Compare_int_outs x = cmp_Compare_int x := by kernel_rfl
theorem cmp_Compare_int_c : CallsD Go.Proofs.Try.prog 138 cmp_Compare_int_F :=
  fn_contract (F := cmp_Compare_int_F) (C := cmp_Compare_int_orc) mix (chkTab_get tab_ok) (orc_cons cmp_isNaN_int_c orc_nil) cmp_Compare_int_ann (fn := Go.Proofs.Try.f138) (by kernel_rfl) (by kernel_rfl) (by kernel_rfl) (by kernel_rfl) (by kernel_rfl) (fun x y h => (cmp_Compare_int_eq x).trans h)

def impl_compareEdges_ins : List Item := [.agg 0 [.int .i64, .int .i64], .agg 1 [.int .i64, .int .i64]]
def impl_compareEdges_outs : List Item := [.t 500 (.int .i64)]
def impl_compareEdges_ann : List (Nat × List Item) := []
noncomputable def impl_compareEdges : Int × Int × Int × Int × Unit → Option (Int × Unit) := fun (t0_0, t0_1, t1_0, t1_1, _) =>
  Option.bind (cmp_Compare_int (t0_0, t1_0, ())) fun (v1, _) => cond (v1 != 0)
    (some (v1, ()))
    (Option.bind (cmp_Compare_int (t0_1, t1_1, ())) fun (v2, _) => some (v2, ()))
noncomputable def impl_compareEdges_F : Fun := ⟨impl_compareEdges_ins, [], impl_compareEdges_outs, impl_compareEdges⟩
noncomputable def impl_compareEdges_orc : Orc := orcGet [(138, cmp_Compare_int_F)]
theorem impl_compareEdges_eq (x : Den impl_compareEdges_ins) : pmFn (tdGet tab) impl_compareEdges_orc impl_compareEdges_F.mn impl_compareEdges_ann Go.Proofs.Try.f102 impl_compareEdges_ins impl_compareEdges_outs x = impl_compareEdges x := by kernel_rfl
theorem impl_compareEdges_c : CallsD Go.Proofs.Try.prog 102 impl_compareEdges_F :=
  fn_contract (F := impl_compareEdges_F) (C := impl_compareEdges_orc) mix (chkTab_get tab_ok) (orc_cons cmp_Compare_int_c orc_nil) impl_compareEdges_ann (fn := Go.Proofs.Try.f102) (by kernel_rfl) (by kernel_rfl) (by kernel_rfl) (by kernel_rfl) (by kernel_rfl) (fun x y h => (impl_compareEdges_eq x).trans h)

def slices_IsSortedFunc_impl_Edge_impl_Edge_ins : List Item := [.t 0 (.ro .ii), .t 1 (.fn 102 [])]
def slices_IsSortedFunc_impl_Edge_impl_Edge_outs : List Item := [.t 500 (.bool)]
def slices_IsSortedFunc_impl_Edge_impl_Edge_ann : List (Nat × List Item) := [(26, [.t 0 (.ro .ii), .t 1 (.fn 102 []), .t 5 (.int .i64)])]
noncomputable def slices_IsSortedFunc_impl_Edge_impl_Edge_L26 : (List (Int × Int)) × Int × Unit → Option (((List (Int × Int)) × Int × Unit) ⊕ (Bool × Unit)) := fun (t0, t5, _) =>
  cond (decide (t5 > 0))
    (chk (0 ≤ t5 ∧ t5 < ((t0).length : Int)) (chk (0 ≤ (w64 (t5 - 1)) ∧ (w64 (t5 - 1)) < ((t0).length : Int)) (Option.bind (impl_compareEdges ((atD (0, 0) t0 t5).1, (atD (0, 0) t0 t5).2, (atD (0, 0) t0 (w64 (t5 - 1))).1, (atD (0, 0) t0 (w64 (t5 - 1))).2, ())) fun (v1, _) => cond (decide (v1 < 0))
    (Option.map Sum.inr (some (false, ())))
    (some (.inl (t0, (w64 (t5 - 1)), ()))))))
    (Option.map Sum.inr (some (true, ())))
noncomputable def slices_IsSortedFunc_impl_Edge_impl_Edge : (List (Int × Int)) × Unit → Option (Bool × Unit) := fun (t0, _) =>
  loopM slices_IsSortedFunc_impl_Edge_impl_Edge_L26 (t0, (w64 (((t0).length : Int) - 1)), ())
noncomputable def slices_IsSortedFunc_impl_Edge_impl_Edge_F : Fun := ⟨slices_IsSortedFunc_impl_Edge_impl_Edge_ins, [], slices_IsSortedFunc_impl_Edge_impl_Edge_outs, slices_IsSortedFunc_impl_Edge_impl_Edge⟩
noncomputable def slices_IsSortedFunc_impl_Edge_impl_Edge_orc : Orc := orcGet [(102, impl_compareEdges_F)]
theorem slices_IsSortedFunc_impl_Edge_impl_Edge_eq (x : Den slices_IsSortedFunc_impl_Edge_impl_Edge_ins) : pmFn (tdGet tab) slices_IsSortedFunc_impl_Edge_impl_Edge_orc slices_IsSortedFunc_impl_Edge_impl_Edge_F.mn slices_IsSortedFunc_impl_Edge_impl_Edge_ann Go.Proofs.Try.f101 slices_IsSortedFunc_impl_Edge_impl_Edge_ins slices_IsSortedFunc_impl_Edge_impl_Edge_outs x = slices_IsSortedFunc_impl_Edge_impl_Edge x := by kernel_rfl
theorem slices_IsSortedFunc_impl_Edge_impl_Edge_c : CallsD Go.Proofs.Try.prog 101 slices_IsSortedFunc_impl_Edge_impl_Edge_F :=
  fn_contract (F := slices_IsSortedFunc_impl_Edge_impl_Edge_F) (C := slices_IsSortedFunc_impl_Edge_impl_Edge_orc) mix (chkTab_get tab_ok) (orc_cons impl_compareEdges_c orc_nil) slices_IsSortedFunc_impl_Edge_impl_Edge_ann (fn := Go.Proofs.Try.f101) (by kernel_rfl) (by kernel_rfl) (by kernel_rfl) (by kernel_rfl) (by kernel_rfl) (fun x y h => (slices_IsSortedFunc_impl_Edge_impl_Edge_eq x).trans h)

def impl_connected_ins : List Item := [.t 0 (.int .i64), .t 1 (.ro .ii)]
def impl_connected_outs : List Item := [.t 500 (.bool)]
def impl_connected_ann : List (Nat × List Item) := [(58, [.t 0 (.int .i64), .t 1 (.ro .ii), .t 5 (.int .i64), .t 8 (.int .i64), .t 9 (.int .i64)]),
  (7474, [.t 0 (.int .i64), .t 1 (.ro .ii), .t 5 (.int .i64), .t 8 (.int .i64), .t 9 (.int .i64), .t 11 (.ro .ii), .t 12 (.int .i64), .t 13 (.int .i64)])]
noncomputable def impl_connected_L7474 : Int × (List (Int × Int)) × Int × Int × Int × (List (Int × Int)) × Int × Int × Unit → Option ((Int × (List (Int × Int)) × Int × Int × Int × (List (Int × Int)) × Int × Int × Unit) ⊕ (((Int × (List (Int × Int)) × Int × Int × Int × Unit) ⊕ Bool × Unit))) := fun (t0, t1, t5, t8, t9, t11, t12, t13, _) =>
  cond (decide (t13 < t12))
    (chk (0 ≤ t13 ∧ t13 < ((t11).length : Int)) (chk (0 ≤ (atD (0, 0) t11 t13).1) (cond ((iand .i64 (ishr .i64 t5 ((atD (0, 0) t11 t13).1)) 1) == 1)
    (chk (0 ≤ (atD (0, 0) t11 t13).1) (chk (0 ≤ (atD (0, 0) t11 t13).2) (some (.inl (t0, t1, (ior .i64 t5 (ior .i64 (ishl .i64 1 ((atD (0, 0) t11 t13).1)) (ishl .i64 1 ((atD (0, 0) t11 t13).2)))), t8, t9, t11, t12, (w64 (t13 + 1)), ())))))
    (chk (0 ≤ (atD (0, 0) t11 t13).2) (cond ((iand .i64 (ishr .i64 t5 ((atD (0, 0) t11 t13).2)) 1) == 1)
    (chk (0 ≤ (atD (0, 0) t11 t13).1) (chk (0 ≤ (atD (0, 0) t11 t13).2) (some (.inl (t0, t1, (ior .i64 t5 (ior .i64 (ishl .i64 1 ((atD (0, 0) t11 t13).1)) (ishl .i64 1 ((atD (0, 0) t11 t13).2)))), t8, t9, t11, t12, (w64 (t13 + 1)), ())))))
    (some (.inl (t0, t1, t5, t8, t9, t11, t12, (w64 (t13 + 1)), ()))))))))
    (Option.map Sum.inr (some (.inl (t0, t1, t5, t8, (w64 (t9 + 1)), ()))))
noncomputable def impl_connected_L58 : Int × (List (Int × Int)) × Int × Int × Int × Unit → Option ((Int × (List (Int × Int)) × Int × Int × Int × Unit) ⊕ (Bool × Unit)) := fun (t0, t1, t5, t8, t9, _) =>
  cond (decide (t9 < t8))
    (loopM impl_connected_L7474 (t0, t1, t5, t8, t9, t1, ((t1).length : Int), 0, ()))
    (Option.map Sum.inr (chk (0 ≤ t0) (some ((t5 == (w64 ((ishl .i64 1 t0) - 1))), ()))))
noncomputable def impl_connected : Int × (List (Int × Int)) × Unit → Option (Bool × Unit) := fun (t0, t1, _) =>
  loopM impl_connected_L58 (t0, t1, 1, t0, 0, ())
noncomputable def impl_connected_F : Fun := ⟨impl_connected_ins, [], impl_connected_outs, impl_connected⟩
noncomputable def impl_connected_orc : Orc := orcGet []
theorem impl_connected_eq (x : Den impl_connected_ins) : pmFn (tdGet tab) impl_connected_orc impl_connected_F.mn impl_connected_ann Go.Proofs.Try.f95 impl_connected_ins impl_connected_outs x = impl_connected x := by kernel_rfl
theorem impl_connected_c : CallsD Go.Proofs.Try.prog 95 impl_connected_F :=
  fn_contract (F := impl_connected_F) (C := impl_connected_orc) mix (chkTab_get tab_ok) orc_nil impl_connected_ann (fn := Go.Proofs.Try.f95) (by kernel_rfl) (by kernel_rfl) (by kernel_rfl) (by kernel_rfl) (by kernel_rfl) (fun x y h => (impl_connected_eq x).trans h)

def impl_GraphOk_ins : List Item := [.agg 0 [.int .i64, .ro .ii]]
def impl_GraphOk_outs : List Item := [.t 500 (.bool)]
def impl_GraphOk_ann : List (Nat × List Item) := []
noncomputable def impl_GraphOk : Int × (List (Int × Int)) × Unit → Option (Bool × Unit) := fun (t0_0, t0_1, _) =>
  Option.bind (impl_EdgesOk (t0_0, t0_1, ())) fun (v1, _) => cond v1
    (Option.bind (slices_IsSortedFunc_impl_Edge_impl_Edge (t0_1, ())) fun (v2, _) => cond v2
    (Option.bind (impl_connected (t0_0, t0_1, ())) fun (v3, _) => some (v3, ()))
    (some (false, ())))
    (some (false, ()))
noncomputable def impl_GraphOk_F : Fun := ⟨impl_GraphOk_ins, [], impl_GraphOk_outs, impl_GraphOk⟩
noncomputable def impl_GraphOk_orc : Orc := orcGet [(95, impl_connected_F), (100, impl_EdgesOk_F), (101, slices_IsSortedFunc_impl_Edge_impl_Edge_F)]
theorem impl_GraphOk_eq (x : Den impl_GraphOk_ins) : pmFn (tdGet tab) impl_GraphOk_orc impl_GraphOk_F.mn impl_GraphOk_ann Go.Proofs.Try.f54 impl_GraphOk_ins impl_GraphOk_outs x = impl_GraphOk x := by kernel_rfl
theorem impl_GraphOk_c : CallsD Go.Proofs.Try.prog 54 impl_GraphOk_F :=
  fn_contract (F := impl_GraphOk_F) (C := impl_GraphOk_orc) mix (chkTab_get tab_ok) (orc_cons impl_connected_c (orc_cons impl_EdgesOk_c (orc_cons slices_IsSortedFunc_impl_Edge_impl_Edge_c orc_nil))) impl_GraphOk_ann (fn := Go.Proofs.Try.f54) (by kernel_rfl) (by kernel_rfl) (by kernel_rfl) (by kernel_rfl) (by kernel_rfl) (fun x y h => (impl_GraphOk_eq x).trans h)

def impl_allWithin_ins : List Item := [.t 0 (.ro (.int .i64)), .t 1 (.int .i64), .t 2 (.int .i64)]
def impl_allWithin_outs : List Item := [.t 500 (.bool)]
def impl_allWithin_ann : List (Nat × List Item) := [(26, [.t 1 (.int .i64), .t 2 (.int .i64), .t 9 (.ro (.int .i64)), .t 10 (.int .i64), .t 11 (.int .i64)])]
noncomputable def impl_allWithin_L26 : Int × Int × (List Int) × Int × Int × Unit → Option ((Int × Int × (List Int) × Int × Int × Unit) ⊕ (Bool × Unit)) := fun (t1, t2, t9, t10, t11, _) =>
  cond (decide (t11 < t10))
    (chk (0 ≤ t11 ∧ t11 < ((t9).length : Int)) (Option.bind (impl_within (atD 0 t9 t11, t1, t2, ())) fun (v1, _) => cond (!v1)
    (Option.map Sum.inr (some (false, ())))
    (some (.inl (t1, t2, t9, t10, (w64 (t11 + 1)), ())))))
    (Option.map Sum.inr (some (true, ())))
noncomputable def impl_allWithin : (List Int) × Int × Int × Unit → Option (Bool × Unit) := fun (t0, t1, t2, _) =>
  loopM impl_allWithin_L26 (t1, t2, t0, ((t0).length : Int), 0, ())
noncomputable def impl_allWithin_F : Fun := ⟨impl_allWithin_ins, [], impl_allWithin_outs, impl_allWithin⟩
noncomputable def impl_allWithin_orc : Orc := orcGet [(71, impl_within_F)]
theorem impl_allWithin_eq (x : Den impl_allWithin_ins) : pmFn (tdGet tab) impl_allWithin_orc impl_allWithin_F.mn impl_allWithin_ann Go.Proofs.Try.f70 impl_allWithin_ins impl_allWithin_outs x = impl_allWithin x := by kernel_rfl
theorem impl_allWithin_c : CallsD Go.Proofs.Try.prog 70 impl_allWithin_F :=
  fn_contract (F := impl_allWithin_F) (C := impl_allWithin_orc) mix (chkTab_get tab_ok) (orc_cons impl_within_c orc_nil) impl_allWithin_ann (fn := Go.Proofs.Try.f70) (by kernel_rfl) (by kernel_rfl) (by kernel_rfl) (by kernel_rfl) (by kernel_rfl) (fun x y h => (impl_allWithin_eq x).trans h)

def impl_MorphismOk_ins : List Item := [.agg 0 [.int .i64, .ro .ii], .agg 1 [.int .i64, .ro .ii], .agg 2 [.ro (.int .i64), .ro (.int .i64)]]
def impl_MorphismOk_outs : List Item := [.t 500 (.bool)]
def impl_MorphismOk_ann : List (Nat × List Item) := [(12, [.t 3 (.ptr 3), .t 4 (.ptr 4), .t 5 (.ptr 5), .t 54 (.bool), .box 3 29 [.int .i64, .ro .ii], .box 4 29 [.int .i64, .ro .ii], .box 5 37 [.ro (.int .i64), .ro (.int .i64)]]),
  (58, [.t 3 (.ptr 3), .t 4 (.ptr 4), .t 5 (.ptr 5), .t 56 (.ro (.int .i64)), .t 57 (.int .i64), .t 58 (.int .i64), .box 3 29 [.int .i64, .ro .ii], .box 4 29 [.int .i64, .ro .ii], .box 5 37 [.ro (.int .i64), .ro (.int .i64)]])]
noncomputable def impl_MorphismOk_L58 : (List Int) × Int × Int × Int × (List (Int × Int)) × Int × (List (Int × Int)) × (List Int) × (List Int) × Unit → Option (((List Int) × Int × Int × Int × (List (Int × Int)) × Int × (List (Int × Int)) × (List Int) × (List Int) × Unit) ⊕ (Bool × Unit)) := fun (t56, t57, t58, b3_0, b3_1, b4_0, b4_1, b5_0, b5_1, _) =>
  cond (decide (t58 < t57))
    (chk (0 ≤ t58 ∧ t58 < ((t56).length : Int)) (chk (0 ≤ t58 ∧ t58 < ((b3_1).length : Int)) (chk (0 ≤ (atD (0, 0) b3_1 t58).1 ∧ (atD (0, 0) b3_1 t58).1 < ((b5_0).length : Int)) (chk (0 ≤ t58 ∧ t58 < ((b3_1).length : Int)) (chk (0 ≤ (atD (0, 0) b3_1 t58).2 ∧ (atD (0, 0) b3_1 t58).2 < ((b5_0).length : Int)) (cond (atD 0 t56 t58 == (-1))
    (cond (atD 0 b5_0 ((atD (0, 0) b3_1 t58).1) != atD 0 b5_0 ((atD (0, 0) b3_1 t58).2))
    (Option.map Sum.inr (some (false, ())))
    (cond (decide (atD 0 t56 t58 ≥ 0))
    (chk (0 ≤ atD 0 t56 t58 ∧ atD 0 t56 t58 < ((b4_1).length : Int)) (cond (!(((atD (0, 0) b4_1 (atD 0 t56 t58)).1 == (min2 (atD 0 b5_0 ((atD (0, 0) b3_1 t58).1)) (atD 0 b5_0 ((atD (0, 0) b3_1 t58).2)))) && ((atD (0, 0) b4_1 (atD 0 t56 t58)).2 == (max2 (atD 0 b5_0 ((atD (0, 0) b3_1 t58).1)) (atD 0 b5_0 ((atD (0, 0) b3_1 t58).2))))))
    (Option.map Sum.inr (some (false, ())))
    (some (.inl (t56, t57, (w64 (t58 + 1)), b3_0, b3_1, b4_0, b4_1, b5_0, b5_1, ())))))
    (some (.inl (t56, t57, (w64 (t58 + 1)), b3_0, b3_1, b4_0, b4_1, b5_0, b5_1, ())))))
    (cond (decide (atD 0 t56 t58 ≥ 0))
    (chk (0 ≤ atD 0 t56 t58 ∧ atD 0 t56 t58 < ((b4_1).length : Int)) (cond (!(((atD (0, 0) b4_1 (atD 0 t56 t58)).1 == (min2 (atD 0 b5_0 ((atD (0, 0) b3_1 t58).1)) (atD 0 b5_0 ((atD (0, 0) b3_1 t58).2)))) && ((atD (0, 0) b4_1 (atD 0 t56 t58)).2 == (max2 (atD 0 b5_0 ((atD (0, 0) b3_1 t58).1)) (atD 0 b5_0 ((atD (0, 0) b3_1 t58).2))))))
    (Option.map Sum.inr (some (false, ())))
    (some (.inl (t56, t57, (w64 (t58 + 1)), b3_0, b3_1, b4_0, b4_1, b5_0, b5_1, ())))))
    (some (.inl (t56, t57, (w64 (t58 + 1)), b3_0, b3_1, b4_0, b4_1, b5_0, b5_1, ()))))))))))
    (Option.map Sum.inr (some (true, ())))
noncomputable def impl_MorphismOk_J12 : Bool × Int × (List (Int × Int)) × Int × (List (Int × Int)) × (List Int) × (List Int) × Unit → Option (Bool × Unit) := fun (t54, b3_0, b3_1, b4_0, b4_1, b5_0, b5_1, _) =>
  cond t54
    (some (false, ()))
    (loopM impl_MorphismOk_L58 (b5_1, ((b5_1).length : Int), 0, b3_0, b3_1, b4_0, b4_1, b5_0, b5_1, ()))
noncomputable def impl_MorphismOk : Int × (List (Int × Int)) × Int × (List (Int × Int)) × (List Int) × (List Int) × Unit → Option (Bool × Unit) := fun (t0_0, t0_1, t1_0, t1_1, t2_0, t2_1, _) =>
  joinB (T := Bool × Int × (List (Int × Int)) × Int × (List (Int × Int)) × (List Int) × (List Int) × Unit) (R := Bool × Unit) (Option.bind (impl_GraphOk (t0_0, t0_1, ())) fun (v2, _) => cond (!v2)
    (some (.inl (true, t0_0, t0_1, t1_0, t1_1, t2_0, t2_1, ())))
    (Option.bind (impl_GraphOk (t1_0, t1_1, ())) fun (v3, _) => cond (!v3)
    (some (.inl (true, t0_0, t0_1, t1_0, t1_1, t2_0, t2_1, ())))
    (cond (((t2_0).length : Int) != t0_0)
    (some (.inl (true, t0_0, t0_1, t1_0, t1_1, t2_0, t2_1, ())))
    (cond (((t2_1).length : Int) != ((t0_1).length : Int))
    (some (.inl (true, t0_0, t0_1, t1_0, t1_1, t2_0, t2_1, ())))
    (Option.bind (impl_allWithin (t2_0, 0, (w64 (t1_0 - 1)), ())) fun (v4, _) => cond (!v4)
    (some (.inl (true, t0_0, t0_1, t1_0, t1_1, t2_0, t2_1, ())))
    (Option.bind (impl_allWithin (t2_1, (-1), (w64 (((t1_1).length : Int) - 1)), ())) fun (v5, _) => some (.inl ((!v5), t0_0, t0_1, t1_0, t1_1, t2_0, t2_1, ())))))))) impl_MorphismOk_J12
noncomputable def impl_MorphismOk_F : Fun := ⟨impl_MorphismOk_ins, [], impl_MorphismOk_outs, impl_MorphismOk⟩
noncomputable def impl_MorphismOk_orc : Orc := orcGet [(54, impl_GraphOk_F), (70, impl_allWithin_F)]
theorem impl_MorphismOk_eq (x : Den impl_MorphismOk_ins) : pmFn (tdGet tab) impl_MorphismOk_orc impl_MorphismOk_F.mn impl_MorphismOk_ann Go.Proofs.Try.f23 impl_MorphismOk_ins impl_MorphismOk_outs x = impl_MorphismOk x := by kernel_rfl
theorem impl_MorphismOk_c : CallsD Go.Proofs.Try.prog 23 impl_MorphismOk_F :=
  fn_contract (F := impl_MorphismOk_F) (C := impl_MorphismOk_orc) mix (chkTab_get tab_ok) (orc_cons impl_GraphOk_c (orc_cons impl_allWithin_c orc_nil)) impl_MorphismOk_ann (fn := Go.Proofs.Try.f23) (by kernel_rfl) (by kernel_rfl) (by kernel_rfl) (by kernel_rfl) (by kernel_rfl) (fun x y h => (impl_MorphismOk_eq x).trans h)

def impl_isAt_ins : List Item := [.agg 0 [.int .i64, .ro .ii], .t 1 (.int .i64), .t 2 (.int .i64)]
def impl_isAt_outs : List Item := [.t 500 (.bool)]
def impl_isAt_ann : List (Nat × List Item) := []
noncomputable def impl_isAt : Int × (List (Int × Int)) × Int × Int × Unit → Option (Bool × Unit) := fun (t0_0, t0_1, t1, t2, _) =>
  Option.bind (impl_within (t1, 0, (w64 (((t0_1).length : Int) - 1)), ())) fun (v1, _) => cond v1
    (chk (0 ≤ t1 ∧ t1 < ((t0_1).length : Int)) (cond ((atD (0, 0) t0_1 t1).1 == t2)
    (some (true, ()))
    (chk (0 ≤ t1 ∧ t1 < ((t0_1).length : Int)) (some (((atD (0, 0) t0_1 t1).2 == t2), ())))))
    (some (false, ()))
noncomputable def impl_isAt_F : Fun := ⟨impl_isAt_ins, [], impl_isAt_outs, impl_isAt⟩
noncomputable def impl_isAt_orc : Orc := orcGet [(71, impl_within_F)]
theorem impl_isAt_eq (x : Den impl_isAt_ins) : pmFn (tdGet tab) impl_isAt_orc impl_isAt_F.mn impl_isAt_ann Go.Proofs.Try.f80 impl_isAt_ins impl_isAt_outs x = impl_isAt x := by kernel_rfl
theorem impl_isAt_c : CallsD Go.Proofs.Try.prog 80 impl_isAt_F :=
  fn_contract (F := impl_isAt_F) (C := impl_isAt_orc) mix (chkTab_get tab_ok) (orc_cons impl_within_c orc_nil) impl_isAt_ann (fn := Go.Proofs.Try.f80) (by kernel_rfl) (by kernel_rfl) (by kernel_rfl) (by kernel_rfl) (by kernel_rfl) (fun x y h => (impl_isAt_eq x).trans h)

def impl_multiplicities_ins : List Item := [.agg 0 [.int .i64, .ro .ii], .agg 1 [.int .i64, .ro .ii], .agg 2 [.ro (.int .i64), .ro (.int .i64)], .t 3 (.int .i64)]
def impl_multiplicities_outs : List Item := [.t 500 (.own 3 (.int .i64))]
def impl_multiplicities_ann : List (Nat × List Item) := [(58, [.t 3 (.int .i64), .t 4 (.ptr 4), .t 5 (.ptr 5), .t 6 (.ptr 6), .t 9 (.own 3 (.int .i64)), .t 16 (.int .i64), .t 17 (.int .i64), .box 4 29 [.int .i64, .ro .ii], .box 5 29 [.int .i64, .ro .ii], .box 6 37 [.ro (.int .i64), .ro (.int .i64)]]),
  (119610, [.t 3 (.int .i64), .t 4 (.ptr 4), .t 5 (.ptr 5), .t 6 (.ptr 6), .t 9 (.own 3 (.int .i64)), .t 10 (.int .i64), .t 11 (.int .i64), .t 16 (.int .i64), .t 17 (.int .i64), .t 30 (.ro (.int .i64)), .t 31 (.int .i64), .t 32 (.int .i64), .box 4 29 [.int .i64, .ro .ii], .box 5 29 [.int .i64, .ro .ii], .box 6 37 [.ro (.int .i64), .ro (.int .i64)]])]
noncomputable def impl_multiplicities_L119610 : Int × (List Int) × Int × Int × Int × Int × (List Int) × Int × Int × Int × (List (Int × Int)) × Int × (List (Int × Int)) × (List Int) × (List Int) × Unit → Option ((Int × (List Int) × Int × Int × Int × Int × (List Int) × Int × Int × Int × (List (Int × Int)) × Int × (List (Int × Int)) × (List Int) × (List Int) × Unit) ⊕ (((Int × (List Int) × Int × Int × Int × (List (Int × Int)) × Int × (List (Int × Int)) × (List Int) × (List Int) × Unit) ⊕ (List Int) × Unit))) := fun (t3, t9, t10, t11, t16, t17, t30, t31, t32, b4_0, b4_1, b5_0, b5_1, b6_0, b6_1, _) =>
  cond (decide (t32 < t31))
    (chk (0 ≤ t32 ∧ t32 < ((t30).length : Int)) (cond (atD 0 t30 t32 == t10)
    (Option.bind (impl_isAt (b4_0, b4_1, t32, t3, ())) fun (v2, _) => cond v2
    (some (.inl (t3, t9, t10, (w64 (t11 + 1)), t16, t17, t30, t31, (w64 (t32 + 1)), b4_0, b4_1, b5_0, b5_1, b6_0, b6_1, ())))
    (some (.inl (t3, t9, t10, t11, t16, t17, t30, t31, (w64 (t32 + 1)), b4_0, b4_1, b5_0, b5_1, b6_0, b6_1, ()))))
    (some (.inl (t3, t9, t10, t11, t16, t17, t30, t31, (w64 (t32 + 1)), b4_0, b4_1, b5_0, b5_1, b6_0, b6_1, ())))))
    (Option.map Sum.inr (chk ((t9).length + (([t11] : List Int)).length ≤ 17592186044416) (some (.inl (t3, (t9 ++ ([t11] : List Int)), t16, (w64 (t17 + 1)), b4_0, b4_1, b5_0, b5_1, b6_0, b6_1, ())))))
noncomputable def impl_multiplicities_L58 : Int × (List Int) × Int × Int × Int × (List (Int × Int)) × Int × (List (Int × Int)) × (List Int) × (List Int) × Unit → Option ((Int × (List Int) × Int × Int × Int × (List (Int × Int)) × Int × (List (Int × Int)) × (List Int) × (List Int) × Unit) ⊕ ((List Int) × Unit)) := fun (t3, t9, t16, t17, b4_0, b4_1, b5_0, b5_1, b6_0, b6_1, _) =>
  cond (decide (t17 < t16))
    (chk (0 ≤ t3 ∧ t3 < ((b6_0).length : Int)) (Option.bind (impl_isAt (b5_0, b5_1, t17, atD 0 b6_0 t3, ())) fun (v1, _) => cond (!v1)
    (some (.inl (t3, t9, t16, (w64 (t17 + 1)), b4_0, b4_1, b5_0, b5_1, b6_0, b6_1, ())))
    (loopM impl_multiplicities_L119610 (t3, t9, t17, 0, t16, t17, b6_1, ((b6_1).length : Int), 0, b4_0, b4_1, b5_0, b5_1, b6_0, b6_1, ()))))
    (Option.map Sum.inr (some (t9, ())))
noncomputable def impl_multiplicities : Int × (List (Int × Int)) × Int × (List (Int × Int)) × (List Int) × (List Int) × Int × Unit → Option ((List Int) × Unit) := fun (t0_0, t0_1, t1_0, t1_1, t2_0, t2_1, t3, _) =>
  loopM impl_multiplicities_L58 (t3, ([] : List Int), ((t1_1).length : Int), 0, t0_0, t0_1, t1_0, t1_1, t2_0, t2_1, ())
noncomputable def impl_multiplicities_F : Fun := ⟨impl_multiplicities_ins, [], impl_multiplicities_outs, impl_multiplicities⟩
noncomputable def impl_multiplicities_orc : Orc := orcGet [(80, impl_isAt_F)]
theorem impl_multiplicities_eq (x : Den impl_multiplicities_ins) : pmFn (tdGet tab) impl_multiplicities_orc impl_multiplicities_F.mn impl_multiplicities_ann Go.Proofs.Try.f65 impl_multiplicities_ins impl_multiplicities_outs x = impl_multiplicities x := by kernel_rfl
theorem impl_multiplicities_c : CallsD Go.Proofs.Try.prog 65 impl_multiplicities_F :=
  fn_contract (F := impl_multiplicities_F) (C := impl_multiplicities_orc) mix (chkTab_get tab_ok) (orc_cons impl_isAt_c orc_nil) impl_multiplicities_ann (fn := Go.Proofs.Try.f65) (by kernel_rfl) (by kernel_rfl) (by kernel_rfl) (by kernel_rfl) (by kernel_rfl) (fun x y h => (impl_multiplicities_eq x).trans h)

def slices_Min_int_int_ins : List Item := [.t 0 (.ro (.int .i64))]
def slices_Min_int_int_outs : List Item := [.t 500 (.int .i64)]
def slices_Min_int_int_ann : List (Nat × List Item) := [(13, [.t 0 (.ro (.int .i64))]),
  (122, [.t 0 (.ro (.int .i64)), .t 3 (.int .i64), .t 4 (.int .i64)])]
noncomputable def slices_Min_int_int_L122 : (List Int) × Int × Int × Unit → Option (((List Int) × Int × Int × Unit) ⊕ (Int × Unit)) := fun (t0, t3, t4, _) =>
  cond (decide (t4 < ((t0).length : Int)))
    (chk (0 ≤ t4 ∧ t4 < ((t0).length : Int)) (some (.inl (t0, (min2 t3 (atD 0 t0 t4)), (w64 (t4 + 1)), ()))))
    (Option.map Sum.inr (some (t3, ())))
noncomputable def slices_Min_int_int_J13 : (List Int) × Unit → Option (Int × Unit) := fun (t0, _) =>
  chk ((0 : Int) ≤ 0 ∧ 0 < ((t0).length : Int)) (loopM slices_Min_int_int_L122 (t0, atD 0 t0 0, 1, ()))
noncomputable def slices_Min_int_int : (List Int) × Unit → Option (Int × Unit) := fun (t0, _) =>
  joinB (T := (List Int) × Unit) (R := Int × Unit) (cond (decide (((t0).length : Int) < 1))
    (none)
    (some (.inl (t0, ())))) slices_Min_int_int_J13
noncomputable def slices_Min_int_int_F : Fun := ⟨slices_Min_int_int_ins, [], slices_Min_int_int_outs, slices_Min_int_int⟩
noncomputable def slices_Min_int_int_orc : Orc := orcGet []
theorem slices_Min_int_int_eq (x : Den slices_Min_int_int_ins) : pmFn (tdGet tab) slices_Min_int_int_orc slices_Min_int_int_F.mn slices_Min_int_int_ann Go.Proofs.Try.f56 slices_Min_int_int_ins slices_Min_int_int_outs x = slices_Min_int_int x := by kernel_rfl
theorem slices_Min_int_int_c : CallsD Go.Proofs.Try.prog 56 slices_Min_int_int_F :=
  fn_contract (F := slices_Min_int_int_F) (C := slices_Min_int_int_orc) mix (chkTab_get tab_ok) orc_nil slices_Min_int_int_ann (fn := Go.Proofs.Try.f56) (by kernel_rfl) (by kernel_rfl) (by kernel_rfl) (by kernel_rfl) (by kernel_rfl) (fun x y h => (slices_Min_int_int_eq x).trans h)

def slices_Max_int_int_ins : List Item := [.t 0 (.ro (.int .i64))]
def slices_Max_int_int_outs : List Item := [.t 500 (.int .i64)]
def slices_Max_int_int_ann : List (Nat × List Item) := [(13, [.t 0 (.ro (.int .i64))]),
  (122, [.t 0 (.ro (.int .i64)), .t 3 (.int .i64), .t 4 (.int .i64)])]
noncomputable def slices_Max_int_int_L122 : (List Int) × Int × Int × Unit → Option (((List Int) × Int × Int × Unit) ⊕ (Int × Unit)) := fun (t0, t3, t4, _) =>
  cond (decide (t4 < ((t0).length : Int)))
    (chk (0 ≤ t4 ∧ t4 < ((t0).length : Int)) (some (.inl (t0, (max2 t3 (atD 0 t0 t4)), (w64 (t4 + 1)), ()))))
    (Option.map Sum.inr (some (t3, ())))
noncomputable def slices_Max_int_int_J13 : (List Int) × Unit → Option (Int × Unit) := fun (t0, _) =>
  chk ((0 : Int) ≤ 0 ∧ 0 < ((t0).length : Int)) (loopM slices_Max_int_int_L122 (t0, atD 0 t0 0, 1, ()))
noncomputable def slices_Max_int_int : (List Int) × Unit → Option (Int × Unit) := fun (t0, _) =>
  joinB (T := (List Int) × Unit) (R := Int × Unit) (cond (decide (((t0).length : Int) < 1))
    (none)
    (some (.inl (t0, ())))) slices_Max_int_int_J13
noncomputable def slices_Max_int_int_F : Fun := ⟨slices_Max_int_int_ins, [], slices_Max_int_int_outs, slices_Max_int_int⟩
noncomputable def slices_Max_int_int_orc : Orc := orcGet []
theorem slices_Max_int_int_eq (x : Den slices_Max_int_int_ins) : pmFn (tdGet tab) slices_Max_int_int_orc slices_Max_int_int_F.mn slices_Max_int_int_ann Go.Proofs.Try.f57 slices_Max_int_int_ins slices_Max_int_int_outs x = slices_Max_int_int x := by kernel_rfl
theorem slices_Max_int_int_c : CallsD Go.Proofs.Try.prog 57 slices_Max_int_int_F :=
  fn_contract (F := slices_Max_int_int_F) (C := slices_Max_int_int_orc) mix (chkTab_get tab_ok) orc_nil slices_Max_int_int_ann (fn := Go.Proofs.Try.f57) (by kernel_rfl) (by kernel_rfl) (by kernel_rfl) (by kernel_rfl) (by kernel_rfl) (fun x y h => (slices_Max_int_int_eq x).trans h)

def impl_IsHarmonic_ins : List Item := [.agg 0 [.int .i64, .ro .ii], .agg 1 [.int .i64, .ro .ii], .agg 2 [.ro (.int .i64), .ro (.int .i64)]]
def impl_IsHarmonic_outs : List Item := [.t 500 (.bool)]
def impl_IsHarmonic_ann : List (Nat × List Item) := [(58, [.t 3 (.ptr 3), .t 4 (.ptr 4), .t 5 (.ptr 5), .t 16 (.int .i64), .t 17 (.int .i64), .box 3 29 [.int .i64, .ro .ii], .box 4 29 [.int .i64, .ro .ii], .box 5 37 [.ro (.int .i64), .ro (.int .i64)]])]
noncomputable def impl_IsHarmonic_L58 : Int × Int × Int × (List (Int × Int)) × Int × (List (Int × Int)) × (List Int) × (List Int) × Unit → Option ((Int × Int × Int × (List (Int × Int)) × Int × (List (Int × Int)) × (List Int) × (List Int) × Unit) ⊕ (Bool × Unit)) := fun (t16, t17, b3_0, b3_1, b4_0, b4_1, b5_0, b5_1, _) =>
  cond (decide (t17 < t16))
    (Option.bind (impl_multiplicities (b3_0, b3_1, b4_0, b4_1, b5_0, b5_1, t17, ())) fun (v2, _) => cond (decide (((v2).length : Int) > 0))
    (Option.bind (slices_Min_int_int (v2, ())) fun (v3, _) => Option.bind (slices_Max_int_int (v2, ())) fun (v4, _) => cond (v3 != v4)
    (Option.map Sum.inr (some (false, ())))
    (some (.inl (t16, (w64 (t17 + 1)), b3_0, b3_1, b4_0, b4_1, b5_0, b5_1, ()))))
    (some (.inl (t16, (w64 (t17 + 1)), b3_0, b3_1, b4_0, b4_1, b5_0, b5_1, ()))))
    (Option.map Sum.inr (some (true, ())))
noncomputable def impl_IsHarmonic : Int × (List (Int × Int)) × Int × (List (Int × Int)) × (List Int) × (List Int) × Unit → Option (Bool × Unit) := fun (t0_0, t0_1, t1_0, t1_1, t2_0, t2_1, _) =>
  Option.bind (impl_MorphismOk (t0_0, t0_1, t1_0, t1_1, t2_0, t2_1, ())) fun (v1, _) => cond (!v1)
    (some (false, ()))
    (loopM impl_IsHarmonic_L58 (((t2_0).length : Int), 0, t0_0, t0_1, t1_0, t1_1, t2_0, t2_1, ()))
noncomputable def impl_IsHarmonic_F : Fun := ⟨impl_IsHarmonic_ins, [], impl_IsHarmonic_outs, impl_IsHarmonic⟩
noncomputable def impl_IsHarmonic_orc : Orc := orcGet [(23, impl_MorphismOk_F), (56, slices_Min_int_int_F), (57, slices_Max_int_int_F), (65, impl_multiplicities_F)]
theorem impl_IsHarmonic_eq (x : Den impl_IsHarmonic_ins) : pmFn (tdGet tab) impl_IsHarmonic_orc impl_IsHarmonic_F.mn impl_IsHarmonic_ann Go.Proofs.Try.f19 impl_IsHarmonic_ins impl_IsHarmonic_outs x = impl_IsHarmonic x := by kernel_rfl
theorem impl_IsHarmonic_c : CallsD Go.Proofs.Try.prog 19 impl_IsHarmonic_F :=
  fn_contract (F := impl_IsHarmonic_F) (C := impl_IsHarmonic_orc) mix (chkTab_get tab_ok) (orc_cons impl_MorphismOk_c (orc_cons slices_Min_int_int_c (orc_cons slices_Max_int_int_c (orc_cons impl_multiplicities_c orc_nil)))) impl_IsHarmonic_ann (fn := Go.Proofs.Try.f19) (by kernel_rfl) (by kernel_rfl) (by kernel_rfl) (by kernel_rfl) (by kernel_rfl) (fun x y h => (impl_IsHarmonic_eq x).trans h)

def impl_DegreeOfMorphism_ins : List Item := [.agg 0 [.int .i64, .ro .ii], .agg 1 [.int .i64, .ro .ii], .agg 2 [.ro (.int .i64), .ro (.int .i64)]]
def impl_DegreeOfMorphism_outs : List Item := [.t 500 (.int .i64)]
def impl_DegreeOfMorphism_ann : List (Nat × List Item) := [(122, [.t 7 (.int .i64), .t 16 (.ro (.int .i64)), .t 17 (.int .i64), .t 18 (.int .i64)])]
noncomputable def impl_DegreeOfMorphism_L122 : Int × (List Int) × Int × Int × Unit → Option ((Int × (List Int) × Int × Int × Unit) ⊕ (Int × Unit)) := fun (t7, t16, t17, t18, _) =>
  cond (decide (t18 < t17))
    (chk (0 ≤ t18 ∧ t18 < ((t16).length : Int)) (cond (atD 0 t16 t18 == 0)
    (some (.inl ((w64 (t7 + 1)), t16, t17, (w64 (t18 + 1)), ())))
    (some (.inl (t7, t16, t17, (w64 (t18 + 1)), ())))))
    (Option.map Sum.inr (some (t7, ())))
noncomputable def impl_DegreeOfMorphism : Int × (List (Int × Int)) × Int × (List (Int × Int)) × (List Int) × (List Int) × Unit → Option (Int × Unit) := fun (t0_0, t0_1, t1_0, t1_1, t2_0, t2_1, _) =>
  Option.bind (impl_IsHarmonic (t0_0, t0_1, t1_0, t1_1, t2_0, t2_1, ())) fun (v1, _) => cond (!v1)
    (some ((-1), ()))
    (loopM impl_DegreeOfMorphism_L122 (0, t2_1, ((t2_1).length : Int), 0, ()))
noncomputable def impl_DegreeOfMorphism_F : Fun := ⟨impl_DegreeOfMorphism_ins, [], impl_DegreeOfMorphism_outs, impl_DegreeOfMorphism⟩
noncomputable def impl_DegreeOfMorphism_orc : Orc := orcGet [(19, impl_IsHarmonic_F)]
theorem impl_DegreeOfMorphism_eq (x : Den impl_DegreeOfMorphism_ins) : pmFn (tdGet tab) impl_DegreeOfMorphism_orc impl_DegreeOfMorphism_F.mn impl_DegreeOfMorphism_ann Go.Proofs.Try.f20 impl_DegreeOfMorphism_ins impl_DegreeOfMorphism_outs x = impl_DegreeOfMorphism x := by kernel_rfl
theorem impl_DegreeOfMorphism_c : CallsD Go.Proofs.Try.prog 20 impl_DegreeOfMorphism_F :=
  fn_contract (F := impl_DegreeOfMorphism_F) (C := impl_DegreeOfMorphism_orc) mix (chkTab_get tab_ok) (orc_cons impl_IsHarmonic_c orc_nil) impl_DegreeOfMorphism_ann (fn := Go.Proofs.Try.f20) (by kernel_rfl) (by kernel_rfl) (by kernel_rfl) (by kernel_rfl) (by kernel_rfl) (fun x y h => (impl_DegreeOfMorphism_eq x).trans h)

def impl_HorizontalOf_ins : List Item := [.agg 0 [.int .i64, .ro .ii], .agg 1 [.int .i64, .ro .ii], .agg 2 [.ro (.int .i64), .ro (.int .i64)], .t 3 (.int .i64)]
def impl_HorizontalOf_outs : List Item := [.t 500 (.int .i64)]
def impl_HorizontalOf_ann : List (Nat × List Item) := []
noncomputable def impl_HorizontalOf : Int × (List (Int × Int)) × Int × (List (Int × Int)) × (List Int) × (List Int) × Int × Unit → Option (Int × Unit) := fun (t0_0, t0_1, t1_0, t1_1, t2_0, t2_1, t3, _) =>
  Option.bind (impl_IsHarmonic (t0_0, t0_1, t1_0, t1_1, t2_0, t2_1, ())) fun (v1, _) => cond (!v1)
    (some ((-1), ()))
    (Option.bind (impl_within (t3, 0, (w64 (t0_0 - 1)), ())) fun (v2, _) => cond (!v2)
    (some ((-1), ()))
    (Option.bind (impl_multiplicities (t0_0, t0_1, t1_0, t1_1, t2_0, t2_1, t3, ())) fun (v3, _) => cond (((v3).length : Int) == 0)
    (some (0, ()))
    (chk ((0 : Int) ≤ 0 ∧ 0 < ((v3).length : Int)) (some (atD 0 v3 0, ())))))
noncomputable def impl_HorizontalOf_F : Fun := ⟨impl_HorizontalOf_ins, [], impl_HorizontalOf_outs, impl_HorizontalOf⟩
noncomputable def impl_HorizontalOf_orc : Orc := orcGet [(19, impl_IsHarmonic_F), (65, impl_multiplicities_F), (71, impl_within_F)]
theorem impl_HorizontalOf_eq (x : Den impl_HorizontalOf_ins) : pmFn (tdGet tab) impl_HorizontalOf_orc impl_HorizontalOf_F.mn impl_HorizontalOf_ann Go.Proofs.Try.f24 impl_HorizontalOf_ins impl_HorizontalOf_outs x = impl_HorizontalOf x := by kernel_rfl
theorem impl_HorizontalOf_c : CallsD Go.Proofs.Try.prog 24 impl_HorizontalOf_F :=
  fn_contract (F := impl_HorizontalOf_F) (C := impl_HorizontalOf_orc) mix (chkTab_get tab_ok) (orc_cons impl_IsHarmonic_c (orc_cons impl_multiplicities_c (orc_cons impl_within_c orc_nil))) impl_HorizontalOf_ann (fn := Go.Proofs.Try.f24) (by kernel_rfl) (by kernel_rfl) (by kernel_rfl) (by kernel_rfl) (by kernel_rfl) (fun x y h => (impl_HorizontalOf_eq x).trans h)

def spec_l21New_ins : List Item := [.t 0 (.ro (.int .u8)), .t 1 (.int .i64)]
def spec_l21New_outs : List Item := [.t 500 (.ptr 9000), .box 9000 115 [.ro (.int .u8), .int .i64, .int .i64]]
def spec_l21New_ann : List (Nat × List Item) := [(58, [.t 1 (.int .i64), .t 5 (.ptr 90000031), .t 6 (.int .i64), .box 90000031 115 [.ro (.int .u8), .int .i64, .int .i64]])]
noncomputable def spec_l21New_L58 : Int × Int × (List Int) × Int × Int × Unit → Option ((Int × Int × (List Int) × Int × Int × Unit) ⊕ ((List Int) × Int × Int × Unit)) := fun (t1, t6, b90000031_0, b90000031_1, b90000031_2, _) =>
  cond (decide (t6 < t1))
    (Option.bind (spec_l01Byte (b90000031_0, b90000031_1, b90000031_2, ())) fun (v4, v5, v6, v7, _) => some (.inl (t1, (w64 (t6 + 1)), v5, v6, v7, ())))
    (Option.map Sum.inr (some (b90000031_0, b90000031_1, b90000031_2, ())))
noncomputable def spec_l21New : (List Int) × Int × Unit → Option ((List Int) × Int × Int × Unit) := fun (t0, t1, _) =>
  Option.bind (spec_l01New (t0, ())) fun (v1, v2, v3, _) => loopM spec_l21New_L58 (t1, 0, v1, v2, v3, ())
noncomputable def spec_l21New_F : Fun := ⟨spec_l21New_ins, [], spec_l21New_outs, spec_l21New⟩
noncomputable def spec_l21New_orc : Orc := orcGet [(61, spec_l01New_F), (79, spec_l01Byte_F)]
theorem spec_l21New_eq (x : Den spec_l21New_ins) : pmFn (tdGet tab) spec_l21New_orc spec_l21New_F.mn spec_l21New_ann Go.Proofs.Try.f63 spec_l21New_ins spec_l21New_outs x = spec_l21New x := by kernel_rfl
theorem spec_l21New_c : CallsD Go.Proofs.Try.prog 63 spec_l21New_F :=
  fn_contract (F := spec_l21New_F) (C := spec_l21New_orc) mix (chkTab_get tab_ok) (orc_cons spec_l01New_c (orc_cons spec_l01Byte_c orc_nil)) spec_l21New_ann (fn := Go.Proofs.Try.f63) (by kernel_rfl) (by kernel_rfl) (by kernel_rfl) (by kernel_rfl) (by kernel_rfl) (fun x y h => (spec_l21New_eq x).trans h)

def spec_l04Draw_ins : List Item := [.t 0 (.ptr 900), .agg 1 [.int .i64, .ro .ii], .box 900 115 [.ro (.int .u8), .int .i64, .int .i64]]
def spec_l04Draw_outs : List Item := [.t 500 (.own 3 (.int .i64)), .box 900 115 [.ro (.int .u8), .int .i64, .int .i64]]
def spec_l04Draw_ann : List (Nat × List Item) := [(58, [.t 0 (.ptr 900), .t 3 (.ptr 3), .t 5 (.own 3 (.int .i64)), .t 6 (.int .i64), .box 900 115 [.ro (.int .u8), .int .i64, .int .i64], .box 3 29 [.int .i64, .ro .ii]])]
noncomputable def spec_l04Draw_L58 : (List Int) × Int × (List Int) × Int × Int × Int × (List (Int × Int)) × Unit → Option (((List Int) × Int × (List Int) × Int × Int × Int × (List (Int × Int)) × Unit) ⊕ ((List Int) × (List Int) × Int × Int × Unit)) := fun (t5, t6, b900_0, b900_1, b900_2, b3_0, b3_1, _) =>
  cond (decide (t6 < b3_0))
    (Option.bind (spec_l01Below (7, b900_0, b900_1, b900_2, ())) fun (v1, v2, v3, v4, _) => Option.bind (spec_l01Pick (([0, 1, 2, (-1), 3, (-2), v1] : List Int), v2, v3, v4, ())) fun (v5, v6, v7, v8, _) => chk ((t5).length + (([v5] : List Int)).length ≤ 17592186044416) (some (.inl ((t5 ++ ([v5] : List Int)), (w64 (t6 + 1)), v6, v7, v8, b3_0, b3_1, ()))))
    (Option.map Sum.inr (some (t5, b900_0, b900_1, b900_2, ())))
noncomputable def spec_l04Draw : Int × (List (Int × Int)) × (List Int) × Int × Int × Unit → Option ((List Int) × (List Int) × Int × Int × Unit) := fun (t1_0, t1_1, b900_0, b900_1, b900_2, _) =>
  loopM spec_l04Draw_L58 (([] : List Int), 0, b900_0, b900_1, b900_2, t1_0, t1_1, ())
noncomputable def spec_l04Draw_F : Fun := ⟨spec_l04Draw_ins, [900], spec_l04Draw_outs, spec_l04Draw⟩
noncomputable def spec_l04Draw_orc : Orc := orcGet [(74, spec_l01Below_F), (106, spec_l01Pick_F)]
theorem spec_l04Draw_eq (x : Den spec_l04Draw_ins) : pmFn (tdGet tab) spec_l04Draw_orc spec_l04Draw_F.mn spec_l04Draw_ann Go.Proofs.Try.f62 spec_l04Draw_ins spec_l04Draw_outs x = spec_l04Draw x := by kernel_rfl
theorem spec_l04Draw_c : CallsD Go.Proofs.Try.prog 62 spec_l04Draw_F :=
  fn_contract (F := spec_l04Draw_F) (C := spec_l04Draw_orc) mix (chkTab_get tab_ok) (orc_cons spec_l01Below_c (orc_cons spec_l01Pick_c orc_nil)) spec_l04Draw_ann (fn := Go.Proofs.Try.f62) (by kernel_rfl) (by kernel_rfl) (by kernel_rfl) (by kernel_rfl) (by kernel_rfl) (fun x y h => (spec_l04Draw_eq x).trans h)

def spec_MakeDivisor_ins : List Item := [.t 0 (.ro (.int .u8)), .t 1 (.int .i64), .agg 2 [.int .i64, .ro .ii]]
def spec_MakeDivisor_outs : List Item := [.t 500 (.own 3 (.int .i64))]
def spec_MakeDivisor_ann : List (Nat × List Item) := []
noncomputable def spec_MakeDivisor : (List Int) × Int × Int × (List (Int × Int)) × Unit → Option ((List Int) × Unit) := fun (t0, t1, t2_0, t2_1, _) =>
  Option.bind (spec_l21New (t0, t1, ())) fun (v1, v2, v3, _) => Option.bind (spec_l04Draw (t2_0, t2_1, v1, v2, v3, ())) fun (v4, v5, v6, v7, _) => some (v4, ())
noncomputable def spec_MakeDivisor_F : Fun := ⟨spec_MakeDivisor_ins, [], spec_MakeDivisor_outs, spec_MakeDivisor⟩
noncomputable def spec_MakeDivisor_orc : Orc := orcGet [(62, spec_l04Draw_F), (63, spec_l21New_F)]
theorem spec_MakeDivisor_eq (x : Den spec_MakeDivisor_ins) : pmFn (tdGet tab) spec_MakeDivisor_orc spec_MakeDivisor_F.mn spec_MakeDivisor_ann Go.Proofs.Try.f16 spec_MakeDivisor_ins spec_MakeDivisor_outs x = spec_MakeDivisor x := by kernel_rfl
theorem spec_MakeDivisor_c : CallsD Go.Proofs.Try.prog 16 spec_MakeDivisor_F :=
  fn_contract (F := spec_MakeDivisor_F) (C := spec_MakeDivisor_orc) mix (chkTab_get tab_ok) (orc_cons spec_l04Draw_c (orc_cons spec_l21New_c orc_nil)) spec_MakeDivisor_ann (fn := Go.Proofs.Try.f16) (by kernel_rfl) (by kernel_rfl) (by kernel_rfl) (by kernel_rfl) (by kernel_rfl) (fun x y h => (spec_MakeDivisor_eq x).trans h)

def spec_MakeScript_ins : List Item := [.t 0 (.ro (.int .u8)), .t 1 (.int .i64), .agg 2 [.int .i64, .ro .ii]]
def spec_MakeScript_outs : List Item := [.t 500 (.own 3 (.int .i64))]
def spec_MakeScript_ann : List (Nat × List Item) := [(122, [.t 5 (.ptr 5), .t 7 (.ptr 130009000), .t 8 (.own 3 (.int .i64)), .t 9 (.int .i64), .box 5 29 [.int .i64, .ro .ii], .box 130009000 115 [.ro (.int .u8), .int .i64, .int .i64]])]
noncomputable def spec_MakeScript_L122 : (List Int) × Int × Int × (List (Int × Int)) × (List Int) × Int × Int × Unit → Option (((List Int) × Int × Int × (List (Int × Int)) × (List Int) × Int × Int × Unit) ⊕ ((List Int) × Unit)) := fun (t8, t9, b5_0, b5_1, b130009000_0, b130009000_1, b130009000_2, _) =>
  cond (decide (t9 < b5_0))
    (Option.bind (spec_l01Below (7, b130009000_0, b130009000_1, b130009000_2, ())) fun (v4, v5, v6, v7, _) => chk ((t8).length + (([(w64 (v4 - 3))] : List Int)).length ≤ 17592186044416) (some (.inl ((t8 ++ ([(w64 (v4 - 3))] : List Int)), (w64 (t9 + 1)), b5_0, b5_1, v5, v6, v7, ()))))
    (Option.map Sum.inr (some (t8, ())))
noncomputable def spec_MakeScript : (List Int) × Int × Int × (List (Int × Int)) × Unit → Option ((List Int) × Unit) := fun (t0, t1, t2_0, t2_1, _) =>
  Option.bind (spec_l21New (t0, t1, ())) fun (v1, v2, v3, _) => loopM spec_MakeScript_L122 (([] : List Int), 0, t2_0, t2_1, v1, v2, v3, ())
noncomputable def spec_MakeScript_F : Fun := ⟨spec_MakeScript_ins, [], spec_MakeScript_outs, spec_MakeScript⟩
noncomputable def spec_MakeScript_orc : Orc := orcGet [(63, spec_l21New_F), (74, spec_l01Below_F)]
theorem spec_MakeScript_eq (x : Den spec_MakeScript_ins) : pmFn (tdGet tab) spec_MakeScript_orc spec_MakeScript_F.mn spec_MakeScript_ann Go.Proofs.Try.f26 spec_MakeScript_ins spec_MakeScript_outs x = spec_MakeScript x := by kernel_rfl
theorem spec_MakeScript_c : CallsD Go.Proofs.Try.prog 26 spec_MakeScript_F :=
  fn_contract (F := spec_MakeScript_F) (C := spec_MakeScript_orc) mix (chkTab_get tab_ok) (orc_cons spec_l21New_c (orc_cons spec_l01Below_c orc_nil)) spec_MakeScript_ann (fn := Go.Proofs.Try.f26) (by kernel_rfl) (by kernel_rfl) (by kernel_rfl) (by kernel_rfl) (by kernel_rfl) (fun x y h => (spec_MakeScript_eq x).trans h)

def impl_DivisorOk_ins : List Item := [.agg 0 [.int .i64, .ro .ii], .t 1 (.ro (.int .i64))]
def impl_DivisorOk_outs : List Item := [.t 500 (.bool)]
def impl_DivisorOk_ann : List (Nat × List Item) := []
noncomputable def impl_DivisorOk : Int × (List (Int × Int)) × (List Int) × Unit → Option (Bool × Unit) := fun (t0_0, t0_1, t1, _) =>
  Option.bind (impl_GraphOk (t0_0, t0_1, ())) fun (v1, _) => cond v1
    (cond (((t1).length : Int) == t0_0)
    (Option.bind (impl_allWithin (t1, (-60), 60, ())) fun (v2, _) => some (v2, ()))
    (some (false, ())))
    (some (false, ()))
noncomputable def impl_DivisorOk_F : Fun := ⟨impl_DivisorOk_ins, [], impl_DivisorOk_outs, impl_DivisorOk⟩
noncomputable def impl_DivisorOk_orc : Orc := orcGet [(54, impl_GraphOk_F), (70, impl_allWithin_F)]
theorem impl_DivisorOk_eq (x : Den impl_DivisorOk_ins) : pmFn (tdGet tab) impl_DivisorOk_orc impl_DivisorOk_F.mn impl_DivisorOk_ann Go.Proofs.Try.f64 impl_DivisorOk_ins impl_DivisorOk_outs x = impl_DivisorOk x := by kernel_rfl
theorem impl_DivisorOk_c : CallsD Go.Proofs.Try.prog 64 impl_DivisorOk_F :=
  fn_contract (F := impl_DivisorOk_F) (C := impl_DivisorOk_orc) mix (chkTab_get tab_ok) (orc_cons impl_GraphOk_c (orc_cons impl_allWithin_c orc_nil)) impl_DivisorOk_ann (fn := Go.Proofs.Try.f64) (by kernel_rfl) (by kernel_rfl) (by kernel_rfl) (by kernel_rfl) (by kernel_rfl) (fun x y h => (impl_DivisorOk_eq x).trans h)

def impl_ScriptOk_ins : List Item := [.agg 0 [.int .i64, .ro .ii], .t 1 (.ro (.int .i64))]
def impl_ScriptOk_outs : List Item := [.t 500 (.bool)]
def impl_ScriptOk_ann : List (Nat × List Item) := []
noncomputable def impl_ScriptOk : Int × (List (Int × Int)) × (List Int) × Unit → Option (Bool × Unit) := fun (t0_0, t0_1, t1, _) =>
  Option.bind (impl_GraphOk (t0_0, t0_1, ())) fun (v1, _) => cond v1
    (cond (((t1).length : Int) == t0_0)
    (Option.bind (impl_allWithin (t1, (-100000), 100000, ())) fun (v2, _) => some (v2, ()))
    (some (false, ())))
    (some (false, ()))
noncomputable def impl_ScriptOk_F : Fun := ⟨impl_ScriptOk_ins, [], impl_ScriptOk_outs, impl_ScriptOk⟩
noncomputable def impl_ScriptOk_orc : Orc := orcGet [(54, impl_GraphOk_F), (70, impl_allWithin_F)]
theorem impl_ScriptOk_eq (x : Den impl_ScriptOk_ins) : pmFn (tdGet tab) impl_ScriptOk_orc impl_ScriptOk_F.mn impl_ScriptOk_ann Go.Proofs.Try.f72 impl_ScriptOk_ins impl_ScriptOk_outs x = impl_ScriptOk x := by kernel_rfl
theorem impl_ScriptOk_c : CallsD Go.Proofs.Try.prog 72 impl_ScriptOk_F :=
  fn_contract (F := impl_ScriptOk_F) (C := impl_ScriptOk_orc) mix (chkTab_get tab_ok) (orc_cons impl_GraphOk_c (orc_cons impl_allWithin_c orc_nil)) impl_ScriptOk_ann (fn := Go.Proofs.Try.f72) (by kernel_rfl) (by kernel_rfl) (by kernel_rfl) (by kernel_rfl) (by kernel_rfl) (fun x y h => (impl_ScriptOk_eq x).trans h)

def impl_copyInts_ins : List Item := [.t 0 (.ro (.int .i64))]
def impl_copyInts_outs : List Item := [.t 500 (.own 3 (.int .i64))]
def impl_copyInts_ann : List (Nat × List Item) := []
noncomputable def impl_copyInts : (List Int) × Unit → Option ((List Int) × Unit) := fun (t0, _) =>
  chk ((t0).length ≤ 17592186044416) (some (t0, ()))
noncomputable def impl_copyInts_F : Fun := ⟨impl_copyInts_ins, [], impl_copyInts_outs, impl_copyInts⟩
noncomputable def impl_copyInts_orc : Orc := orcGet []
theorem impl_copyInts_eq (x : Den impl_copyInts_ins) : pmFn (tdGet tab) impl_copyInts_orc impl_copyInts_F.mn impl_copyInts_ann Go.Proofs.Try.f85 impl_copyInts_ins impl_copyInts_outs x = impl_copyInts x := by kernel_rfl
theorem impl_copyInts_c : CallsD Go.Proofs.Try.prog 85 impl_copyInts_F :=
  fn_contract (F := impl_copyInts_F) (C := impl_copyInts_orc) mix (chkTab_get tab_ok) orc_nil impl_copyInts_ann (fn := Go.Proofs.Try.f85) (by kernel_rfl) (by kernel_rfl) (by kernel_rfl) (by kernel_rfl) (by kernel_rfl) (fun x y h => (impl_copyInts_eq x).trans h)

def impl_fire_ins : List Item := [.agg 0 [.int .i64, .ro .ii], .t 1 (.own 3 (.int .i64)), .t 2 (.int .i64), .t 3 (.int .i64)]
def impl_fire_outs : List Item := [.row 1 3 (.int .i64)]
def impl_fire_ann : List (Nat × List Item) := [(14, [.t 1 (.al 1), .t 2 (.int .i64), .t 3 (.int .i64), .t 11 (.ro .ii), .t 12 (.int .i64), .t 13 (.int .i64), .row 1 3 (.int .i64)])]
noncomputable def impl_fire_L14 : Int × Int × (List (Int × Int)) × Int × Int × (List Int) × Unit → Option ((Int × Int × (List (Int × Int)) × Int × Int × (List Int) × Unit) ⊕ ((List Int) × Unit)) := fun (t2, t3, t11, t12, t13, r1, _) =>
  cond (decide (t13 < t12))
    (chk (0 ≤ t13 ∧ t13 < ((t11).length : Int)) (cond (t2 == (atD (0, 0) t11 t13).1)
    (chk (0 ≤ t2 ∧ t2 < ((r1).length : Int)) (chk (0 ≤ t2 ∧ t2 < ((r1).length : Int)) (chk (0 ≤ (atD (0, 0) t11 t13).2 ∧ (atD (0, 0) t11 t13).2 < (((r1.set (t2 : Int).toNat (w64 (atD 0 r1 t2 - t3)))).length : Int)) (chk (0 ≤ (atD (0, 0) t11 t13).2 ∧ (atD (0, 0) t11 t13).2 < (((r1.set (t2 : Int).toNat (w64 (atD 0 r1 t2 - t3)))).length : Int)) (some (.inl (t2, t3, t11, t12, (w64 (t13 + 1)), ((r1.set (t2 : Int).toNat (w64 (atD 0 r1 t2 - t3))).set ((atD (0, 0) t11 t13).2 : Int).toNat (w64 (atD 0 (r1.set (t2 : Int).toNat (w64 (atD 0 r1 t2 - t3))) ((atD (0, 0) t11 t13).2) + t3))), ())))))))
    (cond (t2 == (atD (0, 0) t11 t13).2)
    (chk (0 ≤ t2 ∧ t2 < ((r1).length : Int)) (chk (0 ≤ t2 ∧ t2 < ((r1).length : Int)) (chk (0 ≤ (atD (0, 0) t11 t13).1 ∧ (atD (0, 0) t11 t13).1 < (((r1.set (t2 : Int).toNat (w64 (atD 0 r1 t2 - t3)))).length : Int)) (chk (0 ≤ (atD (0, 0) t11 t13).1 ∧ (atD (0, 0) t11 t13).1 < (((r1.set (t2 : Int).toNat (w64 (atD 0 r1 t2 - t3)))).length : Int)) (some (.inl (t2, t3, t11, t12, (w64 (t13 + 1)), ((r1.set (t2 : Int).toNat (w64 (atD 0 r1 t2 - t3))).set ((atD (0, 0) t11 t13).1 : Int).toNat (w64 (atD 0 (r1.set (t2 : Int).toNat (w64 (atD 0 r1 t2 - t3))) ((atD (0, 0) t11 t13).1) + t3))), ())))))))
    (some (.inl (t2, t3, t11, t12, (w64 (t13 + 1)), r1, ()))))))
    (Option.map Sum.inr (some (r1, ())))
noncomputable def impl_fire : Int × (List (Int × Int)) × (List Int) × Int × Int × Unit → Option ((List Int) × Unit) := fun (t0_0, t0_1, t1, t2, t3, _) =>
  loopM impl_fire_L14 (t2, t3, t0_1, ((t0_1).length : Int), 0, t1, ())
noncomputable def impl_fire_F : Fun := ⟨impl_fire_ins, [1], impl_fire_outs, impl_fire⟩
noncomputable def impl_fire_orc : Orc := orcGet []
theorem impl_fire_eq (x : Den impl_fire_ins) : pmFn (tdGet tab) impl_fire_orc impl_fire_F.mn impl_fire_ann Go.Proofs.Try.f112 impl_fire_ins impl_fire_outs x = impl_fire x := by kernel_rfl
theorem impl_fire_c : CallsD Go.Proofs.Try.prog 112 impl_fire_F :=
  fn_contract (F := impl_fire_F) (C := impl_fire_orc) mix (chkTab_get tab_ok) orc_nil impl_fire_ann (fn := Go.Proofs.Try.f112) (by kernel_rfl) (by kernel_rfl) (by kernel_rfl) (by kernel_rfl) (by kernel_rfl) (fun x y h => (impl_fire_eq x).trans h)

def impl_fired_ins : List Item := [.agg 0 [.int .i64, .ro .ii], .t 1 (.ro (.int .i64)), .t 2 (.ro (.int .i64))]
def impl_fired_outs : List Item := [.t 500 (.own 3 (.int .i64))]
def impl_fired_ann : List (Nat × List Item) := [(58, [.t 3 (.ptr 3), .t 7 (.own 3 (.int .i64)), .t 12 (.ro (.int .i64)), .t 13 (.int .i64), .t 14 (.int .i64), .box 3 29 [.int .i64, .ro .ii]])]
noncomputable def impl_fired_L58 : (List Int) × (List Int) × Int × Int × Int × (List (Int × Int)) × Unit → Option (((List Int) × (List Int) × Int × Int × Int × (List (Int × Int)) × Unit) ⊕ ((List Int) × Unit)) := fun (t7, t12, t13, t14, b3_0, b3_1, _) =>
  cond (decide (t14 < t13))
    (chk (0 ≤ t14 ∧ t14 < ((t12).length : Int)) (Option.bind (impl_fire (b3_0, b3_1, t7, t14, atD 0 t12 t14, ())) fun (v2, _) => some (.inl (v2, t12, t13, (w64 (t14 + 1)), b3_0, b3_1, ()))))
    (Option.map Sum.inr (some (t7, ())))
noncomputable def impl_fired : Int × (List (Int × Int)) × (List Int) × (List Int) × Unit → Option ((List Int) × Unit) := fun (t0_0, t0_1, t1, t2, _) =>
  Option.bind (impl_copyInts (t1, ())) fun (v1, _) => loopM impl_fired_L58 (v1, t2, ((t2).length : Int), 0, t0_0, t0_1, ())
noncomputable def impl_fired_F : Fun := ⟨impl_fired_ins, [], impl_fired_outs, impl_fired⟩
noncomputable def impl_fired_orc : Orc := orcGet [(85, impl_copyInts_F), (112, impl_fire_F)]
theorem impl_fired_eq (x : Den impl_fired_ins) : pmFn (tdGet tab) impl_fired_orc impl_fired_F.mn impl_fired_ann Go.Proofs.Try.f73 impl_fired_ins impl_fired_outs x = impl_fired x := by kernel_rfl
theorem impl_fired_c : CallsD Go.Proofs.Try.prog 73 impl_fired_F :=
  fn_contract (F := impl_fired_F) (C := impl_fired_orc) mix (chkTab_get tab_ok) (orc_cons impl_copyInts_c (orc_cons impl_fire_c orc_nil)) impl_fired_ann (fn := Go.Proofs.Try.f73) (by kernel_rfl) (by kernel_rfl) (by kernel_rfl) (by kernel_rfl) (by kernel_rfl) (fun x y h => (impl_fired_eq x).trans h)

def impl_FireScript_ins : List Item := [.agg 0 [.int .i64, .ro .ii], .t 1 (.ro (.int .i64)), .t 2 (.ro (.int .i64))]
def impl_FireScript_outs : List Item := [.t 500 (.own 3 (.int .i64)), .t 501 (.bool)]
def impl_FireScript_ann : List (Nat × List Item) := []
noncomputable def impl_FireScript : Int × (List (Int × Int)) × (List Int) × (List Int) × Unit → Option ((List Int) × Bool × Unit) := fun (t0_0, t0_1, t1, t2, _) =>
  Option.bind (impl_DivisorOk (t0_0, t0_1, t1, ())) fun (v1, _) => cond (!v1)
    (some (([] : List Int), false, ()))
    (Option.bind (impl_ScriptOk (t0_0, t0_1, t2, ())) fun (v2, _) => cond (!v2)
    (some (([] : List Int), false, ()))
    (Option.bind (impl_fired (t0_0, t0_1, t1, t2, ())) fun (v3, _) => some (v3, true, ())))
noncomputable def impl_FireScript_F : Fun := ⟨impl_FireScript_ins, [], impl_FireScript_outs, impl_FireScript⟩
noncomputable def impl_FireScript_orc : Orc := orcGet [(64, impl_DivisorOk_F), (72, impl_ScriptOk_F), (73, impl_fired_F)]
theorem impl_FireScript_eq (x : Den impl_FireScript_ins) : pmFn (tdGet tab) impl_FireScript_orc impl_FireScript_F.mn impl_FireScript_ann Go.Proofs.Try.f25 impl_FireScript_ins impl_FireScript_outs x = impl_FireScript x := by kernel_rfl
theorem impl_FireScript_c : CallsD Go.Proofs.Try.prog 25 impl_FireScript_F :=
  fn_contract (F := impl_FireScript_F) (C := impl_FireScript_orc) mix (chkTab_get tab_ok) (orc_cons impl_DivisorOk_c (orc_cons impl_ScriptOk_c (orc_cons impl_fired_c orc_nil))) impl_FireScript_ann (fn := Go.Proofs.Try.f25) (by kernel_rfl) (by kernel_rfl) (by kernel_rfl) (by kernel_rfl) (by kernel_rfl) (fun x y h => (impl_FireScript_eq x).trans h)

def impl_PushForward_ins : List Item := [.agg 0 [.int .i64, .ro .ii], .agg 1 [.int .i64, .ro .ii], .agg 2 [.ro (.int .i64), .ro (.int .i64)], .t 3 (.ro (.int .i64))]
def impl_PushForward_outs : List Item := [.t 500 (.own 3 (.int .i64)), .t 501 (.bool)]
def impl_PushForward_ann : List (Nat × List Item) := [(12, [.t 3 (.ro (.int .i64)), .t 5 (.ptr 5), .t 6 (.ptr 6), .t 23 (.bool), .box 5 29 [.int .i64, .ro .ii], .box 6 37 [.ro (.int .i64), .ro (.int .i64)]]),
  (122, [.t 6 (.ptr 6), .t 10 (.own 3 (.int .i64)), .t 27 (.ro (.int .i64)), .t 28 (.int .i64), .t 29 (.int .i64), .box 6 37 [.ro (.int .i64), .ro (.int .i64)]])]
noncomputable def impl_PushForward_L122 : (List Int) × (List Int) × Int × Int × (List Int) × (List Int) × Unit → Option (((List Int) × (List Int) × Int × Int × (List Int) × (List Int) × Unit) ⊕ ((List Int) × Bool × Unit)) := fun (t10, t27, t28, t29, b6_0, b6_1, _) =>
  cond (decide (t29 < t28))
    (chk (0 ≤ t29 ∧ t29 < ((t27).length : Int)) (chk (0 ≤ t29 ∧ t29 < ((b6_0).length : Int)) (chk (0 ≤ atD 0 b6_0 t29 ∧ atD 0 b6_0 t29 < ((t10).length : Int)) (chk (0 ≤ atD 0 b6_0 t29 ∧ atD 0 b6_0 t29 < ((t10).length : Int)) (some (.inl ((t10.set (atD 0 b6_0 t29 : Int).toNat (w64 (atD 0 t10 (atD 0 b6_0 t29) + atD 0 t27 t29))), t27, t28, (w64 (t29 + 1)), b6_0, b6_1, ())))))))
    (Option.map Sum.inr (some (t10, true, ())))
noncomputable def impl_PushForward_J12 : (List Int) × Bool × Int × (List (Int × Int)) × (List Int) × (List Int) × Unit → Option ((List Int) × Bool × Unit) := fun (t3, t23, b5_0, b5_1, b6_0, b6_1, _) =>
  cond t23
    (some (([] : List Int), false, ()))
    (chk (b5_0 = b5_0 ∧ 0 ≤ b5_0 ∧ b5_0 ≤ 17592186044416) (loopM impl_PushForward_L122 ((List.replicate (b5_0).toNat (0 : Int)), t3, ((t3).length : Int), 0, b6_0, b6_1, ())))
noncomputable def impl_PushForward : Int × (List (Int × Int)) × Int × (List (Int × Int)) × (List Int) × (List Int) × (List Int) × Unit → Option ((List Int) × Bool × Unit) := fun (t0_0, t0_1, t1_0, t1_1, t2_0, t2_1, t3, _) =>
  joinB (T := (List Int) × Bool × Int × (List (Int × Int)) × (List Int) × (List Int) × Unit) (R := (List Int) × Bool × Unit) (Option.bind (impl_IsHarmonic (t0_0, t0_1, t1_0, t1_1, t2_0, t2_1, ())) fun (v2, _) => cond (!v2)
    (some (.inl (t3, true, t1_0, t1_1, t2_0, t2_1, ())))
    (Option.bind (impl_DivisorOk (t0_0, t0_1, t3, ())) fun (v3, _) => some (.inl (t3, (!v3), t1_0, t1_1, t2_0, t2_1, ())))) impl_PushForward_J12
noncomputable def impl_PushForward_F : Fun := ⟨impl_PushForward_ins, [], impl_PushForward_outs, impl_PushForward⟩
noncomputable def impl_PushForward_orc : Orc := orcGet [(19, impl_IsHarmonic_F), (64, impl_DivisorOk_F)]
theorem impl_PushForward_eq (x : Den impl_PushForward_ins) : pmFn (tdGet tab) impl_PushForward_orc impl_PushForward_F.mn impl_PushForward_ann Go.Proofs.Try.f17 impl_PushForward_ins impl_PushForward_outs x = impl_PushForward x := by kernel_rfl
theorem impl_PushForward_c : CallsD Go.Proofs.Try.prog 17 impl_PushForward_F :=
  fn_contract (F := impl_PushForward_F) (C := impl_PushForward_orc) mix (chkTab_get tab_ok) (orc_cons impl_IsHarmonic_c (orc_cons impl_DivisorOk_c orc_nil)) impl_PushForward_ann (fn := Go.Proofs.Try.f17) (by kernel_rfl) (by kernel_rfl) (by kernel_rfl) (by kernel_rfl) (by kernel_rfl) (fun x y h => (impl_PushForward_eq x).trans h)

def impl_PullBack_ins : List Item := [.agg 0 [.int .i64, .ro .ii], .agg 1 [.int .i64, .ro .ii], .agg 2 [.ro (.int .i64), .ro (.int .i64)], .t 3 (.ro (.int .i64))]
def impl_PullBack_outs : List Item := [.t 500 (.own 3 (.int .i64)), .t 501 (.bool)]
def impl_PullBack_ann : List (Nat × List Item) := [(12, [.t 3 (.ro (.int .i64)), .t 4 (.ptr 4), .t 5 (.ptr 5), .t 6 (.ptr 6), .t 23 (.bool), .box 4 29 [.int .i64, .ro .ii], .box 5 29 [.int .i64, .ro .ii], .box 6 37 [.ro (.int .i64), .ro (.int .i64)]]),
  (122, [.t 3 (.ro (.int .i64)), .t 4 (.ptr 4), .t 5 (.ptr 5), .t 6 (.ptr 6), .t 10 (.own 3 (.int .i64)), .t 25 (.ro (.int .i64)), .t 26 (.int .i64), .t 27 (.int .i64), .box 4 29 [.int .i64, .ro .ii], .box 5 29 [.int .i64, .ro .ii], .box 6 37 [.ro (.int .i64), .ro (.int .i64)]])]
noncomputable def impl_PullBack_L122 : (List Int) × (List Int) × (List Int) × Int × Int × Int × (List (Int × Int)) × Int × (List (Int × Int)) × (List Int) × (List Int) × Unit → Option (((List Int) × (List Int) × (List Int) × Int × Int × Int × (List (Int × Int)) × Int × (List (Int × Int)) × (List Int) × (List Int) × Unit) ⊕ ((List Int) × Bool × Unit)) := fun (t3, t10, t25, t26, t27, b4_0, b4_1, b5_0, b5_1, b6_0, b6_1, _) =>
  cond (decide (t27 < t26))
    (chk (0 ≤ t27 ∧ t27 < ((t25).length : Int)) (Option.bind (impl_HorizontalOf (b4_0, b4_1, b5_0, b5_1, b6_0, b6_1, t27, ())) fun (v4, _) => chk (0 ≤ atD 0 t25 t27 ∧ atD 0 t25 t27 < ((t3).length : Int)) (chk ((t10).length + (([(w64 (v4 * atD 0 t3 (atD 0 t25 t27)))] : List Int)).length ≤ 17592186044416) (some (.inl (t3, (t10 ++ ([(w64 (v4 * atD 0 t3 (atD 0 t25 t27)))] : List Int)), t25, t26, (w64 (t27 + 1)), b4_0, b4_1, b5_0, b5_1, b6_0, b6_1, ()))))))
    (Option.map Sum.inr (some (t10, true, ())))
noncomputable def impl_PullBack_J12 : (List Int) × Bool × Int × (List (Int × Int)) × Int × (List (Int × Int)) × (List Int) × (List Int) × Unit → Option ((List Int) × Bool × Unit) := fun (t3, t23, b4_0, b4_1, b5_0, b5_1, b6_0, b6_1, _) =>
  cond t23
    (some (([] : List Int), false, ()))
    (loopM impl_PullBack_L122 (t3, ([] : List Int), b6_0, ((b6_0).length : Int), 0, b4_0, b4_1, b5_0, b5_1, b6_0, b6_1, ()))
noncomputable def impl_PullBack : Int × (List (Int × Int)) × Int × (List (Int × Int)) × (List Int) × (List Int) × (List Int) × Unit → Option ((List Int) × Bool × Unit) := fun (t0_0, t0_1, t1_0, t1_1, t2_0, t2_1, t3, _) =>
  joinB (T := (List Int) × Bool × Int × (List (Int × Int)) × Int × (List (Int × Int)) × (List Int) × (List Int) × Unit) (R := (List Int) × Bool × Unit) (Option.bind (impl_IsHarmonic (t0_0, t0_1, t1_0, t1_1, t2_0, t2_1, ())) fun (v2, _) => cond (!v2)
    (some (.inl (t3, true, t0_0, t0_1, t1_0, t1_1, t2_0, t2_1, ())))
    (Option.bind (impl_DivisorOk (t1_0, t1_1, t3, ())) fun (v3, _) => some (.inl (t3, (!v3), t0_0, t0_1, t1_0, t1_1, t2_0, t2_1, ())))) impl_PullBack_J12
noncomputable def impl_PullBack_F : Fun := ⟨impl_PullBack_ins, [], impl_PullBack_outs, impl_PullBack⟩
noncomputable def impl_PullBack_orc : Orc := orcGet [(19, impl_IsHarmonic_F), (24, impl_HorizontalOf_F), (64, impl_DivisorOk_F)]
theorem impl_PullBack_eq (x : Den impl_PullBack_ins) : pmFn (tdGet tab) impl_PullBack_orc impl_PullBack_F.mn impl_PullBack_ann Go.Proofs.Try.f18 impl_PullBack_ins impl_PullBack_outs x = impl_PullBack x := by kernel_rfl
theorem impl_PullBack_c : CallsD Go.Proofs.Try.prog 18 impl_PullBack_F :=
  fn_contract (F := impl_PullBack_F) (C := impl_PullBack_orc) mix (chkTab_get tab_ok) (orc_cons impl_IsHarmonic_c (orc_cons impl_HorizontalOf_c (orc_cons impl_DivisorOk_c orc_nil))) impl_PullBack_ann (fn := Go.Proofs.Try.f18) (by kernel_rfl) (by kernel_rfl) (by kernel_rfl) (by kernel_rfl) (by kernel_rfl) (fun x y h => (impl_PullBack_eq x).trans h)

def impl_isVertex_ins : List Item := [.agg 0 [.int .i64, .ro .ii], .t 1 (.int .i64)]
def impl_isVertex_outs : List Item := [.t 500 (.bool)]
def impl_isVertex_ann : List (Nat × List Item) := []
noncomputable def impl_isVertex : Int × (List (Int × Int)) × Int × Unit → Option (Bool × Unit) := fun (t0_0, t0_1, t1, _) =>
  Option.bind (impl_GraphOk (t0_0, t0_1, ())) fun (v1, _) => cond v1
    (Option.bind (impl_within (t1, 0, (w64 (t0_0 - 1)), ())) fun (v2, _) => some (v2, ()))
    (some (false, ()))
noncomputable def impl_isVertex_F : Fun := ⟨impl_isVertex_ins, [], impl_isVertex_outs, impl_isVertex⟩
noncomputable def impl_isVertex_orc : Orc := orcGet [(54, impl_GraphOk_F), (71, impl_within_F)]
theorem impl_isVertex_eq (x : Den impl_isVertex_ins) : pmFn (tdGet tab) impl_isVertex_orc impl_isVertex_F.mn impl_isVertex_ann Go.Proofs.Try.f83 impl_isVertex_ins impl_isVertex_outs x = impl_isVertex x := by kernel_rfl
theorem impl_isVertex_c : CallsD Go.Proofs.Try.prog 83 impl_isVertex_F :=
  fn_contract (F := impl_isVertex_F) (C := impl_isVertex_orc) mix (chkTab_get tab_ok) (orc_cons impl_GraphOk_c (orc_cons impl_within_c orc_nil)) impl_isVertex_ann (fn := Go.Proofs.Try.f83) (by kernel_rfl) (by kernel_rfl) (by kernel_rfl) (by kernel_rfl) (by kernel_rfl) (fun x y h => (impl_isVertex_eq x).trans h)

def impl_inDebt_ins : List Item := [.t 0 (.ro (.int .i64)), .t 1 (.int .i64)]
def impl_inDebt_outs : List Item := [.t 500 (.int .i64)]
def impl_inDebt_ann : List (Nat × List Item) := [(26, [.t 1 (.int .i64), .t 7 (.ro (.int .i64)), .t 8 (.int .i64), .t 9 (.int .i64)])]
noncomputable def impl_inDebt_L26 : Int × (List Int) × Int × Int × Unit → Option ((Int × (List Int) × Int × Int × Unit) ⊕ (Int × Unit)) := fun (t1, t7, t8, t9, _) =>
  cond (decide (t9 < t8))
    (chk (0 ≤ t9 ∧ t9 < ((t7).length : Int)) (cond (t9 != t1)
    (cond (decide (atD 0 t7 t9 < 0))
    (Option.map Sum.inr (some (t9, ())))
    (some (.inl (t1, t7, t8, (w64 (t9 + 1)), ()))))
    (some (.inl (t1, t7, t8, (w64 (t9 + 1)), ())))))
    (Option.map Sum.inr (some ((-1), ())))
noncomputable def impl_inDebt : (List Int) × Int × Unit → Option (Int × Unit) := fun (t0, t1, _) =>
  loopM impl_inDebt_L26 (t1, t0, ((t0).length : Int), 0, ())
noncomputable def impl_inDebt_F : Fun := ⟨impl_inDebt_ins, [], impl_inDebt_outs, impl_inDebt⟩
noncomputable def impl_inDebt_orc : Orc := orcGet []
theorem impl_inDebt_eq (x : Den impl_inDebt_ins) : pmFn (tdGet tab) impl_inDebt_orc impl_inDebt_F.mn impl_inDebt_ann Go.Proofs.Try.f155 impl_inDebt_ins impl_inDebt_outs x = impl_inDebt x := by kernel_rfl
theorem impl_inDebt_c : CallsD Go.Proofs.Try.prog 155 impl_inDebt_F :=
  fn_contract (F := impl_inDebt_F) (C := impl_inDebt_orc) mix (chkTab_get tab_ok) orc_nil impl_inDebt_ann (fn := Go.Proofs.Try.f155) (by kernel_rfl) (by kernel_rfl) (by kernel_rfl) (by kernel_rfl) (by kernel_rfl) (fun x y h => (impl_inDebt_eq x).trans h)

def impl_Valence_ins : List Item := [.agg 0 [.int .i64, .ro .ii], .t 1 (.int .i64)]
def impl_Valence_outs : List Item := [.t 500 (.int .i64)]
def impl_Valence_ann : List (Nat × List Item) := [(12, [.t 1 (.int .i64), .t 2 (.ptr 2), .t 15 (.bool), .box 2 29 [.int .i64, .ro .ii]]),
  (122, [.t 1 (.int .i64), .t 5 (.int .i64), .t 17 (.ro .ii), .t 18 (.int .i64), .t 19 (.int .i64)])]
noncomputable def impl_Valence_L122 : Int × Int × (List (Int × Int)) × Int × Int × Unit → Option ((Int × Int × (List (Int × Int)) × Int × Int × Unit) ⊕ (Int × Unit)) := fun (t1, t5, t17, t18, t19, _) =>
  cond (decide (t19 < t18))
    (chk (0 ≤ t19 ∧ t19 < ((t17).length : Int)) (cond ((atD (0, 0) t17 t19).1 == t1)
    (some (.inl (t1, (w64 (t5 + 1)), t17, t18, (w64 (t19 + 1)), ())))
    (cond ((atD (0, 0) t17 t19).2 == t1)
    (some (.inl (t1, (w64 (t5 + 1)), t17, t18, (w64 (t19 + 1)), ())))
    (some (.inl (t1, t5, t17, t18, (w64 (t19 + 1)), ()))))))
    (Option.map Sum.inr (some (t5, ())))
noncomputable def impl_Valence_J12 : Int × Bool × Int × (List (Int × Int)) × Unit → Option (Int × Unit) := fun (t1, t15, b2_0, b2_1, _) =>
  cond t15
    (some (0, ()))
    (loopM impl_Valence_L122 (t1, 0, b2_1, ((b2_1).length : Int), 0, ()))
noncomputable def impl_Valence : Int × (List (Int × Int)) × Int × Unit → Option (Int × Unit) := fun (t0_0, t0_1, t1, _) =>
  joinB (T := Int × Bool × Int × (List (Int × Int)) × Unit) (R := Int × Unit) (cond (decide (t1 < 0))
    (some (.inl (t1, true, t0_0, t0_1, ())))
    (some (.inl (t1, (decide (t1 ≥ t0_0)), t0_0, t0_1, ())))) impl_Valence_J12
noncomputable def impl_Valence_F : Fun := ⟨impl_Valence_ins, [], impl_Valence_outs, impl_Valence⟩
noncomputable def impl_Valence_orc : Orc := orcGet []
theorem impl_Valence_eq (x : Den impl_Valence_ins) : pmFn (tdGet tab) impl_Valence_orc impl_Valence_F.mn impl_Valence_ann Go.Proofs.Try.f136 impl_Valence_ins impl_Valence_outs x = impl_Valence x := by kernel_rfl
theorem impl_Valence_c : CallsD Go.Proofs.Try.prog 136 impl_Valence_F :=
  fn_contract (F := impl_Valence_F) (C := impl_Valence_orc) mix (chkTab_get tab_ok) orc_nil impl_Valence_ann (fn := Go.Proofs.Try.f136) (by kernel_rfl) (by kernel_rfl) (by kernel_rfl) (by kernel_rfl) (by kernel_rfl) (fun x y h => (impl_Valence_eq x).trans h)

def impl_Multiplicity_ins : List Item := [.agg 0 [.int .i64, .ro .ii], .t 1 (.int .i64), .t 2 (.int .i64)]
def impl_Multiplicity_outs : List Item := [.t 500 (.int .i64)]
def impl_Multiplicity_ann : List (Nat × List Item) := [(12, [.t 1 (.int .i64), .t 2 (.int .i64), .t 3 (.ptr 3), .t 26 (.bool), .box 3 29 [.int .i64, .ro .ii]]),
  (122, [.t 1 (.int .i64), .t 2 (.int .i64), .t 7 (.int .i64), .t 28 (.ro .ii), .t 29 (.int .i64), .t 30 (.int .i64)])]
noncomputable def impl_Multiplicity_L122 : Int × Int × Int × (List (Int × Int)) × Int × Int × Unit → Option ((Int × Int × Int × (List (Int × Int)) × Int × Int × Unit) ⊕ (Int × Unit)) := fun (t1, t2, t7, t28, t29, t30, _) =>
  cond (decide (t30 < t29))
    (chk (0 ≤ t30 ∧ t30 < ((t28).length : Int)) (cond ((atD (0, 0) t28 t30).1 == (min2 t1 t2))
    (cond ((atD (0, 0) t28 t30).2 == (max2 t1 t2))
    (some (.inl (t1, t2, (w64 (t7 + 1)), t28, t29, (w64 (t30 + 1)), ())))
    (some (.inl (t1, t2, t7, t28, t29, (w64 (t30 + 1)), ()))))
    (some (.inl (t1, t2, t7, t28, t29, (w64 (t30 + 1)), ())))))
    (Option.map Sum.inr (some (t7, ())))
noncomputable def impl_Multiplicity_J12 : Int × Int × Bool × Int × (List (Int × Int)) × Unit → Option (Int × Unit) := fun (t1, t2, t26, b3_0, b3_1, _) =>
  cond t26
    (some (0, ()))
    (loopM impl_Multiplicity_L122 (t1, t2, 0, b3_1, ((b3_1).length : Int), 0, ()))
noncomputable def impl_Multiplicity : Int × (List (Int × Int)) × Int × Int × Unit → Option (Int × Unit) := fun (t0_0, t0_1, t1, t2, _) =>
  joinB (T := Int × Int × Bool × Int × (List (Int × Int)) × Unit) (R := Int × Unit) (cond (decide ((min2 t1 t2) < 0))
    (some (.inl (t1, t2, true, t0_0, t0_1, ())))
    (cond (decide ((max2 t1 t2) ≥ t0_0))
    (some (.inl (t1, t2, true, t0_0, t0_1, ())))
    (some (.inl (t1, t2, (t1 == t2), t0_0, t0_1, ()))))) impl_Multiplicity_J12
noncomputable def impl_Multiplicity_F : Fun := ⟨impl_Multiplicity_ins, [], impl_Multiplicity_outs, impl_Multiplicity⟩
noncomputable def impl_Multiplicity_orc : Orc := orcGet []
theorem impl_Multiplicity_eq (x : Den impl_Multiplicity_ins) : pmFn (tdGet tab) impl_Multiplicity_orc impl_Multiplicity_F.mn impl_Multiplicity_ann Go.Proofs.Try.f166 impl_Multiplicity_ins impl_Multiplicity_outs x = impl_Multiplicity x := by kernel_rfl
theorem impl_Multiplicity_c : CallsD Go.Proofs.Try.prog 166 impl_Multiplicity_F :=
  fn_contract (F := impl_Multiplicity_F) (C := impl_Multiplicity_orc) mix (chkTab_get tab_ok) orc_nil impl_Multiplicity_ann (fn := Go.Proofs.Try.f166) (by kernel_rfl) (by kernel_rfl) (by kernel_rfl) (by kernel_rfl) (by kernel_rfl) (fun x y h => (impl_Multiplicity_eq x).trans h)

def slices_Index_int_int_ins : List Item := [.t 0 (.ro (.int .i64)), .t 1 (.int .i64)]
def slices_Index_int_int_outs : List Item := [.t 500 (.int .i64)]
def slices_Index_int_int_ann : List (Nat × List Item) := [(26, [.t 0 (.ro (.int .i64)), .t 1 (.int .i64), .t 7 (.int .i64), .t 8 (.int .i64)])]
noncomputable def slices_Index_int_int_L26 : (List Int) × Int × Int × Int × Unit → Option (((List Int) × Int × Int × Int × Unit) ⊕ (Int × Unit)) := fun (t0, t1, t7, t8, _) =>
  cond (decide (t8 < t7))
    (chk (0 ≤ t8 ∧ t8 < ((t0).length : Int)) (cond (t1 == atD 0 t0 t8)
    (Option.map Sum.inr (some (t8, ())))
    (some (.inl (t0, t1, t7, (w64 (t8 + 1)), ())))))
    (Option.map Sum.inr (some ((-1), ())))
noncomputable def slices_Index_int_int : (List Int) × Int × Unit → Option (Int × Unit) := fun (t0, t1, _) =>
  loopM slices_Index_int_int_L26 (t0, t1, ((t0).length : Int), 0, ())
noncomputable def slices_Index_int_int_F : Fun := ⟨slices_Index_int_int_ins, [], slices_Index_int_int_outs, slices_Index_int_int⟩
noncomputable def slices_Index_int_int_orc : Orc := orcGet []
theorem slices_Index_int_int_eq (x : Den slices_Index_int_int_ins) : pmFn (tdGet tab) slices_Index_int_int_orc slices_Index_int_int_F.mn slices_Index_int_int_ann Go.Proofs.Try.f118 slices_Index_int_int_ins slices_Index_int_int_outs x = slices_Index_int_int x := by kernel_rfl
theorem slices_Index_int_int_c : CallsD Go.Proofs.Try.prog 118 slices_Index_int_int_F :=
  fn_contract (F := slices_Index_int_int_F) (C := slices_Index_int_int_orc) mix (chkTab_get tab_ok) orc_nil slices_Index_int_int_ann (fn := Go.Proofs.Try.f118) (by kernel_rfl) (by kernel_rfl) (by kernel_rfl) (by kernel_rfl) (by kernel_rfl) (fun x y h => (slices_Index_int_int_eq x).trans h)

def slices_Contains_int_int_ins : List Item := [.t 0 (.ro (.int .i64)), .t 1 (.int .i64)]
def slices_Contains_int_int_outs : List Item := [.t 500 (.bool)]
def slices_Contains_int_int_ann : List (Nat × List Item) := []
noncomputable def slices_Contains_int_int : (List Int) × Int × Unit → Option (Bool × Unit) := fun (t0, t1, _) =>
  Option.bind (slices_Index_int_int (t0, t1, ())) fun (v1, _) => some ((decide (v1 ≥ 0)), ())
noncomputable def slices_Contains_int_int_F : Fun := ⟨slices_Contains_int_int_ins, [], slices_Contains_int_int_outs, slices_Contains_int_int⟩
noncomputable def slices_Contains_int_int_orc : Orc := orcGet [(118, slices_Index_int_int_F)]
theorem slices_Contains_int_int_eq (x : Den slices_Contains_int_int_ins) : pmFn (tdGet tab) slices_Contains_int_int_orc slices_Contains_int_int_F.mn slices_Contains_int_int_ann Go.Proofs.Try.f82 slices_Contains_int_int_ins slices_Contains_int_int_outs x = slices_Contains_int_int x := by kernel_rfl
theorem slices_Contains_int_int_c : CallsD Go.Proofs.Try.prog 82 slices_Contains_int_int_F :=
  fn_contract (F := slices_Contains_int_int_F) (C := slices_Contains_int_int_orc) mix (chkTab_get tab_ok) (orc_cons slices_Index_int_int_c orc_nil) slices_Contains_int_int_ann (fn := Go.Proofs.Try.f82) (by kernel_rfl) (by kernel_rfl) (by kernel_rfl) (by kernel_rfl) (by kernel_rfl) (fun x y h => (slices_Contains_int_int_eq x).trans h)

def impl_burn_ins : List Item := [.agg 0 [.int .i64, .ro .ii], .t 1 (.ro (.int .i64)), .t 2 (.int .i64)]
def impl_burn_outs : List Item := [.t 500 (.own 3 (.int .i64))]
def impl_burn_ann : List (Nat × List Item) := [(14, [.t 1 (.ro (.int .i64)), .t 3 (.ptr 3), .t 7 (.own 3 (.int .i64)), .box 3 29 [.int .i64, .ro .ii]]),
  (906, [.t 1 (.ro (.int .i64)), .t 3 (.ptr 3), .t 7 (.own 3 (.int .i64)), .t 8 (.int .i64), .t 9 (.int .i64), .box 3 29 [.int .i64, .ro .ii]]),
  (7248, [.t 1 (.ro (.int .i64)), .t 3 (.ptr 3), .t 7 (.own 3 (.int .i64)), .t 8 (.int .i64), .t 9 (.int .i64), .t 22 (.bool), .box 3 29 [.int .i64, .ro .ii]]),
  (116005, [.t 1 (.ro (.int .i64)), .t 3 (.ptr 3), .t 7 (.own 3 (.int .i64)), .t 8 (.int .i64), .t 9 (.int .i64), .t 10 (.int .i64), .box 3 29 [.int .i64, .ro .ii]]),
  (232010, [.t 1 (.ro (.int .i64)), .t 3 (.ptr 3), .t 7 (.own 3 (.int .i64)), .t 8 (.int .i64), .t 9 (.int .i64), .t 10 (.int .i64), .t 25 (.al 7), .t 26 (.int .i64), .t 27 (.int .i64), .box 3 29 [.int .i64, .ro .ii]])]
noncomputable def impl_burn_L232010 : (List Int) × (List Int) × Int × Int × Int × Int × Int × Int × (List (Int × Int)) × Unit → Option (((List Int) × (List Int) × Int × Int × Int × Int × Int × Int × (List (Int × Int)) × Unit) ⊕ ((((List Int) × (List Int) × Int × Int × Int × Int × (List (Int × Int)) × Unit) ⊕ (((List Int) × (List Int) × Int × Int × Int × (List (Int × Int)) × Unit) ⊕ (((List Int) × (List Int) × Int × (List (Int × Int)) × Unit) ⊕ (List Int) × Unit))))) := fun (t1, t7, t8, t9, t10, t26, t27, b3_0, b3_1, _) =>
  cond (decide (t27 < t26))
    (chk (0 ≤ t27 ∧ t27 < ((t7).length : Int)) (Option.bind (impl_Multiplicity (b3_0, b3_1, t9, atD 0 t7 t27, ())) fun (v8, _) => some (.inl (t1, t7, t8, t9, (w64 (t10 + v8)), t26, (w64 (t27 + 1)), b3_0, b3_1, ()))))
    (Option.map Sum.inr (some (.inl (t1, t7, t8, t9, t10, b3_0, b3_1, ()))))
noncomputable def impl_burn_J116005 : (List Int) × (List Int) × Int × Int × Int × Int × (List (Int × Int)) × Unit → Option ((((List Int) × (List Int) × Int × Int × Int × (List (Int × Int)) × Unit) ⊕ (((List Int) × (List Int) × Int × (List (Int × Int)) × Unit) ⊕ (List Int) × Unit))) := fun (t1, t7, t8, t9, t10, b3_0, b3_1, _) =>
  Option.bind (slices_Contains_int_int (t7, t9, ())) fun (v9, _) => cond (!v9)
    (chk (0 ≤ t9 ∧ t9 < ((t1).length : Int)) (cond (decide (atD 0 t1 t9 < t10))
    (some (.inl (t1, t7, t9, (w64 (t9 + 1)), b3_0, b3_1, ())))
    (some (.inl (t1, t7, t8, (w64 (t9 + 1)), b3_0, b3_1, ())))))
    (some (.inl (t1, t7, t8, (w64 (t9 + 1)), b3_0, b3_1, ())))
noncomputable def impl_burn_J7248 : (List Int) × (List Int) × Int × Int × Bool × Int × (List (Int × Int)) × Unit → Option ((((List Int) × (List Int) × Int × Int × Int × (List (Int × Int)) × Unit) ⊕ (((List Int) × (List Int) × Int × (List (Int × Int)) × Unit) ⊕ (List Int) × Unit))) := fun (t1, t7, t8, t9, t22, b3_0, b3_1, _) =>
  cond t22
    (joinB (T := (List Int) × (List Int) × Int × Int × Int × Int × (List (Int × Int)) × Unit) (R := (((List Int) × (List Int) × Int × Int × Int × (List (Int × Int)) × Unit) ⊕ (((List Int) × (List Int) × Int × (List (Int × Int)) × Unit) ⊕ (List Int) × Unit))) (loopM impl_burn_L232010 (t1, t7, t8, t9, 0, ((t7).length : Int), 0, b3_0, b3_1, ())) impl_burn_J116005)
    (Option.map Sum.inr (cond (decide (t8 < 0))
    (Option.map Sum.inr (some (t7, ())))
    (chk ((t7).length + (([t8] : List Int)).length ≤ 17592186044416) (some (.inl (t1, (t7 ++ ([t8] : List Int)), b3_0, b3_1, ()))))))
noncomputable def impl_burn_L906 : (List Int) × (List Int) × Int × Int × Int × (List (Int × Int)) × Unit → Option (((List Int) × (List Int) × Int × Int × Int × (List (Int × Int)) × Unit) ⊕ ((((List Int) × (List Int) × Int × (List (Int × Int)) × Unit) ⊕ (List Int) × Unit))) := fun (t1, t7, t8, t9, b3_0, b3_1, _) =>
  joinB (T := (List Int) × (List Int) × Int × Int × Bool × Int × (List (Int × Int)) × Unit) (R := (((List Int) × (List Int) × Int × Int × Int × (List (Int × Int)) × Unit) ⊕ (((List Int) × (List Int) × Int × (List (Int × Int)) × Unit) ⊕ (List Int) × Unit))) (cond (decide (t9 < b3_0))
    (some (.inl (t1, t7, t8, t9, (decide (t8 < 0)), b3_0, b3_1, ())))
    (some (.inl (t1, t7, t8, t9, false, b3_0, b3_1, ())))) impl_burn_J7248
noncomputable def impl_burn_L14 : (List Int) × (List Int) × Int × (List (Int × Int)) × Unit → Option (((List Int) × (List Int) × Int × (List (Int × Int)) × Unit) ⊕ ((List Int) × Unit)) := fun (t1, t7, b3_0, b3_1, _) =>
  loopM impl_burn_L906 (t1, t7, (-1), 0, b3_0, b3_1, ())
noncomputable def impl_burn : Int × (List (Int × Int)) × (List Int) × Int × Unit → Option ((List Int) × Unit) := fun (t0_0, t0_1, t1, t2, _) =>
  loopM impl_burn_L14 (t1, ([t2] : List Int), t0_0, t0_1, ())
noncomputable def impl_burn_F : Fun := ⟨impl_burn_ins, [], impl_burn_outs, impl_burn⟩
noncomputable def impl_burn_orc : Orc := orcGet [(82, slices_Contains_int_int_F), (166, impl_Multiplicity_F)]
theorem impl_burn_eq (x : Den impl_burn_ins) : pmFn (tdGet tab) impl_burn_orc impl_burn_F.mn impl_burn_ann Go.Proofs.Try.f156 impl_burn_ins impl_burn_outs x = impl_burn x := by kernel_rfl
theorem impl_burn_c : CallsD Go.Proofs.Try.prog 156 impl_burn_F :=
  fn_contract (F := impl_burn_F) (C := impl_burn_orc) mix (chkTab_get tab_ok) (orc_cons slices_Contains_int_int_c (orc_cons impl_Multiplicity_c orc_nil)) impl_burn_ann (fn := Go.Proofs.Try.f156) (by kernel_rfl) (by kernel_rfl) (by kernel_rfl) (by kernel_rfl) (by kernel_rfl) (fun x y h => (impl_burn_eq x).trans h)

def impl_reduce_ins : List Item := [.agg 0 [.int .i64, .ro .ii], .t 1 (.ro (.int .i64)), .t 2 (.int .i64)]
def impl_reduce_outs : List Item := [.t 500 (.own 3 (.int .i64)), .t 501 (.own 3 (.int .i64))]
def impl_reduce_ann : List (Nat × List Item) := [(61, [.t 2 (.int .i64), .t 3 (.ptr 3), .t 8 (.own 3 (.int .i64)), .t 9 (.own 3 (.int .i64)), .box 3 29 [.int .i64, .ro .ii]]),
  (62, [.t 2 (.int .i64), .t 3 (.ptr 3), .t 8 (.own 3 (.int .i64)), .t 9 (.own 3 (.int .i64)), .box 3 29 [.int .i64, .ro .ii]]),
  (122, [.t 2 (.int .i64), .t 3 (.ptr 3), .t 8 (.own 3 (.int .i64)), .t 9 (.own 3 (.int .i64)), .t 10 (.int .i64), .box 3 29 [.int .i64, .ro .ii]]),
  (3982, [.t 2 (.int .i64), .t 3 (.ptr 3), .t 8 (.own 3 (.int .i64)), .t 9 (.own 3 (.int .i64)), .t 13 (.own 3 (.int .i64)), .t 65 (.int .i64), .t 66 (.int .i64), .box 3 29 [.int .i64, .ro .ii]])]
noncomputable def impl_reduce_L122 : Int × (List Int) × (List Int) × Int × Int × (List (Int × Int)) × Unit → Option ((Int × (List Int) × (List Int) × Int × Int × (List (Int × Int)) × Unit) ⊕ (((Int × (List Int) × (List Int) × Int × (List (Int × Int)) × Unit) ⊕ (List Int) × (List Int) × Unit))) := fun (t2, t8, t9, t10, b3_0, b3_1, _) =>
  cond (decide (t10 ≥ 0))
    (Option.bind (impl_Valence (b3_0, b3_1, t10, ())) fun (v4, _) => chk (0 ≤ t10 ∧ t10 < ((t8).length : Int)) (chk (v4 ≠ 0) (Option.bind (impl_fire (b3_0, b3_1, t8, t10, (w64 (0 - (w64 ((w64 ((w64 (v4 - 1)) - atD 0 t8 t10)).tdiv v4)))), ())) fun (v5, _) => chk (0 ≤ t10 ∧ t10 < ((t9).length : Int)) (chk (0 ≤ t10 ∧ t10 < ((t9).length : Int)) (Option.bind (impl_inDebt (v5, t2, ())) fun (v6, _) => some (.inl (t2, v5, (t9.set (t10 : Int).toNat (w64 (atD 0 t9 t10 - (w64 ((w64 ((w64 (v4 - 1)) - atD 0 t8 t10)).tdiv v4))))), v6, b3_0, b3_1, ())))))))
    (Option.map Sum.inr (some (.inl (t2, t8, t9, b3_0, b3_1, ()))))
noncomputable def impl_reduce_L3982 : Int × (List Int) × (List Int) × (List Int) × Int × Int × Int × (List (Int × Int)) × Unit → Option ((Int × (List Int) × (List Int) × (List Int) × Int × Int × Int × (List (Int × Int)) × Unit) ⊕ (((Int × (List Int) × (List Int) × Int × (List (Int × Int)) × Unit) ⊕ (List Int) × (List Int) × Unit))) := fun (t2, t8, t9, t13, t65, t66, b3_0, b3_1, _) =>
  cond (decide (t66 < t65))
    (Option.bind (slices_Contains_int_int (t13, t66, ())) fun (v12, _) => cond (!v12)
    (Option.bind (impl_fire (b3_0, b3_1, t8, t66, 1, ())) fun (v13, _) => chk (0 ≤ t66 ∧ t66 < ((t9).length : Int)) (chk (0 ≤ t66 ∧ t66 < ((t9).length : Int)) (some (.inl (t2, v13, (t9.set (t66 : Int).toNat (w64 (atD 0 t9 t66 + 1))), t13, t65, (w64 (t66 + 1)), b3_0, b3_1, ())))))
    (some (.inl (t2, t8, t9, t13, t65, (w64 (t66 + 1)), b3_0, b3_1, ()))))
    (Option.map Sum.inr (some (.inl (t2, t8, t9, b3_0, b3_1, ()))))
noncomputable def impl_reduce_L62 : Int × (List Int) × (List Int) × Int × (List (Int × Int)) × Unit → Option ((Int × (List Int) × (List Int) × Int × (List (Int × Int)) × Unit) ⊕ ((List Int) × (List Int) × Unit)) := fun (t2, t8, t9, b3_0, b3_1, _) =>
  Option.bind (impl_burn (b3_0, b3_1, t8, t2, ())) fun (v11, _) => cond (((v11).length : Int) == b3_0)
    (Option.map Sum.inr (some (t8, t9, ())))
    (loopM impl_reduce_L3982 (t2, t8, t9, v11, ((t9).length : Int), 0, b3_0, b3_1, ()))
noncomputable def impl_reduce_J61 : Int × (List Int) × (List Int) × Int × (List (Int × Int)) × Unit → Option ((List Int) × (List Int) × Unit) := fun (t2, t8, t9, b3_0, b3_1, _) =>
  loopM impl_reduce_L62 (t2, t8, t9, b3_0, b3_1, ())
noncomputable def impl_reduce : Int × (List (Int × Int)) × (List Int) × Int × Unit → Option ((List Int) × (List Int) × Unit) := fun (t0_0, t0_1, t1, t2, _) =>
  Option.bind (impl_copyInts (t1, ())) fun (v1, _) => chk (t0_0 = t0_0 ∧ 0 ≤ t0_0 ∧ t0_0 ≤ 17592186044416) (Option.bind (impl_inDebt (v1, t2, ())) fun (v2, _) => joinB (T := Int × (List Int) × (List Int) × Int × (List (Int × Int)) × Unit) (R := (List Int) × (List Int) × Unit) (loopM impl_reduce_L122 (t2, v1, (List.replicate (t0_0).toNat (0 : Int)), v2, t0_0, t0_1, ())) impl_reduce_J61)
noncomputable def impl_reduce_F : Fun := ⟨impl_reduce_ins, [], impl_reduce_outs, impl_reduce⟩
noncomputable def impl_reduce_orc : Orc := orcGet [(82, slices_Contains_int_int_F), (85, impl_copyInts_F), (112, impl_fire_F), (136, impl_Valence_F), (155, impl_inDebt_F), (156, impl_burn_F)]
theorem impl_reduce_eq (x : Den impl_reduce_ins) : pmFn (tdGet tab) impl_reduce_orc impl_reduce_F.mn impl_reduce_ann Go.Proofs.Try.f132 impl_reduce_ins impl_reduce_outs x = impl_reduce x := by kernel_rfl
theorem impl_reduce_c : CallsD Go.Proofs.Try.prog 132 impl_reduce_F :=
  fn_contract (F := impl_reduce_F) (C := impl_reduce_orc) mix (chkTab_get tab_ok) (orc_cons slices_Contains_int_int_c (orc_cons impl_copyInts_c (orc_cons impl_fire_c (orc_cons impl_Valence_c (orc_cons impl_inDebt_c (orc_cons impl_burn_c orc_nil)))))) impl_reduce_ann (fn := Go.Proofs.Try.f132) (by kernel_rfl) (by kernel_rfl) (by kernel_rfl) (by kernel_rfl) (by kernel_rfl) (fun x y h => (impl_reduce_eq x).trans h)

def impl_ReducedOf_ins : List Item := [.agg 0 [.int .i64, .ro .ii], .t 1 (.ro (.int .i64)), .t 2 (.int .i64)]
def impl_ReducedOf_outs : List Item := [.t 500 (.own 3 (.int .i64)), .t 501 (.bool)]
def impl_ReducedOf_ann : List (Nat × List Item) := []
noncomputable def impl_ReducedOf : Int × (List (Int × Int)) × (List Int) × Int × Unit → Option ((List Int) × Bool × Unit) := fun (t0_0, t0_1, t1, t2, _) =>
  Option.bind (impl_DivisorOk (t0_0, t0_1, t1, ())) fun (v1, _) => cond (!v1)
    (some (([] : List Int), false, ()))
    (Option.bind (impl_isVertex (t0_0, t0_1, t2, ())) fun (v2, _) => cond (!v2)
    (some (([] : List Int), false, ()))
    (Option.bind (impl_reduce (t0_0, t0_1, t1, t2, ())) fun (v3, v4, _) => some (v3, true, ())))
noncomputable def impl_ReducedOf_F : Fun := ⟨impl_ReducedOf_ins, [], impl_ReducedOf_outs, impl_ReducedOf⟩
noncomputable def impl_ReducedOf_orc : Orc := orcGet [(64, impl_DivisorOk_F), (83, impl_isVertex_F), (132, impl_reduce_F)]
theorem impl_ReducedOf_eq (x : Den impl_ReducedOf_ins) : pmFn (tdGet tab) impl_ReducedOf_orc impl_ReducedOf_F.mn impl_ReducedOf_ann Go.Proofs.Try.f113 impl_ReducedOf_ins impl_ReducedOf_outs x = impl_ReducedOf x := by kernel_rfl
theorem impl_ReducedOf_c : CallsD Go.Proofs.Try.prog 113 impl_ReducedOf_F :=
  fn_contract (F := impl_ReducedOf_F) (C := impl_ReducedOf_orc) mix (chkTab_get tab_ok) (orc_cons impl_DivisorOk_c (orc_cons impl_isVertex_c (orc_cons impl_reduce_c orc_nil))) impl_ReducedOf_ann (fn := Go.Proofs.Try.f113) (by kernel_rfl) (by kernel_rfl) (by kernel_rfl) (by kernel_rfl) (by kernel_rfl) (fun x y h => (impl_ReducedOf_eq x).trans h)

def impl_RepresentativeOf_ins : List Item := [.agg 0 [.int .i64, .ro .ii], .t 1 (.ro (.int .i64))]
def impl_RepresentativeOf_outs : List Item := [.t 500 (.own 3 (.int .i64)), .t 501 (.bool)]
def impl_RepresentativeOf_ann : List (Nat × List Item) := []
noncomputable def impl_RepresentativeOf : Int × (List (Int × Int)) × (List Int) × Unit → Option ((List Int) × Bool × Unit) := fun (t0_0, t0_1, t1, _) =>
  Option.bind (impl_ReducedOf (t0_0, t0_1, t1, 0, ())) fun (v1, v2, _) => some (v1, v2, ())
noncomputable def impl_RepresentativeOf_F : Fun := ⟨impl_RepresentativeOf_ins, [], impl_RepresentativeOf_outs, impl_RepresentativeOf⟩
noncomputable def impl_RepresentativeOf_orc : Orc := orcGet [(113, impl_ReducedOf_F)]
theorem impl_RepresentativeOf_eq (x : Den impl_RepresentativeOf_ins) : pmFn (tdGet tab) impl_RepresentativeOf_orc impl_RepresentativeOf_F.mn impl_RepresentativeOf_ann Go.Proofs.Try.f75 impl_RepresentativeOf_ins impl_RepresentativeOf_outs x = impl_RepresentativeOf x := by kernel_rfl
theorem impl_RepresentativeOf_c : CallsD Go.Proofs.Try.prog 75 impl_RepresentativeOf_F :=
  fn_contract (F := impl_RepresentativeOf_F) (C := impl_RepresentativeOf_orc) mix (chkTab_get tab_ok) (orc_cons impl_ReducedOf_c orc_nil) impl_RepresentativeOf_ann (fn := Go.Proofs.Try.f75) (by kernel_rfl) (by kernel_rfl) (by kernel_rfl) (by kernel_rfl) (by kernel_rfl) (fun x y h => (impl_RepresentativeOf_eq x).trans h)

def slices_Equal_int_int_ins : List Item := [.t 0 (.ro (.int .i64)), .t 1 (.ro (.int .i64))]
def slices_Equal_int_int_outs : List Item := [.t 500 (.bool)]
def slices_Equal_int_int_ann : List (Nat × List Item) := [(58, [.t 0 (.ro (.int .i64)), .t 1 (.ro (.int .i64)), .t 12 (.int .i64), .t 13 (.int .i64)])]
noncomputable def slices_Equal_int_int_L58 : (List Int) × (List Int) × Int × Int × Unit → Option (((List Int) × (List Int) × Int × Int × Unit) ⊕ (Bool × Unit)) := fun (t0, t1, t12, t13, _) =>
  cond (decide (t13 < t12))
    (chk (0 ≤ t13 ∧ t13 < ((t0).length : Int)) (chk (0 ≤ t13 ∧ t13 < ((t1).length : Int)) (cond (atD 0 t0 t13 != atD 0 t1 t13)
    (Option.map Sum.inr (some (false, ())))
    (some (.inl (t0, t1, t12, (w64 (t13 + 1)), ()))))))
    (Option.map Sum.inr (some (true, ())))
noncomputable def slices_Equal_int_int : (List Int) × (List Int) × Unit → Option (Bool × Unit) := fun (t0, t1, _) =>
  cond (((t0).length : Int) != ((t1).length : Int))
    (some (false, ()))
    (loopM slices_Equal_int_int_L58 (t0, t1, ((t0).length : Int), 0, ()))
noncomputable def slices_Equal_int_int_F : Fun := ⟨slices_Equal_int_int_ins, [], slices_Equal_int_int_outs, slices_Equal_int_int⟩
noncomputable def slices_Equal_int_int_orc : Orc := orcGet []
theorem slices_Equal_int_int_eq (x : Den slices_Equal_int_int_ins) : pmFn (tdGet tab) slices_Equal_int_int_orc slices_Equal_int_int_F.mn slices_Equal_int_int_ann Go.Proofs.Try.f114 slices_Equal_int_int_ins slices_Equal_int_int_outs x = slices_Equal_int_int x := by kernel_rfl
theorem slices_Equal_int_int_c : CallsD Go.Proofs.Try.prog 114 slices_Equal_int_int_F :=
  fn_contract (F := slices_Equal_int_int_F) (C := slices_Equal_int_int_orc) mix (chkTab_get tab_ok) orc_nil slices_Equal_int_int_ann (fn := Go.Proofs.Try.f114) (by kernel_rfl) (by kernel_rfl) (by kernel_rfl) (by kernel_rfl) (by kernel_rfl) (fun x y h => (slices_Equal_int_int_eq x).trans h)

def impl_SameDivisor_ins : List Item := [.t 0 (.ro (.int .i64)), .t 1 (.ro (.int .i64))]
def impl_SameDivisor_outs : List Item := [.t 500 (.bool)]
def impl_SameDivisor_ann : List (Nat × List Item) := []
noncomputable def impl_SameDivisor : (List Int) × (List Int) × Unit → Option (Bool × Unit) := fun (t0, t1, _) =>
  Option.bind (slices_Equal_int_int (t0, t1, ())) fun (v1, _) => some (v1, ())
noncomputable def impl_SameDivisor_F : Fun := ⟨impl_SameDivisor_ins, [], impl_SameDivisor_outs, impl_SameDivisor⟩
noncomputable def impl_SameDivisor_orc : Orc := orcGet [(114, slices_Equal_int_int_F)]
theorem impl_SameDivisor_eq (x : Den impl_SameDivisor_ins) : pmFn (tdGet tab) impl_SameDivisor_orc impl_SameDivisor_F.mn impl_SameDivisor_ann Go.Proofs.Try.f76 impl_SameDivisor_ins impl_SameDivisor_outs x = impl_SameDivisor x := by kernel_rfl
theorem impl_SameDivisor_c : CallsD Go.Proofs.Try.prog 76 impl_SameDivisor_F :=
  fn_contract (F := impl_SameDivisor_F) (C := impl_SameDivisor_orc) mix (chkTab_get tab_ok) (orc_cons slices_Equal_int_int_c orc_nil) impl_SameDivisor_ann (fn := Go.Proofs.Try.f76) (by kernel_rfl) (by kernel_rfl) (by kernel_rfl) (by kernel_rfl) (by kernel_rfl) (fun x y h => (impl_SameDivisor_eq x).trans h)

def impl_AreEquivalent_ins : List Item := [.agg 0 [.int .i64, .ro .ii], .t 1 (.ro (.int .i64)), .t 2 (.ro (.int .i64))]
def impl_AreEquivalent_outs : List Item := [.t 500 (.bool)]
def impl_AreEquivalent_ann : List (Nat × List Item) := []
noncomputable def impl_AreEquivalent : Int × (List (Int × Int)) × (List Int) × (List Int) × Unit → Option (Bool × Unit) := fun (t0_0, t0_1, t1, t2, _) =>
  Option.bind (impl_RepresentativeOf (t0_0, t0_1, t1, ())) fun (v1, v2, _) => Option.bind (impl_RepresentativeOf (t0_0, t0_1, t2, ())) fun (v3, v4, _) => cond v2
    (cond v4
    (Option.bind (impl_SameDivisor (v1, v3, ())) fun (v5, _) => some (v5, ()))
    (some (false, ())))
    (some (false, ()))
noncomputable def impl_AreEquivalent_F : Fun := ⟨impl_AreEquivalent_ins, [], impl_AreEquivalent_outs, impl_AreEquivalent⟩
noncomputable def impl_AreEquivalent_orc : Orc := orcGet [(75, impl_RepresentativeOf_F), (76, impl_SameDivisor_F)]
theorem impl_AreEquivalent_eq (x : Den impl_AreEquivalent_ins) : pmFn (tdGet tab) impl_AreEquivalent_orc impl_AreEquivalent_F.mn impl_AreEquivalent_ann Go.Proofs.Try.f27 impl_AreEquivalent_ins impl_AreEquivalent_outs x = impl_AreEquivalent x := by kernel_rfl
theorem impl_AreEquivalent_c : CallsD Go.Proofs.Try.prog 27 impl_AreEquivalent_F :=
  fn_contract (F := impl_AreEquivalent_F) (C := impl_AreEquivalent_orc) mix (chkTab_get tab_ok) (orc_cons impl_RepresentativeOf_c (orc_cons impl_SameDivisor_c orc_nil)) impl_AreEquivalent_ann (fn := Go.Proofs.Try.f27) (by kernel_rfl) (by kernel_rfl) (by kernel_rfl) (by kernel_rfl) (by kernel_rfl) (fun x y h => (impl_AreEquivalent_eq x).trans h)

def impl_sumOf_ins : List Item := [.t 0 (.ro (.int .i64))]
def impl_sumOf_outs : List Item := [.t 500 (.int .i64)]
def impl_sumOf_ann : List (Nat × List Item) := [(58, [.t 3 (.int .i64), .t 6 (.ro (.int .i64)), .t 7 (.int .i64), .t 8 (.int .i64)])]
noncomputable def impl_sumOf_L58 : Int × (List Int) × Int × Int × Unit → Option ((Int × (List Int) × Int × Int × Unit) ⊕ (Int × Unit)) := fun (t3, t6, t7, t8, _) =>
  cond (decide (t8 < t7))
    (chk (0 ≤ t8 ∧ t8 < ((t6).length : Int)) (some (.inl ((w64 (t3 + atD 0 t6 t8)), t6, t7, (w64 (t8 + 1)), ()))))
    (Option.map Sum.inr (some (t3, ())))
noncomputable def impl_sumOf : (List Int) × Unit → Option (Int × Unit) := fun (t0, _) =>
  loopM impl_sumOf_L58 (0, t0, ((t0).length : Int), 0, ())
noncomputable def impl_sumOf_F : Fun := ⟨impl_sumOf_ins, [], impl_sumOf_outs, impl_sumOf⟩
noncomputable def impl_sumOf_orc : Orc := orcGet []
theorem impl_sumOf_eq (x : Den impl_sumOf_ins) : pmFn (tdGet tab) impl_sumOf_orc impl_sumOf_F.mn impl_sumOf_ann Go.Proofs.Try.f77 impl_sumOf_ins impl_sumOf_outs x = impl_sumOf x := by kernel_rfl
theorem impl_sumOf_c : CallsD Go.Proofs.Try.prog 77 impl_sumOf_F :=
  fn_contract (F := impl_sumOf_F) (C := impl_sumOf_orc) mix (chkTab_get tab_ok) orc_nil impl_sumOf_ann (fn := Go.Proofs.Try.f77) (by kernel_rfl) (by kernel_rfl) (by kernel_rfl) (by kernel_rfl) (by kernel_rfl) (fun x y h => (impl_sumOf_eq x).trans h)

def impl_DegreeOf_ins : List Item := [.t 0 (.ro (.int .i64))]
def impl_DegreeOf_outs : List Item := [.t 500 (.int .i64)]
def impl_DegreeOf_ann : List (Nat × List Item) := []
noncomputable def impl_DegreeOf : (List Int) × Unit → Option (Int × Unit) := fun (t0, _) =>
  Option.bind (impl_sumOf (t0, ())) fun (v1, _) => some (v1, ())
noncomputable def impl_DegreeOf_F : Fun := ⟨impl_DegreeOf_ins, [], impl_DegreeOf_outs, impl_DegreeOf⟩
noncomputable def impl_DegreeOf_orc : Orc := orcGet [(77, impl_sumOf_F)]
theorem impl_DegreeOf_eq (x : Den impl_DegreeOf_ins) : pmFn (tdGet tab) impl_DegreeOf_orc impl_DegreeOf_F.mn impl_DegreeOf_ann Go.Proofs.Try.f28 impl_DegreeOf_ins impl_DegreeOf_outs x = impl_DegreeOf x := by kernel_rfl
theorem impl_DegreeOf_c : CallsD Go.Proofs.Try.prog 28 impl_DegreeOf_F :=
  fn_contract (F := impl_DegreeOf_F) (C := impl_DegreeOf_orc) mix (chkTab_get tab_ok) (orc_cons impl_sumOf_c orc_nil) impl_DegreeOf_ann (fn := Go.Proofs.Try.f28) (by kernel_rfl) (by kernel_rfl) (by kernel_rfl) (by kernel_rfl) (by kernel_rfl) (fun x y h => (impl_DegreeOf_eq x).trans h)

def laws_FnMorphisms_ins : List Item := [.t 0 (.ro (.int .u8))]
def laws_FnMorphisms_outs : List Item := [.t 500 (.bool)]
def laws_FnMorphisms_ann : List (Nat × List Item) := [(124, [.t 0 (.ro (.int .u8)), .t 3 (.ptr 3), .t 4 (.ptr 4), .t 5 (.ptr 5), .t 6 (.int .i64), .t 51 (.bool), .box 3 29 [.int .i64, .ro .ii], .box 4 29 [.int .i64, .ro .ii], .box 5 37 [.own 3 (.int .i64), .own 3 (.int .i64)]]),
  (253, [.t 0 (.ro (.int .u8)), .t 3 (.ptr 3), .t 4 (.ptr 4), .t 5 (.ptr 5), .t 6 (.int .i64), .box 3 29 [.int .i64, .ro .ii], .box 4 29 [.int .i64, .ro .ii], .box 5 37 [.own 3 (.int .i64), .own 3 (.int .i64)]]),
  (506, [.t 0 (.ro (.int .u8)), .t 3 (.ptr 3), .t 4 (.ptr 4), .t 5 (.ptr 5), .t 6 (.int .i64), .t 7 (.int .i64), .box 3 29 [.int .i64, .ro .ii], .box 4 29 [.int .i64, .ro .ii], .box 5 37 [.own 3 (.int .i64), .own 3 (.int .i64)]]),
  (4048, [.t 0 (.ro (.int .u8)), .t 3 (.ptr 3), .t 4 (.ptr 4), .t 5 (.ptr 5), .t 6 (.int .i64), .t 7 (.int .i64), .t 61 (.bool), .box 3 29 [.int .i64, .ro .ii], .box 4 29 [.int .i64, .ro .ii], .box 5 37 [.own 3 (.int .i64), .own 3 (.int .i64)]]),
  (65532, [.t 4 (.ptr 4), .t 6 (.int .i64), .t 10 (.own 3 (.int .i64)), .t 13 (.own 3 (.int .i64)), .t 17 (.own 3 (.int .i64)), .t 20 (.own 3 (.int .i64)), .t 180 (.bool), .box 4 29 [.int .i64, .ro .ii]]),
  (129610, [.t 0 (.ro (.int .u8)), .t 3 (.ptr 3), .t 4 (.ptr 4), .t 5 (.ptr 5), .t 6 (.int .i64), .t 7 (.int .i64), .t 8 (.int .i64), .t 9 (.int .i64), .box 3 29 [.int .i64, .ro .ii], .box 4 29 [.int .i64, .ro .ii], .box 5 37 [.own 3 (.int .i64), .own 3 (.int .i64)]]),
  (262138, [.t 4 (.ptr 4), .t 6 (.int .i64), .t 10 (.own 3 (.int .i64)), .t 13 (.own 3 (.int .i64)), .t 17 (.own 3 (.int .i64)), .t 20 (.own 3 (.int .i64)), .t 182 (.int .i64), .t 183 (.int .i64), .box 4 29 [.int .i64, .ro .ii]])]
noncomputable def laws_FnMorphisms_L129610 : (List Int) × Int × Int × Int × Int × Int × (List (Int × Int)) × Int × (List (Int × Int)) × (List Int) × (List Int) × Unit → Option (((List Int) × Int × Int × Int × Int × Int × (List (Int × Int)) × Int × (List (Int × Int)) × (List Int) × (List Int) × Unit) ⊕ ((((List Int) × Int × Int × Int × (List (Int × Int)) × Int × (List (Int × Int)) × (List Int) × (List Int) × Unit) ⊕ (((List Int) × Int × Int × (List (Int × Int)) × Int × (List (Int × Int)) × (List Int) × (List Int) × Unit) ⊕ Bool × Unit)))) := fun (t0, t6, t7, t8, t9, b3_0, b3_1, b4_0, b4_1, b5_0, b5_1, _) =>
  cond (decide (t9 < b3_0))
    (chk (0 ≤ t9 ∧ t9 < ((b5_0).length : Int)) (cond (atD 0 b5_0 t9 == t7)
    (Option.bind (impl_HorizontalOf (b3_0, b3_1, b4_0, b4_1, b5_0, b5_1, t9, ())) fun (v13, _) => some (.inl (t0, t6, t7, (w64 (t8 + v13)), (w64 (t9 + 1)), b3_0, b3_1, b4_0, b4_1, b5_0, b5_1, ())))
    (some (.inl (t0, t6, t7, t8, (w64 (t9 + 1)), b3_0, b3_1, b4_0, b4_1, b5_0, b5_1, ())))))
    (Option.map Sum.inr (cond (t8 != t6)
    (Option.map Sum.inr (Option.map Sum.inr (some (false, ()))))
    (some (.inl (t0, t6, (w64 (t7 + 1)), b3_0, b3_1, b4_0, b4_1, b5_0, b5_1, ())))))
noncomputable def laws_FnMorphisms_J4048 : (List Int) × Int × Int × Bool × Int × (List (Int × Int)) × Int × (List (Int × Int)) × (List Int) × (List Int) × Unit → Option ((((List Int) × Int × Int × Int × (List (Int × Int)) × Int × (List (Int × Int)) × (List Int) × (List Int) × Unit) ⊕ (((List Int) × Int × Int × (List (Int × Int)) × Int × (List (Int × Int)) × (List Int) × (List Int) × Unit) ⊕ Bool × Unit))) := fun (t0, t6, t7, t61, b3_0, b3_1, b4_0, b4_1, b5_0, b5_1, _) =>
  cond t61
    (loopM laws_FnMorphisms_L129610 (t0, t6, t7, 0, 0, b3_0, b3_1, b4_0, b4_1, b5_0, b5_1, ()))
    (Option.map Sum.inr (some (.inl (t0, t6, b3_0, b3_1, b4_0, b4_1, b5_0, b5_1, ()))))
noncomputable def laws_FnMorphisms_L506 : (List Int) × Int × Int × Int × (List (Int × Int)) × Int × (List (Int × Int)) × (List Int) × (List Int) × Unit → Option (((List Int) × Int × Int × Int × (List (Int × Int)) × Int × (List (Int × Int)) × (List Int) × (List Int) × Unit) ⊕ ((((List Int) × Int × Int × (List (Int × Int)) × Int × (List (Int × Int)) × (List Int) × (List Int) × Unit) ⊕ Bool × Unit))) := fun (t0, t6, t7, b3_0, b3_1, b4_0, b4_1, b5_0, b5_1, _) =>
  joinB (T := (List Int) × Int × Int × Bool × Int × (List (Int × Int)) × Int × (List (Int × Int)) × (List Int) × (List Int) × Unit) (R := (((List Int) × Int × Int × Int × (List (Int × Int)) × Int × (List (Int × Int)) × (List Int) × (List Int) × Unit) ⊕ (((List Int) × Int × Int × (List (Int × Int)) × Int × (List (Int × Int)) × (List Int) × (List Int) × Unit) ⊕ Bool × Unit))) (cond (decide (t7 < b4_0))
    (some (.inl (t0, t6, t7, (decide (((b4_1).length : Int) > 0)), b3_0, b3_1, b4_0, b4_1, b5_0, b5_1, ())))
    (some (.inl (t0, t6, t7, false, b3_0, b3_1, b4_0, b4_1, b5_0, b5_1, ())))) laws_FnMorphisms_J4048
noncomputable def laws_FnMorphisms_L262138 : Int × (List Int) × (List Int) × (List Int) × (List Int) × Int × Int × Int × (List (Int × Int)) × Unit → Option ((Int × (List Int) × (List Int) × (List Int) × (List Int) × Int × Int × Int × (List (Int × Int)) × Unit) ⊕ (Bool × Unit)) := fun (t6, t10, t13, t17, t20, t182, t183, b4_0, b4_1, _) =>
  cond (decide (t183 < t182))
    (cond (decide (((b4_1).length : Int) > 0))
    (chk (0 ≤ t183 ∧ t183 < ((t20).length : Int)) (chk (0 ≤ t183 ∧ t183 < ((t17).length : Int)) (cond (atD 0 t20 t183 != (w64 (t6 * atD 0 t17 t183)))
    (Option.map Sum.inr (some (false, ())))
    (some (.inl (t6, t10, t13, t17, t20, t182, (w64 (t183 + 1)), b4_0, b4_1, ()))))))
    (some (.inl (t6, t10, t13, t17, t20, t182, (w64 (t183 + 1)), b4_0, b4_1, ()))))
    (Option.map Sum.inr (Option.bind (impl_DegreeOf (t13, ())) fun (v31, _) => Option.bind (impl_DegreeOf (t10, ())) fun (v32, _) => some ((v31 == v32), ())))
noncomputable def laws_FnMorphisms_J65532 : Int × (List Int) × (List Int) × (List Int) × (List Int) × Bool × Int × (List (Int × Int)) × Unit → Option (Bool × Unit) := fun (t6, t10, t13, t17, t20, t180, b4_0, b4_1, _) =>
  cond t180
    (some (false, ()))
    (loopM laws_FnMorphisms_L262138 (t6, t10, t13, t17, t20, ((t20).length : Int), 0, b4_0, b4_1, ()))
noncomputable def laws_FnMorphisms_J253 : (List Int) × Int × Int × (List (Int × Int)) × Int × (List (Int × Int)) × (List Int) × (List Int) × Unit → Option (Bool × Unit) := fun (t0, t6, b3_0, b3_1, b4_0, b4_1, b5_0, b5_1, _) =>
  Option.bind (spec_MakeDivisor (t0, 20, b3_0, b3_1, ())) fun (v14, _) => Option.bind (spec_MakeScript (t0, 40, b3_0, b3_1, ())) fun (v15, _) => Option.bind (impl_FireScript (b3_0, b3_1, v14, v15, ())) fun (v16, v17, _) => Option.bind (impl_PushForward (b3_0, b3_1, b4_0, b4_1, b5_0, b5_1, v14, ())) fun (v18, v19, _) => Option.bind (impl_PushForward (b3_0, b3_1, b4_0, b4_1, b5_0, b5_1, v16, ())) fun (v20, v21, _) => Option.bind (spec_MakeDivisor (t0, 30, b4_0, b4_1, ())) fun (v22, _) => Option.bind (impl_PullBack (b3_0, b3_1, b4_0, b4_1, b5_0, b5_1, v22, ())) fun (v23, v24, _) => Option.bind (impl_PushForward (b3_0, b3_1, b4_0, b4_1, b5_0, b5_1, v23, ())) fun (v25, v26, _) => joinB (T := Int × (List Int) × (List Int) × (List Int) × (List Int) × Bool × Int × (List (Int × Int)) × Unit) (R := Bool × Unit) (cond (!v17)
    (some (.inl (t6, v14, v18, v22, v25, true, b4_0, b4_1, ())))
    (cond (!v19)
    (some (.inl (t6, v14, v18, v22, v25, true, b4_0, b4_1, ())))
    (cond (!v21)
    (some (.inl (t6, v14, v18, v22, v25, true, b4_0, b4_1, ())))
    (cond (!v24)
    (some (.inl (t6, v14, v18, v22, v25, true, b4_0, b4_1, ())))
    (cond (!v26)
    (some (.inl (t6, v14, v18, v22, v25, true, b4_0, b4_1, ())))
    (cond (((v25).length : Int) != b4_0)
    (some (.inl (t6, v14, v18, v22, v25, true, b4_0, b4_1, ())))
    (Option.bind (impl_AreEquivalent (b4_0, b4_1, v18, v20, ())) fun (v28, _) => cond (!v28)
    (some (.inl (t6, v14, v18, v22, v25, true, b4_0, b4_1, ())))
    (cond (decide (((b4_1).length : Int) > 0))
    (Option.bind (impl_DegreeOf (v23, ())) fun (v29, _) => Option.bind (impl_DegreeOf (v22, ())) fun (v30, _) => some (.inl (t6, v14, v18, v22, v25, (v29 != (w64 (t6 * v30))), b4_0, b4_1, ())))
    (some (.inl (t6, v14, v18, v22, v25, false, b4_0, b4_1, ()))))))))))) laws_FnMorphisms_J65532
noncomputable def laws_FnMorphisms_J124 : (List Int) × Int × Bool × Int × (List (Int × Int)) × Int × (List (Int × Int)) × (List Int) × (List Int) × Unit → Option (Bool × Unit) := fun (t0, t6, t51, b3_0, b3_1, b4_0, b4_1, b5_0, b5_1, _) =>
  cond t51
    (some (false, ()))
    (joinB (T := (List Int) × Int × Int × (List (Int × Int)) × Int × (List (Int × Int)) × (List Int) × (List Int) × Unit) (R := Bool × Unit) (loopM laws_FnMorphisms_L506 (t0, t6, 0, b3_0, b3_1, b4_0, b4_1, b5_0, b5_1, ())) laws_FnMorphisms_J253)
noncomputable def laws_FnMorphisms : (List Int) × Unit → Option (Bool × Unit) := fun (t0, _) =>
  cond (decide (((t0).length : Int) > 1048576))
    (some (true, ()))
    (Option.bind (spec_MakeMorphism (t0, ())) fun (v1, v2, v3, v4, v5, v6, _) => Option.bind (impl_DegreeOfMorphism (v1, v2, v3, v4, v5, v6, ())) fun (v7, _) => joinB (T := (List Int) × Int × Bool × Int × (List (Int × Int)) × Int × (List (Int × Int)) × (List Int) × (List Int) × Unit) (R := Bool × Unit) (Option.bind (impl_MorphismOk (v1, v2, v3, v4, v5, v6, ())) fun (v9, _) => cond (!v9)
    (some (.inl (t0, v7, true, v1, v2, v3, v4, v5, v6, ())))
    (Option.bind (impl_IsHarmonic (v1, v2, v3, v4, v5, v6, ())) fun (v10, _) => cond (!v10)
    (some (.inl (t0, v7, true, v1, v2, v3, v4, v5, v6, ())))
    (some (.inl (t0, v7, (decide (v7 < 0)), v1, v2, v3, v4, v5, v6, ()))))) laws_FnMorphisms_J124)
noncomputable def laws_FnMorphisms_F : Fun := ⟨laws_FnMorphisms_ins, [], laws_FnMorphisms_outs, laws_FnMorphisms⟩
noncomputable def laws_FnMorphisms_orc : Orc := orcGet [(16, spec_MakeDivisor_F), (17, impl_PushForward_F), (18, impl_PullBack_F), (19, impl_IsHarmonic_F), (20, impl_DegreeOfMorphism_F), (22, spec_MakeMorphism_F), (23, impl_MorphismOk_F), (24, impl_HorizontalOf_F), (25, impl_FireScript_F), (26, spec_MakeScript_F), (27, impl_AreEquivalent_F), (28, impl_DegreeOf_F)]
theorem laws_FnMorphisms_eq (x : Den laws_FnMorphisms_ins) : pmFn (tdGet tab) laws_FnMorphisms_orc laws_FnMorphisms_F.mn laws_FnMorphisms_ann Go.Proofs.Try.f5 laws_FnMorphisms_ins laws_FnMorphisms_outs x = laws_FnMorphisms x := by kernel_rfl
theorem laws_FnMorphisms_c : CallsD Go.Proofs.Try.prog 5 laws_FnMorphisms_F :=
  fn_contract (F := laws_FnMorphisms_F) (C := laws_FnMorphisms_orc) mix (chkTab_get tab_ok) (orc_cons spec_MakeDivisor_c (orc_cons impl_PushForward_c (orc_cons impl_PullBack_c (orc_cons impl_IsHarmonic_c (orc_cons impl_DegreeOfMorphism_c (orc_cons spec_MakeMorphism_c (orc_cons impl_MorphismOk_c (orc_cons impl_HorizontalOf_c (orc_cons impl_FireScript_c (orc_cons spec_MakeScript_c (orc_cons impl_AreEquivalent_c (orc_cons impl_DegreeOf_c orc_nil)))))))))))) laws_FnMorphisms_ann (fn := Go.Proofs.Try.f5) (by kernel_rfl) (by kernel_rfl) (by kernel_rfl) (by kernel_rfl) (by kernel_rfl) (fun x y h => (laws_FnMorphisms_eq x).trans h)

end Go.Pm.Try
