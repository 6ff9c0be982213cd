/-
  The typed functions that this claim reaches, written by a program of this session: each is what the code does. No conditions.
-/
import Derived.Test.YteplfcgofnfciaaProg
import Derived.Test.YteplfcgofnfciaaMb
set_option linter.unusedVariables false
namespace Go.Pm.Try
open Go.Pm
def tab : List (TypeId × TD) := [(3, .one (.int .i64 0)),
  (4, .one (.bool false)),
  (5, .one (.int .u8 0)),
  (27, .slice 76 .ii),
  (29, .struct [(0, 1), (1, 1)] [.int .i64 0, .slice none 0 0]),
  (33, .slice 5 (.int .u8)),
  (35, .slice 3 (.int .i64)),
  (37, .struct [(0, 1), (1, 1)] [.slice none 0 0, .slice none 0 0]),
  (74, .one (.nilFunc)),
  (76, .ii),
  (79, .one (.pointer none)),
  (110, .one (.nilFunc)),
  (115, .struct [(0, 1), (1, 1), (2, 1)] [.slice none 0 0, .int .i64 0, .int .i64 0])]
theorem tab_ok : chkTab Go.Proofs.Try.prog tab = true := by kernel_rfl
theorem mix : Go.Proofs.Try.prog.follows .mixedOrders = true := by kernel_rfl
def spec_l01New_ins : List Item := [.t 0 (.ro (.int .u8))]
def spec_l01New_outs : List Item := [.t 500 (.ptr 31), .box 31 115 [.ro (.int .u8), .int .i64, .int .i64]]
def spec_l01New_ann : List (Nat × List Item) := [(58, [.t 0 (.ro (.int .u8)), .t 3 (.int .i64), .t 4 (.int .i64)])]
noncomputable def spec_l01New_L58 : (List Int) × Int × Int × Unit → Option (((List Int) × Int × Int × Unit) ⊕ ((List Int) × Int × Int × Unit)) := fun (t0, t3, t4, _) =>
  cond (decide (t4 < ((t0).length : Int)))
    (cond (decide (t4 < 4000))
    (chk (0 ≤ t4 ∧ t4 < ((t0).length : Int)) (some (.inl (t0, (iand .i64 (w64 ((w64 ((w64 (t3 * 97)) + (w64 (atD 0 t0 t4)))) + 7)) 1073741823), (w64 (t4 + 1)), ()))))
    (Option.map Sum.inr (some (t0, 0, t3, ()))))
    (Option.map Sum.inr (some (t0, 0, t3, ())))
noncomputable def spec_l01New : (List Int) × Unit → Option ((List Int) × Int × Int × Unit) := fun (t0, _) =>
  loopM spec_l01New_L58 (t0, (w64 (2069 + ((t0).length : Int))), 0, ())
noncomputable def spec_l01New_F : Fun := ⟨spec_l01New_ins, [], spec_l01New_outs, spec_l01New⟩
noncomputable def spec_l01New_orc : Orc := orcGet []
theorem spec_l01New_eq (x : Den spec_l01New_ins) : pmFn (tdGet tab) spec_l01New_orc spec_l01New_F.mn spec_l01New_ann Go.Proofs.Try.f61 spec_l01New_ins spec_l01New_outs x = spec_l01New x := by kernel_rfl
theorem spec_l01New_c : CallsD Go.Proofs.Try.prog 61 spec_l01New_F :=
  fn_contract (F := spec_l01New_F) (C := spec_l01New_orc) mix (chkTab_get tab_ok) orc_nil spec_l01New_ann (fn := Go.Proofs.Try.f61) (by kernel_rfl) (by kernel_rfl) (by kernel_rfl) (by kernel_rfl) (by kernel_rfl) (fun x y h => (spec_l01New_eq x).trans h)

def spec_l01Byte_ins : List Item := [.t 0 (.ptr 900), .box 900 115 [.ro (.int .u8), .int .i64, .int .i64]]
def spec_l01Byte_outs : List Item := [.t 500 (.int .i64), .box 900 115 [.ro (.int .u8), .int .i64, .int .i64]]
def spec_l01Byte_ann : List (Nat × List Item) := []
noncomputable def spec_l01Byte : (List Int) × Int × Int × Unit → Option (Int × (List Int) × Int × Int × Unit) := fun (b900_0, b900_1, b900_2, _) =>
  chk (0 ≤ 33) (chk (0 ≤ 45) (cond (decide (b900_1 < ((b900_0).length : Int)))
    (chk (0 ≤ b900_1 ∧ b900_1 < ((b900_0).length : Int)) (some ((iand .i64 (w64 ((iand .i64 (ixor .i64 (ishr .i64 (w64 ((w64 (b900_2 * 6364136223846793005)) + 1442695040888963407)) 33) (ishr .i64 (w64 ((w64 (b900_2 * 6364136223846793005)) + 1442695040888963407)) 45)) 255) + (w64 (atD 0 b900_0 b900_1)))) 255), b900_0, (w64 (b900_1 + 1)), (w64 ((w64 (b900_2 * 6364136223846793005)) + 1442695040888963407)), ())))
    (some ((iand .i64 (ixor .i64 (ishr .i64 (w64 ((w64 (b900_2 * 6364136223846793005)) + 1442695040888963407)) 33) (ishr .i64 (w64 ((w64 (b900_2 * 6364136223846793005)) + 1442695040888963407)) 45)) 255), b900_0, b900_1, (w64 ((w64 (b900_2 * 6364136223846793005)) + 1442695040888963407)), ()))))
noncomputable def spec_l01Byte_F : Fun := ⟨spec_l01Byte_ins, [900], spec_l01Byte_outs, spec_l01Byte⟩
noncomputable def spec_l01Byte_orc : Orc := orcGet []
theorem spec_l01Byte_eq (x : Den spec_l01Byte_ins) : pmFn (tdGet tab) spec_l01Byte_orc spec_l01Byte_F.mn spec_l01Byte_ann Go.Proofs.Try.f79 spec_l01Byte_ins spec_l01Byte_outs x = spec_l01Byte x := by kernel_rfl
theorem spec_l01Byte_c : CallsD Go.Proofs.Try.prog 79 spec_l01Byte_F :=
  fn_contract (F := spec_l01Byte_F) (C := spec_l01Byte_orc) mix (chkTab_get tab_ok) orc_nil spec_l01Byte_ann (fn := Go.Proofs.Try.f79) (by kernel_rfl) (by kernel_rfl) (by kernel_rfl) (by kernel_rfl) (by kernel_rfl) (fun x y h => (spec_l01Byte_eq x).trans h)

def spec_l01Below_ins : List Item := [.t 0 (.ptr 900), .t 1 (.int .i64), .box 900 115 [.ro (.int .u8), .int .i64, .int .i64]]
def spec_l01Below_outs : List Item := [.t 500 (.int .i64), .box 900 115 [.ro (.int .u8), .int .i64, .int .i64]]
def spec_l01Below_ann : List (Nat × List Item) := []
noncomputable def spec_l01Below : Int × (List Int) × Int × Int × Unit → Option (Int × (List Int) × Int × Int × Unit) := fun (t1, b900_0, b900_1, b900_2, _) =>
  cond (decide (t1 ≤ 0))
    (some (0, b900_0, b900_1, b900_2, ()))
    (cond (decide (t1 ≤ 256))
    (Option.bind (spec_l01Byte (b900_0, b900_1, b900_2, ())) fun (v1, v2, v3, v4, _) => chk (t1 ≠ 0) (some ((v1.tmod t1), v2, v3, v4, ())))
    (Option.bind (spec_l01Byte (b900_0, b900_1, b900_2, ())) fun (v5, v6, v7, v8, _) => Option.bind (spec_l01Byte (v6, v7, v8, ())) fun (v9, v10, v11, v12, _) => Option.bind (spec_l01Byte (v10, v11, v12, ())) fun (v13, v14, v15, v16, _) => Option.bind (spec_l01Byte (v14, v15, v16, ())) fun (v17, v18, v19, v20, _) => chk (t1 ≠ 0) (some (((w64 ((w64 ((w64 ((w64 (v5 * 16777216)) + (w64 (v9 * 65536)))) + (w64 (v13 * 256)))) + v17)).tmod t1), v18, v19, v20, ()))))
noncomputable def spec_l01Below_F : Fun := ⟨spec_l01Below_ins, [900], spec_l01Below_outs, spec_l01Below⟩
noncomputable def spec_l01Below_orc : Orc := orcGet [(79, spec_l01Byte_F)]
theorem spec_l01Below_eq (x : Den spec_l01Below_ins) : pmFn (tdGet tab) spec_l01Below_orc spec_l01Below_F.mn spec_l01Below_ann Go.Proofs.Try.f74 spec_l01Below_ins spec_l01Below_outs x = spec_l01Below x := by kernel_rfl
theorem spec_l01Below_c : CallsD Go.Proofs.Try.prog 74 spec_l01Below_F :=
  fn_contract (F := spec_l01Below_F) (C := spec_l01Below_orc) mix (chkTab_get tab_ok) (orc_cons spec_l01Byte_c orc_nil) spec_l01Below_ann (fn := Go.Proofs.Try.f74) (by kernel_rfl) (by kernel_rfl) (by kernel_rfl) (by kernel_rfl) (by kernel_rfl) (fun x y h => (spec_l01Below_eq x).trans h)

def spec_l02Vert_ins : List Item := [.agg 0 [.int .i64, .ro .ii], .t 1 (.int .i64)]
def spec_l02Vert_outs : List Item := [.t 500 (.bool)]
def spec_l02Vert_ann : List (Nat × List Item) := []
noncomputable def spec_l02Vert : Int × (List (Int × Int)) × Int × Unit → Option (Bool × Unit) := fun (t0_0, t0_1, t1, _) =>
  cond (decide (t1 ≥ 0))
    (some ((decide (t1 < t0_0)), ()))
    (some (false, ()))
noncomputable def spec_l02Vert_F : Fun := ⟨spec_l02Vert_ins, [], spec_l02Vert_outs, spec_l02Vert⟩
noncomputable def spec_l02Vert_orc : Orc := orcGet []
theorem spec_l02Vert_eq (x : Den spec_l02Vert_ins) : pmFn (tdGet tab) spec_l02Vert_orc spec_l02Vert_F.mn spec_l02Vert_ann Go.Proofs.Try.f139 spec_l02Vert_ins spec_l02Vert_outs x = spec_l02Vert x := by kernel_rfl
theorem spec_l02Vert_c : CallsD Go.Proofs.Try.prog 139 spec_l02Vert_F :=
  fn_contract (F := spec_l02Vert_F) (C := spec_l02Vert_orc) mix (chkTab_get tab_ok) orc_nil spec_l02Vert_ann (fn := Go.Proofs.Try.f139) (by kernel_rfl) (by kernel_rfl) (by kernel_rfl) (by kernel_rfl) (by kernel_rfl) (fun x y h => (spec_l02Vert_eq x).trans h)

def spec_Multiplicity_ins : List Item := [.agg 0 [.int .i64, .ro .ii], .t 1 (.int .i64), .t 2 (.int .i64)]
def spec_Multiplicity_outs : List Item := [.t 500 (.int .i64)]
def spec_Multiplicity_ann : List (Nat × List Item) := [(28, [.t 1 (.int .i64), .t 2 (.int .i64), .t 3 (.ptr 3), .t 7 (.int .i64), .t 24 (.bool), .box 3 29 [.int .i64, .ro .ii]]),
  (122, [.t 1 (.int .i64), .t 2 (.int .i64), .t 7 (.int .i64), .t 26 (.ro .ii), .t 27 (.int .i64), .t 28 (.int .i64)])]
noncomputable def spec_Multiplicity_L122 : Int × Int × Int × (List (Int × Int)) × Int × Int × Unit → Option ((Int × Int × Int × (List (Int × Int)) × Int × Int × Unit) ⊕ (Int × Unit)) := fun (t1, t2, t7, t26, t27, t28, _) =>
  cond (decide (t28 < t27))
    (chk (0 ≤ t28 ∧ t28 < ((t26).length : Int)) (cond ((atD (0, 0) t26 t28).1 == (min2 t1 t2))
    (cond ((atD (0, 0) t26 t28).2 == (max2 t1 t2))
    (some (.inl (t1, t2, (w64 (t7 + 1)), t26, t27, (w64 (t28 + 1)), ())))
    (some (.inl (t1, t2, t7, t26, t27, (w64 (t28 + 1)), ()))))
    (some (.inl (t1, t2, t7, t26, t27, (w64 (t28 + 1)), ())))))
    (Option.map Sum.inr (some (t7, ())))
noncomputable def spec_Multiplicity_J28 : Int × Int × Int × Bool × Int × (List (Int × Int)) × Unit → Option (Int × Unit) := fun (t1, t2, t7, t24, b3_0, b3_1, _) =>
  cond t24
    (some (0, ()))
    (loopM spec_Multiplicity_L122 (t1, t2, t7, b3_1, ((b3_1).length : Int), 0, ()))
noncomputable def spec_Multiplicity : Int × (List (Int × Int)) × Int × Int × Unit → Option (Int × Unit) := fun (t0_0, t0_1, t1, t2, _) =>
  joinB (T := Int × Int × Int × Bool × Int × (List (Int × Int)) × Unit) (R := Int × Unit) (Option.bind (spec_l02Vert (t0_0, t0_1, t1, ())) fun (v2, _) => cond (!v2)
    (some (.inl (t1, t2, 0, true, t0_0, t0_1, ())))
    (Option.bind (spec_l02Vert (t0_0, t0_1, t2, ())) fun (v3, _) => cond (!v3)
    (some (.inl (t1, t2, 0, true, t0_0, t0_1, ())))
    (some (.inl (t1, t2, 0, (t1 == t2), t0_0, t0_1, ()))))) spec_Multiplicity_J28
noncomputable def spec_Multiplicity_F : Fun := ⟨spec_Multiplicity_ins, [], spec_Multiplicity_outs, spec_Multiplicity⟩
noncomputable def spec_Multiplicity_orc : Orc := orcGet [(139, spec_l02Vert_F)]
theorem spec_Multiplicity_eq (x : Den spec_Multiplicity_ins) : pmFn (tdGet tab) spec_Multiplicity_orc spec_Multiplicity_F.mn spec_Multiplicity_ann Go.Proofs.Try.f104 spec_Multiplicity_ins spec_Multiplicity_outs x = spec_Multiplicity x := by kernel_rfl
theorem spec_Multiplicity_c : CallsD Go.Proofs.Try.prog 104 spec_Multiplicity_F :=
  fn_contract (F := spec_Multiplicity_F) (C := spec_Multiplicity_orc) mix (chkTab_get tab_ok) (orc_cons spec_l02Vert_c orc_nil) spec_Multiplicity_ann (fn := Go.Proofs.Try.f104) (by kernel_rfl) (by kernel_rfl) (by kernel_rfl) (by kernel_rfl) (by kernel_rfl) (fun x y h => (spec_Multiplicity_eq x).trans h)

def spec_l01In_ins : List Item := [.t 0 (.int .i64), .t 1 (.int .i64), .t 2 (.int .i64)]
def spec_l01In_outs : List Item := [.t 500 (.bool)]
def spec_l01In_ann : List (Nat × List Item) := []
noncomputable def spec_l01In : Int × Int × Int × Unit → Option (Bool × Unit) := fun (t0, t1, t2, _) =>
  cond (decide (t0 ≥ t1))
    (some ((decide (t0 ≤ t2)), ()))
    (some (false, ()))
noncomputable def spec_l01In_F : Fun := ⟨spec_l01In_ins, [], spec_l01In_outs, spec_l01In⟩
noncomputable def spec_l01In_orc : Orc := orcGet []
theorem spec_l01In_eq (x : Den spec_l01In_ins) : pmFn (tdGet tab) spec_l01In_orc spec_l01In_F.mn spec_l01In_ann Go.Proofs.Try.f122 spec_l01In_ins spec_l01In_outs x = spec_l01In x := by kernel_rfl
theorem spec_l01In_c : CallsD Go.Proofs.Try.prog 122 spec_l01In_F :=
  fn_contract (F := spec_l01In_F) (C := spec_l01In_orc) mix (chkTab_get tab_ok) orc_nil spec_l01In_ann (fn := Go.Proofs.Try.f122) (by kernel_rfl) (by kernel_rfl) (by kernel_rfl) (by kernel_rfl) (by kernel_rfl) (fun x y h => (spec_l01In_eq x).trans h)

def spec_EdgesOk_ins : List Item := [.agg 0 [.int .i64, .ro .ii]]
def spec_EdgesOk_outs : List Item := [.t 500 (.bool)]
def spec_EdgesOk_ann : List (Nat × List Item) := [(12, [.t 1 (.ptr 1), .t 14 (.bool), .box 1 29 [.int .i64, .ro .ii]]),
  (58, [.t 1 (.ptr 1), .t 16 (.ro .ii), .t 17 (.int .i64), .t 18 (.int .i64), .box 1 29 [.int .i64, .ro .ii]])]
noncomputable def spec_EdgesOk_L58 : (List (Int × Int)) × Int × Int × Int × (List (Int × Int)) × Unit → Option (((List (Int × Int)) × Int × Int × Int × (List (Int × Int)) × Unit) ⊕ (Bool × Unit)) := fun (t16, t17, t18, b1_0, b1_1, _) =>
  cond (decide (t18 < t17))
    (chk (0 ≤ t18 ∧ t18 < ((t16).length : Int)) (Option.bind (spec_l01In ((atD (0, 0) t16 t18).1, 0, (w64 (b1_0 - 1)), ())) fun (v3, _) => cond (!v3)
    (Option.map Sum.inr (some (false, ())))
    (Option.bind (spec_l01In ((atD (0, 0) t16 t18).2, (w64 ((atD (0, 0) t16 t18).1 + 1)), (w64 (b1_0 - 1)), ())) fun (v4, _) => cond (!v4)
    (Option.map Sum.inr (some (false, ())))
    (some (.inl (t16, t17, (w64 (t18 + 1)), b1_0, b1_1, ()))))))
    (Option.map Sum.inr (some (true, ())))
noncomputable def spec_EdgesOk_J12 : Bool × Int × (List (Int × Int)) × Unit → Option (Bool × Unit) := fun (t14, b1_0, b1_1, _) =>
  cond t14
    (some (false, ()))
    (loopM spec_EdgesOk_L58 (b1_1, ((b1_1).length : Int), 0, b1_0, b1_1, ()))
noncomputable def spec_EdgesOk : Int × (List (Int × Int)) × Unit → Option (Bool × Unit) := fun (t0_0, t0_1, _) =>
  joinB (T := Bool × Int × (List (Int × Int)) × Unit) (R := Bool × Unit) (Option.bind (spec_l01In (t0_0, 1, 6, ())) fun (v2, _) => cond (!v2)
    (some (.inl (true, t0_0, t0_1, ())))
    (some (.inl ((decide (((t0_1).length : Int) > 12)), t0_0, t0_1, ())))) spec_EdgesOk_J12
noncomputable def spec_EdgesOk_F : Fun := ⟨spec_EdgesOk_ins, [], spec_EdgesOk_outs, spec_EdgesOk⟩
noncomputable def spec_EdgesOk_orc : Orc := orcGet [(122, spec_l01In_F)]
theorem spec_EdgesOk_eq (x : Den spec_EdgesOk_ins) : pmFn (tdGet tab) spec_EdgesOk_orc spec_EdgesOk_F.mn spec_EdgesOk_ann Go.Proofs.Try.f97 spec_EdgesOk_ins spec_EdgesOk_outs x = spec_EdgesOk x := by kernel_rfl
theorem spec_EdgesOk_c : CallsD Go.Proofs.Try.prog 97 spec_EdgesOk_F :=
  fn_contract (F := spec_EdgesOk_F) (C := spec_EdgesOk_orc) mix (chkTab_get tab_ok) (orc_cons spec_l01In_c orc_nil) spec_EdgesOk_ann (fn := Go.Proofs.Try.f97) (by kernel_rfl) (by kernel_rfl) (by kernel_rfl) (by kernel_rfl) (by kernel_rfl) (fun x y h => (spec_EdgesOk_eq x).trans h)

def spec_l02Has_ins : List Item := [.t 0 (.ro (.int .i64)), .t 1 (.int .i64)]
def spec_l02Has_outs : List Item := [.t 500 (.bool)]
def spec_l02Has_ann : List (Nat × List Item) := [(26, [.t 1 (.int .i64), .t 7 (.ro (.int .i64)), .t 8 (.int .i64), .t 9 (.int .i64)])]
noncomputable def spec_l02Has_L26 : Int × (List Int) × Int × Int × Unit → Option ((Int × (List Int) × Int × Int × Unit) ⊕ (Bool × Unit)) := fun (t1, t7, t8, t9, _) =>
  cond (decide (t9 < t8))
    (chk (0 ≤ t9 ∧ t9 < ((t7).length : Int)) (cond (atD 0 t7 t9 == t1)
    (Option.map Sum.inr (some (true, ())))
    (some (.inl (t1, t7, t8, (w64 (t9 + 1)), ())))))
    (Option.map Sum.inr (some (false, ())))
noncomputable def spec_l02Has : (List Int) × Int × Unit → Option (Bool × Unit) := fun (t0, t1, _) =>
  loopM spec_l02Has_L26 (t1, t0, ((t0).length : Int), 0, ())
noncomputable def spec_l02Has_F : Fun := ⟨spec_l02Has_ins, [], spec_l02Has_outs, spec_l02Has⟩
noncomputable def spec_l02Has_orc : Orc := orcGet []
theorem spec_l02Has_eq (x : Den spec_l02Has_ins) : pmFn (tdGet tab) spec_l02Has_orc spec_l02Has_F.mn spec_l02Has_ann Go.Proofs.Try.f137 spec_l02Has_ins spec_l02Has_outs x = spec_l02Has x := by kernel_rfl
theorem spec_l02Has_c : CallsD Go.Proofs.Try.prog 137 spec_l02Has_F :=
  fn_contract (F := spec_l02Has_F) (C := spec_l02Has_orc) mix (chkTab_get tab_ok) orc_nil spec_l02Has_ann (fn := Go.Proofs.Try.f137) (by kernel_rfl) (by kernel_rfl) (by kernel_rfl) (by kernel_rfl) (by kernel_rfl) (fun x y h => (spec_l02Has_eq x).trans h)

def spec_l02Reach_ins : List Item := [.agg 0 [.int .i64, .ro .ii]]
def spec_l02Reach_outs : List Item := [.t 500 (.own 3 (.int .i64))]
def spec_l02Reach_ann : List (Nat × List Item) := [(58, [.t 1 (.ptr 1), .t 3 (.own 3 (.int .i64)), .t 4 (.int .i64), .box 1 29 [.int .i64, .ro .ii]]),
  (3730, [.t 1 (.ptr 1), .t 3 (.own 3 (.int .i64)), .t 4 (.int .i64), .t 15 (.ro .ii), .t 16 (.int .i64), .t 17 (.int .i64), .box 1 29 [.int .i64, .ro .ii]]),
  (954980, [.t 1 (.ptr 1), .t 3 (.own 3 (.int .i64)), .t 4 (.int .i64), .t 6 (.ptr 6), .t 15 (.ro .ii), .t 16 (.int .i64), .t 17 (.int .i64), .t 34 (.bool), .box 1 29 [.int .i64, .ro .ii], .box 6 76 [.int .i64, .int .i64]]),
  (954981, [.t 1 (.ptr 1), .t 3 (.own 3 (.int .i64)), .t 4 (.int .i64), .t 6 (.ptr 6), .t 15 (.ro .ii), .t 16 (.int .i64), .t 17 (.int .i64), .box 1 29 [.int .i64, .ro .ii], .box 6 76 [.int .i64, .int .i64]])]
noncomputable def spec_l02Reach_J954981 : (List Int) × Int × (List (Int × Int)) × Int × Int × Int × (List (Int × Int)) × Int × Int × Unit → Option ((((List Int) × Int × (List (Int × Int)) × Int × Int × Int × (List (Int × Int)) × Unit) ⊕ (((List Int) × Int × Int × (List (Int × Int)) × Unit) ⊕ (List Int) × Unit))) := fun (t3, t4, t15, t16, t17, b1_0, b1_1, b6_0, b6_1, _) =>
  chk (0 ≤ t4 ∧ t4 < ((t3).length : Int)) (cond (b6_1 == atD 0 t3 t4)
    (Option.bind (spec_l02Has (t3, b6_0, ())) fun (v4, _) => cond (!v4)
    (chk ((t3).length + (([b6_0] : List Int)).length ≤ 17592186044416) (some (.inl ((t3 ++ ([b6_0] : List Int)), t4, t15, t16, (w64 (t17 + 1)), b1_0, b1_1, ()))))
    (some (.inl (t3, t4, t15, t16, (w64 (t17 + 1)), b1_0, b1_1, ()))))
    (some (.inl (t3, t4, t15, t16, (w64 (t17 + 1)), b1_0, b1_1, ()))))
noncomputable def spec_l02Reach_J954980 : (List Int) × Int × (List (Int × Int)) × Int × Int × Bool × Int × (List (Int × Int)) × Int × Int × Unit → Option ((((List Int) × Int × (List (Int × Int)) × Int × Int × Int × (List (Int × Int)) × Unit) ⊕ (((List Int) × Int × Int × (List (Int × Int)) × Unit) ⊕ (List Int) × Unit))) := fun (t3, t4, t15, t16, t17, t34, b1_0, b1_1, b6_0, b6_1, _) =>
  joinB (T := (List Int) × Int × (List (Int × Int)) × Int × Int × Int × (List (Int × Int)) × Int × Int × Unit) (R := (((List Int) × Int × (List (Int × Int)) × Int × Int × Int × (List (Int × Int)) × Unit) ⊕ (((List Int) × Int × Int × (List (Int × Int)) × Unit) ⊕ (List Int) × Unit))) (cond t34
    (chk ((t3).length + (([b6_1] : List Int)).length ≤ 17592186044416) (some (.inl ((t3 ++ ([b6_1] : List Int)), t4, t15, t16, t17, b1_0, b1_1, b6_0, b6_1, ()))))
    (some (.inl (t3, t4, t15, t16, t17, b1_0, b1_1, b6_0, b6_1, ())))) spec_l02Reach_J954981
noncomputable def spec_l02Reach_L3730 : (List Int) × Int × (List (Int × Int)) × Int × Int × Int × (List (Int × Int)) × Unit → Option (((List Int) × Int × (List (Int × Int)) × Int × Int × Int × (List (Int × Int)) × Unit) ⊕ ((((List Int) × Int × Int × (List (Int × Int)) × Unit) ⊕ (List Int) × Unit))) := fun (t3, t4, t15, t16, t17, b1_0, b1_1, _) =>
  cond (decide (t17 < t16))
    (chk (0 ≤ t17 ∧ t17 < ((t15).length : Int)) (joinB (T := (List Int) × Int × (List (Int × Int)) × Int × Int × Bool × Int × (List (Int × Int)) × Int × Int × Unit) (R := (((List Int) × Int × (List (Int × Int)) × Int × Int × Int × (List (Int × Int)) × Unit) ⊕ (((List Int) × Int × Int × (List (Int × Int)) × Unit) ⊕ (List Int) × Unit))) (chk (0 ≤ t4 ∧ t4 < ((t3).length : Int)) (cond ((atD (0, 0) t15 t17).1 == atD 0 t3 t4)
    (Option.bind (spec_l02Has (t3, (atD (0, 0) t15 t17).2, ())) fun (v2, _) => some (.inl (t3, t4, t15, t16, t17, (!v2), b1_0, b1_1, (atD (0, 0) t15 t17).1, (atD (0, 0) t15 t17).2, ())))
    (some (.inl (t3, t4, t15, t16, t17, false, b1_0, b1_1, (atD (0, 0) t15 t17).1, (atD (0, 0) t15 t17).2, ()))))) spec_l02Reach_J954980))
    (Option.map Sum.inr (some (.inl (t3, (w64 (t4 + 1)), b1_0, b1_1, ()))))
noncomputable def spec_l02Reach_L58 : (List Int) × Int × Int × (List (Int × Int)) × Unit → Option (((List Int) × Int × Int × (List (Int × Int)) × Unit) ⊕ ((List Int) × Unit)) := fun (t3, t4, b1_0, b1_1, _) =>
  cond (decide (t4 < ((t3).length : Int)))
    (loopM spec_l02Reach_L3730 (t3, t4, b1_1, ((b1_1).length : Int), 0, b1_0, b1_1, ()))
    (Option.map Sum.inr (some (t3, ())))
noncomputable def spec_l02Reach : Int × (List (Int × Int)) × Unit → Option ((List Int) × Unit) := fun (t0_0, t0_1, _) =>
  loopM spec_l02Reach_L58 (([0] : List Int), 0, t0_0, t0_1, ())
noncomputable def spec_l02Reach_F : Fun := ⟨spec_l02Reach_ins, [], spec_l02Reach_outs, spec_l02Reach⟩
noncomputable def spec_l02Reach_orc : Orc := orcGet [(137, spec_l02Has_F)]
theorem spec_l02Reach_eq (x : Den spec_l02Reach_ins) : pmFn (tdGet tab) spec_l02Reach_orc spec_l02Reach_F.mn spec_l02Reach_ann Go.Proofs.Try.f98 spec_l02Reach_ins spec_l02Reach_outs x = spec_l02Reach x := by kernel_rfl
theorem spec_l02Reach_c : CallsD Go.Proofs.Try.prog 98 spec_l02Reach_F :=
  fn_contract (F := spec_l02Reach_F) (C := spec_l02Reach_orc) mix (chkTab_get tab_ok) (orc_cons spec_l02Has_c orc_nil) spec_l02Reach_ann (fn := Go.Proofs.Try.f98) (by kernel_rfl) (by kernel_rfl) (by kernel_rfl) (by kernel_rfl) (by kernel_rfl) (fun x y h => (spec_l02Reach_eq x).trans h)

def spec_GraphOk_ins : List Item := [.agg 0 [.int .i64, .ro .ii]]
def spec_GraphOk_outs : List Item := [.t 500 (.bool)]
def spec_GraphOk_ann : List (Nat × List Item) := [(58, [.t 1 (.ptr 1), .t 9 (.ro .ii), .t 10 (.int .i64), .t 11 (.int .i64), .box 1 29 [.int .i64, .ro .ii]])]
noncomputable def spec_GraphOk_L58 : (List (Int × Int)) × Int × Int × Int × (List (Int × Int)) × Unit → Option (((List (Int × Int)) × Int × Int × Int × (List (Int × Int)) × Unit) ⊕ (Bool × Unit)) := fun (t9, t10, t11, b1_0, b1_1, _) =>
  cond (decide (t11 < t10))
    (chk (0 ≤ t11 ∧ t11 < ((t9).length : Int)) (cond (decide (t11 > 0))
    (chk (0 ≤ (w64 (t11 - 1)) ∧ (w64 (t11 - 1)) < ((b1_1).length : Int)) (cond (decide ((atD (0, 0) t9 t11).1 < (atD (0, 0) b1_1 (w64 (t11 - 1))).1))
    (Option.map Sum.inr (some (false, ())))
    (chk (0 ≤ (w64 (t11 - 1)) ∧ (w64 (t11 - 1)) < ((b1_1).length : Int)) (cond ((atD (0, 0) t9 t11).1 == (atD (0, 0) b1_1 (w64 (t11 - 1))).1)
    (chk (0 ≤ (w64 (t11 - 1)) ∧ (w64 (t11 - 1)) < ((b1_1).length : Int)) (cond (decide ((atD (0, 0) t9 t11).2 < (atD (0, 0) b1_1 (w64 (t11 - 1))).2))
    (Option.map Sum.inr (some (false, ())))
    (some (.inl (t9, t10, (w64 (t11 + 1)), b1_0, b1_1, ())))))
    (some (.inl (t9, t10, (w64 (t11 + 1)), b1_0, b1_1, ())))))))
    (some (.inl (t9, t10, (w64 (t11 + 1)), b1_0, b1_1, ())))))
    (Option.map Sum.inr (Option.bind (spec_l02Reach (b1_0, b1_1, ())) fun (v2, _) => some ((((v2).length : Int) == b1_0), ())))
noncomputable def spec_GraphOk : Int × (List (Int × Int)) × Unit → Option (Bool × Unit) := fun (t0_0, t0_1, _) =>
  Option.bind (spec_EdgesOk (t0_0, t0_1, ())) fun (v1, _) => cond (!v1)
    (some (false, ()))
    (loopM spec_GraphOk_L58 (t0_1, ((t0_1).length : Int), 0, t0_0, t0_1, ()))
noncomputable def spec_GraphOk_F : Fun := ⟨spec_GraphOk_ins, [], spec_GraphOk_outs, spec_GraphOk⟩
noncomputable def spec_GraphOk_orc : Orc := orcGet [(97, spec_EdgesOk_F), (98, spec_l02Reach_F)]
theorem spec_GraphOk_eq (x : Den spec_GraphOk_ins) : pmFn (tdGet tab) spec_GraphOk_orc spec_GraphOk_F.mn spec_GraphOk_ann Go.Proofs.Try.f51 spec_GraphOk_ins spec_GraphOk_outs x = spec_GraphOk x := by kernel_rfl
theorem spec_GraphOk_c : CallsD Go.Proofs.Try.prog 51 spec_GraphOk_F :=
  fn_contract (F := spec_GraphOk_F) (C := spec_GraphOk_orc) mix (chkTab_get tab_ok) (orc_cons spec_EdgesOk_c (orc_cons spec_l02Reach_c orc_nil)) spec_GraphOk_ann (fn := Go.Proofs.Try.f51) (by kernel_rfl) (by kernel_rfl) (by kernel_rfl) (by kernel_rfl) (by kernel_rfl) (fun x y h => (spec_GraphOk_eq x).trans h)

def spec_AddEdge_ins : List Item := [.agg 0 [.int .i64, .ro .ii], .t 1 (.int .i64), .t 2 (.int .i64)]
def spec_AddEdge_outs : List Item := [.agg 500 [.int .i64, .own 76 .ii], .t 501 (.bool)]
def spec_AddEdge_ann : List (Nat × List Item) := [(12, [.t 1 (.int .i64), .t 2 (.int .i64), .t 3 (.ptr 3), .t 6 (.ptr 6), .t 42 (.bool), .box 3 29 [.int .i64, .ro .ii], .box 6 29 [.int .i64, .cn (.slice none 0 0)]]),
  (506, [.t 6 (.ptr 6), .t 8 (.ptr 8), .t 9 (.ptr 9), .t 10 (.bool), .t 55 (.ro .ii), .t 56 (.int .i64), .t 57 (.int .i64), .box 6 29 [.int .i64, .cn (.slice none 0 0)], .box 8 76 [.int .i64, .int .i64], .box 9 29 [.int .i64, .own 76 .ii]]),
  (129636, [.t 6 (.ptr 6), .t 8 (.ptr 8), .t 9 (.ptr 9), .t 10 (.bool), .t 12 (.ptr 12), .t 55 (.ro .ii), .t 56 (.int .i64), .t 57 (.int .i64), .t 83 (.bool), .box 6 29 [.int .i64, .cn (.slice none 0 0)], .box 8 76 [.int .i64, .int .i64], .box 9 29 [.int .i64, .own 76 .ii], .box 12 76 [.int .i64, .int .i64]])]
noncomputable def spec_AddEdge_J129636 : Bool × (List (Int × Int)) × Int × Int × Bool × Int × Int × Int × Int × (List (Int × Int)) × Int × Int × Unit → Option (((Bool × (List (Int × Int)) × Int × Int × Int × Int × Int × Int × (List (Int × Int)) × Unit) ⊕ Int × (List (Int × Int)) × Bool × Unit)) := fun (t10, t55, t56, t57, t83, b6_0, b8_0, b8_1, b9_0, b9_1, b12_0, b12_1, _) =>
  cond t83
    (chk ((b9_1).length + (([(b8_0, b8_1)] : List (Int × Int))).length ≤ 8796093022208) (chk (((b9_1 ++ ([(b8_0, b8_1)] : List (Int × Int)))).length + (([(b12_0, b12_1)] : List (Int × Int))).length ≤ 8796093022208) (some (.inl (true, t55, t56, (w64 (t57 + 1)), b6_0, b8_0, b8_1, b9_0, ((b9_1 ++ ([(b8_0, b8_1)] : List (Int × Int))) ++ ([(b12_0, b12_1)] : List (Int × Int))), ())))))
    (chk ((b9_1).length + (([(b12_0, b12_1)] : List (Int × Int))).length ≤ 8796093022208) (some (.inl (t10, t55, t56, (w64 (t57 + 1)), b6_0, b8_0, b8_1, b9_0, (b9_1 ++ ([(b12_0, b12_1)] : List (Int × Int))), ()))))
noncomputable def spec_AddEdge_L506 : Bool × (List (Int × Int)) × Int × Int × Int × Int × Int × Int × (List (Int × Int)) × Unit → Option ((Bool × (List (Int × Int)) × Int × Int × Int × Int × Int × Int × (List (Int × Int)) × Unit) ⊕ (Int × (List (Int × Int)) × Bool × Unit)) := fun (t10, t55, t56, t57, b6_0, b8_0, b8_1, b9_0, b9_1, _) =>
  cond (decide (t57 < t56))
    (chk (0 ≤ t57 ∧ t57 < ((t55).length : Int)) (joinB (T := Bool × (List (Int × Int)) × Int × Int × Bool × Int × Int × Int × Int × (List (Int × Int)) × Int × Int × Unit) (R := ((Bool × (List (Int × Int)) × Int × Int × Int × Int × Int × Int × (List (Int × Int)) × Unit) ⊕ Int × (List (Int × Int)) × Bool × Unit)) (cond (!t10)
    (cond (decide ((atD (0, 0) t55 t57).1 > b8_0))
    (some (.inl (t10, t55, t56, t57, true, b6_0, b8_0, b8_1, b9_0, b9_1, (atD (0, 0) t55 t57).1, (atD (0, 0) t55 t57).2, ())))
    (cond ((atD (0, 0) t55 t57).1 == b8_0)
    (some (.inl (t10, t55, t56, t57, (decide ((atD (0, 0) t55 t57).2 > b8_1)), b6_0, b8_0, b8_1, b9_0, b9_1, (atD (0, 0) t55 t57).1, (atD (0, 0) t55 t57).2, ())))
    (some (.inl (t10, t55, t56, t57, false, b6_0, b8_0, b8_1, b9_0, b9_1, (atD (0, 0) t55 t57).1, (atD (0, 0) t55 t57).2, ())))))
    (some (.inl (t10, t55, t56, t57, false, b6_0, b8_0, b8_1, b9_0, b9_1, (atD (0, 0) t55 t57).1, (atD (0, 0) t55 t57).2, ())))) spec_AddEdge_J129636))
    (Option.map Sum.inr (cond (!t10)
    (chk ((b9_1).length + (([(b8_0, b8_1)] : List (Int × Int))).length ≤ 8796093022208) (some (b9_0, (b9_1 ++ ([(b8_0, b8_1)] : List (Int × Int))), true, ())))
    (some (b9_0, b9_1, true, ()))))
noncomputable def spec_AddEdge_J12 : Int × Int × Bool × Int × (List (Int × Int)) × Int × Unit → Option (Int × (List (Int × Int)) × Bool × Unit) := fun (t1, t2, t42, b3_0, b3_1, b6_0, _) =>
  cond t42
    (some (0, ([] : List (Int × Int)), false, ()))
    (loopM spec_AddEdge_L506 (false, b3_1, ((b3_1).length : Int), 0, b6_0, (min2 t1 t2), (max2 t1 t2), b3_0, ([] : List (Int × Int)), ()))
noncomputable def spec_AddEdge : Int × (List (Int × Int)) × Int × Int × Unit → Option (Int × (List (Int × Int)) × Bool × Unit) := fun (t0_0, t0_1, t1, t2, _) =>
  joinB (T := Int × Int × Bool × Int × (List (Int × Int)) × Int × Unit) (R := Int × (List (Int × Int)) × Bool × Unit) (Option.bind (spec_GraphOk (t0_0, t0_1, ())) fun (v2, _) => cond (!v2)
    (some (.inl (t1, t2, true, t0_0, t0_1, 0, ())))
    (Option.bind (spec_l01In (t1, 0, (w64 (t0_0 - 1)), ())) fun (v3, _) => cond (!v3)
    (some (.inl (t1, t2, true, t0_0, t0_1, 0, ())))
    (Option.bind (spec_l01In (t2, 0, (w64 (t0_0 - 1)), ())) fun (v4, _) => cond (!v4)
    (some (.inl (t1, t2, true, t0_0, t0_1, 0, ())))
    (cond (t1 == t2)
    (some (.inl (t1, t2, true, t0_0, t0_1, 0, ())))
    (some (.inl (t1, t2, (((t0_1).length : Int) == 12), t0_0, t0_1, 0, ()))))))) spec_AddEdge_J12
noncomputable def spec_AddEdge_F : Fun := ⟨spec_AddEdge_ins, [], spec_AddEdge_outs, spec_AddEdge⟩
noncomputable def spec_AddEdge_orc : Orc := orcGet [(51, spec_GraphOk_F), (122, spec_l01In_F)]
theorem spec_AddEdge_eq (x : Den spec_AddEdge_ins) : pmFn (tdGet tab) spec_AddEdge_orc spec_AddEdge_F.mn spec_AddEdge_ann Go.Proofs.Try.f105 spec_AddEdge_ins spec_AddEdge_outs x = spec_AddEdge x := by kernel_rfl
theorem spec_AddEdge_c : CallsD Go.Proofs.Try.prog 105 spec_AddEdge_F :=
  fn_contract (F := spec_AddEdge_F) (C := spec_AddEdge_orc) mix (chkTab_get tab_ok) (orc_cons spec_GraphOk_c (orc_cons spec_l01In_c orc_nil)) spec_AddEdge_ann (fn := Go.Proofs.Try.f105) (by kernel_rfl) (by kernel_rfl) (by kernel_rfl) (by kernel_rfl) (by kernel_rfl) (fun x y h => (spec_AddEdge_eq x).trans h)

def spec_l02Draw_ins : List Item := [.t 0 (.ptr 900), .t 1 (.int .i64), .box 900 115 [.ro (.int .u8), .int .i64, .int .i64]]
def spec_l02Draw_outs : List Item := [.agg 500 [.int .i64, .own 76 .ii], .box 900 115 [.ro (.int .u8), .int .i64, .int .i64]]
def spec_l02Draw_ann : List (Nat × List Item) := [(61, [.t 0 (.ptr 900), .t 4 (.ptr 4), .t 5 (.ptr 5), .t 6 (.int .i64), .box 900 115 [.ro (.int .u8), .int .i64, .int .i64], .box 4 29 [.int .i64, .cn (.slice none 0 0)], .box 5 29 [.int .i64, .own 76 .ii]]),
  (122, [.t 0 (.ptr 900), .t 4 (.ptr 4), .t 5 (.ptr 5), .t 6 (.int .i64), .t 7 (.int .i64), .box 900 115 [.ro (.int .u8), .int .i64, .int .i64], .box 4 29 [.int .i64, .cn (.slice none 0 0)], .box 5 29 [.int .i64, .own 76 .ii]]),
  (253, [.t 0 (.ptr 900), .t 4 (.ptr 4), .t 6 (.int .i64), .t 9 (.ptr 9), .box 900 115 [.ro (.int .u8), .int .i64, .int .i64], .box 4 29 [.int .i64, .cn (.slice none 0 0)], .box 9 29 [.int .i64, .own 76 .ii]]),
  (506, [.t 0 (.ptr 900), .t 4 (.ptr 4), .t 5 (.ptr 5), .t 6 (.int .i64), .t 9 (.ptr 9), .t 10 (.int .i64), .box 900 115 [.ro (.int .u8), .int .i64, .int .i64], .box 4 29 [.int .i64, .cn (.slice none 0 0)], .box 5 29 [.int .i64, .own 76 .ii], .box 9 29 [.int .i64, .own 76 .ii]]),
  (1018, [.t 0 (.ptr 900), .t 4 (.ptr 4), .t 6 (.int .i64), .t 9 (.ptr 9), .t 13 (.int .i64), .box 900 115 [.ro (.int .u8), .int .i64, .int .i64], .box 4 29 [.int .i64, .cn (.slice none 0 0)], .box 9 29 [.int .i64, .own 76 .ii]]),
  (32402, [.t 0 (.ptr 900), .t 4 (.ptr 4), .t 5 (.ptr 5), .t 6 (.int .i64), .t 9 (.ptr 9), .t 10 (.int .i64), .t 11 (.int .i64), .box 900 115 [.ro (.int .u8), .int .i64, .int .i64], .box 4 29 [.int .i64, .cn (.slice none 0 0)], .box 5 29 [.int .i64, .own 76 .ii], .box 9 29 [.int .i64, .own 76 .ii]]),
  (2073746, [.t 0 (.ptr 900), .t 4 (.ptr 4), .t 5 (.ptr 5), .t 6 (.int .i64), .t 9 (.ptr 9), .t 10 (.int .i64), .t 11 (.int .i64), .t 12 (.int .i64), .box 900 115 [.ro (.int .u8), .int .i64, .int .i64], .box 4 29 [.int .i64, .cn (.slice none 0 0)], .box 5 29 [.int .i64, .own 76 .ii], .box 9 29 [.int .i64, .own 76 .ii]])]
noncomputable def spec_l02Draw_L122 : Int × Int × (List Int) × Int × Int × Int × Int × (List (Int × Int)) × Unit → Option ((Int × Int × (List Int) × Int × Int × Int × Int × (List (Int × Int)) × Unit) ⊕ (((Int × (List Int) × Int × Int × Int × Int × (List (Int × Int)) × Unit) ⊕ Int × (List (Int × Int)) × (List Int) × Int × Int × Unit))) := fun (t6, t7, b900_0, b900_1, b900_2, b4_0, b5_0, b5_1, _) =>
  cond (decide (t7 < t6))
    (Option.bind (spec_l01Below (t7, b900_0, b900_1, b900_2, ())) fun (v6, v7, v8, v9, _) => chk ((b5_1).length + (([(v6, t7)] : List (Int × Int))).length ≤ 8796093022208) (some (.inl (t6, (w64 (t7 + 1)), v7, v8, v9, b4_0, (w64 (t7 + 1)), (b5_1 ++ ([(v6, t7)] : List (Int × Int))), ()))))
    (Option.map Sum.inr (some (.inl (t6, b900_0, b900_1, b900_2, b4_0, b5_0, b5_1, ()))))
noncomputable def spec_l02Draw_L2073746 : Int × Int × Int × Int × (List Int) × Int × Int × Int × Int × (List (Int × Int)) × Int × (List (Int × Int)) × Unit → Option ((Int × Int × Int × Int × (List Int) × Int × Int × Int × Int × (List (Int × Int)) × Int × (List (Int × Int)) × Unit) ⊕ (((Int × Int × Int × (List Int) × Int × Int × Int × Int × (List (Int × Int)) × Int × (List (Int × Int)) × Unit) ⊕ ((Int × Int × (List Int) × Int × Int × Int × Int × (List (Int × Int)) × Int × (List (Int × Int)) × Unit) ⊕ ((Int × (List Int) × Int × Int × Int × Int × (List (Int × Int)) × Unit) ⊕ Int × (List (Int × Int)) × (List Int) × Int × Int × Unit))))) := fun (t6, t10, t11, t12, b900_0, b900_1, b900_2, b4_0, b5_0, b5_1, b9_0, b9_1, _) =>
  cond (decide (t12 > 0))
    (chk ((b9_1).length + (([(t10, t11)] : List (Int × Int))).length ≤ 8796093022208) (some (.inl (t6, t10, t11, (w64 (t12 - 1)), b900_0, b900_1, b900_2, b4_0, b5_0, b5_1, b9_0, (b9_1 ++ ([(t10, t11)] : List (Int × Int))), ()))))
    (Option.map Sum.inr (some (.inl (t6, t10, (w64 (t11 + 1)), b900_0, b900_1, b900_2, b4_0, b5_0, b5_1, b9_0, b9_1, ()))))
noncomputable def spec_l02Draw_L32402 : Int × Int × Int × (List Int) × Int × Int × Int × Int × (List (Int × Int)) × Int × (List (Int × Int)) × Unit → Option ((Int × Int × Int × (List Int) × Int × Int × Int × Int × (List (Int × Int)) × Int × (List (Int × Int)) × Unit) ⊕ (((Int × Int × (List Int) × Int × Int × Int × Int × (List (Int × Int)) × Int × (List (Int × Int)) × Unit) ⊕ ((Int × (List Int) × Int × Int × Int × Int × (List (Int × Int)) × Unit) ⊕ Int × (List (Int × Int)) × (List Int) × Int × Int × Unit)))) := fun (t6, t10, t11, b900_0, b900_1, b900_2, b4_0, b5_0, b5_1, b9_0, b9_1, _) =>
  cond (decide (t11 < t6))
    (Option.bind (spec_Multiplicity (b5_0, b5_1, t10, t11, ())) fun (v11, _) => loopM spec_l02Draw_L2073746 (t6, t10, t11, v11, b900_0, b900_1, b900_2, b4_0, b5_0, b5_1, b9_0, b9_1, ()))
    (Option.map Sum.inr (some (.inl (t6, (w64 (t10 + 1)), b900_0, b900_1, b900_2, b4_0, b5_0, b5_1, b9_0, b9_1, ()))))
noncomputable def spec_l02Draw_L506 : Int × Int × (List Int) × Int × Int × Int × Int × (List (Int × Int)) × Int × (List (Int × Int)) × Unit → Option ((Int × Int × (List Int) × Int × Int × Int × Int × (List (Int × Int)) × Int × (List (Int × Int)) × Unit) ⊕ (((Int × (List Int) × Int × Int × Int × Int × (List (Int × Int)) × Unit) ⊕ Int × (List (Int × Int)) × (List Int) × Int × Int × Unit))) := fun (t6, t10, b900_0, b900_1, b900_2, b4_0, b5_0, b5_1, b9_0, b9_1, _) =>
  cond (decide (t10 < t6))
    (loopM spec_l02Draw_L32402 (t6, t10, (w64 (t10 + 1)), b900_0, b900_1, b900_2, b4_0, b5_0, b5_1, b9_0, b9_1, ()))
    (Option.map Sum.inr (some (.inl (t6, b900_0, b900_1, b900_2, b4_0, b9_0, b9_1, ()))))
noncomputable def spec_l02Draw_L1018 : Int × Int × (List Int) × Int × Int × Int × Int × (List (Int × Int)) × Unit → Option ((Int × Int × (List Int) × Int × Int × Int × Int × (List (Int × Int)) × Unit) ⊕ (Int × (List (Int × Int)) × (List Int) × Int × Int × Unit)) := fun (t6, t13, b900_0, b900_1, b900_2, b4_0, b9_0, b9_1, _) =>
  cond (decide (t13 > 0))
    (Option.bind (spec_l01Below (t6, b900_0, b900_1, b900_2, ())) fun (v16, v17, v18, v19, _) => Option.bind (spec_l01Below ((w64 (t6 - 1)), v17, v18, v19, ())) fun (v20, v21, v22, v23, _) => chk (t6 ≠ 0) (Option.bind (spec_AddEdge (b9_0, b9_1, v16, ((w64 ((w64 (v16 + 1)) + v20)).tmod t6), ())) fun (v24, v25, v26, _) => cond v26
    (some (.inl (t6, (w64 (t13 - 1)), v21, v22, v23, b4_0, v24, v25, ())))
    (some (.inl (t6, (w64 (t13 - 1)), v21, v22, v23, b4_0, b9_0, b9_1, ())))))
    (Option.map Sum.inr (some (b9_0, b9_1, b900_0, b900_1, b900_2, ())))
noncomputable def spec_l02Draw_J253 : Int × (List Int) × Int × Int × Int × Int × (List (Int × Int)) × Unit → Option (Int × (List (Int × Int)) × (List Int) × Int × Int × Unit) := fun (t6, b900_0, b900_1, b900_2, b4_0, b9_0, b9_1, _) =>
  Option.bind (spec_l01Below (5, b900_0, b900_1, b900_2, ())) fun (v12, v13, v14, v15, _) => loopM spec_l02Draw_L1018 (t6, v12, v13, v14, v15, b4_0, b9_0, b9_1, ())
noncomputable def spec_l02Draw_J61 : Int × (List Int) × Int × Int × Int × Int × (List (Int × Int)) × Unit → Option (Int × (List (Int × Int)) × (List Int) × Int × Int × Unit) := fun (t6, b900_0, b900_1, b900_2, b4_0, b5_0, b5_1, _) =>
  joinB (T := Int × (List Int) × Int × Int × Int × Int × (List (Int × Int)) × Unit) (R := Int × (List (Int × Int)) × (List Int) × Int × Int × Unit) (loopM spec_l02Draw_L506 (t6, 0, b900_0, b900_1, b900_2, b4_0, b5_0, b5_1, t6, ([] : List (Int × Int)), ())) spec_l02Draw_J253
noncomputable def spec_l02Draw : Int × (List Int) × Int × Int × Unit → Option (Int × (List (Int × Int)) × (List Int) × Int × Int × Unit) := fun (t1, b900_0, b900_1, b900_2, _) =>
  Option.bind (spec_l01Below ((w64 (t1 - 1)), b900_0, b900_1, b900_2, ())) fun (v1, v2, v3, v4, _) => joinB (T := Int × (List Int) × Int × Int × Int × Int × (List (Int × Int)) × Unit) (R := Int × (List (Int × Int)) × (List Int) × Int × Int × Unit) (loopM spec_l02Draw_L122 ((w64 (2 + v1)), 1, v2, v3, v4, 0, 1, ([] : List (Int × Int)), ())) spec_l02Draw_J61
noncomputable def spec_l02Draw_F : Fun := ⟨spec_l02Draw_ins, [900], spec_l02Draw_outs, spec_l02Draw⟩
noncomputable def spec_l02Draw_orc : Orc := orcGet [(74, spec_l01Below_F), (104, spec_Multiplicity_F), (105, spec_AddEdge_F)]
theorem spec_l02Draw_eq (x : Den spec_l02Draw_ins) : pmFn (tdGet tab) spec_l02Draw_orc spec_l02Draw_F.mn spec_l02Draw_ann Go.Proofs.Try.f60 spec_l02Draw_ins spec_l02Draw_outs x = spec_l02Draw x := by kernel_rfl
theorem spec_l02Draw_c : CallsD Go.Proofs.Try.prog 60 spec_l02Draw_F :=
  fn_contract (F := spec_l02Draw_F) (C := spec_l02Draw_orc) mix (chkTab_get tab_ok) (orc_cons spec_l01Below_c (orc_cons spec_Multiplicity_c (orc_cons spec_AddEdge_c orc_nil))) spec_l02Draw_ann (fn := Go.Proofs.Try.f60) (by kernel_rfl) (by kernel_rfl) (by kernel_rfl) (by kernel_rfl) (by kernel_rfl) (fun x y h => (spec_l02Draw_eq x).trans h)

def spec_MakeSmall_ins : List Item := [.t 0 (.ro (.int .u8))]
def spec_MakeSmall_outs : List Item := [.agg 500 [.int .i64, .own 76 .ii]]
def spec_MakeSmall_ann : List (Nat × List Item) := []
noncomputable def spec_MakeSmall : (List Int) × Unit → Option (Int × (List (Int × Int)) × Unit) := fun (t0, _) =>
  Option.bind (spec_l01New (t0, ())) fun (v1, v2, v3, _) => Option.bind (spec_l02Draw (4, v1, v2, v3, ())) fun (v4, v5, v6, v7, v8, _) => some (v4, v5, ())
noncomputable def spec_MakeSmall_F : Fun := ⟨spec_MakeSmall_ins, [], spec_MakeSmall_outs, spec_MakeSmall⟩
noncomputable def spec_MakeSmall_orc : Orc := orcGet [(60, spec_l02Draw_F), (61, spec_l01New_F)]
theorem spec_MakeSmall_eq (x : Den spec_MakeSmall_ins) : pmFn (tdGet tab) spec_MakeSmall_orc spec_MakeSmall_F.mn spec_MakeSmall_ann Go.Proofs.Try.f14 spec_MakeSmall_ins spec_MakeSmall_outs x = spec_MakeSmall x := by kernel_rfl
theorem spec_MakeSmall_c : CallsD Go.Proofs.Try.prog 14 spec_MakeSmall_F :=
  fn_contract (F := spec_MakeSmall_F) (C := spec_MakeSmall_orc) mix (chkTab_get tab_ok) (orc_cons spec_l02Draw_c (orc_cons spec_l01New_c orc_nil)) spec_MakeSmall_ann (fn := Go.Proofs.Try.f14) (by kernel_rfl) (by kernel_rfl) (by kernel_rfl) (by kernel_rfl) (by kernel_rfl) (fun x y h => (spec_MakeSmall_eq x).trans h)

def impl_within_ins : List Item := [.t 0 (.int .i64), .t 1 (.int .i64), .t 2 (.int .i64)]
def impl_within_outs : List Item := [.t 500 (.bool)]
def impl_within_ann : List (Nat × List Item) := []
noncomputable def impl_within : Int × Int × Int × Unit → Option (Bool × Unit) := fun (t0, t1, t2, _) =>
  cond (decide (t0 ≥ t1))
    (some ((decide (t0 ≤ t2)), ()))
    (some (false, ()))
noncomputable def impl_within_F : Fun := ⟨impl_within_ins, [], impl_within_outs, impl_within⟩
noncomputable def impl_within_orc : Orc := orcGet []
theorem impl_within_eq (x : Den impl_within_ins) : pmFn (tdGet tab) impl_within_orc impl_within_F.mn impl_within_ann Go.Proofs.Try.f71 impl_within_ins impl_within_outs x = impl_within x := by kernel_rfl
theorem impl_within_c : CallsD Go.Proofs.Try.prog 71 impl_within_F :=
  fn_contract (F := impl_within_F) (C := impl_within_orc) mix (chkTab_get tab_ok) orc_nil impl_within_ann (fn := Go.Proofs.Try.f71) (by kernel_rfl) (by kernel_rfl) (by kernel_rfl) (by kernel_rfl) (by kernel_rfl) (fun x y h => (impl_within_eq x).trans h)

def impl_EdgesOk_ins : List Item := [.agg 0 [.int .i64, .ro .ii]]
def impl_EdgesOk_outs : List Item := [.t 500 (.bool)]
def impl_EdgesOk_ann : List (Nat × List Item) := [(12, [.t 1 (.ptr 1), .t 14 (.bool), .box 1 29 [.int .i64, .ro .ii]]),
  (58, [.t 1 (.ptr 1), .t 16 (.ro .ii), .t 17 (.int .i64), .t 18 (.int .i64), .box 1 29 [.int .i64, .ro .ii]])]
noncomputable def impl_EdgesOk_L58 : (List (Int × Int)) × Int × Int × Int × (List (Int × Int)) × Unit → Option (((List (Int × Int)) × Int × Int × Int × (List (Int × Int)) × Unit) ⊕ (Bool × Unit)) := fun (t16, t17, t18, b1_0, b1_1, _) =>
  cond (decide (t18 < t17))
    (chk (0 ≤ t18 ∧ t18 < ((t16).length : Int)) (cond (decide ((atD (0, 0) t16 t18).1 < 0))
    (Option.map Sum.inr (some (false, ())))
    (cond (decide ((atD (0, 0) t16 t18).1 ≥ (atD (0, 0) t16 t18).2))
    (Option.map Sum.inr (some (false, ())))
    (cond (decide ((atD (0, 0) t16 t18).2 ≥ b1_0))
    (Option.map Sum.inr (some (false, ())))
    (some (.inl (t16, t17, (w64 (t18 + 1)), b1_0, b1_1, ())))))))
    (Option.map Sum.inr (some (true, ())))
noncomputable def impl_EdgesOk_J12 : Bool × Int × (List (Int × Int)) × Unit → Option (Bool × Unit) := fun (t14, b1_0, b1_1, _) =>
  cond t14
    (some (false, ()))
    (loopM impl_EdgesOk_L58 (b1_1, ((b1_1).length : Int), 0, b1_0, b1_1, ()))
noncomputable def impl_EdgesOk : Int × (List (Int × Int)) × Unit → Option (Bool × Unit) := fun (t0_0, t0_1, _) =>
  joinB (T := Bool × Int × (List (Int × Int)) × Unit) (R := Bool × Unit) (Option.bind (impl_within (t0_0, 1, 6, ())) fun (v2, _) => cond (!v2)
    (some (.inl (true, t0_0, t0_1, ())))
    (some (.inl ((decide (((t0_1).length : Int) > 12)), t0_0, t0_1, ())))) impl_EdgesOk_J12
noncomputable def impl_EdgesOk_F : Fun := ⟨impl_EdgesOk_ins, [], impl_EdgesOk_outs, impl_EdgesOk⟩
noncomputable def impl_EdgesOk_orc : Orc := orcGet [(71, impl_within_F)]
theorem impl_EdgesOk_eq (x : Den impl_EdgesOk_ins) : pmFn (tdGet tab) impl_EdgesOk_orc impl_EdgesOk_F.mn impl_EdgesOk_ann Go.Proofs.Try.f100 impl_EdgesOk_ins impl_EdgesOk_outs x = impl_EdgesOk x := by kernel_rfl
theorem impl_EdgesOk_c : CallsD Go.Proofs.Try.prog 100 impl_EdgesOk_F :=
  fn_contract (F := impl_EdgesOk_F) (C := impl_EdgesOk_orc) mix (chkTab_get tab_ok) (orc_cons impl_within_c orc_nil) impl_EdgesOk_ann (fn := Go.Proofs.Try.f100) (by kernel_rfl) (by kernel_rfl) (by kernel_rfl) (by kernel_rfl) (by kernel_rfl) (fun x y h => (impl_EdgesOk_eq x).trans h)

def cmp_isNaN_int_ins : List Item := [.t 0 (.int .i64)]
def cmp_isNaN_int_outs : List Item := [.t 500 (.bool)]
def cmp_isNaN_int_ann : List (Nat × List Item) := []
noncomputable def cmp_isNaN_int : Int × Unit → Option (Bool × Unit) := fun (t0, _) =>
  some ((t0 != t0), ())
noncomputable def cmp_isNaN_int_F : Fun := ⟨cmp_isNaN_int_ins, [], cmp_isNaN_int_outs, cmp_isNaN_int⟩
noncomputable def cmp_isNaN_int_orc : Orc := orcGet []
theorem cmp_isNaN_int_eq (x : Den cmp_isNaN_int_ins) : pmFn (tdGet tab) cmp_isNaN_int_orc cmp_isNaN_int_F.mn cmp_isNaN_int_ann Go.Proofs.Try.f157 cmp_isNaN_int_ins cmp_isNaN_int_outs x = cmp_isNaN_int x := by kernel_rfl
theorem cmp_isNaN_int_c : CallsD Go.Proofs.Try.prog 157 cmp_isNaN_int_F :=
  fn_contract (F := cmp_isNaN_int_F) (C := cmp_isNaN_int_orc) mix (chkTab_get tab_ok) orc_nil cmp_isNaN_int_ann (fn := Go.Proofs.Try.f157) (by kernel_rfl) (by kernel_rfl) (by kernel_rfl) (by kernel_rfl) (by kernel_rfl) (fun x y h => (cmp_isNaN_int_eq x).trans h)

def cmp_Compare_int_ins : List Item := [.t 0 (.int .i64), .t 1 (.int .i64)]
def cmp_Compare_int_outs : List Item := [.t 500 (.int .i64)]
def cmp_Compare_int_ann : List (Nat × List Item) := []
noncomputable def cmp_Compare_int : Int × Int × Unit → Option (Int × Unit) := fun (t0, t1, _) =>
  Option.bind (cmp_isNaN_int (t0, ())) fun (v1, _) => Option.bind (cmp_isNaN_int (t1, ())) fun (v2, _) => cond v1
    (cond v2
    (some (0, ()))
    (some ((-1), ())))
    (cond v2
    (some (1, ()))
    (cond (decide (t0 < t1))
    (some ((-1), ()))
    (cond (decide (t0 > t1))
    (some (1, ()))
    (some (0, ())))))
noncomputable def cmp_Compare_int_F : Fun := ⟨cmp_Compare_int_ins, [], cmp_Compare_int_outs, cmp_Compare_int⟩
noncomputable def cmp_Compare_int_orc : Orc := orcGet [(157, cmp_isNaN_int_F)]
theorem cmp_Compare_int_eq (x : Den cmp_Compare_int_ins) : pmFn (tdGet tab) cmp_Compare_int_orc cmp_Compare_int_F.mn cmp_Compare_int_ann Go.Proofs.Try.f138 cmp_Compare_int_ins cmp_Compare_int_outs x = cmp_Compare_int x := by kernel_rfl
theorem cmp_Compare_int_c : CallsD Go.Proofs.Try.prog 138 cmp_Compare_int_F :=
  fn_contract (F := cmp_Compare_int_F) (C := cmp_Compare_int_orc) mix (chkTab_get tab_ok) (orc_cons cmp_isNaN_int_c orc_nil) cmp_Compare_int_ann (fn := Go.Proofs.Try.f138) (by kernel_rfl) (by kernel_rfl) (by kernel_rfl) (by kernel_rfl) (by kernel_rfl) (fun x y h => (cmp_Compare_int_eq x).trans h)

def impl_compareEdges_ins : List Item := [.agg 0 [.int .i64, .int .i64], .agg 1 [.int .i64, .int .i64]]
def impl_compareEdges_outs : List Item := [.t 500 (.int .i64)]
def impl_compareEdges_ann : List (Nat × List Item) := []
noncomputable def impl_compareEdges : Int × Int × Int × Int × Unit → Option (Int × Unit) := fun (t0_0, t0_1, t1_0, t1_1, _) =>
  Option.bind (cmp_Compare_int (t0_0, t1_0, ())) fun (v1, _) => cond (v1 != 0)
    (some (v1, ()))
    (Option.bind (cmp_Compare_int (t0_1, t1_1, ())) fun (v2, _) => some (v2, ()))
noncomputable def impl_compareEdges_F : Fun := ⟨impl_compareEdges_ins, [], impl_compareEdges_outs, impl_compareEdges⟩
noncomputable def impl_compareEdges_orc : Orc := orcGet [(138, cmp_Compare_int_F)]
theorem impl_compareEdges_eq (x : Den impl_compareEdges_ins) : pmFn (tdGet tab) impl_compareEdges_orc impl_compareEdges_F.mn impl_compareEdges_ann Go.Proofs.Try.f102 impl_compareEdges_ins impl_compareEdges_outs x = impl_compareEdges x := by kernel_rfl
theorem impl_compareEdges_c : CallsD Go.Proofs.Try.prog 102 impl_compareEdges_F :=
  fn_contract (F := impl_compareEdges_F) (C := impl_compareEdges_orc) mix (chkTab_get tab_ok) (orc_cons cmp_Compare_int_c orc_nil) impl_compareEdges_ann (fn := Go.Proofs.Try.f102) (by kernel_rfl) (by kernel_rfl) (by kernel_rfl) (by kernel_rfl) (by kernel_rfl) (fun x y h => (impl_compareEdges_eq x).trans h)

def slices_IsSortedFunc_impl_Edge_impl_Edge_ins : List Item := [.t 0 (.ro .ii), .t 1 (.fn 102 [])]
def slices_IsSortedFunc_impl_Edge_impl_Edge_outs : List Item := [.t 500 (.bool)]
def slices_IsSortedFunc_impl_Edge_impl_Edge_ann : List (Nat × List Item) := [(26, [.t 0 (.ro .ii), .t 1 (.fn 102 []), .t 5 (.int .i64)])]
noncomputable def slices_IsSortedFunc_impl_Edge_impl_Edge_L26 : (List (Int × Int)) × Int × Unit → Option (((List (Int × Int)) × Int × Unit) ⊕ (Bool × Unit)) := fun (t0, t5, _) =>
  cond (decide (t5 > 0))
    (chk (0 ≤ t5 ∧ t5 < ((t0).length : Int)) (chk (0 ≤ (w64 (t5 - 1)) ∧ (w64 (t5 - 1)) < ((t0).length : Int)) (Option.bind (impl_compareEdges ((atD (0, 0) t0 t5).1, (atD (0, 0) t0 t5).2, (atD (0, 0) t0 (w64 (t5 - 1))).1, (atD (0, 0) t0 (w64 (t5 - 1))).2, ())) fun (v1, _) => cond (decide (v1 < 0))
    (Option.map Sum.inr (some (false, ())))
    (some (.inl (t0, (w64 (t5 - 1)), ()))))))
    (Option.map Sum.inr (some (true, ())))
noncomputable def slices_IsSortedFunc_impl_Edge_impl_Edge : (List (Int × Int)) × Unit → Option (Bool × Unit) := fun (t0, _) =>
  loopM slices_IsSortedFunc_impl_Edge_impl_Edge_L26 (t0, (w64 (((t0).length : Int) - 1)), ())
noncomputable def slices_IsSortedFunc_impl_Edge_impl_Edge_F : Fun := ⟨slices_IsSortedFunc_impl_Edge_impl_Edge_ins, [], slices_IsSortedFunc_impl_Edge_impl_Edge_outs, slices_IsSortedFunc_impl_Edge_impl_Edge⟩
noncomputable def slices_IsSortedFunc_impl_Edge_impl_Edge_orc : Orc := orcGet [(102, impl_compareEdges_F)]
theorem slices_IsSortedFunc_impl_Edge_impl_Edge_eq (x : Den slices_IsSortedFunc_impl_Edge_impl_Edge_ins) : pmFn (tdGet tab) slices_IsSortedFunc_impl_Edge_impl_Edge_orc slices_IsSortedFunc_impl_Edge_impl_Edge_F.mn slices_IsSortedFunc_impl_Edge_impl_Edge_ann Go.Proofs.Try.f101 slices_IsSortedFunc_impl_Edge_impl_Edge_ins slices_IsSortedFunc_impl_Edge_impl_Edge_outs x = slices_IsSortedFunc_impl_Edge_impl_Edge x := by kernel_rfl
theorem slices_IsSortedFunc_impl_Edge_impl_Edge_c : CallsD Go.Proofs.Try.prog 101 slices_IsSortedFunc_impl_Edge_impl_Edge_F :=
  fn_contract (F := slices_IsSortedFunc_impl_Edge_impl_Edge_F) (C := slices_IsSortedFunc_impl_Edge_impl_Edge_orc) mix (chkTab_get tab_ok) (orc_cons impl_compareEdges_c orc_nil) slices_IsSortedFunc_impl_Edge_impl_Edge_ann (fn := Go.Proofs.Try.f101) (by kernel_rfl) (by kernel_rfl) (by kernel_rfl) (by kernel_rfl) (by kernel_rfl) (fun x y h => (slices_IsSortedFunc_impl_Edge_impl_Edge_eq x).trans h)

def impl_connected_ins : List Item := [.t 0 (.int .i64), .t 1 (.ro .ii)]
def impl_connected_outs : List Item := [.t 500 (.bool)]
def impl_connected_ann : List (Nat × List Item) := [(58, [.t 0 (.int .i64), .t 1 (.ro .ii), .t 5 (.int .i64), .t 8 (.int .i64), .t 9 (.int .i64)]),
  (7474, [.t 0 (.int .i64), .t 1 (.ro .ii), .t 5 (.int .i64), .t 8 (.int .i64), .t 9 (.int .i64), .t 11 (.ro .ii), .t 12 (.int .i64), .t 13 (.int .i64)])]
noncomputable def impl_connected_L7474 : Int × (List (Int × Int)) × Int × Int × Int × (List (Int × Int)) × Int × Int × Unit → Option ((Int × (List (Int × Int)) × Int × Int × Int × (List (Int × Int)) × Int × Int × Unit) ⊕ (((Int × (List (Int × Int)) × Int × Int × Int × Unit) ⊕ Bool × Unit))) := fun (t0, t1, t5, t8, t9, t11, t12, t13, _) =>
  cond (decide (t13 < t12))
    (chk (0 ≤ t13 ∧ t13 < ((t11).length : Int)) (chk (0 ≤ (atD (0, 0) t11 t13).1) (cond ((iand .i64 (ishr .i64 t5 ((atD (0, 0) t11 t13).1)) 1) == 1)
    (chk (0 ≤ (atD (0, 0) t11 t13).1) (chk (0 ≤ (atD (0, 0) t11 t13).2) (some (.inl (t0, t1, (ior .i64 t5 (ior .i64 (ishl .i64 1 ((atD (0, 0) t11 t13).1)) (ishl .i64 1 ((atD (0, 0) t11 t13).2)))), t8, t9, t11, t12, (w64 (t13 + 1)), ())))))
    (chk (0 ≤ (atD (0, 0) t11 t13).2) (cond ((iand .i64 (ishr .i64 t5 ((atD (0, 0) t11 t13).2)) 1) == 1)
    (chk (0 ≤ (atD (0, 0) t11 t13).1) (chk (0 ≤ (atD (0, 0) t11 t13).2) (some (.inl (t0, t1, (ior .i64 t5 (ior .i64 (ishl .i64 1 ((atD (0, 0) t11 t13).1)) (ishl .i64 1 ((atD (0, 0) t11 t13).2)))), t8, t9, t11, t12, (w64 (t13 + 1)), ())))))
    (some (.inl (t0, t1, t5, t8, t9, t11, t12, (w64 (t13 + 1)), ()))))))))
    (Option.map Sum.inr (some (.inl (t0, t1, t5, t8, (w64 (t9 + 1)), ()))))
noncomputable def impl_connected_L58 : Int × (List (Int × Int)) × Int × Int × Int × Unit → Option ((Int × (List (Int × Int)) × Int × Int × Int × Unit) ⊕ (Bool × Unit)) := fun (t0, t1, t5, t8, t9, _) =>
  cond (decide (t9 < t8))
    (loopM impl_connected_L7474 (t0, t1, t5, t8, t9, t1, ((t1).length : Int), 0, ()))
    (Option.map Sum.inr (chk (0 ≤ t0) (some ((t5 == (w64 ((ishl .i64 1 t0) - 1))), ()))))
noncomputable def impl_connected : Int × (List (Int × Int)) × Unit → Option (Bool × Unit) := fun (t0, t1, _) =>
  loopM impl_connected_L58 (t0, t1, 1, t0, 0, ())
noncomputable def impl_connected_F : Fun := ⟨impl_connected_ins, [], impl_connected_outs, impl_connected⟩
noncomputable def impl_connected_orc : Orc := orcGet []
theorem impl_connected_eq (x : Den impl_connected_ins) : pmFn (tdGet tab) impl_connected_orc impl_connected_F.mn impl_connected_ann Go.Proofs.Try.f95 impl_connected_ins impl_connected_outs x = impl_connected x := by kernel_rfl
theorem impl_connected_c : CallsD Go.Proofs.Try.prog 95 impl_connected_F :=
  fn_contract (F := impl_connected_F) (C := impl_connected_orc) mix (chkTab_get tab_ok) orc_nil impl_connected_ann (fn := Go.Proofs.Try.f95) (by kernel_rfl) (by kernel_rfl) (by kernel_rfl) (by kernel_rfl) (by kernel_rfl) (fun x y h => (impl_connected_eq x).trans h)

def impl_GraphOk_ins : List Item := [.agg 0 [.int .i64, .ro .ii]]
def impl_GraphOk_outs : List Item := [.t 500 (.bool)]
def impl_GraphOk_ann : List (Nat × List Item) := []
noncomputable def impl_GraphOk : Int × (List (Int × Int)) × Unit → Option (Bool × Unit) := fun (t0_0, t0_1, _) =>
  Option.bind (impl_EdgesOk (t0_0, t0_1, ())) fun (v1, _) => cond v1
    (Option.bind (slices_IsSortedFunc_impl_Edge_impl_Edge (t0_1, ())) fun (v2, _) => cond v2
    (Option.bind (impl_connected (t0_0, t0_1, ())) fun (v3, _) => some (v3, ()))
    (some (false, ())))
    (some (false, ()))
noncomputable def impl_GraphOk_F : Fun := ⟨impl_GraphOk_ins, [], impl_GraphOk_outs, impl_GraphOk⟩
noncomputable def impl_GraphOk_orc : Orc := orcGet [(95, impl_connected_F), (100, impl_EdgesOk_F), (101, slices_IsSortedFunc_impl_Edge_impl_Edge_F)]
theorem impl_GraphOk_eq (x : Den impl_GraphOk_ins) : pmFn (tdGet tab) impl_GraphOk_orc impl_GraphOk_F.mn impl_GraphOk_ann Go.Proofs.Try.f54 impl_GraphOk_ins impl_GraphOk_outs x = impl_GraphOk x := by kernel_rfl
theorem impl_GraphOk_c : CallsD Go.Proofs.Try.prog 54 impl_GraphOk_F :=
  fn_contract (F := impl_GraphOk_F) (C := impl_GraphOk_orc) mix (chkTab_get tab_ok) (orc_cons impl_connected_c (orc_cons impl_EdgesOk_c (orc_cons slices_IsSortedFunc_impl_Edge_impl_Edge_c orc_nil))) impl_GraphOk_ann (fn := Go.Proofs.Try.f54) (by kernel_rfl) (by kernel_rfl) (by kernel_rfl) (by kernel_rfl) (by kernel_rfl) (fun x y h => (impl_GraphOk_eq x).trans h)

def impl_IdentityMorphism_ins : List Item := [.agg 0 [.int .i64, .ro .ii]]
def impl_IdentityMorphism_outs : List Item := [.agg 500 [.own 3 (.int .i64), .own 3 (.int .i64)], .t 501 (.bool)]
def impl_IdentityMorphism_ann : List (Nat × List Item) := [(61, [.t 1 (.ptr 1), .t 2 (.ptr 2), .t 4 (.ptr 4), .box 1 29 [.int .i64, .ro .ii], .box 2 37 [.cn (.slice none 0 0), .cn (.slice none 0 0)], .box 4 37 [.own 3 (.int .i64), .cn (.slice none 0 0)]]),
  (122, [.t 1 (.ptr 1), .t 2 (.ptr 2), .t 4 (.ptr 4), .t 5 (.int .i64), .box 1 29 [.int .i64, .ro .ii], .box 2 37 [.cn (.slice none 0 0), .cn (.slice none 0 0)], .box 4 37 [.own 3 (.int .i64), .cn (.slice none 0 0)]]),
  (250, [.t 2 (.ptr 2), .t 4 (.ptr 4), .t 25 (.int .i64), .t 26 (.int .i64), .box 2 37 [.cn (.slice none 0 0), .cn (.slice none 0 0)], .box 4 37 [.own 3 (.int .i64), .own 3 (.int .i64)]])]
noncomputable def impl_IdentityMorphism_L122 : Int × Int × (List (Int × Int)) × (List Int) × Unit → Option ((Int × Int × (List (Int × Int)) × (List Int) × Unit) ⊕ (((Int × (List (Int × Int)) × (List Int) × Unit) ⊕ (List Int) × (List Int) × Bool × Unit))) := fun (t5, b1_0, b1_1, b4_0, _) =>
  cond (decide (t5 < b1_0))
    (chk ((b4_0).length + (([t5] : List Int)).length ≤ 17592186044416) (some (.inl ((w64 (t5 + 1)), b1_0, b1_1, (b4_0 ++ ([t5] : List Int)), ()))))
    (Option.map Sum.inr (some (.inl (b1_0, b1_1, b4_0, ()))))
noncomputable def impl_IdentityMorphism_L250 : Int × Int × (List Int) × (List Int) × Unit → Option ((Int × Int × (List Int) × (List Int) × Unit) ⊕ ((List Int) × (List Int) × Bool × Unit)) := fun (t25, t26, b4_0, b4_1, _) =>
  cond (decide (t26 < t25))
    (chk ((b4_1).length + (([t26] : List Int)).length ≤ 17592186044416) (some (.inl (t25, (w64 (t26 + 1)), b4_0, (b4_1 ++ ([t26] : List Int)), ()))))
    (Option.map Sum.inr (some (b4_0, b4_1, true, ())))
noncomputable def impl_IdentityMorphism_J61 : Int × (List (Int × Int)) × (List Int) × Unit → Option ((List Int) × (List Int) × Bool × Unit) := fun (b1_0, b1_1, b4_0, _) =>
  loopM impl_IdentityMorphism_L250 (((b1_1).length : Int), 0, b4_0, ([] : List Int), ())
noncomputable def impl_IdentityMorphism : Int × (List (Int × Int)) × Unit → Option ((List Int) × (List Int) × Bool × Unit) := fun (t0_0, t0_1, _) =>
  Option.bind (impl_GraphOk (t0_0, t0_1, ())) fun (v1, _) => cond (!v1)
    (some (([] : List Int), ([] : List Int), false, ()))
    (joinB (T := Int × (List (Int × Int)) × (List Int) × Unit) (R := (List Int) × (List Int) × Bool × Unit) (loopM impl_IdentityMorphism_L122 (0, t0_0, t0_1, ([] : List Int), ())) impl_IdentityMorphism_J61)
noncomputable def impl_IdentityMorphism_F : Fun := ⟨impl_IdentityMorphism_ins, [], impl_IdentityMorphism_outs, impl_IdentityMorphism⟩
noncomputable def impl_IdentityMorphism_orc : Orc := orcGet [(54, impl_GraphOk_F)]
theorem impl_IdentityMorphism_eq (x : Den impl_IdentityMorphism_ins) : pmFn (tdGet tab) impl_IdentityMorphism_orc impl_IdentityMorphism_F.mn impl_IdentityMorphism_ann Go.Proofs.Try.f15 impl_IdentityMorphism_ins impl_IdentityMorphism_outs x = impl_IdentityMorphism x := by kernel_rfl
theorem impl_IdentityMorphism_c : CallsD Go.Proofs.Try.prog 15 impl_IdentityMorphism_F :=
  fn_contract (F := impl_IdentityMorphism_F) (C := impl_IdentityMorphism_orc) mix (chkTab_get tab_ok) (orc_cons impl_GraphOk_c orc_nil) impl_IdentityMorphism_ann (fn := Go.Proofs.Try.f15) (by kernel_rfl) (by kernel_rfl) (by kernel_rfl) (by kernel_rfl) (by kernel_rfl) (fun x y h => (impl_IdentityMorphism_eq x).trans h)

def spec_l21New_ins : List Item := [.t 0 (.ro (.int .u8)), .t 1 (.int .i64)]
def spec_l21New_outs : List Item := [.t 500 (.ptr 9000), .box 9000 115 [.ro (.int .u8), .int .i64, .int .i64]]
def spec_l21New_ann : List (Nat × List Item) := [(58, [.t 1 (.int .i64), .t 5 (.ptr 90000031), .t 6 (.int .i64), .box 90000031 115 [.ro (.int .u8), .int .i64, .int .i64]])]
noncomputable def spec_l21New_L58 : Int × Int × (List Int) × Int × Int × Unit → Option ((Int × Int × (List Int) × Int × Int × Unit) ⊕ ((List Int) × Int × Int × Unit)) := fun (t1, t6, b90000031_0, b90000031_1, b90000031_2, _) =>
  cond (decide (t6 < t1))
    (Option.bind (spec_l01Byte (b90000031_0, b90000031_1, b90000031_2, ())) fun (v4, v5, v6, v7, _) => some (.inl (t1, (w64 (t6 + 1)), v5, v6, v7, ())))
    (Option.map Sum.inr (some (b90000031_0, b90000031_1, b90000031_2, ())))
noncomputable def spec_l21New : (List Int) × Int × Unit → Option ((List Int) × Int × Int × Unit) := fun (t0, t1, _) =>
  Option.bind (spec_l01New (t0, ())) fun (v1, v2, v3, _) => loopM spec_l21New_L58 (t1, 0, v1, v2, v3, ())
noncomputable def spec_l21New_F : Fun := ⟨spec_l21New_ins, [], spec_l21New_outs, spec_l21New⟩
noncomputable def spec_l21New_orc : Orc := orcGet [(61, spec_l01New_F), (79, spec_l01Byte_F)]
theorem spec_l21New_eq (x : Den spec_l21New_ins) : pmFn (tdGet tab) spec_l21New_orc spec_l21New_F.mn spec_l21New_ann Go.Proofs.Try.f63 spec_l21New_ins spec_l21New_outs x = spec_l21New x := by kernel_rfl
theorem spec_l21New_c : CallsD Go.Proofs.Try.prog 63 spec_l21New_F :=
  fn_contract (F := spec_l21New_F) (C := spec_l21New_orc) mix (chkTab_get tab_ok) (orc_cons spec_l01New_c (orc_cons spec_l01Byte_c orc_nil)) spec_l21New_ann (fn := Go.Proofs.Try.f63) (by kernel_rfl) (by kernel_rfl) (by kernel_rfl) (by kernel_rfl) (by kernel_rfl) (fun x y h => (spec_l21New_eq x).trans h)

def spec_l01Pick_ins : List Item := [.t 0 (.ptr 900), .t 1 (.ro (.int .i64)), .box 900 115 [.ro (.int .u8), .int .i64, .int .i64]]
def spec_l01Pick_outs : List Item := [.t 500 (.int .i64), .box 900 115 [.ro (.int .u8), .int .i64, .int .i64]]
def spec_l01Pick_ann : List (Nat × List Item) := []
noncomputable def spec_l01Pick : (List Int) × (List Int) × Int × Int × Unit → Option (Int × (List Int) × Int × Int × Unit) := fun (t1, b900_0, b900_1, b900_2, _) =>
  Option.bind (spec_l01Below (((t1).length : Int), b900_0, b900_1, b900_2, ())) fun (v1, v2, v3, v4, _) => chk (0 ≤ v1 ∧ v1 < ((t1).length : Int)) (some (atD 0 t1 v1, v2, v3, v4, ()))
noncomputable def spec_l01Pick_F : Fun := ⟨spec_l01Pick_ins, [900], spec_l01Pick_outs, spec_l01Pick⟩
noncomputable def spec_l01Pick_orc : Orc := orcGet [(74, spec_l01Below_F)]
theorem spec_l01Pick_eq (x : Den spec_l01Pick_ins) : pmFn (tdGet tab) spec_l01Pick_orc spec_l01Pick_F.mn spec_l01Pick_ann Go.Proofs.Try.f106 spec_l01Pick_ins spec_l01Pick_outs x = spec_l01Pick x := by kernel_rfl
theorem spec_l01Pick_c : CallsD Go.Proofs.Try.prog 106 spec_l01Pick_F :=
  fn_contract (F := spec_l01Pick_F) (C := spec_l01Pick_orc) mix (chkTab_get tab_ok) (orc_cons spec_l01Below_c orc_nil) spec_l01Pick_ann (fn := Go.Proofs.Try.f106) (by kernel_rfl) (by kernel_rfl) (by kernel_rfl) (by kernel_rfl) (by kernel_rfl) (fun x y h => (spec_l01Pick_eq x).trans h)

def spec_l04Draw_ins : List Item := [.t 0 (.ptr 900), .agg 1 [.int .i64, .ro .ii], .box 900 115 [.ro (.int .u8), .int .i64, .int .i64]]
def spec_l04Draw_outs : List Item := [.t 500 (.own 3 (.int .i64)), .box 900 115 [.ro (.int .u8), .int .i64, .int .i64]]
def spec_l04Draw_ann : List (Nat × List Item) := [(58, [.t 0 (.ptr 900), .t 3 (.ptr 3), .t 5 (.own 3 (.int .i64)), .t 6 (.int .i64), .box 900 115 [.ro (.int .u8), .int .i64, .int .i64], .box 3 29 [.int .i64, .ro .ii]])]
noncomputable def spec_l04Draw_L58 : (List Int) × Int × (List Int) × Int × Int × Int × (List (Int × Int)) × Unit → Option (((List Int) × Int × (List Int) × Int × Int × Int × (List (Int × Int)) × Unit) ⊕ ((List Int) × (List Int) × Int × Int × Unit)) := fun (t5, t6, b900_0, b900_1, b900_2, b3_0, b3_1, _) =>
  cond (decide (t6 < b3_0))
    (Option.bind (spec_l01Below (7, b900_0, b900_1, b900_2, ())) fun (v1, v2, v3, v4, _) => Option.bind (spec_l01Pick (([0, 1, 2, (-1), 3, (-2), v1] : List Int), v2, v3, v4, ())) fun (v5, v6, v7, v8, _) => chk ((t5).length + (([v5] : List Int)).length ≤ 17592186044416) (some (.inl ((t5 ++ ([v5] : List Int)), (w64 (t6 + 1)), v6, v7, v8, b3_0, b3_1, ()))))
    (Option.map Sum.inr (some (t5, b900_0, b900_1, b900_2, ())))
noncomputable def spec_l04Draw : Int × (List (Int × Int)) × (List Int) × Int × Int × Unit → Option ((List Int) × (List Int) × Int × Int × Unit) := fun (t1_0, t1_1, b900_0, b900_1, b900_2, _) =>
  loopM spec_l04Draw_L58 (([] : List Int), 0, b900_0, b900_1, b900_2, t1_0, t1_1, ())
noncomputable def spec_l04Draw_F : Fun := ⟨spec_l04Draw_ins, [900], spec_l04Draw_outs, spec_l04Draw⟩
noncomputable def spec_l04Draw_orc : Orc := orcGet [(74, spec_l01Below_F), (106, spec_l01Pick_F)]
theorem spec_l04Draw_eq (x : Den spec_l04Draw_ins) : pmFn (tdGet tab) spec_l04Draw_orc spec_l04Draw_F.mn spec_l04Draw_ann Go.Proofs.Try.f62 spec_l04Draw_ins spec_l04Draw_outs x = spec_l04Draw x := by kernel_rfl
theorem spec_l04Draw_c : CallsD Go.Proofs.Try.prog 62 spec_l04Draw_F :=
  fn_contract (F := spec_l04Draw_F) (C := spec_l04Draw_orc) mix (chkTab_get tab_ok) (orc_cons spec_l01Below_c (orc_cons spec_l01Pick_c orc_nil)) spec_l04Draw_ann (fn := Go.Proofs.Try.f62) (by kernel_rfl) (by kernel_rfl) (by kernel_rfl) (by kernel_rfl) (by kernel_rfl) (fun x y h => (spec_l04Draw_eq x).trans h)

def spec_MakeDivisor_ins : List Item := [.t 0 (.ro (.int .u8)), .t 1 (.int .i64), .agg 2 [.int .i64, .ro .ii]]
def spec_MakeDivisor_outs : List Item := [.t 500 (.own 3 (.int .i64))]
def spec_MakeDivisor_ann : List (Nat × List Item) := []
noncomputable def spec_MakeDivisor : (List Int) × Int × Int × (List (Int × Int)) × Unit → Option ((List Int) × Unit) := fun (t0, t1, t2_0, t2_1, _) =>
  Option.bind (spec_l21New (t0, t1, ())) fun (v1, v2, v3, _) => Option.bind (spec_l04Draw (t2_0, t2_1, v1, v2, v3, ())) fun (v4, v5, v6, v7, _) => some (v4, ())
noncomputable def spec_MakeDivisor_F : Fun := ⟨spec_MakeDivisor_ins, [], spec_MakeDivisor_outs, spec_MakeDivisor⟩
noncomputable def spec_MakeDivisor_orc : Orc := orcGet [(62, spec_l04Draw_F), (63, spec_l21New_F)]
theorem spec_MakeDivisor_eq (x : Den spec_MakeDivisor_ins) : pmFn (tdGet tab) spec_MakeDivisor_orc spec_MakeDivisor_F.mn spec_MakeDivisor_ann Go.Proofs.Try.f16 spec_MakeDivisor_ins spec_MakeDivisor_outs x = spec_MakeDivisor x := by kernel_rfl
theorem spec_MakeDivisor_c : CallsD Go.Proofs.Try.prog 16 spec_MakeDivisor_F :=
  fn_contract (F := spec_MakeDivisor_F) (C := spec_MakeDivisor_orc) mix (chkTab_get tab_ok) (orc_cons spec_l04Draw_c (orc_cons spec_l21New_c orc_nil)) spec_MakeDivisor_ann (fn := Go.Proofs.Try.f16) (by kernel_rfl) (by kernel_rfl) (by kernel_rfl) (by kernel_rfl) (by kernel_rfl) (fun x y h => (spec_MakeDivisor_eq x).trans h)

def impl_allWithin_ins : List Item := [.t 0 (.ro (.int .i64)), .t 1 (.int .i64), .t 2 (.int .i64)]
def impl_allWithin_outs : List Item := [.t 500 (.bool)]
def impl_allWithin_ann : List (Nat × List Item) := [(26, [.t 1 (.int .i64), .t 2 (.int .i64), .t 9 (.ro (.int .i64)), .t 10 (.int .i64), .t 11 (.int .i64)])]
noncomputable def impl_allWithin_L26 : Int × Int × (List Int) × Int × Int × Unit → Option ((Int × Int × (List Int) × Int × Int × Unit) ⊕ (Bool × Unit)) := fun (t1, t2, t9, t10, t11, _) =>
  cond (decide (t11 < t10))
    (chk (0 ≤ t11 ∧ t11 < ((t9).length : Int)) (Option.bind (impl_within (atD 0 t9 t11, t1, t2, ())) fun (v1, _) => cond (!v1)
    (Option.map Sum.inr (some (false, ())))
    (some (.inl (t1, t2, t9, t10, (w64 (t11 + 1)), ())))))
    (Option.map Sum.inr (some (true, ())))
noncomputable def impl_allWithin : (List Int) × Int × Int × Unit → Option (Bool × Unit) := fun (t0, t1, t2, _) =>
  loopM impl_allWithin_L26 (t1, t2, t0, ((t0).length : Int), 0, ())
noncomputable def impl_allWithin_F : Fun := ⟨impl_allWithin_ins, [], impl_allWithin_outs, impl_allWithin⟩
noncomputable def impl_allWithin_orc : Orc := orcGet [(71, impl_within_F)]
theorem impl_allWithin_eq (x : Den impl_allWithin_ins) : pmFn (tdGet tab) impl_allWithin_orc impl_allWithin_F.mn impl_allWithin_ann Go.Proofs.Try.f70 impl_allWithin_ins impl_allWithin_outs x = impl_allWithin x := by kernel_rfl
theorem impl_allWithin_c : CallsD Go.Proofs.Try.prog 70 impl_allWithin_F :=
  fn_contract (F := impl_allWithin_F) (C := impl_allWithin_orc) mix (chkTab_get tab_ok) (orc_cons impl_within_c orc_nil) impl_allWithin_ann (fn := Go.Proofs.Try.f70) (by kernel_rfl) (by kernel_rfl) (by kernel_rfl) (by kernel_rfl) (by kernel_rfl) (fun x y h => (impl_allWithin_eq x).trans h)

def impl_MorphismOk_ins : List Item := [.agg 0 [.int .i64, .ro .ii], .agg 1 [.int .i64, .ro .ii], .agg 2 [.ro (.int .i64), .ro (.int .i64)]]
def impl_MorphismOk_outs : List Item := [.t 500 (.bool)]
def impl_MorphismOk_ann : List (Nat × List Item) := [(12, [.t 3 (.ptr 3), .t 4 (.ptr 4), .t 5 (.ptr 5), .t 54 (.bool), .box 3 29 [.int .i64, .ro .ii], .box 4 29 [.int .i64, .ro .ii], .box 5 37 [.ro (.int .i64), .ro (.int .i64)]]),
  (58, [.t 3 (.ptr 3), .t 4 (.ptr 4), .t 5 (.ptr 5), .t 56 (.ro (.int .i64)), .t 57 (.int .i64), .t 58 (.int .i64), .box 3 29 [.int .i64, .ro .ii], .box 4 29 [.int .i64, .ro .ii], .box 5 37 [.ro (.int .i64), .ro (.int .i64)]])]
noncomputable def impl_MorphismOk_L58 : (List Int) × Int × Int × Int × (List (Int × Int)) × Int × (List (Int × Int)) × (List Int) × (List Int) × Unit → Option (((List Int) × Int × Int × Int × (List (Int × Int)) × Int × (List (Int × Int)) × (List Int) × (List Int) × Unit) ⊕ (Bool × Unit)) := fun (t56, t57, t58, b3_0, b3_1, b4_0, b4_1, b5_0, b5_1, _) =>
  cond (decide (t58 < t57))
    (chk (0 ≤ t58 ∧ t58 < ((t56).length : Int)) (chk (0 ≤ t58 ∧ t58 < ((b3_1).length : Int)) (chk (0 ≤ (atD (0, 0) b3_1 t58).1 ∧ (atD (0, 0) b3_1 t58).1 < ((b5_0).length : Int)) (chk (0 ≤ t58 ∧ t58 < ((b3_1).length : Int)) (chk (0 ≤ (atD (0, 0) b3_1 t58).2 ∧ (atD (0, 0) b3_1 t58).2 < ((b5_0).length : Int)) (cond (atD 0 t56 t58 == (-1))
    (cond (atD 0 b5_0 ((atD (0, 0) b3_1 t58).1) != atD 0 b5_0 ((atD (0, 0) b3_1 t58).2))
    (Option.map Sum.inr (some (false, ())))
    (cond (decide (atD 0 t56 t58 ≥ 0))
    (chk (0 ≤ atD 0 t56 t58 ∧ atD 0 t56 t58 < ((b4_1).length : Int)) (cond (!(((atD (0, 0) b4_1 (atD 0 t56 t58)).1 == (min2 (atD 0 b5_0 ((atD (0, 0) b3_1 t58).1)) (atD 0 b5_0 ((atD (0, 0) b3_1 t58).2)))) && ((atD (0, 0) b4_1 (atD 0 t56 t58)).2 == (max2 (atD 0 b5_0 ((atD (0, 0) b3_1 t58).1)) (atD 0 b5_0 ((atD (0, 0) b3_1 t58).2))))))
    (Option.map Sum.inr (some (false, ())))
    (some (.inl (t56, t57, (w64 (t58 + 1)), b3_0, b3_1, b4_0, b4_1, b5_0, b5_1, ())))))
    (some (.inl (t56, t57, (w64 (t58 + 1)), b3_0, b3_1, b4_0, b4_1, b5_0, b5_1, ())))))
    (cond (decide (atD 0 t56 t58 ≥ 0))
    (chk (0 ≤ atD 0 t56 t58 ∧ atD 0 t56 t58 < ((b4_1).length : Int)) (cond (!(((atD (0, 0) b4_1 (atD 0 t56 t58)).1 == (min2 (atD 0 b5_0 ((atD (0, 0) b3_1 t58).1)) (atD 0 b5_0 ((atD (0, 0) b3_1 t58).2)))) && ((atD (0, 0) b4_1 (atD 0 t56 t58)).2 == (max2 (atD 0 b5_0 ((atD (0, 0) b3_1 t58).1)) (atD 0 b5_0 ((atD (0, 0) b3_1 t58).2))))))
    (Option.map Sum.inr (some (false, ())))
    (some (.inl (t56, t57, (w64 (t58 + 1)), b3_0, b3_1, b4_0, b4_1, b5_0, b5_1, ())))))
    (some (.inl (t56, t57, (w64 (t58 + 1)), b3_0, b3_1, b4_0, b4_1, b5_0, b5_1, ()))))))))))
    (Option.map Sum.inr (some (true, ())))
noncomputable def impl_MorphismOk_J12 : Bool × Int × (List (Int × Int)) × Int × (List (Int × Int)) × (List Int) × (List Int) × Unit → Option (Bool × Unit) := fun (t54, b3_0, b3_1, b4_0, b4_1, b5_0, b5_1, _) =>
  cond t54
    (some (false, ()))
    (loopM impl_MorphismOk_L58 (b5_1, ((b5_1).length : Int), 0, b3_0, b3_1, b4_0, b4_1, b5_0, b5_1, ()))
noncomputable def impl_MorphismOk : Int × (List (Int × Int)) × Int × (List (Int × Int)) × (List Int) × (List Int) × Unit → Option (Bool × Unit) := fun (t0_0, t0_1, t1_0, t1_1, t2_0, t2_1, _) =>
  joinB (T := Bool × Int × (List (Int × Int)) × Int × (List (Int × Int)) × (List Int) × (List Int) × Unit) (R := Bool × Unit) (Option.bind (impl_GraphOk (t0_0, t0_1, ())) fun (v2, _) => cond (!v2)
    (some (.inl (true, t0_0, t0_1, t1_0, t1_1, t2_0, t2_1, ())))
    (Option.bind (impl_GraphOk (t1_0, t1_1, ())) fun (v3, _) => cond (!v3)
    (some (.inl (true, t0_0, t0_1, t1_0, t1_1, t2_0, t2_1, ())))
    (cond (((t2_0).length : Int) != t0_0)
    (some (.inl (true, t0_0, t0_1, t1_0, t1_1, t2_0, t2_1, ())))
    (cond (((t2_1).length : Int) != ((t0_1).length : Int))
    (some (.inl (true, t0_0, t0_1, t1_0, t1_1, t2_0, t2_1, ())))
    (Option.bind (impl_allWithin (t2_0, 0, (w64 (t1_0 - 1)), ())) fun (v4, _) => cond (!v4)
    (some (.inl (true, t0_0, t0_1, t1_0, t1_1, t2_0, t2_1, ())))
    (Option.bind (impl_allWithin (t2_1, (-1), (w64 (((t1_1).length : Int) - 1)), ())) fun (v5, _) => some (.inl ((!v5), t0_0, t0_1, t1_0, t1_1, t2_0, t2_1, ())))))))) impl_MorphismOk_J12
noncomputable def impl_MorphismOk_F : Fun := ⟨impl_MorphismOk_ins, [], impl_MorphismOk_outs, impl_MorphismOk⟩
noncomputable def impl_MorphismOk_orc : Orc := orcGet [(54, impl_GraphOk_F), (70, impl_allWithin_F)]
theorem impl_MorphismOk_eq (x : Den impl_MorphismOk_ins) : pmFn (tdGet tab) impl_MorphismOk_orc impl_MorphismOk_F.mn impl_MorphismOk_ann Go.Proofs.Try.f23 impl_MorphismOk_ins impl_MorphismOk_outs x = impl_MorphismOk x := by kernel_rfl
theorem impl_MorphismOk_c : CallsD Go.Proofs.Try.prog 23 impl_MorphismOk_F :=
  fn_contract (F := impl_MorphismOk_F) (C := impl_MorphismOk_orc) mix (chkTab_get tab_ok) (orc_cons impl_GraphOk_c (orc_cons impl_allWithin_c orc_nil)) impl_MorphismOk_ann (fn := Go.Proofs.Try.f23) (by kernel_rfl) (by kernel_rfl) (by kernel_rfl) (by kernel_rfl) (by kernel_rfl) (fun x y h => (impl_MorphismOk_eq x).trans h)

def impl_isAt_ins : List Item := [.agg 0 [.int .i64, .ro .ii], .t 1 (.int .i64), .t 2 (.int .i64)]
def impl_isAt_outs : List Item := [.t 500 (.bool)]
def impl_isAt_ann : List (Nat × List Item) := []
noncomputable def impl_isAt : Int × (List (Int × Int)) × Int × Int × Unit → Option (Bool × Unit) := fun (t0_0, t0_1, t1, t2, _) =>
  Option.bind (impl_within (t1, 0, (w64 (((t0_1).length : Int) - 1)), ())) fun (v1, _) => cond v1
    (chk (0 ≤ t1 ∧ t1 < ((t0_1).length : Int)) (cond ((atD (0, 0) t0_1 t1).1 == t2)
    (some (true, ()))
    (chk (0 ≤ t1 ∧ t1 < ((t0_1).length : Int)) (some (((atD (0, 0) t0_1 t1).2 == t2), ())))))
    (some (false, ()))
noncomputable def impl_isAt_F : Fun := ⟨impl_isAt_ins, [], impl_isAt_outs, impl_isAt⟩
noncomputable def impl_isAt_orc : Orc := orcGet [(71, impl_within_F)]
theorem impl_isAt_eq (x : Den impl_isAt_ins) : pmFn (tdGet tab) impl_isAt_orc impl_isAt_F.mn impl_isAt_ann Go.Proofs.Try.f80 impl_isAt_ins impl_isAt_outs x = impl_isAt x := by kernel_rfl
theorem impl_isAt_c : CallsD Go.Proofs.Try.prog 80 impl_isAt_F :=
  fn_contract (F := impl_isAt_F) (C := impl_isAt_orc) mix (chkTab_get tab_ok) (orc_cons impl_within_c orc_nil) impl_isAt_ann (fn := Go.Proofs.Try.f80) (by kernel_rfl) (by kernel_rfl) (by kernel_rfl) (by kernel_rfl) (by kernel_rfl) (fun x y h => (impl_isAt_eq x).trans h)

def impl_multiplicities_ins : List Item := [.agg 0 [.int .i64, .ro .ii], .agg 1 [.int .i64, .ro .ii], .agg 2 [.ro (.int .i64), .ro (.int .i64)], .t 3 (.int .i64)]
def impl_multiplicities_outs : List Item := [.t 500 (.own 3 (.int .i64))]
def impl_multiplicities_ann : List (Nat × List Item) := [(58, [.t 3 (.int .i64), .t 4 (.ptr 4), .t 5 (.ptr 5), .t 6 (.ptr 6), .t 9 (.own 3 (.int .i64)), .t 16 (.int .i64), .t 17 (.int .i64), .box 4 29 [.int .i64, .ro .ii], .box 5 29 [.int .i64, .ro .ii], .box 6 37 [.ro (.int .i64), .ro (.int .i64)]]),
  (119610, [.t 3 (.int .i64), .t 4 (.ptr 4), .t 5 (.ptr 5), .t 6 (.ptr 6), .t 9 (.own 3 (.int .i64)), .t 10 (.int .i64), .t 11 (.int .i64), .t 16 (.int .i64), .t 17 (.int .i64), .t 30 (.ro (.int .i64)), .t 31 (.int .i64), .t 32 (.int .i64), .box 4 29 [.int .i64, .ro .ii], .box 5 29 [.int .i64, .ro .ii], .box 6 37 [.ro (.int .i64), .ro (.int .i64)]])]
noncomputable def impl_multiplicities_L119610 : Int × (List Int) × Int × Int × Int × Int × (List Int) × Int × Int × Int × (List (Int × Int)) × Int × (List (Int × Int)) × (List Int) × (List Int) × Unit → Option ((Int × (List Int) × Int × Int × Int × Int × (List Int) × Int × Int × Int × (List (Int × Int)) × Int × (List (Int × Int)) × (List Int) × (List Int) × Unit) ⊕ (((Int × (List Int) × Int × Int × Int × (List (Int × Int)) × Int × (List (Int × Int)) × (List Int) × (List Int) × Unit) ⊕ (List Int) × Unit))) := fun (t3, t9, t10, t11, t16, t17, t30, t31, t32, b4_0, b4_1, b5_0, b5_1, b6_0, b6_1, _) =>
  cond (decide (t32 < t31))
    (chk (0 ≤ t32 ∧ t32 < ((t30).length : Int)) (cond (atD 0 t30 t32 == t10)
    (Option.bind (impl_isAt (b4_0, b4_1, t32, t3, ())) fun (v2, _) => cond v2
    (some (.inl (t3, t9, t10, (w64 (t11 + 1)), t16, t17, t30, t31, (w64 (t32 + 1)), b4_0, b4_1, b5_0, b5_1, b6_0, b6_1, ())))
    (some (.inl (t3, t9, t10, t11, t16, t17, t30, t31, (w64 (t32 + 1)), b4_0, b4_1, b5_0, b5_1, b6_0, b6_1, ()))))
    (some (.inl (t3, t9, t10, t11, t16, t17, t30, t31, (w64 (t32 + 1)), b4_0, b4_1, b5_0, b5_1, b6_0, b6_1, ())))))
    (Option.map Sum.inr (chk ((t9).length + (([t11] : List Int)).length ≤ 17592186044416) (some (.inl (t3, (t9 ++ ([t11] : List Int)), t16, (w64 (t17 + 1)), b4_0, b4_1, b5_0, b5_1, b6_0, b6_1, ())))))
noncomputable def impl_multiplicities_L58 : Int × (List Int) × Int × Int × Int × (List (Int × Int)) × Int × (List (Int × Int)) × (List Int) × (List Int) × Unit → Option ((Int × (List Int) × Int × Int × Int × (List (Int × Int)) × Int × (List (Int × Int)) × (List Int) × (List Int) × Unit) ⊕ ((List Int) × Unit)) := fun (t3, t9, t16, t17, b4_0, b4_1, b5_0, b5_1, b6_0, b6_1, _) =>
  cond (decide (t17 < t16))
    (chk (0 ≤ t3 ∧ t3 < ((b6_0).length : Int)) (Option.bind (impl_isAt (b5_0, b5_1, t17, atD 0 b6_0 t3, ())) fun (v1, _) => cond (!v1)
    (some (.inl (t3, t9, t16, (w64 (t17 + 1)), b4_0, b4_1, b5_0, b5_1, b6_0, b6_1, ())))
    (loopM impl_multiplicities_L119610 (t3, t9, t17, 0, t16, t17, b6_1, ((b6_1).length : Int), 0, b4_0, b4_1, b5_0, b5_1, b6_0, b6_1, ()))))
    (Option.map Sum.inr (some (t9, ())))
noncomputable def impl_multiplicities : Int × (List (Int × Int)) × Int × (List (Int × Int)) × (List Int) × (List Int) × Int × Unit → Option ((List Int) × Unit) := fun (t0_0, t0_1, t1_0, t1_1, t2_0, t2_1, t3, _) =>
  loopM impl_multiplicities_L58 (t3, ([] : List Int), ((t1_1).length : Int), 0, t0_0, t0_1, t1_0, t1_1, t2_0, t2_1, ())
noncomputable def impl_multiplicities_F : Fun := ⟨impl_multiplicities_ins, [], impl_multiplicities_outs, impl_multiplicities⟩
noncomputable def impl_multiplicities_orc : Orc := orcGet [(80, impl_isAt_F)]
theorem impl_multiplicities_eq (x : Den impl_multiplicities_ins) : pmFn (tdGet tab) impl_multiplicities_orc impl_multiplicities_F.mn impl_multiplicities_ann Go.Proofs.Try.f65 impl_multiplicities_ins impl_multiplicities_outs x = impl_multiplicities x := by kernel_rfl
theorem impl_multiplicities_c : CallsD Go.Proofs.Try.prog 65 impl_multiplicities_F :=
  fn_contract (F := impl_multiplicities_F) (C := impl_multiplicities_orc) mix (chkTab_get tab_ok) (orc_cons impl_isAt_c orc_nil) impl_multiplicities_ann (fn := Go.Proofs.Try.f65) (by kernel_rfl) (by kernel_rfl) (by kernel_rfl) (by kernel_rfl) (by kernel_rfl) (fun x y h => (impl_multiplicities_eq x).trans h)

def slices_Min_int_int_ins : List Item := [.t 0 (.ro (.int .i64))]
def slices_Min_int_int_outs : List Item := [.t 500 (.int .i64)]
def slices_Min_int_int_ann : List (Nat × List Item) := [(13, [.t 0 (.ro (.int .i64))]),
  (122, [.t 0 (.ro (.int .i64)), .t 3 (.int .i64), .t 4 (.int .i64)])]
noncomputable def slices_Min_int_int_L122 : (List Int) × Int × Int × Unit → Option (((List Int) × Int × Int × Unit) ⊕ (Int × Unit)) := fun (t0, t3, t4, _) =>
  cond (decide (t4 < ((t0).length : Int)))
    (chk (0 ≤ t4 ∧ t4 < ((t0).length : Int)) (some (.inl (t0, (min2 t3 (atD 0 t0 t4)), (w64 (t4 + 1)), ()))))
    (Option.map Sum.inr (some (t3, ())))
noncomputable def slices_Min_int_int_J13 : (List Int) × Unit → Option (Int × Unit) := fun (t0, _) =>
  chk ((0 : Int) ≤ 0 ∧ 0 < ((t0).length : Int)) (loopM slices_Min_int_int_L122 (t0, atD 0 t0 0, 1, ()))
noncomputable def slices_Min_int_int : (List Int) × Unit → Option (Int × Unit) := fun (t0, _) =>
  joinB (T := (List Int) × Unit) (R := Int × Unit) (cond (decide (((t0).length : Int) < 1))
    (none)
    (some (.inl (t0, ())))) slices_Min_int_int_J13
noncomputable def slices_Min_int_int_F : Fun := ⟨slices_Min_int_int_ins, [], slices_Min_int_int_outs, slices_Min_int_int⟩
noncomputable def slices_Min_int_int_orc : Orc := orcGet []
theorem slices_Min_int_int_eq (x : Den slices_Min_int_int_ins) : pmFn (tdGet tab) slices_Min_int_int_orc slices_Min_int_int_F.mn slices_Min_int_int_ann Go.Proofs.Try.f56 slices_Min_int_int_ins slices_Min_int_int_outs x = slices_Min_int_int x := by kernel_rfl
theorem slices_Min_int_int_c : CallsD Go.Proofs.Try.prog 56 slices_Min_int_int_F :=
  fn_contract (F := slices_Min_int_int_F) (C := slices_Min_int_int_orc) mix (chkTab_get tab_ok) orc_nil slices_Min_int_int_ann (fn := Go.Proofs.Try.f56) (by kernel_rfl) (by kernel_rfl) (by kernel_rfl) (by kernel_rfl) (by kernel_rfl) (fun x y h => (slices_Min_int_int_eq x).trans h)

def slices_Max_int_int_ins : List Item := [.t 0 (.ro (.int .i64))]
def slices_Max_int_int_outs : List Item := [.t 500 (.int .i64)]
def slices_Max_int_int_ann : List (Nat × List Item) := [(13, [.t 0 (.ro (.int .i64))]),
  (122, [.t 0 (.ro (.int .i64)), .t 3 (.int .i64), .t 4 (.int .i64)])]
noncomputable def slices_Max_int_int_L122 : (List Int) × Int × Int × Unit → Option (((List Int) × Int × Int × Unit) ⊕ (Int × Unit)) := fun (t0, t3, t4, _) =>
  cond (decide (t4 < ((t0).length : Int)))
    (chk (0 ≤ t4 ∧ t4 < ((t0).length : Int)) (some (.inl (t0, (max2 t3 (atD 0 t0 t4)), (w64 (t4 + 1)), ()))))
    (Option.map Sum.inr (some (t3, ())))
noncomputable def slices_Max_int_int_J13 : (List Int) × Unit → Option (Int × Unit) := fun (t0, _) =>
  chk ((0 : Int) ≤ 0 ∧ 0 < ((t0).length : Int)) (loopM slices_Max_int_int_L122 (t0, atD 0 t0 0, 1, ()))
noncomputable def slices_Max_int_int : (List Int) × Unit → Option (Int × Unit) := fun (t0, _) =>
  joinB (T := (List Int) × Unit) (R := Int × Unit) (cond (decide (((t0).length : Int) < 1))
    (none)
    (some (.inl (t0, ())))) slices_Max_int_int_J13
noncomputable def slices_Max_int_int_F : Fun := ⟨slices_Max_int_int_ins, [], slices_Max_int_int_outs, slices_Max_int_int⟩
noncomputable def slices_Max_int_int_orc : Orc := orcGet []
theorem slices_Max_int_int_eq (x : Den slices_Max_int_int_ins) : pmFn (tdGet tab) slices_Max_int_int_orc slices_Max_int_int_F.mn slices_Max_int_int_ann Go.Proofs.Try.f57 slices_Max_int_int_ins slices_Max_int_int_outs x = slices_Max_int_int x := by kernel_rfl
theorem slices_Max_int_int_c : CallsD Go.Proofs.Try.prog 57 slices_Max_int_int_F :=
  fn_contract (F := slices_Max_int_int_F) (C := slices_Max_int_int_orc) mix (chkTab_get tab_ok) orc_nil slices_Max_int_int_ann (fn := Go.Proofs.Try.f57) (by kernel_rfl) (by kernel_rfl) (by kernel_rfl) (by kernel_rfl) (by kernel_rfl) (fun x y h => (slices_Max_int_int_eq x).trans h)

def impl_IsHarmonic_ins : List Item := [.agg 0 [.int .i64, .ro .ii], .agg 1 [.int .i64, .ro .ii], .agg 2 [.ro (.int .i64), .ro (.int .i64)]]
def impl_IsHarmonic_outs : List Item := [.t 500 (.bool)]
def impl_IsHarmonic_ann : List (Nat × List Item) := [(58, [.t 3 (.ptr 3), .t 4 (.ptr 4), .t 5 (.ptr 5), .t 16 (.int .i64), .t 17 (.int .i64), .box 3 29 [.int .i64, .ro .ii], .box 4 29 [.int .i64, .ro .ii], .box 5 37 [.ro (.int .i64), .ro (.int .i64)]])]
noncomputable def impl_IsHarmonic_L58 : Int × Int × Int × (List (Int × Int)) × Int × (List (Int × Int)) × (List Int) × (List Int) × Unit → Option ((Int × Int × Int × (List (Int × Int)) × Int × (List (Int × Int)) × (List Int) × (List Int) × Unit) ⊕ (Bool × Unit)) := fun (t16, t17, b3_0, b3_1, b4_0, b4_1, b5_0, b5_1, _) =>
  cond (decide (t17 < t16))
    (Option.bind (impl_multiplicities (b3_0, b3_1, b4_0, b4_1, b5_0, b5_1, t17, ())) fun (v2, _) => cond (decide (((v2).length : Int) > 0))
    (Option.bind (slices_Min_int_int (v2, ())) fun (v3, _) => Option.bind (slices_Max_int_int (v2, ())) fun (v4, _) => cond (v3 != v4)
    (Option.map Sum.inr (some (false, ())))
    (some (.inl (t16, (w64 (t17 + 1)), b3_0, b3_1, b4_0, b4_1, b5_0, b5_1, ()))))
    (some (.inl (t16, (w64 (t17 + 1)), b3_0, b3_1, b4_0, b4_1, b5_0, b5_1, ()))))
    (Option.map Sum.inr (some (true, ())))
noncomputable def impl_IsHarmonic : Int × (List (Int × Int)) × Int × (List (Int × Int)) × (List Int) × (List Int) × Unit → Option (Bool × Unit) := fun (t0_0, t0_1, t1_0, t1_1, t2_0, t2_1, _) =>
  Option.bind (impl_MorphismOk (t0_0, t0_1, t1_0, t1_1, t2_0, t2_1, ())) fun (v1, _) => cond (!v1)
    (some (false, ()))
    (loopM impl_IsHarmonic_L58 (((t2_0).length : Int), 0, t0_0, t0_1, t1_0, t1_1, t2_0, t2_1, ()))
noncomputable def impl_IsHarmonic_F : Fun := ⟨impl_IsHarmonic_ins, [], impl_IsHarmonic_outs, impl_IsHarmonic⟩
noncomputable def impl_IsHarmonic_orc : Orc := orcGet [(23, impl_MorphismOk_F), (56, slices_Min_int_int_F), (57, slices_Max_int_int_F), (65, impl_multiplicities_F)]
theorem impl_IsHarmonic_eq (x : Den impl_IsHarmonic_ins) : pmFn (tdGet tab) impl_IsHarmonic_orc impl_IsHarmonic_F.mn impl_IsHarmonic_ann Go.Proofs.Try.f19 impl_IsHarmonic_ins impl_IsHarmonic_outs x = impl_IsHarmonic x := by kernel_rfl
theorem impl_IsHarmonic_c : CallsD Go.Proofs.Try.prog 19 impl_IsHarmonic_F :=
  fn_contract (F := impl_IsHarmonic_F) (C := impl_IsHarmonic_orc) mix (chkTab_get tab_ok) (orc_cons impl_MorphismOk_c (orc_cons slices_Min_int_int_c (orc_cons slices_Max_int_int_c (orc_cons impl_multiplicities_c orc_nil)))) impl_IsHarmonic_ann (fn := Go.Proofs.Try.f19) (by kernel_rfl) (by kernel_rfl) (by kernel_rfl) (by kernel_rfl) (by kernel_rfl) (fun x y h => (impl_IsHarmonic_eq x).trans h)

def impl_DivisorOk_ins : List Item := [.agg 0 [.int .i64, .ro .ii], .t 1 (.ro (.int .i64))]
def impl_DivisorOk_outs : List Item := [.t 500 (.bool)]
def impl_DivisorOk_ann : List (Nat × List Item) := []
noncomputable def impl_DivisorOk : Int × (List (Int × Int)) × (List Int) × Unit → Option (Bool × Unit) := fun (t0_0, t0_1, t1, _) =>
  Option.bind (impl_GraphOk (t0_0, t0_1, ())) fun (v1, _) => cond v1
    (cond (((t1).length : Int) == t0_0)
    (Option.bind (impl_allWithin (t1, (-60), 60, ())) fun (v2, _) => some (v2, ()))
    (some (false, ())))
    (some (false, ()))
noncomputable def impl_DivisorOk_F : Fun := ⟨impl_DivisorOk_ins, [], impl_DivisorOk_outs, impl_DivisorOk⟩
noncomputable def impl_DivisorOk_orc : Orc := orcGet [(54, impl_GraphOk_F), (70, impl_allWithin_F)]
theorem impl_DivisorOk_eq (x : Den impl_DivisorOk_ins) : pmFn (tdGet tab) impl_DivisorOk_orc impl_DivisorOk_F.mn impl_DivisorOk_ann Go.Proofs.Try.f64 impl_DivisorOk_ins impl_DivisorOk_outs x = impl_DivisorOk x := by kernel_rfl
theorem impl_DivisorOk_c : CallsD Go.Proofs.Try.prog 64 impl_DivisorOk_F :=
  fn_contract (F := impl_DivisorOk_F) (C := impl_DivisorOk_orc) mix (chkTab_get tab_ok) (orc_cons impl_GraphOk_c (orc_cons impl_allWithin_c orc_nil)) impl_DivisorOk_ann (fn := Go.Proofs.Try.f64) (by kernel_rfl) (by kernel_rfl) (by kernel_rfl) (by kernel_rfl) (by kernel_rfl) (fun x y h => (impl_DivisorOk_eq x).trans h)

def impl_PushForward_ins : List Item := [.agg 0 [.int .i64, .ro .ii], .agg 1 [.int .i64, .ro .ii], .agg 2 [.ro (.int .i64), .ro (.int .i64)], .t 3 (.ro (.int .i64))]
def impl_PushForward_outs : List Item := [.t 500 (.own 3 (.int .i64)), .t 501 (.bool)]
def impl_PushForward_ann : List (Nat × List Item) := [(12, [.t 3 (.ro (.int .i64)), .t 5 (.ptr 5), .t 6 (.ptr 6), .t 23 (.bool), .box 5 29 [.int .i64, .ro .ii], .box 6 37 [.ro (.int .i64), .ro (.int .i64)]]),
  (122, [.t 6 (.ptr 6), .t 10 (.own 3 (.int .i64)), .t 27 (.ro (.int .i64)), .t 28 (.int .i64), .t 29 (.int .i64), .box 6 37 [.ro (.int .i64), .ro (.int .i64)]])]
noncomputable def impl_PushForward_L122 : (List Int) × (List Int) × Int × Int × (List Int) × (List Int) × Unit → Option (((List Int) × (List Int) × Int × Int × (List Int) × (List Int) × Unit) ⊕ ((List Int) × Bool × Unit)) := fun (t10, t27, t28, t29, b6_0, b6_1, _) =>
  cond (decide (t29 < t28))
    (chk (0 ≤ t29 ∧ t29 < ((t27).length : Int)) (chk (0 ≤ t29 ∧ t29 < ((b6_0).length : Int)) (chk (0 ≤ atD 0 b6_0 t29 ∧ atD 0 b6_0 t29 < ((t10).length : Int)) (chk (0 ≤ atD 0 b6_0 t29 ∧ atD 0 b6_0 t29 < ((t10).length : Int)) (some (.inl ((t10.set (atD 0 b6_0 t29 : Int).toNat (w64 (atD 0 t10 (atD 0 b6_0 t29) + atD 0 t27 t29))), t27, t28, (w64 (t29 + 1)), b6_0, b6_1, ())))))))
    (Option.map Sum.inr (some (t10, true, ())))
noncomputable def impl_PushForward_J12 : (List Int) × Bool × Int × (List (Int × Int)) × (List Int) × (List Int) × Unit → Option ((List Int) × Bool × Unit) := fun (t3, t23, b5_0, b5_1, b6_0, b6_1, _) =>
  cond t23
    (some (([] : List Int), false, ()))
    (chk (b5_0 = b5_0 ∧ 0 ≤ b5_0 ∧ b5_0 ≤ 17592186044416) (loopM impl_PushForward_L122 ((List.replicate (b5_0).toNat (0 : Int)), t3, ((t3).length : Int), 0, b6_0, b6_1, ())))
noncomputable def impl_PushForward : Int × (List (Int × Int)) × Int × (List (Int × Int)) × (List Int) × (List Int) × (List Int) × Unit → Option ((List Int) × Bool × Unit) := fun (t0_0, t0_1, t1_0, t1_1, t2_0, t2_1, t3, _) =>
  joinB (T := (List Int) × Bool × Int × (List (Int × Int)) × (List Int) × (List Int) × Unit) (R := (List Int) × Bool × Unit) (Option.bind (impl_IsHarmonic (t0_0, t0_1, t1_0, t1_1, t2_0, t2_1, ())) fun (v2, _) => cond (!v2)
    (some (.inl (t3, true, t1_0, t1_1, t2_0, t2_1, ())))
    (Option.bind (impl_DivisorOk (t0_0, t0_1, t3, ())) fun (v3, _) => some (.inl (t3, (!v3), t1_0, t1_1, t2_0, t2_1, ())))) impl_PushForward_J12
noncomputable def impl_PushForward_F : Fun := ⟨impl_PushForward_ins, [], impl_PushForward_outs, impl_PushForward⟩
noncomputable def impl_PushForward_orc : Orc := orcGet [(19, impl_IsHarmonic_F), (64, impl_DivisorOk_F)]
theorem impl_PushForward_eq (x : Den impl_PushForward_ins) : pmFn (tdGet tab) impl_PushForward_orc impl_PushForward_F.mn impl_PushForward_ann Go.Proofs.Try.f17 impl_PushForward_ins impl_PushForward_outs x = impl_PushForward x := by kernel_rfl
theorem impl_PushForward_c : CallsD Go.Proofs.Try.prog 17 impl_PushForward_F :=
  fn_contract (F := impl_PushForward_F) (C := impl_PushForward_orc) mix (chkTab_get tab_ok) (orc_cons impl_IsHarmonic_c (orc_cons impl_DivisorOk_c orc_nil)) impl_PushForward_ann (fn := Go.Proofs.Try.f17) (by kernel_rfl) (by kernel_rfl) (by kernel_rfl) (by kernel_rfl) (by kernel_rfl) (fun x y h => (impl_PushForward_eq x).trans h)

def impl_HorizontalOf_ins : List Item := [.agg 0 [.int .i64, .ro .ii], .agg 1 [.int .i64, .ro .ii], .agg 2 [.ro (.int .i64), .ro (.int .i64)], .t 3 (.int .i64)]
def impl_HorizontalOf_outs : List Item := [.t 500 (.int .i64)]
def impl_HorizontalOf_ann : List (Nat × List Item) := []
noncomputable def impl_HorizontalOf : Int × (List (Int × Int)) × Int × (List (Int × Int)) × (List Int) × (List Int) × Int × Unit → Option (Int × Unit) := fun (t0_0, t0_1, t1_0, t1_1, t2_0, t2_1, t3, _) =>
  Option.bind (impl_IsHarmonic (t0_0, t0_1, t1_0, t1_1, t2_0, t2_1, ())) fun (v1, _) => cond (!v1)
    (some ((-1), ()))
    (Option.bind (impl_within (t3, 0, (w64 (t0_0 - 1)), ())) fun (v2, _) => cond (!v2)
    (some ((-1), ()))
    (Option.bind (impl_multiplicities (t0_0, t0_1, t1_0, t1_1, t2_0, t2_1, t3, ())) fun (v3, _) => cond (((v3).length : Int) == 0)
    (some (0, ()))
    (chk ((0 : Int) ≤ 0 ∧ 0 < ((v3).length : Int)) (some (atD 0 v3 0, ())))))
noncomputable def impl_HorizontalOf_F : Fun := ⟨impl_HorizontalOf_ins, [], impl_HorizontalOf_outs, impl_HorizontalOf⟩
noncomputable def impl_HorizontalOf_orc : Orc := orcGet [(19, impl_IsHarmonic_F), (65, impl_multiplicities_F), (71, impl_within_F)]
theorem impl_HorizontalOf_eq (x : Den impl_HorizontalOf_ins) : pmFn (tdGet tab) impl_HorizontalOf_orc impl_HorizontalOf_F.mn impl_HorizontalOf_ann Go.Proofs.Try.f24 impl_HorizontalOf_ins impl_HorizontalOf_outs x = impl_HorizontalOf x := by kernel_rfl
theorem impl_HorizontalOf_c : CallsD Go.Proofs.Try.prog 24 impl_HorizontalOf_F :=
  fn_contract (F := impl_HorizontalOf_F) (C := impl_HorizontalOf_orc) mix (chkTab_get tab_ok) (orc_cons impl_IsHarmonic_c (orc_cons impl_multiplicities_c (orc_cons impl_within_c orc_nil))) impl_HorizontalOf_ann (fn := Go.Proofs.Try.f24) (by kernel_rfl) (by kernel_rfl) (by kernel_rfl) (by kernel_rfl) (by kernel_rfl) (fun x y h => (impl_HorizontalOf_eq x).trans h)

def impl_PullBack_ins : List Item := [.agg 0 [.int .i64, .ro .ii], .agg 1 [.int .i64, .ro .ii], .agg 2 [.ro (.int .i64), .ro (.int .i64)], .t 3 (.ro (.int .i64))]
def impl_PullBack_outs : List Item := [.t 500 (.own 3 (.int .i64)), .t 501 (.bool)]
def impl_PullBack_ann : List (Nat × List Item) := [(12, [.t 3 (.ro (.int .i64)), .t 4 (.ptr 4), .t 5 (.ptr 5), .t 6 (.ptr 6), .t 23 (.bool), .box 4 29 [.int .i64, .ro .ii], .box 5 29 [.int .i64, .ro .ii], .box 6 37 [.ro (.int .i64), .ro (.int .i64)]]),
  (122, [.t 3 (.ro (.int .i64)), .t 4 (.ptr 4), .t 5 (.ptr 5), .t 6 (.ptr 6), .t 10 (.own 3 (.int .i64)), .t 25 (.ro (.int .i64)), .t 26 (.int .i64), .t 27 (.int .i64), .box 4 29 [.int .i64, .ro .ii], .box 5 29 [.int .i64, .ro .ii], .box 6 37 [.ro (.int .i64), .ro (.int .i64)]])]
noncomputable def impl_PullBack_L122 : (List Int) × (List Int) × (List Int) × Int × Int × Int × (List (Int × Int)) × Int × (List (Int × Int)) × (List Int) × (List Int) × Unit → Option (((List Int) × (List Int) × (List Int) × Int × Int × Int × (List (Int × Int)) × Int × (List (Int × Int)) × (List Int) × (List Int) × Unit) ⊕ ((List Int) × Bool × Unit)) := fun (t3, t10, t25, t26, t27, b4_0, b4_1, b5_0, b5_1, b6_0, b6_1, _) =>
  cond (decide (t27 < t26))
    (chk (0 ≤ t27 ∧ t27 < ((t25).length : Int)) (Option.bind (impl_HorizontalOf (b4_0, b4_1, b5_0, b5_1, b6_0, b6_1, t27, ())) fun (v4, _) => chk (0 ≤ atD 0 t25 t27 ∧ atD 0 t25 t27 < ((t3).length : Int)) (chk ((t10).length + (([(w64 (v4 * atD 0 t3 (atD 0 t25 t27)))] : List Int)).length ≤ 17592186044416) (some (.inl (t3, (t10 ++ ([(w64 (v4 * atD 0 t3 (atD 0 t25 t27)))] : List Int)), t25, t26, (w64 (t27 + 1)), b4_0, b4_1, b5_0, b5_1, b6_0, b6_1, ()))))))
    (Option.map Sum.inr (some (t10, true, ())))
noncomputable def impl_PullBack_J12 : (List Int) × Bool × Int × (List (Int × Int)) × Int × (List (Int × Int)) × (List Int) × (List Int) × Unit → Option ((List Int) × Bool × Unit) := fun (t3, t23, b4_0, b4_1, b5_0, b5_1, b6_0, b6_1, _) =>
  cond t23
    (some (([] : List Int), false, ()))
    (loopM impl_PullBack_L122 (t3, ([] : List Int), b6_0, ((b6_0).length : Int), 0, b4_0, b4_1, b5_0, b5_1, b6_0, b6_1, ()))
noncomputable def impl_PullBack : Int × (List (Int × Int)) × Int × (List (Int × Int)) × (List Int) × (List Int) × (List Int) × Unit → Option ((List Int) × Bool × Unit) := fun (t0_0, t0_1, t1_0, t1_1, t2_0, t2_1, t3, _) =>
  joinB (T := (List Int) × Bool × Int × (List (Int × Int)) × Int × (List (Int × Int)) × (List Int) × (List Int) × Unit) (R := (List Int) × Bool × Unit) (Option.bind (impl_IsHarmonic (t0_0, t0_1, t1_0, t1_1, t2_0, t2_1, ())) fun (v2, _) => cond (!v2)
    (some (.inl (t3, true, t0_0, t0_1, t1_0, t1_1, t2_0, t2_1, ())))
    (Option.bind (impl_DivisorOk (t1_0, t1_1, t3, ())) fun (v3, _) => some (.inl (t3, (!v3), t0_0, t0_1, t1_0, t1_1, t2_0, t2_1, ())))) impl_PullBack_J12
noncomputable def impl_PullBack_F : Fun := ⟨impl_PullBack_ins, [], impl_PullBack_outs, impl_PullBack⟩
noncomputable def impl_PullBack_orc : Orc := orcGet [(19, impl_IsHarmonic_F), (24, impl_HorizontalOf_F), (64, impl_DivisorOk_F)]
theorem impl_PullBack_eq (x : Den impl_PullBack_ins) : pmFn (tdGet tab) impl_PullBack_orc impl_PullBack_F.mn impl_PullBack_ann Go.Proofs.Try.f18 impl_PullBack_ins impl_PullBack_outs x = impl_PullBack x := by kernel_rfl
theorem impl_PullBack_c : CallsD Go.Proofs.Try.prog 18 impl_PullBack_F :=
  fn_contract (F := impl_PullBack_F) (C := impl_PullBack_orc) mix (chkTab_get tab_ok) (orc_cons impl_IsHarmonic_c (orc_cons impl_HorizontalOf_c (orc_cons impl_DivisorOk_c orc_nil))) impl_PullBack_ann (fn := Go.Proofs.Try.f18) (by kernel_rfl) (by kernel_rfl) (by kernel_rfl) (by kernel_rfl) (by kernel_rfl) (fun x y h => (impl_PullBack_eq x).trans h)

def impl_CountMorphisms_1_ins : List Item := [.t 0 (.int .i64), .t 1 (.ptr 950), .t 2 (.ptr 951), .t 3 (.ptr 952), .t 4 (.ptr 953), .t 5 (.ptr 954), .box 950 37 [.own 3 (.int .i64), .own 3 (.int .i64)], .box 951 29 [.int .i64, .ro .ii], .box 952 29 [.int .i64, .ro .ii], .box 953 3 [.int .i64], .box 954 74 [.fn 55 [950, 951, 952, 953, 954]]]
def impl_CountMorphisms_1_outs : List Item := [.box 950 37 [.al 951000, .al 951001], .box 951 29 [.int .i64, .ro .ii], .box 952 29 [.int .i64, .ro .ii], .box 953 3 [.int .i64], .box 954 74 [.fn 55 [950, 951, 952, 953, 954]], .row 951000 3 (.int .i64), .row 951001 3 (.int .i64)]
def impl_CountMorphisms_1_ann : List (Nat × List Item) := [(14, [.t 0 (.int .i64), .t 1 (.ptr 950), .t 2 (.ptr 951), .t 3 (.ptr 952), .t 5 (.ptr 954), .t 7 (.int .i64), .box 950 37 [.al 951000, .al 951001], .box 951 29 [.int .i64, .ro .ii], .box 952 29 [.int .i64, .ro .ii], .box 954 74 [.fn 55 [950, 951, 952, 953, 954]], .box 953 3 [.int .i64], .row 951000 3 (.int .i64), .row 951001 3 (.int .i64)]),
  (914, [.t 0 (.int .i64), .t 1 (.ptr 950), .t 2 (.ptr 951), .t 3 (.ptr 952), .t 5 (.ptr 954), .t 7 (.int .i64), .t 82 (.bool), .box 950 37 [.al 951000, .al 951001], .box 951 29 [.int .i64, .ro .ii], .box 952 29 [.int .i64, .ro .ii], .box 954 74 [.fn 55 [950, 951, 952, 953, 954]], .box 953 3 [.int .i64], .row 951000 3 (.int .i64), .row 951001 3 (.int .i64)])]
noncomputable def impl_CountMorphisms_1_J914 (self_ : Int × (List Int) × (List Int) × Int × (List (Int × Int)) × Int × (List (Int × Int)) × Int × Unit → Option (Int × (List (Int × Int)) × Int × (List (Int × Int)) × Int × (List Int) × (List Int) × Unit)) : Int × Int × Bool × Int × (List (Int × Int)) × Int × (List (Int × Int)) × Int × (List Int) × (List Int) × Unit → Option (((Int × Int × Int × (List (Int × Int)) × Int × (List (Int × Int)) × Int × (List Int) × (List Int) × Unit) ⊕ Int × (List (Int × Int)) × Int × (List (Int × Int)) × Int × (List Int) × (List Int) × Unit)) := fun (t0, t7, t82, b951_0, b951_1, b952_0, b952_1, b953_0, r951000, r951001, _) =>
  cond t82
    (chk (0 ≤ t0 ∧ t0 < ((r951001).length : Int)) (Option.bind (self_ ((w64 (t0 + 1)), r951000, (r951001.set (t0 : Int).toNat t7), b951_0, b951_1, b952_0, b952_1, b953_0, ())) fun (v5, v6, v7, v8, v9, v10, v11, _) => some (.inl (t0, (w64 (t7 + 1)), v5, v6, v7, v8, v9, v10, v11, ()))))
    (some (.inl (t0, (w64 (t7 + 1)), b951_0, b951_1, b952_0, b952_1, b953_0, r951000, r951001, ())))
noncomputable def impl_CountMorphisms_1_L14 (self_ : Int × (List Int) × (List Int) × Int × (List (Int × Int)) × Int × (List (Int × Int)) × Int × Unit → Option (Int × (List (Int × Int)) × Int × (List (Int × Int)) × Int × (List Int) × (List Int) × Unit)) : Int × Int × Int × (List (Int × Int)) × Int × (List (Int × Int)) × Int × (List Int) × (List Int) × Unit → Option ((Int × Int × Int × (List (Int × Int)) × Int × (List (Int × Int)) × Int × (List Int) × (List Int) × Unit) ⊕ (Int × (List (Int × Int)) × Int × (List (Int × Int)) × Int × (List Int) × (List Int) × Unit)) := fun (t0, t7, b951_0, b951_1, b952_0, b952_1, b953_0, r951000, r951001, _) =>
  cond (decide (t7 < ((b952_1).length : Int)))
    (chk (0 ≤ t0 ∧ t0 < ((b951_1).length : Int)) (chk (0 ≤ (atD (0, 0) b951_1 t0).1 ∧ (atD (0, 0) b951_1 t0).1 < ((r951000).length : Int)) (chk (0 ≤ t0 ∧ t0 < ((b951_1).length : Int)) (chk (0 ≤ (atD (0, 0) b951_1 t0).2 ∧ (atD (0, 0) b951_1 t0).2 < ((r951000).length : Int)) (joinB (T := Int × Int × Bool × Int × (List (Int × Int)) × Int × (List (Int × Int)) × Int × (List Int) × (List Int) × Unit) (R := ((Int × Int × Int × (List (Int × Int)) × Int × (List (Int × Int)) × Int × (List Int) × (List Int) × Unit) ⊕ Int × (List (Int × Int)) × Int × (List (Int × Int)) × Int × (List Int) × (List Int) × Unit)) (cond (t7 == (-1))
    (cond (atD 0 r951000 ((atD (0, 0) b951_1 t0).1) == atD 0 r951000 ((atD (0, 0) b951_1 t0).2))
    (some (.inl (t0, t7, true, b951_0, b951_1, b952_0, b952_1, b953_0, r951000, r951001, ())))
    (cond (decide (t7 ≥ 0))
    (chk (0 ≤ t7 ∧ t7 < ((b952_1).length : Int)) (some (.inl (t0, t7, (((atD (0, 0) b952_1 t7).1 == (min2 (atD 0 r951000 ((atD (0, 0) b951_1 t0).1)) (atD 0 r951000 ((atD (0, 0) b951_1 t0).2)))) && ((atD (0, 0) b952_1 t7).2 == (max2 (atD 0 r951000 ((atD (0, 0) b951_1 t0).1)) (atD 0 r951000 ((atD (0, 0) b951_1 t0).2))))), b951_0, b951_1, b952_0, b952_1, b953_0, r951000, r951001, ()))))
    (some (.inl (t0, t7, false, b951_0, b951_1, b952_0, b952_1, b953_0, r951000, r951001, ())))))
    (cond (decide (t7 ≥ 0))
    (chk (0 ≤ t7 ∧ t7 < ((b952_1).length : Int)) (some (.inl (t0, t7, (((atD (0, 0) b952_1 t7).1 == (min2 (atD 0 r951000 ((atD (0, 0) b951_1 t0).1)) (atD 0 r951000 ((atD (0, 0) b951_1 t0).2)))) && ((atD (0, 0) b952_1 t7).2 == (max2 (atD 0 r951000 ((atD (0, 0) b951_1 t0).1)) (atD 0 r951000 ((atD (0, 0) b951_1 t0).2))))), b951_0, b951_1, b952_0, b952_1, b953_0, r951000, r951001, ()))))
    (some (.inl (t0, t7, false, b951_0, b951_1, b952_0, b952_1, b953_0, r951000, r951001, ()))))) (impl_CountMorphisms_1_J914 self_))))))
    (Option.map Sum.inr (some (b951_0, b951_1, b952_0, b952_1, b953_0, r951000, r951001, ())))
noncomputable def impl_CountMorphisms_1_step (self_ : Int × (List Int) × (List Int) × Int × (List (Int × Int)) × Int × (List (Int × Int)) × Int × Unit → Option (Int × (List (Int × Int)) × Int × (List (Int × Int)) × Int × (List Int) × (List Int) × Unit)) : Int × (List Int) × (List Int) × Int × (List (Int × Int)) × Int × (List (Int × Int)) × Int × Unit → Option (Int × (List (Int × Int)) × Int × (List (Int × Int)) × Int × (List Int) × (List Int) × Unit) := fun (t0, b950_0, b950_1, b951_0, b951_1, b952_0, b952_1, b953_0, _) =>
  cond (t0 == ((b950_1).length : Int))
    (Option.bind (impl_IsHarmonic (b951_0, b951_1, b952_0, b952_1, b950_0, b950_1, ())) fun (v1, _) => cond v1
    (Option.bind (slices_Min_int_int (b950_0, ())) fun (v2, _) => Option.bind (slices_Max_int_int (b950_0, ())) fun (v3, _) => cond (v2 != v3)
    (some (b951_0, b951_1, b952_0, b952_1, (w64 (b953_0 + 1)), b950_0, b950_1, ()))
    (some (b951_0, b951_1, b952_0, b952_1, b953_0, b950_0, b950_1, ())))
    (some (b951_0, b951_1, b952_0, b952_1, b953_0, b950_0, b950_1, ())))
    (loopM (impl_CountMorphisms_1_L14 self_) (t0, (-1), b951_0, b951_1, b952_0, b952_1, b953_0, b950_0, b950_1, ()))
noncomputable def impl_CountMorphisms_1_rec : Nat → Int × (List Int) × (List Int) × Int × (List (Int × Int)) × Int × (List (Int × Int)) × Int × Unit → Option (Int × (List (Int × Int)) × Int × (List (Int × Int)) × Int × (List Int) × (List Int) × Unit)
  | 0 => fun _ => none
  | k + 1 => impl_CountMorphisms_1_step (impl_CountMorphisms_1_rec k)
noncomputable def impl_CountMorphisms_1 : Int × (List Int) × (List Int) × Int × (List (Int × Int)) × Int × (List (Int × Int)) × Int × Unit → Option (Int × (List (Int × Int)) × Int × (List (Int × Int)) × Int × (List Int) × (List Int) × Unit) := impl_CountMorphisms_1_rec 64
noncomputable def impl_CountMorphisms_1_G (self_ : Int × (List Int) × (List Int) × Int × (List (Int × Int)) × Int × (List (Int × Int)) × Int × Unit → Option (Int × (List (Int × Int)) × Int × (List (Int × Int)) × Int × (List Int) × (List Int) × Unit)) : Fun := ⟨impl_CountMorphisms_1_ins, [950, 951, 952, 953, 954, 951000, 951001], impl_CountMorphisms_1_outs, self_⟩
noncomputable def impl_CountMorphisms_1_orc (self_ : Int × (List Int) × (List Int) × Int × (List (Int × Int)) × Int × (List (Int × Int)) × Int × Unit → Option (Int × (List (Int × Int)) × Int × (List (Int × Int)) × Int × (List Int) × (List Int) × Unit)) : Orc := orcGet [(19, impl_IsHarmonic_F), (55, impl_CountMorphisms_1_G self_), (56, slices_Min_int_int_F), (57, slices_Max_int_int_F)]
theorem impl_CountMorphisms_1_eq (self_ : Int × (List Int) × (List Int) × Int × (List (Int × Int)) × Int × (List (Int × Int)) × Int × Unit → Option (Int × (List (Int × Int)) × Int × (List (Int × Int)) × Int × (List Int) × (List Int) × Unit)) (x : Den impl_CountMorphisms_1_ins) : pmFn (tdGet tab) (impl_CountMorphisms_1_orc self_) (impl_CountMorphisms_1_G self_).mn impl_CountMorphisms_1_ann Go.Proofs.Try.f55 impl_CountMorphisms_1_ins impl_CountMorphisms_1_outs x = impl_CountMorphisms_1_step self_ x := by kernel_rfl
theorem impl_CountMorphisms_1_cn : ∀ k : Nat, CallsD Go.Proofs.Try.prog 55 (impl_CountMorphisms_1_G (impl_CountMorphisms_1_rec k))
  | 0 => fn_contract (F := impl_CountMorphisms_1_G (impl_CountMorphisms_1_rec 0)) (C := orcGet []) mix (chkTab_get tab_ok) orc_nil impl_CountMorphisms_1_ann (fn := Go.Proofs.Try.f55) (by kernel_rfl) (by kernel_rfl) (by kernel_rfl) (by kernel_rfl) (by kernel_rfl) (fun x y h => nomatch h)
  | k + 1 => have ih := impl_CountMorphisms_1_cn k
    fn_contract (F := impl_CountMorphisms_1_G (impl_CountMorphisms_1_rec (k + 1))) (C := impl_CountMorphisms_1_orc (impl_CountMorphisms_1_rec k)) mix (chkTab_get tab_ok) (orc_cons impl_IsHarmonic_c (orc_cons ih (orc_cons slices_Min_int_int_c (orc_cons slices_Max_int_int_c orc_nil)))) impl_CountMorphisms_1_ann (fn := Go.Proofs.Try.f55) (by kernel_rfl) (by kernel_rfl) (by kernel_rfl) (by kernel_rfl) (by kernel_rfl) (fun x y h => (impl_CountMorphisms_1_eq (impl_CountMorphisms_1_rec k) x).trans h)
noncomputable def impl_CountMorphisms_1_F : Fun := impl_CountMorphisms_1_G impl_CountMorphisms_1
theorem impl_CountMorphisms_1_c : CallsD Go.Proofs.Try.prog 55 impl_CountMorphisms_1_F := impl_CountMorphisms_1_cn 64

def impl_CountMorphisms_2_ins : List Item := [.t 0 (.int .i64), .t 1 (.ptr 950), .t 2 (.ptr 951), .t 3 (.ptr 952), .t 4 (.ptr 953), .t 5 (.ptr 954), .box 950 29 [.int .i64, .ro .ii], .box 951 74 [.fn 55 [952, 950, 953, 955, 951]], .box 952 37 [.own 3 (.int .i64), .own 3 (.int .i64)], .box 953 29 [.int .i64, .ro .ii], .box 954 74 [.fn 58 [950, 951, 952, 953, 954]], .box 955 3 [.int .i64]]
def impl_CountMorphisms_2_outs : List Item := [.box 950 29 [.int .i64, .ro .ii], .box 951 74 [.fn 55 [952, 950, 953, 955, 951]], .box 952 37 [.al 953000, .al 953001], .box 953 29 [.int .i64, .ro .ii], .box 954 74 [.fn 58 [950, 951, 952, 953, 954]], .box 955 3 [.int .i64], .row 953000 3 (.int .i64), .row 953001 3 (.int .i64)]
def impl_CountMorphisms_2_ann : List (Nat × List Item) := [(14, [.t 0 (.int .i64), .t 3 (.ptr 952), .t 4 (.ptr 953), .t 5 (.ptr 954), .box 952 37 [.al 953000, .al 953001], .box 953 29 [.int .i64, .ro .ii], .box 954 74 [.fn 58 [950, 951, 952, 953, 954]], .box 950 29 [.int .i64, .ro .ii], .box 951 74 [.fn 55 [952, 950, 953, 955, 951]], .box 955 3 [.int .i64], .row 953000 3 (.int .i64), .row 953001 3 (.int .i64)])]
noncomputable def impl_CountMorphisms_2_L14 (self_ : Int × Int × (List (Int × Int)) × (List Int) × (List Int) × Int × (List (Int × Int)) × Int × Unit → Option (Int × (List (Int × Int)) × Int × (List (Int × Int)) × Int × (List Int) × (List Int) × Unit)) : Int × Int × (List (Int × Int)) × Int × (List (Int × Int)) × Int × (List Int) × (List Int) × Unit → Option ((Int × Int × (List (Int × Int)) × Int × (List (Int × Int)) × Int × (List Int) × (List Int) × Unit) ⊕ (Int × (List (Int × Int)) × Int × (List (Int × Int)) × Int × (List Int) × (List Int) × Unit)) := fun (t0, b953_0, b953_1, b950_0, b950_1, b955_0, r953000, r953001, _) =>
  chk (0 ≤ t0 ∧ t0 < ((r953000).length : Int)) (cond (decide (atD 0 r953000 t0 < b953_0))
    (Option.bind (self_ ((w64 (t0 + 1)), b950_0, b950_1, r953000, r953001, b953_0, b953_1, b955_0, ())) fun (v8, v9, v10, v11, v12, v13, v14, _) => chk (0 ≤ t0 ∧ t0 < ((v13).length : Int)) (chk (0 ≤ t0 ∧ t0 < ((v13).length : Int)) (some (.inl (t0, v10, v11, v8, v9, v12, (v13.set (t0 : Int).toNat (w64 (atD 0 v13 t0 + 1))), v14, ())))))
    (Option.map Sum.inr (some (b950_0, b950_1, b953_0, b953_1, b955_0, r953000, r953001, ()))))
noncomputable def impl_CountMorphisms_2_step (self_ : Int × Int × (List (Int × Int)) × (List Int) × (List Int) × Int × (List (Int × Int)) × Int × Unit → Option (Int × (List (Int × Int)) × Int × (List (Int × Int)) × Int × (List Int) × (List Int) × Unit)) : Int × Int × (List (Int × Int)) × (List Int) × (List Int) × Int × (List (Int × Int)) × Int × Unit → Option (Int × (List (Int × Int)) × Int × (List (Int × Int)) × Int × (List Int) × (List Int) × Unit) := fun (t0, b950_0, b950_1, b952_0, b952_1, b953_0, b953_1, b955_0, _) =>
  cond (t0 == b950_0)
    (Option.bind (impl_CountMorphisms_1 (0, b952_0, b952_1, b950_0, b950_1, b953_0, b953_1, b955_0, ())) fun (v1, v2, v3, v4, v5, v6, v7, _) => some (v1, v2, v3, v4, v5, v6, v7, ()))
    (chk (0 ≤ t0 ∧ t0 < ((b952_0).length : Int)) (loopM (impl_CountMorphisms_2_L14 self_) (t0, b953_0, b953_1, b950_0, b950_1, b955_0, (b952_0.set (t0 : Int).toNat 0), b952_1, ())))
noncomputable def impl_CountMorphisms_2_rec : Nat → Int × Int × (List (Int × Int)) × (List Int) × (List Int) × Int × (List (Int × Int)) × Int × Unit → Option (Int × (List (Int × Int)) × Int × (List (Int × Int)) × Int × (List Int) × (List Int) × Unit)
  | 0 => fun _ => none
  | k + 1 => impl_CountMorphisms_2_step (impl_CountMorphisms_2_rec k)
noncomputable def impl_CountMorphisms_2 : Int × Int × (List (Int × Int)) × (List Int) × (List Int) × Int × (List (Int × Int)) × Int × Unit → Option (Int × (List (Int × Int)) × Int × (List (Int × Int)) × Int × (List Int) × (List Int) × Unit) := impl_CountMorphisms_2_rec 64
noncomputable def impl_CountMorphisms_2_G (self_ : Int × Int × (List (Int × Int)) × (List Int) × (List Int) × Int × (List (Int × Int)) × Int × Unit → Option (Int × (List (Int × Int)) × Int × (List (Int × Int)) × Int × (List Int) × (List Int) × Unit)) : Fun := ⟨impl_CountMorphisms_2_ins, [950, 951, 952, 953, 954, 955, 953000, 953001], impl_CountMorphisms_2_outs, self_⟩
noncomputable def impl_CountMorphisms_2_orc (self_ : Int × Int × (List (Int × Int)) × (List Int) × (List Int) × Int × (List (Int × Int)) × Int × Unit → Option (Int × (List (Int × Int)) × Int × (List (Int × Int)) × Int × (List Int) × (List Int) × Unit)) : Orc := orcGet [(55, impl_CountMorphisms_1_F), (58, impl_CountMorphisms_2_G self_)]
theorem impl_CountMorphisms_2_eq (self_ : Int × Int × (List (Int × Int)) × (List Int) × (List Int) × Int × (List (Int × Int)) × Int × Unit → Option (Int × (List (Int × Int)) × Int × (List (Int × Int)) × Int × (List Int) × (List Int) × Unit)) (x : Den impl_CountMorphisms_2_ins) : pmFn (tdGet tab) (impl_CountMorphisms_2_orc self_) (impl_CountMorphisms_2_G self_).mn impl_CountMorphisms_2_ann Go.Proofs.Try.f58 impl_CountMorphisms_2_ins impl_CountMorphisms_2_outs x = impl_CountMorphisms_2_step self_ x := by kernel_rfl
theorem impl_CountMorphisms_2_cn : ∀ k : Nat, CallsD Go.Proofs.Try.prog 58 (impl_CountMorphisms_2_G (impl_CountMorphisms_2_rec k))
  | 0 => fn_contract (F := impl_CountMorphisms_2_G (impl_CountMorphisms_2_rec 0)) (C := orcGet []) mix (chkTab_get tab_ok) orc_nil impl_CountMorphisms_2_ann (fn := Go.Proofs.Try.f58) (by kernel_rfl) (by kernel_rfl) (by kernel_rfl) (by kernel_rfl) (by kernel_rfl) (fun x y h => nomatch h)
  | k + 1 => have ih := impl_CountMorphisms_2_cn k
    fn_contract (F := impl_CountMorphisms_2_G (impl_CountMorphisms_2_rec (k + 1))) (C := impl_CountMorphisms_2_orc (impl_CountMorphisms_2_rec k)) mix (chkTab_get tab_ok) (orc_cons impl_CountMorphisms_1_c (orc_cons ih orc_nil)) impl_CountMorphisms_2_ann (fn := Go.Proofs.Try.f58) (by kernel_rfl) (by kernel_rfl) (by kernel_rfl) (by kernel_rfl) (by kernel_rfl) (fun x y h => (impl_CountMorphisms_2_eq (impl_CountMorphisms_2_rec k) x).trans h)
noncomputable def impl_CountMorphisms_2_F : Fun := impl_CountMorphisms_2_G impl_CountMorphisms_2
theorem impl_CountMorphisms_2_c : CallsD Go.Proofs.Try.prog 58 impl_CountMorphisms_2_F := impl_CountMorphisms_2_cn 64

def impl_CountMorphisms_ins : List Item := [.agg 0 [.int .i64, .ro .ii], .agg 1 [.int .i64, .ro .ii]]
def impl_CountMorphisms_outs : List Item := [.t 500 (.int .i64)]
def impl_CountMorphisms_ann : List (Nat × List Item) := [(12, [.t 2 (.ptr 2), .t 3 (.ptr 3), .t 38 (.bool), .box 2 29 [.int .i64, .ro .ii], .box 3 29 [.int .i64, .ro .ii]])]
noncomputable def impl_CountMorphisms_J12 : Bool × Int × (List (Int × Int)) × Int × (List (Int × Int)) × Unit → Option (Int × Unit) := fun (t38, b2_0, b2_1, b3_0, b3_1, _) =>
  cond t38
    (some ((-1), ()))
    (chk (b2_0 = b2_0 ∧ 0 ≤ b2_0 ∧ b2_0 ≤ 17592186044416) (chk (((b2_1).length : Int) = ((b2_1).length : Int) ∧ 0 ≤ ((b2_1).length : Int) ∧ ((b2_1).length : Int) ≤ 17592186044416) (Option.bind (impl_CountMorphisms_2 (0, b2_0, b2_1, (List.replicate (b2_0).toNat (0 : Int)), (List.replicate (((b2_1).length : Int)).toNat (0 : Int)), b3_0, b3_1, 0, ())) fun (v4, v5, v6, v7, v8, v9, v10, _) => some (v8, ()))))
noncomputable def impl_CountMorphisms : Int × (List (Int × Int)) × Int × (List (Int × Int)) × Unit → Option (Int × Unit) := fun (t0_0, t0_1, t1_0, t1_1, _) =>
  joinB (T := Bool × Int × (List (Int × Int)) × Int × (List (Int × Int)) × Unit) (R := Int × Unit) (Option.bind (impl_GraphOk (t0_0, t0_1, ())) fun (v2, _) => cond (!v2)
    (some (.inl (true, t0_0, t0_1, t1_0, t1_1, ())))
    (Option.bind (impl_GraphOk (t1_0, t1_1, ())) fun (v3, _) => cond (!v3)
    (some (.inl (true, t0_0, t0_1, t1_0, t1_1, ())))
    (cond (decide (t0_0 > 4))
    (some (.inl (true, t0_0, t0_1, t1_0, t1_1, ())))
    (cond (decide (((t0_1).length : Int) > 5))
    (some (.inl (true, t0_0, t0_1, t1_0, t1_1, ())))
    (cond (decide (t1_0 > 3))
    (some (.inl (true, t0_0, t0_1, t1_0, t1_1, ())))
    (some (.inl ((decide (((t1_1).length : Int) > 3)), t0_0, t0_1, t1_0, t1_1, ())))))))) impl_CountMorphisms_J12
noncomputable def impl_CountMorphisms_F : Fun := ⟨impl_CountMorphisms_ins, [], impl_CountMorphisms_outs, impl_CountMorphisms⟩
noncomputable def impl_CountMorphisms_orc : Orc := orcGet [(54, impl_GraphOk_F), (58, impl_CountMorphisms_2_F)]
theorem impl_CountMorphisms_eq (x : Den impl_CountMorphisms_ins) : pmFn (tdGet tab) impl_CountMorphisms_orc impl_CountMorphisms_F.mn impl_CountMorphisms_ann Go.Proofs.Try.f12 impl_CountMorphisms_ins impl_CountMorphisms_outs x = impl_CountMorphisms x := by kernel_rfl
theorem impl_CountMorphisms_c : CallsD Go.Proofs.Try.prog 12 impl_CountMorphisms_F :=
  fn_contract (F := impl_CountMorphisms_F) (C := impl_CountMorphisms_orc) mix (chkTab_get tab_ok) (orc_cons impl_GraphOk_c (orc_cons impl_CountMorphisms_2_c orc_nil)) impl_CountMorphisms_ann (fn := Go.Proofs.Try.f12) (by kernel_rfl) (by kernel_rfl) (by kernel_rfl) (by kernel_rfl) (by kernel_rfl) (fun x y h => (impl_CountMorphisms_eq x).trans h)

def impl_DegreeOfMorphism_ins : List Item := [.agg 0 [.int .i64, .ro .ii], .agg 1 [.int .i64, .ro .ii], .agg 2 [.ro (.int .i64), .ro (.int .i64)]]
def impl_DegreeOfMorphism_outs : List Item := [.t 500 (.int .i64)]
def impl_DegreeOfMorphism_ann : List (Nat × List Item) := [(122, [.t 7 (.int .i64), .t 16 (.ro (.int .i64)), .t 17 (.int .i64), .t 18 (.int .i64)])]
noncomputable def impl_DegreeOfMorphism_L122 : Int × (List Int) × Int × Int × Unit → Option ((Int × (List Int) × Int × Int × Unit) ⊕ (Int × Unit)) := fun (t7, t16, t17, t18, _) =>
  cond (decide (t18 < t17))
    (chk (0 ≤ t18 ∧ t18 < ((t16).length : Int)) (cond (atD 0 t16 t18 == 0)
    (some (.inl ((w64 (t7 + 1)), t16, t17, (w64 (t18 + 1)), ())))
    (some (.inl (t7, t16, t17, (w64 (t18 + 1)), ())))))
    (Option.map Sum.inr (some (t7, ())))
noncomputable def impl_DegreeOfMorphism : Int × (List (Int × Int)) × Int × (List (Int × Int)) × (List Int) × (List Int) × Unit → Option (Int × Unit) := fun (t0_0, t0_1, t1_0, t1_1, t2_0, t2_1, _) =>
  Option.bind (impl_IsHarmonic (t0_0, t0_1, t1_0, t1_1, t2_0, t2_1, ())) fun (v1, _) => cond (!v1)
    (some ((-1), ()))
    (loopM impl_DegreeOfMorphism_L122 (0, t2_1, ((t2_1).length : Int), 0, ()))
noncomputable def impl_DegreeOfMorphism_F : Fun := ⟨impl_DegreeOfMorphism_ins, [], impl_DegreeOfMorphism_outs, impl_DegreeOfMorphism⟩
noncomputable def impl_DegreeOfMorphism_orc : Orc := orcGet [(19, impl_IsHarmonic_F)]
theorem impl_DegreeOfMorphism_eq (x : Den impl_DegreeOfMorphism_ins) : pmFn (tdGet tab) impl_DegreeOfMorphism_orc impl_DegreeOfMorphism_F.mn impl_DegreeOfMorphism_ann Go.Proofs.Try.f20 impl_DegreeOfMorphism_ins impl_DegreeOfMorphism_outs x = impl_DegreeOfMorphism x := by kernel_rfl
theorem impl_DegreeOfMorphism_c : CallsD Go.Proofs.Try.prog 20 impl_DegreeOfMorphism_F :=
  fn_contract (F := impl_DegreeOfMorphism_F) (C := impl_DegreeOfMorphism_orc) mix (chkTab_get tab_ok) (orc_cons impl_IsHarmonic_c orc_nil) impl_DegreeOfMorphism_ann (fn := Go.Proofs.Try.f20) (by kernel_rfl) (by kernel_rfl) (by kernel_rfl) (by kernel_rfl) (by kernel_rfl) (fun x y h => (impl_DegreeOfMorphism_eq x).trans h)

def laws_same_ins : List Item := [.t 0 (.ro (.int .i64)), .t 1 (.ro (.int .i64))]
def laws_same_outs : List Item := [.t 500 (.bool)]
def laws_same_ann : List (Nat × List Item) := [(58, [.t 1 (.ro (.int .i64)), .t 12 (.ro (.int .i64)), .t 13 (.int .i64), .t 14 (.int .i64)])]
noncomputable def laws_same_L58 : (List Int) × (List Int) × Int × Int × Unit → Option (((List Int) × (List Int) × Int × Int × Unit) ⊕ (Bool × Unit)) := fun (t1, t12, t13, t14, _) =>
  cond (decide (t14 < t13))
    (chk (0 ≤ t14 ∧ t14 < ((t12).length : Int)) (chk (0 ≤ t14 ∧ t14 < ((t1).length : Int)) (cond (atD 0 t12 t14 != atD 0 t1 t14)
    (Option.map Sum.inr (some (false, ())))
    (some (.inl (t1, t12, t13, (w64 (t14 + 1)), ()))))))
    (Option.map Sum.inr (some (true, ())))
noncomputable def laws_same : (List Int) × (List Int) × Unit → Option (Bool × Unit) := fun (t0, t1, _) =>
  cond (((t0).length : Int) != ((t1).length : Int))
    (some (false, ()))
    (loopM laws_same_L58 (t1, t0, ((t0).length : Int), 0, ()))
noncomputable def laws_same_F : Fun := ⟨laws_same_ins, [], laws_same_outs, laws_same⟩
noncomputable def laws_same_orc : Orc := orcGet []
theorem laws_same_eq (x : Den laws_same_ins) : pmFn (tdGet tab) laws_same_orc laws_same_F.mn laws_same_ann Go.Proofs.Try.f21 laws_same_ins laws_same_outs x = laws_same x := by kernel_rfl
theorem laws_same_c : CallsD Go.Proofs.Try.prog 21 laws_same_F :=
  fn_contract (F := laws_same_F) (C := laws_same_orc) mix (chkTab_get tab_ok) orc_nil laws_same_ann (fn := Go.Proofs.Try.f21) (by kernel_rfl) (by kernel_rfl) (by kernel_rfl) (by kernel_rfl) (by kernel_rfl) (fun x y h => (laws_same_eq x).trans h)

def laws_FnIdentity_ins : List Item := [.t 0 (.ro (.int .u8))]
def laws_FnIdentity_outs : List Item := [.t 500 (.bool)]
def laws_FnIdentity_ann : List (Nat × List Item) := [(1022, [.t 3 (.ptr 3), .t 4 (.ptr 4), .t 5 (.bool), .t 6 (.own 3 (.int .i64)), .t 7 (.own 3 (.int .i64)), .t 8 (.bool), .t 9 (.own 3 (.int .i64)), .t 10 (.bool), .t 11 (.int .i64), .t 12 (.bool), .box 3 29 [.int .i64, .own 76 .ii], .box 4 37 [.own 3 (.int .i64), .own 3 (.int .i64)]])]
noncomputable def laws_FnIdentity_J1022 : Bool × (List Int) × (List Int) × Bool × (List Int) × Bool × Int × Bool × Int × (List (Int × Int)) × (List Int) × (List Int) × Unit → Option (Bool × Unit) := fun (t5, t6, t7, t8, t9, t10, t11, t12, b3_0, b3_1, b4_0, b4_1, _) =>
  cond t5
    (cond t8
    (cond t10
    (Option.bind (impl_IsHarmonic (b3_0, b3_1, b3_0, b3_1, b4_0, b4_1, ())) fun (v13, _) => cond v13
    (Option.bind (impl_DegreeOfMorphism (b3_0, b3_1, b3_0, b3_1, b4_0, b4_1, ())) fun (v14, _) => cond (v14 == 1)
    (Option.bind (laws_same (t7, t6, ())) fun (v15, _) => cond v15
    (Option.bind (laws_same (t9, t6, ())) fun (v16, _) => cond v16
    (cond ((decide (t11 ≥ 1)) == t12)
    (some (((t11 == (-1)) == (!t12)), ()))
    (some (false, ())))
    (some (false, ())))
    (some (false, ())))
    (some (false, ())))
    (some (false, ())))
    (some (false, ())))
    (some (false, ())))
    (some (false, ()))
noncomputable def laws_FnIdentity : (List Int) × Unit → Option (Bool × Unit) := fun (t0, _) =>
  cond (decide (((t0).length : Int) > 1048576))
    (some (true, ()))
    (Option.bind (spec_MakeSmall (t0, ())) fun (v1, v2, _) => Option.bind (impl_IdentityMorphism (v1, v2, ())) fun (v3, v4, v5, _) => Option.bind (spec_MakeDivisor (t0, 20, v1, v2, ())) fun (v6, _) => Option.bind (impl_PushForward (v1, v2, v1, v2, v3, v4, v6, ())) fun (v7, v8, _) => Option.bind (impl_PullBack (v1, v2, v1, v2, v3, v4, v6, ())) fun (v9, v10, _) => Option.bind (impl_CountMorphisms (v1, v2, v1, v2, ())) fun (v11, _) => joinB (T := Bool × (List Int) × (List Int) × Bool × (List Int) × Bool × Int × Bool × Int × (List (Int × Int)) × (List Int) × (List Int) × Unit) (R := Bool × Unit) (cond (decide (v1 ≤ 3))
    (some (.inl (v5, v6, v7, v8, v9, v10, v11, (decide (((v2).length : Int) ≤ 3)), v1, v2, v3, v4, ())))
    (some (.inl (v5, v6, v7, v8, v9, v10, v11, false, v1, v2, v3, v4, ())))) laws_FnIdentity_J1022)
noncomputable def laws_FnIdentity_F : Fun := ⟨laws_FnIdentity_ins, [], laws_FnIdentity_outs, laws_FnIdentity⟩
noncomputable def laws_FnIdentity_orc : Orc := orcGet [(12, impl_CountMorphisms_F), (14, spec_MakeSmall_F), (15, impl_IdentityMorphism_F), (16, spec_MakeDivisor_F), (17, impl_PushForward_F), (18, impl_PullBack_F), (19, impl_IsHarmonic_F), (20, impl_DegreeOfMorphism_F), (21, laws_same_F)]
theorem laws_FnIdentity_eq (x : Den laws_FnIdentity_ins) : pmFn (tdGet tab) laws_FnIdentity_orc laws_FnIdentity_F.mn laws_FnIdentity_ann Go.Proofs.Try.f4 laws_FnIdentity_ins laws_FnIdentity_outs x = laws_FnIdentity x := by kernel_rfl
theorem laws_FnIdentity_c : CallsD Go.Proofs.Try.prog 4 laws_FnIdentity_F :=
  fn_contract (F := laws_FnIdentity_F) (C := laws_FnIdentity_orc) mix (chkTab_get tab_ok) (orc_cons impl_CountMorphisms_c (orc_cons spec_MakeSmall_c (orc_cons impl_IdentityMorphism_c (orc_cons spec_MakeDivisor_c (orc_cons impl_PushForward_c (orc_cons impl_PullBack_c (orc_cons impl_IsHarmonic_c (orc_cons impl_DegreeOfMorphism_c (orc_cons laws_same_c orc_nil))))))))) laws_FnIdentity_ann (fn := Go.Proofs.Try.f4) (by kernel_rfl) (by kernel_rfl) (by kernel_rfl) (by kernel_rfl) (by kernel_rfl) (fun x y h => (laws_FnIdentity_eq x).trans h)

end Go.Pm.Try
