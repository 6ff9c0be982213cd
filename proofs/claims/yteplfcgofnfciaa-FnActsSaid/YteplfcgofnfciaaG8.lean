/-
  The typed functions that this claim reaches, written by a program of this session: each is what the code does. No conditions.
-/
import Derived.Test.YteplfcgofnfciaaProg
import Derived.Test.YteplfcgofnfciaaMb
set_option linter.unusedVariables false
namespace Go.Pm.Try
open Go.Pm
def tab : List (TypeId × TD) := [(3, .one (.int .i64 0)),
  (4, .one (.bool false)),
  (5, .one (.int .u8 0)),
  (9, .one (.string ByteArray.empty)),
  (27, .slice 76 .ii),
  (29, .struct [(0, 1), (1, 1)] [.int .i64 0, .slice none 0 0]),
  (33, .slice 5 (.int .u8)),
  (35, .slice 3 (.int .i64)),
  (76, .ii),
  (79, .one (.pointer none)),
  (91, .slice 35 (.sl (.int .i64))),
  (110, .one (.nilFunc)),
  (115, .struct [(0, 1), (1, 1), (2, 1)] [.slice none 0 0, .int .i64 0, .int .i64 0]),
  (122, .one (.int .u64 0)),
  (135, .one (.int .i64 0)),
  (143, .one (.int .u32 0)),
  (145, .one (.int .u64 0)),
  (150, .one (.int .u64 0)),
  (154, .one (.pointer none))]
theorem tab_ok : chkTab Go.Proofs.Try.prog tab = true := by kernel_rfl
theorem mix : Go.Proofs.Try.prog.follows .mixedOrders = true := by kernel_rfl
def spec_l01New_ins : List Item := [.t 0 (.ro (.int .u8))]
def spec_l01New_outs : List Item := [.t 500 (.ptr 31), .box 31 115 [.ro (.int .u8), .int .i64, .int .i64]]
def spec_l01New_ann : List (Nat × List Item) := [(58, [.t 0 (.ro (.int .u8)), .t 3 (.int .i64), .t 4 (.int .i64)])]
noncomputable def spec_l01New_L58 : (List Int) × Int × Int × Unit → Option (((List Int) × Int × Int × Unit) ⊕ ((List Int) × Int × Int × Unit)) := fun (t0, t3, t4, _) =>
  cond (decide (t4 < ((t0).length : Int)))
    (cond (decide (t4 < 4000))
    (chk (0 ≤ t4 ∧ t4 < ((t0).length : Int)) (some (.inl (t0, (iand .i64 (w64 ((w64 ((w64 (t3 * 97)) + (w64 (atD 0 t0 t4)))) + 7)) 1073741823), (w64 (t4 + 1)), ()))))
    (Option.map Sum.inr (some (t0, 0, t3, ()))))
    (Option.map Sum.inr (some (t0, 0, t3, ())))
noncomputable def spec_l01New : (List Int) × Unit → Option ((List Int) × Int × Int × Unit) := fun (t0, _) =>
  loopM spec_l01New_L58 (t0, (w64 (2069 + ((t0).length : Int))), 0, ())
noncomputable def spec_l01New_F : Fun := ⟨spec_l01New_ins, [], spec_l01New_outs, spec_l01New⟩
noncomputable def spec_l01New_orc : Orc := orcGet []
theorem spec_l01New_eq (x : Den spec_l01New_ins) : pmFn (tdGet tab) spec_l01New_orc spec_l01New_F.mn spec_l01New_ann Go.Proofs.Try.f61 spec_l01New_ins spec_l01New_outs x = spec_l01New x := by kernel_rfl
theorem spec_l01New_c : CallsD Go.Proofs.Try.prog 61 spec_l01New_F :=
  fn_contract (F := spec_l01New_F) (C := spec_l01New_orc) mix (chkTab_get tab_ok) orc_nil spec_l01New_ann (fn := Go.Proofs.Try.f61) (by kernel_rfl) (by kernel_rfl) (by kernel_rfl) (by kernel_rfl) (by kernel_rfl) (fun x y h => (spec_l01New_eq x).trans h)

def spec_l01Byte_ins : List Item := [.t 0 (.ptr 900), .box 900 115 [.ro (.int .u8), .int .i64, .int .i64]]
def spec_l01Byte_outs : List Item := [.t 500 (.int .i64), .box 900 115 [.ro (.int .u8), .int .i64, .int .i64]]
def spec_l01Byte_ann : List (Nat × List Item) := []
noncomputable def spec_l01Byte : (List Int) × Int × Int × Unit → Option (Int × (List Int) × Int × Int × Unit) := fun (b900_0, b900_1, b900_2, _) =>
  chk (0 ≤ 33) (chk (0 ≤ 45) (cond (decide (b900_1 < ((b900_0).length : Int)))
    (chk (0 ≤ b900_1 ∧ b900_1 < ((b900_0).length : Int)) (some ((iand .i64 (w64 ((iand .i64 (ixor .i64 (ishr .i64 (w64 ((w64 (b900_2 * 6364136223846793005)) + 1442695040888963407)) 33) (ishr .i64 (w64 ((w64 (b900_2 * 6364136223846793005)) + 1442695040888963407)) 45)) 255) + (w64 (atD 0 b900_0 b900_1)))) 255), b900_0, (w64 (b900_1 + 1)), (w64 ((w64 (b900_2 * 6364136223846793005)) + 1442695040888963407)), ())))
    (some ((iand .i64 (ixor .i64 (ishr .i64 (w64 ((w64 (b900_2 * 6364136223846793005)) + 1442695040888963407)) 33) (ishr .i64 (w64 ((w64 (b900_2 * 6364136223846793005)) + 1442695040888963407)) 45)) 255), b900_0, b900_1, (w64 ((w64 (b900_2 * 6364136223846793005)) + 1442695040888963407)), ()))))
noncomputable def spec_l01Byte_F : Fun := ⟨spec_l01Byte_ins, [900], spec_l01Byte_outs, spec_l01Byte⟩
noncomputable def spec_l01Byte_orc : Orc := orcGet []
theorem spec_l01Byte_eq (x : Den spec_l01Byte_ins) : pmFn (tdGet tab) spec_l01Byte_orc spec_l01Byte_F.mn spec_l01Byte_ann Go.Proofs.Try.f79 spec_l01Byte_ins spec_l01Byte_outs x = spec_l01Byte x := by kernel_rfl
theorem spec_l01Byte_c : CallsD Go.Proofs.Try.prog 79 spec_l01Byte_F :=
  fn_contract (F := spec_l01Byte_F) (C := spec_l01Byte_orc) mix (chkTab_get tab_ok) orc_nil spec_l01Byte_ann (fn := Go.Proofs.Try.f79) (by kernel_rfl) (by kernel_rfl) (by kernel_rfl) (by kernel_rfl) (by kernel_rfl) (fun x y h => (spec_l01Byte_eq x).trans h)

def spec_l01Below_ins : List Item := [.t 0 (.ptr 900), .t 1 (.int .i64), .box 900 115 [.ro (.int .u8), .int .i64, .int .i64]]
def spec_l01Below_outs : List Item := [.t 500 (.int .i64), .box 900 115 [.ro (.int .u8), .int .i64, .int .i64]]
def spec_l01Below_ann : List (Nat × List Item) := []
noncomputable def spec_l01Below : Int × (List Int) × Int × Int × Unit → Option (Int × (List Int) × Int × Int × Unit) := fun (t1, b900_0, b900_1, b900_2, _) =>
  cond (decide (t1 ≤ 0))
    (some (0, b900_0, b900_1, b900_2, ()))
    (cond (decide (t1 ≤ 256))
    (Option.bind (spec_l01Byte (b900_0, b900_1, b900_2, ())) fun (v1, v2, v3, v4, _) => chk (t1 ≠ 0) (some ((v1.tmod t1), v2, v3, v4, ())))
    (Option.bind (spec_l01Byte (b900_0, b900_1, b900_2, ())) fun (v5, v6, v7, v8, _) => Option.bind (spec_l01Byte (v6, v7, v8, ())) fun (v9, v10, v11, v12, _) => Option.bind (spec_l01Byte (v10, v11, v12, ())) fun (v13, v14, v15, v16, _) => Option.bind (spec_l01Byte (v14, v15, v16, ())) fun (v17, v18, v19, v20, _) => chk (t1 ≠ 0) (some (((w64 ((w64 ((w64 ((w64 (v5 * 16777216)) + (w64 (v9 * 65536)))) + (w64 (v13 * 256)))) + v17)).tmod t1), v18, v19, v20, ()))))
noncomputable def spec_l01Below_F : Fun := ⟨spec_l01Below_ins, [900], spec_l01Below_outs, spec_l01Below⟩
noncomputable def spec_l01Below_orc : Orc := orcGet [(79, spec_l01Byte_F)]
theorem spec_l01Below_eq (x : Den spec_l01Below_ins) : pmFn (tdGet tab) spec_l01Below_orc spec_l01Below_F.mn spec_l01Below_ann Go.Proofs.Try.f74 spec_l01Below_ins spec_l01Below_outs x = spec_l01Below x := by kernel_rfl
theorem spec_l01Below_c : CallsD Go.Proofs.Try.prog 74 spec_l01Below_F :=
  fn_contract (F := spec_l01Below_F) (C := spec_l01Below_orc) mix (chkTab_get tab_ok) (orc_cons spec_l01Byte_c orc_nil) spec_l01Below_ann (fn := Go.Proofs.Try.f74) (by kernel_rfl) (by kernel_rfl) (by kernel_rfl) (by kernel_rfl) (by kernel_rfl) (fun x y h => (spec_l01Below_eq x).trans h)

def spec_l02Vert_ins : List Item := [.agg 0 [.int .i64, .ro .ii], .t 1 (.int .i64)]
def spec_l02Vert_outs : List Item := [.t 500 (.bool)]
def spec_l02Vert_ann : List (Nat × List Item) := []
noncomputable def spec_l02Vert : Int × (List (Int × Int)) × Int × Unit → Option (Bool × Unit) := fun (t0_0, t0_1, t1, _) =>
  cond (decide (t1 ≥ 0))
    (some ((decide (t1 < t0_0)), ()))
    (some (false, ()))
noncomputable def spec_l02Vert_F : Fun := ⟨spec_l02Vert_ins, [], spec_l02Vert_outs, spec_l02Vert⟩
noncomputable def spec_l02Vert_orc : Orc := orcGet []
theorem spec_l02Vert_eq (x : Den spec_l02Vert_ins) : pmFn (tdGet tab) spec_l02Vert_orc spec_l02Vert_F.mn spec_l02Vert_ann Go.Proofs.Try.f139 spec_l02Vert_ins spec_l02Vert_outs x = spec_l02Vert x := by kernel_rfl
theorem spec_l02Vert_c : CallsD Go.Proofs.Try.prog 139 spec_l02Vert_F :=
  fn_contract (F := spec_l02Vert_F) (C := spec_l02Vert_orc) mix (chkTab_get tab_ok) orc_nil spec_l02Vert_ann (fn := Go.Proofs.Try.f139) (by kernel_rfl) (by kernel_rfl) (by kernel_rfl) (by kernel_rfl) (by kernel_rfl) (fun x y h => (spec_l02Vert_eq x).trans h)

def spec_Multiplicity_ins : List Item := [.agg 0 [.int .i64, .ro .ii], .t 1 (.int .i64), .t 2 (.int .i64)]
def spec_Multiplicity_outs : List Item := [.t 500 (.int .i64)]
def spec_Multiplicity_ann : List (Nat × List Item) := [(28, [.t 1 (.int .i64), .t 2 (.int .i64), .t 3 (.ptr 3), .t 7 (.int .i64), .t 24 (.bool), .box 3 29 [.int .i64, .ro .ii]]),
  (122, [.t 1 (.int .i64), .t 2 (.int .i64), .t 7 (.int .i64), .t 26 (.ro .ii), .t 27 (.int .i64), .t 28 (.int .i64)])]
noncomputable def spec_Multiplicity_L122 : Int × Int × Int × (List (Int × Int)) × Int × Int × Unit → Option ((Int × Int × Int × (List (Int × Int)) × Int × Int × Unit) ⊕ (Int × Unit)) := fun (t1, t2, t7, t26, t27, t28, _) =>
  cond (decide (t28 < t27))
    (chk (0 ≤ t28 ∧ t28 < ((t26).length : Int)) (cond ((atD (0, 0) t26 t28).1 == (min2 t1 t2))
    (cond ((atD (0, 0) t26 t28).2 == (max2 t1 t2))
    (some (.inl (t1, t2, (w64 (t7 + 1)), t26, t27, (w64 (t28 + 1)), ())))
    (some (.inl (t1, t2, t7, t26, t27, (w64 (t28 + 1)), ()))))
    (some (.inl (t1, t2, t7, t26, t27, (w64 (t28 + 1)), ())))))
    (Option.map Sum.inr (some (t7, ())))
noncomputable def spec_Multiplicity_J28 : Int × Int × Int × Bool × Int × (List (Int × Int)) × Unit → Option (Int × Unit) := fun (t1, t2, t7, t24, b3_0, b3_1, _) =>
  cond t24
    (some (0, ()))
    (loopM spec_Multiplicity_L122 (t1, t2, t7, b3_1, ((b3_1).length : Int), 0, ()))
noncomputable def spec_Multiplicity : Int × (List (Int × Int)) × Int × Int × Unit → Option (Int × Unit) := fun (t0_0, t0_1, t1, t2, _) =>
  joinB (T := Int × Int × Int × Bool × Int × (List (Int × Int)) × Unit) (R := Int × Unit) (Option.bind (spec_l02Vert (t0_0, t0_1, t1, ())) fun (v2, _) => cond (!v2)
    (some (.inl (t1, t2, 0, true, t0_0, t0_1, ())))
    (Option.bind (spec_l02Vert (t0_0, t0_1, t2, ())) fun (v3, _) => cond (!v3)
    (some (.inl (t1, t2, 0, true, t0_0, t0_1, ())))
    (some (.inl (t1, t2, 0, (t1 == t2), t0_0, t0_1, ()))))) spec_Multiplicity_J28
noncomputable def spec_Multiplicity_F : Fun := ⟨spec_Multiplicity_ins, [], spec_Multiplicity_outs, spec_Multiplicity⟩
noncomputable def spec_Multiplicity_orc : Orc := orcGet [(139, spec_l02Vert_F)]
theorem spec_Multiplicity_eq (x : Den spec_Multiplicity_ins) : pmFn (tdGet tab) spec_Multiplicity_orc spec_Multiplicity_F.mn spec_Multiplicity_ann Go.Proofs.Try.f104 spec_Multiplicity_ins spec_Multiplicity_outs x = spec_Multiplicity x := by kernel_rfl
theorem spec_Multiplicity_c : CallsD Go.Proofs.Try.prog 104 spec_Multiplicity_F :=
  fn_contract (F := spec_Multiplicity_F) (C := spec_Multiplicity_orc) mix (chkTab_get tab_ok) (orc_cons spec_l02Vert_c orc_nil) spec_Multiplicity_ann (fn := Go.Proofs.Try.f104) (by kernel_rfl) (by kernel_rfl) (by kernel_rfl) (by kernel_rfl) (by kernel_rfl) (fun x y h => (spec_Multiplicity_eq x).trans h)

def spec_l01In_ins : List Item := [.t 0 (.int .i64), .t 1 (.int .i64), .t 2 (.int .i64)]
def spec_l01In_outs : List Item := [.t 500 (.bool)]
def spec_l01In_ann : List (Nat × List Item) := []
noncomputable def spec_l01In : Int × Int × Int × Unit → Option (Bool × Unit) := fun (t0, t1, t2, _) =>
  cond (decide (t0 ≥ t1))
    (some ((decide (t0 ≤ t2)), ()))
    (some (false, ()))
noncomputable def spec_l01In_F : Fun := ⟨spec_l01In_ins, [], spec_l01In_outs, spec_l01In⟩
noncomputable def spec_l01In_orc : Orc := orcGet []
theorem spec_l01In_eq (x : Den spec_l01In_ins) : pmFn (tdGet tab) spec_l01In_orc spec_l01In_F.mn spec_l01In_ann Go.Proofs.Try.f122 spec_l01In_ins spec_l01In_outs x = spec_l01In x := by kernel_rfl
theorem spec_l01In_c : CallsD Go.Proofs.Try.prog 122 spec_l01In_F :=
  fn_contract (F := spec_l01In_F) (C := spec_l01In_orc) mix (chkTab_get tab_ok) orc_nil spec_l01In_ann (fn := Go.Proofs.Try.f122) (by kernel_rfl) (by kernel_rfl) (by kernel_rfl) (by kernel_rfl) (by kernel_rfl) (fun x y h => (spec_l01In_eq x).trans h)

def spec_EdgesOk_ins : List Item := [.agg 0 [.int .i64, .ro .ii]]
def spec_EdgesOk_outs : List Item := [.t 500 (.bool)]
def spec_EdgesOk_ann : List (Nat × List Item) := [(12, [.t 1 (.ptr 1), .t 14 (.bool), .box 1 29 [.int .i64, .ro .ii]]),
  (58, [.t 1 (.ptr 1), .t 16 (.ro .ii), .t 17 (.int .i64), .t 18 (.int .i64), .box 1 29 [.int .i64, .ro .ii]])]
noncomputable def spec_EdgesOk_L58 : (List (Int × Int)) × Int × Int × Int × (List (Int × Int)) × Unit → Option (((List (Int × Int)) × Int × Int × Int × (List (Int × Int)) × Unit) ⊕ (Bool × Unit)) := fun (t16, t17, t18, b1_0, b1_1, _) =>
  cond (decide (t18 < t17))
    (chk (0 ≤ t18 ∧ t18 < ((t16).length : Int)) (Option.bind (spec_l01In ((atD (0, 0) t16 t18).1, 0, (w64 (b1_0 - 1)), ())) fun (v3, _) => cond (!v3)
    (Option.map Sum.inr (some (false, ())))
    (Option.bind (spec_l01In ((atD (0, 0) t16 t18).2, (w64 ((atD (0, 0) t16 t18).1 + 1)), (w64 (b1_0 - 1)), ())) fun (v4, _) => cond (!v4)
    (Option.map Sum.inr (some (false, ())))
    (some (.inl (t16, t17, (w64 (t18 + 1)), b1_0, b1_1, ()))))))
    (Option.map Sum.inr (some (true, ())))
noncomputable def spec_EdgesOk_J12 : Bool × Int × (List (Int × Int)) × Unit → Option (Bool × Unit) := fun (t14, b1_0, b1_1, _) =>
  cond t14
    (some (false, ()))
    (loopM spec_EdgesOk_L58 (b1_1, ((b1_1).length : Int), 0, b1_0, b1_1, ()))
noncomputable def spec_EdgesOk : Int × (List (Int × Int)) × Unit → Option (Bool × Unit) := fun (t0_0, t0_1, _) =>
  joinB (T := Bool × Int × (List (Int × Int)) × Unit) (R := Bool × Unit) (Option.bind (spec_l01In (t0_0, 1, 6, ())) fun (v2, _) => cond (!v2)
    (some (.inl (true, t0_0, t0_1, ())))
    (some (.inl ((decide (((t0_1).length : Int) > 12)), t0_0, t0_1, ())))) spec_EdgesOk_J12
noncomputable def spec_EdgesOk_F : Fun := ⟨spec_EdgesOk_ins, [], spec_EdgesOk_outs, spec_EdgesOk⟩
noncomputable def spec_EdgesOk_orc : Orc := orcGet [(122, spec_l01In_F)]
theorem spec_EdgesOk_eq (x : Den spec_EdgesOk_ins) : pmFn (tdGet tab) spec_EdgesOk_orc spec_EdgesOk_F.mn spec_EdgesOk_ann Go.Proofs.Try.f97 spec_EdgesOk_ins spec_EdgesOk_outs x = spec_EdgesOk x := by kernel_rfl
theorem spec_EdgesOk_c : CallsD Go.Proofs.Try.prog 97 spec_EdgesOk_F :=
  fn_contract (F := spec_EdgesOk_F) (C := spec_EdgesOk_orc) mix (chkTab_get tab_ok) (orc_cons spec_l01In_c orc_nil) spec_EdgesOk_ann (fn := Go.Proofs.Try.f97) (by kernel_rfl) (by kernel_rfl) (by kernel_rfl) (by kernel_rfl) (by kernel_rfl) (fun x y h => (spec_EdgesOk_eq x).trans h)

def spec_l02Has_ins : List Item := [.t 0 (.ro (.int .i64)), .t 1 (.int .i64)]
def spec_l02Has_outs : List Item := [.t 500 (.bool)]
def spec_l02Has_ann : List (Nat × List Item) := [(26, [.t 1 (.int .i64), .t 7 (.ro (.int .i64)), .t 8 (.int .i64), .t 9 (.int .i64)])]
noncomputable def spec_l02Has_L26 : Int × (List Int) × Int × Int × Unit → Option ((Int × (List Int) × Int × Int × Unit) ⊕ (Bool × Unit)) := fun (t1, t7, t8, t9, _) =>
  cond (decide (t9 < t8))
    (chk (0 ≤ t9 ∧ t9 < ((t7).length : Int)) (cond (atD 0 t7 t9 == t1)
    (Option.map Sum.inr (some (true, ())))
    (some (.inl (t1, t7, t8, (w64 (t9 + 1)), ())))))
    (Option.map Sum.inr (some (false, ())))
noncomputable def spec_l02Has : (List Int) × Int × Unit → Option (Bool × Unit) := fun (t0, t1, _) =>
  loopM spec_l02Has_L26 (t1, t0, ((t0).length : Int), 0, ())
noncomputable def spec_l02Has_F : Fun := ⟨spec_l02Has_ins, [], spec_l02Has_outs, spec_l02Has⟩
noncomputable def spec_l02Has_orc : Orc := orcGet []
theorem spec_l02Has_eq (x : Den spec_l02Has_ins) : pmFn (tdGet tab) spec_l02Has_orc spec_l02Has_F.mn spec_l02Has_ann Go.Proofs.Try.f137 spec_l02Has_ins spec_l02Has_outs x = spec_l02Has x := by kernel_rfl
theorem spec_l02Has_c : CallsD Go.Proofs.Try.prog 137 spec_l02Has_F :=
  fn_contract (F := spec_l02Has_F) (C := spec_l02Has_orc) mix (chkTab_get tab_ok) orc_nil spec_l02Has_ann (fn := Go.Proofs.Try.f137) (by kernel_rfl) (by kernel_rfl) (by kernel_rfl) (by kernel_rfl) (by kernel_rfl) (fun x y h => (spec_l02Has_eq x).trans h)

def spec_l02Reach_ins : List Item := [.agg 0 [.int .i64, .ro .ii]]
def spec_l02Reach_outs : List Item := [.t 500 (.own 3 (.int .i64))]
def spec_l02Reach_ann : List (Nat × List Item) := [(58, [.t 1 (.ptr 1), .t 3 (.own 3 (.int .i64)), .t 4 (.int .i64), .box 1 29 [.int .i64, .ro .ii]]),
  (3730, [.t 1 (.ptr 1), .t 3 (.own 3 (.int .i64)), .t 4 (.int .i64), .t 15 (.ro .ii), .t 16 (.int .i64), .t 17 (.int .i64), .box 1 29 [.int .i64, .ro .ii]]),
  (954980, [.t 1 (.ptr 1), .t 3 (.own 3 (.int .i64)), .t 4 (.int .i64), .t 6 (.ptr 6), .t 15 (.ro .ii), .t 16 (.int .i64), .t 17 (.int .i64), .t 34 (.bool), .box 1 29 [.int .i64, .ro .ii], .box 6 76 [.int .i64, .int .i64]]),
  (954981, [.t 1 (.ptr 1), .t 3 (.own 3 (.int .i64)), .t 4 (.int .i64), .t 6 (.ptr 6), .t 15 (.ro .ii), .t 16 (.int .i64), .t 17 (.int .i64), .box 1 29 [.int .i64, .ro .ii], .box 6 76 [.int .i64, .int .i64]])]
noncomputable def spec_l02Reach_J954981 : (List Int) × Int × (List (Int × Int)) × Int × Int × Int × (List (Int × Int)) × Int × Int × Unit → Option ((((List Int) × Int × (List (Int × Int)) × Int × Int × Int × (List (Int × Int)) × Unit) ⊕ (((List Int) × Int × Int × (List (Int × Int)) × Unit) ⊕ (List Int) × Unit))) := fun (t3, t4, t15, t16, t17, b1_0, b1_1, b6_0, b6_1, _) =>
  chk (0 ≤ t4 ∧ t4 < ((t3).length : Int)) (cond (b6_1 == atD 0 t3 t4)
    (Option.bind (spec_l02Has (t3, b6_0, ())) fun (v4, _) => cond (!v4)
    (chk ((t3).length + (([b6_0] : List Int)).length ≤ 17592186044416) (some (.inl ((t3 ++ ([b6_0] : List Int)), t4, t15, t16, (w64 (t17 + 1)), b1_0, b1_1, ()))))
    (some (.inl (t3, t4, t15, t16, (w64 (t17 + 1)), b1_0, b1_1, ()))))
    (some (.inl (t3, t4, t15, t16, (w64 (t17 + 1)), b1_0, b1_1, ()))))
noncomputable def spec_l02Reach_J954980 : (List Int) × Int × (List (Int × Int)) × Int × Int × Bool × Int × (List (Int × Int)) × Int × Int × Unit → Option ((((List Int) × Int × (List (Int × Int)) × Int × Int × Int × (List (Int × Int)) × Unit) ⊕ (((List Int) × Int × Int × (List (Int × Int)) × Unit) ⊕ (List Int) × Unit))) := fun (t3, t4, t15, t16, t17, t34, b1_0, b1_1, b6_0, b6_1, _) =>
  joinB (T := (List Int) × Int × (List (Int × Int)) × Int × Int × Int × (List (Int × Int)) × Int × Int × Unit) (R := (((List Int) × Int × (List (Int × Int)) × Int × Int × Int × (List (Int × Int)) × Unit) ⊕ (((List Int) × Int × Int × (List (Int × Int)) × Unit) ⊕ (List Int) × Unit))) (cond t34
    (chk ((t3).length + (([b6_1] : List Int)).length ≤ 17592186044416) (some (.inl ((t3 ++ ([b6_1] : List Int)), t4, t15, t16, t17, b1_0, b1_1, b6_0, b6_1, ()))))
    (some (.inl (t3, t4, t15, t16, t17, b1_0, b1_1, b6_0, b6_1, ())))) spec_l02Reach_J954981
noncomputable def spec_l02Reach_L3730 : (List Int) × Int × (List (Int × Int)) × Int × Int × Int × (List (Int × Int)) × Unit → Option (((List Int) × Int × (List (Int × Int)) × Int × Int × Int × (List (Int × Int)) × Unit) ⊕ ((((List Int) × Int × Int × (List (Int × Int)) × Unit) ⊕ (List Int) × Unit))) := fun (t3, t4, t15, t16, t17, b1_0, b1_1, _) =>
  cond (decide (t17 < t16))
    (chk (0 ≤ t17 ∧ t17 < ((t15).length : Int)) (joinB (T := (List Int) × Int × (List (Int × Int)) × Int × Int × Bool × Int × (List (Int × Int)) × Int × Int × Unit) (R := (((List Int) × Int × (List (Int × Int)) × Int × Int × Int × (List (Int × Int)) × Unit) ⊕ (((List Int) × Int × Int × (List (Int × Int)) × Unit) ⊕ (List Int) × Unit))) (chk (0 ≤ t4 ∧ t4 < ((t3).length : Int)) (cond ((atD (0, 0) t15 t17).1 == atD 0 t3 t4)
    (Option.bind (spec_l02Has (t3, (atD (0, 0) t15 t17).2, ())) fun (v2, _) => some (.inl (t3, t4, t15, t16, t17, (!v2), b1_0, b1_1, (atD (0, 0) t15 t17).1, (atD (0, 0) t15 t17).2, ())))
    (some (.inl (t3, t4, t15, t16, t17, false, b1_0, b1_1, (atD (0, 0) t15 t17).1, (atD (0, 0) t15 t17).2, ()))))) spec_l02Reach_J954980))
    (Option.map Sum.inr (some (.inl (t3, (w64 (t4 + 1)), b1_0, b1_1, ()))))
noncomputable def spec_l02Reach_L58 : (List Int) × Int × Int × (List (Int × Int)) × Unit → Option (((List Int) × Int × Int × (List (Int × Int)) × Unit) ⊕ ((List Int) × Unit)) := fun (t3, t4, b1_0, b1_1, _) =>
  cond (decide (t4 < ((t3).length : Int)))
    (loopM spec_l02Reach_L3730 (t3, t4, b1_1, ((b1_1).length : Int), 0, b1_0, b1_1, ()))
    (Option.map Sum.inr (some (t3, ())))
noncomputable def spec_l02Reach : Int × (List (Int × Int)) × Unit → Option ((List Int) × Unit) := fun (t0_0, t0_1, _) =>
  loopM spec_l02Reach_L58 (([0] : List Int), 0, t0_0, t0_1, ())
noncomputable def spec_l02Reach_F : Fun := ⟨spec_l02Reach_ins, [], spec_l02Reach_outs, spec_l02Reach⟩
noncomputable def spec_l02Reach_orc : Orc := orcGet [(137, spec_l02Has_F)]
theorem spec_l02Reach_eq (x : Den spec_l02Reach_ins) : pmFn (tdGet tab) spec_l02Reach_orc spec_l02Reach_F.mn spec_l02Reach_ann Go.Proofs.Try.f98 spec_l02Reach_ins spec_l02Reach_outs x = spec_l02Reach x := by kernel_rfl
theorem spec_l02Reach_c : CallsD Go.Proofs.Try.prog 98 spec_l02Reach_F :=
  fn_contract (F := spec_l02Reach_F) (C := spec_l02Reach_orc) mix (chkTab_get tab_ok) (orc_cons spec_l02Has_c orc_nil) spec_l02Reach_ann (fn := Go.Proofs.Try.f98) (by kernel_rfl) (by kernel_rfl) (by kernel_rfl) (by kernel_rfl) (by kernel_rfl) (fun x y h => (spec_l02Reach_eq x).trans h)

def spec_GraphOk_ins : List Item := [.agg 0 [.int .i64, .ro .ii]]
def spec_GraphOk_outs : List Item := [.t 500 (.bool)]
def spec_GraphOk_ann : List (Nat × List Item) := [(58, [.t 1 (.ptr 1), .t 9 (.ro .ii), .t 10 (.int .i64), .t 11 (.int .i64), .box 1 29 [.int .i64, .ro .ii]])]
noncomputable def spec_GraphOk_L58 : (List (Int × Int)) × Int × Int × Int × (List (Int × Int)) × Unit → Option (((List (Int × Int)) × Int × Int × Int × (List (Int × Int)) × Unit) ⊕ (Bool × Unit)) := fun (t9, t10, t11, b1_0, b1_1, _) =>
  cond (decide (t11 < t10))
    (chk (0 ≤ t11 ∧ t11 < ((t9).length : Int)) (cond (decide (t11 > 0))
    (chk (0 ≤ (w64 (t11 - 1)) ∧ (w64 (t11 - 1)) < ((b1_1).length : Int)) (cond (decide ((atD (0, 0) t9 t11).1 < (atD (0, 0) b1_1 (w64 (t11 - 1))).1))
    (Option.map Sum.inr (some (false, ())))
    (chk (0 ≤ (w64 (t11 - 1)) ∧ (w64 (t11 - 1)) < ((b1_1).length : Int)) (cond ((atD (0, 0) t9 t11).1 == (atD (0, 0) b1_1 (w64 (t11 - 1))).1)
    (chk (0 ≤ (w64 (t11 - 1)) ∧ (w64 (t11 - 1)) < ((b1_1).length : Int)) (cond (decide ((atD (0, 0) t9 t11).2 < (atD (0, 0) b1_1 (w64 (t11 - 1))).2))
    (Option.map Sum.inr (some (false, ())))
    (some (.inl (t9, t10, (w64 (t11 + 1)), b1_0, b1_1, ())))))
    (some (.inl (t9, t10, (w64 (t11 + 1)), b1_0, b1_1, ())))))))
    (some (.inl (t9, t10, (w64 (t11 + 1)), b1_0, b1_1, ())))))
    (Option.map Sum.inr (Option.bind (spec_l02Reach (b1_0, b1_1, ())) fun (v2, _) => some ((((v2).length : Int) == b1_0), ())))
noncomputable def spec_GraphOk : Int × (List (Int × Int)) × Unit → Option (Bool × Unit) := fun (t0_0, t0_1, _) =>
  Option.bind (spec_EdgesOk (t0_0, t0_1, ())) fun (v1, _) => cond (!v1)
    (some (false, ()))
    (loopM spec_GraphOk_L58 (t0_1, ((t0_1).length : Int), 0, t0_0, t0_1, ()))
noncomputable def spec_GraphOk_F : Fun := ⟨spec_GraphOk_ins, [], spec_GraphOk_outs, spec_GraphOk⟩
noncomputable def spec_GraphOk_orc : Orc := orcGet [(97, spec_EdgesOk_F), (98, spec_l02Reach_F)]
theorem spec_GraphOk_eq (x : Den spec_GraphOk_ins) : pmFn (tdGet tab) spec_GraphOk_orc spec_GraphOk_F.mn spec_GraphOk_ann Go.Proofs.Try.f51 spec_GraphOk_ins spec_GraphOk_outs x = spec_GraphOk x := by kernel_rfl
theorem spec_GraphOk_c : CallsD Go.Proofs.Try.prog 51 spec_GraphOk_F :=
  fn_contract (F := spec_GraphOk_F) (C := spec_GraphOk_orc) mix (chkTab_get tab_ok) (orc_cons spec_EdgesOk_c (orc_cons spec_l02Reach_c orc_nil)) spec_GraphOk_ann (fn := Go.Proofs.Try.f51) (by kernel_rfl) (by kernel_rfl) (by kernel_rfl) (by kernel_rfl) (by kernel_rfl) (fun x y h => (spec_GraphOk_eq x).trans h)

def spec_AddEdge_ins : List Item := [.agg 0 [.int .i64, .ro .ii], .t 1 (.int .i64), .t 2 (.int .i64)]
def spec_AddEdge_outs : List Item := [.agg 500 [.int .i64, .own 76 .ii], .t 501 (.bool)]
def spec_AddEdge_ann : List (Nat × List Item) := [(12, [.t 1 (.int .i64), .t 2 (.int .i64), .t 3 (.ptr 3), .t 6 (.ptr 6), .t 42 (.bool), .box 3 29 [.int .i64, .ro .ii], .box 6 29 [.int .i64, .cn (.slice none 0 0)]]),
  (506, [.t 6 (.ptr 6), .t 8 (.ptr 8), .t 9 (.ptr 9), .t 10 (.bool), .t 55 (.ro .ii), .t 56 (.int .i64), .t 57 (.int .i64), .box 6 29 [.int .i64, .cn (.slice none 0 0)], .box 8 76 [.int .i64, .int .i64], .box 9 29 [.int .i64, .own 76 .ii]]),
  (129636, [.t 6 (.ptr 6), .t 8 (.ptr 8), .t 9 (.ptr 9), .t 10 (.bool), .t 12 (.ptr 12), .t 55 (.ro .ii), .t 56 (.int .i64), .t 57 (.int .i64), .t 83 (.bool), .box 6 29 [.int .i64, .cn (.slice none 0 0)], .box 8 76 [.int .i64, .int .i64], .box 9 29 [.int .i64, .own 76 .ii], .box 12 76 [.int .i64, .int .i64]])]
noncomputable def spec_AddEdge_J129636 : Bool × (List (Int × Int)) × Int × Int × Bool × Int × Int × Int × Int × (List (Int × Int)) × Int × Int × Unit → Option (((Bool × (List (Int × Int)) × Int × Int × Int × Int × Int × Int × (List (Int × Int)) × Unit) ⊕ Int × (List (Int × Int)) × Bool × Unit)) := fun (t10, t55, t56, t57, t83, b6_0, b8_0, b8_1, b9_0, b9_1, b12_0, b12_1, _) =>
  cond t83
    (chk ((b9_1).length + (([(b8_0, b8_1)] : List (Int × Int))).length ≤ 8796093022208) (chk (((b9_1 ++ ([(b8_0, b8_1)] : List (Int × Int)))).length + (([(b12_0, b12_1)] : List (Int × Int))).length ≤ 8796093022208) (some (.inl (true, t55, t56, (w64 (t57 + 1)), b6_0, b8_0, b8_1, b9_0, ((b9_1 ++ ([(b8_0, b8_1)] : List (Int × Int))) ++ ([(b12_0, b12_1)] : List (Int × Int))), ())))))
    (chk ((b9_1).length + (([(b12_0, b12_1)] : List (Int × Int))).length ≤ 8796093022208) (some (.inl (t10, t55, t56, (w64 (t57 + 1)), b6_0, b8_0, b8_1, b9_0, (b9_1 ++ ([(b12_0, b12_1)] : List (Int × Int))), ()))))
noncomputable def spec_AddEdge_L506 : Bool × (List (Int × Int)) × Int × Int × Int × Int × Int × Int × (List (Int × Int)) × Unit → Option ((Bool × (List (Int × Int)) × Int × Int × Int × Int × Int × Int × (List (Int × Int)) × Unit) ⊕ (Int × (List (Int × Int)) × Bool × Unit)) := fun (t10, t55, t56, t57, b6_0, b8_0, b8_1, b9_0, b9_1, _) =>
  cond (decide (t57 < t56))
    (chk (0 ≤ t57 ∧ t57 < ((t55).length : Int)) (joinB (T := Bool × (List (Int × Int)) × Int × Int × Bool × Int × Int × Int × Int × (List (Int × Int)) × Int × Int × Unit) (R := ((Bool × (List (Int × Int)) × Int × Int × Int × Int × Int × Int × (List (Int × Int)) × Unit) ⊕ Int × (List (Int × Int)) × Bool × Unit)) (cond (!t10)
    (cond (decide ((atD (0, 0) t55 t57).1 > b8_0))
    (some (.inl (t10, t55, t56, t57, true, b6_0, b8_0, b8_1, b9_0, b9_1, (atD (0, 0) t55 t57).1, (atD (0, 0) t55 t57).2, ())))
    (cond ((atD (0, 0) t55 t57).1 == b8_0)
    (some (.inl (t10, t55, t56, t57, (decide ((atD (0, 0) t55 t57).2 > b8_1)), b6_0, b8_0, b8_1, b9_0, b9_1, (atD (0, 0) t55 t57).1, (atD (0, 0) t55 t57).2, ())))
    (some (.inl (t10, t55, t56, t57, false, b6_0, b8_0, b8_1, b9_0, b9_1, (atD (0, 0) t55 t57).1, (atD (0, 0) t55 t57).2, ())))))
    (some (.inl (t10, t55, t56, t57, false, b6_0, b8_0, b8_1, b9_0, b9_1, (atD (0, 0) t55 t57).1, (atD (0, 0) t55 t57).2, ())))) spec_AddEdge_J129636))
    (Option.map Sum.inr (cond (!t10)
    (chk ((b9_1).length + (([(b8_0, b8_1)] : List (Int × Int))).length ≤ 8796093022208) (some (b9_0, (b9_1 ++ ([(b8_0, b8_1)] : List (Int × Int))), true, ())))
    (some (b9_0, b9_1, true, ()))))
noncomputable def spec_AddEdge_J12 : Int × Int × Bool × Int × (List (Int × Int)) × Int × Unit → Option (Int × (List (Int × Int)) × Bool × Unit) := fun (t1, t2, t42, b3_0, b3_1, b6_0, _) =>
  cond t42
    (some (0, ([] : List (Int × Int)), false, ()))
    (loopM spec_AddEdge_L506 (false, b3_1, ((b3_1).length : Int), 0, b6_0, (min2 t1 t2), (max2 t1 t2), b3_0, ([] : List (Int × Int)), ()))
noncomputable def spec_AddEdge : Int × (List (Int × Int)) × Int × Int × Unit → Option (Int × (List (Int × Int)) × Bool × Unit) := fun (t0_0, t0_1, t1, t2, _) =>
  joinB (T := Int × Int × Bool × Int × (List (Int × Int)) × Int × Unit) (R := Int × (List (Int × Int)) × Bool × Unit) (Option.bind (spec_GraphOk (t0_0, t0_1, ())) fun (v2, _) => cond (!v2)
    (some (.inl (t1, t2, true, t0_0, t0_1, 0, ())))
    (Option.bind (spec_l01In (t1, 0, (w64 (t0_0 - 1)), ())) fun (v3, _) => cond (!v3)
    (some (.inl (t1, t2, true, t0_0, t0_1, 0, ())))
    (Option.bind (spec_l01In (t2, 0, (w64 (t0_0 - 1)), ())) fun (v4, _) => cond (!v4)
    (some (.inl (t1, t2, true, t0_0, t0_1, 0, ())))
    (cond (t1 == t2)
    (some (.inl (t1, t2, true, t0_0, t0_1, 0, ())))
    (some (.inl (t1, t2, (((t0_1).length : Int) == 12), t0_0, t0_1, 0, ()))))))) spec_AddEdge_J12
noncomputable def spec_AddEdge_F : Fun := ⟨spec_AddEdge_ins, [], spec_AddEdge_outs, spec_AddEdge⟩
noncomputable def spec_AddEdge_orc : Orc := orcGet [(51, spec_GraphOk_F), (122, spec_l01In_F)]
theorem spec_AddEdge_eq (x : Den spec_AddEdge_ins) : pmFn (tdGet tab) spec_AddEdge_orc spec_AddEdge_F.mn spec_AddEdge_ann Go.Proofs.Try.f105 spec_AddEdge_ins spec_AddEdge_outs x = spec_AddEdge x := by kernel_rfl
theorem spec_AddEdge_c : CallsD Go.Proofs.Try.prog 105 spec_AddEdge_F :=
  fn_contract (F := spec_AddEdge_F) (C := spec_AddEdge_orc) mix (chkTab_get tab_ok) (orc_cons spec_GraphOk_c (orc_cons spec_l01In_c orc_nil)) spec_AddEdge_ann (fn := Go.Proofs.Try.f105) (by kernel_rfl) (by kernel_rfl) (by kernel_rfl) (by kernel_rfl) (by kernel_rfl) (fun x y h => (spec_AddEdge_eq x).trans h)

def spec_l02Draw_ins : List Item := [.t 0 (.ptr 900), .t 1 (.int .i64), .box 900 115 [.ro (.int .u8), .int .i64, .int .i64]]
def spec_l02Draw_outs : List Item := [.agg 500 [.int .i64, .own 76 .ii], .box 900 115 [.ro (.int .u8), .int .i64, .int .i64]]
def spec_l02Draw_ann : List (Nat × List Item) := [(61, [.t 0 (.ptr 900), .t 4 (.ptr 4), .t 5 (.ptr 5), .t 6 (.int .i64), .box 900 115 [.ro (.int .u8), .int .i64, .int .i64], .box 4 29 [.int .i64, .cn (.slice none 0 0)], .box 5 29 [.int .i64, .own 76 .ii]]),
  (122, [.t 0 (.ptr 900), .t 4 (.ptr 4), .t 5 (.ptr 5), .t 6 (.int .i64), .t 7 (.int .i64), .box 900 115 [.ro (.int .u8), .int .i64, .int .i64], .box 4 29 [.int .i64, .cn (.slice none 0 0)], .box 5 29 [.int .i64, .own 76 .ii]]),
  (253, [.t 0 (.ptr 900), .t 4 (.ptr 4), .t 6 (.int .i64), .t 9 (.ptr 9), .box 900 115 [.ro (.int .u8), .int .i64, .int .i64], .box 4 29 [.int .i64, .cn (.slice none 0 0)], .box 9 29 [.int .i64, .own 76 .ii]]),
  (506, [.t 0 (.ptr 900), .t 4 (.ptr 4), .t 5 (.ptr 5), .t 6 (.int .i64), .t 9 (.ptr 9), .t 10 (.int .i64), .box 900 115 [.ro (.int .u8), .int .i64, .int .i64], .box 4 29 [.int .i64, .cn (.slice none 0 0)], .box 5 29 [.int .i64, .own 76 .ii], .box 9 29 [.int .i64, .own 76 .ii]]),
  (1018, [.t 0 (.ptr 900), .t 4 (.ptr 4), .t 6 (.int .i64), .t 9 (.ptr 9), .t 13 (.int .i64), .box 900 115 [.ro (.int .u8), .int .i64, .int .i64], .box 4 29 [.int .i64, .cn (.slice none 0 0)], .box 9 29 [.int .i64, .own 76 .ii]]),
  (32402, [.t 0 (.ptr 900), .t 4 (.ptr 4), .t 5 (.ptr 5), .t 6 (.int .i64), .t 9 (.ptr 9), .t 10 (.int .i64), .t 11 (.int .i64), .box 900 115 [.ro (.int .u8), .int .i64, .int .i64], .box 4 29 [.int .i64, .cn (.slice none 0 0)], .box 5 29 [.int .i64, .own 76 .ii], .box 9 29 [.int .i64, .own 76 .ii]]),
  (2073746, [.t 0 (.ptr 900), .t 4 (.ptr 4), .t 5 (.ptr 5), .t 6 (.int .i64), .t 9 (.ptr 9), .t 10 (.int .i64), .t 11 (.int .i64), .t 12 (.int .i64), .box 900 115 [.ro (.int .u8), .int .i64, .int .i64], .box 4 29 [.int .i64, .cn (.slice none 0 0)], .box 5 29 [.int .i64, .own 76 .ii], .box 9 29 [.int .i64, .own 76 .ii]])]
noncomputable def spec_l02Draw_L122 : Int × Int × (List Int) × Int × Int × Int × Int × (List (Int × Int)) × Unit → Option ((Int × Int × (List Int) × Int × Int × Int × Int × (List (Int × Int)) × Unit) ⊕ (((Int × (List Int) × Int × Int × Int × Int × (List (Int × Int)) × Unit) ⊕ Int × (List (Int × Int)) × (List Int) × Int × Int × Unit))) := fun (t6, t7, b900_0, b900_1, b900_2, b4_0, b5_0, b5_1, _) =>
  cond (decide (t7 < t6))
    (Option.bind (spec_l01Below (t7, b900_0, b900_1, b900_2, ())) fun (v6, v7, v8, v9, _) => chk ((b5_1).length + (([(v6, t7)] : List (Int × Int))).length ≤ 8796093022208) (some (.inl (t6, (w64 (t7 + 1)), v7, v8, v9, b4_0, (w64 (t7 + 1)), (b5_1 ++ ([(v6, t7)] : List (Int × Int))), ()))))
    (Option.map Sum.inr (some (.inl (t6, b900_0, b900_1, b900_2, b4_0, b5_0, b5_1, ()))))
noncomputable def spec_l02Draw_L2073746 : Int × Int × Int × Int × (List Int) × Int × Int × Int × Int × (List (Int × Int)) × Int × (List (Int × Int)) × Unit → Option ((Int × Int × Int × Int × (List Int) × Int × Int × Int × Int × (List (Int × Int)) × Int × (List (Int × Int)) × Unit) ⊕ (((Int × Int × Int × (List Int) × Int × Int × Int × Int × (List (Int × Int)) × Int × (List (Int × Int)) × Unit) ⊕ ((Int × Int × (List Int) × Int × Int × Int × Int × (List (Int × Int)) × Int × (List (Int × Int)) × Unit) ⊕ ((Int × (List Int) × Int × Int × Int × Int × (List (Int × Int)) × Unit) ⊕ Int × (List (Int × Int)) × (List Int) × Int × Int × Unit))))) := fun (t6, t10, t11, t12, b900_0, b900_1, b900_2, b4_0, b5_0, b5_1, b9_0, b9_1, _) =>
  cond (decide (t12 > 0))
    (chk ((b9_1).length + (([(t10, t11)] : List (Int × Int))).length ≤ 8796093022208) (some (.inl (t6, t10, t11, (w64 (t12 - 1)), b900_0, b900_1, b900_2, b4_0, b5_0, b5_1, b9_0, (b9_1 ++ ([(t10, t11)] : List (Int × Int))), ()))))
    (Option.map Sum.inr (some (.inl (t6, t10, (w64 (t11 + 1)), b900_0, b900_1, b900_2, b4_0, b5_0, b5_1, b9_0, b9_1, ()))))
noncomputable def spec_l02Draw_L32402 : Int × Int × Int × (List Int) × Int × Int × Int × Int × (List (Int × Int)) × Int × (List (Int × Int)) × Unit → Option ((Int × Int × Int × (List Int) × Int × Int × Int × Int × (List (Int × Int)) × Int × (List (Int × Int)) × Unit) ⊕ (((Int × Int × (List Int) × Int × Int × Int × Int × (List (Int × Int)) × Int × (List (Int × Int)) × Unit) ⊕ ((Int × (List Int) × Int × Int × Int × Int × (List (Int × Int)) × Unit) ⊕ Int × (List (Int × Int)) × (List Int) × Int × Int × Unit)))) := fun (t6, t10, t11, b900_0, b900_1, b900_2, b4_0, b5_0, b5_1, b9_0, b9_1, _) =>
  cond (decide (t11 < t6))
    (Option.bind (spec_Multiplicity (b5_0, b5_1, t10, t11, ())) fun (v11, _) => loopM spec_l02Draw_L2073746 (t6, t10, t11, v11, b900_0, b900_1, b900_2, b4_0, b5_0, b5_1, b9_0, b9_1, ()))
    (Option.map Sum.inr (some (.inl (t6, (w64 (t10 + 1)), b900_0, b900_1, b900_2, b4_0, b5_0, b5_1, b9_0, b9_1, ()))))
noncomputable def spec_l02Draw_L506 : Int × Int × (List Int) × Int × Int × Int × Int × (List (Int × Int)) × Int × (List (Int × Int)) × Unit → Option ((Int × Int × (List Int) × Int × Int × Int × Int × (List (Int × Int)) × Int × (List (Int × Int)) × Unit) ⊕ (((Int × (List Int) × Int × Int × Int × Int × (List (Int × Int)) × Unit) ⊕ Int × (List (Int × Int)) × (List Int) × Int × Int × Unit))) := fun (t6, t10, b900_0, b900_1, b900_2, b4_0, b5_0, b5_1, b9_0, b9_1, _) =>
  cond (decide (t10 < t6))
    (loopM spec_l02Draw_L32402 (t6, t10, (w64 (t10 + 1)), b900_0, b900_1, b900_2, b4_0, b5_0, b5_1, b9_0, b9_1, ()))
    (Option.map Sum.inr (some (.inl (t6, b900_0, b900_1, b900_2, b4_0, b9_0, b9_1, ()))))
noncomputable def spec_l02Draw_L1018 : Int × Int × (List Int) × Int × Int × Int × Int × (List (Int × Int)) × Unit → Option ((Int × Int × (List Int) × Int × Int × Int × Int × (List (Int × Int)) × Unit) ⊕ (Int × (List (Int × Int)) × (List Int) × Int × Int × Unit)) := fun (t6, t13, b900_0, b900_1, b900_2, b4_0, b9_0, b9_1, _) =>
  cond (decide (t13 > 0))
    (Option.bind (spec_l01Below (t6, b900_0, b900_1, b900_2, ())) fun (v16, v17, v18, v19, _) => Option.bind (spec_l01Below ((w64 (t6 - 1)), v17, v18, v19, ())) fun (v20, v21, v22, v23, _) => chk (t6 ≠ 0) (Option.bind (spec_AddEdge (b9_0, b9_1, v16, ((w64 ((w64 (v16 + 1)) + v20)).tmod t6), ())) fun (v24, v25, v26, _) => cond v26
    (some (.inl (t6, (w64 (t13 - 1)), v21, v22, v23, b4_0, v24, v25, ())))
    (some (.inl (t6, (w64 (t13 - 1)), v21, v22, v23, b4_0, b9_0, b9_1, ())))))
    (Option.map Sum.inr (some (b9_0, b9_1, b900_0, b900_1, b900_2, ())))
noncomputable def spec_l02Draw_J253 : Int × (List Int) × Int × Int × Int × Int × (List (Int × Int)) × Unit → Option (Int × (List (Int × Int)) × (List Int) × Int × Int × Unit) := fun (t6, b900_0, b900_1, b900_2, b4_0, b9_0, b9_1, _) =>
  Option.bind (spec_l01Below (5, b900_0, b900_1, b900_2, ())) fun (v12, v13, v14, v15, _) => loopM spec_l02Draw_L1018 (t6, v12, v13, v14, v15, b4_0, b9_0, b9_1, ())
noncomputable def spec_l02Draw_J61 : Int × (List Int) × Int × Int × Int × Int × (List (Int × Int)) × Unit → Option (Int × (List (Int × Int)) × (List Int) × Int × Int × Unit) := fun (t6, b900_0, b900_1, b900_2, b4_0, b5_0, b5_1, _) =>
  joinB (T := Int × (List Int) × Int × Int × Int × Int × (List (Int × Int)) × Unit) (R := Int × (List (Int × Int)) × (List Int) × Int × Int × Unit) (loopM spec_l02Draw_L506 (t6, 0, b900_0, b900_1, b900_2, b4_0, b5_0, b5_1, t6, ([] : List (Int × Int)), ())) spec_l02Draw_J253
noncomputable def spec_l02Draw : Int × (List Int) × Int × Int × Unit → Option (Int × (List (Int × Int)) × (List Int) × Int × Int × Unit) := fun (t1, b900_0, b900_1, b900_2, _) =>
  Option.bind (spec_l01Below ((w64 (t1 - 1)), b900_0, b900_1, b900_2, ())) fun (v1, v2, v3, v4, _) => joinB (T := Int × (List Int) × Int × Int × Int × Int × (List (Int × Int)) × Unit) (R := Int × (List (Int × Int)) × (List Int) × Int × Int × Unit) (loopM spec_l02Draw_L122 ((w64 (2 + v1)), 1, v2, v3, v4, 0, 1, ([] : List (Int × Int)), ())) spec_l02Draw_J61
noncomputable def spec_l02Draw_F : Fun := ⟨spec_l02Draw_ins, [900], spec_l02Draw_outs, spec_l02Draw⟩
noncomputable def spec_l02Draw_orc : Orc := orcGet [(74, spec_l01Below_F), (104, spec_Multiplicity_F), (105, spec_AddEdge_F)]
theorem spec_l02Draw_eq (x : Den spec_l02Draw_ins) : pmFn (tdGet tab) spec_l02Draw_orc spec_l02Draw_F.mn spec_l02Draw_ann Go.Proofs.Try.f60 spec_l02Draw_ins spec_l02Draw_outs x = spec_l02Draw x := by kernel_rfl
theorem spec_l02Draw_c : CallsD Go.Proofs.Try.prog 60 spec_l02Draw_F :=
  fn_contract (F := spec_l02Draw_F) (C := spec_l02Draw_orc) mix (chkTab_get tab_ok) (orc_cons spec_l01Below_c (orc_cons spec_Multiplicity_c (orc_cons spec_AddEdge_c orc_nil))) spec_l02Draw_ann (fn := Go.Proofs.Try.f60) (by kernel_rfl) (by kernel_rfl) (by kernel_rfl) (by kernel_rfl) (by kernel_rfl) (fun x y h => (spec_l02Draw_eq x).trans h)

def spec_l02Graph_ins : List Item := [.t 0 (.ptr 900), .box 900 115 [.ro (.int .u8), .int .i64, .int .i64]]
def spec_l02Graph_outs : List Item := [.agg 500 [.int .i64, .own 76 .ii], .box 900 115 [.ro (.int .u8), .int .i64, .int .i64]]
def spec_l02Graph_ann : List (Nat × List Item) := []
noncomputable def spec_l02Graph : (List Int) × Int × Int × Unit → Option (Int × (List (Int × Int)) × (List Int) × Int × Int × Unit) := fun (b900_0, b900_1, b900_2, _) =>
  Option.bind (spec_l02Draw (5, b900_0, b900_1, b900_2, ())) fun (v1, v2, v3, v4, v5, _) => some (v1, v2, v3, v4, v5, ())
noncomputable def spec_l02Graph_F : Fun := ⟨spec_l02Graph_ins, [900], spec_l02Graph_outs, spec_l02Graph⟩
noncomputable def spec_l02Graph_orc : Orc := orcGet [(60, spec_l02Draw_F)]
theorem spec_l02Graph_eq (x : Den spec_l02Graph_ins) : pmFn (tdGet tab) spec_l02Graph_orc spec_l02Graph_F.mn spec_l02Graph_ann Go.Proofs.Try.f68 spec_l02Graph_ins spec_l02Graph_outs x = spec_l02Graph x := by kernel_rfl
theorem spec_l02Graph_c : CallsD Go.Proofs.Try.prog 68 spec_l02Graph_F :=
  fn_contract (F := spec_l02Graph_F) (C := spec_l02Graph_orc) mix (chkTab_get tab_ok) (orc_cons spec_l02Draw_c orc_nil) spec_l02Graph_ann (fn := Go.Proofs.Try.f68) (by kernel_rfl) (by kernel_rfl) (by kernel_rfl) (by kernel_rfl) (by kernel_rfl) (fun x y h => (spec_l02Graph_eq x).trans h)

def spec_Valence_ins : List Item := [.agg 0 [.int .i64, .ro .ii], .t 1 (.int .i64)]
def spec_Valence_outs : List Item := [.t 500 (.int .i64)]
def spec_Valence_ann : List (Nat × List Item) := [(122, [.t 1 (.int .i64), .t 5 (.int .i64), .t 13 (.ro .ii), .t 14 (.int .i64), .t 15 (.int .i64)])]
noncomputable def spec_Valence_L122 : Int × Int × (List (Int × Int)) × Int × Int × Unit → Option ((Int × Int × (List (Int × Int)) × Int × Int × Unit) ⊕ (Int × Unit)) := fun (t1, t5, t13, t14, t15, _) =>
  cond (decide (t15 < t14))
    (chk (0 ≤ t15 ∧ t15 < ((t13).length : Int)) (cond ((atD (0, 0) t13 t15).1 == t1)
    (some (.inl (t1, (w64 (t5 + 1)), t13, t14, (w64 (t15 + 1)), ())))
    (cond ((atD (0, 0) t13 t15).2 == t1)
    (some (.inl (t1, (w64 (t5 + 1)), t13, t14, (w64 (t15 + 1)), ())))
    (some (.inl (t1, t5, t13, t14, (w64 (t15 + 1)), ()))))))
    (Option.map Sum.inr (some (t5, ())))
noncomputable def spec_Valence : Int × (List (Int × Int)) × Int × Unit → Option (Int × Unit) := fun (t0_0, t0_1, t1, _) =>
  Option.bind (spec_l02Vert (t0_0, t0_1, t1, ())) fun (v1, _) => cond (!v1)
    (some (0, ()))
    (loopM spec_Valence_L122 (t1, 0, t0_1, ((t0_1).length : Int), 0, ()))
noncomputable def spec_Valence_F : Fun := ⟨spec_Valence_ins, [], spec_Valence_outs, spec_Valence⟩
noncomputable def spec_Valence_orc : Orc := orcGet [(139, spec_l02Vert_F)]
theorem spec_Valence_eq (x : Den spec_Valence_ins) : pmFn (tdGet tab) spec_Valence_orc spec_Valence_F.mn spec_Valence_ann Go.Proofs.Try.f167 spec_Valence_ins spec_Valence_outs x = spec_Valence x := by kernel_rfl
theorem spec_Valence_c : CallsD Go.Proofs.Try.prog 167 spec_Valence_F :=
  fn_contract (F := spec_Valence_F) (C := spec_Valence_orc) mix (chkTab_get tab_ok) (orc_cons spec_l02Vert_c orc_nil) spec_Valence_ann (fn := Go.Proofs.Try.f167) (by kernel_rfl) (by kernel_rfl) (by kernel_rfl) (by kernel_rfl) (by kernel_rfl) (fun x y h => (spec_Valence_eq x).trans h)

def spec_LaplacianOf_ins : List Item := [.agg 0 [.int .i64, .ro .ii]]
def spec_LaplacianOf_outs : List Item := [.t 500 (.own 35 (.sl (.int .i64)))]
def spec_LaplacianOf_ann : List (Nat × List Item) := [(122, [.t 1 (.ptr 1), .t 3 (.own 35 (.sl (.int .i64))), .t 4 (.int .i64), .box 1 29 [.int .i64, .ro .ii]]),
  (31306, [.t 1 (.ptr 1), .t 3 (.own 35 (.sl (.int .i64))), .t 4 (.int .i64), .t 5 (.own 3 (.int .i64)), .t 6 (.int .i64), .box 1 29 [.int .i64, .ro .ii]])]
noncomputable def spec_LaplacianOf_L31306 : (List (List Int)) × Int × (List Int) × Int × Int × (List (Int × Int)) × Unit → Option (((List (List Int)) × Int × (List Int) × Int × Int × (List (Int × Int)) × Unit) ⊕ ((((List (List Int)) × Int × Int × (List (Int × Int)) × Unit) ⊕ (List (List Int)) × Unit))) := fun (t3, t4, t5, t6, b1_0, b1_1, _) =>
  cond (decide (t6 < b1_0))
    (cond (t4 == t6)
    (Option.bind (spec_Valence (b1_0, b1_1, t4, ())) fun (v2, _) => chk ((t5).length + (([v2] : List Int)).length ≤ 17592186044416) (some (.inl (t3, t4, (t5 ++ ([v2] : List Int)), (w64 (t6 + 1)), b1_0, b1_1, ()))))
    (Option.bind (spec_Multiplicity (b1_0, b1_1, t4, t6, ())) fun (v3, _) => chk ((t5).length + (([(w64 (0 - v3))] : List Int)).length ≤ 17592186044416) (some (.inl (t3, t4, (t5 ++ ([(w64 (0 - v3))] : List Int)), (w64 (t6 + 1)), b1_0, b1_1, ())))))
    (Option.map Sum.inr (chk ((t3).length + (([t5] : List (List Int))).length ≤ 5864062014805) (some (.inl ((t3 ++ ([t5] : List (List Int))), (w64 (t4 + 1)), b1_0, b1_1, ())))))
noncomputable def spec_LaplacianOf_L122 : (List (List Int)) × Int × Int × (List (Int × Int)) × Unit → Option (((List (List Int)) × Int × Int × (List (Int × Int)) × Unit) ⊕ ((List (List Int)) × Unit)) := fun (t3, t4, b1_0, b1_1, _) =>
  cond (decide (t4 < b1_0))
    (loopM spec_LaplacianOf_L31306 (t3, t4, ([] : List Int), 0, b1_0, b1_1, ()))
    (Option.map Sum.inr (some (t3, ())))
noncomputable def spec_LaplacianOf : Int × (List (Int × Int)) × Unit → Option ((List (List Int)) × Unit) := fun (t0_0, t0_1, _) =>
  Option.bind (spec_GraphOk (t0_0, t0_1, ())) fun (v1, _) => cond (!v1)
    (some (([] : List (List Int)), ()))
    (loopM spec_LaplacianOf_L122 (([] : List (List Int)), 0, t0_0, t0_1, ()))
noncomputable def spec_LaplacianOf_F : Fun := ⟨spec_LaplacianOf_ins, [], spec_LaplacianOf_outs, spec_LaplacianOf⟩
noncomputable def spec_LaplacianOf_orc : Orc := orcGet [(51, spec_GraphOk_F), (104, spec_Multiplicity_F), (167, spec_Valence_F)]
theorem spec_LaplacianOf_eq (x : Den spec_LaplacianOf_ins) : pmFn (tdGet tab) spec_LaplacianOf_orc spec_LaplacianOf_F.mn spec_LaplacianOf_ann Go.Proofs.Try.f160 spec_LaplacianOf_ins spec_LaplacianOf_outs x = spec_LaplacianOf x := by kernel_rfl
theorem spec_LaplacianOf_c : CallsD Go.Proofs.Try.prog 160 spec_LaplacianOf_F :=
  fn_contract (F := spec_LaplacianOf_F) (C := spec_LaplacianOf_orc) mix (chkTab_get tab_ok) (orc_cons spec_GraphOk_c (orc_cons spec_Multiplicity_c (orc_cons spec_Valence_c orc_nil))) spec_LaplacianOf_ann (fn := Go.Proofs.Try.f160) (by kernel_rfl) (by kernel_rfl) (by kernel_rfl) (by kernel_rfl) (by kernel_rfl) (fun x y h => (spec_LaplacianOf_eq x).trans h)

def spec_ReducedLaplacian_ins : List Item := [.agg 0 [.int .i64, .ro .ii], .t 1 (.int .i64)]
def spec_ReducedLaplacian_outs : List Item := [.t 500 (.own 35 (.sl (.int .i64)))]
def spec_ReducedLaplacian_ann : List (Nat × List Item) := [(12, [.t 1 (.int .i64), .t 2 (.ptr 2), .t 18 (.bool), .box 2 29 [.int .i64, .ro .ii]]),
  (122, [.t 1 (.int .i64), .t 5 (.own 35 (.sl (.int .i64))), .t 21 (.own 35 (.sl (.int .i64))), .t 22 (.int .i64), .t 23 (.int .i64)])]
noncomputable def spec_ReducedLaplacian_L122 : Int × (List (List Int)) × (List (List Int)) × Int × Int × Unit → Option ((Int × (List (List Int)) × (List (List Int)) × Int × Int × Unit) ⊕ ((List (List Int)) × Unit)) := fun (t1, t5, t21, t22, t23, _) =>
  cond (decide (t23 < t22))
    (chk (0 ≤ t23 ∧ t23 < ((t21).length : Int)) (cond (t23 != t1)
    (chk ((0 : Int) ≤ 0 ∧ 0 ≤ t1 ∧ t1 ≤ ((atD [] t21 t23).length : Int)) (chk ((([] : List Int)).length + ((sub (atD [] t21 t23) 0 t1)).length ≤ 17592186044416) (chk (0 ≤ (w64 (t1 + 1)) ∧ (w64 (t1 + 1)) ≤ ((atD [] t21 t23).length : Int) ∧ ((atD [] t21 t23).length : Int) ≤ ((atD [] t21 t23).length : Int)) (chk (((([] : List Int) ++ (sub (atD [] t21 t23) 0 t1))).length + ((sub (atD [] t21 t23) (w64 (t1 + 1)) ((atD [] t21 t23).length : Int))).length ≤ 17592186044416) (chk ((t5).length + (([((([] : List Int) ++ (sub (atD [] t21 t23) 0 t1)) ++ (sub (atD [] t21 t23) (w64 (t1 + 1)) ((atD [] t21 t23).length : Int)))] : List (List Int))).length ≤ 5864062014805) (some (.inl (t1, (t5 ++ ([((([] : List Int) ++ (sub (atD [] t21 t23) 0 t1)) ++ (sub (atD [] t21 t23) (w64 (t1 + 1)) ((atD [] t21 t23).length : Int)))] : List (List Int))), t21, t22, (w64 (t23 + 1)), ()))))))))
    (some (.inl (t1, t5, t21, t22, (w64 (t23 + 1)), ())))))
    (Option.map Sum.inr (some (t5, ())))
noncomputable def spec_ReducedLaplacian_J12 : Int × Bool × Int × (List (Int × Int)) × Unit → Option ((List (List Int)) × Unit) := fun (t1, t18, b2_0, b2_1, _) =>
  cond t18
    (some (([] : List (List Int)), ()))
    (Option.bind (spec_LaplacianOf (b2_0, b2_1, ())) fun (v4, _) => loopM spec_ReducedLaplacian_L122 (t1, ([] : List (List Int)), v4, ((v4).length : Int), 0, ()))
noncomputable def spec_ReducedLaplacian : Int × (List (Int × Int)) × Int × Unit → Option ((List (List Int)) × Unit) := fun (t0_0, t0_1, t1, _) =>
  joinB (T := Int × Bool × Int × (List (Int × Int)) × Unit) (R := (List (List Int)) × Unit) (Option.bind (spec_GraphOk (t0_0, t0_1, ())) fun (v2, _) => cond (!v2)
    (some (.inl (t1, true, t0_0, t0_1, ())))
    (Option.bind (spec_l01In (t1, 0, (w64 (t0_0 - 1)), ())) fun (v3, _) => some (.inl (t1, (!v3), t0_0, t0_1, ())))) spec_ReducedLaplacian_J12
noncomputable def spec_ReducedLaplacian_F : Fun := ⟨spec_ReducedLaplacian_ins, [], spec_ReducedLaplacian_outs, spec_ReducedLaplacian⟩
noncomputable def spec_ReducedLaplacian_orc : Orc := orcGet [(51, spec_GraphOk_F), (122, spec_l01In_F), (160, spec_LaplacianOf_F)]
theorem spec_ReducedLaplacian_eq (x : Den spec_ReducedLaplacian_ins) : pmFn (tdGet tab) spec_ReducedLaplacian_orc spec_ReducedLaplacian_F.mn spec_ReducedLaplacian_ann Go.Proofs.Try.f142 spec_ReducedLaplacian_ins spec_ReducedLaplacian_outs x = spec_ReducedLaplacian x := by kernel_rfl
theorem spec_ReducedLaplacian_c : CallsD Go.Proofs.Try.prog 142 spec_ReducedLaplacian_F :=
  fn_contract (F := spec_ReducedLaplacian_F) (C := spec_ReducedLaplacian_orc) mix (chkTab_get tab_ok) (orc_cons spec_GraphOk_c (orc_cons spec_l01In_c (orc_cons spec_LaplacianOf_c orc_nil))) spec_ReducedLaplacian_ann (fn := Go.Proofs.Try.f142) (by kernel_rfl) (by kernel_rfl) (by kernel_rfl) (by kernel_rfl) (by kernel_rfl) (fun x y h => (spec_ReducedLaplacian_eq x).trans h)

def spec_MatrixOk_ins : List Item := [.t 0 (.ro (.sl (.int .i64)))]
def spec_MatrixOk_outs : List Item := [.t 500 (.bool)]
def spec_MatrixOk_ann : List (Nat × List Item) := [(58, [.t 0 (.ro (.sl (.int .i64))), .t 10 (.ro (.sl (.int .i64))), .t 11 (.int .i64), .t 12 (.int .i64)]),
  (29902, [.t 0 (.ro (.sl (.int .i64))), .t 10 (.ro (.sl (.int .i64))), .t 11 (.int .i64), .t 12 (.int .i64), .t 21 (.ro (.int .i64)), .t 22 (.int .i64), .t 23 (.int .i64)])]
noncomputable def spec_MatrixOk_L29902 : (List (List Int)) × (List (List Int)) × Int × Int × (List Int) × Int × Int × Unit → Option (((List (List Int)) × (List (List Int)) × Int × Int × (List Int) × Int × Int × Unit) ⊕ ((((List (List Int)) × (List (List Int)) × Int × Int × Unit) ⊕ Bool × Unit))) := fun (t0, t10, t11, t12, t21, t22, t23, _) =>
  cond (decide (t23 < t22))
    (chk (0 ≤ t23 ∧ t23 < ((t21).length : Int)) (Option.bind (spec_l01In (atD 0 t21 t23, (-500), 500, ())) fun (v1, _) => cond (!v1)
    (Option.map Sum.inr (Option.map Sum.inr (some (false, ()))))
    (some (.inl (t0, t10, t11, t12, t21, t22, (w64 (t23 + 1)), ())))))
    (Option.map Sum.inr (some (.inl (t0, t10, t11, (w64 (t12 + 1)), ()))))
noncomputable def spec_MatrixOk_L58 : (List (List Int)) × (List (List Int)) × Int × Int × Unit → Option (((List (List Int)) × (List (List Int)) × Int × Int × Unit) ⊕ (Bool × Unit)) := fun (t0, t10, t11, t12, _) =>
  cond (decide (t12 < t11))
    (chk (0 ≤ t12 ∧ t12 < ((t10).length : Int)) (cond (((atD [] t10 t12).length : Int) != ((t0).length : Int))
    (Option.map Sum.inr (some (false, ())))
    (loopM spec_MatrixOk_L29902 (t0, t10, t11, t12, atD [] t10 t12, ((atD [] t10 t12).length : Int), 0, ()))))
    (Option.map Sum.inr (some (true, ())))
noncomputable def spec_MatrixOk : (List (List Int)) × Unit → Option (Bool × Unit) := fun (t0, _) =>
  cond (decide (((t0).length : Int) > 6))
    (some (false, ()))
    (loopM spec_MatrixOk_L58 (t0, t0, ((t0).length : Int), 0, ()))
noncomputable def spec_MatrixOk_F : Fun := ⟨spec_MatrixOk_ins, [], spec_MatrixOk_outs, spec_MatrixOk⟩
noncomputable def spec_MatrixOk_orc : Orc := orcGet [(122, spec_l01In_F)]
theorem spec_MatrixOk_eq (x : Den spec_MatrixOk_ins) : pmFn (tdGet tab) spec_MatrixOk_orc spec_MatrixOk_F.mn spec_MatrixOk_ann Go.Proofs.Try.f158 spec_MatrixOk_ins spec_MatrixOk_outs x = spec_MatrixOk x := by kernel_rfl
theorem spec_MatrixOk_c : CallsD Go.Proofs.Try.prog 158 spec_MatrixOk_F :=
  fn_contract (F := spec_MatrixOk_F) (C := spec_MatrixOk_orc) mix (chkTab_get tab_ok) (orc_cons spec_l01In_c orc_nil) spec_MatrixOk_ann (fn := Go.Proofs.Try.f158) (by kernel_rfl) (by kernel_rfl) (by kernel_rfl) (by kernel_rfl) (by kernel_rfl) (fun x y h => (spec_MatrixOk_eq x).trans h)

def spec_l03All_ins : List Item := [.t 0 (.int .i64)]
def spec_l03All_outs : List Item := [.t 500 (.own 3 (.int .i64))]
def spec_l03All_ann : List (Nat × List Item) := [(58, [.t 0 (.int .i64), .t 3 (.own 3 (.int .i64)), .t 4 (.int .i64)])]
noncomputable def spec_l03All_L58 : Int × (List Int) × Int × Unit → Option ((Int × (List Int) × Int × Unit) ⊕ ((List Int) × Unit)) := fun (t0, t3, t4, _) =>
  cond (decide (t4 < t0))
    (chk ((t3).length + (([t4] : List Int)).length ≤ 17592186044416) (some (.inl (t0, (t3 ++ ([t4] : List Int)), (w64 (t4 + 1)), ()))))
    (Option.map Sum.inr (some (t3, ())))
noncomputable def spec_l03All : Int × Unit → Option ((List Int) × Unit) := fun (t0, _) =>
  loopM spec_l03All_L58 (t0, ([] : List Int), 0, ())
noncomputable def spec_l03All_F : Fun := ⟨spec_l03All_ins, [], spec_l03All_outs, spec_l03All⟩
noncomputable def spec_l03All_orc : Orc := orcGet []
theorem spec_l03All_eq (x : Den spec_l03All_ins) : pmFn (tdGet tab) spec_l03All_orc spec_l03All_F.mn spec_l03All_ann Go.Proofs.Try.f111 spec_l03All_ins spec_l03All_outs x = spec_l03All x := by kernel_rfl
theorem spec_l03All_c : CallsD Go.Proofs.Try.prog 111 spec_l03All_F :=
  fn_contract (F := spec_l03All_F) (C := spec_l03All_orc) mix (chkTab_get tab_ok) orc_nil spec_l03All_ann (fn := Go.Proofs.Try.f111) (by kernel_rfl) (by kernel_rfl) (by kernel_rfl) (by kernel_rfl) (by kernel_rfl) (fun x y h => (spec_l03All_eq x).trans h)

def spec_l03Det_ins : List Item := [.t 0 (.ro (.sl (.int .i64))), .t 1 (.ro (.int .i64)), .t 2 (.ro (.int .i64))]
def spec_l03Det_outs : List Item := [.t 500 (.int .i64)]
def spec_l03Det_ann : List (Nat × List Item) := [(250, [.t 0 (.ro (.sl (.int .i64))), .t 1 (.ro (.int .i64)), .t 2 (.ro (.int .i64)), .t 7 (.int .i64), .t 8 (.int .i64), .t 16 (.ro (.int .i64)), .t 17 (.int .i64), .t 18 (.int .i64)])]
noncomputable def spec_l03Det_L250 (self_ : (List (List Int)) × (List Int) × (List Int) × Unit → Option (Int × Unit)) : (List (List Int)) × (List Int) × (List Int) × Int × Int × (List Int) × Int × Int × Unit → Option (((List (List Int)) × (List Int) × (List Int) × Int × Int × (List Int) × Int × Int × Unit) ⊕ (Int × Unit)) := fun (t0, t1, t2, t7, t8, t16, t17, t18, _) =>
  cond (decide (t18 < t17))
    (chk (0 ≤ t18 ∧ t18 < ((t16).length : Int)) (chk ((0 : Int) ≤ 0 ∧ 0 < ((t1).length : Int)) (chk (0 ≤ atD 0 t1 0 ∧ atD 0 t1 0 < ((t0).length : Int)) (chk (0 ≤ atD 0 t16 t18 ∧ atD 0 t16 t18 < ((atD [] t0 (atD 0 t1 0)).length : Int)) (cond (atD 0 (atD [] t0 (atD 0 t1 0)) (atD 0 t16 t18) != 0)
    (chk ((0 : Int) ≤ 0 ∧ 0 ≤ t18 ∧ t18 ≤ ((t2).length : Int)) (chk ((([] : List Int)).length + ((sub t2 0 t18)).length ≤ 17592186044416) (chk (0 ≤ (w64 (t18 + 1)) ∧ (w64 (t18 + 1)) ≤ ((t2).length : Int) ∧ ((t2).length : Int) ≤ ((t2).length : Int)) (chk (((([] : List Int) ++ (sub t2 0 t18))).length + ((sub t2 (w64 (t18 + 1)) ((t2).length : Int))).length ≤ 17592186044416) (chk ((0 : Int) ≤ 1 ∧ 1 ≤ ((t1).length : Int) ∧ ((t1).length : Int) ≤ ((t1).length : Int)) (Option.bind (self_ (t0, (sub t1 1 ((t1).length : Int)), ((([] : List Int) ++ (sub t2 0 t18)) ++ (sub t2 (w64 (t18 + 1)) ((t2).length : Int))), ())) fun (v1, _) => some (.inl (t0, t1, t2, (w64 (t7 + (w64 ((w64 (t8 * atD 0 (atD [] t0 (atD 0 t1 0)) (atD 0 t16 t18))) * v1)))), (w64 (0 - t8)), t16, t17, (w64 (t18 + 1)), ()))))))))
    (some (.inl (t0, t1, t2, t7, (w64 (0 - t8)), t16, t17, (w64 (t18 + 1)), ()))))))))
    (Option.map Sum.inr (some (t7, ())))
noncomputable def spec_l03Det_step (self_ : (List (List Int)) × (List Int) × (List Int) × Unit → Option (Int × Unit)) : (List (List Int)) × (List Int) × (List Int) × Unit → Option (Int × Unit) := fun (t0, t1, t2, _) =>
  cond (((t1).length : Int) == 0)
    (some (1, ()))
    (loopM (spec_l03Det_L250 self_) (t0, t1, t2, 0, 1, t2, ((t2).length : Int), 0, ()))
noncomputable def spec_l03Det_rec : Nat → (List (List Int)) × (List Int) × (List Int) × Unit → Option (Int × Unit)
  | 0 => fun _ => none
  | k + 1 => spec_l03Det_step (spec_l03Det_rec k)
noncomputable def spec_l03Det : (List (List Int)) × (List Int) × (List Int) × Unit → Option (Int × Unit) := spec_l03Det_rec 64
noncomputable def spec_l03Det_G (self_ : (List (List Int)) × (List Int) × (List Int) × Unit → Option (Int × Unit)) : Fun := ⟨spec_l03Det_ins, [], spec_l03Det_outs, self_⟩
noncomputable def spec_l03Det_orc (self_ : (List (List Int)) × (List Int) × (List Int) × Unit → Option (Int × Unit)) : Orc := orcGet [(159, spec_l03Det_G self_)]
theorem spec_l03Det_eq (self_ : (List (List Int)) × (List Int) × (List Int) × Unit → Option (Int × Unit)) (x : Den spec_l03Det_ins) : pmFn (tdGet tab) (spec_l03Det_orc self_) (spec_l03Det_G self_).mn spec_l03Det_ann Go.Proofs.Try.f159 spec_l03Det_ins spec_l03Det_outs x = spec_l03Det_step self_ x := by kernel_rfl
theorem spec_l03Det_cn : ∀ k : Nat, CallsD Go.Proofs.Try.prog 159 (spec_l03Det_G (spec_l03Det_rec k))
  | 0 => fn_contract (F := spec_l03Det_G (spec_l03Det_rec 0)) (C := orcGet []) mix (chkTab_get tab_ok) orc_nil spec_l03Det_ann (fn := Go.Proofs.Try.f159) (by kernel_rfl) (by kernel_rfl) (by kernel_rfl) (by kernel_rfl) (by kernel_rfl) (fun x y h => nomatch h)
  | k + 1 => have ih := spec_l03Det_cn k
    fn_contract (F := spec_l03Det_G (spec_l03Det_rec (k + 1))) (C := spec_l03Det_orc (spec_l03Det_rec k)) mix (chkTab_get tab_ok) (orc_cons ih orc_nil) spec_l03Det_ann (fn := Go.Proofs.Try.f159) (by kernel_rfl) (by kernel_rfl) (by kernel_rfl) (by kernel_rfl) (by kernel_rfl) (fun x y h => (spec_l03Det_eq (spec_l03Det_rec k) x).trans h)
noncomputable def spec_l03Det_F : Fun := spec_l03Det_G spec_l03Det
theorem spec_l03Det_c : CallsD Go.Proofs.Try.prog 159 spec_l03Det_F := spec_l03Det_cn 64

def spec_Determinant_ins : List Item := [.t 0 (.ro (.sl (.int .i64)))]
def spec_Determinant_outs : List Item := [.t 500 (.int .i64)]
def spec_Determinant_ann : List (Nat × List Item) := []
noncomputable def spec_Determinant : (List (List Int)) × Unit → Option (Int × Unit) := fun (t0, _) =>
  Option.bind (spec_MatrixOk (t0, ())) fun (v1, _) => cond (!v1)
    (some (0, ()))
    (Option.bind (spec_l03All (((t0).length : Int), ())) fun (v2, _) => Option.bind (spec_l03All (((t0).length : Int), ())) fun (v3, _) => Option.bind (spec_l03Det (t0, v2, v3, ())) fun (v4, _) => some (v4, ()))
noncomputable def spec_Determinant_F : Fun := ⟨spec_Determinant_ins, [], spec_Determinant_outs, spec_Determinant⟩
noncomputable def spec_Determinant_orc : Orc := orcGet [(111, spec_l03All_F), (158, spec_MatrixOk_F), (159, spec_l03Det_F)]
theorem spec_Determinant_eq (x : Den spec_Determinant_ins) : pmFn (tdGet tab) spec_Determinant_orc spec_Determinant_F.mn spec_Determinant_ann Go.Proofs.Try.f141 spec_Determinant_ins spec_Determinant_outs x = spec_Determinant x := by kernel_rfl
theorem spec_Determinant_c : CallsD Go.Proofs.Try.prog 141 spec_Determinant_F :=
  fn_contract (F := spec_Determinant_F) (C := spec_Determinant_orc) mix (chkTab_get tab_ok) (orc_cons spec_l03All_c (orc_cons spec_MatrixOk_c (orc_cons spec_l03Det_c orc_nil))) spec_Determinant_ann (fn := Go.Proofs.Try.f141) (by kernel_rfl) (by kernel_rfl) (by kernel_rfl) (by kernel_rfl) (by kernel_rfl) (fun x y h => (spec_Determinant_eq x).trans h)

def spec_CountTrees_ins : List Item := [.agg 0 [.int .i64, .ro .ii]]
def spec_CountTrees_outs : List Item := [.t 500 (.int .i64)]
def spec_CountTrees_ann : List (Nat × List Item) := []
noncomputable def spec_CountTrees : Int × (List (Int × Int)) × Unit → Option (Int × Unit) := fun (t0_0, t0_1, _) =>
  Option.bind (spec_GraphOk (t0_0, t0_1, ())) fun (v1, _) => cond (!v1)
    (some (0, ()))
    (Option.bind (spec_ReducedLaplacian (t0_0, t0_1, 0, ())) fun (v2, _) => Option.bind (spec_Determinant (v2, ())) fun (v3, _) => some (v3, ()))
noncomputable def spec_CountTrees_F : Fun := ⟨spec_CountTrees_ins, [], spec_CountTrees_outs, spec_CountTrees⟩
noncomputable def spec_CountTrees_orc : Orc := orcGet [(51, spec_GraphOk_F), (141, spec_Determinant_F), (142, spec_ReducedLaplacian_F)]
theorem spec_CountTrees_eq (x : Den spec_CountTrees_ins) : pmFn (tdGet tab) spec_CountTrees_orc spec_CountTrees_F.mn spec_CountTrees_ann Go.Proofs.Try.f115 spec_CountTrees_ins spec_CountTrees_outs x = spec_CountTrees x := by kernel_rfl
theorem spec_CountTrees_c : CallsD Go.Proofs.Try.prog 115 spec_CountTrees_F :=
  fn_contract (F := spec_CountTrees_F) (C := spec_CountTrees_orc) mix (chkTab_get tab_ok) (orc_cons spec_GraphOk_c (orc_cons spec_Determinant_c (orc_cons spec_ReducedLaplacian_c orc_nil))) spec_CountTrees_ann (fn := Go.Proofs.Try.f115) (by kernel_rfl) (by kernel_rfl) (by kernel_rfl) (by kernel_rfl) (by kernel_rfl) (fun x y h => (spec_CountTrees_eq x).trans h)

def spec_l03Sets_ins : List Item := [.t 0 (.int .i64), .t 1 (.int .i64)]
def spec_l03Sets_outs : List Item := [.t 500 (.own 35 (.sl (.int .i64)))]
def spec_l03Sets_ann : List (Nat × List Item) := [(122, [.t 0 (.int .i64), .t 5 (.own 35 (.sl (.int .i64))), .t 18 (.own 35 (.sl (.int .i64))), .t 19 (.int .i64), .t 20 (.int .i64)]),
  (62669, [.t 0 (.int .i64), .t 5 (.own 35 (.sl (.int .i64))), .t 7 (.ro (.int .i64)), .t 8 (.int .i64), .t 18 (.own 35 (.sl (.int .i64))), .t 19 (.int .i64), .t 20 (.int .i64)]),
  (125342, [.t 0 (.int .i64), .t 5 (.own 35 (.sl (.int .i64))), .t 7 (.ro (.int .i64)), .t 9 (.int .i64), .t 18 (.own 35 (.sl (.int .i64))), .t 19 (.int .i64), .t 20 (.int .i64)])]
noncomputable def spec_l03Sets_L125342 (self_ : Int × Int × Unit → Option ((List (List Int)) × Unit)) : Int × (List (List Int)) × (List Int) × Int × (List (List Int)) × Int × Int × Unit → Option ((Int × (List (List Int)) × (List Int) × Int × (List (List Int)) × Int × Int × Unit) ⊕ (((Int × (List (List Int)) × (List (List Int)) × Int × Int × Unit) ⊕ (List (List Int)) × Unit))) := fun (t0, t5, t7, t9, t18, t19, t20, _) =>
  cond (decide (t9 < t0))
    (chk ((([] : List Int)).length + (t7).length ≤ 17592186044416) (chk (((([] : List Int) ++ t7)).length + (([t9] : List Int)).length ≤ 17592186044416) (chk ((t5).length + (([((([] : List Int) ++ t7) ++ ([t9] : List Int))] : List (List Int))).length ≤ 5864062014805) (some (.inl (t0, (t5 ++ ([((([] : List Int) ++ t7) ++ ([t9] : List Int))] : List (List Int))), t7, (w64 (t9 + 1)), t18, t19, t20, ()))))))
    (Option.map Sum.inr (some (.inl (t0, t5, t18, t19, (w64 (t20 + 1)), ()))))
noncomputable def spec_l03Sets_J62669 (self_ : Int × Int × Unit → Option ((List (List Int)) × Unit)) : Int × (List (List Int)) × (List Int) × Int × (List (List Int)) × Int × Int × Unit → Option (((Int × (List (List Int)) × (List (List Int)) × Int × Int × Unit) ⊕ (List (List Int)) × Unit)) := fun (t0, t5, t7, t8, t18, t19, t20, _) =>
  loopM (spec_l03Sets_L125342 self_) (t0, t5, t7, t8, t18, t19, t20, ())
noncomputable def spec_l03Sets_L122 (self_ : Int × Int × Unit → Option ((List (List Int)) × Unit)) : Int × (List (List Int)) × (List (List Int)) × Int × Int × Unit → Option ((Int × (List (List Int)) × (List (List Int)) × Int × Int × Unit) ⊕ ((List (List Int)) × Unit)) := fun (t0, t5, t18, t19, t20, _) =>
  cond (decide (t20 < t19))
    (chk (0 ≤ t20 ∧ t20 < ((t18).length : Int)) (joinB (T := Int × (List (List Int)) × (List Int) × Int × (List (List Int)) × Int × Int × Unit) (R := ((Int × (List (List Int)) × (List (List Int)) × Int × Int × Unit) ⊕ (List (List Int)) × Unit)) (cond (decide (((atD [] t18 t20).length : Int) > 0))
    (chk (0 ≤ (w64 (((atD [] t18 t20).length : Int) - 1)) ∧ (w64 (((atD [] t18 t20).length : Int) - 1)) < ((atD [] t18 t20).length : Int)) (some (.inl (t0, t5, atD [] t18 t20, (w64 (atD 0 (atD [] t18 t20) (w64 (((atD [] t18 t20).length : Int) - 1)) + 1)), t18, t19, t20, ()))))
    (some (.inl (t0, t5, atD [] t18 t20, 0, t18, t19, t20, ())))) (spec_l03Sets_J62669 self_)))
    (Option.map Sum.inr (some (t5, ())))
noncomputable def spec_l03Sets_step (self_ : Int × Int × Unit → Option ((List (List Int)) × Unit)) : Int × Int × Unit → Option ((List (List Int)) × Unit) := fun (t0, t1, _) =>
  cond (t1 == 0)
    (some (([([] : List Int)] : List (List Int)), ()))
    (Option.bind (self_ (t0, (w64 (t1 - 1)), ())) fun (v1, _) => loopM (spec_l03Sets_L122 self_) (t0, ([] : List (List Int)), v1, ((v1).length : Int), 0, ()))
noncomputable def spec_l03Sets_rec : Nat → Int × Int × Unit → Option ((List (List Int)) × Unit)
  | 0 => fun _ => none
  | k + 1 => spec_l03Sets_step (spec_l03Sets_rec k)
noncomputable def spec_l03Sets : Int × Int × Unit → Option ((List (List Int)) × Unit) := spec_l03Sets_rec 64
noncomputable def spec_l03Sets_G (self_ : Int × Int × Unit → Option ((List (List Int)) × Unit)) : Fun := ⟨spec_l03Sets_ins, [], spec_l03Sets_outs, self_⟩
noncomputable def spec_l03Sets_orc (self_ : Int × Int × Unit → Option ((List (List Int)) × Unit)) : Orc := orcGet [(116, spec_l03Sets_G self_)]
theorem spec_l03Sets_eq (self_ : Int × Int × Unit → Option ((List (List Int)) × Unit)) (x : Den spec_l03Sets_ins) : pmFn (tdGet tab) (spec_l03Sets_orc self_) (spec_l03Sets_G self_).mn spec_l03Sets_ann Go.Proofs.Try.f116 spec_l03Sets_ins spec_l03Sets_outs x = spec_l03Sets_step self_ x := by kernel_rfl
theorem spec_l03Sets_cn : ∀ k : Nat, CallsD Go.Proofs.Try.prog 116 (spec_l03Sets_G (spec_l03Sets_rec k))
  | 0 => fn_contract (F := spec_l03Sets_G (spec_l03Sets_rec 0)) (C := orcGet []) mix (chkTab_get tab_ok) orc_nil spec_l03Sets_ann (fn := Go.Proofs.Try.f116) (by kernel_rfl) (by kernel_rfl) (by kernel_rfl) (by kernel_rfl) (by kernel_rfl) (fun x y h => nomatch h)
  | k + 1 => have ih := spec_l03Sets_cn k
    fn_contract (F := spec_l03Sets_G (spec_l03Sets_rec (k + 1))) (C := spec_l03Sets_orc (spec_l03Sets_rec k)) mix (chkTab_get tab_ok) (orc_cons ih orc_nil) spec_l03Sets_ann (fn := Go.Proofs.Try.f116) (by kernel_rfl) (by kernel_rfl) (by kernel_rfl) (by kernel_rfl) (by kernel_rfl) (fun x y h => (spec_l03Sets_eq (spec_l03Sets_rec k) x).trans h)
noncomputable def spec_l03Sets_F : Fun := spec_l03Sets_G spec_l03Sets
theorem spec_l03Sets_c : CallsD Go.Proofs.Try.prog 116 spec_l03Sets_F := spec_l03Sets_cn 64

def spec_l12Joins_ins : List Item := [.agg 0 [.int .i64, .ro .ii], .t 1 (.ro (.int .i64))]
def spec_l12Joins_outs : List Item := [.t 500 (.bool)]
def spec_l12Joins_ann : List (Nat × List Item) := [(58, [.t 2 (.ptr 2), .t 5 (.ptr 5), .t 11 (.ro (.int .i64)), .t 12 (.int .i64), .t 13 (.int .i64), .box 2 29 [.int .i64, .ro .ii], .box 5 29 [.int .i64, .own 76 .ii]])]
noncomputable def spec_l12Joins_L58 : (List Int) × Int × Int × Int × (List (Int × Int)) × Int × (List (Int × Int)) × Unit → Option (((List Int) × Int × Int × Int × (List (Int × Int)) × Int × (List (Int × Int)) × Unit) ⊕ (Bool × Unit)) := fun (t11, t12, t13, b2_0, b2_1, b5_0, b5_1, _) =>
  cond (decide (t13 < t12))
    (chk (0 ≤ t13 ∧ t13 < ((t11).length : Int)) (chk (0 ≤ atD 0 t11 t13 ∧ atD 0 t11 t13 < ((b2_1).length : Int)) (chk ((b5_1).length + (([((atD (0, 0) b2_1 (atD 0 t11 t13)).1, (atD (0, 0) b2_1 (atD 0 t11 t13)).2)] : List (Int × Int))).length ≤ 8796093022208) (some (.inl (t11, t12, (w64 (t13 + 1)), b2_0, b2_1, b5_0, (b5_1 ++ ([((atD (0, 0) b2_1 (atD 0 t11 t13)).1, (atD (0, 0) b2_1 (atD 0 t11 t13)).2)] : List (Int × Int))), ()))))))
    (Option.map Sum.inr (Option.bind (spec_l02Reach (b5_0, b5_1, ())) fun (v1, _) => some ((((v1).length : Int) == b2_0), ())))
noncomputable def spec_l12Joins : Int × (List (Int × Int)) × (List Int) × Unit → Option (Bool × Unit) := fun (t0_0, t0_1, t1, _) =>
  loopM spec_l12Joins_L58 (t1, ((t1).length : Int), 0, t0_0, t0_1, t0_0, ([] : List (Int × Int)), ())
noncomputable def spec_l12Joins_F : Fun := ⟨spec_l12Joins_ins, [], spec_l12Joins_outs, spec_l12Joins⟩
noncomputable def spec_l12Joins_orc : Orc := orcGet [(98, spec_l02Reach_F)]
theorem spec_l12Joins_eq (x : Den spec_l12Joins_ins) : pmFn (tdGet tab) spec_l12Joins_orc spec_l12Joins_F.mn spec_l12Joins_ann Go.Proofs.Try.f117 spec_l12Joins_ins spec_l12Joins_outs x = spec_l12Joins x := by kernel_rfl
theorem spec_l12Joins_c : CallsD Go.Proofs.Try.prog 117 spec_l12Joins_F :=
  fn_contract (F := spec_l12Joins_F) (C := spec_l12Joins_orc) mix (chkTab_get tab_ok) (orc_cons spec_l02Reach_c orc_nil) spec_l12Joins_ann (fn := Go.Proofs.Try.f117) (by kernel_rfl) (by kernel_rfl) (by kernel_rfl) (by kernel_rfl) (by kernel_rfl) (fun x y h => (spec_l12Joins_eq x).trans h)

def spec_TreesOf_ins : List Item := [.agg 0 [.int .i64, .ro .ii]]
def spec_TreesOf_outs : List Item := [.t 500 (.own 35 (.sl (.int .i64))), .t 501 (.bool)]
def spec_TreesOf_ann : List (Nat × List Item) := [(12, [.t 1 (.ptr 1), .t 14 (.bool), .box 1 29 [.int .i64, .ro .ii]]),
  (122, [.t 1 (.ptr 1), .t 4 (.own 35 (.sl (.int .i64))), .t 22 (.own 35 (.sl (.int .i64))), .t 23 (.int .i64), .t 24 (.int .i64), .box 1 29 [.int .i64, .ro .ii]])]
noncomputable def spec_TreesOf_L122 : (List (List Int)) × (List (List Int)) × Int × Int × Int × (List (Int × Int)) × Unit → Option (((List (List Int)) × (List (List Int)) × Int × Int × Int × (List (Int × Int)) × Unit) ⊕ ((List (List Int)) × Bool × Unit)) := fun (t4, t22, t23, t24, b1_0, b1_1, _) =>
  cond (decide (t24 < t23))
    (chk (0 ≤ t24 ∧ t24 < ((t22).length : Int)) (Option.bind (spec_l12Joins (b1_0, b1_1, atD [] t22 t24, ())) fun (v5, _) => cond v5
    (chk ((t4).length + (([atD [] t22 t24] : List (List Int))).length ≤ 5864062014805) (some (.inl ((t4 ++ ([atD [] t22 t24] : List (List Int))), t22, t23, (w64 (t24 + 1)), b1_0, b1_1, ()))))
    (some (.inl (t4, t22, t23, (w64 (t24 + 1)), b1_0, b1_1, ())))))
    (Option.map Sum.inr (some (t4, true, ())))
noncomputable def spec_TreesOf_J12 : Bool × Int × (List (Int × Int)) × Unit → Option ((List (List Int)) × Bool × Unit) := fun (t14, b1_0, b1_1, _) =>
  cond t14
    (some (([] : List (List Int)), false, ()))
    (Option.bind (spec_l03Sets (((b1_1).length : Int), (w64 (b1_0 - 1)), ())) fun (v4, _) => loopM spec_TreesOf_L122 (([] : List (List Int)), v4, ((v4).length : Int), 0, b1_0, b1_1, ()))
noncomputable def spec_TreesOf : Int × (List (Int × Int)) × Unit → Option ((List (List Int)) × Bool × Unit) := fun (t0_0, t0_1, _) =>
  joinB (T := Bool × Int × (List (Int × Int)) × Unit) (R := (List (List Int)) × Bool × Unit) (Option.bind (spec_GraphOk (t0_0, t0_1, ())) fun (v2, _) => cond (!v2)
    (some (.inl (true, t0_0, t0_1, ())))
    (Option.bind (spec_CountTrees (t0_0, t0_1, ())) fun (v3, _) => some (.inl ((decide (v3 > 400)), t0_0, t0_1, ())))) spec_TreesOf_J12
noncomputable def spec_TreesOf_F : Fun := ⟨spec_TreesOf_ins, [], spec_TreesOf_outs, spec_TreesOf⟩
noncomputable def spec_TreesOf_orc : Orc := orcGet [(51, spec_GraphOk_F), (115, spec_CountTrees_F), (116, spec_l03Sets_F), (117, spec_l12Joins_F)]
theorem spec_TreesOf_eq (x : Den spec_TreesOf_ins) : pmFn (tdGet tab) spec_TreesOf_orc spec_TreesOf_F.mn spec_TreesOf_ann Go.Proofs.Try.f78 spec_TreesOf_ins spec_TreesOf_outs x = spec_TreesOf x := by kernel_rfl
theorem spec_TreesOf_c : CallsD Go.Proofs.Try.prog 78 spec_TreesOf_F :=
  fn_contract (F := spec_TreesOf_F) (C := spec_TreesOf_orc) mix (chkTab_get tab_ok) (orc_cons spec_GraphOk_c (orc_cons spec_CountTrees_c (orc_cons spec_l03Sets_c (orc_cons spec_l12Joins_c orc_nil)))) spec_TreesOf_ann (fn := Go.Proofs.Try.f78) (by kernel_rfl) (by kernel_rfl) (by kernel_rfl) (by kernel_rfl) (by kernel_rfl) (fun x y h => (spec_TreesOf_eq x).trans h)

def spec_MakeTree_ins : List Item := [.t 0 (.ro (.int .u8))]
def spec_MakeTree_outs : List Item := [.agg 500 [.int .i64, .ro .ii], .t 501 (.ro (.int .i64))]
def spec_MakeTree_ann : List (Nat × List Item) := []
noncomputable def spec_MakeTree : (List Int) × Unit → Option (Int × (List (Int × Int)) × (List Int) × Unit) := fun (t0, _) =>
  Option.bind (spec_l01New (t0, ())) fun (v1, v2, v3, _) => Option.bind (spec_l02Graph (v1, v2, v3, ())) fun (v4, v5, v6, v7, v8, _) => Option.bind (spec_TreesOf (v4, v5, ())) fun (v9, v10, _) => cond (!v10)
    (Option.bind (spec_TreesOf (3, ([(0, 1), (0, 2), (1, 2)] : List (Int × Int)), ())) fun (v11, v12, _) => Option.bind (spec_l01Below (((v11).length : Int), v6, v7, v8, ())) fun (v13, v14, v15, v16, _) => chk (0 ≤ v13 ∧ v13 < ((v11).length : Int)) (some (3, ([(0, 1), (0, 2), (1, 2)] : List (Int × Int)), atD [] v11 v13, ())))
    (Option.bind (spec_l01Below (((v9).length : Int), v6, v7, v8, ())) fun (v17, v18, v19, v20, _) => chk (0 ≤ v17 ∧ v17 < ((v9).length : Int)) (some (v4, v5, atD [] v9 v17, ())))
noncomputable def spec_MakeTree_F : Fun := ⟨spec_MakeTree_ins, [], spec_MakeTree_outs, spec_MakeTree⟩
noncomputable def spec_MakeTree_orc : Orc := orcGet [(61, spec_l01New_F), (68, spec_l02Graph_F), (74, spec_l01Below_F), (78, spec_TreesOf_F)]
theorem spec_MakeTree_eq (x : Den spec_MakeTree_ins) : pmFn (tdGet tab) spec_MakeTree_orc spec_MakeTree_F.mn spec_MakeTree_ann Go.Proofs.Try.f29 spec_MakeTree_ins spec_MakeTree_outs x = spec_MakeTree x := by kernel_rfl
theorem spec_MakeTree_c : CallsD Go.Proofs.Try.prog 29 spec_MakeTree_F :=
  fn_contract (F := spec_MakeTree_F) (C := spec_MakeTree_orc) mix (chkTab_get tab_ok) (orc_cons spec_l01New_c (orc_cons spec_l02Graph_c (orc_cons spec_l01Below_c (orc_cons spec_TreesOf_c orc_nil)))) spec_MakeTree_ann (fn := Go.Proofs.Try.f29) (by kernel_rfl) (by kernel_rfl) (by kernel_rfl) (by kernel_rfl) (by kernel_rfl) (fun x y h => (spec_MakeTree_eq x).trans h)

def spec_l21New_ins : List Item := [.t 0 (.ro (.int .u8)), .t 1 (.int .i64)]
def spec_l21New_outs : List Item := [.t 500 (.ptr 9000), .box 9000 115 [.ro (.int .u8), .int .i64, .int .i64]]
def spec_l21New_ann : List (Nat × List Item) := [(58, [.t 1 (.int .i64), .t 5 (.ptr 90000031), .t 6 (.int .i64), .box 90000031 115 [.ro (.int .u8), .int .i64, .int .i64]])]
noncomputable def spec_l21New_L58 : Int × Int × (List Int) × Int × Int × Unit → Option ((Int × Int × (List Int) × Int × Int × Unit) ⊕ ((List Int) × Int × Int × Unit)) := fun (t1, t6, b90000031_0, b90000031_1, b90000031_2, _) =>
  cond (decide (t6 < t1))
    (Option.bind (spec_l01Byte (b90000031_0, b90000031_1, b90000031_2, ())) fun (v4, v5, v6, v7, _) => some (.inl (t1, (w64 (t6 + 1)), v5, v6, v7, ())))
    (Option.map Sum.inr (some (b90000031_0, b90000031_1, b90000031_2, ())))
noncomputable def spec_l21New : (List Int) × Int × Unit → Option ((List Int) × Int × Int × Unit) := fun (t0, t1, _) =>
  Option.bind (spec_l01New (t0, ())) fun (v1, v2, v3, _) => loopM spec_l21New_L58 (t1, 0, v1, v2, v3, ())
noncomputable def spec_l21New_F : Fun := ⟨spec_l21New_ins, [], spec_l21New_outs, spec_l21New⟩
noncomputable def spec_l21New_orc : Orc := orcGet [(61, spec_l01New_F), (79, spec_l01Byte_F)]
theorem spec_l21New_eq (x : Den spec_l21New_ins) : pmFn (tdGet tab) spec_l21New_orc spec_l21New_F.mn spec_l21New_ann Go.Proofs.Try.f63 spec_l21New_ins spec_l21New_outs x = spec_l21New x := by kernel_rfl
theorem spec_l21New_c : CallsD Go.Proofs.Try.prog 63 spec_l21New_F :=
  fn_contract (F := spec_l21New_F) (C := spec_l21New_orc) mix (chkTab_get tab_ok) (orc_cons spec_l01New_c (orc_cons spec_l01Byte_c orc_nil)) spec_l21New_ann (fn := Go.Proofs.Try.f63) (by kernel_rfl) (by kernel_rfl) (by kernel_rfl) (by kernel_rfl) (by kernel_rfl) (fun x y h => (spec_l21New_eq x).trans h)

def spec_MakeNum_ins : List Item := [.t 0 (.ro (.int .u8)), .t 1 (.int .i64)]
def spec_MakeNum_outs : List Item := [.t 500 (.int .i64)]
def spec_MakeNum_ann : List (Nat × List Item) := []
noncomputable def spec_MakeNum : (List Int) × Int × Unit → Option (Int × Unit) := fun (t0, t1, _) =>
  Option.bind (spec_l21New (t0, t1, ())) fun (v1, v2, v3, _) => Option.bind (spec_l01Byte (v1, v2, v3, ())) fun (v4, v5, v6, v7, _) => Option.bind (spec_l01Byte (v5, v6, v7, ())) fun (v8, v9, v10, v11, _) => some ((w64 ((w64 (v4 * 256)) + v8)), ())
noncomputable def spec_MakeNum_F : Fun := ⟨spec_MakeNum_ins, [], spec_MakeNum_outs, spec_MakeNum⟩
noncomputable def spec_MakeNum_orc : Orc := orcGet [(63, spec_l21New_F), (79, spec_l01Byte_F)]
theorem spec_MakeNum_eq (x : Den spec_MakeNum_ins) : pmFn (tdGet tab) spec_MakeNum_orc spec_MakeNum_F.mn spec_MakeNum_ann Go.Proofs.Try.f30 spec_MakeNum_ins spec_MakeNum_outs x = spec_MakeNum x := by kernel_rfl
theorem spec_MakeNum_c : CallsD Go.Proofs.Try.prog 30 spec_MakeNum_F :=
  fn_contract (F := spec_MakeNum_F) (C := spec_MakeNum_orc) mix (chkTab_get tab_ok) (orc_cons spec_l21New_c (orc_cons spec_l01Byte_c orc_nil)) spec_MakeNum_ann (fn := Go.Proofs.Try.f30) (by kernel_rfl) (by kernel_rfl) (by kernel_rfl) (by kernel_rfl) (by kernel_rfl) (fun x y h => (spec_MakeNum_eq x).trans h)

def spec_l10Draw_ins : List Item := [.t 0 (.ptr 900), .agg 1 [.int .i64, .ro .ii], .t 2 (.int .i64), .box 900 115 [.ro (.int .u8), .int .i64, .int .i64]]
def spec_l10Draw_outs : List Item := [.t 500 (.own 3 (.int .i64)), .box 900 115 [.ro (.int .u8), .int .i64, .int .i64]]
def spec_l10Draw_ann : List (Nat × List Item) := [(29, [.t 2 (.int .i64), .t 7 (.own 3 (.int .i64)), .box 900 115 [.ro (.int .u8), .int .i64, .int .i64]]),
  (58, [.t 0 (.ptr 900), .t 2 (.int .i64), .t 4 (.ptr 4), .t 7 (.own 3 (.int .i64)), .t 8 (.int .i64), .box 900 115 [.ro (.int .u8), .int .i64, .int .i64], .box 4 29 [.int .i64, .ro .ii]])]
noncomputable def spec_l10Draw_L58 : Int × (List Int) × Int × (List Int) × Int × Int × Int × (List (Int × Int)) × Unit → Option ((Int × (List Int) × Int × (List Int) × Int × Int × Int × (List (Int × Int)) × Unit) ⊕ (((Int × (List Int) × (List Int) × Int × Int × Unit) ⊕ (List Int) × (List Int) × Int × Int × Unit))) := fun (t2, t7, t8, b900_0, b900_1, b900_2, b4_0, b4_1, _) =>
  cond (decide (t8 < b4_0))
    (Option.bind (spec_l01Below (7, b900_0, b900_1, b900_2, ())) fun (v2, v3, v4, v5, _) => chk ((t7).length + (([v2] : List Int)).length ≤ 17592186044416) (some (.inl (t2, (t7 ++ ([v2] : List Int)), (w64 (t8 + 1)), v3, v4, v5, b4_0, b4_1, ()))))
    (Option.map Sum.inr (some (.inl (t2, t7, b900_0, b900_1, b900_2, ()))))
noncomputable def spec_l10Draw_J29 : Int × (List Int) × (List Int) × Int × Int × Unit → Option ((List Int) × (List Int) × Int × Int × Unit) := fun (t2, t7, b900_0, b900_1, b900_2, _) =>
  cond (decide (t2 ≥ 0))
    (cond (decide (t2 < ((t7).length : Int)))
    (chk (0 ≤ t2 ∧ t2 < ((t7).length : Int)) (some ((t7.set (t2 : Int).toNat 0), b900_0, b900_1, b900_2, ())))
    (some (t7, b900_0, b900_1, b900_2, ())))
    (some (t7, b900_0, b900_1, b900_2, ()))
noncomputable def spec_l10Draw : Int × (List (Int × Int)) × Int × (List Int) × Int × Int × Unit → Option ((List Int) × (List Int) × Int × Int × Unit) := fun (t1_0, t1_1, t2, b900_0, b900_1, b900_2, _) =>
  joinB (T := Int × (List Int) × (List Int) × Int × Int × Unit) (R := (List Int) × (List Int) × Int × Int × Unit) (loopM spec_l10Draw_L58 (t2, ([] : List Int), 0, b900_0, b900_1, b900_2, t1_0, t1_1, ())) spec_l10Draw_J29
noncomputable def spec_l10Draw_F : Fun := ⟨spec_l10Draw_ins, [900], spec_l10Draw_outs, spec_l10Draw⟩
noncomputable def spec_l10Draw_orc : Orc := orcGet [(74, spec_l01Below_F)]
theorem spec_l10Draw_eq (x : Den spec_l10Draw_ins) : pmFn (tdGet tab) spec_l10Draw_orc spec_l10Draw_F.mn spec_l10Draw_ann Go.Proofs.Try.f92 spec_l10Draw_ins spec_l10Draw_outs x = spec_l10Draw x := by kernel_rfl
theorem spec_l10Draw_c : CallsD Go.Proofs.Try.prog 92 spec_l10Draw_F :=
  fn_contract (F := spec_l10Draw_F) (C := spec_l10Draw_orc) mix (chkTab_get tab_ok) (orc_cons spec_l01Below_c orc_nil) spec_l10Draw_ann (fn := Go.Proofs.Try.f92) (by kernel_rfl) (by kernel_rfl) (by kernel_rfl) (by kernel_rfl) (by kernel_rfl) (fun x y h => (spec_l10Draw_eq x).trans h)

def spec_MakePile_ins : List Item := [.t 0 (.ro (.int .u8)), .t 1 (.int .i64), .agg 2 [.int .i64, .ro .ii], .t 3 (.int .i64)]
def spec_MakePile_outs : List Item := [.t 500 (.own 3 (.int .i64))]
def spec_MakePile_ann : List (Nat × List Item) := []
noncomputable def spec_MakePile : (List Int) × Int × Int × (List (Int × Int)) × Int × Unit → Option ((List Int) × Unit) := fun (t0, t1, t2_0, t2_1, t3, _) =>
  Option.bind (spec_l21New (t0, t1, ())) fun (v1, v2, v3, _) => Option.bind (spec_l10Draw (t2_0, t2_1, t3, v1, v2, v3, ())) fun (v4, v5, v6, v7, _) => some (v4, ())
noncomputable def spec_MakePile_F : Fun := ⟨spec_MakePile_ins, [], spec_MakePile_outs, spec_MakePile⟩
noncomputable def spec_MakePile_orc : Orc := orcGet [(63, spec_l21New_F), (92, spec_l10Draw_F)]
theorem spec_MakePile_eq (x : Den spec_MakePile_ins) : pmFn (tdGet tab) spec_MakePile_orc spec_MakePile_F.mn spec_MakePile_ann Go.Proofs.Try.f45 spec_MakePile_ins spec_MakePile_outs x = spec_MakePile x := by kernel_rfl
theorem spec_MakePile_c : CallsD Go.Proofs.Try.prog 45 spec_MakePile_F :=
  fn_contract (F := spec_MakePile_F) (C := spec_MakePile_orc) mix (chkTab_get tab_ok) (orc_cons spec_l21New_c (orc_cons spec_l10Draw_c orc_nil)) spec_MakePile_ann (fn := Go.Proofs.Try.f45) (by kernel_rfl) (by kernel_rfl) (by kernel_rfl) (by kernel_rfl) (by kernel_rfl) (fun x y h => (spec_MakePile_eq x).trans h)

def impl_within_ins : List Item := [.t 0 (.int .i64), .t 1 (.int .i64), .t 2 (.int .i64)]
def impl_within_outs : List Item := [.t 500 (.bool)]
def impl_within_ann : List (Nat × List Item) := []
noncomputable def impl_within : Int × Int × Int × Unit → Option (Bool × Unit) := fun (t0, t1, t2, _) =>
  cond (decide (t0 ≥ t1))
    (some ((decide (t0 ≤ t2)), ()))
    (some (false, ()))
noncomputable def impl_within_F : Fun := ⟨impl_within_ins, [], impl_within_outs, impl_within⟩
noncomputable def impl_within_orc : Orc := orcGet []
theorem impl_within_eq (x : Den impl_within_ins) : pmFn (tdGet tab) impl_within_orc impl_within_F.mn impl_within_ann Go.Proofs.Try.f71 impl_within_ins impl_within_outs x = impl_within x := by kernel_rfl
theorem impl_within_c : CallsD Go.Proofs.Try.prog 71 impl_within_F :=
  fn_contract (F := impl_within_F) (C := impl_within_orc) mix (chkTab_get tab_ok) orc_nil impl_within_ann (fn := Go.Proofs.Try.f71) (by kernel_rfl) (by kernel_rfl) (by kernel_rfl) (by kernel_rfl) (by kernel_rfl) (fun x y h => (impl_within_eq x).trans h)

def impl_EdgesOk_ins : List Item := [.agg 0 [.int .i64, .ro .ii]]
def impl_EdgesOk_outs : List Item := [.t 500 (.bool)]
def impl_EdgesOk_ann : List (Nat × List Item) := [(12, [.t 1 (.ptr 1), .t 14 (.bool), .box 1 29 [.int .i64, .ro .ii]]),
  (58, [.t 1 (.ptr 1), .t 16 (.ro .ii), .t 17 (.int .i64), .t 18 (.int .i64), .box 1 29 [.int .i64, .ro .ii]])]
noncomputable def impl_EdgesOk_L58 : (List (Int × Int)) × Int × Int × Int × (List (Int × Int)) × Unit → Option (((List (Int × Int)) × Int × Int × Int × (List (Int × Int)) × Unit) ⊕ (Bool × Unit)) := fun (t16, t17, t18, b1_0, b1_1, _) =>
  cond (decide (t18 < t17))
    (chk (0 ≤ t18 ∧ t18 < ((t16).length : Int)) (cond (decide ((atD (0, 0) t16 t18).1 < 0))
    (Option.map Sum.inr (some (false, ())))
    (cond (decide ((atD (0, 0) t16 t18).1 ≥ (atD (0, 0) t16 t18).2))
    (Option.map Sum.inr (some (false, ())))
    (cond (decide ((atD (0, 0) t16 t18).2 ≥ b1_0))
    (Option.map Sum.inr (some (false, ())))
    (some (.inl (t16, t17, (w64 (t18 + 1)), b1_0, b1_1, ())))))))
    (Option.map Sum.inr (some (true, ())))
noncomputable def impl_EdgesOk_J12 : Bool × Int × (List (Int × Int)) × Unit → Option (Bool × Unit) := fun (t14, b1_0, b1_1, _) =>
  cond t14
    (some (false, ()))
    (loopM impl_EdgesOk_L58 (b1_1, ((b1_1).length : Int), 0, b1_0, b1_1, ()))
noncomputable def impl_EdgesOk : Int × (List (Int × Int)) × Unit → Option (Bool × Unit) := fun (t0_0, t0_1, _) =>
  joinB (T := Bool × Int × (List (Int × Int)) × Unit) (R := Bool × Unit) (Option.bind (impl_within (t0_0, 1, 6, ())) fun (v2, _) => cond (!v2)
    (some (.inl (true, t0_0, t0_1, ())))
    (some (.inl ((decide (((t0_1).length : Int) > 12)), t0_0, t0_1, ())))) impl_EdgesOk_J12
noncomputable def impl_EdgesOk_F : Fun := ⟨impl_EdgesOk_ins, [], impl_EdgesOk_outs, impl_EdgesOk⟩
noncomputable def impl_EdgesOk_orc : Orc := orcGet [(71, impl_within_F)]
theorem impl_EdgesOk_eq (x : Den impl_EdgesOk_ins) : pmFn (tdGet tab) impl_EdgesOk_orc impl_EdgesOk_F.mn impl_EdgesOk_ann Go.Proofs.Try.f100 impl_EdgesOk_ins impl_EdgesOk_outs x = impl_EdgesOk x := by kernel_rfl
theorem impl_EdgesOk_c : CallsD Go.Proofs.Try.prog 100 impl_EdgesOk_F :=
  fn_contract (F := impl_EdgesOk_F) (C := impl_EdgesOk_orc) mix (chkTab_get tab_ok) (orc_cons impl_within_c orc_nil) impl_EdgesOk_ann (fn := Go.Proofs.Try.f100) (by kernel_rfl) (by kernel_rfl) (by kernel_rfl) (by kernel_rfl) (by kernel_rfl) (fun x y h => (impl_EdgesOk_eq x).trans h)

def cmp_isNaN_int_ins : List Item := [.t 0 (.int .i64)]
def cmp_isNaN_int_outs : List Item := [.t 500 (.bool)]
def cmp_isNaN_int_ann : List (Nat × List Item) := []
noncomputable def cmp_isNaN_int : Int × Unit → Option (Bool × Unit) := fun (t0, _) =>
  some ((t0 != t0), ())
noncomputable def cmp_isNaN_int_F : Fun := ⟨cmp_isNaN_int_ins, [], cmp_isNaN_int_outs, cmp_isNaN_int⟩
noncomputable def cmp_isNaN_int_orc : Orc := orcGet []
theorem cmp_isNaN_int_eq (x : Den cmp_isNaN_int_ins) : pmFn (tdGet tab) cmp_isNaN_int_orc cmp_isNaN_int_F.mn cmp_isNaN_int_ann Go.Proofs.Try.f157 cmp_isNaN_int_ins cmp_isNaN_int_outs x = cmp_isNaN_int x := by kernel_rfl
theorem cmp_isNaN_int_c : CallsD Go.Proofs.Try.prog 157 cmp_isNaN_int_F :=
  fn_contract (F := cmp_isNaN_int_F) (C := cmp_isNaN_int_orc) mix (chkTab_get tab_ok) orc_nil cmp_isNaN_int_ann (fn := Go.Proofs.Try.f157) (by kernel_rfl) (by kernel_rfl) (by kernel_rfl) (by kernel_rfl) (by kernel_rfl) (fun x y h => (cmp_isNaN_int_eq x).trans h)

def cmp_Compare_int_ins : List Item := [.t 0 (.int .i64), .t 1 (.int .i64)]
def cmp_Compare_int_outs : List Item := [.t 500 (.int .i64)]
def cmp_Compare_int_ann : List (Nat × List Item) := []
noncomputable def cmp_Compare_int : Int × Int × Unit → Option (Int × Unit) := fun (t0, t1, _) =>
  Option.bind (cmp_isNaN_int (t0, ())) fun (v1, _) => Option.bind (cmp_isNaN_int (t1, ())) fun (v2, _) => cond v1
    (cond v2
    (some (0, ()))
    (some ((-1), ())))
    (cond v2
    (some (1, ()))
    (cond (decide (t0 < t1))
    (some ((-1), ()))
    (cond (decide (t0 > t1))
    (some (1, ()))
    (some (0, ())))))
noncomputable def cmp_Compare_int_F : Fun := ⟨cmp_Compare_int_ins, [], cmp_Compare_int_outs, cmp_Compare_int⟩
noncomputable def cmp_Compare_int_orc : Orc := orcGet [(157, cmp_isNaN_int_F)]
theorem cmp_Compare_int_eq (x : Den cmp_Compare_int_ins) : pmFn (tdGet tab) cmp_Compare_int_orc cmp_Compare_int_F.mn cmp_Compare_int_ann Go.Proofs.Try.f138 cmp_Compare_int_ins cmp_Compare_int_outs x = cmp_Compare_int x := by kernel_rfl
theorem cmp_Compare_int_c : CallsD Go.Proofs.Try.prog 138 cmp_Compare_int_F :=
  fn_contract (F := cmp_Compare_int_F) (C := cmp_Compare_int_orc) mix (chkTab_get tab_ok) (orc_cons cmp_isNaN_int_c orc_nil) cmp_Compare_int_ann (fn := Go.Proofs.Try.f138) (by kernel_rfl) (by kernel_rfl) (by kernel_rfl) (by kernel_rfl) (by kernel_rfl) (fun x y h => (cmp_Compare_int_eq x).trans h)

def impl_compareEdges_ins : List Item := [.agg 0 [.int .i64, .int .i64], .agg 1 [.int .i64, .int .i64]]
def impl_compareEdges_outs : List Item := [.t 500 (.int .i64)]
def impl_compareEdges_ann : List (Nat × List Item) := []
noncomputable def impl_compareEdges : Int × Int × Int × Int × Unit → Option (Int × Unit) := fun (t0_0, t0_1, t1_0, t1_1, _) =>
  Option.bind (cmp_Compare_int (t0_0, t1_0, ())) fun (v1, _) => cond (v1 != 0)
    (some (v1, ()))
    (Option.bind (cmp_Compare_int (t0_1, t1_1, ())) fun (v2, _) => some (v2, ()))
noncomputable def impl_compareEdges_F : Fun := ⟨impl_compareEdges_ins, [], impl_compareEdges_outs, impl_compareEdges⟩
noncomputable def impl_compareEdges_orc : Orc := orcGet [(138, cmp_Compare_int_F)]
theorem impl_compareEdges_eq (x : Den impl_compareEdges_ins) : pmFn (tdGet tab) impl_compareEdges_orc impl_compareEdges_F.mn impl_compareEdges_ann Go.Proofs.Try.f102 impl_compareEdges_ins impl_compareEdges_outs x = impl_compareEdges x := by kernel_rfl
theorem impl_compareEdges_c : CallsD Go.Proofs.Try.prog 102 impl_compareEdges_F :=
  fn_contract (F := impl_compareEdges_F) (C := impl_compareEdges_orc) mix (chkTab_get tab_ok) (orc_cons cmp_Compare_int_c orc_nil) impl_compareEdges_ann (fn := Go.Proofs.Try.f102) (by kernel_rfl) (by kernel_rfl) (by kernel_rfl) (by kernel_rfl) (by kernel_rfl) (fun x y h => (impl_compareEdges_eq x).trans h)

def slices_IsSortedFunc_impl_Edge_impl_Edge_ins : List Item := [.t 0 (.ro .ii), .t 1 (.fn 102 [])]
def slices_IsSortedFunc_impl_Edge_impl_Edge_outs : List Item := [.t 500 (.bool)]
def slices_IsSortedFunc_impl_Edge_impl_Edge_ann : List (Nat × List Item) := [(26, [.t 0 (.ro .ii), .t 1 (.fn 102 []), .t 5 (.int .i64)])]
noncomputable def slices_IsSortedFunc_impl_Edge_impl_Edge_L26 : (List (Int × Int)) × Int × Unit → Option (((List (Int × Int)) × Int × Unit) ⊕ (Bool × Unit)) := fun (t0, t5, _) =>
  cond (decide (t5 > 0))
    (chk (0 ≤ t5 ∧ t5 < ((t0).length : Int)) (chk (0 ≤ (w64 (t5 - 1)) ∧ (w64 (t5 - 1)) < ((t0).length : Int)) (Option.bind (impl_compareEdges ((atD (0, 0) t0 t5).1, (atD (0, 0) t0 t5).2, (atD (0, 0) t0 (w64 (t5 - 1))).1, (atD (0, 0) t0 (w64 (t5 - 1))).2, ())) fun (v1, _) => cond (decide (v1 < 0))
    (Option.map Sum.inr (some (false, ())))
    (some (.inl (t0, (w64 (t5 - 1)), ()))))))
    (Option.map Sum.inr (some (true, ())))
noncomputable def slices_IsSortedFunc_impl_Edge_impl_Edge : (List (Int × Int)) × Unit → Option (Bool × Unit) := fun (t0, _) =>
  loopM slices_IsSortedFunc_impl_Edge_impl_Edge_L26 (t0, (w64 (((t0).length : Int) - 1)), ())
noncomputable def slices_IsSortedFunc_impl_Edge_impl_Edge_F : Fun := ⟨slices_IsSortedFunc_impl_Edge_impl_Edge_ins, [], slices_IsSortedFunc_impl_Edge_impl_Edge_outs, slices_IsSortedFunc_impl_Edge_impl_Edge⟩
noncomputable def slices_IsSortedFunc_impl_Edge_impl_Edge_orc : Orc := orcGet [(102, impl_compareEdges_F)]
theorem slices_IsSortedFunc_impl_Edge_impl_Edge_eq (x : Den slices_IsSortedFunc_impl_Edge_impl_Edge_ins) : pmFn (tdGet tab) slices_IsSortedFunc_impl_Edge_impl_Edge_orc slices_IsSortedFunc_impl_Edge_impl_Edge_F.mn slices_IsSortedFunc_impl_Edge_impl_Edge_ann Go.Proofs.Try.f101 slices_IsSortedFunc_impl_Edge_impl_Edge_ins slices_IsSortedFunc_impl_Edge_impl_Edge_outs x = slices_IsSortedFunc_impl_Edge_impl_Edge x := by kernel_rfl
theorem slices_IsSortedFunc_impl_Edge_impl_Edge_c : CallsD Go.Proofs.Try.prog 101 slices_IsSortedFunc_impl_Edge_impl_Edge_F :=
  fn_contract (F := slices_IsSortedFunc_impl_Edge_impl_Edge_F) (C := slices_IsSortedFunc_impl_Edge_impl_Edge_orc) mix (chkTab_get tab_ok) (orc_cons impl_compareEdges_c orc_nil) slices_IsSortedFunc_impl_Edge_impl_Edge_ann (fn := Go.Proofs.Try.f101) (by kernel_rfl) (by kernel_rfl) (by kernel_rfl) (by kernel_rfl) (by kernel_rfl) (fun x y h => (slices_IsSortedFunc_impl_Edge_impl_Edge_eq x).trans h)

def impl_connected_ins : List Item := [.t 0 (.int .i64), .t 1 (.ro .ii)]
def impl_connected_outs : List Item := [.t 500 (.bool)]
def impl_connected_ann : List (Nat × List Item) := [(58, [.t 0 (.int .i64), .t 1 (.ro .ii), .t 5 (.int .i64), .t 8 (.int .i64), .t 9 (.int .i64)]),
  (7474, [.t 0 (.int .i64), .t 1 (.ro .ii), .t 5 (.int .i64), .t 8 (.int .i64), .t 9 (.int .i64), .t 11 (.ro .ii), .t 12 (.int .i64), .t 13 (.int .i64)])]
noncomputable def impl_connected_L7474 : Int × (List (Int × Int)) × Int × Int × Int × (List (Int × Int)) × Int × Int × Unit → Option ((Int × (List (Int × Int)) × Int × Int × Int × (List (Int × Int)) × Int × Int × Unit) ⊕ (((Int × (List (Int × Int)) × Int × Int × Int × Unit) ⊕ Bool × Unit))) := fun (t0, t1, t5, t8, t9, t11, t12, t13, _) =>
  cond (decide (t13 < t12))
    (chk (0 ≤ t13 ∧ t13 < ((t11).length : Int)) (chk (0 ≤ (atD (0, 0) t11 t13).1) (cond ((iand .i64 (ishr .i64 t5 ((atD (0, 0) t11 t13).1)) 1) == 1)
    (chk (0 ≤ (atD (0, 0) t11 t13).1) (chk (0 ≤ (atD (0, 0) t11 t13).2) (some (.inl (t0, t1, (ior .i64 t5 (ior .i64 (ishl .i64 1 ((atD (0, 0) t11 t13).1)) (ishl .i64 1 ((atD (0, 0) t11 t13).2)))), t8, t9, t11, t12, (w64 (t13 + 1)), ())))))
    (chk (0 ≤ (atD (0, 0) t11 t13).2) (cond ((iand .i64 (ishr .i64 t5 ((atD (0, 0) t11 t13).2)) 1) == 1)
    (chk (0 ≤ (atD (0, 0) t11 t13).1) (chk (0 ≤ (atD (0, 0) t11 t13).2) (some (.inl (t0, t1, (ior .i64 t5 (ior .i64 (ishl .i64 1 ((atD (0, 0) t11 t13).1)) (ishl .i64 1 ((atD (0, 0) t11 t13).2)))), t8, t9, t11, t12, (w64 (t13 + 1)), ())))))
    (some (.inl (t0, t1, t5, t8, t9, t11, t12, (w64 (t13 + 1)), ()))))))))
    (Option.map Sum.inr (some (.inl (t0, t1, t5, t8, (w64 (t9 + 1)), ()))))
noncomputable def impl_connected_L58 : Int × (List (Int × Int)) × Int × Int × Int × Unit → Option ((Int × (List (Int × Int)) × Int × Int × Int × Unit) ⊕ (Bool × Unit)) := fun (t0, t1, t5, t8, t9, _) =>
  cond (decide (t9 < t8))
    (loopM impl_connected_L7474 (t0, t1, t5, t8, t9, t1, ((t1).length : Int), 0, ()))
    (Option.map Sum.inr (chk (0 ≤ t0) (some ((t5 == (w64 ((ishl .i64 1 t0) - 1))), ()))))
noncomputable def impl_connected : Int × (List (Int × Int)) × Unit → Option (Bool × Unit) := fun (t0, t1, _) =>
  loopM impl_connected_L58 (t0, t1, 1, t0, 0, ())
noncomputable def impl_connected_F : Fun := ⟨impl_connected_ins, [], impl_connected_outs, impl_connected⟩
noncomputable def impl_connected_orc : Orc := orcGet []
theorem impl_connected_eq (x : Den impl_connected_ins) : pmFn (tdGet tab) impl_connected_orc impl_connected_F.mn impl_connected_ann Go.Proofs.Try.f95 impl_connected_ins impl_connected_outs x = impl_connected x := by kernel_rfl
theorem impl_connected_c : CallsD Go.Proofs.Try.prog 95 impl_connected_F :=
  fn_contract (F := impl_connected_F) (C := impl_connected_orc) mix (chkTab_get tab_ok) orc_nil impl_connected_ann (fn := Go.Proofs.Try.f95) (by kernel_rfl) (by kernel_rfl) (by kernel_rfl) (by kernel_rfl) (by kernel_rfl) (fun x y h => (impl_connected_eq x).trans h)

def impl_GraphOk_ins : List Item := [.agg 0 [.int .i64, .ro .ii]]
def impl_GraphOk_outs : List Item := [.t 500 (.bool)]
def impl_GraphOk_ann : List (Nat × List Item) := []
noncomputable def impl_GraphOk : Int × (List (Int × Int)) × Unit → Option (Bool × Unit) := fun (t0_0, t0_1, _) =>
  Option.bind (impl_EdgesOk (t0_0, t0_1, ())) fun (v1, _) => cond v1
    (Option.bind (slices_IsSortedFunc_impl_Edge_impl_Edge (t0_1, ())) fun (v2, _) => cond v2
    (Option.bind (impl_connected (t0_0, t0_1, ())) fun (v3, _) => some (v3, ()))
    (some (false, ())))
    (some (false, ()))
noncomputable def impl_GraphOk_F : Fun := ⟨impl_GraphOk_ins, [], impl_GraphOk_outs, impl_GraphOk⟩
noncomputable def impl_GraphOk_orc : Orc := orcGet [(95, impl_connected_F), (100, impl_EdgesOk_F), (101, slices_IsSortedFunc_impl_Edge_impl_Edge_F)]
theorem impl_GraphOk_eq (x : Den impl_GraphOk_ins) : pmFn (tdGet tab) impl_GraphOk_orc impl_GraphOk_F.mn impl_GraphOk_ann Go.Proofs.Try.f54 impl_GraphOk_ins impl_GraphOk_outs x = impl_GraphOk x := by kernel_rfl
theorem impl_GraphOk_c : CallsD Go.Proofs.Try.prog 54 impl_GraphOk_F :=
  fn_contract (F := impl_GraphOk_F) (C := impl_GraphOk_orc) mix (chkTab_get tab_ok) (orc_cons impl_connected_c (orc_cons impl_EdgesOk_c (orc_cons slices_IsSortedFunc_impl_Edge_impl_Edge_c orc_nil))) impl_GraphOk_ann (fn := Go.Proofs.Try.f54) (by kernel_rfl) (by kernel_rfl) (by kernel_rfl) (by kernel_rfl) (by kernel_rfl) (fun x y h => (impl_GraphOk_eq x).trans h)

def impl_allWithin_ins : List Item := [.t 0 (.ro (.int .i64)), .t 1 (.int .i64), .t 2 (.int .i64)]
def impl_allWithin_outs : List Item := [.t 500 (.bool)]
def impl_allWithin_ann : List (Nat × List Item) := [(26, [.t 1 (.int .i64), .t 2 (.int .i64), .t 9 (.ro (.int .i64)), .t 10 (.int .i64), .t 11 (.int .i64)])]
noncomputable def impl_allWithin_L26 : Int × Int × (List Int) × Int × Int × Unit → Option ((Int × Int × (List Int) × Int × Int × Unit) ⊕ (Bool × Unit)) := fun (t1, t2, t9, t10, t11, _) =>
  cond (decide (t11 < t10))
    (chk (0 ≤ t11 ∧ t11 < ((t9).length : Int)) (Option.bind (impl_within (atD 0 t9 t11, t1, t2, ())) fun (v1, _) => cond (!v1)
    (Option.map Sum.inr (some (false, ())))
    (some (.inl (t1, t2, t9, t10, (w64 (t11 + 1)), ())))))
    (Option.map Sum.inr (some (true, ())))
noncomputable def impl_allWithin : (List Int) × Int × Int × Unit → Option (Bool × Unit) := fun (t0, t1, t2, _) =>
  loopM impl_allWithin_L26 (t1, t2, t0, ((t0).length : Int), 0, ())
noncomputable def impl_allWithin_F : Fun := ⟨impl_allWithin_ins, [], impl_allWithin_outs, impl_allWithin⟩
noncomputable def impl_allWithin_orc : Orc := orcGet [(71, impl_within_F)]
theorem impl_allWithin_eq (x : Den impl_allWithin_ins) : pmFn (tdGet tab) impl_allWithin_orc impl_allWithin_F.mn impl_allWithin_ann Go.Proofs.Try.f70 impl_allWithin_ins impl_allWithin_outs x = impl_allWithin x := by kernel_rfl
theorem impl_allWithin_c : CallsD Go.Proofs.Try.prog 70 impl_allWithin_F :=
  fn_contract (F := impl_allWithin_F) (C := impl_allWithin_orc) mix (chkTab_get tab_ok) (orc_cons impl_within_c orc_nil) impl_allWithin_ann (fn := Go.Proofs.Try.f70) (by kernel_rfl) (by kernel_rfl) (by kernel_rfl) (by kernel_rfl) (by kernel_rfl) (fun x y h => (impl_allWithin_eq x).trans h)

def impl_DivisorOk_ins : List Item := [.agg 0 [.int .i64, .ro .ii], .t 1 (.ro (.int .i64))]
def impl_DivisorOk_outs : List Item := [.t 500 (.bool)]
def impl_DivisorOk_ann : List (Nat × List Item) := []
noncomputable def impl_DivisorOk : Int × (List (Int × Int)) × (List Int) × Unit → Option (Bool × Unit) := fun (t0_0, t0_1, t1, _) =>
  Option.bind (impl_GraphOk (t0_0, t0_1, ())) fun (v1, _) => cond v1
    (cond (((t1).length : Int) == t0_0)
    (Option.bind (impl_allWithin (t1, (-60), 60, ())) fun (v2, _) => some (v2, ()))
    (some (false, ())))
    (some (false, ()))
noncomputable def impl_DivisorOk_F : Fun := ⟨impl_DivisorOk_ins, [], impl_DivisorOk_outs, impl_DivisorOk⟩
noncomputable def impl_DivisorOk_orc : Orc := orcGet [(54, impl_GraphOk_F), (70, impl_allWithin_F)]
theorem impl_DivisorOk_eq (x : Den impl_DivisorOk_ins) : pmFn (tdGet tab) impl_DivisorOk_orc impl_DivisorOk_F.mn impl_DivisorOk_ann Go.Proofs.Try.f64 impl_DivisorOk_ins impl_DivisorOk_outs x = impl_DivisorOk x := by kernel_rfl
theorem impl_DivisorOk_c : CallsD Go.Proofs.Try.prog 64 impl_DivisorOk_F :=
  fn_contract (F := impl_DivisorOk_F) (C := impl_DivisorOk_orc) mix (chkTab_get tab_ok) (orc_cons impl_GraphOk_c (orc_cons impl_allWithin_c orc_nil)) impl_DivisorOk_ann (fn := Go.Proofs.Try.f64) (by kernel_rfl) (by kernel_rfl) (by kernel_rfl) (by kernel_rfl) (by kernel_rfl) (fun x y h => (impl_DivisorOk_eq x).trans h)

def impl_IsEffective_ins : List Item := [.t 0 (.ro (.int .i64))]
def impl_IsEffective_outs : List Item := [.t 500 (.bool)]
def impl_IsEffective_ann : List (Nat × List Item) := [(26, [.t 5 (.ro (.int .i64)), .t 6 (.int .i64), .t 7 (.int .i64)])]
noncomputable def impl_IsEffective_L26 : (List Int) × Int × Int × Unit → Option (((List Int) × Int × Int × Unit) ⊕ (Bool × Unit)) := fun (t5, t6, t7, _) =>
  cond (decide (t7 < t6))
    (chk (0 ≤ t7 ∧ t7 < ((t5).length : Int)) (cond (decide (atD 0 t5 t7 < 0))
    (Option.map Sum.inr (some (false, ())))
    (some (.inl (t5, t6, (w64 (t7 + 1)), ())))))
    (Option.map Sum.inr (some (true, ())))
noncomputable def impl_IsEffective : (List Int) × Unit → Option (Bool × Unit) := fun (t0, _) =>
  loopM impl_IsEffective_L26 (t0, ((t0).length : Int), 0, ())
noncomputable def impl_IsEffective_F : Fun := ⟨impl_IsEffective_ins, [], impl_IsEffective_outs, impl_IsEffective⟩
noncomputable def impl_IsEffective_orc : Orc := orcGet []
theorem impl_IsEffective_eq (x : Den impl_IsEffective_ins) : pmFn (tdGet tab) impl_IsEffective_orc impl_IsEffective_F.mn impl_IsEffective_ann Go.Proofs.Try.f130 impl_IsEffective_ins impl_IsEffective_outs x = impl_IsEffective x := by kernel_rfl
theorem impl_IsEffective_c : CallsD Go.Proofs.Try.prog 130 impl_IsEffective_F :=
  fn_contract (F := impl_IsEffective_F) (C := impl_IsEffective_orc) mix (chkTab_get tab_ok) orc_nil impl_IsEffective_ann (fn := Go.Proofs.Try.f130) (by kernel_rfl) (by kernel_rfl) (by kernel_rfl) (by kernel_rfl) (by kernel_rfl) (fun x y h => (impl_IsEffective_eq x).trans h)

def impl_PileOk_ins : List Item := [.agg 0 [.int .i64, .ro .ii], .t 1 (.ro (.int .i64)), .t 2 (.int .i64)]
def impl_PileOk_outs : List Item := [.t 500 (.bool)]
def impl_PileOk_ann : List (Nat × List Item) := []
noncomputable def impl_PileOk : Int × (List (Int × Int)) × (List Int) × Int × Unit → Option (Bool × Unit) := fun (t0_0, t0_1, t1, t2, _) =>
  Option.bind (impl_DivisorOk (t0_0, t0_1, t1, ())) fun (v1, _) => cond v1
    (Option.bind (impl_within (t2, 0, (w64 (t0_0 - 1)), ())) fun (v2, _) => cond v2
    (Option.bind (impl_IsEffective (t1, ())) fun (v3, _) => cond v3
    (chk (0 ≤ t2 ∧ t2 < ((t1).length : Int)) (some ((atD 0 t1 t2 == 0), ())))
    (some (false, ())))
    (some (false, ())))
    (some (false, ()))
noncomputable def impl_PileOk_F : Fun := ⟨impl_PileOk_ins, [], impl_PileOk_outs, impl_PileOk⟩
noncomputable def impl_PileOk_orc : Orc := orcGet [(64, impl_DivisorOk_F), (71, impl_within_F), (130, impl_IsEffective_F)]
theorem impl_PileOk_eq (x : Den impl_PileOk_ins) : pmFn (tdGet tab) impl_PileOk_orc impl_PileOk_F.mn impl_PileOk_ann Go.Proofs.Try.f90 impl_PileOk_ins impl_PileOk_outs x = impl_PileOk x := by kernel_rfl
theorem impl_PileOk_c : CallsD Go.Proofs.Try.prog 90 impl_PileOk_F :=
  fn_contract (F := impl_PileOk_F) (C := impl_PileOk_orc) mix (chkTab_get tab_ok) (orc_cons impl_DivisorOk_c (orc_cons impl_within_c (orc_cons impl_IsEffective_c orc_nil))) impl_PileOk_ann (fn := Go.Proofs.Try.f90) (by kernel_rfl) (by kernel_rfl) (by kernel_rfl) (by kernel_rfl) (by kernel_rfl) (fun x y h => (impl_PileOk_eq x).trans h)

def impl_isVertex_ins : List Item := [.agg 0 [.int .i64, .ro .ii], .t 1 (.int .i64)]
def impl_isVertex_outs : List Item := [.t 500 (.bool)]
def impl_isVertex_ann : List (Nat × List Item) := []
noncomputable def impl_isVertex : Int × (List (Int × Int)) × Int × Unit → Option (Bool × Unit) := fun (t0_0, t0_1, t1, _) =>
  Option.bind (impl_GraphOk (t0_0, t0_1, ())) fun (v1, _) => cond v1
    (Option.bind (impl_within (t1, 0, (w64 (t0_0 - 1)), ())) fun (v2, _) => some (v2, ()))
    (some (false, ()))
noncomputable def impl_isVertex_F : Fun := ⟨impl_isVertex_ins, [], impl_isVertex_outs, impl_isVertex⟩
noncomputable def impl_isVertex_orc : Orc := orcGet [(54, impl_GraphOk_F), (71, impl_within_F)]
theorem impl_isVertex_eq (x : Den impl_isVertex_ins) : pmFn (tdGet tab) impl_isVertex_orc impl_isVertex_F.mn impl_isVertex_ann Go.Proofs.Try.f83 impl_isVertex_ins impl_isVertex_outs x = impl_isVertex x := by kernel_rfl
theorem impl_isVertex_c : CallsD Go.Proofs.Try.prog 83 impl_isVertex_F :=
  fn_contract (F := impl_isVertex_F) (C := impl_isVertex_orc) mix (chkTab_get tab_ok) (orc_cons impl_GraphOk_c (orc_cons impl_within_c orc_nil)) impl_isVertex_ann (fn := Go.Proofs.Try.f83) (by kernel_rfl) (by kernel_rfl) (by kernel_rfl) (by kernel_rfl) (by kernel_rfl) (fun x y h => (impl_isVertex_eq x).trans h)

def impl_Valence_ins : List Item := [.agg 0 [.int .i64, .ro .ii], .t 1 (.int .i64)]
def impl_Valence_outs : List Item := [.t 500 (.int .i64)]
def impl_Valence_ann : List (Nat × List Item) := [(12, [.t 1 (.int .i64), .t 2 (.ptr 2), .t 15 (.bool), .box 2 29 [.int .i64, .ro .ii]]),
  (122, [.t 1 (.int .i64), .t 5 (.int .i64), .t 17 (.ro .ii), .t 18 (.int .i64), .t 19 (.int .i64)])]
noncomputable def impl_Valence_L122 : Int × Int × (List (Int × Int)) × Int × Int × Unit → Option ((Int × Int × (List (Int × Int)) × Int × Int × Unit) ⊕ (Int × Unit)) := fun (t1, t5, t17, t18, t19, _) =>
  cond (decide (t19 < t18))
    (chk (0 ≤ t19 ∧ t19 < ((t17).length : Int)) (cond ((atD (0, 0) t17 t19).1 == t1)
    (some (.inl (t1, (w64 (t5 + 1)), t17, t18, (w64 (t19 + 1)), ())))
    (cond ((atD (0, 0) t17 t19).2 == t1)
    (some (.inl (t1, (w64 (t5 + 1)), t17, t18, (w64 (t19 + 1)), ())))
    (some (.inl (t1, t5, t17, t18, (w64 (t19 + 1)), ()))))))
    (Option.map Sum.inr (some (t5, ())))
noncomputable def impl_Valence_J12 : Int × Bool × Int × (List (Int × Int)) × Unit → Option (Int × Unit) := fun (t1, t15, b2_0, b2_1, _) =>
  cond t15
    (some (0, ()))
    (loopM impl_Valence_L122 (t1, 0, b2_1, ((b2_1).length : Int), 0, ()))
noncomputable def impl_Valence : Int × (List (Int × Int)) × Int × Unit → Option (Int × Unit) := fun (t0_0, t0_1, t1, _) =>
  joinB (T := Int × Bool × Int × (List (Int × Int)) × Unit) (R := Int × Unit) (cond (decide (t1 < 0))
    (some (.inl (t1, true, t0_0, t0_1, ())))
    (some (.inl (t1, (decide (t1 ≥ t0_0)), t0_0, t0_1, ())))) impl_Valence_J12
noncomputable def impl_Valence_F : Fun := ⟨impl_Valence_ins, [], impl_Valence_outs, impl_Valence⟩
noncomputable def impl_Valence_orc : Orc := orcGet []
theorem impl_Valence_eq (x : Den impl_Valence_ins) : pmFn (tdGet tab) impl_Valence_orc impl_Valence_F.mn impl_Valence_ann Go.Proofs.Try.f136 impl_Valence_ins impl_Valence_outs x = impl_Valence x := by kernel_rfl
theorem impl_Valence_c : CallsD Go.Proofs.Try.prog 136 impl_Valence_F :=
  fn_contract (F := impl_Valence_F) (C := impl_Valence_orc) mix (chkTab_get tab_ok) orc_nil impl_Valence_ann (fn := Go.Proofs.Try.f136) (by kernel_rfl) (by kernel_rfl) (by kernel_rfl) (by kernel_rfl) (by kernel_rfl) (fun x y h => (impl_Valence_eq x).trans h)

def impl_FullPile_ins : List Item := [.agg 0 [.int .i64, .ro .ii], .t 1 (.int .i64)]
def impl_FullPile_outs : List Item := [.t 500 (.own 3 (.int .i64))]
def impl_FullPile_ann : List (Nat × List Item) := [(122, [.t 1 (.int .i64), .t 2 (.ptr 2), .t 5 (.own 3 (.int .i64)), .t 15 (.int .i64), .t 16 (.int .i64), .box 2 29 [.int .i64, .ro .ii]])]
noncomputable def impl_FullPile_L122 : Int × (List Int) × Int × Int × Int × (List (Int × Int)) × Unit → Option ((Int × (List Int) × Int × Int × Int × (List (Int × Int)) × Unit) ⊕ ((List Int) × Unit)) := fun (t1, t5, t15, t16, b2_0, b2_1, _) =>
  cond (decide (t16 < t15))
    (cond (t16 != t1)
    (Option.bind (impl_Valence (b2_0, b2_1, t16, ())) fun (v2, _) => chk (0 ≤ t16 ∧ t16 < ((t5).length : Int)) (some (.inl (t1, (t5.set (t16 : Int).toNat (w64 (v2 - 1))), t15, (w64 (t16 + 1)), b2_0, b2_1, ()))))
    (some (.inl (t1, t5, t15, (w64 (t16 + 1)), b2_0, b2_1, ()))))
    (Option.map Sum.inr (some (t5, ())))
noncomputable def impl_FullPile : Int × (List (Int × Int)) × Int × Unit → Option ((List Int) × Unit) := fun (t0_0, t0_1, t1, _) =>
  Option.bind (impl_isVertex (t0_0, t0_1, t1, ())) fun (v1, _) => cond (!v1)
    (some (([] : List Int), ()))
    (chk (t0_0 = t0_0 ∧ 0 ≤ t0_0 ∧ t0_0 ≤ 17592186044416) (loopM impl_FullPile_L122 (t1, (List.replicate (t0_0).toNat (0 : Int)), (((List.replicate (t0_0).toNat (0 : Int))).length : Int), 0, t0_0, t0_1, ())))
noncomputable def impl_FullPile_F : Fun := ⟨impl_FullPile_ins, [], impl_FullPile_outs, impl_FullPile⟩
noncomputable def impl_FullPile_orc : Orc := orcGet [(83, impl_isVertex_F), (136, impl_Valence_F)]
theorem impl_FullPile_eq (x : Den impl_FullPile_ins) : pmFn (tdGet tab) impl_FullPile_orc impl_FullPile_F.mn impl_FullPile_ann Go.Proofs.Try.f131 impl_FullPile_ins impl_FullPile_outs x = impl_FullPile x := by kernel_rfl
theorem impl_FullPile_c : CallsD Go.Proofs.Try.prog 131 impl_FullPile_F :=
  fn_contract (F := impl_FullPile_F) (C := impl_FullPile_orc) mix (chkTab_get tab_ok) (orc_cons impl_isVertex_c (orc_cons impl_Valence_c orc_nil)) impl_FullPile_ann (fn := Go.Proofs.Try.f131) (by kernel_rfl) (by kernel_rfl) (by kernel_rfl) (by kernel_rfl) (by kernel_rfl) (fun x y h => (impl_FullPile_eq x).trans h)

def impl_copyInts_ins : List Item := [.t 0 (.ro (.int .i64))]
def impl_copyInts_outs : List Item := [.t 500 (.own 3 (.int .i64))]
def impl_copyInts_ann : List (Nat × List Item) := []
noncomputable def impl_copyInts : (List Int) × Unit → Option ((List Int) × Unit) := fun (t0, _) =>
  chk ((t0).length ≤ 17592186044416) (some (t0, ()))
noncomputable def impl_copyInts_F : Fun := ⟨impl_copyInts_ins, [], impl_copyInts_outs, impl_copyInts⟩
noncomputable def impl_copyInts_orc : Orc := orcGet []
theorem impl_copyInts_eq (x : Den impl_copyInts_ins) : pmFn (tdGet tab) impl_copyInts_orc impl_copyInts_F.mn impl_copyInts_ann Go.Proofs.Try.f85 impl_copyInts_ins impl_copyInts_outs x = impl_copyInts x := by kernel_rfl
theorem impl_copyInts_c : CallsD Go.Proofs.Try.prog 85 impl_copyInts_F :=
  fn_contract (F := impl_copyInts_F) (C := impl_copyInts_orc) mix (chkTab_get tab_ok) orc_nil impl_copyInts_ann (fn := Go.Proofs.Try.f85) (by kernel_rfl) (by kernel_rfl) (by kernel_rfl) (by kernel_rfl) (by kernel_rfl) (fun x y h => (impl_copyInts_eq x).trans h)

def impl_NegateDivisor_ins : List Item := [.t 0 (.ro (.int .i64))]
def impl_NegateDivisor_outs : List Item := [.t 500 (.own 3 (.int .i64))]
def impl_NegateDivisor_ann : List (Nat × List Item) := [(58, [.t 3 (.own 3 (.int .i64)), .t 8 (.int .i64), .t 9 (.int .i64)])]
noncomputable def impl_NegateDivisor_L58 : (List Int) × Int × Int × Unit → Option (((List Int) × Int × Int × Unit) ⊕ ((List Int) × Unit)) := fun (t3, t8, t9, _) =>
  cond (decide (t9 < t8))
    (chk (0 ≤ t9 ∧ t9 < ((t3).length : Int)) (chk (0 ≤ t9 ∧ t9 < ((t3).length : Int)) (some (.inl ((t3.set (t9 : Int).toNat (w64 (0 - atD 0 t3 t9))), t8, (w64 (t9 + 1)), ())))))
    (Option.map Sum.inr (some (t3, ())))
noncomputable def impl_NegateDivisor : (List Int) × Unit → Option ((List Int) × Unit) := fun (t0, _) =>
  Option.bind (impl_copyInts (t0, ())) fun (v1, _) => loopM impl_NegateDivisor_L58 (v1, ((v1).length : Int), 0, ())
noncomputable def impl_NegateDivisor_F : Fun := ⟨impl_NegateDivisor_ins, [], impl_NegateDivisor_outs, impl_NegateDivisor⟩
noncomputable def impl_NegateDivisor_orc : Orc := orcGet [(85, impl_copyInts_F)]
theorem impl_NegateDivisor_eq (x : Den impl_NegateDivisor_ins) : pmFn (tdGet tab) impl_NegateDivisor_orc impl_NegateDivisor_F.mn impl_NegateDivisor_ann Go.Proofs.Try.f134 impl_NegateDivisor_ins impl_NegateDivisor_outs x = impl_NegateDivisor x := by kernel_rfl
theorem impl_NegateDivisor_c : CallsD Go.Proofs.Try.prog 134 impl_NegateDivisor_F :=
  fn_contract (F := impl_NegateDivisor_F) (C := impl_NegateDivisor_orc) mix (chkTab_get tab_ok) (orc_cons impl_copyInts_c orc_nil) impl_NegateDivisor_ann (fn := Go.Proofs.Try.f134) (by kernel_rfl) (by kernel_rfl) (by kernel_rfl) (by kernel_rfl) (by kernel_rfl) (fun x y h => (impl_NegateDivisor_eq x).trans h)

def impl_plus_ins : List Item := [.t 0 (.ro (.int .i64)), .t 1 (.ro (.int .i64))]
def impl_plus_outs : List Item := [.t 500 (.own 3 (.int .i64))]
def impl_plus_ann : List (Nat × List Item) := [(58, [.t 1 (.ro (.int .i64)), .t 5 (.own 3 (.int .i64)), .t 10 (.int .i64), .t 11 (.int .i64)])]
noncomputable def impl_plus_L58 : (List Int) × (List Int) × Int × Int × Unit → Option (((List Int) × (List Int) × Int × Int × Unit) ⊕ ((List Int) × Unit)) := fun (t1, t5, t10, t11, _) =>
  cond (decide (t11 < t10))
    (chk (0 ≤ t11 ∧ t11 < ((t5).length : Int)) (chk (0 ≤ t11 ∧ t11 < ((t1).length : Int)) (chk (0 ≤ t11 ∧ t11 < ((t5).length : Int)) (some (.inl (t1, (t5.set (t11 : Int).toNat (w64 (atD 0 t5 t11 + atD 0 t1 t11))), t10, (w64 (t11 + 1)), ()))))))
    (Option.map Sum.inr (some (t5, ())))
noncomputable def impl_plus : (List Int) × (List Int) × Unit → Option ((List Int) × Unit) := fun (t0, t1, _) =>
  Option.bind (impl_copyInts (t0, ())) fun (v1, _) => loopM impl_plus_L58 (t1, v1, ((v1).length : Int), 0, ())
noncomputable def impl_plus_F : Fun := ⟨impl_plus_ins, [], impl_plus_outs, impl_plus⟩
noncomputable def impl_plus_orc : Orc := orcGet [(85, impl_copyInts_F)]
theorem impl_plus_eq (x : Den impl_plus_ins) : pmFn (tdGet tab) impl_plus_orc impl_plus_F.mn impl_plus_ann Go.Proofs.Try.f133 impl_plus_ins impl_plus_outs x = impl_plus x := by kernel_rfl
theorem impl_plus_c : CallsD Go.Proofs.Try.prog 133 impl_plus_F :=
  fn_contract (F := impl_plus_F) (C := impl_plus_orc) mix (chkTab_get tab_ok) (orc_cons impl_copyInts_c orc_nil) impl_plus_ann (fn := Go.Proofs.Try.f133) (by kernel_rfl) (by kernel_rfl) (by kernel_rfl) (by kernel_rfl) (by kernel_rfl) (fun x y h => (impl_plus_eq x).trans h)

def impl_inDebt_ins : List Item := [.t 0 (.ro (.int .i64)), .t 1 (.int .i64)]
def impl_inDebt_outs : List Item := [.t 500 (.int .i64)]
def impl_inDebt_ann : List (Nat × List Item) := [(26, [.t 1 (.int .i64), .t 7 (.ro (.int .i64)), .t 8 (.int .i64), .t 9 (.int .i64)])]
noncomputable def impl_inDebt_L26 : Int × (List Int) × Int × Int × Unit → Option ((Int × (List Int) × Int × Int × Unit) ⊕ (Int × Unit)) := fun (t1, t7, t8, t9, _) =>
  cond (decide (t9 < t8))
    (chk (0 ≤ t9 ∧ t9 < ((t7).length : Int)) (cond (t9 != t1)
    (cond (decide (atD 0 t7 t9 < 0))
    (Option.map Sum.inr (some (t9, ())))
    (some (.inl (t1, t7, t8, (w64 (t9 + 1)), ()))))
    (some (.inl (t1, t7, t8, (w64 (t9 + 1)), ())))))
    (Option.map Sum.inr (some ((-1), ())))
noncomputable def impl_inDebt : (List Int) × Int × Unit → Option (Int × Unit) := fun (t0, t1, _) =>
  loopM impl_inDebt_L26 (t1, t0, ((t0).length : Int), 0, ())
noncomputable def impl_inDebt_F : Fun := ⟨impl_inDebt_ins, [], impl_inDebt_outs, impl_inDebt⟩
noncomputable def impl_inDebt_orc : Orc := orcGet []
theorem impl_inDebt_eq (x : Den impl_inDebt_ins) : pmFn (tdGet tab) impl_inDebt_orc impl_inDebt_F.mn impl_inDebt_ann Go.Proofs.Try.f155 impl_inDebt_ins impl_inDebt_outs x = impl_inDebt x := by kernel_rfl
theorem impl_inDebt_c : CallsD Go.Proofs.Try.prog 155 impl_inDebt_F :=
  fn_contract (F := impl_inDebt_F) (C := impl_inDebt_orc) mix (chkTab_get tab_ok) orc_nil impl_inDebt_ann (fn := Go.Proofs.Try.f155) (by kernel_rfl) (by kernel_rfl) (by kernel_rfl) (by kernel_rfl) (by kernel_rfl) (fun x y h => (impl_inDebt_eq x).trans h)

def impl_fire_ins : List Item := [.agg 0 [.int .i64, .ro .ii], .t 1 (.own 3 (.int .i64)), .t 2 (.int .i64), .t 3 (.int .i64)]
def impl_fire_outs : List Item := [.row 1 3 (.int .i64)]
def impl_fire_ann : List (Nat × List Item) := [(14, [.t 1 (.al 1), .t 2 (.int .i64), .t 3 (.int .i64), .t 11 (.ro .ii), .t 12 (.int .i64), .t 13 (.int .i64), .row 1 3 (.int .i64)])]
noncomputable def impl_fire_L14 : Int × Int × (List (Int × Int)) × Int × Int × (List Int) × Unit → Option ((Int × Int × (List (Int × Int)) × Int × Int × (List Int) × Unit) ⊕ ((List Int) × Unit)) := fun (t2, t3, t11, t12, t13, r1, _) =>
  cond (decide (t13 < t12))
    (chk (0 ≤ t13 ∧ t13 < ((t11).length : Int)) (cond (t2 == (atD (0, 0) t11 t13).1)
    (chk (0 ≤ t2 ∧ t2 < ((r1).length : Int)) (chk (0 ≤ t2 ∧ t2 < ((r1).length : Int)) (chk (0 ≤ (atD (0, 0) t11 t13).2 ∧ (atD (0, 0) t11 t13).2 < (((r1.set (t2 : Int).toNat (w64 (atD 0 r1 t2 - t3)))).length : Int)) (chk (0 ≤ (atD (0, 0) t11 t13).2 ∧ (atD (0, 0) t11 t13).2 < (((r1.set (t2 : Int).toNat (w64 (atD 0 r1 t2 - t3)))).length : Int)) (some (.inl (t2, t3, t11, t12, (w64 (t13 + 1)), ((r1.set (t2 : Int).toNat (w64 (atD 0 r1 t2 - t3))).set ((atD (0, 0) t11 t13).2 : Int).toNat (w64 (atD 0 (r1.set (t2 : Int).toNat (w64 (atD 0 r1 t2 - t3))) ((atD (0, 0) t11 t13).2) + t3))), ())))))))
    (cond (t2 == (atD (0, 0) t11 t13).2)
    (chk (0 ≤ t2 ∧ t2 < ((r1).length : Int)) (chk (0 ≤ t2 ∧ t2 < ((r1).length : Int)) (chk (0 ≤ (atD (0, 0) t11 t13).1 ∧ (atD (0, 0) t11 t13).1 < (((r1.set (t2 : Int).toNat (w64 (atD 0 r1 t2 - t3)))).length : Int)) (chk (0 ≤ (atD (0, 0) t11 t13).1 ∧ (atD (0, 0) t11 t13).1 < (((r1.set (t2 : Int).toNat (w64 (atD 0 r1 t2 - t3)))).length : Int)) (some (.inl (t2, t3, t11, t12, (w64 (t13 + 1)), ((r1.set (t2 : Int).toNat (w64 (atD 0 r1 t2 - t3))).set ((atD (0, 0) t11 t13).1 : Int).toNat (w64 (atD 0 (r1.set (t2 : Int).toNat (w64 (atD 0 r1 t2 - t3))) ((atD (0, 0) t11 t13).1) + t3))), ())))))))
    (some (.inl (t2, t3, t11, t12, (w64 (t13 + 1)), r1, ()))))))
    (Option.map Sum.inr (some (r1, ())))
noncomputable def impl_fire : Int × (List (Int × Int)) × (List Int) × Int × Int × Unit → Option ((List Int) × Unit) := fun (t0_0, t0_1, t1, t2, t3, _) =>
  loopM impl_fire_L14 (t2, t3, t0_1, ((t0_1).length : Int), 0, t1, ())
noncomputable def impl_fire_F : Fun := ⟨impl_fire_ins, [1], impl_fire_outs, impl_fire⟩
noncomputable def impl_fire_orc : Orc := orcGet []
theorem impl_fire_eq (x : Den impl_fire_ins) : pmFn (tdGet tab) impl_fire_orc impl_fire_F.mn impl_fire_ann Go.Proofs.Try.f112 impl_fire_ins impl_fire_outs x = impl_fire x := by kernel_rfl
theorem impl_fire_c : CallsD Go.Proofs.Try.prog 112 impl_fire_F :=
  fn_contract (F := impl_fire_F) (C := impl_fire_orc) mix (chkTab_get tab_ok) orc_nil impl_fire_ann (fn := Go.Proofs.Try.f112) (by kernel_rfl) (by kernel_rfl) (by kernel_rfl) (by kernel_rfl) (by kernel_rfl) (fun x y h => (impl_fire_eq x).trans h)

def impl_Multiplicity_ins : List Item := [.agg 0 [.int .i64, .ro .ii], .t 1 (.int .i64), .t 2 (.int .i64)]
def impl_Multiplicity_outs : List Item := [.t 500 (.int .i64)]
def impl_Multiplicity_ann : List (Nat × List Item) := [(12, [.t 1 (.int .i64), .t 2 (.int .i64), .t 3 (.ptr 3), .t 26 (.bool), .box 3 29 [.int .i64, .ro .ii]]),
  (122, [.t 1 (.int .i64), .t 2 (.int .i64), .t 7 (.int .i64), .t 28 (.ro .ii), .t 29 (.int .i64), .t 30 (.int .i64)])]
noncomputable def impl_Multiplicity_L122 : Int × Int × Int × (List (Int × Int)) × Int × Int × Unit → Option ((Int × Int × Int × (List (Int × Int)) × Int × Int × Unit) ⊕ (Int × Unit)) := fun (t1, t2, t7, t28, t29, t30, _) =>
  cond (decide (t30 < t29))
    (chk (0 ≤ t30 ∧ t30 < ((t28).length : Int)) (cond ((atD (0, 0) t28 t30).1 == (min2 t1 t2))
    (cond ((atD (0, 0) t28 t30).2 == (max2 t1 t2))
    (some (.inl (t1, t2, (w64 (t7 + 1)), t28, t29, (w64 (t30 + 1)), ())))
    (some (.inl (t1, t2, t7, t28, t29, (w64 (t30 + 1)), ()))))
    (some (.inl (t1, t2, t7, t28, t29, (w64 (t30 + 1)), ())))))
    (Option.map Sum.inr (some (t7, ())))
noncomputable def impl_Multiplicity_J12 : Int × Int × Bool × Int × (List (Int × Int)) × Unit → Option (Int × Unit) := fun (t1, t2, t26, b3_0, b3_1, _) =>
  cond t26
    (some (0, ()))
    (loopM impl_Multiplicity_L122 (t1, t2, 0, b3_1, ((b3_1).length : Int), 0, ()))
noncomputable def impl_Multiplicity : Int × (List (Int × Int)) × Int × Int × Unit → Option (Int × Unit) := fun (t0_0, t0_1, t1, t2, _) =>
  joinB (T := Int × Int × Bool × Int × (List (Int × Int)) × Unit) (R := Int × Unit) (cond (decide ((min2 t1 t2) < 0))
    (some (.inl (t1, t2, true, t0_0, t0_1, ())))
    (cond (decide ((max2 t1 t2) ≥ t0_0))
    (some (.inl (t1, t2, true, t0_0, t0_1, ())))
    (some (.inl (t1, t2, (t1 == t2), t0_0, t0_1, ()))))) impl_Multiplicity_J12
noncomputable def impl_Multiplicity_F : Fun := ⟨impl_Multiplicity_ins, [], impl_Multiplicity_outs, impl_Multiplicity⟩
noncomputable def impl_Multiplicity_orc : Orc := orcGet []
theorem impl_Multiplicity_eq (x : Den impl_Multiplicity_ins) : pmFn (tdGet tab) impl_Multiplicity_orc impl_Multiplicity_F.mn impl_Multiplicity_ann Go.Proofs.Try.f166 impl_Multiplicity_ins impl_Multiplicity_outs x = impl_Multiplicity x := by kernel_rfl
theorem impl_Multiplicity_c : CallsD Go.Proofs.Try.prog 166 impl_Multiplicity_F :=
  fn_contract (F := impl_Multiplicity_F) (C := impl_Multiplicity_orc) mix (chkTab_get tab_ok) orc_nil impl_Multiplicity_ann (fn := Go.Proofs.Try.f166) (by kernel_rfl) (by kernel_rfl) (by kernel_rfl) (by kernel_rfl) (by kernel_rfl) (fun x y h => (impl_Multiplicity_eq x).trans h)

def slices_Index_int_int_ins : List Item := [.t 0 (.ro (.int .i64)), .t 1 (.int .i64)]
def slices_Index_int_int_outs : List Item := [.t 500 (.int .i64)]
def slices_Index_int_int_ann : List (Nat × List Item) := [(26, [.t 0 (.ro (.int .i64)), .t 1 (.int .i64), .t 7 (.int .i64), .t 8 (.int .i64)])]
noncomputable def slices_Index_int_int_L26 : (List Int) × Int × Int × Int × Unit → Option (((List Int) × Int × Int × Int × Unit) ⊕ (Int × Unit)) := fun (t0, t1, t7, t8, _) =>
  cond (decide (t8 < t7))
    (chk (0 ≤ t8 ∧ t8 < ((t0).length : Int)) (cond (t1 == atD 0 t0 t8)
    (Option.map Sum.inr (some (t8, ())))
    (some (.inl (t0, t1, t7, (w64 (t8 + 1)), ())))))
    (Option.map Sum.inr (some ((-1), ())))
noncomputable def slices_Index_int_int : (List Int) × Int × Unit → Option (Int × Unit) := fun (t0, t1, _) =>
  loopM slices_Index_int_int_L26 (t0, t1, ((t0).length : Int), 0, ())
noncomputable def slices_Index_int_int_F : Fun := ⟨slices_Index_int_int_ins, [], slices_Index_int_int_outs, slices_Index_int_int⟩
noncomputable def slices_Index_int_int_orc : Orc := orcGet []
theorem slices_Index_int_int_eq (x : Den slices_Index_int_int_ins) : pmFn (tdGet tab) slices_Index_int_int_orc slices_Index_int_int_F.mn slices_Index_int_int_ann Go.Proofs.Try.f118 slices_Index_int_int_ins slices_Index_int_int_outs x = slices_Index_int_int x := by kernel_rfl
theorem slices_Index_int_int_c : CallsD Go.Proofs.Try.prog 118 slices_Index_int_int_F :=
  fn_contract (F := slices_Index_int_int_F) (C := slices_Index_int_int_orc) mix (chkTab_get tab_ok) orc_nil slices_Index_int_int_ann (fn := Go.Proofs.Try.f118) (by kernel_rfl) (by kernel_rfl) (by kernel_rfl) (by kernel_rfl) (by kernel_rfl) (fun x y h => (slices_Index_int_int_eq x).trans h)

def slices_Contains_int_int_ins : List Item := [.t 0 (.ro (.int .i64)), .t 1 (.int .i64)]
def slices_Contains_int_int_outs : List Item := [.t 500 (.bool)]
def slices_Contains_int_int_ann : List (Nat × List Item) := []
noncomputable def slices_Contains_int_int : (List Int) × Int × Unit → Option (Bool × Unit) := fun (t0, t1, _) =>
  Option.bind (slices_Index_int_int (t0, t1, ())) fun (v1, _) => some ((decide (v1 ≥ 0)), ())
noncomputable def slices_Contains_int_int_F : Fun := ⟨slices_Contains_int_int_ins, [], slices_Contains_int_int_outs, slices_Contains_int_int⟩
noncomputable def slices_Contains_int_int_orc : Orc := orcGet [(118, slices_Index_int_int_F)]
theorem slices_Contains_int_int_eq (x : Den slices_Contains_int_int_ins) : pmFn (tdGet tab) slices_Contains_int_int_orc slices_Contains_int_int_F.mn slices_Contains_int_int_ann Go.Proofs.Try.f82 slices_Contains_int_int_ins slices_Contains_int_int_outs x = slices_Contains_int_int x := by kernel_rfl
theorem slices_Contains_int_int_c : CallsD Go.Proofs.Try.prog 82 slices_Contains_int_int_F :=
  fn_contract (F := slices_Contains_int_int_F) (C := slices_Contains_int_int_orc) mix (chkTab_get tab_ok) (orc_cons slices_Index_int_int_c orc_nil) slices_Contains_int_int_ann (fn := Go.Proofs.Try.f82) (by kernel_rfl) (by kernel_rfl) (by kernel_rfl) (by kernel_rfl) (by kernel_rfl) (fun x y h => (slices_Contains_int_int_eq x).trans h)

def impl_burn_ins : List Item := [.agg 0 [.int .i64, .ro .ii], .t 1 (.ro (.int .i64)), .t 2 (.int .i64)]
def impl_burn_outs : List Item := [.t 500 (.own 3 (.int .i64))]
def impl_burn_ann : List (Nat × List Item) := [(14, [.t 1 (.ro (.int .i64)), .t 3 (.ptr 3), .t 7 (.own 3 (.int .i64)), .box 3 29 [.int .i64, .ro .ii]]),
  (906, [.t 1 (.ro (.int .i64)), .t 3 (.ptr 3), .t 7 (.own 3 (.int .i64)), .t 8 (.int .i64), .t 9 (.int .i64), .box 3 29 [.int .i64, .ro .ii]]),
  (7248, [.t 1 (.ro (.int .i64)), .t 3 (.ptr 3), .t 7 (.own 3 (.int .i64)), .t 8 (.int .i64), .t 9 (.int .i64), .t 22 (.bool), .box 3 29 [.int .i64, .ro .ii]]),
  (116005, [.t 1 (.ro (.int .i64)), .t 3 (.ptr 3), .t 7 (.own 3 (.int .i64)), .t 8 (.int .i64), .t 9 (.int .i64), .t 10 (.int .i64), .box 3 29 [.int .i64, .ro .ii]]),
  (232010, [.t 1 (.ro (.int .i64)), .t 3 (.ptr 3), .t 7 (.own 3 (.int .i64)), .t 8 (.int .i64), .t 9 (.int .i64), .t 10 (.int .i64), .t 25 (.al 7), .t 26 (.int .i64), .t 27 (.int .i64), .box 3 29 [.int .i64, .ro .ii]])]
noncomputable def impl_burn_L232010 : (List Int) × (List Int) × Int × Int × Int × Int × Int × Int × (List (Int × Int)) × Unit → Option (((List Int) × (List Int) × Int × Int × Int × Int × Int × Int × (List (Int × Int)) × Unit) ⊕ ((((List Int) × (List Int) × Int × Int × Int × Int × (List (Int × Int)) × Unit) ⊕ (((List Int) × (List Int) × Int × Int × Int × (List (Int × Int)) × Unit) ⊕ (((List Int) × (List Int) × Int × (List (Int × Int)) × Unit) ⊕ (List Int) × Unit))))) := fun (t1, t7, t8, t9, t10, t26, t27, b3_0, b3_1, _) =>
  cond (decide (t27 < t26))
    (chk (0 ≤ t27 ∧ t27 < ((t7).length : Int)) (Option.bind (impl_Multiplicity (b3_0, b3_1, t9, atD 0 t7 t27, ())) fun (v8, _) => some (.inl (t1, t7, t8, t9, (w64 (t10 + v8)), t26, (w64 (t27 + 1)), b3_0, b3_1, ()))))
    (Option.map Sum.inr (some (.inl (t1, t7, t8, t9, t10, b3_0, b3_1, ()))))
noncomputable def impl_burn_J116005 : (List Int) × (List Int) × Int × Int × Int × Int × (List (Int × Int)) × Unit → Option ((((List Int) × (List Int) × Int × Int × Int × (List (Int × Int)) × Unit) ⊕ (((List Int) × (List Int) × Int × (List (Int × Int)) × Unit) ⊕ (List Int) × Unit))) := fun (t1, t7, t8, t9, t10, b3_0, b3_1, _) =>
  Option.bind (slices_Contains_int_int (t7, t9, ())) fun (v9, _) => cond (!v9)
    (chk (0 ≤ t9 ∧ t9 < ((t1).length : Int)) (cond (decide (atD 0 t1 t9 < t10))
    (some (.inl (t1, t7, t9, (w64 (t9 + 1)), b3_0, b3_1, ())))
    (some (.inl (t1, t7, t8, (w64 (t9 + 1)), b3_0, b3_1, ())))))
    (some (.inl (t1, t7, t8, (w64 (t9 + 1)), b3_0, b3_1, ())))
noncomputable def impl_burn_J7248 : (List Int) × (List Int) × Int × Int × Bool × Int × (List (Int × Int)) × Unit → Option ((((List Int) × (List Int) × Int × Int × Int × (List (Int × Int)) × Unit) ⊕ (((List Int) × (List Int) × Int × (List (Int × Int)) × Unit) ⊕ (List Int) × Unit))) := fun (t1, t7, t8, t9, t22, b3_0, b3_1, _) =>
  cond t22
    (joinB (T := (List Int) × (List Int) × Int × Int × Int × Int × (List (Int × Int)) × Unit) (R := (((List Int) × (List Int) × Int × Int × Int × (List (Int × Int)) × Unit) ⊕ (((List Int) × (List Int) × Int × (List (Int × Int)) × Unit) ⊕ (List Int) × Unit))) (loopM impl_burn_L232010 (t1, t7, t8, t9, 0, ((t7).length : Int), 0, b3_0, b3_1, ())) impl_burn_J116005)
    (Option.map Sum.inr (cond (decide (t8 < 0))
    (Option.map Sum.inr (some (t7, ())))
    (chk ((t7).length + (([t8] : List Int)).length ≤ 17592186044416) (some (.inl (t1, (t7 ++ ([t8] : List Int)), b3_0, b3_1, ()))))))
noncomputable def impl_burn_L906 : (List Int) × (List Int) × Int × Int × Int × (List (Int × Int)) × Unit → Option (((List Int) × (List Int) × Int × Int × Int × (List (Int × Int)) × Unit) ⊕ ((((List Int) × (List Int) × Int × (List (Int × Int)) × Unit) ⊕ (List Int) × Unit))) := fun (t1, t7, t8, t9, b3_0, b3_1, _) =>
  joinB (T := (List Int) × (List Int) × Int × Int × Bool × Int × (List (Int × Int)) × Unit) (R := (((List Int) × (List Int) × Int × Int × Int × (List (Int × Int)) × Unit) ⊕ (((List Int) × (List Int) × Int × (List (Int × Int)) × Unit) ⊕ (List Int) × Unit))) (cond (decide (t9 < b3_0))
    (some (.inl (t1, t7, t8, t9, (decide (t8 < 0)), b3_0, b3_1, ())))
    (some (.inl (t1, t7, t8, t9, false, b3_0, b3_1, ())))) impl_burn_J7248
noncomputable def impl_burn_L14 : (List Int) × (List Int) × Int × (List (Int × Int)) × Unit → Option (((List Int) × (List Int) × Int × (List (Int × Int)) × Unit) ⊕ ((List Int) × Unit)) := fun (t1, t7, b3_0, b3_1, _) =>
  loopM impl_burn_L906 (t1, t7, (-1), 0, b3_0, b3_1, ())
noncomputable def impl_burn : Int × (List (Int × Int)) × (List Int) × Int × Unit → Option ((List Int) × Unit) := fun (t0_0, t0_1, t1, t2, _) =>
  loopM impl_burn_L14 (t1, ([t2] : List Int), t0_0, t0_1, ())
noncomputable def impl_burn_F : Fun := ⟨impl_burn_ins, [], impl_burn_outs, impl_burn⟩
noncomputable def impl_burn_orc : Orc := orcGet [(82, slices_Contains_int_int_F), (166, impl_Multiplicity_F)]
theorem impl_burn_eq (x : Den impl_burn_ins) : pmFn (tdGet tab) impl_burn_orc impl_burn_F.mn impl_burn_ann Go.Proofs.Try.f156 impl_burn_ins impl_burn_outs x = impl_burn x := by kernel_rfl
theorem impl_burn_c : CallsD Go.Proofs.Try.prog 156 impl_burn_F :=
  fn_contract (F := impl_burn_F) (C := impl_burn_orc) mix (chkTab_get tab_ok) (orc_cons slices_Contains_int_int_c (orc_cons impl_Multiplicity_c orc_nil)) impl_burn_ann (fn := Go.Proofs.Try.f156) (by kernel_rfl) (by kernel_rfl) (by kernel_rfl) (by kernel_rfl) (by kernel_rfl) (fun x y h => (impl_burn_eq x).trans h)

def impl_reduce_ins : List Item := [.agg 0 [.int .i64, .ro .ii], .t 1 (.ro (.int .i64)), .t 2 (.int .i64)]
def impl_reduce_outs : List Item := [.t 500 (.own 3 (.int .i64)), .t 501 (.own 3 (.int .i64))]
def impl_reduce_ann : List (Nat × List Item) := [(61, [.t 2 (.int .i64), .t 3 (.ptr 3), .t 8 (.own 3 (.int .i64)), .t 9 (.own 3 (.int .i64)), .box 3 29 [.int .i64, .ro .ii]]),
  (62, [.t 2 (.int .i64), .t 3 (.ptr 3), .t 8 (.own 3 (.int .i64)), .t 9 (.own 3 (.int .i64)), .box 3 29 [.int .i64, .ro .ii]]),
  (122, [.t 2 (.int .i64), .t 3 (.ptr 3), .t 8 (.own 3 (.int .i64)), .t 9 (.own 3 (.int .i64)), .t 10 (.int .i64), .box 3 29 [.int .i64, .ro .ii]]),
  (3982, [.t 2 (.int .i64), .t 3 (.ptr 3), .t 8 (.own 3 (.int .i64)), .t 9 (.own 3 (.int .i64)), .t 13 (.own 3 (.int .i64)), .t 65 (.int .i64), .t 66 (.int .i64), .box 3 29 [.int .i64, .ro .ii]])]
noncomputable def impl_reduce_L122 : Int × (List Int) × (List Int) × Int × Int × (List (Int × Int)) × Unit → Option ((Int × (List Int) × (List Int) × Int × Int × (List (Int × Int)) × Unit) ⊕ (((Int × (List Int) × (List Int) × Int × (List (Int × Int)) × Unit) ⊕ (List Int) × (List Int) × Unit))) := fun (t2, t8, t9, t10, b3_0, b3_1, _) =>
  cond (decide (t10 ≥ 0))
    (Option.bind (impl_Valence (b3_0, b3_1, t10, ())) fun (v4, _) => chk (0 ≤ t10 ∧ t10 < ((t8).length : Int)) (chk (v4 ≠ 0) (Option.bind (impl_fire (b3_0, b3_1, t8, t10, (w64 (0 - (w64 ((w64 ((w64 (v4 - 1)) - atD 0 t8 t10)).tdiv v4)))), ())) fun (v5, _) => chk (0 ≤ t10 ∧ t10 < ((t9).length : Int)) (chk (0 ≤ t10 ∧ t10 < ((t9).length : Int)) (Option.bind (impl_inDebt (v5, t2, ())) fun (v6, _) => some (.inl (t2, v5, (t9.set (t10 : Int).toNat (w64 (atD 0 t9 t10 - (w64 ((w64 ((w64 (v4 - 1)) - atD 0 t8 t10)).tdiv v4))))), v6, b3_0, b3_1, ())))))))
    (Option.map Sum.inr (some (.inl (t2, t8, t9, b3_0, b3_1, ()))))
noncomputable def impl_reduce_L3982 : Int × (List Int) × (List Int) × (List Int) × Int × Int × Int × (List (Int × Int)) × Unit → Option ((Int × (List Int) × (List Int) × (List Int) × Int × Int × Int × (List (Int × Int)) × Unit) ⊕ (((Int × (List Int) × (List Int) × Int × (List (Int × Int)) × Unit) ⊕ (List Int) × (List Int) × Unit))) := fun (t2, t8, t9, t13, t65, t66, b3_0, b3_1, _) =>
  cond (decide (t66 < t65))
    (Option.bind (slices_Contains_int_int (t13, t66, ())) fun (v12, _) => cond (!v12)
    (Option.bind (impl_fire (b3_0, b3_1, t8, t66, 1, ())) fun (v13, _) => chk (0 ≤ t66 ∧ t66 < ((t9).length : Int)) (chk (0 ≤ t66 ∧ t66 < ((t9).length : Int)) (some (.inl (t2, v13, (t9.set (t66 : Int).toNat (w64 (atD 0 t9 t66 + 1))), t13, t65, (w64 (t66 + 1)), b3_0, b3_1, ())))))
    (some (.inl (t2, t8, t9, t13, t65, (w64 (t66 + 1)), b3_0, b3_1, ()))))
    (Option.map Sum.inr (some (.inl (t2, t8, t9, b3_0, b3_1, ()))))
noncomputable def impl_reduce_L62 : Int × (List Int) × (List Int) × Int × (List (Int × Int)) × Unit → Option ((Int × (List Int) × (List Int) × Int × (List (Int × Int)) × Unit) ⊕ ((List Int) × (List Int) × Unit)) := fun (t2, t8, t9, b3_0, b3_1, _) =>
  Option.bind (impl_burn (b3_0, b3_1, t8, t2, ())) fun (v11, _) => cond (((v11).length : Int) == b3_0)
    (Option.map Sum.inr (some (t8, t9, ())))
    (loopM impl_reduce_L3982 (t2, t8, t9, v11, ((t9).length : Int), 0, b3_0, b3_1, ()))
noncomputable def impl_reduce_J61 : Int × (List Int) × (List Int) × Int × (List (Int × Int)) × Unit → Option ((List Int) × (List Int) × Unit) := fun (t2, t8, t9, b3_0, b3_1, _) =>
  loopM impl_reduce_L62 (t2, t8, t9, b3_0, b3_1, ())
noncomputable def impl_reduce : Int × (List (Int × Int)) × (List Int) × Int × Unit → Option ((List Int) × (List Int) × Unit) := fun (t0_0, t0_1, t1, t2, _) =>
  Option.bind (impl_copyInts (t1, ())) fun (v1, _) => chk (t0_0 = t0_0 ∧ 0 ≤ t0_0 ∧ t0_0 ≤ 17592186044416) (Option.bind (impl_inDebt (v1, t2, ())) fun (v2, _) => joinB (T := Int × (List Int) × (List Int) × Int × (List (Int × Int)) × Unit) (R := (List Int) × (List Int) × Unit) (loopM impl_reduce_L122 (t2, v1, (List.replicate (t0_0).toNat (0 : Int)), v2, t0_0, t0_1, ())) impl_reduce_J61)
noncomputable def impl_reduce_F : Fun := ⟨impl_reduce_ins, [], impl_reduce_outs, impl_reduce⟩
noncomputable def impl_reduce_orc : Orc := orcGet [(82, slices_Contains_int_int_F), (85, impl_copyInts_F), (112, impl_fire_F), (136, impl_Valence_F), (155, impl_inDebt_F), (156, impl_burn_F)]
theorem impl_reduce_eq (x : Den impl_reduce_ins) : pmFn (tdGet tab) impl_reduce_orc impl_reduce_F.mn impl_reduce_ann Go.Proofs.Try.f132 impl_reduce_ins impl_reduce_outs x = impl_reduce x := by kernel_rfl
theorem impl_reduce_c : CallsD Go.Proofs.Try.prog 132 impl_reduce_F :=
  fn_contract (F := impl_reduce_F) (C := impl_reduce_orc) mix (chkTab_get tab_ok) (orc_cons slices_Contains_int_int_c (orc_cons impl_copyInts_c (orc_cons impl_fire_c (orc_cons impl_Valence_c (orc_cons impl_inDebt_c (orc_cons impl_burn_c orc_nil)))))) impl_reduce_ann (fn := Go.Proofs.Try.f132) (by kernel_rfl) (by kernel_rfl) (by kernel_rfl) (by kernel_rfl) (by kernel_rfl) (fun x y h => (impl_reduce_eq x).trans h)

def impl_recurrentOf_ins : List Item := [.agg 0 [.int .i64, .ro .ii], .t 1 (.ro (.int .i64)), .t 2 (.int .i64)]
def impl_recurrentOf_outs : List Item := [.t 500 (.own 3 (.int .i64))]
def impl_recurrentOf_ann : List (Nat × List Item) := []
noncomputable def impl_recurrentOf : Int × (List (Int × Int)) × (List Int) × Int × Unit → Option ((List Int) × Unit) := fun (t0_0, t0_1, t1, t2, _) =>
  Option.bind (impl_FullPile (t0_0, t0_1, t2, ())) fun (v1, _) => Option.bind (impl_NegateDivisor (t1, ())) fun (v2, _) => Option.bind (impl_plus (v1, v2, ())) fun (v3, _) => Option.bind (impl_reduce (t0_0, t0_1, v3, t2, ())) fun (v4, v5, _) => Option.bind (impl_NegateDivisor (v4, ())) fun (v6, _) => Option.bind (impl_plus (v1, v6, ())) fun (v7, _) => chk (0 ≤ t2 ∧ t2 < ((v7).length : Int)) (some ((v7.set (t2 : Int).toNat 0), ()))
noncomputable def impl_recurrentOf_F : Fun := ⟨impl_recurrentOf_ins, [], impl_recurrentOf_outs, impl_recurrentOf⟩
noncomputable def impl_recurrentOf_orc : Orc := orcGet [(131, impl_FullPile_F), (132, impl_reduce_F), (133, impl_plus_F), (134, impl_NegateDivisor_F)]
theorem impl_recurrentOf_eq (x : Den impl_recurrentOf_ins) : pmFn (tdGet tab) impl_recurrentOf_orc impl_recurrentOf_F.mn impl_recurrentOf_ann Go.Proofs.Try.f93 impl_recurrentOf_ins impl_recurrentOf_outs x = impl_recurrentOf x := by kernel_rfl
theorem impl_recurrentOf_c : CallsD Go.Proofs.Try.prog 93 impl_recurrentOf_F :=
  fn_contract (F := impl_recurrentOf_F) (C := impl_recurrentOf_orc) mix (chkTab_get tab_ok) (orc_cons impl_FullPile_c (orc_cons impl_reduce_c (orc_cons impl_plus_c (orc_cons impl_NegateDivisor_c orc_nil)))) impl_recurrentOf_ann (fn := Go.Proofs.Try.f93) (by kernel_rfl) (by kernel_rfl) (by kernel_rfl) (by kernel_rfl) (by kernel_rfl) (fun x y h => (impl_recurrentOf_eq x).trans h)

def impl_RecurrentOf_ins : List Item := [.agg 0 [.int .i64, .ro .ii], .t 1 (.ro (.int .i64)), .t 2 (.int .i64)]
def impl_RecurrentOf_outs : List Item := [.t 500 (.own 3 (.int .i64)), .t 501 (.bool)]
def impl_RecurrentOf_ann : List (Nat × List Item) := []
noncomputable def impl_RecurrentOf : Int × (List (Int × Int)) × (List Int) × Int × Unit → Option ((List Int) × Bool × Unit) := fun (t0_0, t0_1, t1, t2, _) =>
  Option.bind (impl_PileOk (t0_0, t0_1, t1, t2, ())) fun (v1, _) => cond (!v1)
    (some (([] : List Int), false, ()))
    (Option.bind (impl_recurrentOf (t0_0, t0_1, t1, t2, ())) fun (v2, _) => some (v2, true, ()))
noncomputable def impl_RecurrentOf_F : Fun := ⟨impl_RecurrentOf_ins, [], impl_RecurrentOf_outs, impl_RecurrentOf⟩
noncomputable def impl_RecurrentOf_orc : Orc := orcGet [(90, impl_PileOk_F), (93, impl_recurrentOf_F)]
theorem impl_RecurrentOf_eq (x : Den impl_RecurrentOf_ins) : pmFn (tdGet tab) impl_RecurrentOf_orc impl_RecurrentOf_F.mn impl_RecurrentOf_ann Go.Proofs.Try.f46 impl_RecurrentOf_ins impl_RecurrentOf_outs x = impl_RecurrentOf x := by kernel_rfl
theorem impl_RecurrentOf_c : CallsD Go.Proofs.Try.prog 46 impl_RecurrentOf_F :=
  fn_contract (F := impl_RecurrentOf_F) (C := impl_RecurrentOf_orc) mix (chkTab_get tab_ok) (orc_cons impl_PileOk_c (orc_cons impl_recurrentOf_c orc_nil)) impl_RecurrentOf_ann (fn := Go.Proofs.Try.f46) (by kernel_rfl) (by kernel_rfl) (by kernel_rfl) (by kernel_rfl) (by kernel_rfl) (fun x y h => (impl_RecurrentOf_eq x).trans h)

def impl_unstable_ins : List Item := [.agg 0 [.int .i64, .ro .ii], .t 1 (.ro (.int .i64)), .t 2 (.int .i64)]
def impl_unstable_outs : List Item := [.t 500 (.int .i64)]
def impl_unstable_ann : List (Nat × List Item) := [(26, [.t 2 (.int .i64), .t 3 (.ptr 3), .t 9 (.ro (.int .i64)), .t 10 (.int .i64), .t 11 (.int .i64), .box 3 29 [.int .i64, .ro .ii]])]
noncomputable def impl_unstable_L26 : Int × (List Int) × Int × Int × Int × (List (Int × Int)) × Unit → Option ((Int × (List Int) × Int × Int × Int × (List (Int × Int)) × Unit) ⊕ (Int × Unit)) := fun (t2, t9, t10, t11, b3_0, b3_1, _) =>
  cond (decide (t11 < t10))
    (chk (0 ≤ t11 ∧ t11 < ((t9).length : Int)) (cond (t11 != t2)
    (Option.bind (impl_Valence (b3_0, b3_1, t11, ())) fun (v1, _) => cond (decide (atD 0 t9 t11 ≥ v1))
    (Option.map Sum.inr (some (t11, ())))
    (some (.inl (t2, t9, t10, (w64 (t11 + 1)), b3_0, b3_1, ()))))
    (some (.inl (t2, t9, t10, (w64 (t11 + 1)), b3_0, b3_1, ())))))
    (Option.map Sum.inr (some ((-1), ())))
noncomputable def impl_unstable : Int × (List (Int × Int)) × (List Int) × Int × Unit → Option (Int × Unit) := fun (t0_0, t0_1, t1, t2, _) =>
  loopM impl_unstable_L26 (t2, t1, ((t1).length : Int), 0, t0_0, t0_1, ())
noncomputable def impl_unstable_F : Fun := ⟨impl_unstable_ins, [], impl_unstable_outs, impl_unstable⟩
noncomputable def impl_unstable_orc : Orc := orcGet [(136, impl_Valence_F)]
theorem impl_unstable_eq (x : Den impl_unstable_ins) : pmFn (tdGet tab) impl_unstable_orc impl_unstable_F.mn impl_unstable_ann Go.Proofs.Try.f135 impl_unstable_ins impl_unstable_outs x = impl_unstable x := by kernel_rfl
theorem impl_unstable_c : CallsD Go.Proofs.Try.prog 135 impl_unstable_F :=
  fn_contract (F := impl_unstable_F) (C := impl_unstable_orc) mix (chkTab_get tab_ok) (orc_cons impl_Valence_c orc_nil) impl_unstable_ann (fn := Go.Proofs.Try.f135) (by kernel_rfl) (by kernel_rfl) (by kernel_rfl) (by kernel_rfl) (by kernel_rfl) (fun x y h => (impl_unstable_eq x).trans h)

def impl_stabilize_ins : List Item := [.agg 0 [.int .i64, .ro .ii], .t 1 (.ro (.int .i64)), .t 2 (.int .i64)]
def impl_stabilize_outs : List Item := [.t 500 (.own 3 (.int .i64)), .t 501 (.own 3 (.int .i64))]
def impl_stabilize_ann : List (Nat × List Item) := [(122, [.t 2 (.int .i64), .t 3 (.ptr 3), .t 8 (.own 3 (.int .i64)), .t 9 (.own 3 (.int .i64)), .t 10 (.int .i64), .box 3 29 [.int .i64, .ro .ii]])]
noncomputable def impl_stabilize_L122 : Int × (List Int) × (List Int) × Int × Int × (List (Int × Int)) × Unit → Option ((Int × (List Int) × (List Int) × Int × Int × (List (Int × Int)) × Unit) ⊕ ((List Int) × (List Int) × Unit)) := fun (t2, t8, t9, t10, b3_0, b3_1, _) =>
  cond (decide (t10 ≥ 0))
    (chk (0 ≤ t10 ∧ t10 < ((t8).length : Int)) (Option.bind (impl_Valence (b3_0, b3_1, t10, ())) fun (v3, _) => chk (v3 ≠ 0) (Option.bind (impl_fire (b3_0, b3_1, t8, t10, (w64 ((atD 0 t8 t10).tdiv v3)), ())) fun (v4, _) => chk (0 ≤ t10 ∧ t10 < ((t9).length : Int)) (chk (0 ≤ t10 ∧ t10 < ((t9).length : Int)) (Option.bind (impl_unstable (b3_0, b3_1, v4, t2, ())) fun (v5, _) => some (.inl (t2, v4, (t9.set (t10 : Int).toNat (w64 (atD 0 t9 t10 + (w64 ((atD 0 t8 t10).tdiv v3))))), v5, b3_0, b3_1, ())))))))
    (Option.map Sum.inr (chk (0 ≤ t2 ∧ t2 < ((t8).length : Int)) (some ((t8.set (t2 : Int).toNat 0), t9, ()))))
noncomputable def impl_stabilize : Int × (List (Int × Int)) × (List Int) × Int × Unit → Option ((List Int) × (List Int) × Unit) := fun (t0_0, t0_1, t1, t2, _) =>
  Option.bind (impl_copyInts (t1, ())) fun (v1, _) => chk (t0_0 = t0_0 ∧ 0 ≤ t0_0 ∧ t0_0 ≤ 17592186044416) (Option.bind (impl_unstable (t0_0, t0_1, v1, t2, ())) fun (v2, _) => loopM impl_stabilize_L122 (t2, v1, (List.replicate (t0_0).toNat (0 : Int)), v2, t0_0, t0_1, ()))
noncomputable def impl_stabilize_F : Fun := ⟨impl_stabilize_ins, [], impl_stabilize_outs, impl_stabilize⟩
noncomputable def impl_stabilize_orc : Orc := orcGet [(85, impl_copyInts_F), (112, impl_fire_F), (135, impl_unstable_F), (136, impl_Valence_F)]
theorem impl_stabilize_eq (x : Den impl_stabilize_ins) : pmFn (tdGet tab) impl_stabilize_orc impl_stabilize_F.mn impl_stabilize_ann Go.Proofs.Try.f94 impl_stabilize_ins impl_stabilize_outs x = impl_stabilize x := by kernel_rfl
theorem impl_stabilize_c : CallsD Go.Proofs.Try.prog 94 impl_stabilize_F :=
  fn_contract (F := impl_stabilize_F) (C := impl_stabilize_orc) mix (chkTab_get tab_ok) (orc_cons impl_copyInts_c (orc_cons impl_fire_c (orc_cons impl_unstable_c (orc_cons impl_Valence_c orc_nil)))) impl_stabilize_ann (fn := Go.Proofs.Try.f94) (by kernel_rfl) (by kernel_rfl) (by kernel_rfl) (by kernel_rfl) (by kernel_rfl) (fun x y h => (impl_stabilize_eq x).trans h)

def impl_Stabilize_ins : List Item := [.agg 0 [.int .i64, .ro .ii], .t 1 (.ro (.int .i64)), .t 2 (.int .i64)]
def impl_Stabilize_outs : List Item := [.t 500 (.own 3 (.int .i64)), .t 501 (.own 3 (.int .i64)), .t 502 (.bool)]
def impl_Stabilize_ann : List (Nat × List Item) := []
noncomputable def impl_Stabilize : Int × (List (Int × Int)) × (List Int) × Int × Unit → Option ((List Int) × (List Int) × Bool × Unit) := fun (t0_0, t0_1, t1, t2, _) =>
  Option.bind (impl_PileOk (t0_0, t0_1, t1, t2, ())) fun (v1, _) => cond (!v1)
    (some (([] : List Int), ([] : List Int), false, ()))
    (Option.bind (impl_stabilize (t0_0, t0_1, t1, t2, ())) fun (v2, v3, _) => some (v2, v3, true, ()))
noncomputable def impl_Stabilize_F : Fun := ⟨impl_Stabilize_ins, [], impl_Stabilize_outs, impl_Stabilize⟩
noncomputable def impl_Stabilize_orc : Orc := orcGet [(90, impl_PileOk_F), (94, impl_stabilize_F)]
theorem impl_Stabilize_eq (x : Den impl_Stabilize_ins) : pmFn (tdGet tab) impl_Stabilize_orc impl_Stabilize_F.mn impl_Stabilize_ann Go.Proofs.Try.f47 impl_Stabilize_ins impl_Stabilize_outs x = impl_Stabilize x := by kernel_rfl
theorem impl_Stabilize_c : CallsD Go.Proofs.Try.prog 47 impl_Stabilize_F :=
  fn_contract (F := impl_Stabilize_F) (C := impl_Stabilize_orc) mix (chkTab_get tab_ok) (orc_cons impl_PileOk_c (orc_cons impl_stabilize_c orc_nil)) impl_Stabilize_ann (fn := Go.Proofs.Try.f47) (by kernel_rfl) (by kernel_rfl) (by kernel_rfl) (by kernel_rfl) (by kernel_rfl) (fun x y h => (impl_Stabilize_eq x).trans h)

def impl_edgesOf_ins : List Item := [.agg 0 [.int .i64, .ro .ii], .t 1 (.ro (.int .i64))]
def impl_edgesOf_outs : List Item := [.t 500 (.own 76 .ii)]
def impl_edgesOf_ann : List (Nat × List Item) := [(58, [.t 2 (.ptr 2), .t 5 (.own 76 .ii), .t 8 (.ro (.int .i64)), .t 9 (.int .i64), .t 10 (.int .i64), .box 2 29 [.int .i64, .ro .ii]])]
noncomputable def impl_edgesOf_L58 : (List (Int × Int)) × (List Int) × Int × Int × Int × (List (Int × Int)) × Unit → Option (((List (Int × Int)) × (List Int) × Int × Int × Int × (List (Int × Int)) × Unit) ⊕ ((List (Int × Int)) × Unit)) := fun (t5, t8, t9, t10, b2_0, b2_1, _) =>
  cond (decide (t10 < t9))
    (chk (0 ≤ t10 ∧ t10 < ((t8).length : Int)) (chk (0 ≤ atD 0 t8 t10 ∧ atD 0 t8 t10 < ((b2_1).length : Int)) (chk ((t5).length + (([((atD (0, 0) b2_1 (atD 0 t8 t10)).1, (atD (0, 0) b2_1 (atD 0 t8 t10)).2)] : List (Int × Int))).length ≤ 8796093022208) (some (.inl ((t5 ++ ([((atD (0, 0) b2_1 (atD 0 t8 t10)).1, (atD (0, 0) b2_1 (atD 0 t8 t10)).2)] : List (Int × Int))), t8, t9, (w64 (t10 + 1)), b2_0, b2_1, ()))))))
    (Option.map Sum.inr (some (t5, ())))
noncomputable def impl_edgesOf : Int × (List (Int × Int)) × (List Int) × Unit → Option ((List (Int × Int)) × Unit) := fun (t0_0, t0_1, t1, _) =>
  loopM impl_edgesOf_L58 (([] : List (Int × Int)), t1, ((t1).length : Int), 0, t0_0, t0_1, ())
noncomputable def impl_edgesOf_F : Fun := ⟨impl_edgesOf_ins, [], impl_edgesOf_outs, impl_edgesOf⟩
noncomputable def impl_edgesOf_orc : Orc := orcGet []
theorem impl_edgesOf_eq (x : Den impl_edgesOf_ins) : pmFn (tdGet tab) impl_edgesOf_orc impl_edgesOf_F.mn impl_edgesOf_ann Go.Proofs.Try.f96 impl_edgesOf_ins impl_edgesOf_outs x = impl_edgesOf x := by kernel_rfl
theorem impl_edgesOf_c : CallsD Go.Proofs.Try.prog 96 impl_edgesOf_F :=
  fn_contract (F := impl_edgesOf_F) (C := impl_edgesOf_orc) mix (chkTab_get tab_ok) orc_nil impl_edgesOf_ann (fn := Go.Proofs.Try.f96) (by kernel_rfl) (by kernel_rfl) (by kernel_rfl) (by kernel_rfl) (by kernel_rfl) (fun x y h => (impl_edgesOf_eq x).trans h)

def impl_IsTree_ins : List Item := [.agg 0 [.int .i64, .ro .ii], .t 1 (.ro (.int .i64))]
def impl_IsTree_outs : List Item := [.t 500 (.bool)]
def impl_IsTree_ann : List (Nat × List Item) := [(12, [.t 1 (.ro (.int .i64)), .t 2 (.ptr 2), .t 25 (.bool), .box 2 29 [.int .i64, .ro .ii]]),
  (58, [.t 1 (.ro (.int .i64)), .t 2 (.ptr 2), .t 5 (.int .i64), .box 2 29 [.int .i64, .ro .ii]])]
noncomputable def impl_IsTree_L58 : (List Int) × Int × Int × (List (Int × Int)) × Unit → Option (((List Int) × Int × Int × (List (Int × Int)) × Unit) ⊕ (Bool × Unit)) := fun (t1, t5, b2_0, b2_1, _) =>
  cond (decide (t5 < ((t1).length : Int)))
    (chk (0 ≤ (w64 (t5 - 1)) ∧ (w64 (t5 - 1)) < ((t1).length : Int)) (chk (0 ≤ t5 ∧ t5 < ((t1).length : Int)) (cond (decide (atD 0 t1 (w64 (t5 - 1)) ≥ atD 0 t1 t5))
    (Option.map Sum.inr (some (false, ())))
    (some (.inl (t1, (w64 (t5 + 1)), b2_0, b2_1, ()))))))
    (Option.map Sum.inr (Option.bind (impl_edgesOf (b2_0, b2_1, t1, ())) fun (v4, _) => Option.bind (impl_connected (b2_0, v4, ())) fun (v5, _) => some (v5, ())))
noncomputable def impl_IsTree_J12 : (List Int) × Bool × Int × (List (Int × Int)) × Unit → Option (Bool × Unit) := fun (t1, t25, b2_0, b2_1, _) =>
  cond t25
    (some (false, ()))
    (loopM impl_IsTree_L58 (t1, 1, b2_0, b2_1, ()))
noncomputable def impl_IsTree : Int × (List (Int × Int)) × (List Int) × Unit → Option (Bool × Unit) := fun (t0_0, t0_1, t1, _) =>
  joinB (T := (List Int) × Bool × Int × (List (Int × Int)) × Unit) (R := Bool × Unit) (Option.bind (impl_GraphOk (t0_0, t0_1, ())) fun (v2, _) => cond (!v2)
    (some (.inl (t1, true, t0_0, t0_1, ())))
    (cond (((t1).length : Int) != (w64 (t0_0 - 1)))
    (some (.inl (t1, true, t0_0, t0_1, ())))
    (Option.bind (impl_allWithin (t1, 0, (w64 (((t0_1).length : Int) - 1)), ())) fun (v3, _) => some (.inl (t1, (!v3), t0_0, t0_1, ()))))) impl_IsTree_J12
noncomputable def impl_IsTree_F : Fun := ⟨impl_IsTree_ins, [], impl_IsTree_outs, impl_IsTree⟩
noncomputable def impl_IsTree_orc : Orc := orcGet [(54, impl_GraphOk_F), (70, impl_allWithin_F), (95, impl_connected_F), (96, impl_edgesOf_F)]
theorem impl_IsTree_eq (x : Den impl_IsTree_ins) : pmFn (tdGet tab) impl_IsTree_orc impl_IsTree_F.mn impl_IsTree_ann Go.Proofs.Try.f49 impl_IsTree_ins impl_IsTree_outs x = impl_IsTree x := by kernel_rfl
theorem impl_IsTree_c : CallsD Go.Proofs.Try.prog 49 impl_IsTree_F :=
  fn_contract (F := impl_IsTree_F) (C := impl_IsTree_orc) mix (chkTab_get tab_ok) (orc_cons impl_GraphOk_c (orc_cons impl_allWithin_c (orc_cons impl_connected_c (orc_cons impl_edgesOf_c orc_nil)))) impl_IsTree_ann (fn := Go.Proofs.Try.f49) (by kernel_rfl) (by kernel_rfl) (by kernel_rfl) (by kernel_rfl) (by kernel_rfl) (fun x y h => (impl_IsTree_eq x).trans h)

def impl_isAt_ins : List Item := [.agg 0 [.int .i64, .ro .ii], .t 1 (.int .i64), .t 2 (.int .i64)]
def impl_isAt_outs : List Item := [.t 500 (.bool)]
def impl_isAt_ann : List (Nat × List Item) := []
noncomputable def impl_isAt : Int × (List (Int × Int)) × Int × Int × Unit → Option (Bool × Unit) := fun (t0_0, t0_1, t1, t2, _) =>
  Option.bind (impl_within (t1, 0, (w64 (((t0_1).length : Int) - 1)), ())) fun (v1, _) => cond v1
    (chk (0 ≤ t1 ∧ t1 < ((t0_1).length : Int)) (cond ((atD (0, 0) t0_1 t1).1 == t2)
    (some (true, ()))
    (chk (0 ≤ t1 ∧ t1 < ((t0_1).length : Int)) (some (((atD (0, 0) t0_1 t1).2 == t2), ())))))
    (some (false, ()))
noncomputable def impl_isAt_F : Fun := ⟨impl_isAt_ins, [], impl_isAt_outs, impl_isAt⟩
noncomputable def impl_isAt_orc : Orc := orcGet [(71, impl_within_F)]
theorem impl_isAt_eq (x : Den impl_isAt_ins) : pmFn (tdGet tab) impl_isAt_orc impl_isAt_F.mn impl_isAt_ann Go.Proofs.Try.f80 impl_isAt_ins impl_isAt_outs x = impl_isAt x := by kernel_rfl
theorem impl_isAt_c : CallsD Go.Proofs.Try.prog 80 impl_isAt_F :=
  fn_contract (F := impl_isAt_F) (C := impl_isAt_orc) mix (chkTab_get tab_ok) (orc_cons impl_within_c orc_nil) impl_isAt_ann (fn := Go.Proofs.Try.f80) (by kernel_rfl) (by kernel_rfl) (by kernel_rfl) (by kernel_rfl) (by kernel_rfl) (fun x y h => (impl_isAt_eq x).trans h)

def impl_across_ins : List Item := [.agg 0 [.int .i64, .ro .ii], .t 1 (.int .i64), .t 2 (.int .i64)]
def impl_across_outs : List Item := [.t 500 (.int .i64)]
def impl_across_ann : List (Nat × List Item) := []
noncomputable def impl_across : Int × (List (Int × Int)) × Int × Int × Unit → Option (Int × Unit) := fun (t0_0, t0_1, t1, t2, _) =>
  chk (0 ≤ t1 ∧ t1 < ((t0_1).length : Int)) (chk (0 ≤ t1 ∧ t1 < ((t0_1).length : Int)) (some ((w64 ((w64 ((atD (0, 0) t0_1 t1).1 + (atD (0, 0) t0_1 t1).2)) - t2)), ())))
noncomputable def impl_across_F : Fun := ⟨impl_across_ins, [], impl_across_outs, impl_across⟩
noncomputable def impl_across_orc : Orc := orcGet []
theorem impl_across_eq (x : Den impl_across_ins) : pmFn (tdGet tab) impl_across_orc impl_across_F.mn impl_across_ann Go.Proofs.Try.f81 impl_across_ins impl_across_outs x = impl_across x := by kernel_rfl
theorem impl_across_c : CallsD Go.Proofs.Try.prog 81 impl_across_F :=
  fn_contract (F := impl_across_F) (C := impl_across_orc) mix (chkTab_get tab_ok) orc_nil impl_across_ann (fn := Go.Proofs.Try.f81) (by kernel_rfl) (by kernel_rfl) (by kernel_rfl) (by kernel_rfl) (by kernel_rfl) (fun x y h => (impl_across_eq x).trans h)

def impl_StateOfTree_ins : List Item := [.agg 0 [.int .i64, .ro .ii], .t 1 (.ro (.int .i64)), .t 2 (.int .i64)]
def impl_StateOfTree_outs : List Item := [.t 500 (.own 3 (.int .i64)), .t 501 (.bool)]
def impl_StateOfTree_ann : List (Nat × List Item) := [(12, [.t 1 (.ro (.int .i64)), .t 2 (.int .i64), .t 3 (.ptr 3), .t 26 (.bool), .box 3 29 [.int .i64, .ro .ii]]),
  (61, [.t 1 (.ro (.int .i64)), .t 2 (.int .i64), .t 3 (.ptr 3), .t 8 (.own 3 (.int .i64)), .box 3 29 [.int .i64, .ro .ii]]),
  (122, [.t 1 (.ro (.int .i64)), .t 2 (.int .i64), .t 3 (.ptr 3), .t 8 (.own 3 (.int .i64)), .t 31 (.int .i64), .t 32 (.int .i64), .box 3 29 [.int .i64, .ro .ii]]),
  (506, [.t 1 (.ro (.int .i64)), .t 3 (.ptr 3), .t 8 (.own 3 (.int .i64)), .t 10 (.own 3 (.int .i64)), .t 11 (.int .i64), .box 3 29 [.int .i64, .ro .ii]]),
  (32402, [.t 1 (.ro (.int .i64)), .t 3 (.ptr 3), .t 8 (.own 3 (.int .i64)), .t 10 (.own 3 (.int .i64)), .t 11 (.int .i64), .t 47 (.ro (.int .i64)), .t 48 (.int .i64), .t 49 (.int .i64), .box 3 29 [.int .i64, .ro .ii]])]
noncomputable def impl_StateOfTree_L122 : (List Int) × Int × (List Int) × Int × Int × Int × (List (Int × Int)) × Unit → Option (((List Int) × Int × (List Int) × Int × Int × Int × (List (Int × Int)) × Unit) ⊕ ((((List Int) × Int × (List Int) × Int × (List (Int × Int)) × Unit) ⊕ (List Int) × Bool × Unit))) := fun (t1, t2, t8, t31, t32, b3_0, b3_1, _) =>
  cond (decide (t32 < t31))
    (chk (0 ≤ t32 ∧ t32 < ((t8).length : Int)) (some (.inl (t1, t2, (t8.set (t32 : Int).toNat (-1)), t31, (w64 (t32 + 1)), b3_0, b3_1, ()))))
    (Option.map Sum.inr (some (.inl (t1, t2, t8, b3_0, b3_1, ()))))
noncomputable def impl_StateOfTree_L32402 : (List Int) × (List Int) × (List Int) × Int × (List Int) × Int × Int × Int × (List (Int × Int)) × Unit → Option (((List Int) × (List Int) × (List Int) × Int × (List Int) × Int × Int × Int × (List (Int × Int)) × Unit) ⊕ ((((List Int) × (List Int) × (List Int) × Int × Int × (List (Int × Int)) × Unit) ⊕ (List Int) × Bool × Unit))) := fun (t1, t8, t10, t11, t47, t48, t49, b3_0, b3_1, _) =>
  cond (decide (t49 < t48))
    (chk (0 ≤ t49 ∧ t49 < ((t47).length : Int)) (chk (0 ≤ t11 ∧ t11 < ((t10).length : Int)) (Option.bind (impl_isAt (b3_0, b3_1, atD 0 t47 t49, atD 0 t10 t11, ())) fun (v5, _) => cond (!v5)
    (some (.inl (t1, t8, t10, t11, t47, t48, (w64 (t49 + 1)), b3_0, b3_1, ())))
    (chk (0 ≤ t11 ∧ t11 < ((t10).length : Int)) (Option.bind (impl_across (b3_0, b3_1, atD 0 t47 t49, atD 0 t10 t11, ())) fun (v6, _) => Option.bind (slices_Contains_int_int (t10, v6, ())) fun (v7, _) => cond (!v7)
    (chk (0 ≤ v6 ∧ v6 < ((t8).length : Int)) (chk ((t10).length + (([v6] : List Int)).length ≤ 17592186044416) (some (.inl (t1, (t8.set (v6 : Int).toNat (atD 0 t47 t49)), (t10 ++ ([v6] : List Int)), t11, t47, t48, (w64 (t49 + 1)), b3_0, b3_1, ())))))
    (some (.inl (t1, t8, t10, t11, t47, t48, (w64 (t49 + 1)), b3_0, b3_1, ()))))))))
    (Option.map Sum.inr (some (.inl (t1, t8, t10, (w64 (t11 + 1)), b3_0, b3_1, ()))))
noncomputable def impl_StateOfTree_L506 : (List Int) × (List Int) × (List Int) × Int × Int × (List (Int × Int)) × Unit → Option (((List Int) × (List Int) × (List Int) × Int × Int × (List (Int × Int)) × Unit) ⊕ ((List Int) × Bool × Unit)) := fun (t1, t8, t10, t11, b3_0, b3_1, _) =>
  cond (decide (t11 < ((t10).length : Int)))
    (loopM impl_StateOfTree_L32402 (t1, t8, t10, t11, t1, ((t1).length : Int), 0, b3_0, b3_1, ()))
    (Option.map Sum.inr (some (t8, true, ())))
noncomputable def impl_StateOfTree_J61 : (List Int) × Int × (List Int) × Int × (List (Int × Int)) × Unit → Option ((List Int) × Bool × Unit) := fun (t1, t2, t8, b3_0, b3_1, _) =>
  loopM impl_StateOfTree_L506 (t1, t8, ([t2] : List Int), 0, b3_0, b3_1, ())
noncomputable def impl_StateOfTree_J12 : (List Int) × Int × Bool × Int × (List (Int × Int)) × Unit → Option ((List Int) × Bool × Unit) := fun (t1, t2, t26, b3_0, b3_1, _) =>
  cond t26
    (some (([] : List Int), false, ()))
    (chk (b3_0 = b3_0 ∧ 0 ≤ b3_0 ∧ b3_0 ≤ 17592186044416) (joinB (T := (List Int) × Int × (List Int) × Int × (List (Int × Int)) × Unit) (R := (List Int) × Bool × Unit) (loopM impl_StateOfTree_L122 (t1, t2, (List.replicate (b3_0).toNat (0 : Int)), (((List.replicate (b3_0).toNat (0 : Int))).length : Int), 0, b3_0, b3_1, ())) impl_StateOfTree_J61))
noncomputable def impl_StateOfTree : Int × (List (Int × Int)) × (List Int) × Int × Unit → Option ((List Int) × Bool × Unit) := fun (t0_0, t0_1, t1, t2, _) =>
  joinB (T := (List Int) × Int × Bool × Int × (List (Int × Int)) × Unit) (R := (List Int) × Bool × Unit) (Option.bind (impl_IsTree (t0_0, t0_1, t1, ())) fun (v2, _) => cond (!v2)
    (some (.inl (t1, t2, true, t0_0, t0_1, ())))
    (Option.bind (impl_within (t2, 0, (w64 (t0_0 - 1)), ())) fun (v3, _) => some (.inl (t1, t2, (!v3), t0_0, t0_1, ())))) impl_StateOfTree_J12
noncomputable def impl_StateOfTree_F : Fun := ⟨impl_StateOfTree_ins, [], impl_StateOfTree_outs, impl_StateOfTree⟩
noncomputable def impl_StateOfTree_orc : Orc := orcGet [(49, impl_IsTree_F), (71, impl_within_F), (80, impl_isAt_F), (81, impl_across_F), (82, slices_Contains_int_int_F)]
theorem impl_StateOfTree_eq (x : Den impl_StateOfTree_ins) : pmFn (tdGet tab) impl_StateOfTree_orc impl_StateOfTree_F.mn impl_StateOfTree_ann Go.Proofs.Try.f31 impl_StateOfTree_ins impl_StateOfTree_outs x = impl_StateOfTree x := by kernel_rfl
theorem impl_StateOfTree_c : CallsD Go.Proofs.Try.prog 31 impl_StateOfTree_F :=
  fn_contract (F := impl_StateOfTree_F) (C := impl_StateOfTree_orc) mix (chkTab_get tab_ok) (orc_cons impl_IsTree_c (orc_cons impl_within_c (orc_cons impl_isAt_c (orc_cons impl_across_c (orc_cons slices_Contains_int_int_c orc_nil))))) impl_StateOfTree_ann (fn := Go.Proofs.Try.f31) (by kernel_rfl) (by kernel_rfl) (by kernel_rfl) (by kernel_rfl) (by kernel_rfl) (fun x y h => (impl_StateOfTree_eq x).trans h)

def impl_RotorsOk_ins : List Item := [.agg 0 [.int .i64, .ro .ii], .t 1 (.ro (.int .i64)), .t 2 (.int .i64)]
def impl_RotorsOk_outs : List Item := [.t 500 (.bool)]
def impl_RotorsOk_ann : List (Nat × List Item) := [(12, [.t 1 (.ro (.int .i64)), .t 2 (.int .i64), .t 3 (.ptr 3), .t 26 (.bool), .box 3 29 [.int .i64, .ro .ii]]),
  (58, [.t 2 (.int .i64), .t 3 (.ptr 3), .t 27 (.ro (.int .i64)), .t 28 (.int .i64), .t 29 (.int .i64), .box 3 29 [.int .i64, .ro .ii]])]
noncomputable def impl_RotorsOk_L58 : Int × (List Int) × Int × Int × Int × (List (Int × Int)) × Unit → Option ((Int × (List Int) × Int × Int × Int × (List (Int × Int)) × Unit) ⊕ (Bool × Unit)) := fun (t2, t27, t28, t29, b3_0, b3_1, _) =>
  cond (decide (t29 < t28))
    (chk (0 ≤ t29 ∧ t29 < ((t27).length : Int)) (cond (t29 != t2)
    (Option.bind (impl_isAt (b3_0, b3_1, atD 0 t27 t29, t29, ())) fun (v3, _) => cond (!v3)
    (Option.map Sum.inr (some (false, ())))
    (some (.inl (t2, t27, t28, (w64 (t29 + 1)), b3_0, b3_1, ()))))
    (some (.inl (t2, t27, t28, (w64 (t29 + 1)), b3_0, b3_1, ())))))
    (Option.map Sum.inr (some (true, ())))
noncomputable def impl_RotorsOk_J12 : (List Int) × Int × Bool × Int × (List (Int × Int)) × Unit → Option (Bool × Unit) := fun (t1, t2, t26, b3_0, b3_1, _) =>
  cond t26
    (some (false, ()))
    (loopM impl_RotorsOk_L58 (t2, t1, ((t1).length : Int), 0, b3_0, b3_1, ()))
noncomputable def impl_RotorsOk : Int × (List (Int × Int)) × (List Int) × Int × Unit → Option (Bool × Unit) := fun (t0_0, t0_1, t1, t2, _) =>
  joinB (T := (List Int) × Int × Bool × Int × (List (Int × Int)) × Unit) (R := Bool × Unit) (Option.bind (impl_isVertex (t0_0, t0_1, t2, ())) fun (v2, _) => cond (!v2)
    (some (.inl (t1, t2, true, t0_0, t0_1, ())))
    (cond (((t1).length : Int) != t0_0)
    (some (.inl (t1, t2, true, t0_0, t0_1, ())))
    (chk (0 ≤ t2 ∧ t2 < ((t1).length : Int)) (some (.inl (t1, t2, (atD 0 t1 t2 != (-1)), t0_0, t0_1, ())))))) impl_RotorsOk_J12
noncomputable def impl_RotorsOk_F : Fun := ⟨impl_RotorsOk_ins, [], impl_RotorsOk_outs, impl_RotorsOk⟩
noncomputable def impl_RotorsOk_orc : Orc := orcGet [(80, impl_isAt_F), (83, impl_isVertex_F)]
theorem impl_RotorsOk_eq (x : Den impl_RotorsOk_ins) : pmFn (tdGet tab) impl_RotorsOk_orc impl_RotorsOk_F.mn impl_RotorsOk_ann Go.Proofs.Try.f32 impl_RotorsOk_ins impl_RotorsOk_outs x = impl_RotorsOk x := by kernel_rfl
theorem impl_RotorsOk_c : CallsD Go.Proofs.Try.prog 32 impl_RotorsOk_F :=
  fn_contract (F := impl_RotorsOk_F) (C := impl_RotorsOk_orc) mix (chkTab_get tab_ok) (orc_cons impl_isAt_c (orc_cons impl_isVertex_c orc_nil)) impl_RotorsOk_ann (fn := Go.Proofs.Try.f32) (by kernel_rfl) (by kernel_rfl) (by kernel_rfl) (by kernel_rfl) (by kernel_rfl) (fun x y h => (impl_RotorsOk_eq x).trans h)

def impl_NextRotor_ins : List Item := [.agg 0 [.int .i64, .ro .ii], .t 1 (.int .i64), .t 2 (.int .i64)]
def impl_NextRotor_outs : List Item := [.t 500 (.int .i64)]
def impl_NextRotor_ann : List (Nat × List Item) := [(12, [.t 1 (.int .i64), .t 2 (.int .i64), .t 3 (.ptr 3), .t 19 (.bool), .box 3 29 [.int .i64, .ro .ii]]),
  (124, [.t 1 (.int .i64), .t 3 (.ptr 3), .t 7 (.int .i64), .t 8 (.int .i64), .box 3 29 [.int .i64, .ro .ii]])]
noncomputable def impl_NextRotor_L124 : Int × Int × Int × Int × (List (Int × Int)) × Unit → Option ((Int × Int × Int × Int × (List (Int × Int)) × Unit) ⊕ (Int × Unit)) := fun (t1, t7, t8, b3_0, b3_1, _) =>
  Option.bind (impl_isAt (b3_0, b3_1, t8, t1, ())) fun (v4, _) => cond (!v4)
    (chk (t7 ≠ 0) (some (.inl (t1, t7, ((w64 (t8 + 1)).tmod t7), b3_0, b3_1, ()))))
    (Option.map Sum.inr (some (t8, ())))
noncomputable def impl_NextRotor_J12 : Int × Int × Bool × Int × (List (Int × Int)) × Unit → Option (Int × Unit) := fun (t1, t2, t19, b3_0, b3_1, _) =>
  cond t19
    (some ((-1), ()))
    (chk (((b3_1).length : Int) ≠ 0) (loopM impl_NextRotor_L124 (t1, ((b3_1).length : Int), ((w64 (t2 + 1)).tmod ((b3_1).length : Int)), b3_0, b3_1, ())))
noncomputable def impl_NextRotor : Int × (List (Int × Int)) × Int × Int × Unit → Option (Int × Unit) := fun (t0_0, t0_1, t1, t2, _) =>
  joinB (T := Int × Int × Bool × Int × (List (Int × Int)) × Unit) (R := Int × Unit) (Option.bind (impl_isVertex (t0_0, t0_1, t1, ())) fun (v2, _) => cond (!v2)
    (some (.inl (t1, t2, true, t0_0, t0_1, ())))
    (Option.bind (impl_isAt (t0_0, t0_1, t2, t1, ())) fun (v3, _) => some (.inl (t1, t2, (!v3), t0_0, t0_1, ())))) impl_NextRotor_J12
noncomputable def impl_NextRotor_F : Fun := ⟨impl_NextRotor_ins, [], impl_NextRotor_outs, impl_NextRotor⟩
noncomputable def impl_NextRotor_orc : Orc := orcGet [(80, impl_isAt_F), (83, impl_isVertex_F)]
theorem impl_NextRotor_eq (x : Den impl_NextRotor_ins) : pmFn (tdGet tab) impl_NextRotor_orc impl_NextRotor_F.mn impl_NextRotor_ann Go.Proofs.Try.f37 impl_NextRotor_ins impl_NextRotor_outs x = impl_NextRotor x := by kernel_rfl
theorem impl_NextRotor_c : CallsD Go.Proofs.Try.prog 37 impl_NextRotor_F :=
  fn_contract (F := impl_NextRotor_F) (C := impl_NextRotor_orc) mix (chkTab_get tab_ok) (orc_cons impl_isAt_c (orc_cons impl_isVertex_c orc_nil)) impl_NextRotor_ann (fn := Go.Proofs.Try.f37) (by kernel_rfl) (by kernel_rfl) (by kernel_rfl) (by kernel_rfl) (by kernel_rfl) (fun x y h => (impl_NextRotor_eq x).trans h)

def impl_WalkToSink_ins : List Item := [.agg 0 [.int .i64, .ro .ii], .t 1 (.ro (.int .i64)), .t 2 (.int .i64), .t 3 (.int .i64)]
def impl_WalkToSink_outs : List Item := [.t 500 (.own 3 (.int .i64)), .t 501 (.int .i64), .t 502 (.bool)]
def impl_WalkToSink_ann : List (Nat × List Item) := [(12, [.t 1 (.ro (.int .i64)), .t 2 (.int .i64), .t 3 (.int .i64), .t 4 (.ptr 4), .t 25 (.bool), .box 4 29 [.int .i64, .ro .ii]]),
  (124, [.t 2 (.int .i64), .t 3 (.int .i64), .t 4 (.ptr 4), .t 11 (.own 3 (.int .i64)), .t 12 (.int .i64), .box 4 29 [.int .i64, .ro .ii]])]
noncomputable def impl_WalkToSink_L124 : Int × Int × (List Int) × Int × Int × (List (Int × Int)) × Unit → Option ((Int × Int × (List Int) × Int × Int × (List (Int × Int)) × Unit) ⊕ ((List Int) × Int × Bool × Unit)) := fun (t2, t3, t11, t12, b4_0, b4_1, _) =>
  cond (t3 != t2)
    (cond (t12 == 2000)
    (Option.map Sum.inr (some (([] : List Int), 0, false, ())))
    (chk (0 ≤ t3 ∧ t3 < ((t11).length : Int)) (Option.bind (impl_NextRotor (b4_0, b4_1, t3, atD 0 t11 t3, ())) fun (v5, _) => chk (0 ≤ t3 ∧ t3 < ((t11).length : Int)) (chk (0 ≤ t3 ∧ t3 < (((t11.set (t3 : Int).toNat v5)).length : Int)) (Option.bind (impl_across (b4_0, b4_1, atD 0 (t11.set (t3 : Int).toNat v5) t3, t3, ())) fun (v6, _) => some (.inl (t2, v6, (t11.set (t3 : Int).toNat v5), (w64 (t12 + 1)), b4_0, b4_1, ())))))))
    (Option.map Sum.inr (some (t11, t12, true, ())))
noncomputable def impl_WalkToSink_J12 : (List Int) × Int × Int × Bool × Int × (List (Int × Int)) × Unit → Option ((List Int) × Int × Bool × Unit) := fun (t1, t2, t3, t25, b4_0, b4_1, _) =>
  cond t25
    (some (([] : List Int), 0, false, ()))
    (Option.bind (impl_copyInts (t1, ())) fun (v4, _) => loopM impl_WalkToSink_L124 (t2, t3, v4, 0, b4_0, b4_1, ()))
noncomputable def impl_WalkToSink : Int × (List (Int × Int)) × (List Int) × Int × Int × Unit → Option ((List Int) × Int × Bool × Unit) := fun (t0_0, t0_1, t1, t2, t3, _) =>
  joinB (T := (List Int) × Int × Int × Bool × Int × (List (Int × Int)) × Unit) (R := (List Int) × Int × Bool × Unit) (Option.bind (impl_RotorsOk (t0_0, t0_1, t1, t2, ())) fun (v2, _) => cond (!v2)
    (some (.inl (t1, t2, t3, true, t0_0, t0_1, ())))
    (Option.bind (impl_within (t3, 0, (w64 (t0_0 - 1)), ())) fun (v3, _) => some (.inl (t1, t2, t3, (!v3), t0_0, t0_1, ())))) impl_WalkToSink_J12
noncomputable def impl_WalkToSink_F : Fun := ⟨impl_WalkToSink_ins, [], impl_WalkToSink_outs, impl_WalkToSink⟩
noncomputable def impl_WalkToSink_orc : Orc := orcGet [(32, impl_RotorsOk_F), (37, impl_NextRotor_F), (71, impl_within_F), (81, impl_across_F), (85, impl_copyInts_F)]
theorem impl_WalkToSink_eq (x : Den impl_WalkToSink_ins) : pmFn (tdGet tab) impl_WalkToSink_orc impl_WalkToSink_F.mn impl_WalkToSink_ann Go.Proofs.Try.f35 impl_WalkToSink_ins impl_WalkToSink_outs x = impl_WalkToSink x := by kernel_rfl
theorem impl_WalkToSink_c : CallsD Go.Proofs.Try.prog 35 impl_WalkToSink_F :=
  fn_contract (F := impl_WalkToSink_F) (C := impl_WalkToSink_orc) mix (chkTab_get tab_ok) (orc_cons impl_RotorsOk_c (orc_cons impl_NextRotor_c (orc_cons impl_within_c (orc_cons impl_across_c (orc_cons impl_copyInts_c orc_nil))))) impl_WalkToSink_ann (fn := Go.Proofs.Try.f35) (by kernel_rfl) (by kernel_rfl) (by kernel_rfl) (by kernel_rfl) (by kernel_rfl) (fun x y h => (impl_WalkToSink_eq x).trans h)

def impl_IsTreeState_ins : List Item := [.agg 0 [.int .i64, .ro .ii], .t 1 (.ro (.int .i64)), .t 2 (.int .i64)]
def impl_IsTreeState_outs : List Item := [.t 500 (.bool)]
def impl_IsTreeState_ann : List (Nat × List Item) := [(58, [.t 1 (.ro (.int .i64)), .t 2 (.int .i64), .t 3 (.ptr 3), .t 16 (.int .i64), .t 17 (.int .i64), .box 3 29 [.int .i64, .ro .ii]]),
  (59802, [.t 1 (.ro (.int .i64)), .t 2 (.int .i64), .t 3 (.ptr 3), .t 8 (.int .i64), .t 9 (.int .i64), .t 16 (.int .i64), .t 17 (.int .i64), .box 3 29 [.int .i64, .ro .ii]]),
  (478416, [.t 1 (.ro (.int .i64)), .t 2 (.int .i64), .t 3 (.ptr 3), .t 8 (.int .i64), .t 9 (.int .i64), .t 16 (.int .i64), .t 17 (.int .i64), .t 29 (.bool), .box 3 29 [.int .i64, .ro .ii]])]
noncomputable def impl_IsTreeState_J478416 : (List Int) × Int × Int × Int × Int × Int × Bool × Int × (List (Int × Int)) × Unit → Option ((((List Int) × Int × Int × Int × Int × Int × Int × (List (Int × Int)) × Unit) ⊕ (((List Int) × Int × Int × Int × Int × (List (Int × Int)) × Unit) ⊕ Bool × Unit))) := fun (t1, t2, t8, t9, t16, t17, t29, b3_0, b3_1, _) =>
  cond t29
    (chk (0 ≤ t8 ∧ t8 < ((t1).length : Int)) (Option.bind (impl_across (b3_0, b3_1, atD 0 t1 t8, t8, ())) fun (v3, _) => some (.inl (t1, t2, v3, (w64 (t9 + 1)), t16, t17, b3_0, b3_1, ()))))
    (Option.map Sum.inr (cond (t8 != t2)
    (Option.map Sum.inr (some (false, ())))
    (some (.inl (t1, t2, t16, (w64 (t17 + 1)), b3_0, b3_1, ())))))
noncomputable def impl_IsTreeState_L59802 : (List Int) × Int × Int × Int × Int × Int × Int × (List (Int × Int)) × Unit → Option (((List Int) × Int × Int × Int × Int × Int × Int × (List (Int × Int)) × Unit) ⊕ ((((List Int) × Int × Int × Int × Int × (List (Int × Int)) × Unit) ⊕ Bool × Unit))) := fun (t1, t2, t8, t9, t16, t17, b3_0, b3_1, _) =>
  joinB (T := (List Int) × Int × Int × Int × Int × Int × Bool × Int × (List (Int × Int)) × Unit) (R := (((List Int) × Int × Int × Int × Int × Int × Int × (List (Int × Int)) × Unit) ⊕ (((List Int) × Int × Int × Int × Int × (List (Int × Int)) × Unit) ⊕ Bool × Unit))) (cond (decide (t9 < b3_0))
    (some (.inl (t1, t2, t8, t9, t16, t17, (t8 != t2), b3_0, b3_1, ())))
    (some (.inl (t1, t2, t8, t9, t16, t17, false, b3_0, b3_1, ())))) impl_IsTreeState_J478416
noncomputable def impl_IsTreeState_L58 : (List Int) × Int × Int × Int × Int × (List (Int × Int)) × Unit → Option (((List Int) × Int × Int × Int × Int × (List (Int × Int)) × Unit) ⊕ (Bool × Unit)) := fun (t1, t2, t16, t17, b3_0, b3_1, _) =>
  cond (decide (t17 < t16))
    (loopM impl_IsTreeState_L59802 (t1, t2, t17, 0, t16, t17, b3_0, b3_1, ()))
    (Option.map Sum.inr (some (true, ())))
noncomputable def impl_IsTreeState : Int × (List (Int × Int)) × (List Int) × Int × Unit → Option (Bool × Unit) := fun (t0_0, t0_1, t1, t2, _) =>
  Option.bind (impl_RotorsOk (t0_0, t0_1, t1, t2, ())) fun (v1, _) => cond (!v1)
    (some (false, ()))
    (loopM impl_IsTreeState_L58 (t1, t2, ((t1).length : Int), 0, t0_0, t0_1, ()))
noncomputable def impl_IsTreeState_F : Fun := ⟨impl_IsTreeState_ins, [], impl_IsTreeState_outs, impl_IsTreeState⟩
noncomputable def impl_IsTreeState_orc : Orc := orcGet [(32, impl_RotorsOk_F), (81, impl_across_F)]
theorem impl_IsTreeState_eq (x : Den impl_IsTreeState_ins) : pmFn (tdGet tab) impl_IsTreeState_orc impl_IsTreeState_F.mn impl_IsTreeState_ann Go.Proofs.Try.f33 impl_IsTreeState_ins impl_IsTreeState_outs x = impl_IsTreeState x := by kernel_rfl
theorem impl_IsTreeState_c : CallsD Go.Proofs.Try.prog 33 impl_IsTreeState_F :=
  fn_contract (F := impl_IsTreeState_F) (C := impl_IsTreeState_orc) mix (chkTab_get tab_ok) (orc_cons impl_RotorsOk_c (orc_cons impl_across_c orc_nil)) impl_IsTreeState_ann (fn := Go.Proofs.Try.f33) (by kernel_rfl) (by kernel_rfl) (by kernel_rfl) (by kernel_rfl) (by kernel_rfl) (fun x y h => (impl_IsTreeState_eq x).trans h)

def math_bits_Len64_ins : List Item := [.t 0 (.int .u64)]
def math_bits_Len64_outs : List Item := [.t 500 (.int .i64)]
def math_bits_Len64_ann : List (Nat × List Item) := [(13, [.t 0 (.int .u64), .t 2 (.int .i64)]),
  (29, [.t 0 (.int .u64), .t 2 (.int .i64)]),
  (61, [.t 0 (.int .u64), .t 2 (.int .i64)])]
noncomputable def math_bits_Len64_J61 : Int × Int × Unit → Option (Int × Unit) := fun (t0, t2, _) =>
  chk (0 ≤ (IntKind.u8.wrap (t0)) ∧ (IntKind.u8.wrap (t0)) < (((⟨#[0, 1, 2, 2, 3, 3, 3, 3, 4, 4, 4, 4, 4, 4, 4, 4, 5, 5, 5, 5, 5, 5, 5, 5, 5, 5, 5, 5, 5, 5, 5, 5, 6, 6, 6, 6, 6, 6, 6, 6, 6, 6, 6, 6, 6, 6, 6, 6, 6, 6, 6, 6, 6, 6, 6, 6, 6, 6, 6, 6, 6, 6, 6, 6, 7, 7, 7, 7, 7, 7, 7, 7, 7, 7, 7, 7, 7, 7, 7, 7, 7, 7, 7, 7, 7, 7, 7, 7, 7, 7, 7, 7, 7, 7, 7, 7, 7, 7, 7, 7, 7, 7, 7, 7, 7, 7, 7, 7, 7, 7, 7, 7, 7, 7, 7, 7, 7, 7, 7, 7, 7, 7, 7, 7, 7, 7, 7, 7, 8, 8, 8, 8, 8, 8, 8, 8, 8, 8, 8, 8, 8, 8, 8, 8, 8, 8, 8, 8, 8, 8, 8, 8, 8, 8, 8, 8, 8, 8, 8, 8, 8, 8, 8, 8, 8, 8, 8, 8, 8, 8, 8, 8, 8, 8, 8, 8, 8, 8, 8, 8, 8, 8, 8, 8, 8, 8, 8, 8, 8, 8, 8, 8, 8, 8, 8, 8, 8, 8, 8, 8, 8, 8, 8, 8, 8, 8, 8, 8, 8, 8, 8, 8, 8, 8, 8, 8, 8, 8, 8, 8, 8, 8, 8, 8, 8, 8, 8, 8, 8, 8, 8, 8, 8, 8, 8, 8, 8, 8, 8, 8, 8, 8, 8, 8, 8, 8, 8, 8, 8, 8, 8, 8, 8, 8, 8, 8]⟩ : ByteArray)).size : Int)) (some ((w64 (t2 + (w64 ((byteAt (⟨#[0, 1, 2, 2, 3, 3, 3, 3, 4, 4, 4, 4, 4, 4, 4, 4, 5, 5, 5, 5, 5, 5, 5, 5, 5, 5, 5, 5, 5, 5, 5, 5, 6, 6, 6, 6, 6, 6, 6, 6, 6, 6, 6, 6, 6, 6, 6, 6, 6, 6, 6, 6, 6, 6, 6, 6, 6, 6, 6, 6, 6, 6, 6, 6, 7, 7, 7, 7, 7, 7, 7, 7, 7, 7, 7, 7, 7, 7, 7, 7, 7, 7, 7, 7, 7, 7, 7, 7, 7, 7, 7, 7, 7, 7, 7, 7, 7, 7, 7, 7, 7, 7, 7, 7, 7, 7, 7, 7, 7, 7, 7, 7, 7, 7, 7, 7, 7, 7, 7, 7, 7, 7, 7, 7, 7, 7, 7, 7, 8, 8, 8, 8, 8, 8, 8, 8, 8, 8, 8, 8, 8, 8, 8, 8, 8, 8, 8, 8, 8, 8, 8, 8, 8, 8, 8, 8, 8, 8, 8, 8, 8, 8, 8, 8, 8, 8, 8, 8, 8, 8, 8, 8, 8, 8, 8, 8, 8, 8, 8, 8, 8, 8, 8, 8, 8, 8, 8, 8, 8, 8, 8, 8, 8, 8, 8, 8, 8, 8, 8, 8, 8, 8, 8, 8, 8, 8, 8, 8, 8, 8, 8, 8, 8, 8, 8, 8, 8, 8, 8, 8, 8, 8, 8, 8, 8, 8, 8, 8, 8, 8, 8, 8, 8, 8, 8, 8, 8, 8, 8, 8, 8, 8, 8, 8, 8, 8, 8, 8, 8, 8, 8, 8, 8, 8, 8, 8]⟩ : ByteArray) (IntKind.u8.wrap (t0))))))), ()))
noncomputable def math_bits_Len64_J29 : Int × Int × Unit → Option (Int × Unit) := fun (t0, t2, _) =>
  joinB (T := Int × Int × Unit) (R := Int × Unit) (cond (decide (t0 ≥ 256))
    (chk (0 ≤ 8) (some (.inl ((ishr .u64 t0 8), (w64 (t2 + 8)), ()))))
    (some (.inl (t0, t2, ())))) math_bits_Len64_J61
noncomputable def math_bits_Len64_J13 : Int × Int × Unit → Option (Int × Unit) := fun (t0, t2, _) =>
  joinB (T := Int × Int × Unit) (R := Int × Unit) (cond (decide (t0 ≥ 65536))
    (chk (0 ≤ 16) (some (.inl ((ishr .u64 t0 16), (w64 (t2 + 16)), ()))))
    (some (.inl (t0, t2, ())))) math_bits_Len64_J29
noncomputable def math_bits_Len64 : Int × Unit → Option (Int × Unit) := fun (t0, _) =>
  joinB (T := Int × Int × Unit) (R := Int × Unit) (cond (decide (t0 ≥ 4294967296))
    (chk (0 ≤ 32) (some (.inl ((ishr .u64 t0 32), 32, ()))))
    (some (.inl (t0, 0, ())))) math_bits_Len64_J13
noncomputable def math_bits_Len64_F : Fun := ⟨math_bits_Len64_ins, [], math_bits_Len64_outs, math_bits_Len64⟩
noncomputable def math_bits_Len64_orc : Orc := orcGet []
theorem math_bits_Len64_eq (x : Den math_bits_Len64_ins) : pmFn (tdGet tab) math_bits_Len64_orc math_bits_Len64_F.mn math_bits_Len64_ann Go.Proofs.Try.f153 math_bits_Len64_ins math_bits_Len64_outs x = math_bits_Len64 x := by kernel_rfl
theorem math_bits_Len64_c : CallsD Go.Proofs.Try.prog 153 math_bits_Len64_F :=
  fn_contract (F := math_bits_Len64_F) (C := math_bits_Len64_orc) mix (chkTab_get tab_ok) orc_nil math_bits_Len64_ann (fn := Go.Proofs.Try.f153) (by kernel_rfl) (by kernel_rfl) (by kernel_rfl) (by kernel_rfl) (by kernel_rfl) (fun x y h => (math_bits_Len64_eq x).trans h)

def math_bits_Len_ins : List Item := [.t 0 (.int .u64)]
def math_bits_Len_outs : List Item := [.t 500 (.int .i64)]
def math_bits_Len_ann : List (Nat × List Item) := []
noncomputable def math_bits_Len : Int × Unit → Option (Int × Unit) := fun (t0, _) =>
  Option.bind (math_bits_Len64 (t0, ())) fun (v1, _) => some (v1, ())
noncomputable def math_bits_Len_F : Fun := ⟨math_bits_Len_ins, [], math_bits_Len_outs, math_bits_Len⟩
noncomputable def math_bits_Len_orc : Orc := orcGet [(153, math_bits_Len64_F)]
theorem math_bits_Len_eq (x : Den math_bits_Len_ins) : pmFn (tdGet tab) math_bits_Len_orc math_bits_Len_F.mn math_bits_Len_ann Go.Proofs.Try.f120 math_bits_Len_ins math_bits_Len_outs x = math_bits_Len x := by kernel_rfl
theorem math_bits_Len_c : CallsD Go.Proofs.Try.prog 120 math_bits_Len_F :=
  fn_contract (F := math_bits_Len_F) (C := math_bits_Len_orc) mix (chkTab_get tab_ok) (orc_cons math_bits_Len64_c orc_nil) math_bits_Len_ann (fn := Go.Proofs.Try.f120) (by kernel_rfl) (by kernel_rfl) (by kernel_rfl) (by kernel_rfl) (by kernel_rfl) (fun x y h => (math_bits_Len_eq x).trans h)

def cmp_Less_int_ins : List Item := [.t 0 (.int .i64), .t 1 (.int .i64)]
def cmp_Less_int_outs : List Item := [.t 500 (.bool)]
def cmp_Less_int_ann : List (Nat × List Item) := []
noncomputable def cmp_Less_int : Int × Int × Unit → Option (Bool × Unit) := fun (t0, t1, _) =>
  Option.bind (cmp_isNaN_int (t0, ())) fun (v1, _) => cond v1
    (Option.bind (cmp_isNaN_int (t1, ())) fun (v2, _) => cond (!v2)
    (some (true, ()))
    (some ((decide (t0 < t1)), ())))
    (some ((decide (t0 < t1)), ()))
noncomputable def cmp_Less_int_F : Fun := ⟨cmp_Less_int_ins, [], cmp_Less_int_outs, cmp_Less_int⟩
noncomputable def cmp_Less_int_orc : Orc := orcGet [(157, cmp_isNaN_int_F)]
theorem cmp_Less_int_eq (x : Den cmp_Less_int_ins) : pmFn (tdGet tab) cmp_Less_int_orc cmp_Less_int_F.mn cmp_Less_int_ann Go.Proofs.Try.f149 cmp_Less_int_ins cmp_Less_int_outs x = cmp_Less_int x := by kernel_rfl
theorem cmp_Less_int_c : CallsD Go.Proofs.Try.prog 149 cmp_Less_int_F :=
  fn_contract (F := cmp_Less_int_F) (C := cmp_Less_int_orc) mix (chkTab_get tab_ok) (orc_cons cmp_isNaN_int_c orc_nil) cmp_Less_int_ann (fn := Go.Proofs.Try.f149) (by kernel_rfl) (by kernel_rfl) (by kernel_rfl) (by kernel_rfl) (by kernel_rfl) (fun x y h => (cmp_Less_int_eq x).trans h)

def slices_insertionSortOrdered_int_ins : List Item := [.t 0 (.own 3 (.int .i64)), .t 1 (.int .i64), .t 2 (.int .i64)]
def slices_insertionSortOrdered_int_outs : List Item := [.row 0 3 (.int .i64)]
def slices_insertionSortOrdered_int_ann : List (Nat × List Item) := [(6, [.t 0 (.al 0), .t 1 (.int .i64), .t 2 (.int .i64), .t 6 (.int .i64), .row 0 3 (.int .i64)]),
  (402, [.t 0 (.al 0), .t 1 (.int .i64), .t 2 (.int .i64), .t 6 (.int .i64), .t 7 (.int .i64), .row 0 3 (.int .i64)]),
  (3216, [.t 0 (.al 0), .t 1 (.int .i64), .t 2 (.int .i64), .t 6 (.int .i64), .t 7 (.int .i64), .t 30 (.bool), .row 0 3 (.int .i64)])]
noncomputable def slices_insertionSortOrdered_int_J3216 : Int × Int × Int × Int × Bool × (List Int) × Unit → Option (((Int × Int × Int × Int × (List Int) × Unit) ⊕ ((Int × Int × Int × (List Int) × Unit) ⊕ (List Int) × Unit))) := fun (t1, t2, t6, t7, t30, r0, _) =>
  cond t30
    (chk (0 ≤ (w64 (t7 - 1)) ∧ (w64 (t7 - 1)) < ((r0).length : Int)) (chk (0 ≤ t7 ∧ t7 < ((r0).length : Int)) (chk (0 ≤ t7 ∧ t7 < ((r0).length : Int)) (chk (0 ≤ (w64 (t7 - 1)) ∧ (w64 (t7 - 1)) < (((r0.set (t7 : Int).toNat (atD 0 r0 (w64 (t7 - 1))))).length : Int)) (some (.inl (t1, t2, t6, (w64 (t7 - 1)), ((r0.set (t7 : Int).toNat (atD 0 r0 (w64 (t7 - 1)))).set ((w64 (t7 - 1)) : Int).toNat (atD 0 r0 t7)), ())))))))
    (Option.map Sum.inr (some (.inl (t1, t2, (w64 (t6 + 1)), r0, ()))))
noncomputable def slices_insertionSortOrdered_int_L402 : Int × Int × Int × Int × (List Int) × Unit → Option ((Int × Int × Int × Int × (List Int) × Unit) ⊕ (((Int × Int × Int × (List Int) × Unit) ⊕ (List Int) × Unit))) := fun (t1, t2, t6, t7, r0, _) =>
  joinB (T := Int × Int × Int × Int × Bool × (List Int) × Unit) (R := ((Int × Int × Int × Int × (List Int) × Unit) ⊕ ((Int × Int × Int × (List Int) × Unit) ⊕ (List Int) × Unit))) (cond (decide (t7 > t1))
    (chk (0 ≤ t7 ∧ t7 < ((r0).length : Int)) (chk (0 ≤ (w64 (t7 - 1)) ∧ (w64 (t7 - 1)) < ((r0).length : Int)) (Option.bind (cmp_Less_int (atD 0 r0 t7, atD 0 r0 (w64 (t7 - 1)), ())) fun (v2, _) => some (.inl (t1, t2, t6, t7, v2, r0, ())))))
    (some (.inl (t1, t2, t6, t7, false, r0, ())))) slices_insertionSortOrdered_int_J3216
noncomputable def slices_insertionSortOrdered_int_L6 : Int × Int × Int × (List Int) × Unit → Option ((Int × Int × Int × (List Int) × Unit) ⊕ ((List Int) × Unit)) := fun (t1, t2, t6, r0, _) =>
  cond (decide (t6 < t2))
    (loopM slices_insertionSortOrdered_int_L402 (t1, t2, t6, t6, r0, ()))
    (Option.map Sum.inr (some (r0, ())))
noncomputable def slices_insertionSortOrdered_int : (List Int) × Int × Int × Unit → Option ((List Int) × Unit) := fun (t0, t1, t2, _) =>
  loopM slices_insertionSortOrdered_int_L6 (t1, t2, (w64 (t1 + 1)), t0, ())
noncomputable def slices_insertionSortOrdered_int_F : Fun := ⟨slices_insertionSortOrdered_int_ins, [0], slices_insertionSortOrdered_int_outs, slices_insertionSortOrdered_int⟩
noncomputable def slices_insertionSortOrdered_int_orc : Orc := orcGet [(149, cmp_Less_int_F)]
theorem slices_insertionSortOrdered_int_eq (x : Den slices_insertionSortOrdered_int_ins) : pmFn (tdGet tab) slices_insertionSortOrdered_int_orc slices_insertionSortOrdered_int_F.mn slices_insertionSortOrdered_int_ann Go.Proofs.Try.f143 slices_insertionSortOrdered_int_ins slices_insertionSortOrdered_int_outs x = slices_insertionSortOrdered_int x := by kernel_rfl
theorem slices_insertionSortOrdered_int_c : CallsD Go.Proofs.Try.prog 143 slices_insertionSortOrdered_int_F :=
  fn_contract (F := slices_insertionSortOrdered_int_F) (C := slices_insertionSortOrdered_int_orc) mix (chkTab_get tab_ok) (orc_cons cmp_Less_int_c orc_nil) slices_insertionSortOrdered_int_ann (fn := Go.Proofs.Try.f143) (by kernel_rfl) (by kernel_rfl) (by kernel_rfl) (by kernel_rfl) (by kernel_rfl) (fun x y h => (slices_insertionSortOrdered_int_eq x).trans h)

def slices_siftDownOrdered_int_ins : List Item := [.t 0 (.own 3 (.int .i64)), .t 1 (.int .i64), .t 2 (.int .i64), .t 3 (.int .i64)]
def slices_siftDownOrdered_int_outs : List Item := [.row 0 3 (.int .i64)]
def slices_siftDownOrdered_int_ann : List (Nat × List Item) := [(6, [.t 0 (.al 0), .t 2 (.int .i64), .t 3 (.int .i64), .t 8 (.int .i64), .row 0 3 (.int .i64)]),
  (396, [.t 0 (.al 0), .t 2 (.int .i64), .t 3 (.int .i64), .t 8 (.int .i64), .t 9 (.int .i64), .t 36 (.bool), .row 0 3 (.int .i64)]),
  (397, [.t 0 (.al 0), .t 2 (.int .i64), .t 3 (.int .i64), .t 8 (.int .i64), .t 9 (.int .i64), .row 0 3 (.int .i64)])]
noncomputable def slices_siftDownOrdered_int_J397 : Int × Int × Int × Int × (List Int) × Unit → Option (((Int × Int × Int × (List Int) × Unit) ⊕ (List Int) × Unit)) := fun (t2, t3, t8, t9, r0, _) =>
  chk (0 ≤ (w64 (t3 + t8)) ∧ (w64 (t3 + t8)) < ((r0).length : Int)) (chk (0 ≤ (w64 (t3 + t9)) ∧ (w64 (t3 + t9)) < ((r0).length : Int)) (Option.bind (cmp_Less_int (atD 0 r0 (w64 (t3 + t8)), atD 0 r0 (w64 (t3 + t9)), ())) fun (v4, _) => cond (!v4)
    (Option.map Sum.inr (some (r0, ())))
    (chk (0 ≤ (w64 (t3 + t9)) ∧ (w64 (t3 + t9)) < ((r0).length : Int)) (chk (0 ≤ (w64 (t3 + t8)) ∧ (w64 (t3 + t8)) < ((r0).length : Int)) (chk (0 ≤ (w64 (t3 + t8)) ∧ (w64 (t3 + t8)) < ((r0).length : Int)) (chk (0 ≤ (w64 (t3 + t9)) ∧ (w64 (t3 + t9)) < (((r0.set ((w64 (t3 + t8)) : Int).toNat (atD 0 r0 (w64 (t3 + t9))))).length : Int)) (some (.inl (t2, t3, t9, ((r0.set ((w64 (t3 + t8)) : Int).toNat (atD 0 r0 (w64 (t3 + t9)))).set ((w64 (t3 + t9)) : Int).toNat (atD 0 r0 (w64 (t3 + t8)))), ())))))))))
noncomputable def slices_siftDownOrdered_int_J396 : Int × Int × Int × Int × Bool × (List Int) × Unit → Option (((Int × Int × Int × (List Int) × Unit) ⊕ (List Int) × Unit)) := fun (t2, t3, t8, t9, t36, r0, _) =>
  joinB (T := Int × Int × Int × Int × (List Int) × Unit) (R := ((Int × Int × Int × (List Int) × Unit) ⊕ (List Int) × Unit)) (cond t36
    (some (.inl (t2, t3, t8, (w64 (t9 + 1)), r0, ())))
    (some (.inl (t2, t3, t8, t9, r0, ())))) slices_siftDownOrdered_int_J397
noncomputable def slices_siftDownOrdered_int_L6 : Int × Int × Int × (List Int) × Unit → Option ((Int × Int × Int × (List Int) × Unit) ⊕ ((List Int) × Unit)) := fun (t2, t3, t8, r0, _) =>
  cond (decide ((w64 ((w64 (2 * t8)) + 1)) ≥ t2))
    (Option.map Sum.inr (some (r0, ())))
    (joinB (T := Int × Int × Int × Int × Bool × (List Int) × Unit) (R := ((Int × Int × Int × (List Int) × Unit) ⊕ (List Int) × Unit)) (cond (decide ((w64 ((w64 ((w64 (2 * t8)) + 1)) + 1)) < t2))
    (chk (0 ≤ (w64 (t3 + (w64 ((w64 (2 * t8)) + 1)))) ∧ (w64 (t3 + (w64 ((w64 (2 * t8)) + 1)))) < ((r0).length : Int)) (chk (0 ≤ (w64 ((w64 (t3 + (w64 ((w64 (2 * t8)) + 1)))) + 1)) ∧ (w64 ((w64 (t3 + (w64 ((w64 (2 * t8)) + 1)))) + 1)) < ((r0).length : Int)) (Option.bind (cmp_Less_int (atD 0 r0 (w64 (t3 + (w64 ((w64 (2 * t8)) + 1)))), atD 0 r0 (w64 ((w64 (t3 + (w64 ((w64 (2 * t8)) + 1)))) + 1)), ())) fun (v2, _) => some (.inl (t2, t3, t8, (w64 ((w64 (2 * t8)) + 1)), v2, r0, ())))))
    (some (.inl (t2, t3, t8, (w64 ((w64 (2 * t8)) + 1)), false, r0, ())))) slices_siftDownOrdered_int_J396)
noncomputable def slices_siftDownOrdered_int : (List Int) × Int × Int × Int × Unit → Option ((List Int) × Unit) := fun (t0, t1, t2, t3, _) =>
  loopM slices_siftDownOrdered_int_L6 (t2, t3, t1, t0, ())
noncomputable def slices_siftDownOrdered_int_F : Fun := ⟨slices_siftDownOrdered_int_ins, [0], slices_siftDownOrdered_int_outs, slices_siftDownOrdered_int⟩
noncomputable def slices_siftDownOrdered_int_orc : Orc := orcGet [(149, cmp_Less_int_F)]
theorem slices_siftDownOrdered_int_eq (x : Den slices_siftDownOrdered_int_ins) : pmFn (tdGet tab) slices_siftDownOrdered_int_orc slices_siftDownOrdered_int_F.mn slices_siftDownOrdered_int_ann Go.Proofs.Try.f161 slices_siftDownOrdered_int_ins slices_siftDownOrdered_int_outs x = slices_siftDownOrdered_int x := by kernel_rfl
theorem slices_siftDownOrdered_int_c : CallsD Go.Proofs.Try.prog 161 slices_siftDownOrdered_int_F :=
  fn_contract (F := slices_siftDownOrdered_int_F) (C := slices_siftDownOrdered_int_orc) mix (chkTab_get tab_ok) (orc_cons cmp_Less_int_c orc_nil) slices_siftDownOrdered_int_ann (fn := Go.Proofs.Try.f161) (by kernel_rfl) (by kernel_rfl) (by kernel_rfl) (by kernel_rfl) (by kernel_rfl) (fun x y h => (slices_siftDownOrdered_int_eq x).trans h)

def slices_heapSortOrdered_int_ins : List Item := [.t 0 (.own 3 (.int .i64)), .t 1 (.int .i64), .t 2 (.int .i64)]
def slices_heapSortOrdered_int_outs : List Item := [.row 0 3 (.int .i64)]
def slices_heapSortOrdered_int_ann : List (Nat × List Item) := [(61, [.t 0 (.al 0), .t 6 (.int .i64), .t 7 (.int .i64), .t 8 (.int .i64), .row 0 3 (.int .i64)]),
  (122, [.t 0 (.al 0), .t 6 (.int .i64), .t 7 (.int .i64), .t 8 (.int .i64), .t 9 (.int .i64), .row 0 3 (.int .i64)]),
  (126, [.t 0 (.al 0), .t 6 (.int .i64), .t 7 (.int .i64), .t 10 (.int .i64), .row 0 3 (.int .i64)])]
noncomputable def slices_heapSortOrdered_int_L122 : Int × Int × Int × Int × (List Int) × Unit → Option ((Int × Int × Int × Int × (List Int) × Unit) ⊕ (((Int × Int × Int × (List Int) × Unit) ⊕ (List Int) × Unit))) := fun (t6, t7, t8, t9, r0, _) =>
  cond (decide (t9 ≥ 0))
    (Option.bind (slices_siftDownOrdered_int (r0, t9, t8, t6, ())) fun (v2, _) => some (.inl (t6, t7, t8, (w64 (t9 - 1)), v2, ())))
    (Option.map Sum.inr (some (.inl (t6, t7, t8, r0, ()))))
noncomputable def slices_heapSortOrdered_int_L126 : Int × Int × Int × (List Int) × Unit → Option ((Int × Int × Int × (List Int) × Unit) ⊕ ((List Int) × Unit)) := fun (t6, t7, t10, r0, _) =>
  cond (decide (t10 ≥ 0))
    (chk (0 ≤ (w64 (t6 + t10)) ∧ (w64 (t6 + t10)) < ((r0).length : Int)) (chk (0 ≤ t6 ∧ t6 < ((r0).length : Int)) (chk (0 ≤ t6 ∧ t6 < ((r0).length : Int)) (chk (0 ≤ (w64 (t6 + t10)) ∧ (w64 (t6 + t10)) < (((r0.set (t6 : Int).toNat (atD 0 r0 (w64 (t6 + t10))))).length : Int)) (Option.bind (slices_siftDownOrdered_int (((r0.set (t6 : Int).toNat (atD 0 r0 (w64 (t6 + t10)))).set ((w64 (t6 + t10)) : Int).toNat (atD 0 r0 t6)), t7, t10, t6, ())) fun (v3, _) => some (.inl (t6, t7, (w64 (t10 - 1)), v3, ())))))))
    (Option.map Sum.inr (some (r0, ())))
noncomputable def slices_heapSortOrdered_int_J61 : Int × Int × Int × (List Int) × Unit → Option ((List Int) × Unit) := fun (t6, t7, t8, r0, _) =>
  loopM slices_heapSortOrdered_int_L126 (t6, t7, (w64 (t8 - 1)), r0, ())
noncomputable def slices_heapSortOrdered_int : (List Int) × Int × Int × Unit → Option ((List Int) × Unit) := fun (t0, t1, t2, _) =>
  chk (2 ≠ 0) (joinB (T := Int × Int × Int × (List Int) × Unit) (R := (List Int) × Unit) (loopM slices_heapSortOrdered_int_L122 (t1, 0, (w64 (t2 - t1)), (w64 ((w64 ((w64 (t2 - t1)) - 1)).tdiv 2)), t0, ())) slices_heapSortOrdered_int_J61)
noncomputable def slices_heapSortOrdered_int_F : Fun := ⟨slices_heapSortOrdered_int_ins, [0], slices_heapSortOrdered_int_outs, slices_heapSortOrdered_int⟩
noncomputable def slices_heapSortOrdered_int_orc : Orc := orcGet [(161, slices_siftDownOrdered_int_F)]
theorem slices_heapSortOrdered_int_eq (x : Den slices_heapSortOrdered_int_ins) : pmFn (tdGet tab) slices_heapSortOrdered_int_orc slices_heapSortOrdered_int_F.mn slices_heapSortOrdered_int_ann Go.Proofs.Try.f144 slices_heapSortOrdered_int_ins slices_heapSortOrdered_int_outs x = slices_heapSortOrdered_int x := by kernel_rfl
theorem slices_heapSortOrdered_int_c : CallsD Go.Proofs.Try.prog 144 slices_heapSortOrdered_int_F :=
  fn_contract (F := slices_heapSortOrdered_int_F) (C := slices_heapSortOrdered_int_orc) mix (chkTab_get tab_ok) (orc_cons slices_siftDownOrdered_int_c orc_nil) slices_heapSortOrdered_int_ann (fn := Go.Proofs.Try.f144) (by kernel_rfl) (by kernel_rfl) (by kernel_rfl) (by kernel_rfl) (by kernel_rfl) (fun x y h => (slices_heapSortOrdered_int_eq x).trans h)

def slices_nextPowerOfTwo_ins : List Item := [.t 0 (.int .i64)]
def slices_nextPowerOfTwo_outs : List Item := [.t 500 (.int .u64)]
def slices_nextPowerOfTwo_ann : List (Nat × List Item) := []
noncomputable def slices_nextPowerOfTwo : Int × Unit → Option (Int × Unit) := fun (t0, _) =>
  Option.bind (math_bits_Len ((IntKind.u64.wrap (t0)), ())) fun (v1, _) => chk (0 ≤ v1) (some ((ishl .u64 1 v1), ()))
noncomputable def slices_nextPowerOfTwo_F : Fun := ⟨slices_nextPowerOfTwo_ins, [], slices_nextPowerOfTwo_outs, slices_nextPowerOfTwo⟩
noncomputable def slices_nextPowerOfTwo_orc : Orc := orcGet [(120, math_bits_Len_F)]
theorem slices_nextPowerOfTwo_eq (x : Den slices_nextPowerOfTwo_ins) : pmFn (tdGet tab) slices_nextPowerOfTwo_orc slices_nextPowerOfTwo_F.mn slices_nextPowerOfTwo_ann Go.Proofs.Try.f162 slices_nextPowerOfTwo_ins slices_nextPowerOfTwo_outs x = slices_nextPowerOfTwo x := by kernel_rfl
theorem slices_nextPowerOfTwo_c : CallsD Go.Proofs.Try.prog 162 slices_nextPowerOfTwo_F :=
  fn_contract (F := slices_nextPowerOfTwo_F) (C := slices_nextPowerOfTwo_orc) mix (chkTab_get tab_ok) (orc_cons math_bits_Len_c orc_nil) slices_nextPowerOfTwo_ann (fn := Go.Proofs.Try.f162) (by kernel_rfl) (by kernel_rfl) (by kernel_rfl) (by kernel_rfl) (by kernel_rfl) (fun x y h => (slices_nextPowerOfTwo_eq x).trans h)

def slices_xorshift_Next_ins : List Item := [.t 0 (.ptr 900), .box 900 150 [.int .u64]]
def slices_xorshift_Next_outs : List Item := [.t 500 (.int .u64), .box 900 150 [.int .u64]]
def slices_xorshift_Next_ann : List (Nat × List Item) := []
noncomputable def slices_xorshift_Next : Int × Unit → Option (Int × Int × Unit) := fun (b900_0, _) =>
  chk (0 ≤ 13) (chk (0 ≤ 7) (chk (0 ≤ 17) (some ((ixor .u64 (ixor .u64 (ixor .u64 b900_0 (ishl .u64 b900_0 13)) (ishr .u64 (ixor .u64 b900_0 (ishl .u64 b900_0 13)) 7)) (ishl .u64 (ixor .u64 (ixor .u64 b900_0 (ishl .u64 b900_0 13)) (ishr .u64 (ixor .u64 b900_0 (ishl .u64 b900_0 13)) 7)) 17)), (ixor .u64 (ixor .u64 (ixor .u64 b900_0 (ishl .u64 b900_0 13)) (ishr .u64 (ixor .u64 b900_0 (ishl .u64 b900_0 13)) 7)) (ishl .u64 (ixor .u64 (ixor .u64 b900_0 (ishl .u64 b900_0 13)) (ishr .u64 (ixor .u64 b900_0 (ishl .u64 b900_0 13)) 7)) 17)), ()))))
noncomputable def slices_xorshift_Next_F : Fun := ⟨slices_xorshift_Next_ins, [900], slices_xorshift_Next_outs, slices_xorshift_Next⟩
noncomputable def slices_xorshift_Next_orc : Orc := orcGet []
theorem slices_xorshift_Next_eq (x : Den slices_xorshift_Next_ins) : pmFn (tdGet tab) slices_xorshift_Next_orc slices_xorshift_Next_F.mn slices_xorshift_Next_ann Go.Proofs.Try.f163 slices_xorshift_Next_ins slices_xorshift_Next_outs x = slices_xorshift_Next x := by kernel_rfl
theorem slices_xorshift_Next_c : CallsD Go.Proofs.Try.prog 163 slices_xorshift_Next_F :=
  fn_contract (F := slices_xorshift_Next_F) (C := slices_xorshift_Next_orc) mix (chkTab_get tab_ok) orc_nil slices_xorshift_Next_ann (fn := Go.Proofs.Try.f163) (by kernel_rfl) (by kernel_rfl) (by kernel_rfl) (by kernel_rfl) (by kernel_rfl) (fun x y h => (slices_xorshift_Next_eq x).trans h)

def slices_breakPatternsOrdered_int_ins : List Item := [.t 0 (.own 3 (.int .i64)), .t 1 (.int .i64), .t 2 (.int .i64)]
def slices_breakPatternsOrdered_int_outs : List Item := [.row 0 3 (.int .i64)]
def slices_breakPatternsOrdered_int_ann : List (Nat × List Item) := [(238, [.t 0 (.al 0), .t 1 (.int .i64), .t 6 (.int .i64), .t 7 (.ptr 7), .t 8 (.int .u64), .t 9 (.int .i64), .box 7 150 [.int .u64], .row 0 3 (.int .i64)]),
  (30501, [.t 0 (.al 0), .t 1 (.int .i64), .t 6 (.int .i64), .t 7 (.ptr 7), .t 8 (.int .u64), .t 9 (.int .i64), .t 10 (.int .i64), .box 7 150 [.int .u64], .row 0 3 (.int .i64)])]
noncomputable def slices_breakPatternsOrdered_int_J30501 : Int × Int × Int × Int × Int × Int × (List Int) × Unit → Option (((Int × Int × Int × Int × Int × (List Int) × Unit) ⊕ (List Int) × Unit)) := fun (t1, t6, t8, t9, t10, b7_0, r0, _) =>
  chk (0 ≤ (w64 (t1 + t10)) ∧ (w64 (t1 + t10)) < ((r0).length : Int)) (chk (0 ≤ t9 ∧ t9 < ((r0).length : Int)) (chk (0 ≤ t9 ∧ t9 < ((r0).length : Int)) (chk (0 ≤ (w64 (t1 + t10)) ∧ (w64 (t1 + t10)) < (((r0.set (t9 : Int).toNat (atD 0 r0 (w64 (t1 + t10))))).length : Int)) (some (.inl (t1, t6, t8, (w64 (t9 + 1)), b7_0, ((r0.set (t9 : Int).toNat (atD 0 r0 (w64 (t1 + t10)))).set ((w64 (t1 + t10)) : Int).toNat (atD 0 r0 t9)), ()))))))
noncomputable def slices_breakPatternsOrdered_int_L238 : Int × Int × Int × Int × Int × (List Int) × Unit → Option ((Int × Int × Int × Int × Int × (List Int) × Unit) ⊕ ((List Int) × Unit)) := fun (t1, t6, t8, t9, b7_0, r0, _) =>
  chk (4 ≠ 0) (cond (decide (t9 ≤ (w64 ((w64 (t1 + (w64 ((w64 (t6.tdiv 4)) * 2)))) + 1))))
    (Option.bind (slices_xorshift_Next (b7_0, ())) fun (v2, v3, _) => joinB (T := Int × Int × Int × Int × Int × Int × (List Int) × Unit) (R := ((Int × Int × Int × Int × Int × (List Int) × Unit) ⊕ (List Int) × Unit)) (cond (decide ((w64 ((iand .u64 v2 (IntKind.u64.wrap (t8 - 1))))) ≥ t6))
    (some (.inl (t1, t6, t8, t9, (w64 ((w64 ((iand .u64 v2 (IntKind.u64.wrap (t8 - 1))))) - t6)), v3, r0, ())))
    (some (.inl (t1, t6, t8, t9, (w64 ((iand .u64 v2 (IntKind.u64.wrap (t8 - 1))))), v3, r0, ())))) slices_breakPatternsOrdered_int_J30501)
    (Option.map Sum.inr (some (r0, ()))))
noncomputable def slices_breakPatternsOrdered_int : (List Int) × Int × Int × Unit → Option ((List Int) × Unit) := fun (t0, t1, t2, _) =>
  cond (decide ((w64 (t2 - t1)) ≥ 8))
    (Option.bind (slices_nextPowerOfTwo ((w64 (t2 - t1)), ())) fun (v1, _) => chk (4 ≠ 0) (loopM slices_breakPatternsOrdered_int_L238 (t1, (w64 (t2 - t1)), v1, (w64 ((w64 (t1 + (w64 ((w64 ((w64 (t2 - t1)).tdiv 4)) * 2)))) - 1)), (IntKind.u64.wrap ((w64 (t2 - t1)))), t0, ())))
    (some (t0, ()))
noncomputable def slices_breakPatternsOrdered_int_F : Fun := ⟨slices_breakPatternsOrdered_int_ins, [0], slices_breakPatternsOrdered_int_outs, slices_breakPatternsOrdered_int⟩
noncomputable def slices_breakPatternsOrdered_int_orc : Orc := orcGet [(162, slices_nextPowerOfTwo_F), (163, slices_xorshift_Next_F)]
theorem slices_breakPatternsOrdered_int_eq (x : Den slices_breakPatternsOrdered_int_ins) : pmFn (tdGet tab) slices_breakPatternsOrdered_int_orc slices_breakPatternsOrdered_int_F.mn slices_breakPatternsOrdered_int_ann Go.Proofs.Try.f145 slices_breakPatternsOrdered_int_ins slices_breakPatternsOrdered_int_outs x = slices_breakPatternsOrdered_int x := by kernel_rfl
theorem slices_breakPatternsOrdered_int_c : CallsD Go.Proofs.Try.prog 145 slices_breakPatternsOrdered_int_F :=
  fn_contract (F := slices_breakPatternsOrdered_int_F) (C := slices_breakPatternsOrdered_int_orc) mix (chkTab_get tab_ok) (orc_cons slices_nextPowerOfTwo_c (orc_cons slices_xorshift_Next_c orc_nil)) slices_breakPatternsOrdered_int_ann (fn := Go.Proofs.Try.f145) (by kernel_rfl) (by kernel_rfl) (by kernel_rfl) (by kernel_rfl) (by kernel_rfl) (fun x y h => (slices_breakPatternsOrdered_int_eq x).trans h)

def slices_order2Ordered_int_ins : List Item := [.t 0 (.ro (.int .i64)), .t 1 (.int .i64), .t 2 (.int .i64), .t 3 (.ptr 903), .box 903 3 [.int .i64]]
def slices_order2Ordered_int_outs : List Item := [.t 500 (.int .i64), .t 501 (.int .i64), .box 903 3 [.int .i64]]
def slices_order2Ordered_int_ann : List (Nat × List Item) := []
noncomputable def slices_order2Ordered_int : (List Int) × Int × Int × Int × Unit → Option (Int × Int × Int × Unit) := fun (t0, t1, t2, b903_0, _) =>
  chk (0 ≤ t2 ∧ t2 < ((t0).length : Int)) (chk (0 ≤ t1 ∧ t1 < ((t0).length : Int)) (Option.bind (cmp_Less_int (atD 0 t0 t2, atD 0 t0 t1, ())) fun (v1, _) => cond v1
    (some (t2, t1, (w64 (b903_0 + 1)), ()))
    (some (t1, t2, b903_0, ()))))
noncomputable def slices_order2Ordered_int_F : Fun := ⟨slices_order2Ordered_int_ins, [903], slices_order2Ordered_int_outs, slices_order2Ordered_int⟩
noncomputable def slices_order2Ordered_int_orc : Orc := orcGet [(149, cmp_Less_int_F)]
theorem slices_order2Ordered_int_eq (x : Den slices_order2Ordered_int_ins) : pmFn (tdGet tab) slices_order2Ordered_int_orc slices_order2Ordered_int_F.mn slices_order2Ordered_int_ann Go.Proofs.Try.f168 slices_order2Ordered_int_ins slices_order2Ordered_int_outs x = slices_order2Ordered_int x := by kernel_rfl
theorem slices_order2Ordered_int_c : CallsD Go.Proofs.Try.prog 168 slices_order2Ordered_int_F :=
  fn_contract (F := slices_order2Ordered_int_F) (C := slices_order2Ordered_int_orc) mix (chkTab_get tab_ok) (orc_cons cmp_Less_int_c orc_nil) slices_order2Ordered_int_ann (fn := Go.Proofs.Try.f168) (by kernel_rfl) (by kernel_rfl) (by kernel_rfl) (by kernel_rfl) (by kernel_rfl) (fun x y h => (slices_order2Ordered_int_eq x).trans h)

def slices_medianOrdered_int_ins : List Item := [.t 0 (.ro (.int .i64)), .t 1 (.int .i64), .t 2 (.int .i64), .t 3 (.int .i64), .t 4 (.ptr 904), .box 904 3 [.int .i64]]
def slices_medianOrdered_int_outs : List Item := [.t 500 (.int .i64), .box 904 3 [.int .i64]]
def slices_medianOrdered_int_ann : List (Nat × List Item) := []
noncomputable def slices_medianOrdered_int : (List Int) × Int × Int × Int × Int × Unit → Option (Int × Int × Unit) := fun (t0, t1, t2, t3, b904_0, _) =>
  Option.bind (slices_order2Ordered_int (t0, t1, t2, b904_0, ())) fun (v1, v2, v3, _) => Option.bind (slices_order2Ordered_int (t0, v2, t3, v3, ())) fun (v4, v5, v6, _) => Option.bind (slices_order2Ordered_int (t0, v1, v4, v6, ())) fun (v7, v8, v9, _) => some (v8, v9, ())
noncomputable def slices_medianOrdered_int_F : Fun := ⟨slices_medianOrdered_int_ins, [904], slices_medianOrdered_int_outs, slices_medianOrdered_int⟩
noncomputable def slices_medianOrdered_int_orc : Orc := orcGet [(168, slices_order2Ordered_int_F)]
theorem slices_medianOrdered_int_eq (x : Den slices_medianOrdered_int_ins) : pmFn (tdGet tab) slices_medianOrdered_int_orc slices_medianOrdered_int_F.mn slices_medianOrdered_int_ann Go.Proofs.Try.f165 slices_medianOrdered_int_ins slices_medianOrdered_int_outs x = slices_medianOrdered_int x := by kernel_rfl
theorem slices_medianOrdered_int_c : CallsD Go.Proofs.Try.prog 165 slices_medianOrdered_int_F :=
  fn_contract (F := slices_medianOrdered_int_F) (C := slices_medianOrdered_int_orc) mix (chkTab_get tab_ok) (orc_cons slices_order2Ordered_int_c orc_nil) slices_medianOrdered_int_ann (fn := Go.Proofs.Try.f165) (by kernel_rfl) (by kernel_rfl) (by kernel_rfl) (by kernel_rfl) (by kernel_rfl) (fun x y h => (slices_medianOrdered_int_eq x).trans h)

def slices_medianAdjacentOrdered_int_ins : List Item := [.t 0 (.ro (.int .i64)), .t 1 (.int .i64), .t 2 (.ptr 902), .box 902 3 [.int .i64]]
def slices_medianAdjacentOrdered_int_outs : List Item := [.t 500 (.int .i64), .box 902 3 [.int .i64]]
def slices_medianAdjacentOrdered_int_ann : List (Nat × List Item) := []
noncomputable def slices_medianAdjacentOrdered_int : (List Int) × Int × Int × Unit → Option (Int × Int × Unit) := fun (t0, t1, b902_0, _) =>
  Option.bind (slices_medianOrdered_int (t0, (w64 (t1 - 1)), t1, (w64 (t1 + 1)), b902_0, ())) fun (v1, v2, _) => some (v1, v2, ())
noncomputable def slices_medianAdjacentOrdered_int_F : Fun := ⟨slices_medianAdjacentOrdered_int_ins, [902], slices_medianAdjacentOrdered_int_outs, slices_medianAdjacentOrdered_int⟩
noncomputable def slices_medianAdjacentOrdered_int_orc : Orc := orcGet [(165, slices_medianOrdered_int_F)]
theorem slices_medianAdjacentOrdered_int_eq (x : Den slices_medianAdjacentOrdered_int_ins) : pmFn (tdGet tab) slices_medianAdjacentOrdered_int_orc slices_medianAdjacentOrdered_int_F.mn slices_medianAdjacentOrdered_int_ann Go.Proofs.Try.f164 slices_medianAdjacentOrdered_int_ins slices_medianAdjacentOrdered_int_outs x = slices_medianAdjacentOrdered_int x := by kernel_rfl
theorem slices_medianAdjacentOrdered_int_c : CallsD Go.Proofs.Try.prog 164 slices_medianAdjacentOrdered_int_F :=
  fn_contract (F := slices_medianAdjacentOrdered_int_F) (C := slices_medianAdjacentOrdered_int_orc) mix (chkTab_get tab_ok) (orc_cons slices_medianOrdered_int_c orc_nil) slices_medianAdjacentOrdered_int_ann (fn := Go.Proofs.Try.f164) (by kernel_rfl) (by kernel_rfl) (by kernel_rfl) (by kernel_rfl) (by kernel_rfl) (fun x y h => (slices_medianAdjacentOrdered_int_eq x).trans h)

def slices_choosePivotOrdered_int_ins : List Item := [.t 0 (.ro (.int .i64)), .t 1 (.int .i64), .t 2 (.int .i64)]
def slices_choosePivotOrdered_int_outs : List Item := [.t 500 (.int .i64), .t 501 (.int .i64)]
def slices_choosePivotOrdered_int_ann : List (Nat × List Item) := []
noncomputable def slices_choosePivotOrdered_int : (List Int) × Int × Int × Unit → Option (Int × Int × Unit) := fun (t0, t1, t2, _) =>
  chk (4 ≠ 0) (chk (4 ≠ 0) (chk (4 ≠ 0) (cond (decide ((w64 (t2 - t1)) ≥ 8))
    (cond (decide ((w64 (t2 - t1)) ≥ 50))
    (Option.bind (slices_medianAdjacentOrdered_int (t0, (w64 (t1 + (w64 ((w64 ((w64 (t2 - t1)).tdiv 4)) * 1)))), 0, ())) fun (v1, v2, _) => Option.bind (slices_medianAdjacentOrdered_int (t0, (w64 (t1 + (w64 ((w64 ((w64 (t2 - t1)).tdiv 4)) * 2)))), v2, ())) fun (v3, v4, _) => Option.bind (slices_medianAdjacentOrdered_int (t0, (w64 (t1 + (w64 ((w64 ((w64 (t2 - t1)).tdiv 4)) * 3)))), v4, ())) fun (v5, v6, _) => Option.bind (slices_medianOrdered_int (t0, v1, v3, v5, v6, ())) fun (v7, v8, _) => cond (v8 == 0)
    (some (v7, 1, ()))
    (cond (v8 == 12)
    (some (v7, 2, ()))
    (some (v7, 0, ()))))
    (Option.bind (slices_medianOrdered_int (t0, (w64 (t1 + (w64 ((w64 ((w64 (t2 - t1)).tdiv 4)) * 1)))), (w64 (t1 + (w64 ((w64 ((w64 (t2 - t1)).tdiv 4)) * 2)))), (w64 (t1 + (w64 ((w64 ((w64 (t2 - t1)).tdiv 4)) * 3)))), 0, ())) fun (v9, v10, _) => cond (v10 == 0)
    (some (v9, 1, ()))
    (cond (v10 == 12)
    (some (v9, 2, ()))
    (some (v9, 0, ())))))
    (cond (0 == 0)
    (some ((w64 (t1 + (w64 ((w64 ((w64 (t2 - t1)).tdiv 4)) * 2)))), 1, ()))
    (cond (0 == 12)
    (some ((w64 (t1 + (w64 ((w64 ((w64 (t2 - t1)).tdiv 4)) * 2)))), 2, ()))
    (some ((w64 (t1 + (w64 ((w64 ((w64 (t2 - t1)).tdiv 4)) * 2)))), 0, ())))))))
noncomputable def slices_choosePivotOrdered_int_F : Fun := ⟨slices_choosePivotOrdered_int_ins, [], slices_choosePivotOrdered_int_outs, slices_choosePivotOrdered_int⟩
noncomputable def slices_choosePivotOrdered_int_orc : Orc := orcGet [(164, slices_medianAdjacentOrdered_int_F), (165, slices_medianOrdered_int_F)]
theorem slices_choosePivotOrdered_int_eq (x : Den slices_choosePivotOrdered_int_ins) : pmFn (tdGet tab) slices_choosePivotOrdered_int_orc slices_choosePivotOrdered_int_F.mn slices_choosePivotOrdered_int_ann Go.Proofs.Try.f146 slices_choosePivotOrdered_int_ins slices_choosePivotOrdered_int_outs x = slices_choosePivotOrdered_int x := by kernel_rfl
theorem slices_choosePivotOrdered_int_c : CallsD Go.Proofs.Try.prog 146 slices_choosePivotOrdered_int_F :=
  fn_contract (F := slices_choosePivotOrdered_int_F) (C := slices_choosePivotOrdered_int_orc) mix (chkTab_get tab_ok) (orc_cons slices_medianAdjacentOrdered_int_c (orc_cons slices_medianOrdered_int_c orc_nil)) slices_choosePivotOrdered_int_ann (fn := Go.Proofs.Try.f146) (by kernel_rfl) (by kernel_rfl) (by kernel_rfl) (by kernel_rfl) (by kernel_rfl) (fun x y h => (slices_choosePivotOrdered_int_eq x).trans h)

def slices_reverseRangeOrdered_int_ins : List Item := [.t 0 (.own 3 (.int .i64)), .t 1 (.int .i64), .t 2 (.int .i64)]
def slices_reverseRangeOrdered_int_outs : List Item := [.row 0 3 (.int .i64)]
def slices_reverseRangeOrdered_int_ann : List (Nat × List Item) := [(14, [.t 0 (.al 0), .t 6 (.int .i64), .t 7 (.int .i64), .row 0 3 (.int .i64)])]
noncomputable def slices_reverseRangeOrdered_int_L14 : Int × Int × (List Int) × Unit → Option ((Int × Int × (List Int) × Unit) ⊕ ((List Int) × Unit)) := fun (t6, t7, r0, _) =>
  cond (decide (t6 < t7))
    (chk (0 ≤ t7 ∧ t7 < ((r0).length : Int)) (chk (0 ≤ t6 ∧ t6 < ((r0).length : Int)) (chk (0 ≤ t6 ∧ t6 < ((r0).length : Int)) (chk (0 ≤ t7 ∧ t7 < (((r0.set (t6 : Int).toNat (atD 0 r0 t7))).length : Int)) (some (.inl ((w64 (t6 + 1)), (w64 (t7 - 1)), ((r0.set (t6 : Int).toNat (atD 0 r0 t7)).set (t7 : Int).toNat (atD 0 r0 t6)), ())))))))
    (Option.map Sum.inr (some (r0, ())))
noncomputable def slices_reverseRangeOrdered_int : (List Int) × Int × Int × Unit → Option ((List Int) × Unit) := fun (t0, t1, t2, _) =>
  loopM slices_reverseRangeOrdered_int_L14 (t1, (w64 (t2 - 1)), t0, ())
noncomputable def slices_reverseRangeOrdered_int_F : Fun := ⟨slices_reverseRangeOrdered_int_ins, [0], slices_reverseRangeOrdered_int_outs, slices_reverseRangeOrdered_int⟩
noncomputable def slices_reverseRangeOrdered_int_orc : Orc := orcGet []
theorem slices_reverseRangeOrdered_int_eq (x : Den slices_reverseRangeOrdered_int_ins) : pmFn (tdGet tab) slices_reverseRangeOrdered_int_orc slices_reverseRangeOrdered_int_F.mn slices_reverseRangeOrdered_int_ann Go.Proofs.Try.f147 slices_reverseRangeOrdered_int_ins slices_reverseRangeOrdered_int_outs x = slices_reverseRangeOrdered_int x := by kernel_rfl
theorem slices_reverseRangeOrdered_int_c : CallsD Go.Proofs.Try.prog 147 slices_reverseRangeOrdered_int_F :=
  fn_contract (F := slices_reverseRangeOrdered_int_F) (C := slices_reverseRangeOrdered_int_orc) mix (chkTab_get tab_ok) orc_nil slices_reverseRangeOrdered_int_ann (fn := Go.Proofs.Try.f147) (by kernel_rfl) (by kernel_rfl) (by kernel_rfl) (by kernel_rfl) (by kernel_rfl) (fun x y h => (slices_reverseRangeOrdered_int_eq x).trans h)

def slices_partialInsertionSortOrdered_int_ins : List Item := [.t 0 (.own 3 (.int .i64)), .t 1 (.int .i64), .t 2 (.int .i64)]
def slices_partialInsertionSortOrdered_int_outs : List Item := [.t 500 (.bool), .row 0 3 (.int .i64)]
def slices_partialInsertionSortOrdered_int_ann : List (Nat × List Item) := [(58, [.t 0 (.al 0), .t 1 (.int .i64), .t 2 (.int .i64), .t 7 (.int .i64), .t 8 (.int .i64), .row 0 3 (.int .i64)]),
  (1864, [.t 0 (.al 0), .t 1 (.int .i64), .t 2 (.int .i64), .t 7 (.int .i64), .t 8 (.int .i64), .row 0 3 (.int .i64)]),
  (3728, [.t 0 (.al 0), .t 1 (.int .i64), .t 2 (.int .i64), .t 7 (.int .i64), .t 8 (.int .i64), .row 0 3 (.int .i64)]),
  (59709, [.t 0 (.al 0), .t 1 (.int .i64), .t 2 (.int .i64), .t 7 (.int .i64), .t 8 (.int .i64), .row 0 3 (.int .i64)]),
  (477674, [.t 0 (.al 0), .t 1 (.int .i64), .t 2 (.int .i64), .t 7 (.int .i64), .t 8 (.int .i64), .t 9 (.int .i64), .row 0 3 (.int .i64)]),
  (477690, [.t 0 (.al 0), .t 1 (.int .i64), .t 2 (.int .i64), .t 7 (.int .i64), .t 8 (.int .i64), .t 10 (.int .i64), .row 0 3 (.int .i64)])]
noncomputable def slices_partialInsertionSortOrdered_int_L3728 : Int × Int × Int × Int × (List Int) × Unit → Option ((Int × Int × Int × Int × (List Int) × Unit) ⊕ (((Int × Int × Int × Int × (List Int) × Unit) ⊕ ((Int × Int × Int × Int × (List Int) × Unit) ⊕ Bool × (List Int) × Unit)))) := fun (t1, t2, t7, t8, r0, _) =>
  cond (decide (t7 < t2))
    (chk (0 ≤ t7 ∧ t7 < ((r0).length : Int)) (chk (0 ≤ (w64 (t7 - 1)) ∧ (w64 (t7 - 1)) < ((r0).length : Int)) (Option.bind (cmp_Less_int (atD 0 r0 t7, atD 0 r0 (w64 (t7 - 1)), ())) fun (v2, _) => cond (!v2)
    (some (.inl (t1, t2, (w64 (t7 + 1)), t8, r0, ())))
    (Option.map Sum.inr (some (.inl (t1, t2, t7, t8, r0, ())))))))
    (Option.map Sum.inr (some (.inl (t1, t2, t7, t8, r0, ()))))
noncomputable def slices_partialInsertionSortOrdered_int_L477674 : Int × Int × Int × Int × Int × (List Int) × Unit → Option ((Int × Int × Int × Int × Int × (List Int) × Unit) ⊕ (((Int × Int × Int × Int × (List Int) × Unit) ⊕ ((Int × Int × Int × Int × (List Int) × Unit) ⊕ Bool × (List Int) × Unit)))) := fun (t1, t2, t7, t8, t9, r0, _) =>
  cond (decide (t9 ≥ 1))
    (chk (0 ≤ t9 ∧ t9 < ((r0).length : Int)) (chk (0 ≤ (w64 (t9 - 1)) ∧ (w64 (t9 - 1)) < ((r0).length : Int)) (Option.bind (cmp_Less_int (atD 0 r0 t9, atD 0 r0 (w64 (t9 - 1)), ())) fun (v4, _) => cond (!v4)
    (Option.map Sum.inr (some (.inl (t1, t2, t7, t8, r0, ()))))
    (chk (0 ≤ (w64 (t9 - 1)) ∧ (w64 (t9 - 1)) < ((r0).length : Int)) (chk (0 ≤ t9 ∧ t9 < ((r0).length : Int)) (chk (0 ≤ t9 ∧ t9 < ((r0).length : Int)) (chk (0 ≤ (w64 (t9 - 1)) ∧ (w64 (t9 - 1)) < (((r0.set (t9 : Int).toNat (atD 0 r0 (w64 (t9 - 1))))).length : Int)) (some (.inl (t1, t2, t7, t8, (w64 (t9 - 1)), ((r0.set (t9 : Int).toNat (atD 0 r0 (w64 (t9 - 1)))).set ((w64 (t9 - 1)) : Int).toNat (atD 0 r0 t9)), ()))))))))))
    (Option.map Sum.inr (some (.inl (t1, t2, t7, t8, r0, ()))))
noncomputable def slices_partialInsertionSortOrdered_int_L477690 : Int × Int × Int × Int × Int × (List Int) × Unit → Option ((Int × Int × Int × Int × Int × (List Int) × Unit) ⊕ (((Int × Int × Int × Int × (List Int) × Unit) ⊕ Bool × (List Int) × Unit))) := fun (t1, t2, t7, t8, t10, r0, _) =>
  cond (decide (t10 < t2))
    (chk (0 ≤ t10 ∧ t10 < ((r0).length : Int)) (chk (0 ≤ (w64 (t10 - 1)) ∧ (w64 (t10 - 1)) < ((r0).length : Int)) (Option.bind (cmp_Less_int (atD 0 r0 t10, atD 0 r0 (w64 (t10 - 1)), ())) fun (v5, _) => cond (!v5)
    (Option.map Sum.inr (some (.inl (t1, t2, t7, (w64 (t8 + 1)), r0, ()))))
    (chk (0 ≤ (w64 (t10 - 1)) ∧ (w64 (t10 - 1)) < ((r0).length : Int)) (chk (0 ≤ t10 ∧ t10 < ((r0).length : Int)) (chk (0 ≤ t10 ∧ t10 < ((r0).length : Int)) (chk (0 ≤ (w64 (t10 - 1)) ∧ (w64 (t10 - 1)) < (((r0.set (t10 : Int).toNat (atD 0 r0 (w64 (t10 - 1))))).length : Int)) (some (.inl (t1, t2, t7, t8, (w64 (t10 + 1)), ((r0.set (t10 : Int).toNat (atD 0 r0 (w64 (t10 - 1)))).set ((w64 (t10 - 1)) : Int).toNat (atD 0 r0 t10)), ()))))))))))
    (Option.map Sum.inr (some (.inl (t1, t2, t7, (w64 (t8 + 1)), r0, ()))))
noncomputable def slices_partialInsertionSortOrdered_int_J59709 : Int × Int × Int × Int × (List Int) × Unit → Option (((Int × Int × Int × Int × (List Int) × Unit) ⊕ Bool × (List Int) × Unit)) := fun (t1, t2, t7, t8, r0, _) =>
  cond (decide ((w64 (t2 - t7)) ≥ 2))
    (loopM slices_partialInsertionSortOrdered_int_L477690 (t1, t2, t7, t8, (w64 (t7 + 1)), r0, ()))
    (some (.inl (t1, t2, t7, (w64 (t8 + 1)), r0, ())))
noncomputable def slices_partialInsertionSortOrdered_int_J1864 : Int × Int × Int × Int × (List Int) × Unit → Option (((Int × Int × Int × Int × (List Int) × Unit) ⊕ Bool × (List Int) × Unit)) := fun (t1, t2, t7, t8, r0, _) =>
  cond (t7 == t2)
    (Option.map Sum.inr (some (true, r0, ())))
    (cond (decide ((w64 (t2 - t1)) < 50))
    (Option.map Sum.inr (some (false, r0, ())))
    (chk (0 ≤ (w64 (t7 - 1)) ∧ (w64 (t7 - 1)) < ((r0).length : Int)) (chk (0 ≤ t7 ∧ t7 < ((r0).length : Int)) (chk (0 ≤ t7 ∧ t7 < ((r0).length : Int)) (chk (0 ≤ (w64 (t7 - 1)) ∧ (w64 (t7 - 1)) < (((r0.set (t7 : Int).toNat (atD 0 r0 (w64 (t7 - 1))))).length : Int)) (joinB (T := Int × Int × Int × Int × (List Int) × Unit) (R := ((Int × Int × Int × Int × (List Int) × Unit) ⊕ Bool × (List Int) × Unit)) (cond (decide ((w64 (t7 - t1)) ≥ 2))
    (loopM slices_partialInsertionSortOrdered_int_L477674 (t1, t2, t7, t8, (w64 (t7 - 1)), ((r0.set (t7 : Int).toNat (atD 0 r0 (w64 (t7 - 1)))).set ((w64 (t7 - 1)) : Int).toNat (atD 0 r0 t7)), ()))
    (some (.inl (t1, t2, t7, t8, ((r0.set (t7 : Int).toNat (atD 0 r0 (w64 (t7 - 1)))).set ((w64 (t7 - 1)) : Int).toNat (atD 0 r0 t7)), ())))) slices_partialInsertionSortOrdered_int_J59709))))))
noncomputable def slices_partialInsertionSortOrdered_int_L58 : Int × Int × Int × Int × (List Int) × Unit → Option ((Int × Int × Int × Int × (List Int) × Unit) ⊕ (Bool × (List Int) × Unit)) := fun (t1, t2, t7, t8, r0, _) =>
  cond (decide (t8 < 5))
    (joinB (T := Int × Int × Int × Int × (List Int) × Unit) (R := ((Int × Int × Int × Int × (List Int) × Unit) ⊕ Bool × (List Int) × Unit)) (loopM slices_partialInsertionSortOrdered_int_L3728 (t1, t2, t7, t8, r0, ())) slices_partialInsertionSortOrdered_int_J1864)
    (Option.map Sum.inr (some (false, r0, ())))
noncomputable def slices_partialInsertionSortOrdered_int : (List Int) × Int × Int × Unit → Option (Bool × (List Int) × Unit) := fun (t0, t1, t2, _) =>
  loopM slices_partialInsertionSortOrdered_int_L58 (t1, t2, (w64 (t1 + 1)), 0, t0, ())
noncomputable def slices_partialInsertionSortOrdered_int_F : Fun := ⟨slices_partialInsertionSortOrdered_int_ins, [0], slices_partialInsertionSortOrdered_int_outs, slices_partialInsertionSortOrdered_int⟩
noncomputable def slices_partialInsertionSortOrdered_int_orc : Orc := orcGet [(149, cmp_Less_int_F)]
theorem slices_partialInsertionSortOrdered_int_eq (x : Den slices_partialInsertionSortOrdered_int_ins) : pmFn (tdGet tab) slices_partialInsertionSortOrdered_int_orc slices_partialInsertionSortOrdered_int_F.mn slices_partialInsertionSortOrdered_int_ann Go.Proofs.Try.f148 slices_partialInsertionSortOrdered_int_ins slices_partialInsertionSortOrdered_int_outs x = slices_partialInsertionSortOrdered_int x := by kernel_rfl
theorem slices_partialInsertionSortOrdered_int_c : CallsD Go.Proofs.Try.prog 148 slices_partialInsertionSortOrdered_int_F :=
  fn_contract (F := slices_partialInsertionSortOrdered_int_F) (C := slices_partialInsertionSortOrdered_int_orc) mix (chkTab_get tab_ok) (orc_cons cmp_Less_int_c orc_nil) slices_partialInsertionSortOrdered_int_ann (fn := Go.Proofs.Try.f148) (by kernel_rfl) (by kernel_rfl) (by kernel_rfl) (by kernel_rfl) (by kernel_rfl) (fun x y h => (slices_partialInsertionSortOrdered_int_eq x).trans h)

def slices_partitionEqualOrdered_int_ins : List Item := [.t 0 (.own 3 (.int .i64)), .t 1 (.int .i64), .t 2 (.int .i64), .t 3 (.int .i64)]
def slices_partitionEqualOrdered_int_outs : List Item := [.t 500 (.int .i64), .row 0 3 (.int .i64)]
def slices_partitionEqualOrdered_int_ann : List (Nat × List Item) := [(60, [.t 0 (.al 0), .t 1 (.int .i64), .t 9 (.int .i64), .t 10 (.int .i64), .row 0 3 (.int .i64)]),
  (480, [.t 0 (.al 0), .t 1 (.int .i64), .t 9 (.int .i64), .t 10 (.int .i64), .row 0 3 (.int .i64)]),
  (960, [.t 0 (.al 0), .t 1 (.int .i64), .t 9 (.int .i64), .t 10 (.int .i64), .row 0 3 (.int .i64)]),
  (962, [.t 0 (.al 0), .t 1 (.int .i64), .t 9 (.int .i64), .t 10 (.int .i64), .row 0 3 (.int .i64)]),
  (1924, [.t 0 (.al 0), .t 1 (.int .i64), .t 9 (.int .i64), .t 10 (.int .i64), .row 0 3 (.int .i64)])]
noncomputable def slices_partitionEqualOrdered_int_L960 : Int × Int × Int × (List Int) × Unit → Option ((Int × Int × Int × (List Int) × Unit) ⊕ (((Int × Int × Int × (List Int) × Unit) ⊕ ((Int × Int × Int × (List Int) × Unit) ⊕ Int × (List Int) × Unit)))) := fun (t1, t9, t10, r0, _) =>
  cond (decide (t9 ≤ t10))
    (chk (0 ≤ t1 ∧ t1 < ((r0).length : Int)) (chk (0 ≤ t9 ∧ t9 < ((r0).length : Int)) (Option.bind (cmp_Less_int (atD 0 r0 t1, atD 0 r0 t9, ())) fun (v2, _) => cond (!v2)
    (some (.inl (t1, (w64 (t9 + 1)), t10, r0, ())))
    (Option.map Sum.inr (some (.inl (t1, t9, t10, r0, ())))))))
    (Option.map Sum.inr (some (.inl (t1, t9, t10, r0, ()))))
noncomputable def slices_partitionEqualOrdered_int_L1924 : Int × Int × Int × (List Int) × Unit → Option ((Int × Int × Int × (List Int) × Unit) ⊕ (((Int × Int × Int × (List Int) × Unit) ⊕ ((Int × Int × Int × (List Int) × Unit) ⊕ Int × (List Int) × Unit)))) := fun (t1, t9, t10, r0, _) =>
  cond (decide (t9 ≤ t10))
    (chk (0 ≤ t1 ∧ t1 < ((r0).length : Int)) (chk (0 ≤ t10 ∧ t10 < ((r0).length : Int)) (Option.bind (cmp_Less_int (atD 0 r0 t1, atD 0 r0 t10, ())) fun (v4, _) => cond v4
    (some (.inl (t1, t9, (w64 (t10 - 1)), r0, ())))
    (Option.map Sum.inr (some (.inl (t1, t9, t10, r0, ())))))))
    (Option.map Sum.inr (some (.inl (t1, t9, t10, r0, ()))))
noncomputable def slices_partitionEqualOrdered_int_J962 : Int × Int × Int × (List Int) × Unit → Option (((Int × Int × Int × (List Int) × Unit) ⊕ Int × (List Int) × Unit)) := fun (t1, t9, t10, r0, _) =>
  cond (decide (t9 > t10))
    (Option.map Sum.inr (some (t9, r0, ())))
    (chk (0 ≤ t10 ∧ t10 < ((r0).length : Int)) (chk (0 ≤ t9 ∧ t9 < ((r0).length : Int)) (chk (0 ≤ t9 ∧ t9 < ((r0).length : Int)) (chk (0 ≤ t10 ∧ t10 < (((r0.set (t9 : Int).toNat (atD 0 r0 t10))).length : Int)) (some (.inl (t1, (w64 (t9 + 1)), (w64 (t10 - 1)), ((r0.set (t9 : Int).toNat (atD 0 r0 t10)).set (t10 : Int).toNat (atD 0 r0 t9)), ())))))))
noncomputable def slices_partitionEqualOrdered_int_J480 : Int × Int × Int × (List Int) × Unit → Option (((Int × Int × Int × (List Int) × Unit) ⊕ Int × (List Int) × Unit)) := fun (t1, t9, t10, r0, _) =>
  joinB (T := Int × Int × Int × (List Int) × Unit) (R := ((Int × Int × Int × (List Int) × Unit) ⊕ Int × (List Int) × Unit)) (loopM slices_partitionEqualOrdered_int_L1924 (t1, t9, t10, r0, ())) slices_partitionEqualOrdered_int_J962
noncomputable def slices_partitionEqualOrdered_int_L60 : Int × Int × Int × (List Int) × Unit → Option ((Int × Int × Int × (List Int) × Unit) ⊕ (Int × (List Int) × Unit)) := fun (t1, t9, t10, r0, _) =>
  joinB (T := Int × Int × Int × (List Int) × Unit) (R := ((Int × Int × Int × (List Int) × Unit) ⊕ Int × (List Int) × Unit)) (loopM slices_partitionEqualOrdered_int_L960 (t1, t9, t10, r0, ())) slices_partitionEqualOrdered_int_J480
noncomputable def slices_partitionEqualOrdered_int : (List Int) × Int × Int × Int × Unit → Option (Int × (List Int) × Unit) := fun (t0, t1, t2, t3, _) =>
  chk (0 ≤ t3 ∧ t3 < ((t0).length : Int)) (chk (0 ≤ t1 ∧ t1 < ((t0).length : Int)) (chk (0 ≤ t1 ∧ t1 < ((t0).length : Int)) (chk (0 ≤ t3 ∧ t3 < (((t0.set (t1 : Int).toNat (atD 0 t0 t3))).length : Int)) (loopM slices_partitionEqualOrdered_int_L60 (t1, (w64 (t1 + 1)), (w64 (t2 - 1)), ((t0.set (t1 : Int).toNat (atD 0 t0 t3)).set (t3 : Int).toNat (atD 0 t0 t1)), ())))))
noncomputable def slices_partitionEqualOrdered_int_F : Fun := ⟨slices_partitionEqualOrdered_int_ins, [0], slices_partitionEqualOrdered_int_outs, slices_partitionEqualOrdered_int⟩
noncomputable def slices_partitionEqualOrdered_int_orc : Orc := orcGet [(149, cmp_Less_int_F)]
theorem slices_partitionEqualOrdered_int_eq (x : Den slices_partitionEqualOrdered_int_ins) : pmFn (tdGet tab) slices_partitionEqualOrdered_int_orc slices_partitionEqualOrdered_int_F.mn slices_partitionEqualOrdered_int_ann Go.Proofs.Try.f150 slices_partitionEqualOrdered_int_ins slices_partitionEqualOrdered_int_outs x = slices_partitionEqualOrdered_int x := by kernel_rfl
theorem slices_partitionEqualOrdered_int_c : CallsD Go.Proofs.Try.prog 150 slices_partitionEqualOrdered_int_F :=
  fn_contract (F := slices_partitionEqualOrdered_int_F) (C := slices_partitionEqualOrdered_int_orc) mix (chkTab_get tab_ok) (orc_cons cmp_Less_int_c orc_nil) slices_partitionEqualOrdered_int_ann (fn := Go.Proofs.Try.f150) (by kernel_rfl) (by kernel_rfl) (by kernel_rfl) (by kernel_rfl) (by kernel_rfl) (fun x y h => (slices_partitionEqualOrdered_int_eq x).trans h)

def slices_partitionOrdered_int_ins : List Item := [.t 0 (.own 3 (.int .i64)), .t 1 (.int .i64), .t 2 (.int .i64), .t 3 (.int .i64)]
def slices_partitionOrdered_int_outs : List Item := [.t 500 (.int .i64), .t 501 (.bool), .row 0 3 (.int .i64)]
def slices_partitionOrdered_int_ann : List (Nat × List Item) := [(30, [.t 0 (.al 0), .t 1 (.int .i64), .t 10 (.int .i64), .t 11 (.int .i64), .row 0 3 (.int .i64)]),
  (60, [.t 0 (.al 0), .t 1 (.int .i64), .t 10 (.int .i64), .t 11 (.int .i64), .row 0 3 (.int .i64)]),
  (62, [.t 0 (.al 0), .t 1 (.int .i64), .t 10 (.int .i64), .t 11 (.int .i64), .row 0 3 (.int .i64)]),
  (124, [.t 0 (.al 0), .t 1 (.int .i64), .t 10 (.int .i64), .t 11 (.int .i64), .row 0 3 (.int .i64)]),
  (2046, [.t 0 (.al 0), .t 1 (.int .i64), .t 11 (.int .i64), .row 0 3 (.int .i64)]),
  (4092, [.t 0 (.al 0), .t 1 (.int .i64), .t 10 (.int .i64), .t 11 (.int .i64), .row 0 3 (.int .i64)]),
  (32736, [.t 0 (.al 0), .t 1 (.int .i64), .t 10 (.int .i64), .t 11 (.int .i64), .row 0 3 (.int .i64)]),
  (65472, [.t 0 (.al 0), .t 1 (.int .i64), .t 10 (.int .i64), .t 11 (.int .i64), .row 0 3 (.int .i64)]),
  (65474, [.t 0 (.al 0), .t 1 (.int .i64), .t 10 (.int .i64), .t 11 (.int .i64), .row 0 3 (.int .i64)]),
  (130948, [.t 0 (.al 0), .t 1 (.int .i64), .t 10 (.int .i64), .t 11 (.int .i64), .row 0 3 (.int .i64)])]
noncomputable def slices_partitionOrdered_int_L60 : Int × Int × Int × (List Int) × Unit → Option ((Int × Int × Int × (List Int) × Unit) ⊕ (((Int × Int × Int × (List Int) × Unit) ⊕ Int × Bool × (List Int) × Unit))) := fun (t1, t10, t11, r0, _) =>
  cond (decide (t10 ≤ t11))
    (chk (0 ≤ t10 ∧ t10 < ((r0).length : Int)) (chk (0 ≤ t1 ∧ t1 < ((r0).length : Int)) (Option.bind (cmp_Less_int (atD 0 r0 t10, atD 0 r0 t1, ())) fun (v2, _) => cond v2
    (some (.inl (t1, (w64 (t10 + 1)), t11, r0, ())))
    (Option.map Sum.inr (some (.inl (t1, t10, t11, r0, ())))))))
    (Option.map Sum.inr (some (.inl (t1, t10, t11, r0, ()))))
noncomputable def slices_partitionOrdered_int_L124 : Int × Int × Int × (List Int) × Unit → Option ((Int × Int × Int × (List Int) × Unit) ⊕ (((Int × Int × Int × (List Int) × Unit) ⊕ Int × Bool × (List Int) × Unit))) := fun (t1, t10, t11, r0, _) =>
  cond (decide (t10 ≤ t11))
    (chk (0 ≤ t11 ∧ t11 < ((r0).length : Int)) (chk (0 ≤ t1 ∧ t1 < ((r0).length : Int)) (Option.bind (cmp_Less_int (atD 0 r0 t11, atD 0 r0 t1, ())) fun (v4, _) => cond (!v4)
    (some (.inl (t1, t10, (w64 (t11 - 1)), r0, ())))
    (Option.map Sum.inr (some (.inl (t1, t10, t11, r0, ())))))))
    (Option.map Sum.inr (some (.inl (t1, t10, t11, r0, ()))))
noncomputable def slices_partitionOrdered_int_L65472 : Int × Int × Int × (List Int) × Unit → Option ((Int × Int × Int × (List Int) × Unit) ⊕ (((Int × Int × Int × (List Int) × Unit) ⊕ ((Int × Int × Int × (List Int) × Unit) ⊕ ((Int × Int × (List Int) × Unit) ⊕ Int × Bool × (List Int) × Unit))))) := fun (t1, t10, t11, r0, _) =>
  cond (decide (t10 ≤ t11))
    (chk (0 ≤ t10 ∧ t10 < ((r0).length : Int)) (chk (0 ≤ t1 ∧ t1 < ((r0).length : Int)) (Option.bind (cmp_Less_int (atD 0 r0 t10, atD 0 r0 t1, ())) fun (v7, _) => cond v7
    (some (.inl (t1, (w64 (t10 + 1)), t11, r0, ())))
    (Option.map Sum.inr (some (.inl (t1, t10, t11, r0, ())))))))
    (Option.map Sum.inr (some (.inl (t1, t10, t11, r0, ()))))
noncomputable def slices_partitionOrdered_int_L130948 : Int × Int × Int × (List Int) × Unit → Option ((Int × Int × Int × (List Int) × Unit) ⊕ (((Int × Int × Int × (List Int) × Unit) ⊕ ((Int × Int × Int × (List Int) × Unit) ⊕ ((Int × Int × (List Int) × Unit) ⊕ Int × Bool × (List Int) × Unit))))) := fun (t1, t10, t11, r0, _) =>
  cond (decide (t10 ≤ t11))
    (chk (0 ≤ t11 ∧ t11 < ((r0).length : Int)) (chk (0 ≤ t1 ∧ t1 < ((r0).length : Int)) (Option.bind (cmp_Less_int (atD 0 r0 t11, atD 0 r0 t1, ())) fun (v9, _) => cond (!v9)
    (some (.inl (t1, t10, (w64 (t11 - 1)), r0, ())))
    (Option.map Sum.inr (some (.inl (t1, t10, t11, r0, ())))))))
    (Option.map Sum.inr (some (.inl (t1, t10, t11, r0, ()))))
noncomputable def slices_partitionOrdered_int_J65474 : Int × Int × Int × (List Int) × Unit → Option (((Int × Int × Int × (List Int) × Unit) ⊕ ((Int × Int × (List Int) × Unit) ⊕ Int × Bool × (List Int) × Unit))) := fun (t1, t10, t11, r0, _) =>
  cond (decide (t10 > t11))
    (Option.map Sum.inr (some (.inl (t1, t11, r0, ()))))
    (chk (0 ≤ t11 ∧ t11 < ((r0).length : Int)) (chk (0 ≤ t10 ∧ t10 < ((r0).length : Int)) (chk (0 ≤ t10 ∧ t10 < ((r0).length : Int)) (chk (0 ≤ t11 ∧ t11 < (((r0.set (t10 : Int).toNat (atD 0 r0 t11))).length : Int)) (some (.inl (t1, (w64 (t10 + 1)), (w64 (t11 - 1)), ((r0.set (t10 : Int).toNat (atD 0 r0 t11)).set (t11 : Int).toNat (atD 0 r0 t10)), ())))))))
noncomputable def slices_partitionOrdered_int_J32736 : Int × Int × Int × (List Int) × Unit → Option (((Int × Int × Int × (List Int) × Unit) ⊕ ((Int × Int × (List Int) × Unit) ⊕ Int × Bool × (List Int) × Unit))) := fun (t1, t10, t11, r0, _) =>
  joinB (T := Int × Int × Int × (List Int) × Unit) (R := ((Int × Int × Int × (List Int) × Unit) ⊕ ((Int × Int × (List Int) × Unit) ⊕ Int × Bool × (List Int) × Unit))) (loopM slices_partitionOrdered_int_L130948 (t1, t10, t11, r0, ())) slices_partitionOrdered_int_J65474
noncomputable def slices_partitionOrdered_int_L4092 : Int × Int × Int × (List Int) × Unit → Option ((Int × Int × Int × (List Int) × Unit) ⊕ (((Int × Int × (List Int) × Unit) ⊕ Int × Bool × (List Int) × Unit))) := fun (t1, t10, t11, r0, _) =>
  joinB (T := Int × Int × Int × (List Int) × Unit) (R := ((Int × Int × Int × (List Int) × Unit) ⊕ ((Int × Int × (List Int) × Unit) ⊕ Int × Bool × (List Int) × Unit))) (loopM slices_partitionOrdered_int_L65472 (t1, t10, t11, r0, ())) slices_partitionOrdered_int_J32736
noncomputable def slices_partitionOrdered_int_J2046 : Int × Int × (List Int) × Unit → Option (Int × Bool × (List Int) × Unit) := fun (t1, t11, r0, _) =>
  chk (0 ≤ t1 ∧ t1 < ((r0).length : Int)) (chk (0 ≤ t11 ∧ t11 < ((r0).length : Int)) (chk (0 ≤ t11 ∧ t11 < ((r0).length : Int)) (chk (0 ≤ t1 ∧ t1 < (((r0.set (t11 : Int).toNat (atD 0 r0 t1))).length : Int)) (some (t11, false, ((r0.set (t11 : Int).toNat (atD 0 r0 t1)).set (t1 : Int).toNat (atD 0 r0 t11)), ())))))
noncomputable def slices_partitionOrdered_int_J62 : Int × Int × Int × (List Int) × Unit → Option (Int × Bool × (List Int) × Unit) := fun (t1, t10, t11, r0, _) =>
  cond (decide (t10 > t11))
    (chk (0 ≤ t1 ∧ t1 < ((r0).length : Int)) (chk (0 ≤ t11 ∧ t11 < ((r0).length : Int)) (chk (0 ≤ t11 ∧ t11 < ((r0).length : Int)) (chk (0 ≤ t1 ∧ t1 < (((r0.set (t11 : Int).toNat (atD 0 r0 t1))).length : Int)) (some (t11, true, ((r0.set (t11 : Int).toNat (atD 0 r0 t1)).set (t1 : Int).toNat (atD 0 r0 t11)), ()))))))
    (chk (0 ≤ t11 ∧ t11 < ((r0).length : Int)) (chk (0 ≤ t10 ∧ t10 < ((r0).length : Int)) (chk (0 ≤ t10 ∧ t10 < ((r0).length : Int)) (chk (0 ≤ t11 ∧ t11 < (((r0.set (t10 : Int).toNat (atD 0 r0 t11))).length : Int)) (joinB (T := Int × Int × (List Int) × Unit) (R := Int × Bool × (List Int) × Unit) (loopM slices_partitionOrdered_int_L4092 (t1, (w64 (t10 + 1)), (w64 (t11 - 1)), ((r0.set (t10 : Int).toNat (atD 0 r0 t11)).set (t11 : Int).toNat (atD 0 r0 t10)), ())) slices_partitionOrdered_int_J2046)))))
noncomputable def slices_partitionOrdered_int_J30 : Int × Int × Int × (List Int) × Unit → Option (Int × Bool × (List Int) × Unit) := fun (t1, t10, t11, r0, _) =>
  joinB (T := Int × Int × Int × (List Int) × Unit) (R := Int × Bool × (List Int) × Unit) (loopM slices_partitionOrdered_int_L124 (t1, t10, t11, r0, ())) slices_partitionOrdered_int_J62
noncomputable def slices_partitionOrdered_int : (List Int) × Int × Int × Int × Unit → Option (Int × Bool × (List Int) × Unit) := fun (t0, t1, t2, t3, _) =>
  chk (0 ≤ t3 ∧ t3 < ((t0).length : Int)) (chk (0 ≤ t1 ∧ t1 < ((t0).length : Int)) (chk (0 ≤ t1 ∧ t1 < ((t0).length : Int)) (chk (0 ≤ t3 ∧ t3 < (((t0.set (t1 : Int).toNat (atD 0 t0 t3))).length : Int)) (joinB (T := Int × Int × Int × (List Int) × Unit) (R := Int × Bool × (List Int) × Unit) (loopM slices_partitionOrdered_int_L60 (t1, (w64 (t1 + 1)), (w64 (t2 - 1)), ((t0.set (t1 : Int).toNat (atD 0 t0 t3)).set (t3 : Int).toNat (atD 0 t0 t1)), ())) slices_partitionOrdered_int_J30))))
noncomputable def slices_partitionOrdered_int_F : Fun := ⟨slices_partitionOrdered_int_ins, [0], slices_partitionOrdered_int_outs, slices_partitionOrdered_int⟩
noncomputable def slices_partitionOrdered_int_orc : Orc := orcGet [(149, cmp_Less_int_F)]
theorem slices_partitionOrdered_int_eq (x : Den slices_partitionOrdered_int_ins) : pmFn (tdGet tab) slices_partitionOrdered_int_orc slices_partitionOrdered_int_F.mn slices_partitionOrdered_int_ann Go.Proofs.Try.f151 slices_partitionOrdered_int_ins slices_partitionOrdered_int_outs x = slices_partitionOrdered_int x := by kernel_rfl
theorem slices_partitionOrdered_int_c : CallsD Go.Proofs.Try.prog 151 slices_partitionOrdered_int_F :=
  fn_contract (F := slices_partitionOrdered_int_F) (C := slices_partitionOrdered_int_orc) mix (chkTab_get tab_ok) (orc_cons cmp_Less_int_c orc_nil) slices_partitionOrdered_int_ann (fn := Go.Proofs.Try.f151) (by kernel_rfl) (by kernel_rfl) (by kernel_rfl) (by kernel_rfl) (by kernel_rfl) (fun x y h => (slices_partitionOrdered_int_eq x).trans h)

def slices_pdqsortOrdered_int_ins : List Item := [.t 0 (.own 3 (.int .i64)), .t 1 (.int .i64), .t 2 (.int .i64), .t 3 (.int .i64)]
def slices_pdqsortOrdered_int_outs : List Item := [.row 0 3 (.int .i64)]
def slices_pdqsortOrdered_int_ann : List (Nat × List Item) := [(14, [.t 0 (.al 0), .t 1 (.int .i64), .t 2 (.int .i64), .t 3 (.int .i64), .t 8 (.bool), .t 9 (.bool), .row 0 3 (.int .i64)]),
  (1821, [.t 0 (.al 0), .t 1 (.int .i64), .t 2 (.int .i64), .t 3 (.int .i64), .t 8 (.bool), .t 9 (.bool), .t 10 (.int .i64), .row 0 3 (.int .i64)]),
  (7293, [.t 0 (.al 0), .t 1 (.int .i64), .t 2 (.int .i64), .t 3 (.int .i64), .t 8 (.bool), .t 9 (.bool), .t 10 (.int .i64), .t 11 (.int .i64), .t 12 (.int .i64), .row 0 3 (.int .i64)]),
  (14588, [.t 0 (.al 0), .t 1 (.int .i64), .t 2 (.int .i64), .t 3 (.int .i64), .t 8 (.bool), .t 9 (.bool), .t 10 (.int .i64), .t 11 (.int .i64), .t 68 (.bool), .row 0 3 (.int .i64)]),
  (14589, [.t 0 (.al 0), .t 1 (.int .i64), .t 2 (.int .i64), .t 3 (.int .i64), .t 8 (.bool), .t 9 (.bool), .t 10 (.int .i64), .t 11 (.int .i64), .row 0 3 (.int .i64)]),
  (29180, [.t 0 (.al 0), .t 1 (.int .i64), .t 2 (.int .i64), .t 3 (.int .i64), .t 8 (.bool), .t 9 (.bool), .t 10 (.int .i64), .t 11 (.int .i64), .t 87 (.bool), .row 0 3 (.int .i64)])]
noncomputable def slices_pdqsortOrdered_int_J29180 (self_ : (List Int) × Int × Int × Int × Unit → Option ((List Int) × Unit)) : Int × Int × Int × Bool × Bool × Int × Int × Bool × (List Int) × Unit → Option (((Int × Int × Int × Bool × Bool × (List Int) × Unit) ⊕ (List Int) × Unit)) := fun (t1, t2, t3, t8, t9, t10, t11, t87, r0, _) =>
  cond t87
    (Option.bind (slices_partitionEqualOrdered_int (r0, t1, t2, t11, ())) fun (v37, v38, _) => some (.inl (v37, t2, t3, t8, t9, v38, ())))
    (Option.bind (slices_partitionOrdered_int (r0, t1, t2, t11, ())) fun (v39, v40, v41, _) => chk (8 ≠ 0) (cond (decide ((w64 (v39 - t1)) < (w64 (t2 - v39))))
    (Option.bind (self_ (v41, t1, v39, t3, ())) fun (v42, _) => some (.inl ((w64 (v39 + 1)), t2, t3, (decide ((w64 (v39 - t1)) ≥ (w64 (t10.tdiv 8)))), v40, v42, ())))
    (Option.bind (self_ (v41, (w64 (v39 + 1)), t2, t3, ())) fun (v43, _) => some (.inl (t1, v39, t3, (decide ((w64 (t2 - v39)) ≥ (w64 (t10.tdiv 8)))), v40, v43, ())))))
noncomputable def slices_pdqsortOrdered_int_J14589 (self_ : (List Int) × Int × Int × Int × Unit → Option ((List Int) × Unit)) : Int × Int × Int × Bool × Bool × Int × Int × (List Int) × Unit → Option (((Int × Int × Int × Bool × Bool × (List Int) × Unit) ⊕ (List Int) × Unit)) := fun (t1, t2, t3, t8, t9, t10, t11, r0, _) =>
  joinB (T := Int × Int × Int × Bool × Bool × Int × Int × Bool × (List Int) × Unit) (R := ((Int × Int × Int × Bool × Bool × (List Int) × Unit) ⊕ (List Int) × Unit)) (cond (decide (t1 > 0))
    (chk (0 ≤ (w64 (t1 - 1)) ∧ (w64 (t1 - 1)) < ((r0).length : Int)) (chk (0 ≤ t11 ∧ t11 < ((r0).length : Int)) (Option.bind (cmp_Less_int (atD 0 r0 (w64 (t1 - 1)), atD 0 r0 t11, ())) fun (v36, _) => some (.inl (t1, t2, t3, t8, t9, t10, t11, (!v36), r0, ())))))
    (some (.inl (t1, t2, t3, t8, t9, t10, t11, false, r0, ())))) (slices_pdqsortOrdered_int_J29180 self_)
noncomputable def slices_pdqsortOrdered_int_J14588 (self_ : (List Int) × Int × Int × Int × Unit → Option ((List Int) × Unit)) : Int × Int × Int × Bool × Bool × Int × Int × Bool × (List Int) × Unit → Option (((Int × Int × Int × Bool × Bool × (List Int) × Unit) ⊕ (List Int) × Unit)) := fun (t1, t2, t3, t8, t9, t10, t11, t68, r0, _) =>
  joinB (T := Int × Int × Int × Bool × Bool × Int × Int × (List Int) × Unit) (R := ((Int × Int × Int × Bool × Bool × (List Int) × Unit) ⊕ (List Int) × Unit)) (cond t68
    (Option.bind (slices_partialInsertionSortOrdered_int (r0, t1, t2, ())) fun (v33, v34, _) => cond v33
    (Option.map Sum.inr (Option.map Sum.inr (some (v34, ()))))
    (some (.inl (t1, t2, t3, t8, t9, t10, t11, v34, ()))))
    (some (.inl (t1, t2, t3, t8, t9, t10, t11, r0, ())))) (slices_pdqsortOrdered_int_J14589 self_)
noncomputable def slices_pdqsortOrdered_int_J7293 (self_ : (List Int) × Int × Int × Int × Unit → Option ((List Int) × Unit)) : Int × Int × Int × Bool × Bool × Int × Int × Int × (List Int) × Unit → Option (((Int × Int × Int × Bool × Bool × (List Int) × Unit) ⊕ (List Int) × Unit)) := fun (t1, t2, t3, t8, t9, t10, t11, t12, r0, _) =>
  joinB (T := Int × Int × Int × Bool × Bool × Int × Int × Bool × (List Int) × Unit) (R := ((Int × Int × Int × Bool × Bool × (List Int) × Unit) ⊕ (List Int) × Unit)) (cond t8
    (cond t9
    (some (.inl (t1, t2, t3, t8, t9, t10, t11, (t12 == 1), r0, ())))
    (some (.inl (t1, t2, t3, t8, t9, t10, t11, false, r0, ()))))
    (some (.inl (t1, t2, t3, t8, t9, t10, t11, false, r0, ())))) (slices_pdqsortOrdered_int_J14588 self_)
noncomputable def slices_pdqsortOrdered_int_J1821 (self_ : (List Int) × Int × Int × Int × Unit → Option ((List Int) × Unit)) : Int × Int × Int × Bool × Bool × Int × (List Int) × Unit → Option (((Int × Int × Int × Bool × Bool × (List Int) × Unit) ⊕ (List Int) × Unit)) := fun (t1, t2, t3, t8, t9, t10, r0, _) =>
  Option.bind (slices_choosePivotOrdered_int (r0, t1, t2, ())) fun (v27, v28, _) => joinB (T := Int × Int × Int × Bool × Bool × Int × Int × Int × (List Int) × Unit) (R := ((Int × Int × Int × Bool × Bool × (List Int) × Unit) ⊕ (List Int) × Unit)) (cond (v28 == 2)
    (Option.bind (slices_reverseRangeOrdered_int (r0, t1, t2, ())) fun (v30, _) => some (.inl (t1, t2, t3, t8, t9, t10, (w64 ((w64 (t2 - 1)) - (w64 (v27 - t1)))), 1, v30, ())))
    (some (.inl (t1, t2, t3, t8, t9, t10, v27, v28, r0, ())))) (slices_pdqsortOrdered_int_J7293 self_)
noncomputable def slices_pdqsortOrdered_int_L14 (self_ : (List Int) × Int × Int × Int × Unit → Option ((List Int) × Unit)) : Int × Int × Int × Bool × Bool × (List Int) × Unit → Option ((Int × Int × Int × Bool × Bool × (List Int) × Unit) ⊕ ((List Int) × Unit)) := fun (t1, t2, t3, t8, t9, r0, _) =>
  cond (decide ((w64 (t2 - t1)) ≤ 12))
    (Option.bind (slices_insertionSortOrdered_int (r0, t1, t2, ())) fun (v23, _) => Option.map Sum.inr (some (v23, ())))
    (cond (t3 == 0)
    (Option.bind (slices_heapSortOrdered_int (r0, t1, t2, ())) fun (v24, _) => Option.map Sum.inr (some (v24, ())))
    (joinB (T := Int × Int × Int × Bool × Bool × Int × (List Int) × Unit) (R := ((Int × Int × Int × Bool × Bool × (List Int) × Unit) ⊕ (List Int) × Unit)) (cond (!t8)
    (Option.bind (slices_breakPatternsOrdered_int (r0, t1, t2, ())) fun (v26, _) => some (.inl (t1, t2, (w64 (t3 - 1)), t8, t9, (w64 (t2 - t1)), v26, ())))
    (some (.inl (t1, t2, t3, t8, t9, (w64 (t2 - t1)), r0, ())))) (slices_pdqsortOrdered_int_J1821 self_)))
noncomputable def slices_pdqsortOrdered_int_step (self_ : (List Int) × Int × Int × Int × Unit → Option ((List Int) × Unit)) : (List Int) × Int × Int × Int × Unit → Option ((List Int) × Unit) := fun (t0, t1, t2, t3, _) =>
  loopM (slices_pdqsortOrdered_int_L14 self_) (t1, t2, t3, true, true, t0, ())
noncomputable def slices_pdqsortOrdered_int_rec : Nat → (List Int) × Int × Int × Int × Unit → Option ((List Int) × Unit)
  | 0 => fun _ => none
  | k + 1 => slices_pdqsortOrdered_int_step (slices_pdqsortOrdered_int_rec k)
noncomputable def slices_pdqsortOrdered_int : (List Int) × Int × Int × Int × Unit → Option ((List Int) × Unit) := slices_pdqsortOrdered_int_rec 64
noncomputable def slices_pdqsortOrdered_int_G (self_ : (List Int) × Int × Int × Int × Unit → Option ((List Int) × Unit)) : Fun := ⟨slices_pdqsortOrdered_int_ins, [0], slices_pdqsortOrdered_int_outs, self_⟩
noncomputable def slices_pdqsortOrdered_int_orc (self_ : (List Int) × Int × Int × Int × Unit → Option ((List Int) × Unit)) : Orc := orcGet [(119, slices_pdqsortOrdered_int_G self_), (143, slices_insertionSortOrdered_int_F), (144, slices_heapSortOrdered_int_F), (145, slices_breakPatternsOrdered_int_F), (146, slices_choosePivotOrdered_int_F), (147, slices_reverseRangeOrdered_int_F), (148, slices_partialInsertionSortOrdered_int_F), (149, cmp_Less_int_F), (150, slices_partitionEqualOrdered_int_F), (151, slices_partitionOrdered_int_F)]
theorem slices_pdqsortOrdered_int_eq (self_ : (List Int) × Int × Int × Int × Unit → Option ((List Int) × Unit)) (x : Den slices_pdqsortOrdered_int_ins) : pmFn (tdGet tab) (slices_pdqsortOrdered_int_orc self_) (slices_pdqsortOrdered_int_G self_).mn slices_pdqsortOrdered_int_ann Go.Proofs.Try.f119 slices_pdqsortOrdered_int_ins slices_pdqsortOrdered_int_outs x = slices_pdqsortOrdered_int_step self_ x := by kernel_rfl
theorem slices_pdqsortOrdered_int_cn : ∀ k : Nat, CallsD Go.Proofs.Try.prog 119 (slices_pdqsortOrdered_int_G (slices_pdqsortOrdered_int_rec k))
  | 0 => fn_contract (F := slices_pdqsortOrdered_int_G (slices_pdqsortOrdered_int_rec 0)) (C := orcGet []) mix (chkTab_get tab_ok) orc_nil slices_pdqsortOrdered_int_ann (fn := Go.Proofs.Try.f119) (by kernel_rfl) (by kernel_rfl) (by kernel_rfl) (by kernel_rfl) (by kernel_rfl) (fun x y h => nomatch h)
  | k + 1 => have ih := slices_pdqsortOrdered_int_cn k
    fn_contract (F := slices_pdqsortOrdered_int_G (slices_pdqsortOrdered_int_rec (k + 1))) (C := slices_pdqsortOrdered_int_orc (slices_pdqsortOrdered_int_rec k)) mix (chkTab_get tab_ok) (orc_cons ih (orc_cons slices_insertionSortOrdered_int_c (orc_cons slices_heapSortOrdered_int_c (orc_cons slices_breakPatternsOrdered_int_c (orc_cons slices_choosePivotOrdered_int_c (orc_cons slices_reverseRangeOrdered_int_c (orc_cons slices_partialInsertionSortOrdered_int_c (orc_cons cmp_Less_int_c (orc_cons slices_partitionEqualOrdered_int_c (orc_cons slices_partitionOrdered_int_c orc_nil)))))))))) slices_pdqsortOrdered_int_ann (fn := Go.Proofs.Try.f119) (by kernel_rfl) (by kernel_rfl) (by kernel_rfl) (by kernel_rfl) (by kernel_rfl) (fun x y h => (slices_pdqsortOrdered_int_eq (slices_pdqsortOrdered_int_rec k) x).trans h)
noncomputable def slices_pdqsortOrdered_int_F : Fun := slices_pdqsortOrdered_int_G slices_pdqsortOrdered_int
theorem slices_pdqsortOrdered_int_c : CallsD Go.Proofs.Try.prog 119 slices_pdqsortOrdered_int_F := slices_pdqsortOrdered_int_cn 64

def slices_Sort_int_int_ins : List Item := [.t 0 (.own 3 (.int .i64))]
def slices_Sort_int_int_outs : List Item := [.row 0 3 (.int .i64)]
def slices_Sort_int_int_ann : List (Nat × List Item) := []
noncomputable def slices_Sort_int_int : (List Int) × Unit → Option ((List Int) × Unit) := fun (t0, _) =>
  Option.bind (math_bits_Len ((IntKind.u64.wrap (((t0).length : Int))), ())) fun (v1, _) => Option.bind (slices_pdqsortOrdered_int (t0, 0, ((t0).length : Int), v1, ())) fun (v2, _) => some (v2, ())
noncomputable def slices_Sort_int_int_F : Fun := ⟨slices_Sort_int_int_ins, [0], slices_Sort_int_int_outs, slices_Sort_int_int⟩
noncomputable def slices_Sort_int_int_orc : Orc := orcGet [(119, slices_pdqsortOrdered_int_F), (120, math_bits_Len_F)]
theorem slices_Sort_int_int_eq (x : Den slices_Sort_int_int_ins) : pmFn (tdGet tab) slices_Sort_int_int_orc slices_Sort_int_int_F.mn slices_Sort_int_int_ann Go.Proofs.Try.f84 slices_Sort_int_int_ins slices_Sort_int_int_outs x = slices_Sort_int_int x := by kernel_rfl
theorem slices_Sort_int_int_c : CallsD Go.Proofs.Try.prog 84 slices_Sort_int_int_F :=
  fn_contract (F := slices_Sort_int_int_F) (C := slices_Sort_int_int_orc) mix (chkTab_get tab_ok) (orc_cons slices_pdqsortOrdered_int_c (orc_cons math_bits_Len_c orc_nil)) slices_Sort_int_int_ann (fn := Go.Proofs.Try.f84) (by kernel_rfl) (by kernel_rfl) (by kernel_rfl) (by kernel_rfl) (by kernel_rfl) (fun x y h => (slices_Sort_int_int_eq x).trans h)

def impl_TreeOfState_ins : List Item := [.agg 0 [.int .i64, .ro .ii], .t 1 (.ro (.int .i64)), .t 2 (.int .i64)]
def impl_TreeOfState_outs : List Item := [.t 500 (.own 3 (.int .i64)), .t 501 (.bool)]
def impl_TreeOfState_ann : List (Nat × List Item) := [(122, [.t 2 (.int .i64), .t 8 (.own 3 (.int .i64)), .t 16 (.ro (.int .i64)), .t 17 (.int .i64), .t 18 (.int .i64)])]
noncomputable def impl_TreeOfState_L122 : Int × (List Int) × (List Int) × Int × Int × Unit → Option ((Int × (List Int) × (List Int) × Int × Int × Unit) ⊕ ((List Int) × Bool × Unit)) := fun (t2, t8, t16, t17, t18, _) =>
  cond (decide (t18 < t17))
    (chk (0 ≤ t18 ∧ t18 < ((t16).length : Int)) (cond (t18 != t2)
    (chk ((t8).length + (([atD 0 t16 t18] : List Int)).length ≤ 17592186044416) (some (.inl (t2, (t8 ++ ([atD 0 t16 t18] : List Int)), t16, t17, (w64 (t18 + 1)), ()))))
    (some (.inl (t2, t8, t16, t17, (w64 (t18 + 1)), ())))))
    (Option.map Sum.inr (Option.bind (slices_Sort_int_int (t8, ())) fun (v2, _) => some (v2, true, ())))
noncomputable def impl_TreeOfState : Int × (List (Int × Int)) × (List Int) × Int × Unit → Option ((List Int) × Bool × Unit) := fun (t0_0, t0_1, t1, t2, _) =>
  Option.bind (impl_IsTreeState (t0_0, t0_1, t1, t2, ())) fun (v1, _) => cond (!v1)
    (some (([] : List Int), false, ()))
    (loopM impl_TreeOfState_L122 (t2, ([] : List Int), t1, ((t1).length : Int), 0, ()))
noncomputable def impl_TreeOfState_F : Fun := ⟨impl_TreeOfState_ins, [], impl_TreeOfState_outs, impl_TreeOfState⟩
noncomputable def impl_TreeOfState_orc : Orc := orcGet [(33, impl_IsTreeState_F), (84, slices_Sort_int_int_F)]
theorem impl_TreeOfState_eq (x : Den impl_TreeOfState_ins) : pmFn (tdGet tab) impl_TreeOfState_orc impl_TreeOfState_F.mn impl_TreeOfState_ann Go.Proofs.Try.f34 impl_TreeOfState_ins impl_TreeOfState_outs x = impl_TreeOfState x := by kernel_rfl
theorem impl_TreeOfState_c : CallsD Go.Proofs.Try.prog 34 impl_TreeOfState_F :=
  fn_contract (F := impl_TreeOfState_F) (C := impl_TreeOfState_orc) mix (chkTab_get tab_ok) (orc_cons impl_IsTreeState_c (orc_cons slices_Sort_int_int_c orc_nil)) impl_TreeOfState_ann (fn := Go.Proofs.Try.f34) (by kernel_rfl) (by kernel_rfl) (by kernel_rfl) (by kernel_rfl) (by kernel_rfl) (fun x y h => (impl_TreeOfState_eq x).trans h)

def impl_ActOnTree_ins : List Item := [.agg 0 [.int .i64, .ro .ii], .t 1 (.ro (.int .i64)), .t 2 (.int .i64), .t 3 (.ro (.int .i64))]
def impl_ActOnTree_outs : List Item := [.t 500 (.own 3 (.int .i64)), .t 501 (.bool)]
def impl_ActOnTree_ann : List (Nat × List Item) := [(28, [.t 2 (.int .i64), .t 3 (.ro (.int .i64)), .t 4 (.ptr 4), .t 10 (.own 3 (.int .i64)), .t 33 (.bool), .box 4 29 [.int .i64, .ro .ii]]),
  (122, [.t 2 (.int .i64), .t 4 (.ptr 4), .t 10 (.own 3 (.int .i64)), .t 34 (.ro (.int .i64)), .t 35 (.int .i64), .t 36 (.int .i64), .box 4 29 [.int .i64, .ro .ii]]),
  (31334, [.t 2 (.int .i64), .t 4 (.ptr 4), .t 10 (.own 3 (.int .i64)), .t 12 (.int .i64), .t 13 (.int .i64), .t 14 (.int .i64), .t 34 (.ro (.int .i64)), .t 35 (.int .i64), .t 36 (.int .i64), .box 4 29 [.int .i64, .ro .ii]])]
noncomputable def impl_ActOnTree_L31334 : Int × (List Int) × Int × Int × Int × (List Int) × Int × Int × Int × (List (Int × Int)) × Unit → Option ((Int × (List Int) × Int × Int × Int × (List Int) × Int × Int × Int × (List (Int × Int)) × Unit) ⊕ (((Int × (List Int) × (List Int) × Int × Int × Int × (List (Int × Int)) × Unit) ⊕ (List Int) × Bool × Unit))) := fun (t2, t10, t12, t13, t14, t34, t35, t36, b4_0, b4_1, _) =>
  cond (decide (t14 < t13))
    (Option.bind (impl_WalkToSink (b4_0, b4_1, t10, t2, t12, ())) fun (v5, v6, v7, _) => cond (!v7)
    (Option.map Sum.inr (Option.map Sum.inr (some (([] : List Int), false, ()))))
    (some (.inl (t2, v5, t12, t13, (w64 (t14 + 1)), t34, t35, t36, b4_0, b4_1, ()))))
    (Option.map Sum.inr (some (.inl (t2, t10, t34, t35, (w64 (t36 + 1)), b4_0, b4_1, ()))))
noncomputable def impl_ActOnTree_L122 : Int × (List Int) × (List Int) × Int × Int × Int × (List (Int × Int)) × Unit → Option ((Int × (List Int) × (List Int) × Int × Int × Int × (List (Int × Int)) × Unit) ⊕ ((List Int) × Bool × Unit)) := fun (t2, t10, t34, t35, t36, b4_0, b4_1, _) =>
  cond (decide (t36 < t35))
    (chk (0 ≤ t36 ∧ t36 < ((t34).length : Int)) (loopM impl_ActOnTree_L31334 (t2, t10, t36, atD 0 t34 t36, 0, t34, t35, t36, b4_0, b4_1, ())))
    (Option.map Sum.inr (Option.bind (impl_TreeOfState (b4_0, b4_1, t10, t2, ())) fun (v8, v9, _) => some (v8, v9, ())))
noncomputable def impl_ActOnTree_J28 : Int × (List Int) × (List Int) × Bool × Int × (List (Int × Int)) × Unit → Option ((List Int) × Bool × Unit) := fun (t2, t3, t10, t33, b4_0, b4_1, _) =>
  cond t33
    (some (([] : List Int), false, ()))
    (loopM impl_ActOnTree_L122 (t2, t10, t3, ((t3).length : Int), 0, b4_0, b4_1, ()))
noncomputable def impl_ActOnTree : Int × (List (Int × Int)) × (List Int) × Int × (List Int) × Unit → Option ((List Int) × Bool × Unit) := fun (t0_0, t0_1, t1, t2, t3, _) =>
  Option.bind (impl_StateOfTree (t0_0, t0_1, t1, t2, ())) fun (v1, v2, _) => joinB (T := Int × (List Int) × (List Int) × Bool × Int × (List (Int × Int)) × Unit) (R := (List Int) × Bool × Unit) (cond (!v2)
    (some (.inl (t2, t3, v1, true, t0_0, t0_1, ())))
    (Option.bind (impl_PileOk (t0_0, t0_1, t3, t2, ())) fun (v4, _) => some (.inl (t2, t3, v1, (!v4), t0_0, t0_1, ())))) impl_ActOnTree_J28
noncomputable def impl_ActOnTree_F : Fun := ⟨impl_ActOnTree_ins, [], impl_ActOnTree_outs, impl_ActOnTree⟩
noncomputable def impl_ActOnTree_orc : Orc := orcGet [(31, impl_StateOfTree_F), (34, impl_TreeOfState_F), (35, impl_WalkToSink_F), (90, impl_PileOk_F)]
theorem impl_ActOnTree_eq (x : Den impl_ActOnTree_ins) : pmFn (tdGet tab) impl_ActOnTree_orc impl_ActOnTree_F.mn impl_ActOnTree_ann Go.Proofs.Try.f40 impl_ActOnTree_ins impl_ActOnTree_outs x = impl_ActOnTree x := by kernel_rfl
theorem impl_ActOnTree_c : CallsD Go.Proofs.Try.prog 40 impl_ActOnTree_F :=
  fn_contract (F := impl_ActOnTree_F) (C := impl_ActOnTree_orc) mix (chkTab_get tab_ok) (orc_cons impl_StateOfTree_c (orc_cons impl_TreeOfState_c (orc_cons impl_WalkToSink_c (orc_cons impl_PileOk_c orc_nil)))) impl_ActOnTree_ann (fn := Go.Proofs.Try.f40) (by kernel_rfl) (by kernel_rfl) (by kernel_rfl) (by kernel_rfl) (by kernel_rfl) (fun x y h => (impl_ActOnTree_eq x).trans h)

def impl_IdentityPile_ins : List Item := [.agg 0 [.int .i64, .ro .ii], .t 1 (.int .i64)]
def impl_IdentityPile_outs : List Item := [.t 500 (.own 3 (.int .i64)), .t 501 (.bool)]
def impl_IdentityPile_ann : List (Nat × List Item) := []
noncomputable def impl_IdentityPile : Int × (List (Int × Int)) × Int × Unit → Option ((List Int) × Bool × Unit) := fun (t0_0, t0_1, t1, _) =>
  Option.bind (impl_isVertex (t0_0, t0_1, t1, ())) fun (v1, _) => cond (!v1)
    (some (([] : List Int), false, ()))
    (chk (t0_0 = t0_0 ∧ 0 ≤ t0_0 ∧ t0_0 ≤ 17592186044416) (Option.bind (impl_recurrentOf (t0_0, t0_1, (List.replicate (t0_0).toNat (0 : Int)), t1, ())) fun (v2, _) => some (v2, true, ())))
noncomputable def impl_IdentityPile_F : Fun := ⟨impl_IdentityPile_ins, [], impl_IdentityPile_outs, impl_IdentityPile⟩
noncomputable def impl_IdentityPile_orc : Orc := orcGet [(83, impl_isVertex_F), (93, impl_recurrentOf_F)]
theorem impl_IdentityPile_eq (x : Den impl_IdentityPile_ins) : pmFn (tdGet tab) impl_IdentityPile_orc impl_IdentityPile_F.mn impl_IdentityPile_ann Go.Proofs.Try.f48 impl_IdentityPile_ins impl_IdentityPile_outs x = impl_IdentityPile x := by kernel_rfl
theorem impl_IdentityPile_c : CallsD Go.Proofs.Try.prog 48 impl_IdentityPile_F :=
  fn_contract (F := impl_IdentityPile_F) (C := impl_IdentityPile_orc) mix (chkTab_get tab_ok) (orc_cons impl_isVertex_c (orc_cons impl_recurrentOf_c orc_nil)) impl_IdentityPile_ann (fn := Go.Proofs.Try.f48) (by kernel_rfl) (by kernel_rfl) (by kernel_rfl) (by kernel_rfl) (by kernel_rfl) (fun x y h => (impl_IdentityPile_eq x).trans h)

def laws_same_ins : List Item := [.t 0 (.ro (.int .i64)), .t 1 (.ro (.int .i64))]
def laws_same_outs : List Item := [.t 500 (.bool)]
def laws_same_ann : List (Nat × List Item) := [(58, [.t 1 (.ro (.int .i64)), .t 12 (.ro (.int .i64)), .t 13 (.int .i64), .t 14 (.int .i64)])]
noncomputable def laws_same_L58 : (List Int) × (List Int) × Int × Int × Unit → Option (((List Int) × (List Int) × Int × Int × Unit) ⊕ (Bool × Unit)) := fun (t1, t12, t13, t14, _) =>
  cond (decide (t14 < t13))
    (chk (0 ≤ t14 ∧ t14 < ((t12).length : Int)) (chk (0 ≤ t14 ∧ t14 < ((t1).length : Int)) (cond (atD 0 t12 t14 != atD 0 t1 t14)
    (Option.map Sum.inr (some (false, ())))
    (some (.inl (t1, t12, t13, (w64 (t14 + 1)), ()))))))
    (Option.map Sum.inr (some (true, ())))
noncomputable def laws_same : (List Int) × (List Int) × Unit → Option (Bool × Unit) := fun (t0, t1, _) =>
  cond (((t0).length : Int) != ((t1).length : Int))
    (some (false, ()))
    (loopM laws_same_L58 (t1, t0, ((t0).length : Int), 0, ()))
noncomputable def laws_same_F : Fun := ⟨laws_same_ins, [], laws_same_outs, laws_same⟩
noncomputable def laws_same_orc : Orc := orcGet []
theorem laws_same_eq (x : Den laws_same_ins) : pmFn (tdGet tab) laws_same_orc laws_same_F.mn laws_same_ann Go.Proofs.Try.f21 laws_same_ins laws_same_outs x = laws_same x := by kernel_rfl
theorem laws_same_c : CallsD Go.Proofs.Try.prog 21 laws_same_F :=
  fn_contract (F := laws_same_F) (C := laws_same_orc) mix (chkTab_get tab_ok) orc_nil laws_same_ann (fn := Go.Proofs.Try.f21) (by kernel_rfl) (by kernel_rfl) (by kernel_rfl) (by kernel_rfl) (by kernel_rfl) (fun x y h => (laws_same_eq x).trans h)

def laws_FnActs_ins : List Item := [.t 0 (.ro (.int .u8))]
def laws_FnActs_outs : List Item := [.t 500 (.bool)]
def laws_FnActs_ann : List (Nat × List Item) := [(32764, [.t 4 (.ro (.int .i64)), .t 7 (.own 3 (.int .i64)), .t 12 (.own 3 (.int .i64)), .t 14 (.own 3 (.int .i64)), .t 16 (.own 3 (.int .i64)), .t 18 (.own 3 (.int .i64)), .t 20 (.own 3 (.int .i64)), .t 123 (.bool)])]
noncomputable def laws_FnActs_J32764 : (List Int) × (List Int) × (List Int) × (List Int) × (List Int) × (List Int) × (List Int) × Bool × Unit → Option (Bool × Unit) := fun (t4, t7, t12, t14, t16, t18, t20, t123, _) =>
  cond t123
    (some (false, ()))
    (Option.bind (laws_same (t12, t14, ())) fun (v23, _) => cond v23
    (Option.bind (laws_same (t12, t16, ())) fun (v24, _) => cond v24
    (Option.bind (laws_same (t20, t4, ())) fun (v25, _) => cond v25
    (Option.bind (laws_same (t12, t4, ())) fun (v26, _) => Option.bind (laws_same (t7, t18, ())) fun (v27, _) => some ((v26 == v27), ()))
    (some (false, ())))
    (some (false, ())))
    (some (false, ())))
noncomputable def laws_FnActs : (List Int) × Unit → Option (Bool × Unit) := fun (t0, _) =>
  cond (decide (((t0).length : Int) > 1048576))
    (some (true, ()))
    (Option.bind (spec_MakeTree (t0, ())) fun (v1, v2, v3, _) => Option.bind (spec_MakeNum (t0, 60, ())) fun (v4, _) => chk (v1 ≠ 0) (Option.bind (spec_MakePile (t0, 20, v1, v2, (v4.tmod v1), ())) fun (v5, _) => Option.bind (impl_RecurrentOf (v1, v2, v5, (v4.tmod v1), ())) fun (v6, v7, _) => Option.bind (impl_Stabilize (v1, v2, v5, (v4.tmod v1), ())) fun (v8, v9, v10, _) => Option.bind (impl_ActOnTree (v1, v2, v3, (v4.tmod v1), v5, ())) fun (v11, v12, _) => Option.bind (impl_ActOnTree (v1, v2, v3, (v4.tmod v1), v6, ())) fun (v13, v14, _) => Option.bind (impl_ActOnTree (v1, v2, v3, (v4.tmod v1), v8, ())) fun (v15, v16, _) => Option.bind (impl_IdentityPile (v1, v2, (v4.tmod v1), ())) fun (v17, v18, _) => Option.bind (impl_ActOnTree (v1, v2, v3, (v4.tmod v1), v17, ())) fun (v19, v20, _) => joinB (T := (List Int) × (List Int) × (List Int) × (List Int) × (List Int) × (List Int) × (List Int) × Bool × Unit) (R := Bool × Unit) (cond (!v7)
    (some (.inl (v3, v6, v11, v13, v15, v17, v19, true, ())))
    (cond (!v10)
    (some (.inl (v3, v6, v11, v13, v15, v17, v19, true, ())))
    (cond (!v12)
    (some (.inl (v3, v6, v11, v13, v15, v17, v19, true, ())))
    (cond (!v14)
    (some (.inl (v3, v6, v11, v13, v15, v17, v19, true, ())))
    (cond (!v16)
    (some (.inl (v3, v6, v11, v13, v15, v17, v19, true, ())))
    (cond (!v18)
    (some (.inl (v3, v6, v11, v13, v15, v17, v19, true, ())))
    (cond (!v20)
    (some (.inl (v3, v6, v11, v13, v15, v17, v19, true, ())))
    (Option.bind (impl_IsTree (v1, v2, v11, ())) fun (v22, _) => some (.inl (v3, v6, v11, v13, v15, v17, v19, (!v22), ())))))))))) laws_FnActs_J32764))
noncomputable def laws_FnActs_F : Fun := ⟨laws_FnActs_ins, [], laws_FnActs_outs, laws_FnActs⟩
noncomputable def laws_FnActs_orc : Orc := orcGet [(21, laws_same_F), (29, spec_MakeTree_F), (30, spec_MakeNum_F), (40, impl_ActOnTree_F), (45, spec_MakePile_F), (46, impl_RecurrentOf_F), (47, impl_Stabilize_F), (48, impl_IdentityPile_F), (49, impl_IsTree_F)]
theorem laws_FnActs_eq (x : Den laws_FnActs_ins) : pmFn (tdGet tab) laws_FnActs_orc laws_FnActs_F.mn laws_FnActs_ann Go.Proofs.Try.f8 laws_FnActs_ins laws_FnActs_outs x = laws_FnActs x := by kernel_rfl
theorem laws_FnActs_c : CallsD Go.Proofs.Try.prog 8 laws_FnActs_F :=
  fn_contract (F := laws_FnActs_F) (C := laws_FnActs_orc) mix (chkTab_get tab_ok) (orc_cons laws_same_c (orc_cons spec_MakeTree_c (orc_cons spec_MakeNum_c (orc_cons impl_ActOnTree_c (orc_cons spec_MakePile_c (orc_cons impl_RecurrentOf_c (orc_cons impl_Stabilize_c (orc_cons impl_IdentityPile_c (orc_cons impl_IsTree_c orc_nil))))))))) laws_FnActs_ann (fn := Go.Proofs.Try.f8) (by kernel_rfl) (by kernel_rfl) (by kernel_rfl) (by kernel_rfl) (by kernel_rfl) (fun x y h => (laws_FnActs_eq x).trans h)

end Go.Pm.Try
