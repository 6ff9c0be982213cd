/-
  The typed functions that this claim reaches, written by a program of this session: each is what the code does. No conditions.
-/
import Derived.Test.YteplfcgofnfciaaProg
import Derived.Test.YteplfcgofnfciaaMb
set_option linter.unusedVariables false
namespace Go.Pm.Try
open Go.Pm
def tab : List (TypeId × TD) := [(3, .one (.int .i64 0)),
  (22, .slice 108 .ii),
  (24, .struct [(0, 1), (1, 1)] [.int .i64 0, .slice none 0 0]),
  (27, .slice 76 .ii),
  (29, .struct [(0, 1), (1, 1)] [.int .i64 0, .slice none 0 0]),
  (35, .slice 3 (.int .i64)),
  (37, .struct [(0, 1), (1, 1)] [.slice none 0 0, .slice none 0 0]),
  (74, .one (.nilFunc)),
  (76, .ii),
  (108, .ii),
  (110, .one (.nilFunc))]
theorem tab_ok : chkTab Go.Proofs.Try.prog tab = true := by kernel_rfl
theorem mix : Go.Proofs.Try.prog.follows .mixedOrders = true := by kernel_rfl
def laws_szEdgeS_ins : List Item := [.t 0 (.ro .ii), .t 1 (.int .i64)]
def laws_szEdgeS_outs : List Item := [.t 500 (.int .i64)]
def laws_szEdgeS_ann : List (Nat × List Item) := []
noncomputable def laws_szEdgeS : (List (Int × Int)) × Int × Unit → Option (Int × Unit) := fun (t0, t1, _) =>
  cond (decide ((w64 (t1 - ((t0).length : Int))) < 0))
    (some ((-1), ()))
    (some ((w64 (t1 - ((t0).length : Int))), ()))
noncomputable def laws_szEdgeS_F : Fun := ⟨laws_szEdgeS_ins, [], laws_szEdgeS_outs, laws_szEdgeS⟩
noncomputable def laws_szEdgeS_orc : Orc := orcGet []
theorem laws_szEdgeS_eq (x : Den laws_szEdgeS_ins) : pmFn (tdGet tab) laws_szEdgeS_orc laws_szEdgeS_F.mn laws_szEdgeS_ann Go.Proofs.Try.f50 laws_szEdgeS_ins laws_szEdgeS_outs x = laws_szEdgeS x := by kernel_rfl
theorem laws_szEdgeS_c : CallsD Go.Proofs.Try.prog 50 laws_szEdgeS_F :=
  fn_contract (F := laws_szEdgeS_F) (C := laws_szEdgeS_orc) mix (chkTab_get tab_ok) orc_nil laws_szEdgeS_ann (fn := Go.Proofs.Try.f50) (by kernel_rfl) (by kernel_rfl) (by kernel_rfl) (by kernel_rfl) (by kernel_rfl) (fun x y h => (laws_szEdgeS_eq x).trans h)

def laws_szGraph_ins : List Item := [.agg 0 [.int .i64, .ro .ii], .t 1 (.int .i64)]
def laws_szGraph_outs : List Item := [.t 500 (.int .i64)]
def laws_szGraph_ann : List (Nat × List Item) := []
noncomputable def laws_szGraph : Int × (List (Int × Int)) × Int × Unit → Option (Int × Unit) := fun (t0_0, t0_1, t1, _) =>
  Option.bind (laws_szEdgeS (t0_1, t1, ())) fun (v1, _) => cond (decide (v1 < 0))
    (some ((-1), ()))
    (some (v1, ()))
noncomputable def laws_szGraph_F : Fun := ⟨laws_szGraph_ins, [], laws_szGraph_outs, laws_szGraph⟩
noncomputable def laws_szGraph_orc : Orc := orcGet [(50, laws_szEdgeS_F)]
theorem laws_szGraph_eq (x : Den laws_szGraph_ins) : pmFn (tdGet tab) laws_szGraph_orc laws_szGraph_F.mn laws_szGraph_ann Go.Proofs.Try.f9 laws_szGraph_ins laws_szGraph_outs x = laws_szGraph x := by kernel_rfl
theorem laws_szGraph_c : CallsD Go.Proofs.Try.prog 9 laws_szGraph_F :=
  fn_contract (F := laws_szGraph_F) (C := laws_szGraph_orc) mix (chkTab_get tab_ok) (orc_cons laws_szEdgeS_c orc_nil) laws_szGraph_ann (fn := Go.Proofs.Try.f9) (by kernel_rfl) (by kernel_rfl) (by kernel_rfl) (by kernel_rfl) (by kernel_rfl) (fun x y h => (laws_szGraph_eq x).trans h)

def laws_toEdge_ins : List Item := [.agg 0 [.int .i64, .int .i64]]
def laws_toEdge_outs : List Item := [.agg 500 [.int .i64, .int .i64]]
def laws_toEdge_ann : List (Nat × List Item) := []
noncomputable def laws_toEdge : Int × Int × Unit → Option (Int × Int × Unit) := fun (t0_0, t0_1, _) =>
  some (t0_0, t0_1, ())
noncomputable def laws_toEdge_F : Fun := ⟨laws_toEdge_ins, [], laws_toEdge_outs, laws_toEdge⟩
noncomputable def laws_toEdge_orc : Orc := orcGet []
theorem laws_toEdge_eq (x : Den laws_toEdge_ins) : pmFn (tdGet tab) laws_toEdge_orc laws_toEdge_F.mn laws_toEdge_ann Go.Proofs.Try.f99 laws_toEdge_ins laws_toEdge_outs x = laws_toEdge x := by kernel_rfl
theorem laws_toEdge_c : CallsD Go.Proofs.Try.prog 99 laws_toEdge_F :=
  fn_contract (F := laws_toEdge_F) (C := laws_toEdge_orc) mix (chkTab_get tab_ok) orc_nil laws_toEdge_ann (fn := Go.Proofs.Try.f99) (by kernel_rfl) (by kernel_rfl) (by kernel_rfl) (by kernel_rfl) (by kernel_rfl) (fun x y h => (laws_toEdge_eq x).trans h)

def laws_toEdgeS_ins : List Item := [.t 0 (.ro .ii)]
def laws_toEdgeS_outs : List Item := [.t 500 (.own 76 .ii)]
def laws_toEdgeS_ann : List (Nat × List Item) := [(58, [.t 0 (.ro .ii), .t 3 (.own 76 .ii), .t 4 (.int .i64)])]
noncomputable def laws_toEdgeS_L58 : (List (Int × Int)) × (List (Int × Int)) × Int × Unit → Option (((List (Int × Int)) × (List (Int × Int)) × Int × Unit) ⊕ ((List (Int × Int)) × Unit)) := fun (t0, t3, t4, _) =>
  cond (decide (t4 < ((t0).length : Int)))
    (chk (0 ≤ t4 ∧ t4 < ((t0).length : Int)) (Option.bind (laws_toEdge ((atD (0, 0) t0 t4).1, (atD (0, 0) t0 t4).2, ())) fun (v1, v2, _) => chk (0 ≤ t4 ∧ t4 < ((t3).length : Int)) (some (.inl (t0, (t3.set (t4 : Int).toNat (v1, v2)), (w64 (t4 + 1)), ())))))
    (Option.map Sum.inr (some (t3, ())))
noncomputable def laws_toEdgeS : (List (Int × Int)) × Unit → Option ((List (Int × Int)) × Unit) := fun (t0, _) =>
  chk (((t0).length : Int) = ((t0).length : Int) ∧ 0 ≤ ((t0).length : Int) ∧ ((t0).length : Int) ≤ 8796093022208) (loopM laws_toEdgeS_L58 (t0, (List.replicate (((t0).length : Int)).toNat ((0, 0) : (Int × Int))), 0, ()))
noncomputable def laws_toEdgeS_F : Fun := ⟨laws_toEdgeS_ins, [], laws_toEdgeS_outs, laws_toEdgeS⟩
noncomputable def laws_toEdgeS_orc : Orc := orcGet [(99, laws_toEdge_F)]
theorem laws_toEdgeS_eq (x : Den laws_toEdgeS_ins) : pmFn (tdGet tab) laws_toEdgeS_orc laws_toEdgeS_F.mn laws_toEdgeS_ann Go.Proofs.Try.f53 laws_toEdgeS_ins laws_toEdgeS_outs x = laws_toEdgeS x := by kernel_rfl
theorem laws_toEdgeS_c : CallsD Go.Proofs.Try.prog 53 laws_toEdgeS_F :=
  fn_contract (F := laws_toEdgeS_F) (C := laws_toEdgeS_orc) mix (chkTab_get tab_ok) (orc_cons laws_toEdge_c orc_nil) laws_toEdgeS_ann (fn := Go.Proofs.Try.f53) (by kernel_rfl) (by kernel_rfl) (by kernel_rfl) (by kernel_rfl) (by kernel_rfl) (fun x y h => (laws_toEdgeS_eq x).trans h)

def laws_toGraph_ins : List Item := [.agg 0 [.int .i64, .ro .ii]]
def laws_toGraph_outs : List Item := [.agg 500 [.int .i64, .own 76 .ii]]
def laws_toGraph_ann : List (Nat × List Item) := []
noncomputable def laws_toGraph : Int × (List (Int × Int)) × Unit → Option (Int × (List (Int × Int)) × Unit) := fun (t0_0, t0_1, _) =>
  Option.bind (laws_toEdgeS (t0_1, ())) fun (v1, _) => some (t0_0, v1, ())
noncomputable def laws_toGraph_F : Fun := ⟨laws_toGraph_ins, [], laws_toGraph_outs, laws_toGraph⟩
noncomputable def laws_toGraph_orc : Orc := orcGet [(53, laws_toEdgeS_F)]
theorem laws_toGraph_eq (x : Den laws_toGraph_ins) : pmFn (tdGet tab) laws_toGraph_orc laws_toGraph_F.mn laws_toGraph_ann Go.Proofs.Try.f11 laws_toGraph_ins laws_toGraph_outs x = laws_toGraph x := by kernel_rfl
theorem laws_toGraph_c : CallsD Go.Proofs.Try.prog 11 laws_toGraph_F :=
  fn_contract (F := laws_toGraph_F) (C := laws_toGraph_orc) mix (chkTab_get tab_ok) (orc_cons laws_toEdgeS_c orc_nil) laws_toGraph_ann (fn := Go.Proofs.Try.f11) (by kernel_rfl) (by kernel_rfl) (by kernel_rfl) (by kernel_rfl) (by kernel_rfl) (fun x y h => (laws_toGraph_eq x).trans h)

def spec_l01In_ins : List Item := [.t 0 (.int .i64), .t 1 (.int .i64), .t 2 (.int .i64)]
def spec_l01In_outs : List Item := [.t 500 (.bool)]
def spec_l01In_ann : List (Nat × List Item) := []
noncomputable def spec_l01In : Int × Int × Int × Unit → Option (Bool × Unit) := fun (t0, t1, t2, _) =>
  cond (decide (t0 ≥ t1))
    (some ((decide (t0 ≤ t2)), ()))
    (some (false, ()))
noncomputable def spec_l01In_F : Fun := ⟨spec_l01In_ins, [], spec_l01In_outs, spec_l01In⟩
noncomputable def spec_l01In_orc : Orc := orcGet []
theorem spec_l01In_eq (x : Den spec_l01In_ins) : pmFn (tdGet tab) spec_l01In_orc spec_l01In_F.mn spec_l01In_ann Go.Proofs.Try.f122 spec_l01In_ins spec_l01In_outs x = spec_l01In x := by kernel_rfl
theorem spec_l01In_c : CallsD Go.Proofs.Try.prog 122 spec_l01In_F :=
  fn_contract (F := spec_l01In_F) (C := spec_l01In_orc) mix (chkTab_get tab_ok) orc_nil spec_l01In_ann (fn := Go.Proofs.Try.f122) (by kernel_rfl) (by kernel_rfl) (by kernel_rfl) (by kernel_rfl) (by kernel_rfl) (fun x y h => (spec_l01In_eq x).trans h)

def spec_EdgesOk_ins : List Item := [.agg 0 [.int .i64, .ro .ii]]
def spec_EdgesOk_outs : List Item := [.t 500 (.bool)]
def spec_EdgesOk_ann : List (Nat × List Item) := [(12, [.t 1 (.ptr 1), .t 14 (.bool), .box 1 29 [.int .i64, .ro .ii]]),
  (58, [.t 1 (.ptr 1), .t 16 (.ro .ii), .t 17 (.int .i64), .t 18 (.int .i64), .box 1 29 [.int .i64, .ro .ii]])]
noncomputable def spec_EdgesOk_L58 : (List (Int × Int)) × Int × Int × Int × (List (Int × Int)) × Unit → Option (((List (Int × Int)) × Int × Int × Int × (List (Int × Int)) × Unit) ⊕ (Bool × Unit)) := fun (t16, t17, t18, b1_0, b1_1, _) =>
  cond (decide (t18 < t17))
    (chk (0 ≤ t18 ∧ t18 < ((t16).length : Int)) (Option.bind (spec_l01In ((atD (0, 0) t16 t18).1, 0, (w64 (b1_0 - 1)), ())) fun (v3, _) => cond (!v3)
    (Option.map Sum.inr (some (false, ())))
    (Option.bind (spec_l01In ((atD (0, 0) t16 t18).2, (w64 ((atD (0, 0) t16 t18).1 + 1)), (w64 (b1_0 - 1)), ())) fun (v4, _) => cond (!v4)
    (Option.map Sum.inr (some (false, ())))
    (some (.inl (t16, t17, (w64 (t18 + 1)), b1_0, b1_1, ()))))))
    (Option.map Sum.inr (some (true, ())))
noncomputable def spec_EdgesOk_J12 : Bool × Int × (List (Int × Int)) × Unit → Option (Bool × Unit) := fun (t14, b1_0, b1_1, _) =>
  cond t14
    (some (false, ()))
    (loopM spec_EdgesOk_L58 (b1_1, ((b1_1).length : Int), 0, b1_0, b1_1, ()))
noncomputable def spec_EdgesOk : Int × (List (Int × Int)) × Unit → Option (Bool × Unit) := fun (t0_0, t0_1, _) =>
  joinB (T := Bool × Int × (List (Int × Int)) × Unit) (R := Bool × Unit) (Option.bind (spec_l01In (t0_0, 1, 6, ())) fun (v2, _) => cond (!v2)
    (some (.inl (true, t0_0, t0_1, ())))
    (some (.inl ((decide (((t0_1).length : Int) > 12)), t0_0, t0_1, ())))) spec_EdgesOk_J12
noncomputable def spec_EdgesOk_F : Fun := ⟨spec_EdgesOk_ins, [], spec_EdgesOk_outs, spec_EdgesOk⟩
noncomputable def spec_EdgesOk_orc : Orc := orcGet [(122, spec_l01In_F)]
theorem spec_EdgesOk_eq (x : Den spec_EdgesOk_ins) : pmFn (tdGet tab) spec_EdgesOk_orc spec_EdgesOk_F.mn spec_EdgesOk_ann Go.Proofs.Try.f97 spec_EdgesOk_ins spec_EdgesOk_outs x = spec_EdgesOk x := by kernel_rfl
theorem spec_EdgesOk_c : CallsD Go.Proofs.Try.prog 97 spec_EdgesOk_F :=
  fn_contract (F := spec_EdgesOk_F) (C := spec_EdgesOk_orc) mix (chkTab_get tab_ok) (orc_cons spec_l01In_c orc_nil) spec_EdgesOk_ann (fn := Go.Proofs.Try.f97) (by kernel_rfl) (by kernel_rfl) (by kernel_rfl) (by kernel_rfl) (by kernel_rfl) (fun x y h => (spec_EdgesOk_eq x).trans h)

def spec_l02Has_ins : List Item := [.t 0 (.ro (.int .i64)), .t 1 (.int .i64)]
def spec_l02Has_outs : List Item := [.t 500 (.bool)]
def spec_l02Has_ann : List (Nat × List Item) := [(26, [.t 1 (.int .i64), .t 7 (.ro (.int .i64)), .t 8 (.int .i64), .t 9 (.int .i64)])]
noncomputable def spec_l02Has_L26 : Int × (List Int) × Int × Int × Unit → Option ((Int × (List Int) × Int × Int × Unit) ⊕ (Bool × Unit)) := fun (t1, t7, t8, t9, _) =>
  cond (decide (t9 < t8))
    (chk (0 ≤ t9 ∧ t9 < ((t7).length : Int)) (cond (atD 0 t7 t9 == t1)
    (Option.map Sum.inr (some (true, ())))
    (some (.inl (t1, t7, t8, (w64 (t9 + 1)), ())))))
    (Option.map Sum.inr (some (false, ())))
noncomputable def spec_l02Has : (List Int) × Int × Unit → Option (Bool × Unit) := fun (t0, t1, _) =>
  loopM spec_l02Has_L26 (t1, t0, ((t0).length : Int), 0, ())
noncomputable def spec_l02Has_F : Fun := ⟨spec_l02Has_ins, [], spec_l02Has_outs, spec_l02Has⟩
noncomputable def spec_l02Has_orc : Orc := orcGet []
theorem spec_l02Has_eq (x : Den spec_l02Has_ins) : pmFn (tdGet tab) spec_l02Has_orc spec_l02Has_F.mn spec_l02Has_ann Go.Proofs.Try.f137 spec_l02Has_ins spec_l02Has_outs x = spec_l02Has x := by kernel_rfl
theorem spec_l02Has_c : CallsD Go.Proofs.Try.prog 137 spec_l02Has_F :=
  fn_contract (F := spec_l02Has_F) (C := spec_l02Has_orc) mix (chkTab_get tab_ok) orc_nil spec_l02Has_ann (fn := Go.Proofs.Try.f137) (by kernel_rfl) (by kernel_rfl) (by kernel_rfl) (by kernel_rfl) (by kernel_rfl) (fun x y h => (spec_l02Has_eq x).trans h)

def spec_l02Reach_ins : List Item := [.agg 0 [.int .i64, .ro .ii]]
def spec_l02Reach_outs : List Item := [.t 500 (.own 3 (.int .i64))]
def spec_l02Reach_ann : List (Nat × List Item) := [(58, [.t 1 (.ptr 1), .t 3 (.own 3 (.int .i64)), .t 4 (.int .i64), .box 1 29 [.int .i64, .ro .ii]]),
  (3730, [.t 1 (.ptr 1), .t 3 (.own 3 (.int .i64)), .t 4 (.int .i64), .t 15 (.ro .ii), .t 16 (.int .i64), .t 17 (.int .i64), .box 1 29 [.int .i64, .ro .ii]]),
  (954980, [.t 1 (.ptr 1), .t 3 (.own 3 (.int .i64)), .t 4 (.int .i64), .t 6 (.ptr 6), .t 15 (.ro .ii), .t 16 (.int .i64), .t 17 (.int .i64), .t 34 (.bool), .box 1 29 [.int .i64, .ro .ii], .box 6 76 [.int .i64, .int .i64]]),
  (954981, [.t 1 (.ptr 1), .t 3 (.own 3 (.int .i64)), .t 4 (.int .i64), .t 6 (.ptr 6), .t 15 (.ro .ii), .t 16 (.int .i64), .t 17 (.int .i64), .box 1 29 [.int .i64, .ro .ii], .box 6 76 [.int .i64, .int .i64]])]
noncomputable def spec_l02Reach_J954981 : (List Int) × Int × (List (Int × Int)) × Int × Int × Int × (List (Int × Int)) × Int × Int × Unit → Option ((((List Int) × Int × (List (Int × Int)) × Int × Int × Int × (List (Int × Int)) × Unit) ⊕ (((List Int) × Int × Int × (List (Int × Int)) × Unit) ⊕ (List Int) × Unit))) := fun (t3, t4, t15, t16, t17, b1_0, b1_1, b6_0, b6_1, _) =>
  chk (0 ≤ t4 ∧ t4 < ((t3).length : Int)) (cond (b6_1 == atD 0 t3 t4)
    (Option.bind (spec_l02Has (t3, b6_0, ())) fun (v4, _) => cond (!v4)
    (chk ((t3).length + (([b6_0] : List Int)).length ≤ 17592186044416) (some (.inl ((t3 ++ ([b6_0] : List Int)), t4, t15, t16, (w64 (t17 + 1)), b1_0, b1_1, ()))))
    (some (.inl (t3, t4, t15, t16, (w64 (t17 + 1)), b1_0, b1_1, ()))))
    (some (.inl (t3, t4, t15, t16, (w64 (t17 + 1)), b1_0, b1_1, ()))))
noncomputable def spec_l02Reach_J954980 : (List Int) × Int × (List (Int × Int)) × Int × Int × Bool × Int × (List (Int × Int)) × Int × Int × Unit → Option ((((List Int) × Int × (List (Int × Int)) × Int × Int × Int × (List (Int × Int)) × Unit) ⊕ (((List Int) × Int × Int × (List (Int × Int)) × Unit) ⊕ (List Int) × Unit))) := fun (t3, t4, t15, t16, t17, t34, b1_0, b1_1, b6_0, b6_1, _) =>
  joinB (T := (List Int) × Int × (List (Int × Int)) × Int × Int × Int × (List (Int × Int)) × Int × Int × Unit) (R := (((List Int) × Int × (List (Int × Int)) × Int × Int × Int × (List (Int × Int)) × Unit) ⊕ (((List Int) × Int × Int × (List (Int × Int)) × Unit) ⊕ (List Int) × Unit))) (cond t34
    (chk ((t3).length + (([b6_1] : List Int)).length ≤ 17592186044416) (some (.inl ((t3 ++ ([b6_1] : List Int)), t4, t15, t16, t17, b1_0, b1_1, b6_0, b6_1, ()))))
    (some (.inl (t3, t4, t15, t16, t17, b1_0, b1_1, b6_0, b6_1, ())))) spec_l02Reach_J954981
noncomputable def spec_l02Reach_L3730 : (List Int) × Int × (List (Int × Int)) × Int × Int × Int × (List (Int × Int)) × Unit → Option (((List Int) × Int × (List (Int × Int)) × Int × Int × Int × (List (Int × Int)) × Unit) ⊕ ((((List Int) × Int × Int × (List (Int × Int)) × Unit) ⊕ (List Int) × Unit))) := fun (t3, t4, t15, t16, t17, b1_0, b1_1, _) =>
  cond (decide (t17 < t16))
    (chk (0 ≤ t17 ∧ t17 < ((t15).length : Int)) (joinB (T := (List Int) × Int × (List (Int × Int)) × Int × Int × Bool × Int × (List (Int × Int)) × Int × Int × Unit) (R := (((List Int) × Int × (List (Int × Int)) × Int × Int × Int × (List (Int × Int)) × Unit) ⊕ (((List Int) × Int × Int × (List (Int × Int)) × Unit) ⊕ (List Int) × Unit))) (chk (0 ≤ t4 ∧ t4 < ((t3).length : Int)) (cond ((atD (0, 0) t15 t17).1 == atD 0 t3 t4)
    (Option.bind (spec_l02Has (t3, (atD (0, 0) t15 t17).2, ())) fun (v2, _) => some (.inl (t3, t4, t15, t16, t17, (!v2), b1_0, b1_1, (atD (0, 0) t15 t17).1, (atD (0, 0) t15 t17).2, ())))
    (some (.inl (t3, t4, t15, t16, t17, false, b1_0, b1_1, (atD (0, 0) t15 t17).1, (atD (0, 0) t15 t17).2, ()))))) spec_l02Reach_J954980))
    (Option.map Sum.inr (some (.inl (t3, (w64 (t4 + 1)), b1_0, b1_1, ()))))
noncomputable def spec_l02Reach_L58 : (List Int) × Int × Int × (List (Int × Int)) × Unit → Option (((List Int) × Int × Int × (List (Int × Int)) × Unit) ⊕ ((List Int) × Unit)) := fun (t3, t4, b1_0, b1_1, _) =>
  cond (decide (t4 < ((t3).length : Int)))
    (loopM spec_l02Reach_L3730 (t3, t4, b1_1, ((b1_1).length : Int), 0, b1_0, b1_1, ()))
    (Option.map Sum.inr (some (t3, ())))
noncomputable def spec_l02Reach : Int × (List (Int × Int)) × Unit → Option ((List Int) × Unit) := fun (t0_0, t0_1, _) =>
  loopM spec_l02Reach_L58 (([0] : List Int), 0, t0_0, t0_1, ())
noncomputable def spec_l02Reach_F : Fun := ⟨spec_l02Reach_ins, [], spec_l02Reach_outs, spec_l02Reach⟩
noncomputable def spec_l02Reach_orc : Orc := orcGet [(137, spec_l02Has_F)]
theorem spec_l02Reach_eq (x : Den spec_l02Reach_ins) : pmFn (tdGet tab) spec_l02Reach_orc spec_l02Reach_F.mn spec_l02Reach_ann Go.Proofs.Try.f98 spec_l02Reach_ins spec_l02Reach_outs x = spec_l02Reach x := by kernel_rfl
theorem spec_l02Reach_c : CallsD Go.Proofs.Try.prog 98 spec_l02Reach_F :=
  fn_contract (F := spec_l02Reach_F) (C := spec_l02Reach_orc) mix (chkTab_get tab_ok) (orc_cons spec_l02Has_c orc_nil) spec_l02Reach_ann (fn := Go.Proofs.Try.f98) (by kernel_rfl) (by kernel_rfl) (by kernel_rfl) (by kernel_rfl) (by kernel_rfl) (fun x y h => (spec_l02Reach_eq x).trans h)

def spec_GraphOk_ins : List Item := [.agg 0 [.int .i64, .ro .ii]]
def spec_GraphOk_outs : List Item := [.t 500 (.bool)]
def spec_GraphOk_ann : List (Nat × List Item) := [(58, [.t 1 (.ptr 1), .t 9 (.ro .ii), .t 10 (.int .i64), .t 11 (.int .i64), .box 1 29 [.int .i64, .ro .ii]])]
noncomputable def spec_GraphOk_L58 : (List (Int × Int)) × Int × Int × Int × (List (Int × Int)) × Unit → Option (((List (Int × Int)) × Int × Int × Int × (List (Int × Int)) × Unit) ⊕ (Bool × Unit)) := fun (t9, t10, t11, b1_0, b1_1, _) =>
  cond (decide (t11 < t10))
    (chk (0 ≤ t11 ∧ t11 < ((t9).length : Int)) (cond (decide (t11 > 0))
    (chk (0 ≤ (w64 (t11 - 1)) ∧ (w64 (t11 - 1)) < ((b1_1).length : Int)) (cond (decide ((atD (0, 0) t9 t11).1 < (atD (0, 0) b1_1 (w64 (t11 - 1))).1))
    (Option.map Sum.inr (some (false, ())))
    (chk (0 ≤ (w64 (t11 - 1)) ∧ (w64 (t11 - 1)) < ((b1_1).length : Int)) (cond ((atD (0, 0) t9 t11).1 == (atD (0, 0) b1_1 (w64 (t11 - 1))).1)
    (chk (0 ≤ (w64 (t11 - 1)) ∧ (w64 (t11 - 1)) < ((b1_1).length : Int)) (cond (decide ((atD (0, 0) t9 t11).2 < (atD (0, 0) b1_1 (w64 (t11 - 1))).2))
    (Option.map Sum.inr (some (false, ())))
    (some (.inl (t9, t10, (w64 (t11 + 1)), b1_0, b1_1, ())))))
    (some (.inl (t9, t10, (w64 (t11 + 1)), b1_0, b1_1, ())))))))
    (some (.inl (t9, t10, (w64 (t11 + 1)), b1_0, b1_1, ())))))
    (Option.map Sum.inr (Option.bind (spec_l02Reach (b1_0, b1_1, ())) fun (v2, _) => some ((((v2).length : Int) == b1_0), ())))
noncomputable def spec_GraphOk : Int × (List (Int × Int)) × Unit → Option (Bool × Unit) := fun (t0_0, t0_1, _) =>
  Option.bind (spec_EdgesOk (t0_0, t0_1, ())) fun (v1, _) => cond (!v1)
    (some (false, ()))
    (loopM spec_GraphOk_L58 (t0_1, ((t0_1).length : Int), 0, t0_0, t0_1, ()))
noncomputable def spec_GraphOk_F : Fun := ⟨spec_GraphOk_ins, [], spec_GraphOk_outs, spec_GraphOk⟩
noncomputable def spec_GraphOk_orc : Orc := orcGet [(97, spec_EdgesOk_F), (98, spec_l02Reach_F)]
theorem spec_GraphOk_eq (x : Den spec_GraphOk_ins) : pmFn (tdGet tab) spec_GraphOk_orc spec_GraphOk_F.mn spec_GraphOk_ann Go.Proofs.Try.f51 spec_GraphOk_ins spec_GraphOk_outs x = spec_GraphOk x := by kernel_rfl
theorem spec_GraphOk_c : CallsD Go.Proofs.Try.prog 51 spec_GraphOk_F :=
  fn_contract (F := spec_GraphOk_F) (C := spec_GraphOk_orc) mix (chkTab_get tab_ok) (orc_cons spec_EdgesOk_c (orc_cons spec_l02Reach_c orc_nil)) spec_GraphOk_ann (fn := Go.Proofs.Try.f51) (by kernel_rfl) (by kernel_rfl) (by kernel_rfl) (by kernel_rfl) (by kernel_rfl) (fun x y h => (spec_GraphOk_eq x).trans h)

def spec_MorphismOk_ins : List Item := [.agg 0 [.int .i64, .ro .ii], .agg 1 [.int .i64, .ro .ii], .agg 2 [.ro (.int .i64), .ro (.int .i64)]]
def spec_MorphismOk_outs : List Item := [.t 500 (.bool)]
def spec_MorphismOk_ann : List (Nat × List Item) := [(12, [.t 3 (.ptr 3), .t 4 (.ptr 4), .t 5 (.ptr 5), .t 38 (.bool), .box 3 29 [.int .i64, .ro .ii], .box 4 29 [.int .i64, .ro .ii], .box 5 37 [.ro (.int .i64), .ro (.int .i64)]]),
  (29, [.t 3 (.ptr 3), .t 4 (.ptr 4), .t 5 (.ptr 5), .box 3 29 [.int .i64, .ro .ii], .box 4 29 [.int .i64, .ro .ii], .box 5 37 [.ro (.int .i64), .ro (.int .i64)]]),
  (58, [.t 3 (.ptr 3), .t 4 (.ptr 4), .t 5 (.ptr 5), .t 40 (.ro (.int .i64)), .t 41 (.int .i64), .t 42 (.int .i64), .box 3 29 [.int .i64, .ro .ii], .box 4 29 [.int .i64, .ro .ii], .box 5 37 [.ro (.int .i64), .ro (.int .i64)]]),
  (122, [.t 4 (.ptr 4), .t 5 (.ptr 5), .t 54 (.ro .ii), .t 55 (.int .i64), .t 56 (.int .i64), .box 4 29 [.int .i64, .ro .ii], .box 5 37 [.ro (.int .i64), .ro (.int .i64)]])]
noncomputable def spec_MorphismOk_L58 : (List Int) × Int × Int × Int × (List (Int × Int)) × Int × (List (Int × Int)) × (List Int) × (List Int) × Unit → Option (((List Int) × Int × Int × Int × (List (Int × Int)) × Int × (List (Int × Int)) × (List Int) × (List Int) × Unit) ⊕ (((Int × (List (Int × Int)) × Int × (List (Int × Int)) × (List Int) × (List Int) × Unit) ⊕ Bool × Unit))) := fun (t40, t41, t42, b3_0, b3_1, b4_0, b4_1, b5_0, b5_1, _) =>
  cond (decide (t42 < t41))
    (chk (0 ≤ t42 ∧ t42 < ((t40).length : Int)) (Option.bind (spec_l01In (atD 0 t40 t42, 0, (w64 (b4_0 - 1)), ())) fun (v5, _) => cond (!v5)
    (Option.map Sum.inr (Option.map Sum.inr (some (false, ()))))
    (some (.inl (t40, t41, (w64 (t42 + 1)), b3_0, b3_1, b4_0, b4_1, b5_0, b5_1, ())))))
    (Option.map Sum.inr (some (.inl (b3_0, b3_1, b4_0, b4_1, b5_0, b5_1, ()))))
noncomputable def spec_MorphismOk_L122 : (List (Int × Int)) × Int × Int × Int × (List (Int × Int)) × (List Int) × (List Int) × Unit → Option (((List (Int × Int)) × Int × Int × Int × (List (Int × Int)) × (List Int) × (List Int) × Unit) ⊕ (Bool × Unit)) := fun (t54, t55, t56, b4_0, b4_1, b5_0, b5_1, _) =>
  cond (decide (t56 < t55))
    (chk (0 ≤ t56 ∧ t56 < ((t54).length : Int)) (chk (0 ≤ (atD (0, 0) t54 t56).1 ∧ (atD (0, 0) t54 t56).1 < ((b5_0).length : Int)) (chk (0 ≤ (atD (0, 0) t54 t56).2 ∧ (atD (0, 0) t54 t56).2 < ((b5_0).length : Int)) (chk (0 ≤ t56 ∧ t56 < ((b5_1).length : Int)) (cond (atD 0 b5_1 t56 == (-1))
    (cond (atD 0 b5_0 ((atD (0, 0) t54 t56).1) != atD 0 b5_0 ((atD (0, 0) t54 t56).2))
    (Option.map Sum.inr (some (false, ())))
    (some (.inl (t54, t55, (w64 (t56 + 1)), b4_0, b4_1, b5_0, b5_1, ()))))
    (Option.bind (spec_l01In (atD 0 b5_1 t56, 0, (w64 (((b4_1).length : Int) - 1)), ())) fun (v6, _) => cond (!v6)
    (Option.map Sum.inr (some (false, ())))
    (chk (0 ≤ atD 0 b5_1 t56 ∧ atD 0 b5_1 t56 < ((b4_1).length : Int)) (cond ((atD (0, 0) b4_1 (atD 0 b5_1 t56)).1 != (min2 (atD 0 b5_0 ((atD (0, 0) t54 t56).1)) (atD 0 b5_0 ((atD (0, 0) t54 t56).2))))
    (Option.map Sum.inr (some (false, ())))
    (chk (0 ≤ atD 0 b5_1 t56 ∧ atD 0 b5_1 t56 < ((b4_1).length : Int)) (cond ((atD (0, 0) b4_1 (atD 0 b5_1 t56)).2 != (max2 (atD 0 b5_0 ((atD (0, 0) t54 t56).1)) (atD 0 b5_0 ((atD (0, 0) t54 t56).2))))
    (Option.map Sum.inr (some (false, ())))
    (some (.inl (t54, t55, (w64 (t56 + 1)), b4_0, b4_1, b5_0, b5_1, ())))))))))))))
    (Option.map Sum.inr (some (true, ())))
noncomputable def spec_MorphismOk_J29 : Int × (List (Int × Int)) × Int × (List (Int × Int)) × (List Int) × (List Int) × Unit → Option (Bool × Unit) := fun (b3_0, b3_1, b4_0, b4_1, b5_0, b5_1, _) =>
  loopM spec_MorphismOk_L122 (b3_1, ((b3_1).length : Int), 0, b4_0, b4_1, b5_0, b5_1, ())
noncomputable def spec_MorphismOk_J12 : Bool × Int × (List (Int × Int)) × Int × (List (Int × Int)) × (List Int) × (List Int) × Unit → Option (Bool × Unit) := fun (t38, b3_0, b3_1, b4_0, b4_1, b5_0, b5_1, _) =>
  cond t38
    (some (false, ()))
    (joinB (T := Int × (List (Int × Int)) × Int × (List (Int × Int)) × (List Int) × (List Int) × Unit) (R := Bool × Unit) (loopM spec_MorphismOk_L58 (b5_0, ((b5_0).length : Int), 0, b3_0, b3_1, b4_0, b4_1, b5_0, b5_1, ())) spec_MorphismOk_J29)
noncomputable def spec_MorphismOk : Int × (List (Int × Int)) × Int × (List (Int × Int)) × (List Int) × (List Int) × Unit → Option (Bool × Unit) := fun (t0_0, t0_1, t1_0, t1_1, t2_0, t2_1, _) =>
  joinB (T := Bool × Int × (List (Int × Int)) × Int × (List (Int × Int)) × (List Int) × (List Int) × Unit) (R := Bool × Unit) (Option.bind (spec_GraphOk (t0_0, t0_1, ())) fun (v2, _) => cond (!v2)
    (some (.inl (true, t0_0, t0_1, t1_0, t1_1, t2_0, t2_1, ())))
    (Option.bind (spec_GraphOk (t1_0, t1_1, ())) fun (v3, _) => cond (!v3)
    (some (.inl (true, t0_0, t0_1, t1_0, t1_1, t2_0, t2_1, ())))
    (cond (((t2_0).length : Int) != t0_0)
    (some (.inl (true, t0_0, t0_1, t1_0, t1_1, t2_0, t2_1, ())))
    (some (.inl ((((t2_1).length : Int) != ((t0_1).length : Int)), t0_0, t0_1, t1_0, t1_1, t2_0, t2_1, ())))))) spec_MorphismOk_J12
noncomputable def spec_MorphismOk_F : Fun := ⟨spec_MorphismOk_ins, [], spec_MorphismOk_outs, spec_MorphismOk⟩
noncomputable def spec_MorphismOk_orc : Orc := orcGet [(51, spec_GraphOk_F), (122, spec_l01In_F)]
theorem spec_MorphismOk_eq (x : Den spec_MorphismOk_ins) : pmFn (tdGet tab) spec_MorphismOk_orc spec_MorphismOk_F.mn spec_MorphismOk_ann Go.Proofs.Try.f109 spec_MorphismOk_ins spec_MorphismOk_outs x = spec_MorphismOk x := by kernel_rfl
theorem spec_MorphismOk_c : CallsD Go.Proofs.Try.prog 109 spec_MorphismOk_F :=
  fn_contract (F := spec_MorphismOk_F) (C := spec_MorphismOk_orc) mix (chkTab_get tab_ok) (orc_cons spec_GraphOk_c (orc_cons spec_l01In_c orc_nil)) spec_MorphismOk_ann (fn := Go.Proofs.Try.f109) (by kernel_rfl) (by kernel_rfl) (by kernel_rfl) (by kernel_rfl) (by kernel_rfl) (fun x y h => (spec_MorphismOk_eq x).trans h)

def spec_l16Over_ins : List Item := [.agg 0 [.int .i64, .ro .ii], .agg 1 [.ro (.int .i64), .ro (.int .i64)], .t 2 (.int .i64), .t 3 (.int .i64)]
def spec_l16Over_outs : List Item := [.t 500 (.int .i64)]
def spec_l16Over_ann : List (Nat × List Item) := [(58, [.t 2 (.int .i64), .t 3 (.int .i64), .t 5 (.ptr 5), .t 9 (.int .i64), .t 13 (.ro .ii), .t 14 (.int .i64), .t 15 (.int .i64), .box 5 37 [.ro (.int .i64), .ro (.int .i64)]])]
noncomputable def spec_l16Over_L58 : Int × Int × Int × (List (Int × Int)) × Int × Int × (List Int) × (List Int) × Unit → Option ((Int × Int × Int × (List (Int × Int)) × Int × Int × (List Int) × (List Int) × Unit) ⊕ (Int × Unit)) := fun (t2, t3, t9, t13, t14, t15, b5_0, b5_1, _) =>
  cond (decide (t15 < t14))
    (chk (0 ≤ t15 ∧ t15 < ((t13).length : Int)) (cond ((atD (0, 0) t13 t15).1 == t2)
    (chk (0 ≤ t15 ∧ t15 < ((b5_1).length : Int)) (cond (atD 0 b5_1 t15 == t3)
    (some (.inl (t2, t3, (w64 (t9 + 1)), t13, t14, (w64 (t15 + 1)), b5_0, b5_1, ())))
    (some (.inl (t2, t3, t9, t13, t14, (w64 (t15 + 1)), b5_0, b5_1, ())))))
    (cond ((atD (0, 0) t13 t15).2 == t2)
    (chk (0 ≤ t15 ∧ t15 < ((b5_1).length : Int)) (cond (atD 0 b5_1 t15 == t3)
    (some (.inl (t2, t3, (w64 (t9 + 1)), t13, t14, (w64 (t15 + 1)), b5_0, b5_1, ())))
    (some (.inl (t2, t3, t9, t13, t14, (w64 (t15 + 1)), b5_0, b5_1, ())))))
    (some (.inl (t2, t3, t9, t13, t14, (w64 (t15 + 1)), b5_0, b5_1, ()))))))
    (Option.map Sum.inr (some (t9, ())))
noncomputable def spec_l16Over : Int × (List (Int × Int)) × (List Int) × (List Int) × Int × Int × Unit → Option (Int × Unit) := fun (t0_0, t0_1, t1_0, t1_1, t2, t3, _) =>
  loopM spec_l16Over_L58 (t2, t3, 0, t0_1, ((t0_1).length : Int), 0, t1_0, t1_1, ())
noncomputable def spec_l16Over_F : Fun := ⟨spec_l16Over_ins, [], spec_l16Over_outs, spec_l16Over⟩
noncomputable def spec_l16Over_orc : Orc := orcGet []
theorem spec_l16Over_eq (x : Den spec_l16Over_ins) : pmFn (tdGet tab) spec_l16Over_orc spec_l16Over_F.mn spec_l16Over_ann Go.Proofs.Try.f140 spec_l16Over_ins spec_l16Over_outs x = spec_l16Over x := by kernel_rfl
theorem spec_l16Over_c : CallsD Go.Proofs.Try.prog 140 spec_l16Over_F :=
  fn_contract (F := spec_l16Over_F) (C := spec_l16Over_orc) mix (chkTab_get tab_ok) orc_nil spec_l16Over_ann (fn := Go.Proofs.Try.f140) (by kernel_rfl) (by kernel_rfl) (by kernel_rfl) (by kernel_rfl) (by kernel_rfl) (fun x y h => (spec_l16Over_eq x).trans h)

def spec_l16Horizontal_ins : List Item := [.agg 0 [.int .i64, .ro .ii], .agg 1 [.int .i64, .ro .ii], .agg 2 [.ro (.int .i64), .ro (.int .i64)], .t 3 (.int .i64)]
def spec_l16Horizontal_outs : List Item := [.t 500 (.int .i64)]
def spec_l16Horizontal_ann : List (Nat × List Item) := [(122, [.t 3 (.int .i64), .t 4 (.ptr 4), .t 6 (.ptr 6), .t 9 (.int .i64), .t 10 (.bool), .t 15 (.ro .ii), .t 16 (.int .i64), .t 17 (.int .i64), .box 4 29 [.int .i64, .ro .ii], .box 6 37 [.ro (.int .i64), .ro (.int .i64)]]),
  (31332, [.t 3 (.int .i64), .t 4 (.ptr 4), .t 6 (.ptr 6), .t 9 (.int .i64), .t 10 (.bool), .t 11 (.int .i64), .t 15 (.ro .ii), .t 16 (.int .i64), .t 17 (.int .i64), .t 39 (.bool), .box 4 29 [.int .i64, .ro .ii], .box 6 37 [.ro (.int .i64), .ro (.int .i64)]])]
noncomputable def spec_l16Horizontal_J31332 : Int × Int × Bool × Int × (List (Int × Int)) × Int × Int × Bool × Int × (List (Int × Int)) × (List Int) × (List Int) × Unit → Option (((Int × Int × Bool × (List (Int × Int)) × Int × Int × Int × (List (Int × Int)) × (List Int) × (List Int) × Unit) ⊕ Int × Unit)) := fun (t3, t9, t10, t11, t15, t16, t17, t39, b4_0, b4_1, b6_0, b6_1, _) =>
  cond t39
    (some (.inl (t3, t9, t10, t15, t16, (w64 (t17 + 1)), b4_0, b4_1, b6_0, b6_1, ())))
    (Option.bind (spec_l16Over (b4_0, b4_1, b6_0, b6_1, t3, t11, ())) fun (v2, _) => cond (!t10)
    (cond (v2 != t9)
    (Option.map Sum.inr (some ((-1), ())))
    (some (.inl (t3, v2, false, t15, t16, (w64 (t17 + 1)), b4_0, b4_1, b6_0, b6_1, ()))))
    (some (.inl (t3, v2, false, t15, t16, (w64 (t17 + 1)), b4_0, b4_1, b6_0, b6_1, ()))))
noncomputable def spec_l16Horizontal_L122 : Int × Int × Bool × (List (Int × Int)) × Int × Int × Int × (List (Int × Int)) × (List Int) × (List Int) × Unit → Option ((Int × Int × Bool × (List (Int × Int)) × Int × Int × Int × (List (Int × Int)) × (List Int) × (List Int) × Unit) ⊕ (Int × Unit)) := fun (t3, t9, t10, t15, t16, t17, b4_0, b4_1, b6_0, b6_1, _) =>
  cond (decide (t17 < t16))
    (chk (0 ≤ t17 ∧ t17 < ((t15).length : Int)) (joinB (T := Int × Int × Bool × Int × (List (Int × Int)) × Int × Int × Bool × Int × (List (Int × Int)) × (List Int) × (List Int) × Unit) (R := ((Int × Int × Bool × (List (Int × Int)) × Int × Int × Int × (List (Int × Int)) × (List Int) × (List Int) × Unit) ⊕ Int × Unit)) (chk (0 ≤ t3 ∧ t3 < ((b6_0).length : Int)) (cond ((atD (0, 0) t15 t17).1 != atD 0 b6_0 t3)
    (chk (0 ≤ t3 ∧ t3 < ((b6_0).length : Int)) (some (.inl (t3, t9, t10, t17, t15, t16, t17, ((atD (0, 0) t15 t17).2 != atD 0 b6_0 t3), b4_0, b4_1, b6_0, b6_1, ()))))
    (some (.inl (t3, t9, t10, t17, t15, t16, t17, false, b4_0, b4_1, b6_0, b6_1, ()))))) spec_l16Horizontal_J31332))
    (Option.map Sum.inr (some (t9, ())))
noncomputable def spec_l16Horizontal : Int × (List (Int × Int)) × Int × (List (Int × Int)) × (List Int) × (List Int) × Int × Unit → Option (Int × Unit) := fun (t0_0, t0_1, t1_0, t1_1, t2_0, t2_1, t3, _) =>
  loopM spec_l16Horizontal_L122 (t3, 0, true, t1_1, ((t1_1).length : Int), 0, t0_0, t0_1, t2_0, t2_1, ())
noncomputable def spec_l16Horizontal_F : Fun := ⟨spec_l16Horizontal_ins, [], spec_l16Horizontal_outs, spec_l16Horizontal⟩
noncomputable def spec_l16Horizontal_orc : Orc := orcGet [(140, spec_l16Over_F)]
theorem spec_l16Horizontal_eq (x : Den spec_l16Horizontal_ins) : pmFn (tdGet tab) spec_l16Horizontal_orc spec_l16Horizontal_F.mn spec_l16Horizontal_ann Go.Proofs.Try.f110 spec_l16Horizontal_ins spec_l16Horizontal_outs x = spec_l16Horizontal x := by kernel_rfl
theorem spec_l16Horizontal_c : CallsD Go.Proofs.Try.prog 110 spec_l16Horizontal_F :=
  fn_contract (F := spec_l16Horizontal_F) (C := spec_l16Horizontal_orc) mix (chkTab_get tab_ok) (orc_cons spec_l16Over_c orc_nil) spec_l16Horizontal_ann (fn := Go.Proofs.Try.f110) (by kernel_rfl) (by kernel_rfl) (by kernel_rfl) (by kernel_rfl) (by kernel_rfl) (fun x y h => (spec_l16Horizontal_eq x).trans h)

def spec_IsHarmonic_ins : List Item := [.agg 0 [.int .i64, .ro .ii], .agg 1 [.int .i64, .ro .ii], .agg 2 [.ro (.int .i64), .ro (.int .i64)]]
def spec_IsHarmonic_outs : List Item := [.t 500 (.bool)]
def spec_IsHarmonic_ann : List (Nat × List Item) := [(58, [.t 3 (.ptr 3), .t 4 (.ptr 4), .t 5 (.ptr 5), .t 7 (.int .i64), .box 3 29 [.int .i64, .ro .ii], .box 4 29 [.int .i64, .ro .ii], .box 5 37 [.ro (.int .i64), .ro (.int .i64)]])]
noncomputable def spec_IsHarmonic_L58 : Int × Int × (List (Int × Int)) × Int × (List (Int × Int)) × (List Int) × (List Int) × Unit → Option ((Int × Int × (List (Int × Int)) × Int × (List (Int × Int)) × (List Int) × (List Int) × Unit) ⊕ (Bool × Unit)) := fun (t7, b3_0, b3_1, b4_0, b4_1, b5_0, b5_1, _) =>
  cond (decide (t7 < b3_0))
    (Option.bind (spec_l16Horizontal (b3_0, b3_1, b4_0, b4_1, b5_0, b5_1, t7, ())) fun (v2, _) => cond (decide (v2 < 0))
    (Option.map Sum.inr (some (false, ())))
    (some (.inl ((w64 (t7 + 1)), b3_0, b3_1, b4_0, b4_1, b5_0, b5_1, ()))))
    (Option.map Sum.inr (some (true, ())))
noncomputable def spec_IsHarmonic : Int × (List (Int × Int)) × Int × (List (Int × Int)) × (List Int) × (List Int) × Unit → Option (Bool × Unit) := fun (t0_0, t0_1, t1_0, t1_1, t2_0, t2_1, _) =>
  Option.bind (spec_MorphismOk (t0_0, t0_1, t1_0, t1_1, t2_0, t2_1, ())) fun (v1, _) => cond (!v1)
    (some (false, ()))
    (loopM spec_IsHarmonic_L58 (0, t0_0, t0_1, t1_0, t1_1, t2_0, t2_1, ()))
noncomputable def spec_IsHarmonic_F : Fun := ⟨spec_IsHarmonic_ins, [], spec_IsHarmonic_outs, spec_IsHarmonic⟩
noncomputable def spec_IsHarmonic_orc : Orc := orcGet [(109, spec_MorphismOk_F), (110, spec_l16Horizontal_F)]
theorem spec_IsHarmonic_eq (x : Den spec_IsHarmonic_ins) : pmFn (tdGet tab) spec_IsHarmonic_orc spec_IsHarmonic_F.mn spec_IsHarmonic_ann Go.Proofs.Try.f67 spec_IsHarmonic_ins spec_IsHarmonic_outs x = spec_IsHarmonic x := by kernel_rfl
theorem spec_IsHarmonic_c : CallsD Go.Proofs.Try.prog 67 spec_IsHarmonic_F :=
  fn_contract (F := spec_IsHarmonic_F) (C := spec_IsHarmonic_orc) mix (chkTab_get tab_ok) (orc_cons spec_MorphismOk_c (orc_cons spec_l16Horizontal_c orc_nil)) spec_IsHarmonic_ann (fn := Go.Proofs.Try.f67) (by kernel_rfl) (by kernel_rfl) (by kernel_rfl) (by kernel_rfl) (by kernel_rfl) (fun x y h => (spec_IsHarmonic_eq x).trans h)

def spec_l16Count_ins : List Item := [.agg 0 [.int .i64, .ro .ii], .agg 1 [.int .i64, .ro .ii], .agg 2 [.ro (.int .i64), .ro (.int .i64)]]
def spec_l16Count_outs : List Item := [.t 500 (.int .i64)]
def spec_l16Count_ann : List (Nat × List Item) := [(2042, [.t 3 (.ptr 3), .t 4 (.ptr 4), .t 5 (.ptr 5), .t 8 (.int .i64), .t 9 (.int .i64), .t 10 (.int .i64), .t 61 (.ro .ii), .t 62 (.int .i64), .t 63 (.int .i64), .box 3 29 [.int .i64, .ro .ii], .box 4 29 [.int .i64, .ro .ii], .box 5 37 [.ro (.int .i64), .ro (.int .i64)]]),
  (261426, [.t 3 (.ptr 3), .t 4 (.ptr 4), .t 5 (.ptr 5), .t 8 (.int .i64), .t 9 (.int .i64), .t 10 (.int .i64), .t 11 (.int .i64), .t 61 (.ro .ii), .t 62 (.int .i64), .t 63 (.int .i64), .t 81 (.bool), .box 3 29 [.int .i64, .ro .ii], .box 4 29 [.int .i64, .ro .ii], .box 5 37 [.ro (.int .i64), .ro (.int .i64)]])]
noncomputable def spec_l16Count_J261426 (self_ : Int × (List (Int × Int)) × Int × (List (Int × Int)) × (List Int) × (List Int) × Unit → Option (Int × Unit)) : Int × Int × Int × Int × (List (Int × Int)) × Int × Int × Bool × Int × (List (Int × Int)) × Int × (List (Int × Int)) × (List Int) × (List Int) × Unit → Option (((Int × Int × Int × (List (Int × Int)) × Int × Int × Int × (List (Int × Int)) × Int × (List (Int × Int)) × (List Int) × (List Int) × Unit) ⊕ Int × Unit)) := fun (t8, t9, t10, t11, t61, t62, t63, t81, b3_0, b3_1, b4_0, b4_1, b5_0, b5_1, _) =>
  cond t81
    (chk ((([] : List Int)).length + (b5_1).length ≤ 17592186044416) (chk (((([] : List Int) ++ b5_1)).length + (([t11] : List Int)).length ≤ 17592186044416) (Option.bind (self_ (b3_0, b3_1, b4_0, b4_1, b5_0, ((([] : List Int) ++ b5_1) ++ ([t11] : List Int)), ())) fun (v4, _) => some (.inl (t8, t9, (w64 (t10 + v4)), t61, t62, (w64 (t63 + 1)), b3_0, b3_1, b4_0, b4_1, b5_0, b5_1, ())))))
    (some (.inl (t8, t9, t10, t61, t62, (w64 (t63 + 1)), b3_0, b3_1, b4_0, b4_1, b5_0, b5_1, ())))
noncomputable def spec_l16Count_L2042 (self_ : Int × (List (Int × Int)) × Int × (List (Int × Int)) × (List Int) × (List Int) × Unit → Option (Int × Unit)) : Int × Int × Int × (List (Int × Int)) × Int × Int × Int × (List (Int × Int)) × Int × (List (Int × Int)) × (List Int) × (List Int) × Unit → Option ((Int × Int × Int × (List (Int × Int)) × Int × Int × Int × (List (Int × Int)) × Int × (List (Int × Int)) × (List Int) × (List Int) × Unit) ⊕ (Int × Unit)) := fun (t8, t9, t10, t61, t62, t63, b3_0, b3_1, b4_0, b4_1, b5_0, b5_1, _) =>
  cond (decide (t63 < t62))
    (chk (0 ≤ t63 ∧ t63 < ((t61).length : Int)) (joinB (T := Int × Int × Int × Int × (List (Int × Int)) × Int × Int × Bool × Int × (List (Int × Int)) × Int × (List (Int × Int)) × (List Int) × (List Int) × Unit) (R := ((Int × Int × Int × (List (Int × Int)) × Int × Int × Int × (List (Int × Int)) × Int × (List (Int × Int)) × (List Int) × (List Int) × Unit) ⊕ Int × Unit)) (cond ((atD (0, 0) t61 t63).1 == (min2 t8 t9))
    (some (.inl (t8, t9, t10, t63, t61, t62, t63, ((atD (0, 0) t61 t63).2 == (max2 t8 t9)), b3_0, b3_1, b4_0, b4_1, b5_0, b5_1, ())))
    (some (.inl (t8, t9, t10, t63, t61, t62, t63, false, b3_0, b3_1, b4_0, b4_1, b5_0, b5_1, ())))) (spec_l16Count_J261426 self_)))
    (Option.map Sum.inr (some (t10, ())))
noncomputable def spec_l16Count_step (self_ : Int × (List (Int × Int)) × Int × (List (Int × Int)) × (List Int) × (List Int) × Unit → Option (Int × Unit)) : Int × (List (Int × Int)) × Int × (List (Int × Int)) × (List Int) × (List Int) × Unit → Option (Int × Unit) := fun (t0_0, t0_1, t1_0, t1_1, t2_0, t2_1, _) =>
  cond (((t2_1).length : Int) == ((t0_1).length : Int))
    (Option.bind (spec_IsHarmonic (t0_0, t0_1, t1_0, t1_1, t2_0, t2_1, ())) fun (v1, _) => cond v1
    (some (1, ()))
    (some (0, ())))
    (chk (0 ≤ ((t2_1).length : Int) ∧ ((t2_1).length : Int) < ((t0_1).length : Int)) (chk (0 ≤ (atD (0, 0) t0_1 ((t2_1).length : Int)).1 ∧ (atD (0, 0) t0_1 ((t2_1).length : Int)).1 < ((t2_0).length : Int)) (chk (0 ≤ ((t2_1).length : Int) ∧ ((t2_1).length : Int) < ((t0_1).length : Int)) (chk (0 ≤ (atD (0, 0) t0_1 ((t2_1).length : Int)).2 ∧ (atD (0, 0) t0_1 ((t2_1).length : Int)).2 < ((t2_0).length : Int)) (cond (atD 0 t2_0 ((atD (0, 0) t0_1 ((t2_1).length : Int)).1) == atD 0 t2_0 ((atD (0, 0) t0_1 ((t2_1).length : Int)).2))
    (chk ((([] : List Int)).length + (t2_1).length ≤ 17592186044416) (chk (((([] : List Int) ++ t2_1)).length + (([(-1)] : List Int)).length ≤ 17592186044416) (Option.bind (self_ (t0_0, t0_1, t1_0, t1_1, t2_0, ((([] : List Int) ++ t2_1) ++ ([(-1)] : List Int)), ())) fun (v2, _) => some (v2, ()))))
    (loopM (spec_l16Count_L2042 self_) (atD 0 t2_0 ((atD (0, 0) t0_1 ((t2_1).length : Int)).1), atD 0 t2_0 ((atD (0, 0) t0_1 ((t2_1).length : Int)).2), 0, t1_1, ((t1_1).length : Int), 0, t0_0, t0_1, t1_0, t1_1, t2_0, t2_1, ())))))))
noncomputable def spec_l16Count_rec : Nat → Int × (List (Int × Int)) × Int × (List (Int × Int)) × (List Int) × (List Int) × Unit → Option (Int × Unit)
  | 0 => fun _ => none
  | k + 1 => spec_l16Count_step (spec_l16Count_rec k)
noncomputable def spec_l16Count : Int × (List (Int × Int)) × Int × (List (Int × Int)) × (List Int) × (List Int) × Unit → Option (Int × Unit) := spec_l16Count_rec 64
noncomputable def spec_l16Count_G (self_ : Int × (List (Int × Int)) × Int × (List (Int × Int)) × (List Int) × (List Int) × Unit → Option (Int × Unit)) : Fun := ⟨spec_l16Count_ins, [], spec_l16Count_outs, self_⟩
noncomputable def spec_l16Count_orc (self_ : Int × (List (Int × Int)) × Int × (List (Int × Int)) × (List Int) × (List Int) × Unit → Option (Int × Unit)) : Orc := orcGet [(52, spec_l16Count_G self_), (67, spec_IsHarmonic_F)]
theorem spec_l16Count_eq (self_ : Int × (List (Int × Int)) × Int × (List (Int × Int)) × (List Int) × (List Int) × Unit → Option (Int × Unit)) (x : Den spec_l16Count_ins) : pmFn (tdGet tab) (spec_l16Count_orc self_) (spec_l16Count_G self_).mn spec_l16Count_ann Go.Proofs.Try.f52 spec_l16Count_ins spec_l16Count_outs x = spec_l16Count_step self_ x := by kernel_rfl
theorem spec_l16Count_cn : ∀ k : Nat, CallsD Go.Proofs.Try.prog 52 (spec_l16Count_G (spec_l16Count_rec k))
  | 0 => fn_contract (F := spec_l16Count_G (spec_l16Count_rec 0)) (C := orcGet []) mix (chkTab_get tab_ok) orc_nil spec_l16Count_ann (fn := Go.Proofs.Try.f52) (by kernel_rfl) (by kernel_rfl) (by kernel_rfl) (by kernel_rfl) (by kernel_rfl) (fun x y h => nomatch h)
  | k + 1 => have ih := spec_l16Count_cn k
    fn_contract (F := spec_l16Count_G (spec_l16Count_rec (k + 1))) (C := spec_l16Count_orc (spec_l16Count_rec k)) mix (chkTab_get tab_ok) (orc_cons ih (orc_cons spec_IsHarmonic_c orc_nil)) spec_l16Count_ann (fn := Go.Proofs.Try.f52) (by kernel_rfl) (by kernel_rfl) (by kernel_rfl) (by kernel_rfl) (by kernel_rfl) (fun x y h => (spec_l16Count_eq (spec_l16Count_rec k) x).trans h)
noncomputable def spec_l16Count_F : Fun := spec_l16Count_G spec_l16Count
theorem spec_l16Count_c : CallsD Go.Proofs.Try.prog 52 spec_l16Count_F := spec_l16Count_cn 64

def spec_CountMorphisms_ins : List Item := [.agg 0 [.int .i64, .ro .ii], .agg 1 [.int .i64, .ro .ii]]
def spec_CountMorphisms_outs : List Item := [.t 500 (.int .i64)]
def spec_CountMorphisms_ann : List (Nat × List Item) := [(12, [.t 2 (.ptr 2), .t 3 (.ptr 3), .t 42 (.bool), .box 2 29 [.int .i64, .ro .ii], .box 3 29 [.int .i64, .ro .ii]]),
  (61, [.t 2 (.ptr 2), .t 3 (.ptr 3), .t 5 (.int .i64), .box 2 29 [.int .i64, .ro .ii], .box 3 29 [.int .i64, .ro .ii]]),
  (122, [.t 2 (.ptr 2), .t 3 (.ptr 3), .t 5 (.int .i64), .t 6 (.int .i64), .box 2 29 [.int .i64, .ro .ii], .box 3 29 [.int .i64, .ro .ii]]),
  (506, [.t 2 (.ptr 2), .t 3 (.ptr 3), .t 5 (.int .i64), .t 7 (.int .i64), .t 8 (.int .i64), .box 2 29 [.int .i64, .ro .ii], .box 3 29 [.int .i64, .ro .ii]]),
  (518458, [.t 2 (.ptr 2), .t 3 (.ptr 3), .t 5 (.int .i64), .t 7 (.int .i64), .t 8 (.int .i64), .t 9 (.own 3 (.int .i64)), .t 10 (.int .i64), .t 11 (.bool), .t 12 (.int .i64), .box 2 29 [.int .i64, .ro .ii], .box 3 29 [.int .i64, .ro .ii]])]
noncomputable def spec_CountMorphisms_L122 : Int × Int × Int × (List (Int × Int)) × Int × (List (Int × Int)) × Unit → Option ((Int × Int × Int × (List (Int × Int)) × Int × (List (Int × Int)) × Unit) ⊕ (((Int × Int × (List (Int × Int)) × Int × (List (Int × Int)) × Unit) ⊕ Int × Unit))) := fun (t5, t6, b2_0, b2_1, b3_0, b3_1, _) =>
  cond (decide (t6 < b2_0))
    (some (.inl ((w64 (t5 * b3_0)), (w64 (t6 + 1)), b2_0, b2_1, b3_0, b3_1, ())))
    (Option.map Sum.inr (some (.inl (t5, b2_0, b2_1, b3_0, b3_1, ()))))
noncomputable def spec_CountMorphisms_L518458 : Int × Int × Int × (List Int) × Int × Bool × Int × Int × (List (Int × Int)) × Int × (List (Int × Int)) × Unit → Option ((Int × Int × Int × (List Int) × Int × Bool × Int × Int × (List (Int × Int)) × Int × (List (Int × Int)) × Unit) ⊕ (((Int × Int × Int × Int × (List (Int × Int)) × Int × (List (Int × Int)) × Unit) ⊕ Int × Unit))) := fun (t5, t7, t8, t9, t10, t11, t12, b2_0, b2_1, b3_0, b3_1, _) =>
  cond (decide (t12 < b2_0))
    (chk (b3_0 ≠ 0) (chk ((t9).length + (([(t10.tmod b3_0)] : List Int)).length ≤ 17592186044416) (chk (b3_0 ≠ 0) (cond t11
    (chk (0 ≤ t12 ∧ t12 < (((t9 ++ ([(t10.tmod b3_0)] : List Int))).length : Int)) (chk ((0 : Int) ≤ 0 ∧ 0 < (((t9 ++ ([(t10.tmod b3_0)] : List Int))).length : Int)) (some (.inl (t5, t7, t8, (t9 ++ ([(t10.tmod b3_0)] : List Int)), (w64 (t10.tdiv b3_0)), (atD 0 (t9 ++ ([(t10.tmod b3_0)] : List Int)) t12 == atD 0 (t9 ++ ([(t10.tmod b3_0)] : List Int)) 0), (w64 (t12 + 1)), b2_0, b2_1, b3_0, b3_1, ())))))
    (some (.inl (t5, t7, t8, (t9 ++ ([(t10.tmod b3_0)] : List Int)), (w64 (t10.tdiv b3_0)), false, (w64 (t12 + 1)), b2_0, b2_1, b3_0, b3_1, ())))))))
    (Option.map Sum.inr (cond (!t11)
    (Option.bind (spec_l16Count (b2_0, b2_1, b3_0, b3_1, t9, ([] : List Int), ())) fun (v5, _) => some (.inl (t5, (w64 (t7 + v5)), (w64 (t8 + 1)), b2_0, b2_1, b3_0, b3_1, ())))
    (some (.inl (t5, t7, (w64 (t8 + 1)), b2_0, b2_1, b3_0, b3_1, ())))))
noncomputable def spec_CountMorphisms_L506 : Int × Int × Int × Int × (List (Int × Int)) × Int × (List (Int × Int)) × Unit → Option ((Int × Int × Int × Int × (List (Int × Int)) × Int × (List (Int × Int)) × Unit) ⊕ (Int × Unit)) := fun (t5, t7, t8, b2_0, b2_1, b3_0, b3_1, _) =>
  cond (decide (t8 < t5))
    (loopM spec_CountMorphisms_L518458 (t5, t7, t8, ([] : List Int), t8, true, 0, b2_0, b2_1, b3_0, b3_1, ()))
    (Option.map Sum.inr (some (t7, ())))
noncomputable def spec_CountMorphisms_J61 : Int × Int × (List (Int × Int)) × Int × (List (Int × Int)) × Unit → Option (Int × Unit) := fun (t5, b2_0, b2_1, b3_0, b3_1, _) =>
  loopM spec_CountMorphisms_L506 (t5, 0, 0, b2_0, b2_1, b3_0, b3_1, ())
noncomputable def spec_CountMorphisms_J12 : Bool × Int × (List (Int × Int)) × Int × (List (Int × Int)) × Unit → Option (Int × Unit) := fun (t42, b2_0, b2_1, b3_0, b3_1, _) =>
  cond t42
    (some ((-1), ()))
    (joinB (T := Int × Int × (List (Int × Int)) × Int × (List (Int × Int)) × Unit) (R := Int × Unit) (loopM spec_CountMorphisms_L122 (1, 0, b2_0, b2_1, b3_0, b3_1, ())) spec_CountMorphisms_J61)
noncomputable def spec_CountMorphisms : Int × (List (Int × Int)) × Int × (List (Int × Int)) × Unit → Option (Int × Unit) := fun (t0_0, t0_1, t1_0, t1_1, _) =>
  joinB (T := Bool × Int × (List (Int × Int)) × Int × (List (Int × Int)) × Unit) (R := Int × Unit) (Option.bind (spec_GraphOk (t0_0, t0_1, ())) fun (v2, _) => cond (!v2)
    (some (.inl (true, t0_0, t0_1, t1_0, t1_1, ())))
    (Option.bind (spec_GraphOk (t1_0, t1_1, ())) fun (v3, _) => cond (!v3)
    (some (.inl (true, t0_0, t0_1, t1_0, t1_1, ())))
    (cond (decide (t0_0 > 4))
    (some (.inl (true, t0_0, t0_1, t1_0, t1_1, ())))
    (cond (decide (((t0_1).length : Int) > 5))
    (some (.inl (true, t0_0, t0_1, t1_0, t1_1, ())))
    (cond (decide (t1_0 > 3))
    (some (.inl (true, t0_0, t0_1, t1_0, t1_1, ())))
    (some (.inl ((decide (((t1_1).length : Int) > 3)), t0_0, t0_1, t1_0, t1_1, ())))))))) spec_CountMorphisms_J12
noncomputable def spec_CountMorphisms_F : Fun := ⟨spec_CountMorphisms_ins, [], spec_CountMorphisms_outs, spec_CountMorphisms⟩
noncomputable def spec_CountMorphisms_orc : Orc := orcGet [(51, spec_GraphOk_F), (52, spec_l16Count_F)]
theorem spec_CountMorphisms_eq (x : Den spec_CountMorphisms_ins) : pmFn (tdGet tab) spec_CountMorphisms_orc spec_CountMorphisms_F.mn spec_CountMorphisms_ann Go.Proofs.Try.f10 spec_CountMorphisms_ins spec_CountMorphisms_outs x = spec_CountMorphisms x := by kernel_rfl
theorem spec_CountMorphisms_c : CallsD Go.Proofs.Try.prog 10 spec_CountMorphisms_F :=
  fn_contract (F := spec_CountMorphisms_F) (C := spec_CountMorphisms_orc) mix (chkTab_get tab_ok) (orc_cons spec_GraphOk_c (orc_cons spec_l16Count_c orc_nil)) spec_CountMorphisms_ann (fn := Go.Proofs.Try.f10) (by kernel_rfl) (by kernel_rfl) (by kernel_rfl) (by kernel_rfl) (by kernel_rfl) (fun x y h => (spec_CountMorphisms_eq x).trans h)

def impl_within_ins : List Item := [.t 0 (.int .i64), .t 1 (.int .i64), .t 2 (.int .i64)]
def impl_within_outs : List Item := [.t 500 (.bool)]
def impl_within_ann : List (Nat × List Item) := []
noncomputable def impl_within : Int × Int × Int × Unit → Option (Bool × Unit) := fun (t0, t1, t2, _) =>
  cond (decide (t0 ≥ t1))
    (some ((decide (t0 ≤ t2)), ()))
    (some (false, ()))
noncomputable def impl_within_F : Fun := ⟨impl_within_ins, [], impl_within_outs, impl_within⟩
noncomputable def impl_within_orc : Orc := orcGet []
theorem impl_within_eq (x : Den impl_within_ins) : pmFn (tdGet tab) impl_within_orc impl_within_F.mn impl_within_ann Go.Proofs.Try.f71 impl_within_ins impl_within_outs x = impl_within x := by kernel_rfl
theorem impl_within_c : CallsD Go.Proofs.Try.prog 71 impl_within_F :=
  fn_contract (F := impl_within_F) (C := impl_within_orc) mix (chkTab_get tab_ok) orc_nil impl_within_ann (fn := Go.Proofs.Try.f71) (by kernel_rfl) (by kernel_rfl) (by kernel_rfl) (by kernel_rfl) (by kernel_rfl) (fun x y h => (impl_within_eq x).trans h)

def impl_EdgesOk_ins : List Item := [.agg 0 [.int .i64, .ro .ii]]
def impl_EdgesOk_outs : List Item := [.t 500 (.bool)]
def impl_EdgesOk_ann : List (Nat × List Item) := [(12, [.t 1 (.ptr 1), .t 14 (.bool), .box 1 29 [.int .i64, .ro .ii]]),
  (58, [.t 1 (.ptr 1), .t 16 (.ro .ii), .t 17 (.int .i64), .t 18 (.int .i64), .box 1 29 [.int .i64, .ro .ii]])]
noncomputable def impl_EdgesOk_L58 : (List (Int × Int)) × Int × Int × Int × (List (Int × Int)) × Unit → Option (((List (Int × Int)) × Int × Int × Int × (List (Int × Int)) × Unit) ⊕ (Bool × Unit)) := fun (t16, t17, t18, b1_0, b1_1, _) =>
  cond (decide (t18 < t17))
    (chk (0 ≤ t18 ∧ t18 < ((t16).length : Int)) (cond (decide ((atD (0, 0) t16 t18).1 < 0))
    (Option.map Sum.inr (some (false, ())))
    (cond (decide ((atD (0, 0) t16 t18).1 ≥ (atD (0, 0) t16 t18).2))
    (Option.map Sum.inr (some (false, ())))
    (cond (decide ((atD (0, 0) t16 t18).2 ≥ b1_0))
    (Option.map Sum.inr (some (false, ())))
    (some (.inl (t16, t17, (w64 (t18 + 1)), b1_0, b1_1, ())))))))
    (Option.map Sum.inr (some (true, ())))
noncomputable def impl_EdgesOk_J12 : Bool × Int × (List (Int × Int)) × Unit → Option (Bool × Unit) := fun (t14, b1_0, b1_1, _) =>
  cond t14
    (some (false, ()))
    (loopM impl_EdgesOk_L58 (b1_1, ((b1_1).length : Int), 0, b1_0, b1_1, ()))
noncomputable def impl_EdgesOk : Int × (List (Int × Int)) × Unit → Option (Bool × Unit) := fun (t0_0, t0_1, _) =>
  joinB (T := Bool × Int × (List (Int × Int)) × Unit) (R := Bool × Unit) (Option.bind (impl_within (t0_0, 1, 6, ())) fun (v2, _) => cond (!v2)
    (some (.inl (true, t0_0, t0_1, ())))
    (some (.inl ((decide (((t0_1).length : Int) > 12)), t0_0, t0_1, ())))) impl_EdgesOk_J12
noncomputable def impl_EdgesOk_F : Fun := ⟨impl_EdgesOk_ins, [], impl_EdgesOk_outs, impl_EdgesOk⟩
noncomputable def impl_EdgesOk_orc : Orc := orcGet [(71, impl_within_F)]
theorem impl_EdgesOk_eq (x : Den impl_EdgesOk_ins) : pmFn (tdGet tab) impl_EdgesOk_orc impl_EdgesOk_F.mn impl_EdgesOk_ann Go.Proofs.Try.f100 impl_EdgesOk_ins impl_EdgesOk_outs x = impl_EdgesOk x := by kernel_rfl
theorem impl_EdgesOk_c : CallsD Go.Proofs.Try.prog 100 impl_EdgesOk_F :=
  fn_contract (F := impl_EdgesOk_F) (C := impl_EdgesOk_orc) mix (chkTab_get tab_ok) (orc_cons impl_within_c orc_nil) impl_EdgesOk_ann (fn := Go.Proofs.Try.f100) (by kernel_rfl) (by kernel_rfl) (by kernel_rfl) (by kernel_rfl) (by kernel_rfl) (fun x y h => (impl_EdgesOk_eq x).trans h)

def cmp_isNaN_int_ins : List Item := [.t 0 (.int .i64)]
def cmp_isNaN_int_outs : List Item := [.t 500 (.bool)]
def cmp_isNaN_int_ann : List (Nat × List Item) := []
noncomputable def cmp_isNaN_int : Int × Unit → Option (Bool × Unit) := fun (t0, _) =>
  some ((t0 != t0), ())
noncomputable def cmp_isNaN_int_F : Fun := ⟨cmp_isNaN_int_ins, [], cmp_isNaN_int_outs, cmp_isNaN_int⟩
noncomputable def cmp_isNaN_int_orc : Orc := orcGet []
theorem cmp_isNaN_int_eq (x : Den cmp_isNaN_int_ins) : pmFn (tdGet tab) cmp_isNaN_int_orc cmp_isNaN_int_F.mn cmp_isNaN_int_ann Go.Proofs.Try.f157 cmp_isNaN_int_ins cmp_isNaN_int_outs x = cmp_isNaN_int x := by kernel_rfl
theorem cmp_isNaN_int_c : CallsD Go.Proofs.Try.prog 157 cmp_isNaN_int_F :=
  fn_contract (F := cmp_isNaN_int_F) (C := cmp_isNaN_int_orc) mix (chkTab_get tab_ok) orc_nil cmp_isNaN_int_ann (fn := Go.Proofs.Try.f157) (by kernel_rfl) (by kernel_rfl) (by kernel_rfl) (by kernel_rfl) (by kernel_rfl) (fun x y h => (cmp_isNaN_int_eq x).trans h)

def cmp_Compare_int_ins : List Item := [.t 0 (.int .i64), .t 1 (.int .i64)]
def cmp_Compare_int_outs : List Item := [.t 500 (.int .i64)]
def cmp_Compare_int_ann : List (Nat × List Item) := []
noncomputable def cmp_Compare_int : Int × Int × Unit → Option (Int × Unit) := fun (t0, t1, _) =>
  Option.bind (cmp_isNaN_int (t0, ())) fun (v1, _) => Option.bind (cmp_isNaN_int (t1, ())) fun (v2, _) => cond v1
    (cond v2
    (some (0, ()))
    (some ((-1), ())))
    (cond v2
    (some (1, ()))
    (cond (decide (t0 < t1))
    (some ((-1), ()))
    (cond (decide (t0 > t1))
    (some (1, ()))
    (some (0, ())))))
noncomputable def cmp_Compare_int_F : Fun := ⟨cmp_Compare_int_ins, [], cmp_Compare_int_outs, cmp_Compare_int⟩
noncomputable def cmp_Compare_int_orc : Orc := orcGet [(157, cmp_isNaN_int_F)]
theorem cmp_Compare_int_eq (x : Den cmp_Compare_int_ins) : pmFn (tdGet tab) cmp_Compare_int_orc cmp_Compare_int_F.mn cmp_Compare_int_ann Go.Proofs.Try.f138 cmp_Compare_int_ins cmp_Compare_int_outs x = cmp_Compare_int x := by kernel_rfl
theorem cmp_Compare_int_c : CallsD Go.Proofs.Try.prog 138 cmp_Compare_int_F :=
  fn_contract (F := cmp_Compare_int_F) (C := cmp_Compare_int_orc) mix (chkTab_get tab_ok) (orc_cons cmp_isNaN_int_c orc_nil) cmp_Compare_int_ann (fn := Go.Proofs.Try.f138) (by kernel_rfl) (by kernel_rfl) (by kernel_rfl) (by kernel_rfl) (by kernel_rfl) (fun x y h => (cmp_Compare_int_eq x).trans h)

def impl_compareEdges_ins : List Item := [.agg 0 [.int .i64, .int .i64], .agg 1 [.int .i64, .int .i64]]
def impl_compareEdges_outs : List Item := [.t 500 (.int .i64)]
def impl_compareEdges_ann : List (Nat × List Item) := []
noncomputable def impl_compareEdges : Int × Int × Int × Int × Unit → Option (Int × Unit) := fun (t0_0, t0_1, t1_0, t1_1, _) =>
  Option.bind (cmp_Compare_int (t0_0, t1_0, ())) fun (v1, _) => cond (v1 != 0)
    (some (v1, ()))
    (Option.bind (cmp_Compare_int (t0_1, t1_1, ())) fun (v2, _) => some (v2, ()))
noncomputable def impl_compareEdges_F : Fun := ⟨impl_compareEdges_ins, [], impl_compareEdges_outs, impl_compareEdges⟩
noncomputable def impl_compareEdges_orc : Orc := orcGet [(138, cmp_Compare_int_F)]
theorem impl_compareEdges_eq (x : Den impl_compareEdges_ins) : pmFn (tdGet tab) impl_compareEdges_orc impl_compareEdges_F.mn impl_compareEdges_ann Go.Proofs.Try.f102 impl_compareEdges_ins impl_compareEdges_outs x = impl_compareEdges x := by kernel_rfl
theorem impl_compareEdges_c : CallsD Go.Proofs.Try.prog 102 impl_compareEdges_F :=
  fn_contract (F := impl_compareEdges_F) (C := impl_compareEdges_orc) mix (chkTab_get tab_ok) (orc_cons cmp_Compare_int_c orc_nil) impl_compareEdges_ann (fn := Go.Proofs.Try.f102) (by kernel_rfl) (by kernel_rfl) (by kernel_rfl) (by kernel_rfl) (by kernel_rfl) (fun x y h => (impl_compareEdges_eq x).trans h)

def slices_IsSortedFunc_impl_Edge_impl_Edge_ins : List Item := [.t 0 (.ro .ii), .t 1 (.fn 102 [])]
def slices_IsSortedFunc_impl_Edge_impl_Edge_outs : List Item := [.t 500 (.bool)]
def slices_IsSortedFunc_impl_Edge_impl_Edge_ann : List (Nat × List Item) := [(26, [.t 0 (.ro .ii), .t 1 (.fn 102 []), .t 5 (.int .i64)])]
noncomputable def slices_IsSortedFunc_impl_Edge_impl_Edge_L26 : (List (Int × Int)) × Int × Unit → Option (((List (Int × Int)) × Int × Unit) ⊕ (Bool × Unit)) := fun (t0, t5, _) =>
  cond (decide (t5 > 0))
    (chk (0 ≤ t5 ∧ t5 < ((t0).length : Int)) (chk (0 ≤ (w64 (t5 - 1)) ∧ (w64 (t5 - 1)) < ((t0).length : Int)) (Option.bind (impl_compareEdges ((atD (0, 0) t0 t5).1, (atD (0, 0) t0 t5).2, (atD (0, 0) t0 (w64 (t5 - 1))).1, (atD (0, 0) t0 (w64 (t5 - 1))).2, ())) fun (v1, _) => cond (decide (v1 < 0))
    (Option.map Sum.inr (some (false, ())))
    (some (.inl (t0, (w64 (t5 - 1)), ()))))))
    (Option.map Sum.inr (some (true, ())))
noncomputable def slices_IsSortedFunc_impl_Edge_impl_Edge : (List (Int × Int)) × Unit → Option (Bool × Unit) := fun (t0, _) =>
  loopM slices_IsSortedFunc_impl_Edge_impl_Edge_L26 (t0, (w64 (((t0).length : Int) - 1)), ())
noncomputable def slices_IsSortedFunc_impl_Edge_impl_Edge_F : Fun := ⟨slices_IsSortedFunc_impl_Edge_impl_Edge_ins, [], slices_IsSortedFunc_impl_Edge_impl_Edge_outs, slices_IsSortedFunc_impl_Edge_impl_Edge⟩
noncomputable def slices_IsSortedFunc_impl_Edge_impl_Edge_orc : Orc := orcGet [(102, impl_compareEdges_F)]
theorem slices_IsSortedFunc_impl_Edge_impl_Edge_eq (x : Den slices_IsSortedFunc_impl_Edge_impl_Edge_ins) : pmFn (tdGet tab) slices_IsSortedFunc_impl_Edge_impl_Edge_orc slices_IsSortedFunc_impl_Edge_impl_Edge_F.mn slices_IsSortedFunc_impl_Edge_impl_Edge_ann Go.Proofs.Try.f101 slices_IsSortedFunc_impl_Edge_impl_Edge_ins slices_IsSortedFunc_impl_Edge_impl_Edge_outs x = slices_IsSortedFunc_impl_Edge_impl_Edge x := by kernel_rfl
theorem slices_IsSortedFunc_impl_Edge_impl_Edge_c : CallsD Go.Proofs.Try.prog 101 slices_IsSortedFunc_impl_Edge_impl_Edge_F :=
  fn_contract (F := slices_IsSortedFunc_impl_Edge_impl_Edge_F) (C := slices_IsSortedFunc_impl_Edge_impl_Edge_orc) mix (chkTab_get tab_ok) (orc_cons impl_compareEdges_c orc_nil) slices_IsSortedFunc_impl_Edge_impl_Edge_ann (fn := Go.Proofs.Try.f101) (by kernel_rfl) (by kernel_rfl) (by kernel_rfl) (by kernel_rfl) (by kernel_rfl) (fun x y h => (slices_IsSortedFunc_impl_Edge_impl_Edge_eq x).trans h)

def impl_connected_ins : List Item := [.t 0 (.int .i64), .t 1 (.ro .ii)]
def impl_connected_outs : List Item := [.t 500 (.bool)]
def impl_connected_ann : List (Nat × List Item) := [(58, [.t 0 (.int .i64), .t 1 (.ro .ii), .t 5 (.int .i64), .t 8 (.int .i64), .t 9 (.int .i64)]),
  (7474, [.t 0 (.int .i64), .t 1 (.ro .ii), .t 5 (.int .i64), .t 8 (.int .i64), .t 9 (.int .i64), .t 11 (.ro .ii), .t 12 (.int .i64), .t 13 (.int .i64)])]
noncomputable def impl_connected_L7474 : Int × (List (Int × Int)) × Int × Int × Int × (List (Int × Int)) × Int × Int × Unit → Option ((Int × (List (Int × Int)) × Int × Int × Int × (List (Int × Int)) × Int × Int × Unit) ⊕ (((Int × (List (Int × Int)) × Int × Int × Int × Unit) ⊕ Bool × Unit))) := fun (t0, t1, t5, t8, t9, t11, t12, t13, _) =>
  cond (decide (t13 < t12))
    (chk (0 ≤ t13 ∧ t13 < ((t11).length : Int)) (chk (0 ≤ (atD (0, 0) t11 t13).1) (cond ((iand .i64 (ishr .i64 t5 ((atD (0, 0) t11 t13).1)) 1) == 1)
    (chk (0 ≤ (atD (0, 0) t11 t13).1) (chk (0 ≤ (atD (0, 0) t11 t13).2) (some (.inl (t0, t1, (ior .i64 t5 (ior .i64 (ishl .i64 1 ((atD (0, 0) t11 t13).1)) (ishl .i64 1 ((atD (0, 0) t11 t13).2)))), t8, t9, t11, t12, (w64 (t13 + 1)), ())))))
    (chk (0 ≤ (atD (0, 0) t11 t13).2) (cond ((iand .i64 (ishr .i64 t5 ((atD (0, 0) t11 t13).2)) 1) == 1)
    (chk (0 ≤ (atD (0, 0) t11 t13).1) (chk (0 ≤ (atD (0, 0) t11 t13).2) (some (.inl (t0, t1, (ior .i64 t5 (ior .i64 (ishl .i64 1 ((atD (0, 0) t11 t13).1)) (ishl .i64 1 ((atD (0, 0) t11 t13).2)))), t8, t9, t11, t12, (w64 (t13 + 1)), ())))))
    (some (.inl (t0, t1, t5, t8, t9, t11, t12, (w64 (t13 + 1)), ()))))))))
    (Option.map Sum.inr (some (.inl (t0, t1, t5, t8, (w64 (t9 + 1)), ()))))
noncomputable def impl_connected_L58 : Int × (List (Int × Int)) × Int × Int × Int × Unit → Option ((Int × (List (Int × Int)) × Int × Int × Int × Unit) ⊕ (Bool × Unit)) := fun (t0, t1, t5, t8, t9, _) =>
  cond (decide (t9 < t8))
    (loopM impl_connected_L7474 (t0, t1, t5, t8, t9, t1, ((t1).length : Int), 0, ()))
    (Option.map Sum.inr (chk (0 ≤ t0) (some ((t5 == (w64 ((ishl .i64 1 t0) - 1))), ()))))
noncomputable def impl_connected : Int × (List (Int × Int)) × Unit → Option (Bool × Unit) := fun (t0, t1, _) =>
  loopM impl_connected_L58 (t0, t1, 1, t0, 0, ())
noncomputable def impl_connected_F : Fun := ⟨impl_connected_ins, [], impl_connected_outs, impl_connected⟩
noncomputable def impl_connected_orc : Orc := orcGet []
theorem impl_connected_eq (x : Den impl_connected_ins) : pmFn (tdGet tab) impl_connected_orc impl_connected_F.mn impl_connected_ann Go.Proofs.Try.f95 impl_connected_ins impl_connected_outs x = impl_connected x := by kernel_rfl
theorem impl_connected_c : CallsD Go.Proofs.Try.prog 95 impl_connected_F :=
  fn_contract (F := impl_connected_F) (C := impl_connected_orc) mix (chkTab_get tab_ok) orc_nil impl_connected_ann (fn := Go.Proofs.Try.f95) (by kernel_rfl) (by kernel_rfl) (by kernel_rfl) (by kernel_rfl) (by kernel_rfl) (fun x y h => (impl_connected_eq x).trans h)

def impl_GraphOk_ins : List Item := [.agg 0 [.int .i64, .ro .ii]]
def impl_GraphOk_outs : List Item := [.t 500 (.bool)]
def impl_GraphOk_ann : List (Nat × List Item) := []
noncomputable def impl_GraphOk : Int × (List (Int × Int)) × Unit → Option (Bool × Unit) := fun (t0_0, t0_1, _) =>
  Option.bind (impl_EdgesOk (t0_0, t0_1, ())) fun (v1, _) => cond v1
    (Option.bind (slices_IsSortedFunc_impl_Edge_impl_Edge (t0_1, ())) fun (v2, _) => cond v2
    (Option.bind (impl_connected (t0_0, t0_1, ())) fun (v3, _) => some (v3, ()))
    (some (false, ())))
    (some (false, ()))
noncomputable def impl_GraphOk_F : Fun := ⟨impl_GraphOk_ins, [], impl_GraphOk_outs, impl_GraphOk⟩
noncomputable def impl_GraphOk_orc : Orc := orcGet [(95, impl_connected_F), (100, impl_EdgesOk_F), (101, slices_IsSortedFunc_impl_Edge_impl_Edge_F)]
theorem impl_GraphOk_eq (x : Den impl_GraphOk_ins) : pmFn (tdGet tab) impl_GraphOk_orc impl_GraphOk_F.mn impl_GraphOk_ann Go.Proofs.Try.f54 impl_GraphOk_ins impl_GraphOk_outs x = impl_GraphOk x := by kernel_rfl
theorem impl_GraphOk_c : CallsD Go.Proofs.Try.prog 54 impl_GraphOk_F :=
  fn_contract (F := impl_GraphOk_F) (C := impl_GraphOk_orc) mix (chkTab_get tab_ok) (orc_cons impl_connected_c (orc_cons impl_EdgesOk_c (orc_cons slices_IsSortedFunc_impl_Edge_impl_Edge_c orc_nil))) impl_GraphOk_ann (fn := Go.Proofs.Try.f54) (by kernel_rfl) (by kernel_rfl) (by kernel_rfl) (by kernel_rfl) (by kernel_rfl) (fun x y h => (impl_GraphOk_eq x).trans h)

def impl_allWithin_ins : List Item := [.t 0 (.ro (.int .i64)), .t 1 (.int .i64), .t 2 (.int .i64)]
def impl_allWithin_outs : List Item := [.t 500 (.bool)]
def impl_allWithin_ann : List (Nat × List Item) := [(26, [.t 1 (.int .i64), .t 2 (.int .i64), .t 9 (.ro (.int .i64)), .t 10 (.int .i64), .t 11 (.int .i64)])]
noncomputable def impl_allWithin_L26 : Int × Int × (List Int) × Int × Int × Unit → Option ((Int × Int × (List Int) × Int × Int × Unit) ⊕ (Bool × Unit)) := fun (t1, t2, t9, t10, t11, _) =>
  cond (decide (t11 < t10))
    (chk (0 ≤ t11 ∧ t11 < ((t9).length : Int)) (Option.bind (impl_within (atD 0 t9 t11, t1, t2, ())) fun (v1, _) => cond (!v1)
    (Option.map Sum.inr (some (false, ())))
    (some (.inl (t1, t2, t9, t10, (w64 (t11 + 1)), ())))))
    (Option.map Sum.inr (some (true, ())))
noncomputable def impl_allWithin : (List Int) × Int × Int × Unit → Option (Bool × Unit) := fun (t0, t1, t2, _) =>
  loopM impl_allWithin_L26 (t1, t2, t0, ((t0).length : Int), 0, ())
noncomputable def impl_allWithin_F : Fun := ⟨impl_allWithin_ins, [], impl_allWithin_outs, impl_allWithin⟩
noncomputable def impl_allWithin_orc : Orc := orcGet [(71, impl_within_F)]
theorem impl_allWithin_eq (x : Den impl_allWithin_ins) : pmFn (tdGet tab) impl_allWithin_orc impl_allWithin_F.mn impl_allWithin_ann Go.Proofs.Try.f70 impl_allWithin_ins impl_allWithin_outs x = impl_allWithin x := by kernel_rfl
theorem impl_allWithin_c : CallsD Go.Proofs.Try.prog 70 impl_allWithin_F :=
  fn_contract (F := impl_allWithin_F) (C := impl_allWithin_orc) mix (chkTab_get tab_ok) (orc_cons impl_within_c orc_nil) impl_allWithin_ann (fn := Go.Proofs.Try.f70) (by kernel_rfl) (by kernel_rfl) (by kernel_rfl) (by kernel_rfl) (by kernel_rfl) (fun x y h => (impl_allWithin_eq x).trans h)

def impl_MorphismOk_ins : List Item := [.agg 0 [.int .i64, .ro .ii], .agg 1 [.int .i64, .ro .ii], .agg 2 [.ro (.int .i64), .ro (.int .i64)]]
def impl_MorphismOk_outs : List Item := [.t 500 (.bool)]
def impl_MorphismOk_ann : List (Nat × List Item) := [(12, [.t 3 (.ptr 3), .t 4 (.ptr 4), .t 5 (.ptr 5), .t 54 (.bool), .box 3 29 [.int .i64, .ro .ii], .box 4 29 [.int .i64, .ro .ii], .box 5 37 [.ro (.int .i64), .ro (.int .i64)]]),
  (58, [.t 3 (.ptr 3), .t 4 (.ptr 4), .t 5 (.ptr 5), .t 56 (.ro (.int .i64)), .t 57 (.int .i64), .t 58 (.int .i64), .box 3 29 [.int .i64, .ro .ii], .box 4 29 [.int .i64, .ro .ii], .box 5 37 [.ro (.int .i64), .ro (.int .i64)]])]
noncomputable def impl_MorphismOk_L58 : (List Int) × Int × Int × Int × (List (Int × Int)) × Int × (List (Int × Int)) × (List Int) × (List Int) × Unit → Option (((List Int) × Int × Int × Int × (List (Int × Int)) × Int × (List (Int × Int)) × (List Int) × (List Int) × Unit) ⊕ (Bool × Unit)) := fun (t56, t57, t58, b3_0, b3_1, b4_0, b4_1, b5_0, b5_1, _) =>
  cond (decide (t58 < t57))
    (chk (0 ≤ t58 ∧ t58 < ((t56).length : Int)) (chk (0 ≤ t58 ∧ t58 < ((b3_1).length : Int)) (chk (0 ≤ (atD (0, 0) b3_1 t58).1 ∧ (atD (0, 0) b3_1 t58).1 < ((b5_0).length : Int)) (chk (0 ≤ t58 ∧ t58 < ((b3_1).length : Int)) (chk (0 ≤ (atD (0, 0) b3_1 t58).2 ∧ (atD (0, 0) b3_1 t58).2 < ((b5_0).length : Int)) (cond (atD 0 t56 t58 == (-1))
    (cond (atD 0 b5_0 ((atD (0, 0) b3_1 t58).1) != atD 0 b5_0 ((atD (0, 0) b3_1 t58).2))
    (Option.map Sum.inr (some (false, ())))
    (cond (decide (atD 0 t56 t58 ≥ 0))
    (chk (0 ≤ atD 0 t56 t58 ∧ atD 0 t56 t58 < ((b4_1).length : Int)) (cond (!(((atD (0, 0) b4_1 (atD 0 t56 t58)).1 == (min2 (atD 0 b5_0 ((atD (0, 0) b3_1 t58).1)) (atD 0 b5_0 ((atD (0, 0) b3_1 t58).2)))) && ((atD (0, 0) b4_1 (atD 0 t56 t58)).2 == (max2 (atD 0 b5_0 ((atD (0, 0) b3_1 t58).1)) (atD 0 b5_0 ((atD (0, 0) b3_1 t58).2))))))
    (Option.map Sum.inr (some (false, ())))
    (some (.inl (t56, t57, (w64 (t58 + 1)), b3_0, b3_1, b4_0, b4_1, b5_0, b5_1, ())))))
    (some (.inl (t56, t57, (w64 (t58 + 1)), b3_0, b3_1, b4_0, b4_1, b5_0, b5_1, ())))))
    (cond (decide (atD 0 t56 t58 ≥ 0))
    (chk (0 ≤ atD 0 t56 t58 ∧ atD 0 t56 t58 < ((b4_1).length : Int)) (cond (!(((atD (0, 0) b4_1 (atD 0 t56 t58)).1 == (min2 (atD 0 b5_0 ((atD (0, 0) b3_1 t58).1)) (atD 0 b5_0 ((atD (0, 0) b3_1 t58).2)))) && ((atD (0, 0) b4_1 (atD 0 t56 t58)).2 == (max2 (atD 0 b5_0 ((atD (0, 0) b3_1 t58).1)) (atD 0 b5_0 ((atD (0, 0) b3_1 t58).2))))))
    (Option.map Sum.inr (some (false, ())))
    (some (.inl (t56, t57, (w64 (t58 + 1)), b3_0, b3_1, b4_0, b4_1, b5_0, b5_1, ())))))
    (some (.inl (t56, t57, (w64 (t58 + 1)), b3_0, b3_1, b4_0, b4_1, b5_0, b5_1, ()))))))))))
    (Option.map Sum.inr (some (true, ())))
noncomputable def impl_MorphismOk_J12 : Bool × Int × (List (Int × Int)) × Int × (List (Int × Int)) × (List Int) × (List Int) × Unit → Option (Bool × Unit) := fun (t54, b3_0, b3_1, b4_0, b4_1, b5_0, b5_1, _) =>
  cond t54
    (some (false, ()))
    (loopM impl_MorphismOk_L58 (b5_1, ((b5_1).length : Int), 0, b3_0, b3_1, b4_0, b4_1, b5_0, b5_1, ()))
noncomputable def impl_MorphismOk : Int × (List (Int × Int)) × Int × (List (Int × Int)) × (List Int) × (List Int) × Unit → Option (Bool × Unit) := fun (t0_0, t0_1, t1_0, t1_1, t2_0, t2_1, _) =>
  joinB (T := Bool × Int × (List (Int × Int)) × Int × (List (Int × Int)) × (List Int) × (List Int) × Unit) (R := Bool × Unit) (Option.bind (impl_GraphOk (t0_0, t0_1, ())) fun (v2, _) => cond (!v2)
    (some (.inl (true, t0_0, t0_1, t1_0, t1_1, t2_0, t2_1, ())))
    (Option.bind (impl_GraphOk (t1_0, t1_1, ())) fun (v3, _) => cond (!v3)
    (some (.inl (true, t0_0, t0_1, t1_0, t1_1, t2_0, t2_1, ())))
    (cond (((t2_0).length : Int) != t0_0)
    (some (.inl (true, t0_0, t0_1, t1_0, t1_1, t2_0, t2_1, ())))
    (cond (((t2_1).length : Int) != ((t0_1).length : Int))
    (some (.inl (true, t0_0, t0_1, t1_0, t1_1, t2_0, t2_1, ())))
    (Option.bind (impl_allWithin (t2_0, 0, (w64 (t1_0 - 1)), ())) fun (v4, _) => cond (!v4)
    (some (.inl (true, t0_0, t0_1, t1_0, t1_1, t2_0, t2_1, ())))
    (Option.bind (impl_allWithin (t2_1, (-1), (w64 (((t1_1).length : Int) - 1)), ())) fun (v5, _) => some (.inl ((!v5), t0_0, t0_1, t1_0, t1_1, t2_0, t2_1, ())))))))) impl_MorphismOk_J12
noncomputable def impl_MorphismOk_F : Fun := ⟨impl_MorphismOk_ins, [], impl_MorphismOk_outs, impl_MorphismOk⟩
noncomputable def impl_MorphismOk_orc : Orc := orcGet [(54, impl_GraphOk_F), (70, impl_allWithin_F)]
theorem impl_MorphismOk_eq (x : Den impl_MorphismOk_ins) : pmFn (tdGet tab) impl_MorphismOk_orc impl_MorphismOk_F.mn impl_MorphismOk_ann Go.Proofs.Try.f23 impl_MorphismOk_ins impl_MorphismOk_outs x = impl_MorphismOk x := by kernel_rfl
theorem impl_MorphismOk_c : CallsD Go.Proofs.Try.prog 23 impl_MorphismOk_F :=
  fn_contract (F := impl_MorphismOk_F) (C := impl_MorphismOk_orc) mix (chkTab_get tab_ok) (orc_cons impl_GraphOk_c (orc_cons impl_allWithin_c orc_nil)) impl_MorphismOk_ann (fn := Go.Proofs.Try.f23) (by kernel_rfl) (by kernel_rfl) (by kernel_rfl) (by kernel_rfl) (by kernel_rfl) (fun x y h => (impl_MorphismOk_eq x).trans h)

def impl_isAt_ins : List Item := [.agg 0 [.int .i64, .ro .ii], .t 1 (.int .i64), .t 2 (.int .i64)]
def impl_isAt_outs : List Item := [.t 500 (.bool)]
def impl_isAt_ann : List (Nat × List Item) := []
noncomputable def impl_isAt : Int × (List (Int × Int)) × Int × Int × Unit → Option (Bool × Unit) := fun (t0_0, t0_1, t1, t2, _) =>
  Option.bind (impl_within (t1, 0, (w64 (((t0_1).length : Int) - 1)), ())) fun (v1, _) => cond v1
    (chk (0 ≤ t1 ∧ t1 < ((t0_1).length : Int)) (cond ((atD (0, 0) t0_1 t1).1 == t2)
    (some (true, ()))
    (chk (0 ≤ t1 ∧ t1 < ((t0_1).length : Int)) (some (((atD (0, 0) t0_1 t1).2 == t2), ())))))
    (some (false, ()))
noncomputable def impl_isAt_F : Fun := ⟨impl_isAt_ins, [], impl_isAt_outs, impl_isAt⟩
noncomputable def impl_isAt_orc : Orc := orcGet [(71, impl_within_F)]
theorem impl_isAt_eq (x : Den impl_isAt_ins) : pmFn (tdGet tab) impl_isAt_orc impl_isAt_F.mn impl_isAt_ann Go.Proofs.Try.f80 impl_isAt_ins impl_isAt_outs x = impl_isAt x := by kernel_rfl
theorem impl_isAt_c : CallsD Go.Proofs.Try.prog 80 impl_isAt_F :=
  fn_contract (F := impl_isAt_F) (C := impl_isAt_orc) mix (chkTab_get tab_ok) (orc_cons impl_within_c orc_nil) impl_isAt_ann (fn := Go.Proofs.Try.f80) (by kernel_rfl) (by kernel_rfl) (by kernel_rfl) (by kernel_rfl) (by kernel_rfl) (fun x y h => (impl_isAt_eq x).trans h)

def impl_multiplicities_ins : List Item := [.agg 0 [.int .i64, .ro .ii], .agg 1 [.int .i64, .ro .ii], .agg 2 [.ro (.int .i64), .ro (.int .i64)], .t 3 (.int .i64)]
def impl_multiplicities_outs : List Item := [.t 500 (.own 3 (.int .i64))]
def impl_multiplicities_ann : List (Nat × List Item) := [(58, [.t 3 (.int .i64), .t 4 (.ptr 4), .t 5 (.ptr 5), .t 6 (.ptr 6), .t 9 (.own 3 (.int .i64)), .t 16 (.int .i64), .t 17 (.int .i64), .box 4 29 [.int .i64, .ro .ii], .box 5 29 [.int .i64, .ro .ii], .box 6 37 [.ro (.int .i64), .ro (.int .i64)]]),
  (119610, [.t 3 (.int .i64), .t 4 (.ptr 4), .t 5 (.ptr 5), .t 6 (.ptr 6), .t 9 (.own 3 (.int .i64)), .t 10 (.int .i64), .t 11 (.int .i64), .t 16 (.int .i64), .t 17 (.int .i64), .t 30 (.ro (.int .i64)), .t 31 (.int .i64), .t 32 (.int .i64), .box 4 29 [.int .i64, .ro .ii], .box 5 29 [.int .i64, .ro .ii], .box 6 37 [.ro (.int .i64), .ro (.int .i64)]])]
noncomputable def impl_multiplicities_L119610 : Int × (List Int) × Int × Int × Int × Int × (List Int) × Int × Int × Int × (List (Int × Int)) × Int × (List (Int × Int)) × (List Int) × (List Int) × Unit → Option ((Int × (List Int) × Int × Int × Int × Int × (List Int) × Int × Int × Int × (List (Int × Int)) × Int × (List (Int × Int)) × (List Int) × (List Int) × Unit) ⊕ (((Int × (List Int) × Int × Int × Int × (List (Int × Int)) × Int × (List (Int × Int)) × (List Int) × (List Int) × Unit) ⊕ (List Int) × Unit))) := fun (t3, t9, t10, t11, t16, t17, t30, t31, t32, b4_0, b4_1, b5_0, b5_1, b6_0, b6_1, _) =>
  cond (decide (t32 < t31))
    (chk (0 ≤ t32 ∧ t32 < ((t30).length : Int)) (cond (atD 0 t30 t32 == t10)
    (Option.bind (impl_isAt (b4_0, b4_1, t32, t3, ())) fun (v2, _) => cond v2
    (some (.inl (t3, t9, t10, (w64 (t11 + 1)), t16, t17, t30, t31, (w64 (t32 + 1)), b4_0, b4_1, b5_0, b5_1, b6_0, b6_1, ())))
    (some (.inl (t3, t9, t10, t11, t16, t17, t30, t31, (w64 (t32 + 1)), b4_0, b4_1, b5_0, b5_1, b6_0, b6_1, ()))))
    (some (.inl (t3, t9, t10, t11, t16, t17, t30, t31, (w64 (t32 + 1)), b4_0, b4_1, b5_0, b5_1, b6_0, b6_1, ())))))
    (Option.map Sum.inr (chk ((t9).length + (([t11] : List Int)).length ≤ 17592186044416) (some (.inl (t3, (t9 ++ ([t11] : List Int)), t16, (w64 (t17 + 1)), b4_0, b4_1, b5_0, b5_1, b6_0, b6_1, ())))))
noncomputable def impl_multiplicities_L58 : Int × (List Int) × Int × Int × Int × (List (Int × Int)) × Int × (List (Int × Int)) × (List Int) × (List Int) × Unit → Option ((Int × (List Int) × Int × Int × Int × (List (Int × Int)) × Int × (List (Int × Int)) × (List Int) × (List Int) × Unit) ⊕ ((List Int) × Unit)) := fun (t3, t9, t16, t17, b4_0, b4_1, b5_0, b5_1, b6_0, b6_1, _) =>
  cond (decide (t17 < t16))
    (chk (0 ≤ t3 ∧ t3 < ((b6_0).length : Int)) (Option.bind (impl_isAt (b5_0, b5_1, t17, atD 0 b6_0 t3, ())) fun (v1, _) => cond (!v1)
    (some (.inl (t3, t9, t16, (w64 (t17 + 1)), b4_0, b4_1, b5_0, b5_1, b6_0, b6_1, ())))
    (loopM impl_multiplicities_L119610 (t3, t9, t17, 0, t16, t17, b6_1, ((b6_1).length : Int), 0, b4_0, b4_1, b5_0, b5_1, b6_0, b6_1, ()))))
    (Option.map Sum.inr (some (t9, ())))
noncomputable def impl_multiplicities : Int × (List (Int × Int)) × Int × (List (Int × Int)) × (List Int) × (List Int) × Int × Unit → Option ((List Int) × Unit) := fun (t0_0, t0_1, t1_0, t1_1, t2_0, t2_1, t3, _) =>
  loopM impl_multiplicities_L58 (t3, ([] : List Int), ((t1_1).length : Int), 0, t0_0, t0_1, t1_0, t1_1, t2_0, t2_1, ())
noncomputable def impl_multiplicities_F : Fun := ⟨impl_multiplicities_ins, [], impl_multiplicities_outs, impl_multiplicities⟩
noncomputable def impl_multiplicities_orc : Orc := orcGet [(80, impl_isAt_F)]
theorem impl_multiplicities_eq (x : Den impl_multiplicities_ins) : pmFn (tdGet tab) impl_multiplicities_orc impl_multiplicities_F.mn impl_multiplicities_ann Go.Proofs.Try.f65 impl_multiplicities_ins impl_multiplicities_outs x = impl_multiplicities x := by kernel_rfl
theorem impl_multiplicities_c : CallsD Go.Proofs.Try.prog 65 impl_multiplicities_F :=
  fn_contract (F := impl_multiplicities_F) (C := impl_multiplicities_orc) mix (chkTab_get tab_ok) (orc_cons impl_isAt_c orc_nil) impl_multiplicities_ann (fn := Go.Proofs.Try.f65) (by kernel_rfl) (by kernel_rfl) (by kernel_rfl) (by kernel_rfl) (by kernel_rfl) (fun x y h => (impl_multiplicities_eq x).trans h)

def slices_Min_int_int_ins : List Item := [.t 0 (.ro (.int .i64))]
def slices_Min_int_int_outs : List Item := [.t 500 (.int .i64)]
def slices_Min_int_int_ann : List (Nat × List Item) := [(13, [.t 0 (.ro (.int .i64))]),
  (122, [.t 0 (.ro (.int .i64)), .t 3 (.int .i64), .t 4 (.int .i64)])]
noncomputable def slices_Min_int_int_L122 : (List Int) × Int × Int × Unit → Option (((List Int) × Int × Int × Unit) ⊕ (Int × Unit)) := fun (t0, t3, t4, _) =>
  cond (decide (t4 < ((t0).length : Int)))
    (chk (0 ≤ t4 ∧ t4 < ((t0).length : Int)) (some (.inl (t0, (min2 t3 (atD 0 t0 t4)), (w64 (t4 + 1)), ()))))
    (Option.map Sum.inr (some (t3, ())))
noncomputable def slices_Min_int_int_J13 : (List Int) × Unit → Option (Int × Unit) := fun (t0, _) =>
  chk ((0 : Int) ≤ 0 ∧ 0 < ((t0).length : Int)) (loopM slices_Min_int_int_L122 (t0, atD 0 t0 0, 1, ()))
noncomputable def slices_Min_int_int : (List Int) × Unit → Option (Int × Unit) := fun (t0, _) =>
  joinB (T := (List Int) × Unit) (R := Int × Unit) (cond (decide (((t0).length : Int) < 1))
    (none)
    (some (.inl (t0, ())))) slices_Min_int_int_J13
noncomputable def slices_Min_int_int_F : Fun := ⟨slices_Min_int_int_ins, [], slices_Min_int_int_outs, slices_Min_int_int⟩
noncomputable def slices_Min_int_int_orc : Orc := orcGet []
theorem slices_Min_int_int_eq (x : Den slices_Min_int_int_ins) : pmFn (tdGet tab) slices_Min_int_int_orc slices_Min_int_int_F.mn slices_Min_int_int_ann Go.Proofs.Try.f56 slices_Min_int_int_ins slices_Min_int_int_outs x = slices_Min_int_int x := by kernel_rfl
theorem slices_Min_int_int_c : CallsD Go.Proofs.Try.prog 56 slices_Min_int_int_F :=
  fn_contract (F := slices_Min_int_int_F) (C := slices_Min_int_int_orc) mix (chkTab_get tab_ok) orc_nil slices_Min_int_int_ann (fn := Go.Proofs.Try.f56) (by kernel_rfl) (by kernel_rfl) (by kernel_rfl) (by kernel_rfl) (by kernel_rfl) (fun x y h => (slices_Min_int_int_eq x).trans h)

def slices_Max_int_int_ins : List Item := [.t 0 (.ro (.int .i64))]
def slices_Max_int_int_outs : List Item := [.t 500 (.int .i64)]
def slices_Max_int_int_ann : List (Nat × List Item) := [(13, [.t 0 (.ro (.int .i64))]),
  (122, [.t 0 (.ro (.int .i64)), .t 3 (.int .i64), .t 4 (.int .i64)])]
noncomputable def slices_Max_int_int_L122 : (List Int) × Int × Int × Unit → Option (((List Int) × Int × Int × Unit) ⊕ (Int × Unit)) := fun (t0, t3, t4, _) =>
  cond (decide (t4 < ((t0).length : Int)))
    (chk (0 ≤ t4 ∧ t4 < ((t0).length : Int)) (some (.inl (t0, (max2 t3 (atD 0 t0 t4)), (w64 (t4 + 1)), ()))))
    (Option.map Sum.inr (some (t3, ())))
noncomputable def slices_Max_int_int_J13 : (List Int) × Unit → Option (Int × Unit) := fun (t0, _) =>
  chk ((0 : Int) ≤ 0 ∧ 0 < ((t0).length : Int)) (loopM slices_Max_int_int_L122 (t0, atD 0 t0 0, 1, ()))
noncomputable def slices_Max_int_int : (List Int) × Unit → Option (Int × Unit) := fun (t0, _) =>
  joinB (T := (List Int) × Unit) (R := Int × Unit) (cond (decide (((t0).length : Int) < 1))
    (none)
    (some (.inl (t0, ())))) slices_Max_int_int_J13
noncomputable def slices_Max_int_int_F : Fun := ⟨slices_Max_int_int_ins, [], slices_Max_int_int_outs, slices_Max_int_int⟩
noncomputable def slices_Max_int_int_orc : Orc := orcGet []
theorem slices_Max_int_int_eq (x : Den slices_Max_int_int_ins) : pmFn (tdGet tab) slices_Max_int_int_orc slices_Max_int_int_F.mn slices_Max_int_int_ann Go.Proofs.Try.f57 slices_Max_int_int_ins slices_Max_int_int_outs x = slices_Max_int_int x := by kernel_rfl
theorem slices_Max_int_int_c : CallsD Go.Proofs.Try.prog 57 slices_Max_int_int_F :=
  fn_contract (F := slices_Max_int_int_F) (C := slices_Max_int_int_orc) mix (chkTab_get tab_ok) orc_nil slices_Max_int_int_ann (fn := Go.Proofs.Try.f57) (by kernel_rfl) (by kernel_rfl) (by kernel_rfl) (by kernel_rfl) (by kernel_rfl) (fun x y h => (slices_Max_int_int_eq x).trans h)

def impl_IsHarmonic_ins : List Item := [.agg 0 [.int .i64, .ro .ii], .agg 1 [.int .i64, .ro .ii], .agg 2 [.ro (.int .i64), .ro (.int .i64)]]
def impl_IsHarmonic_outs : List Item := [.t 500 (.bool)]
def impl_IsHarmonic_ann : List (Nat × List Item) := [(58, [.t 3 (.ptr 3), .t 4 (.ptr 4), .t 5 (.ptr 5), .t 16 (.int .i64), .t 17 (.int .i64), .box 3 29 [.int .i64, .ro .ii], .box 4 29 [.int .i64, .ro .ii], .box 5 37 [.ro (.int .i64), .ro (.int .i64)]])]
noncomputable def impl_IsHarmonic_L58 : Int × Int × Int × (List (Int × Int)) × Int × (List (Int × Int)) × (List Int) × (List Int) × Unit → Option ((Int × Int × Int × (List (Int × Int)) × Int × (List (Int × Int)) × (List Int) × (List Int) × Unit) ⊕ (Bool × Unit)) := fun (t16, t17, b3_0, b3_1, b4_0, b4_1, b5_0, b5_1, _) =>
  cond (decide (t17 < t16))
    (Option.bind (impl_multiplicities (b3_0, b3_1, b4_0, b4_1, b5_0, b5_1, t17, ())) fun (v2, _) => cond (decide (((v2).length : Int) > 0))
    (Option.bind (slices_Min_int_int (v2, ())) fun (v3, _) => Option.bind (slices_Max_int_int (v2, ())) fun (v4, _) => cond (v3 != v4)
    (Option.map Sum.inr (some (false, ())))
    (some (.inl (t16, (w64 (t17 + 1)), b3_0, b3_1, b4_0, b4_1, b5_0, b5_1, ()))))
    (some (.inl (t16, (w64 (t17 + 1)), b3_0, b3_1, b4_0, b4_1, b5_0, b5_1, ()))))
    (Option.map Sum.inr (some (true, ())))
noncomputable def impl_IsHarmonic : Int × (List (Int × Int)) × Int × (List (Int × Int)) × (List Int) × (List Int) × Unit → Option (Bool × Unit) := fun (t0_0, t0_1, t1_0, t1_1, t2_0, t2_1, _) =>
  Option.bind (impl_MorphismOk (t0_0, t0_1, t1_0, t1_1, t2_0, t2_1, ())) fun (v1, _) => cond (!v1)
    (some (false, ()))
    (loopM impl_IsHarmonic_L58 (((t2_0).length : Int), 0, t0_0, t0_1, t1_0, t1_1, t2_0, t2_1, ()))
noncomputable def impl_IsHarmonic_F : Fun := ⟨impl_IsHarmonic_ins, [], impl_IsHarmonic_outs, impl_IsHarmonic⟩
noncomputable def impl_IsHarmonic_orc : Orc := orcGet [(23, impl_MorphismOk_F), (56, slices_Min_int_int_F), (57, slices_Max_int_int_F), (65, impl_multiplicities_F)]
theorem impl_IsHarmonic_eq (x : Den impl_IsHarmonic_ins) : pmFn (tdGet tab) impl_IsHarmonic_orc impl_IsHarmonic_F.mn impl_IsHarmonic_ann Go.Proofs.Try.f19 impl_IsHarmonic_ins impl_IsHarmonic_outs x = impl_IsHarmonic x := by kernel_rfl
theorem impl_IsHarmonic_c : CallsD Go.Proofs.Try.prog 19 impl_IsHarmonic_F :=
  fn_contract (F := impl_IsHarmonic_F) (C := impl_IsHarmonic_orc) mix (chkTab_get tab_ok) (orc_cons impl_MorphismOk_c (orc_cons slices_Min_int_int_c (orc_cons slices_Max_int_int_c (orc_cons impl_multiplicities_c orc_nil)))) impl_IsHarmonic_ann (fn := Go.Proofs.Try.f19) (by kernel_rfl) (by kernel_rfl) (by kernel_rfl) (by kernel_rfl) (by kernel_rfl) (fun x y h => (impl_IsHarmonic_eq x).trans h)

def impl_CountMorphisms_1_ins : List Item := [.t 0 (.int .i64), .t 1 (.ptr 950), .t 2 (.ptr 951), .t 3 (.ptr 952), .t 4 (.ptr 953), .t 5 (.ptr 954), .box 950 37 [.own 3 (.int .i64), .own 3 (.int .i64)], .box 951 29 [.int .i64, .ro .ii], .box 952 29 [.int .i64, .ro .ii], .box 953 3 [.int .i64], .box 954 74 [.fn 55 [950, 951, 952, 953, 954]]]
def impl_CountMorphisms_1_outs : List Item := [.box 950 37 [.al 951000, .al 951001], .box 951 29 [.int .i64, .ro .ii], .box 952 29 [.int .i64, .ro .ii], .box 953 3 [.int .i64], .box 954 74 [.fn 55 [950, 951, 952, 953, 954]], .row 951000 3 (.int .i64), .row 951001 3 (.int .i64)]
def impl_CountMorphisms_1_ann : List (Nat × List Item) := [(14, [.t 0 (.int .i64), .t 1 (.ptr 950), .t 2 (.ptr 951), .t 3 (.ptr 952), .t 5 (.ptr 954), .t 7 (.int .i64), .box 950 37 [.al 951000, .al 951001], .box 951 29 [.int .i64, .ro .ii], .box 952 29 [.int .i64, .ro .ii], .box 954 74 [.fn 55 [950, 951, 952, 953, 954]], .box 953 3 [.int .i64], .row 951000 3 (.int .i64), .row 951001 3 (.int .i64)]),
  (914, [.t 0 (.int .i64), .t 1 (.ptr 950), .t 2 (.ptr 951), .t 3 (.ptr 952), .t 5 (.ptr 954), .t 7 (.int .i64), .t 82 (.bool), .box 950 37 [.al 951000, .al 951001], .box 951 29 [.int .i64, .ro .ii], .box 952 29 [.int .i64, .ro .ii], .box 954 74 [.fn 55 [950, 951, 952, 953, 954]], .box 953 3 [.int .i64], .row 951000 3 (.int .i64), .row 951001 3 (.int .i64)])]
noncomputable def impl_CountMorphisms_1_J914 (self_ : Int × (List Int) × (List Int) × Int × (List (Int × Int)) × Int × (List (Int × Int)) × Int × Unit → Option (Int × (List (Int × Int)) × Int × (List (Int × Int)) × Int × (List Int) × (List Int) × Unit)) : Int × Int × Bool × Int × (List (Int × Int)) × Int × (List (Int × Int)) × Int × (List Int) × (List Int) × Unit → Option (((Int × Int × Int × (List (Int × Int)) × Int × (List (Int × Int)) × Int × (List Int) × (List Int) × Unit) ⊕ Int × (List (Int × Int)) × Int × (List (Int × Int)) × Int × (List Int) × (List Int) × Unit)) := fun (t0, t7, t82, b951_0, b951_1, b952_0, b952_1, b953_0, r951000, r951001, _) =>
  cond t82
    (chk (0 ≤ t0 ∧ t0 < ((r951001).length : Int)) (Option.bind (self_ ((w64 (t0 + 1)), r951000, (r951001.set (t0 : Int).toNat t7), b951_0, b951_1, b952_0, b952_1, b953_0, ())) fun (v5, v6, v7, v8, v9, v10, v11, _) => some (.inl (t0, (w64 (t7 + 1)), v5, v6, v7, v8, v9, v10, v11, ()))))
    (some (.inl (t0, (w64 (t7 + 1)), b951_0, b951_1, b952_0, b952_1, b953_0, r951000, r951001, ())))
noncomputable def impl_CountMorphisms_1_L14 (self_ : Int × (List Int) × (List Int) × Int × (List (Int × Int)) × Int × (List (Int × Int)) × Int × Unit → Option (Int × (List (Int × Int)) × Int × (List (Int × Int)) × Int × (List Int) × (List Int) × Unit)) : Int × Int × Int × (List (Int × Int)) × Int × (List (Int × Int)) × Int × (List Int) × (List Int) × Unit → Option ((Int × Int × Int × (List (Int × Int)) × Int × (List (Int × Int)) × Int × (List Int) × (List Int) × Unit) ⊕ (Int × (List (Int × Int)) × Int × (List (Int × Int)) × Int × (List Int) × (List Int) × Unit)) := fun (t0, t7, b951_0, b951_1, b952_0, b952_1, b953_0, r951000, r951001, _) =>
  cond (decide (t7 < ((b952_1).length : Int)))
    (chk (0 ≤ t0 ∧ t0 < ((b951_1).length : Int)) (chk (0 ≤ (atD (0, 0) b951_1 t0).1 ∧ (atD (0, 0) b951_1 t0).1 < ((r951000).length : Int)) (chk (0 ≤ t0 ∧ t0 < ((b951_1).length : Int)) (chk (0 ≤ (atD (0, 0) b951_1 t0).2 ∧ (atD (0, 0) b951_1 t0).2 < ((r951000).length : Int)) (joinB (T := Int × Int × Bool × Int × (List (Int × Int)) × Int × (List (Int × Int)) × Int × (List Int) × (List Int) × Unit) (R := ((Int × Int × Int × (List (Int × Int)) × Int × (List (Int × Int)) × Int × (List Int) × (List Int) × Unit) ⊕ Int × (List (Int × Int)) × Int × (List (Int × Int)) × Int × (List Int) × (List Int) × Unit)) (cond (t7 == (-1))
    (cond (atD 0 r951000 ((atD (0, 0) b951_1 t0).1) == atD 0 r951000 ((atD (0, 0) b951_1 t0).2))
    (some (.inl (t0, t7, true, b951_0, b951_1, b952_0, b952_1, b953_0, r951000, r951001, ())))
    (cond (decide (t7 ≥ 0))
    (chk (0 ≤ t7 ∧ t7 < ((b952_1).length : Int)) (some (.inl (t0, t7, (((atD (0, 0) b952_1 t7).1 == (min2 (atD 0 r951000 ((atD (0, 0) b951_1 t0).1)) (atD 0 r951000 ((atD (0, 0) b951_1 t0).2)))) && ((atD (0, 0) b952_1 t7).2 == (max2 (atD 0 r951000 ((atD (0, 0) b951_1 t0).1)) (atD 0 r951000 ((atD (0, 0) b951_1 t0).2))))), b951_0, b951_1, b952_0, b952_1, b953_0, r951000, r951001, ()))))
    (some (.inl (t0, t7, false, b951_0, b951_1, b952_0, b952_1, b953_0, r951000, r951001, ())))))
    (cond (decide (t7 ≥ 0))
    (chk (0 ≤ t7 ∧ t7 < ((b952_1).length : Int)) (some (.inl (t0, t7, (((atD (0, 0) b952_1 t7).1 == (min2 (atD 0 r951000 ((atD (0, 0) b951_1 t0).1)) (atD 0 r951000 ((atD (0, 0) b951_1 t0).2)))) && ((atD (0, 0) b952_1 t7).2 == (max2 (atD 0 r951000 ((atD (0, 0) b951_1 t0).1)) (atD 0 r951000 ((atD (0, 0) b951_1 t0).2))))), b951_0, b951_1, b952_0, b952_1, b953_0, r951000, r951001, ()))))
    (some (.inl (t0, t7, false, b951_0, b951_1, b952_0, b952_1, b953_0, r951000, r951001, ()))))) (impl_CountMorphisms_1_J914 self_))))))
    (Option.map Sum.inr (some (b951_0, b951_1, b952_0, b952_1, b953_0, r951000, r951001, ())))
noncomputable def impl_CountMorphisms_1_step (self_ : Int × (List Int) × (List Int) × Int × (List (Int × Int)) × Int × (List (Int × Int)) × Int × Unit → Option (Int × (List (Int × Int)) × Int × (List (Int × Int)) × Int × (List Int) × (List Int) × Unit)) : Int × (List Int) × (List Int) × Int × (List (Int × Int)) × Int × (List (Int × Int)) × Int × Unit → Option (Int × (List (Int × Int)) × Int × (List (Int × Int)) × Int × (List Int) × (List Int) × Unit) := fun (t0, b950_0, b950_1, b951_0, b951_1, b952_0, b952_1, b953_0, _) =>
  cond (t0 == ((b950_1).length : Int))
    (Option.bind (impl_IsHarmonic (b951_0, b951_1, b952_0, b952_1, b950_0, b950_1, ())) fun (v1, _) => cond v1
    (Option.bind (slices_Min_int_int (b950_0, ())) fun (v2, _) => Option.bind (slices_Max_int_int (b950_0, ())) fun (v3, _) => cond (v2 != v3)
    (some (b951_0, b951_1, b952_0, b952_1, (w64 (b953_0 + 1)), b950_0, b950_1, ()))
    (some (b951_0, b951_1, b952_0, b952_1, b953_0, b950_0, b950_1, ())))
    (some (b951_0, b951_1, b952_0, b952_1, b953_0, b950_0, b950_1, ())))
    (loopM (impl_CountMorphisms_1_L14 self_) (t0, (-1), b951_0, b951_1, b952_0, b952_1, b953_0, b950_0, b950_1, ()))
noncomputable def impl_CountMorphisms_1_rec : Nat → Int × (List Int) × (List Int) × Int × (List (Int × Int)) × Int × (List (Int × Int)) × Int × Unit → Option (Int × (List (Int × Int)) × Int × (List (Int × Int)) × Int × (List Int) × (List Int) × Unit)
  | 0 => fun _ => none
  | k + 1 => impl_CountMorphisms_1_step (impl_CountMorphisms_1_rec k)
noncomputable def impl_CountMorphisms_1 : Int × (List Int) × (List Int) × Int × (List (Int × Int)) × Int × (List (Int × Int)) × Int × Unit → Option (Int × (List (Int × Int)) × Int × (List (Int × Int)) × Int × (List Int) × (List Int) × Unit) := impl_CountMorphisms_1_rec 64
noncomputable def impl_CountMorphisms_1_G (self_ : Int × (List Int) × (List Int) × Int × (List (Int × Int)) × Int × (List (Int × Int)) × Int × Unit → Option (Int × (List (Int × Int)) × Int × (List (Int × Int)) × Int × (List Int) × (List Int) × Unit)) : Fun := ⟨impl_CountMorphisms_1_ins, [950, 951, 952, 953, 954, 951000, 951001], impl_CountMorphisms_1_outs, self_⟩
noncomputable def impl_CountMorphisms_1_orc (self_ : Int × (List Int) × (List Int) × Int × (List (Int × Int)) × Int × (List (Int × Int)) × Int × Unit → Option (Int × (List (Int × Int)) × Int × (List (Int × Int)) × Int × (List Int) × (List Int) × Unit)) : Orc := orcGet [(19, impl_IsHarmonic_F), (55, impl_CountMorphisms_1_G self_), (56, slices_Min_int_int_F), (57, slices_Max_int_int_F)]
theorem impl_CountMorphisms_1_eq (self_ : Int × (List Int) × (List Int) × Int × (List (Int × Int)) × Int × (List (Int × Int)) × Int × Unit → Option (Int × (List (Int × Int)) × Int × (List (Int × Int)) × Int × (List Int) × (List Int) × Unit)) (x : Den impl_CountMorphisms_1_ins) : pmFn (tdGet tab) (impl_CountMorphisms_1_orc self_) (impl_CountMorphisms_1_G self_).mn impl_CountMorphisms_1_ann Go.Proofs.Try.f55 impl_CountMorphisms_1_ins impl_CountMorphisms_1_outs x = impl_CountMorphisms_1_step self_ x := by kernel_rfl
theorem impl_CountMorphisms_1_cn : ∀ k : Nat, CallsD Go.Proofs.Try.prog 55 (impl_CountMorphisms_1_G (impl_CountMorphisms_1_rec k))
  | 0 => fn_contract (F := impl_CountMorphisms_1_G (impl_CountMorphisms_1_rec 0)) (C := orcGet []) mix (chkTab_get tab_ok) orc_nil impl_CountMorphisms_1_ann (fn := Go.Proofs.Try.f55) (by kernel_rfl) (by kernel_rfl) (by kernel_rfl) (by kernel_rfl) (by kernel_rfl) (fun x y h => nomatch h)
  | k + 1 => have ih := impl_CountMorphisms_1_cn k
    fn_contract (F := impl_CountMorphisms_1_G (impl_CountMorphisms_1_rec (k + 1))) (C := impl_CountMorphisms_1_orc (impl_CountMorphisms_1_rec k)) mix (chkTab_get tab_ok) (orc_cons impl_IsHarmonic_c (orc_cons ih (orc_cons slices_Min_int_int_c (orc_cons slices_Max_int_int_c orc_nil)))) impl_CountMorphisms_1_ann (fn := Go.Proofs.Try.f55) (by kernel_rfl) (by kernel_rfl) (by kernel_rfl) (by kernel_rfl) (by kernel_rfl) (fun x y h => (impl_CountMorphisms_1_eq (impl_CountMorphisms_1_rec k) x).trans h)
noncomputable def impl_CountMorphisms_1_F : Fun := impl_CountMorphisms_1_G impl_CountMorphisms_1
theorem impl_CountMorphisms_1_c : CallsD Go.Proofs.Try.prog 55 impl_CountMorphisms_1_F := impl_CountMorphisms_1_cn 64

def impl_CountMorphisms_2_ins : List Item := [.t 0 (.int .i64), .t 1 (.ptr 950), .t 2 (.ptr 951), .t 3 (.ptr 952), .t 4 (.ptr 953), .t 5 (.ptr 954), .box 950 29 [.int .i64, .ro .ii], .box 951 74 [.fn 55 [952, 950, 953, 955, 951]], .box 952 37 [.own 3 (.int .i64), .own 3 (.int .i64)], .box 953 29 [.int .i64, .ro .ii], .box 954 74 [.fn 58 [950, 951, 952, 953, 954]], .box 955 3 [.int .i64]]
def impl_CountMorphisms_2_outs : List Item := [.box 950 29 [.int .i64, .ro .ii], .box 951 74 [.fn 55 [952, 950, 953, 955, 951]], .box 952 37 [.al 953000, .al 953001], .box 953 29 [.int .i64, .ro .ii], .box 954 74 [.fn 58 [950, 951, 952, 953, 954]], .box 955 3 [.int .i64], .row 953000 3 (.int .i64), .row 953001 3 (.int .i64)]
def impl_CountMorphisms_2_ann : List (Nat × List Item) := [(14, [.t 0 (.int .i64), .t 3 (.ptr 952), .t 4 (.ptr 953), .t 5 (.ptr 954), .box 952 37 [.al 953000, .al 953001], .box 953 29 [.int .i64, .ro .ii], .box 954 74 [.fn 58 [950, 951, 952, 953, 954]], .box 950 29 [.int .i64, .ro .ii], .box 951 74 [.fn 55 [952, 950, 953, 955, 951]], .box 955 3 [.int .i64], .row 953000 3 (.int .i64), .row 953001 3 (.int .i64)])]
noncomputable def impl_CountMorphisms_2_L14 (self_ : Int × Int × (List (Int × Int)) × (List Int) × (List Int) × Int × (List (Int × Int)) × Int × Unit → Option (Int × (List (Int × Int)) × Int × (List (Int × Int)) × Int × (List Int) × (List Int) × Unit)) : Int × Int × (List (Int × Int)) × Int × (List (Int × Int)) × Int × (List Int) × (List Int) × Unit → Option ((Int × Int × (List (Int × Int)) × Int × (List (Int × Int)) × Int × (List Int) × (List Int) × Unit) ⊕ (Int × (List (Int × Int)) × Int × (List (Int × Int)) × Int × (List Int) × (List Int) × Unit)) := fun (t0, b953_0, b953_1, b950_0, b950_1, b955_0, r953000, r953001, _) =>
  chk (0 ≤ t0 ∧ t0 < ((r953000).length : Int)) (cond (decide (atD 0 r953000 t0 < b953_0))
    (Option.bind (self_ ((w64 (t0 + 1)), b950_0, b950_1, r953000, r953001, b953_0, b953_1, b955_0, ())) fun (v8, v9, v10, v11, v12, v13, v14, _) => chk (0 ≤ t0 ∧ t0 < ((v13).length : Int)) (chk (0 ≤ t0 ∧ t0 < ((v13).length : Int)) (some (.inl (t0, v10, v11, v8, v9, v12, (v13.set (t0 : Int).toNat (w64 (atD 0 v13 t0 + 1))), v14, ())))))
    (Option.map Sum.inr (some (b950_0, b950_1, b953_0, b953_1, b955_0, r953000, r953001, ()))))
noncomputable def impl_CountMorphisms_2_step (self_ : Int × Int × (List (Int × Int)) × (List Int) × (List Int) × Int × (List (Int × Int)) × Int × Unit → Option (Int × (List (Int × Int)) × Int × (List (Int × Int)) × Int × (List Int) × (List Int) × Unit)) : Int × Int × (List (Int × Int)) × (List Int) × (List Int) × Int × (List (Int × Int)) × Int × Unit → Option (Int × (List (Int × Int)) × Int × (List (Int × Int)) × Int × (List Int) × (List Int) × Unit) := fun (t0, b950_0, b950_1, b952_0, b952_1, b953_0, b953_1, b955_0, _) =>
  cond (t0 == b950_0)
    (Option.bind (impl_CountMorphisms_1 (0, b952_0, b952_1, b950_0, b950_1, b953_0, b953_1, b955_0, ())) fun (v1, v2, v3, v4, v5, v6, v7, _) => some (v1, v2, v3, v4, v5, v6, v7, ()))
    (chk (0 ≤ t0 ∧ t0 < ((b952_0).length : Int)) (loopM (impl_CountMorphisms_2_L14 self_) (t0, b953_0, b953_1, b950_0, b950_1, b955_0, (b952_0.set (t0 : Int).toNat 0), b952_1, ())))
noncomputable def impl_CountMorphisms_2_rec : Nat → Int × Int × (List (Int × Int)) × (List Int) × (List Int) × Int × (List (Int × Int)) × Int × Unit → Option (Int × (List (Int × Int)) × Int × (List (Int × Int)) × Int × (List Int) × (List Int) × Unit)
  | 0 => fun _ => none
  | k + 1 => impl_CountMorphisms_2_step (impl_CountMorphisms_2_rec k)
noncomputable def impl_CountMorphisms_2 : Int × Int × (List (Int × Int)) × (List Int) × (List Int) × Int × (List (Int × Int)) × Int × Unit → Option (Int × (List (Int × Int)) × Int × (List (Int × Int)) × Int × (List Int) × (List Int) × Unit) := impl_CountMorphisms_2_rec 64
noncomputable def impl_CountMorphisms_2_G (self_ : Int × Int × (List (Int × Int)) × (List Int) × (List Int) × Int × (List (Int × Int)) × Int × Unit → Option (Int × (List (Int × Int)) × Int × (List (Int × Int)) × Int × (List Int) × (List Int) × Unit)) : Fun := ⟨impl_CountMorphisms_2_ins, [950, 951, 952, 953, 954, 955, 953000, 953001], impl_CountMorphisms_2_outs, self_⟩
noncomputable def impl_CountMorphisms_2_orc (self_ : Int × Int × (List (Int × Int)) × (List Int) × (List Int) × Int × (List (Int × Int)) × Int × Unit → Option (Int × (List (Int × Int)) × Int × (List (Int × Int)) × Int × (List Int) × (List Int) × Unit)) : Orc := orcGet [(55, impl_CountMorphisms_1_F), (58, impl_CountMorphisms_2_G self_)]
theorem impl_CountMorphisms_2_eq (self_ : Int × Int × (List (Int × Int)) × (List Int) × (List Int) × Int × (List (Int × Int)) × Int × Unit → Option (Int × (List (Int × Int)) × Int × (List (Int × Int)) × Int × (List Int) × (List Int) × Unit)) (x : Den impl_CountMorphisms_2_ins) : pmFn (tdGet tab) (impl_CountMorphisms_2_orc self_) (impl_CountMorphisms_2_G self_).mn impl_CountMorphisms_2_ann Go.Proofs.Try.f58 impl_CountMorphisms_2_ins impl_CountMorphisms_2_outs x = impl_CountMorphisms_2_step self_ x := by kernel_rfl
theorem impl_CountMorphisms_2_cn : ∀ k : Nat, CallsD Go.Proofs.Try.prog 58 (impl_CountMorphisms_2_G (impl_CountMorphisms_2_rec k))
  | 0 => fn_contract (F := impl_CountMorphisms_2_G (impl_CountMorphisms_2_rec 0)) (C := orcGet []) mix (chkTab_get tab_ok) orc_nil impl_CountMorphisms_2_ann (fn := Go.Proofs.Try.f58) (by kernel_rfl) (by kernel_rfl) (by kernel_rfl) (by kernel_rfl) (by kernel_rfl) (fun x y h => nomatch h)
  | k + 1 => have ih := impl_CountMorphisms_2_cn k
    fn_contract (F := impl_CountMorphisms_2_G (impl_CountMorphisms_2_rec (k + 1))) (C := impl_CountMorphisms_2_orc (impl_CountMorphisms_2_rec k)) mix (chkTab_get tab_ok) (orc_cons impl_CountMorphisms_1_c (orc_cons ih orc_nil)) impl_CountMorphisms_2_ann (fn := Go.Proofs.Try.f58) (by kernel_rfl) (by kernel_rfl) (by kernel_rfl) (by kernel_rfl) (by kernel_rfl) (fun x y h => (impl_CountMorphisms_2_eq (impl_CountMorphisms_2_rec k) x).trans h)
noncomputable def impl_CountMorphisms_2_F : Fun := impl_CountMorphisms_2_G impl_CountMorphisms_2
theorem impl_CountMorphisms_2_c : CallsD Go.Proofs.Try.prog 58 impl_CountMorphisms_2_F := impl_CountMorphisms_2_cn 64

def impl_CountMorphisms_ins : List Item := [.agg 0 [.int .i64, .ro .ii], .agg 1 [.int .i64, .ro .ii]]
def impl_CountMorphisms_outs : List Item := [.t 500 (.int .i64)]
def impl_CountMorphisms_ann : List (Nat × List Item) := [(12, [.t 2 (.ptr 2), .t 3 (.ptr 3), .t 38 (.bool), .box 2 29 [.int .i64, .ro .ii], .box 3 29 [.int .i64, .ro .ii]])]
noncomputable def impl_CountMorphisms_J12 : Bool × Int × (List (Int × Int)) × Int × (List (Int × Int)) × Unit → Option (Int × Unit) := fun (t38, b2_0, b2_1, b3_0, b3_1, _) =>
  cond t38
    (some ((-1), ()))
    (chk (b2_0 = b2_0 ∧ 0 ≤ b2_0 ∧ b2_0 ≤ 17592186044416) (chk (((b2_1).length : Int) = ((b2_1).length : Int) ∧ 0 ≤ ((b2_1).length : Int) ∧ ((b2_1).length : Int) ≤ 17592186044416) (Option.bind (impl_CountMorphisms_2 (0, b2_0, b2_1, (List.replicate (b2_0).toNat (0 : Int)), (List.replicate (((b2_1).length : Int)).toNat (0 : Int)), b3_0, b3_1, 0, ())) fun (v4, v5, v6, v7, v8, v9, v10, _) => some (v8, ()))))
noncomputable def impl_CountMorphisms : Int × (List (Int × Int)) × Int × (List (Int × Int)) × Unit → Option (Int × Unit) := fun (t0_0, t0_1, t1_0, t1_1, _) =>
  joinB (T := Bool × Int × (List (Int × Int)) × Int × (List (Int × Int)) × Unit) (R := Int × Unit) (Option.bind (impl_GraphOk (t0_0, t0_1, ())) fun (v2, _) => cond (!v2)
    (some (.inl (true, t0_0, t0_1, t1_0, t1_1, ())))
    (Option.bind (impl_GraphOk (t1_0, t1_1, ())) fun (v3, _) => cond (!v3)
    (some (.inl (true, t0_0, t0_1, t1_0, t1_1, ())))
    (cond (decide (t0_0 > 4))
    (some (.inl (true, t0_0, t0_1, t1_0, t1_1, ())))
    (cond (decide (((t0_1).length : Int) > 5))
    (some (.inl (true, t0_0, t0_1, t1_0, t1_1, ())))
    (cond (decide (t1_0 > 3))
    (some (.inl (true, t0_0, t0_1, t1_0, t1_1, ())))
    (some (.inl ((decide (((t1_1).length : Int) > 3)), t0_0, t0_1, t1_0, t1_1, ())))))))) impl_CountMorphisms_J12
noncomputable def impl_CountMorphisms_F : Fun := ⟨impl_CountMorphisms_ins, [], impl_CountMorphisms_outs, impl_CountMorphisms⟩
noncomputable def impl_CountMorphisms_orc : Orc := orcGet [(54, impl_GraphOk_F), (58, impl_CountMorphisms_2_F)]
theorem impl_CountMorphisms_eq (x : Den impl_CountMorphisms_ins) : pmFn (tdGet tab) impl_CountMorphisms_orc impl_CountMorphisms_F.mn impl_CountMorphisms_ann Go.Proofs.Try.f12 impl_CountMorphisms_ins impl_CountMorphisms_outs x = impl_CountMorphisms x := by kernel_rfl
theorem impl_CountMorphisms_c : CallsD Go.Proofs.Try.prog 12 impl_CountMorphisms_F :=
  fn_contract (F := impl_CountMorphisms_F) (C := impl_CountMorphisms_orc) mix (chkTab_get tab_ok) (orc_cons impl_GraphOk_c (orc_cons impl_CountMorphisms_2_c orc_nil)) impl_CountMorphisms_ann (fn := Go.Proofs.Try.f12) (by kernel_rfl) (by kernel_rfl) (by kernel_rfl) (by kernel_rfl) (by kernel_rfl) (fun x y h => (impl_CountMorphisms_eq x).trans h)

def laws_eqEdge_ins : List Item := [.agg 0 [.int .i64, .int .i64], .agg 1 [.int .i64, .int .i64]]
def laws_eqEdge_outs : List Item := [.t 500 (.bool)]
def laws_eqEdge_ann : List (Nat × List Item) := []
noncomputable def laws_eqEdge : Int × Int × Int × Int × Unit → Option (Bool × Unit) := fun (t0_0, t0_1, t1_0, t1_1, _) =>
  cond (t0_0 != t1_0)
    (some (false, ()))
    (cond (t0_1 != t1_1)
    (some (false, ()))
    (some (true, ())))
noncomputable def laws_eqEdge_F : Fun := ⟨laws_eqEdge_ins, [], laws_eqEdge_outs, laws_eqEdge⟩
noncomputable def laws_eqEdge_orc : Orc := orcGet []
theorem laws_eqEdge_eq (x : Den laws_eqEdge_ins) : pmFn (tdGet tab) laws_eqEdge_orc laws_eqEdge_F.mn laws_eqEdge_ann Go.Proofs.Try.f103 laws_eqEdge_ins laws_eqEdge_outs x = laws_eqEdge x := by kernel_rfl
theorem laws_eqEdge_c : CallsD Go.Proofs.Try.prog 103 laws_eqEdge_F :=
  fn_contract (F := laws_eqEdge_F) (C := laws_eqEdge_orc) mix (chkTab_get tab_ok) orc_nil laws_eqEdge_ann (fn := Go.Proofs.Try.f103) (by kernel_rfl) (by kernel_rfl) (by kernel_rfl) (by kernel_rfl) (by kernel_rfl) (fun x y h => (laws_eqEdge_eq x).trans h)

def laws_eqEdgeS_ins : List Item := [.t 0 (.ro .ii), .t 1 (.ro .ii)]
def laws_eqEdgeS_outs : List Item := [.t 500 (.bool)]
def laws_eqEdgeS_ann : List (Nat × List Item) := [(58, [.t 0 (.ro .ii), .t 1 (.ro .ii), .t 5 (.int .i64)])]
noncomputable def laws_eqEdgeS_L58 : (List (Int × Int)) × (List (Int × Int)) × Int × Unit → Option (((List (Int × Int)) × (List (Int × Int)) × Int × Unit) ⊕ (Bool × Unit)) := fun (t0, t1, t5, _) =>
  cond (decide (t5 < ((t0).length : Int)))
    (chk (0 ≤ t5 ∧ t5 < ((t0).length : Int)) (chk (0 ≤ t5 ∧ t5 < ((t1).length : Int)) (Option.bind (laws_eqEdge ((atD (0, 0) t0 t5).1, (atD (0, 0) t0 t5).2, (atD (0, 0) t1 t5).1, (atD (0, 0) t1 t5).2, ())) fun (v1, _) => cond (!v1)
    (Option.map Sum.inr (some (false, ())))
    (some (.inl (t0, t1, (w64 (t5 + 1)), ()))))))
    (Option.map Sum.inr (some (true, ())))
noncomputable def laws_eqEdgeS : (List (Int × Int)) × (List (Int × Int)) × Unit → Option (Bool × Unit) := fun (t0, t1, _) =>
  cond (((t0).length : Int) != ((t1).length : Int))
    (some (false, ()))
    (loopM laws_eqEdgeS_L58 (t0, t1, 0, ()))
noncomputable def laws_eqEdgeS_F : Fun := ⟨laws_eqEdgeS_ins, [], laws_eqEdgeS_outs, laws_eqEdgeS⟩
noncomputable def laws_eqEdgeS_orc : Orc := orcGet [(103, laws_eqEdge_F)]
theorem laws_eqEdgeS_eq (x : Den laws_eqEdgeS_ins) : pmFn (tdGet tab) laws_eqEdgeS_orc laws_eqEdgeS_F.mn laws_eqEdgeS_ann Go.Proofs.Try.f59 laws_eqEdgeS_ins laws_eqEdgeS_outs x = laws_eqEdgeS x := by kernel_rfl
theorem laws_eqEdgeS_c : CallsD Go.Proofs.Try.prog 59 laws_eqEdgeS_F :=
  fn_contract (F := laws_eqEdgeS_F) (C := laws_eqEdgeS_orc) mix (chkTab_get tab_ok) (orc_cons laws_eqEdge_c orc_nil) laws_eqEdgeS_ann (fn := Go.Proofs.Try.f59) (by kernel_rfl) (by kernel_rfl) (by kernel_rfl) (by kernel_rfl) (by kernel_rfl) (fun x y h => (laws_eqEdgeS_eq x).trans h)

def laws_eqGraph_ins : List Item := [.agg 0 [.int .i64, .ro .ii], .agg 1 [.int .i64, .ro .ii]]
def laws_eqGraph_outs : List Item := [.t 500 (.bool)]
def laws_eqGraph_ann : List (Nat × List Item) := []
noncomputable def laws_eqGraph : Int × (List (Int × Int)) × Int × (List (Int × Int)) × Unit → Option (Bool × Unit) := fun (t0_0, t0_1, t1_0, t1_1, _) =>
  cond (t0_0 != t1_0)
    (some (false, ()))
    (Option.bind (laws_eqEdgeS (t0_1, t1_1, ())) fun (v1, _) => cond (!v1)
    (some (false, ()))
    (some (true, ())))
noncomputable def laws_eqGraph_F : Fun := ⟨laws_eqGraph_ins, [], laws_eqGraph_outs, laws_eqGraph⟩
noncomputable def laws_eqGraph_orc : Orc := orcGet [(59, laws_eqEdgeS_F)]
theorem laws_eqGraph_eq (x : Den laws_eqGraph_ins) : pmFn (tdGet tab) laws_eqGraph_orc laws_eqGraph_F.mn laws_eqGraph_ann Go.Proofs.Try.f13 laws_eqGraph_ins laws_eqGraph_outs x = laws_eqGraph x := by kernel_rfl
theorem laws_eqGraph_c : CallsD Go.Proofs.Try.prog 13 laws_eqGraph_F :=
  fn_contract (F := laws_eqGraph_F) (C := laws_eqGraph_orc) mix (chkTab_get tab_ok) (orc_cons laws_eqEdgeS_c orc_nil) laws_eqGraph_ann (fn := Go.Proofs.Try.f13) (by kernel_rfl) (by kernel_rfl) (by kernel_rfl) (by kernel_rfl) (by kernel_rfl) (fun x y h => (laws_eqGraph_eq x).trans h)

def laws_FnExactCountMorphisms_ins : List Item := [.agg 0 [.int .i64, .ro .ii], .agg 1 [.int .i64, .ro .ii]]
def laws_FnExactCountMorphisms_outs : List Item := [.t 500 (.bool)]
def laws_FnExactCountMorphisms_ann : List (Nat × List Item) := []
noncomputable def laws_FnExactCountMorphisms : Int × (List (Int × Int)) × Int × (List (Int × Int)) × Unit → Option (Bool × Unit) := fun (t0_0, t0_1, t1_0, t1_1, _) =>
  Option.bind (laws_szGraph (t0_0, t0_1, 1048576, ())) fun (v1, _) => cond (decide (v1 < 0))
    (some (true, ()))
    (Option.bind (laws_szGraph (t1_0, t1_1, v1, ())) fun (v2, _) => cond (decide (v2 < 0))
    (some (true, ()))
    (Option.bind (laws_toGraph (t0_0, t0_1, ())) fun (v3, v4, _) => Option.bind (laws_toGraph (t1_0, t1_1, ())) fun (v5, v6, _) => Option.bind (spec_CountMorphisms (v3, v4, v5, v6, ())) fun (v7, _) => Option.bind (laws_toGraph (t0_0, t0_1, ())) fun (v8, v9, _) => Option.bind (laws_toGraph (t1_0, t1_1, ())) fun (v10, v11, _) => Option.bind (impl_CountMorphisms (v8, v9, v10, v11, ())) fun (v12, _) => cond (v12 != v7)
    (some (false, ()))
    (Option.bind (laws_toGraph (t0_0, t0_1, ())) fun (v13, v14, _) => Option.bind (laws_eqGraph (v8, v9, v13, v14, ())) fun (v15, _) => cond (!v15)
    (some (false, ()))
    (Option.bind (laws_toGraph (t1_0, t1_1, ())) fun (v16, v17, _) => Option.bind (laws_eqGraph (v10, v11, v16, v17, ())) fun (v18, _) => cond (!v18)
    (some (false, ()))
    (some (true, ()))))))
noncomputable def laws_FnExactCountMorphisms_F : Fun := ⟨laws_FnExactCountMorphisms_ins, [], laws_FnExactCountMorphisms_outs, laws_FnExactCountMorphisms⟩
noncomputable def laws_FnExactCountMorphisms_orc : Orc := orcGet [(9, laws_szGraph_F), (10, spec_CountMorphisms_F), (11, laws_toGraph_F), (12, impl_CountMorphisms_F), (13, laws_eqGraph_F)]
theorem laws_FnExactCountMorphisms_eq (x : Den laws_FnExactCountMorphisms_ins) : pmFn (tdGet tab) laws_FnExactCountMorphisms_orc laws_FnExactCountMorphisms_F.mn laws_FnExactCountMorphisms_ann Go.Proofs.Try.f3 laws_FnExactCountMorphisms_ins laws_FnExactCountMorphisms_outs x = laws_FnExactCountMorphisms x := by kernel_rfl
theorem laws_FnExactCountMorphisms_c : CallsD Go.Proofs.Try.prog 3 laws_FnExactCountMorphisms_F :=
  fn_contract (F := laws_FnExactCountMorphisms_F) (C := laws_FnExactCountMorphisms_orc) mix (chkTab_get tab_ok) (orc_cons laws_szGraph_c (orc_cons spec_CountMorphisms_c (orc_cons laws_toGraph_c (orc_cons impl_CountMorphisms_c (orc_cons laws_eqGraph_c orc_nil))))) laws_FnExactCountMorphisms_ann (fn := Go.Proofs.Try.f3) (by kernel_rfl) (by kernel_rfl) (by kernel_rfl) (by kernel_rfl) (by kernel_rfl) (fun x y h => (laws_FnExactCountMorphisms_eq x).trans h)

end Go.Pm.Try
