/-
  Plain laws: what the typed functions answer. Conditions: see each.
-/
import Derived.Test.YteplfcgofnfciaaG7
import Derived.Test.YteplfcgofnfciaaTa
set_option linter.unusedVariables false
set_option linter.unusedSimpArgs false
namespace Go.Pm.Try
open Go.Pm Go.Pm.Th
section
variable {α S R : Type} {f : S → Option (S ⊕ R)}
theorem loop_forall (mk : Int → S) (p : α → Bool) (l : List α) (bad good : R) (hstep : ∀ (i : Nat) (a : α), l[i]? = some a → f (mk i) = some (cond (p a) (.inl (mk (i + 1 : Nat))) (.inr bad))) (hfin : f (mk l.length) = some (.inr good)) :
    loopM f (mk 0) = some (cond (l.all p) good bad) := by
  have key := loop_list (f := f) (fun (_ : Unit) i => mk i) (fun _ a => cond (p a) (.inl ()) (.inr bad)) (fun _ _ => True) l l.length rfl (fun _ => good) () trivial (fun s i a ha _ => ⟨by rw [hstep i a ha]; cases p a <;> rfl, fun _ _ => trivial⟩) (fun _ _ => hfin)
  rw [key]
  congr 1
  clear key hstep hfin
  induction l with
  | nil => rfl
  | cons a l ih =>
    simp only [runL, List.all_cons]
    cases h : p a with
    | true => simpa using ih
    | false => rfl
theorem loop_forallN (mk : Int → S) (p : Nat → Bool) (n : Nat) (bad good : R) (hstep : ∀ (i : Nat), i < n → f (mk i) = some (cond (p i) (.inl (mk (i + 1 : Nat))) (.inr bad))) (hfin : f (mk n) = some (.inr good)) :
    loopM f (mk 0) = some (cond ((List.range n).all p) good bad) := by
  refine loop_forall mk p (List.range n) bad good (fun i a ha => ?_) (by simpa using hfin)
  have hi : i < n := by have := (List.getElem?_eq_some_iff.1 ha).1; simpa using this
  have : a = i := by rw [List.getElem?_range hi] at ha; cases ha; rfl
  subst this
  exact hstep a hi
/-- downwards from n to 0; at 0 it ends -/
theorem loop_downN (mk : Int → S) (p : Nat → Bool) (bad good : R) : ∀ (n : Nat), (∀ i, i < n → f (mk (i + 1 : Nat)) = some (cond (p (i + 1)) (.inl (mk i)) (.inr bad))) → f (mk 0) = some (.inr good) →
    loopM f (mk n) = some (cond ((List.range n).all (fun i => p (i + 1))) good bad)
  | 0, _, h0 => loop_out h0
  | n + 1, hs, h0 => by
    have h1 := hs n (by omega)
    have ih := loop_downN mk p bad good n (fun i hi => hs i (by omega)) h0
    rw [List.range_succ, List.all_append]
    cases h : p (n + 1) with
    | true =>
      rw [h] at h1
      rw [loop_in h1, ih]
      simp [h]
    | false =>
      rw [h] at h1
      rw [loop_out h1]
      simp [h]
end
/-- a list written place by place -/
def upto {α : Type} (d : α) (l : List α) (i : Nat) : List α := l.take i ++ List.replicate (l.length - i) d
theorem upto_len {α : Type} (d : α) (l : List α) (i : Nat) (h : i ≤ l.length) : (upto d l i).length = l.length := by simp [upto]; omega
theorem upto_set {α : Type} (d : α) (l : List α) (i : Nat) (a : α) (h : l[i]? = some a) : (upto d l i).set i a = upto d l (i + 1) := by
  apply List.ext_getElem?
  intro k
  have h' := lt_of_get h
  have hl : (l.take i).length = i := by simp; omega
  rw [List.getElem?_set]
  by_cases hk : i = k
  · subst hk
    rw [if_pos rfl, if_pos (by rw [upto_len d l i (by omega)]; exact h')]
    unfold upto
    rw [List.getElem?_append_left (by simp; omega), List.getElem?_take, if_pos (by omega), h]
  · rw [if_neg hk]
    unfold upto
    rw [List.getElem?_append, List.getElem?_append, hl]
    have hl' : (l.take (i + 1)).length = i + 1 := by simp; omega
    rw [hl']
    by_cases h1 : k < i
    · rw [if_pos h1, if_pos (by omega), List.getElem?_take, List.getElem?_take, if_pos h1, if_pos (by omega)]
    · rw [if_neg h1, if_neg (by omega), List.getElem?_replicate, List.getElem?_replicate]
      by_cases h2 : k < l.length
      · rw [if_pos (by omega), if_pos (by omega)]
      · rw [if_neg (by omega), if_neg (by omega)]
theorem upto_zero {α : Type} (d : α) (l : List α) : upto d l 0 = List.replicate l.length d := by simp [upto]
theorem upto_all {α : Type} (d : α) (l : List α) : upto d l l.length = l := by simp [upto]
theorem laws_toIntS_spec (xs : List Int) (h : xs.length ≤ 17592186044416) : laws_toIntS (xs, ()) = some (xs, ()) := by
  unfold laws_toIntS
  dsimp only
  rw [chk_pos ⟨rfl, by omega, by omega⟩]
  have := loop_all (f := laws_toIntS_L58) (fun i => (xs, upto 0 xs i, (i : Int), ())) xs.length (r := (xs, ())) (fun i hi => by
    have hg : xs[i]? = some xs[i] := List.getElem?_eq_getElem hi
    have hu := upto_len 0 xs i (by omega)
    simp only [laws_toIntS_L58]
    simp (disch := omega) only [cond_pos, chk_pos, w64_of, atD_nat, getD_of hg, Int.toNat_natCast, upto_set 0 xs i _ hg]
    rfl) (by
    simp only [laws_toIntS_L58]
    simp (disch := omega) only [cond_neg, upto_all, Option.map_some])
  rw [upto_zero] at this
  simpa using this
theorem laws_toEdgeS_spec (es : List (Int × Int)) (h : es.length ≤ 8796093022208) : laws_toEdgeS (es, ()) = some (es, ()) := by
  unfold laws_toEdgeS
  dsimp only
  rw [chk_pos ⟨rfl, by omega, by omega⟩]
  have := loop_all (f := laws_toEdgeS_L58) (fun i => (es, upto (0, 0) es i, (i : Int), ())) es.length (r := (es, ())) (fun i hi => by
    have hg : es[i]? = some es[i] := List.getElem?_eq_getElem hi
    have hu := upto_len (0, 0) es i (by omega)
    simp only [laws_toEdgeS_L58, laws_toEdge, Option.bind_some]
    simp (disch := omega) only [cond_pos, chk_pos, w64_of, atD_nat, getD_of hg, Int.toNat_natCast, Prod.eta, upto_set (0, 0) es i _ hg]
    rfl) (by
    simp only [laws_toEdgeS_L58]
    simp (disch := omega) only [cond_neg, upto_all, Option.map_some])
  rw [upto_zero] at this
  simpa using this
theorem laws_toGraph_spec (n : Int) (es : List (Int × Int)) (h : es.length ≤ 8796093022208) : laws_toGraph (n, es, ()) = some (n, es, ()) := by
  simp only [laws_toGraph, laws_toEdgeS_spec es h, Option.bind_some]
theorem laws_szGraph_spec (n : Int) (es : List (Int × Int)) (left : Int) (h0 : 0 ≤ left) (h1 : left ≤ 1048576) (h : es.length ≤ 9223372036854775807) :
    laws_szGraph (n, es, left, ()) = some (if left < es.length then -1 else left - es.length, ()) := by
  simp only [laws_szGraph, laws_szEdgeS]
  by_cases hlt : left < es.length
  · simp (disch := omega) only [w64_of, cond_pos, Option.bind_some, if_pos hlt]
  · simp (disch := omega) only [w64_of, cond_neg, Option.bind_some, if_neg hlt]
theorem laws_eqIntS_refl (xs : List Int) (h : xs.length ≤ 17592186044416) : laws_eqIntS (xs, xs, ()) = some (true, ()) := by
  simp only [laws_eqIntS, bne_self_eq_false, cond_false]
  refine loop_all (f := laws_eqIntS_L58) (fun i => (xs, xs, (i : Int), ())) xs.length (r := (true, ())) (fun i hi => ?_) ?_
  · simp only [laws_eqIntS_L58]
    simp (disch := omega) only [cond_pos, chk_pos, w64_of, bne_self_eq_false, cond_false]
    rfl
  · simp only [laws_eqIntS_L58]
    simp (disch := omega) only [cond_neg, Option.map_some]
theorem laws_eqEdgeS_refl (xs : List (Int × Int)) (h : xs.length ≤ 8796093022208) : laws_eqEdgeS (xs, xs, ()) = some (true, ()) := by
  simp only [laws_eqEdgeS, bne_self_eq_false, cond_false]
  refine loop_all (f := laws_eqEdgeS_L58) (fun i => (xs, xs, (i : Int), ())) xs.length (r := (true, ())) (fun i hi => ?_) ?_
  · simp only [laws_eqEdgeS_L58, laws_eqEdge, bne_self_eq_false, cond_false, Option.bind_some, Bool.not_true]
    simp (disch := omega) only [cond_pos, chk_pos, w64_of]
    rfl
  · simp only [laws_eqEdgeS_L58]
    simp (disch := omega) only [cond_neg, Option.map_some]
theorem laws_eqGraph_refl (n : Int) (xs : List (Int × Int)) (h : xs.length ≤ 8796093022208) : laws_eqGraph (n, xs, n, xs, ()) = some (true, ()) := by
  simp only [laws_eqGraph, bne_self_eq_false, cond_false, laws_eqEdgeS_refl xs h, Option.bind_some, Bool.not_true]
/-- what marking leaves -/
def marks (n : Nat) (k : Int) : List Int := (List.range n).map fun (i : Nat) => k + (i : Int)
theorem laws_markIntS_spec (xs : List Int) (k : Int) (h0 : 0 ≤ k) (hk : k ≤ 100000000000000) (h : xs.length ≤ 17592186044416) : laws_markIntS (xs, k, ()) = some (k + xs.length, marks xs.length k, ()) := by
  simp only [laws_markIntS]
  have := loop_all (f := laws_markIntS_L26) (fun i => (k + (i : Int), (i : Int), (marks i k) ++ xs.drop i, ())) xs.length (r := (k + xs.length, marks xs.length k, ())) (fun i hi => by
    have hl : (marks i k ++ xs.drop i).length = xs.length := by simp [marks]; omega
    have hset : (marks i k ++ xs.drop i).set i (k + (i : Int)) = marks (i + 1) k ++ xs.drop (i + 1) := by
      have e1 : (marks i k).length = i := by simp [marks]
      rw [List.set_append, e1, if_neg (by omega), Nat.sub_self, List.drop_eq_getElem_cons hi, List.set_cons_zero]
      simp [marks, List.range_succ]
    simp only [laws_markIntS_L26]
    simp (disch := omega) only [cond_pos, chk_pos, w64_of, Int.toNat_natCast, hset]
    simp only [Int.natCast_add, Int.natCast_one, Int.add_assoc]) (by
    simp only [laws_markIntS_L26]
    have hl : (marks xs.length k).length = xs.length := by simp [marks]
    simp (disch := omega) only [cond_neg, Option.map_some, List.drop_length, List.append_nil])
  simpa [marks] using this
theorem laws_markEdgeS_spec (xs : List (Int × Int)) (k : Int) (h0 : 0 ≤ k) (hk : k ≤ 100000000000000) (h : xs.length ≤ 8796093022208) : ∃ ys, laws_markEdgeS (xs, k, ()) = some (k + 2 * xs.length, ys, ()) := by
  have key : ∀ (m i : Nat) (ys : List (Int × Int)), i + m = xs.length → ys.length = xs.length → ∃ zs, loopM laws_markEdgeS_L26 (k + 2 * (i : Int), (i : Int), ys, ()) = some (k + 2 * xs.length, zs, ()) := by
    intro m
    induction m with
    | zero =>
      intro i ys hi hl
      refine ⟨ys, ?_⟩
      rw [show i = xs.length by omega]
      apply loop_out
      simp only [laws_markEdgeS_L26]
      simp (disch := omega) only [cond_neg, Option.map_some]
    | succ m ih =>
      intro i ys hi hl
      obtain ⟨zs, hz⟩ := ih (i + 1) _ (by omega) (show ((ys.set i (k + 2 * (i : Int), (atD (0, 0) ys i).2)).set i ((atD (0, 0) (ys.set i (k + 2 * (i : Int), (atD (0, 0) ys i).2)) i).1, k + 2 * (i : Int) + 1)).length = xs.length by simpa using hl)
      refine ⟨zs, ?_⟩
      rw [loop_in (s' := (k + 2 * ((i + 1 : Nat) : Int), ((i + 1 : Nat) : Int), ((ys.set i (k + 2 * (i : Int), (atD (0, 0) ys i).2)).set i ((atD (0, 0) (ys.set i (k + 2 * (i : Int), (atD (0, 0) ys i).2)) i).1, k + 2 * (i : Int) + 1)), ()))]
      · exact hz
      · simp only [laws_markEdgeS_L26]
        simp (disch := omega) only [cond_pos, chk_pos, w64_of, Int.toNat_natCast, List.length_set]
        rw [show k + 2 * (i : Int) + 1 + 1 = k + 2 * ((i + 1 : Nat) : Int) by omega]
        rfl
  obtain ⟨zs, hz⟩ := key xs.length 0 xs (by omega) rfl
  exact ⟨zs, by simpa [laws_markEdgeS] using hz⟩
theorem laws_markGraph_spec (n : Int) (xs : List (Int × Int)) (k : Int) (h0 : 0 ≤ k) (hk : k ≤ 100000000000000) (h : xs.length ≤ 8796093022208) : ∃ ys, laws_markGraph (n, xs, k, ()) = some (k + 2 * xs.length, ys, ()) := by
  obtain ⟨ys, hy⟩ := laws_markEdgeS_spec xs k h0 hk h
  exact ⟨ys, by simp only [laws_markGraph, hy, Option.bind_some]⟩
theorem laws_heldIntS_marks (n : Nat) (k : Int) (h0 : 0 ≤ k) (hk : k ≤ 100000000000000) (h : n ≤ 17592186044416) : laws_heldIntS (marks n k, k, ()) = some (k + n, ()) := by
  simp only [laws_heldIntS]
  have hl : (marks n k).length = n := by simp [marks]
  have := loop_all (f := laws_heldIntS_L26) (fun i => (marks n k, k + (i : Int), (i : Int), ())) n (r := (k + n, ())) (fun i hi => by
    have hg : (marks n k)[i]? = some (k + (i : Int)) := by simp [marks, List.getElem?_range hi]
    simp only [laws_heldIntS_L26]
    simp (disch := omega) only [cond_pos, chk_pos, w64_of, atD_nat, getD_of hg, bne_self_eq_false, cond_false]
    simp only [Int.natCast_add, Int.natCast_one, Int.add_assoc]) (by
    simp only [laws_heldIntS_L26]
    simp (disch := omega) only [cond_neg, Option.map_some])
  simpa using this
end Go.Pm.Try

set_option linter.unusedVariables false
set_option linter.unusedSimpArgs false
namespace Go.Pm.Try
open Go.Pm Go.Pm.Th
def ltB (a b : Int × Int) : Bool := decide (a.1 < b.1) || (decide (a.1 = b.1) && decide (a.2 < b.2))
def sortedB (es : Es) : Bool := (List.range (es.length - 1)).all fun i => !ltB (es.getD (i + 1) (0, 0)) (es.getD i (0, 0))
def edgesB (n : Int) (es : Es) : Bool := decide (1 ≤ n ∧ n ≤ 6) && decide (es.length ≤ 12) && es.all (fun e => decide (0 ≤ e.1 ∧ e.1 < e.2 ∧ e.2 < n))
open Classical in
noncomputable def connB (n : Int) (es : Es) : Bool := decide (Conn n es)
noncomputable def gokB (n : Int) (es : Es) : Bool := edgesB n es && sortedB es && connB n es
theorem edgesB_spec {n : Int} {es : Es} (h : edgesB n es = true) : (1 ≤ n ∧ n ≤ 6) ∧ es.length ≤ 12 ∧ EOk n es := by
  simp only [edgesB, Bool.and_eq_true, decide_eq_true_eq, List.all_eq_true] at h
  exact ⟨h.1.1, h.1.2, h.2⟩
theorem gokB_gr {n : Int} {es : Es} (h : gokB n es = true) : ∃ m : Nat, n = m ∧ Gr m es := by
  simp only [gokB, Bool.and_eq_true, connB, decide_eq_true_eq] at h
  obtain ⟨⟨h1, h2⟩, h3⟩ := h
  obtain ⟨h4, h5, h6⟩ := edgesB_spec h1
  refine ⟨n.toNat, by omega, ?_⟩
  have e : ((n.toNat : Nat) : Int) = n := by omega
  exact ⟨by rw [e]; exact h6, by rw [e]; exact h3, by omega, by omega, h5⟩
theorem impl_within_spec (x lo hi : Int) : impl_within (x, lo, hi, ()) = some (decide (lo ≤ x ∧ x ≤ hi), ()) := by
  simp only [impl_within]
  by_cases h : x ≥ lo
  · rw [cond_pos h]; simp [show lo ≤ x from h]
  · rw [cond_neg h]; simp [show ¬ lo ≤ x from h]
theorem spec_l01In_spec (x lo hi : Int) : spec_l01In (x, lo, hi, ()) = some (decide (lo ≤ x ∧ x ≤ hi), ()) := by
  simp only [spec_l01In]
  by_cases h : x ≥ lo
  · rw [cond_pos h]; simp [show lo ≤ x from h]
  · rw [cond_neg h]; simp [show ¬ lo ≤ x from h]
theorem impl_EdgesOk_spec (n : Int) (es : Es) (hb : es.length ≤ 8796093022208) : impl_EdgesOk (n, es, ()) = some (edgesB n es, ()) := by
  simp only [impl_EdgesOk, impl_within_spec, Option.bind_some]
  by_cases h1 : 1 ≤ n ∧ n ≤ 6
  · by_cases h2 : es.length ≤ 12
    · have hl := loop_forall (f := impl_EdgesOk_L58) (fun i => (es, (es.length : Int), i, n, es, ())) (fun e => decide (0 ≤ e.1 ∧ e.1 < e.2 ∧ e.2 < n)) es (false, ()) (true, ()) (fun i a ha => by
        have hi := lt_of_get ha
        simp only [impl_EdgesOk_L58]
        simp (disch := omega) only [cond_pos, chk_pos, w64_of, atD_nat, getD_of ha]
        by_cases a1 : a.1 < 0
        · rw [cond_pos a1, cond_neg (by omega)]; rfl
        · rw [cond_neg a1]
          by_cases a2 : a.1 ≥ a.2
          · rw [cond_pos a2, cond_neg (by omega)]; rfl
          · rw [cond_neg a2]
            by_cases a3 : a.2 ≥ n
            · rw [cond_pos a3, cond_neg (by omega)]; rfl
            · rw [cond_neg a3, cond_pos (by omega)]; rfl) (by
        simp only [impl_EdgesOk_L58]
        simp (disch := omega) only [cond_neg, Option.map_some])
      simp only [edgesB, h1, h2, and_self, decide_true, Bool.not_true, cond_false, joinB_inl, impl_EdgesOk_J12]
      rw [cond_neg (by omega), hl]
      cases es.all fun e => decide (0 ≤ e.1 ∧ e.1 < e.2 ∧ e.2 < n) <;> rfl
    · simp only [edgesB, h1, h2, and_self, decide_true, decide_false, Bool.not_true, cond_false, joinB_inl, impl_EdgesOk_J12]
      rw [cond_pos (by omega)]; rfl
  · simp only [edgesB, h1, decide_false, Bool.not_false, cond_true, joinB_inl, impl_EdgesOk_J12]; rfl
theorem spec_EdgesOk_spec (n : Int) (es : Es) (hb : es.length ≤ 8796093022208) : spec_EdgesOk (n, es, ()) = some (edgesB n es, ()) := by
  simp only [spec_EdgesOk, spec_l01In_spec, Option.bind_some]
  by_cases h1 : 1 ≤ n ∧ n ≤ 6
  · by_cases h2 : es.length ≤ 12
    · have hl := loop_forall (f := spec_EdgesOk_L58) (fun i => (es, (es.length : Int), i, n, es, ())) (fun e => decide (0 ≤ e.1 ∧ e.1 < e.2 ∧ e.2 < n)) es (false, ()) (true, ()) (fun i a ha => by
        have hi := lt_of_get ha
        simp only [spec_EdgesOk_L58, spec_l01In_spec, Option.bind_some]
        simp (disch := omega) only [cond_pos, chk_pos, w64_of, atD_nat, getD_of ha]
        by_cases a1 : 0 ≤ a.1 ∧ a.1 ≤ n - 1
        · rw [decide_eq_true a1]
          simp only [Bool.not_true, cond_false]
          rw [w64_of (by omega) (by omega)]
          by_cases a2 : a.1 + 1 ≤ a.2 ∧ a.2 ≤ n - 1
          · rw [decide_eq_true a2, cond_pos (by omega)]; rfl
          · rw [decide_eq_false a2, cond_neg (by omega)]; rfl
        · rw [decide_eq_false a1, cond_neg (by omega)]; rfl) (by
        simp only [spec_EdgesOk_L58]
        simp (disch := omega) only [cond_neg, Option.map_some])
      simp only [edgesB, h1, h2, and_self, decide_true, Bool.not_true, cond_false, joinB_inl, spec_EdgesOk_J12]
      rw [cond_neg (by omega), hl]
      cases es.all fun e => decide (0 ≤ e.1 ∧ e.1 < e.2 ∧ e.2 < n) <;> rfl
    · simp only [edgesB, h1, h2, and_self, decide_true, decide_false, Bool.not_true, cond_false, joinB_inl, spec_EdgesOk_J12]
      rw [cond_pos (by omega)]; rfl
  · simp only [edgesB, h1, decide_false, Bool.not_false, cond_true, joinB_inl, spec_EdgesOk_J12]; rfl
theorem cmp_Compare_int_spec (a b : Int) : cmp_Compare_int (a, b, ()) = some (if a < b then -1 else if b < a then 1 else 0, ()) := by
  simp only [cmp_Compare_int, cmp_isNaN_int, Option.bind_some, bne_self_eq_false, cond_false]
  by_cases h1 : a < b
  · rw [cond_pos h1, if_pos h1]
  · rw [cond_neg h1, if_neg h1]
    by_cases h2 : b < a
    · rw [cond_pos h2, if_pos h2]
    · rw [cond_neg h2, if_neg h2]
theorem impl_compareEdges_neg (a b : Int × Int) : ∃ c, impl_compareEdges (a.1, a.2, b.1, b.2, ()) = some (c, ()) ∧ decide (c < 0) = ltB a b := by
  simp only [impl_compareEdges, cmp_Compare_int_spec, Option.bind_some]
  by_cases h1 : a.1 < b.1
  · refine ⟨-1, ?_, ?_⟩
    · rw [if_pos h1]; rfl
    · simp [ltB, h1]
  · by_cases h2 : b.1 < a.1
    · refine ⟨1, ?_, ?_⟩
      · rw [if_neg h1, if_pos h2]; rfl
      · have : ¬ a.1 = b.1 := by omega
        simp [ltB, h1, this]
    · have e : a.1 = b.1 := by omega
      refine ⟨if a.2 < b.2 then -1 else if b.2 < a.2 then 1 else 0, ?_, ?_⟩
      · rw [if_neg h1, if_neg h2]; rfl
      · by_cases h3 : a.2 < b.2
        · simp [ltB, h3, e]
        · rw [if_neg h3]
          have : ¬ (if b.2 < a.2 then (1 : Int) else 0) < 0 := by split <;> omega
          simp [ltB, h3, h1, this]
theorem impl_sorted_spec (es : Es) (hb : es.length ≤ 8796093022208) : slices_IsSortedFunc_impl_Edge_impl_Edge (es, ()) = some (sortedB es, ()) := by
  simp only [slices_IsSortedFunc_impl_Edge_impl_Edge]
  rw [w64_of (by omega) (by omega)]
  by_cases h0 : es.length = 0
  · have : es = [] := List.eq_nil_of_length_eq_zero h0
    subst this
    apply loop_out
    simp only [slices_IsSortedFunc_impl_Edge_impl_Edge_L26]
    rfl
  · have e1 : (es.length : Int) - 1 = ((es.length - 1 : Nat) : Int) := by omega
    rw [e1]
    have := loop_downN (f := slices_IsSortedFunc_impl_Edge_impl_Edge_L26) (fun i => (es, i, ())) (fun i => !ltB (es.getD i (0, 0)) (es.getD (i - 1) (0, 0))) (false, ()) (true, ()) (es.length - 1) (fun i hi => by
      simp only [slices_IsSortedFunc_impl_Edge_impl_Edge_L26]
      have e2 : ((i + 1 : Nat) : Int) - 1 = (i : Int) := by omega
      obtain ⟨c, hc, hd⟩ := impl_compareEdges_neg (es.getD (i + 1) (0, 0)) (es.getD i (0, 0))
      simp (disch := omega) only [cond_pos, chk_pos, w64_of, e2, atD_nat, hc, Option.bind_some, hd, Nat.add_sub_cancel]
      cases ltB (es.getD (i + 1) (0, 0)) (es.getD i (0, 0)) <;> rfl) (by
      simp only [slices_IsSortedFunc_impl_Edge_impl_Edge_L26]
      rfl)
    rw [this]
    simp only [sortedB, Nat.add_sub_cancel]
    cases (List.range (es.length - 1)).all fun i => !ltB (es.getD (i + 1) (0, 0)) (es.getD i (0, 0)) <;> rfl
theorem impl_connected_spec (n : Nat) (es : Es) (he : EOk n es) (hn : 0 < n) (h6 : n ≤ 60) (hb : es.length ≤ 8796093022208) : impl_connected ((n : Int), es, ()) = some (connB n es, ()) := by
  have h1 : (1 : Nat) < 2 ^ n := Nat.one_lt_two_pow (by omega)
  have h2 : (2 : Nat) ^ n ≤ 2 ^ 60 := Nat.pow_le_pow_right (by omega) h6
  have inner : ∀ (r k : Nat), r < 2 ^ n → k < n → impl_connected_L58 ((n : Int), es, (r : Int), (n : Int), (k : Int), ()) = some (.inl ((n : Int), es, ((bpass es r : Nat) : Int), (n : Int), ((k + 1 : Nat) : Int), ())) := by
    intro r k hr hk
    simp only [impl_connected_L58]
    rw [cond_pos (by omega)]
    have := loop_fold (f := impl_connected_L7474) (fun (r : Nat) i => ((n : Int), es, (r : Int), (n : Int), (k : Int), es, (es.length : Int), i, ())) bstep (fun i r => r < 2 ^ n) es es.length rfl (fun r => .inl ((n : Int), es, (r : Int), (n : Int), ((k + 1 : Nat) : Int), ())) r hr (fun r i e hi hr => by
      have hlt := lt_of_get hi
      have hok := he e (List.mem_of_getElem? hi)
      refine ⟨?_, bstep_lt hok hr⟩
      have hr62 : r < 2 ^ 62 := by omega
      simp only [impl_connected_L7474]
      simp (disch := omega) only [cond_pos, chk_pos, w64_of, atD_nat, getD_of hi, bit_test r e.1 hr62, bit_test r e.2 hr62, bit_join r e.1 e.2 hr62]
      cases b1 : bset r e.1
      · cases b2 : bset r e.2
        · simp [bstep, b1, b2]
        · simp [bstep, b1, b2]
      · simp [bstep, b1]) (fun r hr => by
      simp only [impl_connected_L7474]
      simp (disch := omega) only [cond_neg, w64_of, Option.map_some]
      rfl)
    rw [this.1]; rfl
  simp only [impl_connected]
  have := loop_count (f := impl_connected_L58) (fun (r : Nat) k => ((n : Int), es, (r : Int), (n : Int), k, ())) (fun _ r => bpass es r) (fun _ r => r < 2 ^ n) n (fun r => (connB n es, ())) 1 h1 (fun r k hk hr => ⟨inner r k hr hk, bpass_lt es r he hr⟩)
  have hfold : ∀ k r, (List.range k).foldl (fun s i => bpass es s) r = iter (bpass es) k r := by
    intro k
    induction k with
    | zero => exact fun r => rfl
    | succ k ih => intro r; rw [List.range_succ, List.foldl_append, ih, iter_succ]; rfl
  -- the end is reached at the last set alone
  have hall := loop_for (f := impl_connected_L58) (fun k => ((n : Int), es, ((iter (bpass es) k 1 : Nat) : Int), (n : Int), (k : Int), ())) n (fun k hk => by
    rw [inner _ k (iter_lt he h1 k) hk, iter_succ])
  have e0 : loopM impl_connected_L58 ((n : Int), es, 1, (n : Int), 0, ()) = loopM impl_connected_L58 ((n : Int), es, ((iter (bpass es) n 1 : Nat) : Int), (n : Int), (n : Int), ()) := hall
  rw [e0]
  apply loop_out
  have hlt := iter_lt he h1 n
  simp only [impl_connected_L58]
  rw [cond_neg (by omega), chk_pos (by omega), ishl_one (n : Int) (by omega) (by omega)]
  rw [Int.toNat_natCast, Nat.one_shiftLeft, w64_of (by omega) (by omega)]
  have e3 : (((iter (bpass es) n 1 : Nat) : Int) == ((2 ^ n : Nat) : Int) - 1) = connB n es := by
    rw [Bool.eq_iff_iff, beq_iff_eq]
    simp only [connB, decide_eq_true_eq]
    rw [← bits_conn he hn]
    omega
  rw [e3]; rfl
theorem impl_GraphOk_spec (n : Int) (es : Es) (hb : es.length ≤ 8796093022208) : impl_GraphOk (n, es, ()) = some (gokB n es, ()) := by
  simp only [impl_GraphOk, impl_EdgesOk_spec n es hb, Option.bind_some, gokB]
  cases h : edgesB n es
  · rfl
  · simp only [cond_true, impl_sorted_spec es hb, Option.bind_some]
    cases h2 : sortedB es
    · rfl
    · obtain ⟨h3, h4, h5⟩ := edgesB_spec h
      obtain ⟨m, rfl⟩ := Int.eq_ofNat_of_zero_le (show 0 ≤ n by omega)
      simp only [cond_true, impl_connected_spec m es h5 (by omega) (by omega) hb, Option.bind_some, Bool.true_and]
end Go.Pm.Try

set_option linter.unusedVariables false
set_option linter.unusedSimpArgs false
namespace Go.Pm.Try
open Go.Pm Go.Pm.Th
theorem all_has (l : List Int) (x : Int) : (l.all fun a => !(a == x)) = !decide (x ∈ l) := by
  rw [Bool.eq_iff_iff]
  simp only [List.all_eq_true, Bool.not_eq_true', beq_eq_false_iff_ne, decide_eq_false_iff_not]
  exact ⟨fun h hx => h x hx rfl, fun h a ha e => h (e ▸ ha)⟩
theorem spec_l02Has_spec (l : List Int) (x : Int) (hb : l.length ≤ 17592186044416) : spec_l02Has (l, x, ()) = some (decide (x ∈ l), ()) := by
  simp only [spec_l02Has]
  have := loop_forall (f := spec_l02Has_L26) (fun i => (x, l, (l.length : Int), i, ())) (fun a => !(a == x)) l (true, ()) (false, ()) (fun i a ha => by
    have hi := lt_of_get ha
    simp only [spec_l02Has_L26]
    simp (disch := omega) only [cond_pos, chk_pos, w64_of, atD_nat, getD_of ha]
    cases a == x <;> rfl) (by
    simp only [spec_l02Has_L26]
    simp (disch := omega) only [cond_neg, Option.map_some])
  rw [this, all_has]
  cases decide (x ∈ l) <;> rfl
theorem get_append {α : Type} {l : List α} {i : Nat} {x : α} (h : l[i]? = some x) (t : List α) : (l ++ t)[i]? = some x := by
  rw [List.getElem?_append_left (lt_of_get h)]; exact h
theorem qadd_get {q : List Int} {i : Nat} {x : Int} (h : q[i]? = some x) (y : Int) : (qadd q y)[i]? = some x := by
  unfold qadd; split
  · exact h
  · exact get_append h _
theorem qadd_len (q : List Int) (y : Int) : (qadd q y).length ≤ q.length + 1 := by
  unfold qadd; split <;> simp
theorem spec_l02Reach_inner (n : Int) (es : Es) (hb : es.length ≤ 1000000000) (q : List Int) (at_ : Nat) (x : Int) (hx : q[at_]? = some x) (hq : q.length ≤ 1000000000) :
    loopM spec_l02Reach_L3730 (q, (at_ : Int), es, (es.length : Int), 0, n, es, ()) = some (.inl (qpass x es q, ((at_ + 1 : Nat) : Int), n, es, ())) := by
  have := loop_fold (f := spec_l02Reach_L3730) (fun q i => (q, (at_ : Int), es, (es.length : Int), i, n, es, ())) (qstep x) (fun i q => q[at_]? = some x ∧ q.length ≤ 1000000000 + 2 * i) es es.length rfl (fun q => .inl (q, ((at_ + 1 : Nat) : Int), n, es, ())) q ⟨hx, by omega⟩ (fun q i e hi ⟨hx, hq⟩ => by
    have hlt := lt_of_get hi
    have hat := lt_of_get hx
    have h1 : (if e.1 = x then qadd q e.2 else q)[at_]? = some x ∧ (if e.1 = x then qadd q e.2 else q).length ≤ q.length + 1 := by
      split
      · exact ⟨qadd_get hx _, qadd_len _ _⟩
      · exact ⟨hx, by omega⟩
    have h2 : (qstep x q e)[at_]? = some x ∧ (qstep x q e).length ≤ q.length + 2 := by
      unfold qstep; dsimp only; split
      · exact ⟨qadd_get h1.1 _, by have := qadd_len (if e.1 = x then qadd q e.2 else q) e.1; omega⟩
      · exact ⟨h1.1, by omega⟩
    refine ⟨?_, h2.1, by omega⟩
    simp only [spec_l02Reach_L3730]
    simp (disch := omega) only [cond_pos, chk_pos, w64_of, atD_nat, getD_of hi, getD_of hx, spec_l02Has_spec q e.2 (by omega), Option.bind_some]
    have step2 : ∀ q1 : List Int, q1[at_]? = some x → q1.length ≤ 2000000000000 → spec_l02Reach_J954981 (q1, (at_ : Int), es, (es.length : Int), (i : Int), n, es, e.1, e.2, ()) = some (.inl (if e.2 = x then qadd q1 e.1 else q1, (at_ : Int), es, (es.length : Int), ((i + 1 : Nat) : Int), n, es, ())) := by
      intro q1 hq1 hl1
      have := lt_of_get hq1
      simp only [spec_l02Reach_J954981]
      simp (disch := omega) only [chk_pos, w64_of, atD_nat, getD_of hq1, spec_l02Has_spec q1 e.1 (by omega), Option.bind_some]
      by_cases a1 : e.2 = x
      · rw [if_pos a1, a1]
        simp only [beq_self_eq_true, cond_true]
        by_cases a2 : e.1 ∈ q1
        · simp [a2, qadd]
        · simp only [a2, decide_false, Bool.not_false, cond_true, List.length_singleton]
          rw [chk_pos (by omega)]
          simp [a2, qadd]
      · rw [if_neg a1]
        have b1 : (e.2 == x) = false := by simpa using a1
        simp [b1]
    by_cases a1 : e.1 = x
    · simp only [a1, beq_self_eq_true, cond_true, joinB_inl, spec_l02Reach_J954980]
      simp only [a1, if_true] at h1
      by_cases a2 : e.2 ∈ q
      · simp only [a2, decide_true, Bool.not_true, cond_false, joinB_inl]
        rw [← a1, step2 q hx (by omega)]
        simp [qstep, a1, qadd, a2]
      · have e1 : qadd q e.2 = q ++ [e.2] := by simp [qadd, a2]
        simp only [a2, decide_false, Bool.not_false, cond_true, List.length_singleton]
        rw [chk_pos (by omega)]
        simp only [joinB_inl]
        rw [← e1, ← a1, step2 (qadd q e.2) h1.1 (by omega)]
        simp [qstep, a1]
    · have e1 : (e.1 == x) = false := by simpa using a1
      simp only [e1, cond_false, joinB_inl, spec_l02Reach_J954980]
      rw [step2 q hx (by omega)]
      simp [qstep, a1]) (fun q _ => by
    simp only [spec_l02Reach_L3730]
    have hat : (at_ : Int) + 1 = ((at_ + 1 : Nat) : Int) := by omega
    have := lt_of_get hx
    simp (disch := omega) only [cond_neg, w64_of, Option.map_some, hat])
  rw [this.1]; rfl
theorem spec_l02Reach_spec (g : Int) (n : Nat) (es : Es) (he : EOk n es) (hn : 0 < n) (h6 : n ≤ 1000) (hb : es.length ≤ 1000000000) : ∃ q, spec_l02Reach (g, es, ()) = some (q, ()) ∧ QInv n es 0 q ∧ QDone es q q.length := by
  have h0 : (0 : Int) ≤ 0 ∧ (0 : Int) < n := by omega
  have key : ∀ (m : Nat) (q : List Int) (at_ : Nat), n - at_ = m → QInv n es 0 q → QDone es q at_ → at_ ≤ q.length → ∃ q', loopM spec_l02Reach_L58 (q, (at_ : Int), g, es, ()) = some (q', ()) ∧ QInv n es 0 q' ∧ QDone es q' q'.length := by
    intro m
    induction m with
    | zero =>
      intro q at_ hm hi hd hle
      have hl := hi.len he h0
      refine ⟨q, ?_, hi, ?_⟩
      · apply loop_out
        simp only [spec_l02Reach_L58]
        simp (disch := omega) only [cond_neg, Option.map_some]
      · intro i hi'; exact hd i (by omega)
    | succ m ih =>
      intro q at_ hm hi hd hle
      have hl := hi.len he h0
      by_cases hlt : at_ < q.length
      · have hx : q[at_]? = some q[at_] := List.getElem?_eq_getElem hlt
        obtain ⟨i1, i2⟩ := qround hi hd hx
        obtain ⟨t, ht⟩ := qpass_pre q[at_] es q
        obtain ⟨q', h1, h2⟩ := ih (qpass q[at_] es q) (at_ + 1) (by omega) i1 i2 (by rw [ht]; simp; omega)
        refine ⟨q', ?_, h2⟩
        rw [← h1]
        apply loop_in
        simp only [spec_l02Reach_L58]
        simp (disch := omega) only [cond_pos, spec_l02Reach_inner g es hb q at_ _ hx (by omega)]
      · refine ⟨q, ?_, hi, ?_⟩
        · apply loop_out
          simp only [spec_l02Reach_L58]
          simp (disch := omega) only [cond_neg, Option.map_some]
        · intro i hi'; exact hd i (by omega)
  simp only [spec_l02Reach]
  exact key n [0] 0 (by omega) ⟨by simp, by simpa using .refl, rfl⟩ (fun i hi => by omega) (by simp)
theorem reach_conn (g : Int) (n : Nat) (es : Es) (he : EOk n es) (hn : 0 < n) (h6 : n ≤ 1000) (hb : es.length ≤ 1000000000) : ∃ q, spec_l02Reach (g, es, ()) = some (q, ()) ∧ ((q.length : Int) == (n : Int)) = connB n es := by
  obtain ⟨q, h1, h2, h3⟩ := spec_l02Reach_spec g n es he hn h6 hb
  refine ⟨q, h1, ?_⟩
  have := queue_conn he hn h2 h3
  rw [Bool.eq_iff_iff, beq_iff_eq]
  simp only [connB, decide_eq_true_eq]
  rw [← this]
  omega
theorem spec_GraphOk_spec (n : Int) (es : Es) (hb : es.length ≤ 8796093022208) : spec_GraphOk (n, es, ()) = some (gokB n es, ()) := by
  simp only [spec_GraphOk, spec_EdgesOk_spec n es hb, Option.bind_some, gokB]
  cases h : edgesB n es
  · rfl
  · simp only [Bool.not_true, cond_false, Bool.true_and]
    obtain ⟨h3, h4, h5⟩ := edgesB_spec h
    obtain ⟨m, rfl⟩ := Int.eq_ofNat_of_zero_le (show 0 ≤ n by omega)
    obtain ⟨q, hq, hc⟩ := reach_conn (m : Int) m es h5 (by omega) (by omega) (by omega)
    have := loop_forallN (f := spec_GraphOk_L58) (fun i => (es, (es.length : Int), i, (m : Int), es, ())) (fun i => decide (i = 0) || !ltB (es.getD i (0, 0)) (es.getD (i - 1) (0, 0))) es.length (false, ()) (connB m es, ()) (fun i hi => by
      simp only [spec_GraphOk_L58]
      by_cases h0 : i = 0
      · subst h0
        simp (disch := omega) only [cond_pos, cond_neg, chk_pos, w64_of]
        rfl
      · have e1 : (i : Int) - 1 = ((i - 1 : Nat) : Int) := by omega
        simp (disch := omega) only [cond_pos, chk_pos, w64_of, e1, atD_nat]
        generalize es.getD i (0, 0) = a
        generalize es.getD (i - 1) (0, 0) = b
        by_cases a1 : a.1 < b.1
        · simp [ltB, a1, h0]
        · rw [cond_neg a1]
          by_cases a2 : a.1 = b.1
          · by_cases a3 : a.2 < b.2
            · simp [ltB, a1, a2, a3, h0]
            · simp [ltB, a1, a2, a3, h0]
          · have b2 : (a.1 == b.1) = false := by simpa using a2
            simp [ltB, a1, a2, b2, h0]) (by
      simp only [spec_GraphOk_L58]
      simp (disch := omega) only [cond_neg, hq, Option.bind_some, hc, Option.map_some])
    rw [this]
    have e2 : ((List.range es.length).all fun i => decide (i = 0) || !ltB (es.getD i (0, 0)) (es.getD (i - 1) (0, 0))) = sortedB es := by
      rw [Bool.eq_iff_iff]
      simp only [sortedB, List.all_eq_true, List.mem_range, Bool.or_eq_true, decide_eq_true_eq]
      constructor
      · intro hh i hi
        rcases hh (i + 1) (by omega) with h' | h'
        · omega
        · simpa using h'
      · intro hh i hi
        by_cases h0 : i = 0
        · exact .inl h0
        · right
          have := hh (i - 1) (by omega)
          rw [show i - 1 + 1 = i by omega] at this
          exact this
    rw [e2]
    cases sortedB es <;> rfl
end Go.Pm.Try

set_option linter.unusedVariables false
set_option linter.unusedSimpArgs false
namespace Go.Pm.Try
open Go.Pm Go.Pm.Th
theorem bne_false_iff (a b : Int) : (a != b) = !decide (a = b) := by
  by_cases h : a = b
  · simp [h]
  · have : (a == b) = false := by simpa using h
    simp [bne, this, h]
theorem beq_dec (a b : Int) : (a == b) = decide (a = b) := by
  by_cases h : a = b
  · simp [h]
  · have : (a == b) = false := by simpa using h
    simp [this, h]
def allInB (l : List Int) (lo hi : Int) : Bool := l.all fun x => decide (lo ≤ x ∧ x ≤ hi)
theorem impl_allWithin_spec (l : List Int) (lo hi : Int) (hb : l.length ≤ 17592186044416) : impl_allWithin (l, lo, hi, ()) = some (allInB l lo hi, ()) := by
  simp only [impl_allWithin]
  have := loop_forall (f := impl_allWithin_L26) (fun i => (lo, hi, l, (l.length : Int), i, ())) (fun x => decide (lo ≤ x ∧ x ≤ hi)) l (false, ()) (true, ()) (fun i a ha => by
    have hi' := lt_of_get ha
    simp only [impl_allWithin_L26, impl_within_spec, Option.bind_some]
    simp (disch := omega) only [cond_pos, chk_pos, w64_of, atD_nat, getD_of ha]
    cases decide (lo ≤ a ∧ a ≤ hi) <;> rfl) (by
    simp only [impl_allWithin_L26]
    simp (disch := omega) only [cond_neg, Option.map_some])
  rw [this]
  show _ = some (allInB l lo hi, ())
  unfold allInB
  cases l.all fun x => decide (lo ≤ x ∧ x ≤ hi) <;> rfl
noncomputable def divOkB (n : Int) (es : Es) (d : List Int) : Bool := gokB n es && (decide ((d.length : Int) = n) && allInB d (-60) 60)
theorem impl_DivisorOk_spec (n : Int) (es : Es) (d : List Int) (hb : es.length ≤ 8796093022208) (hd : d.length ≤ 17592186044416) : impl_DivisorOk (n, es, d, ()) = some (divOkB n es d, ()) := by
  simp only [impl_DivisorOk, impl_GraphOk_spec n es hb, impl_allWithin_spec d _ _ hd, Option.bind_some, divOkB, beq_dec]
  cases gokB n es <;> cases decide ((d.length : Int) = n) <;> rfl
theorem spec_DivisorOk_spec (n : Int) (es : Es) (d : List Int) (hb : es.length ≤ 8796093022208) (hd : d.length ≤ 17592186044416) : spec_DivisorOk (n, es, d, ()) = some (divOkB n es d, ()) := by
  simp only [spec_DivisorOk, spec_GraphOk_spec n es hb, Option.bind_some, divOkB, bne_false_iff]
  have := loop_forall (f := spec_DivisorOk_L58) (fun i => (d, (d.length : Int), i, ())) (fun x => decide (-60 ≤ x ∧ x ≤ 60)) d (false, ()) (true, ()) (fun i a ha => by
    have hi' := lt_of_get ha
    simp only [spec_DivisorOk_L58, spec_l01In_spec, Option.bind_some]
    simp (disch := omega) only [cond_pos, chk_pos, w64_of, atD_nat, getD_of ha]
    cases decide (-60 ≤ a ∧ a ≤ 60) <;> rfl) (by
    simp only [spec_DivisorOk_L58]
    simp (disch := omega) only [cond_neg, Option.map_some])
  cases gokB n es
  · rfl
  · cases decide ((d.length : Int) = n)
    · rfl
    · simp only [Bool.not_true, cond_false, joinB_inl, spec_DivisorOk_J12, this, allInB]
      cases d.all fun x => decide (-60 ≤ x ∧ x ≤ 60) <;> rfl
def effB (d : List Int) : Bool := d.all fun x => decide (0 ≤ x)
theorem impl_IsEffective_spec (d : List Int) (hd : d.length ≤ 17592186044416) : impl_IsEffective (d, ()) = some (effB d, ()) := by
  simp only [impl_IsEffective]
  have := loop_forall (f := impl_IsEffective_L26) (fun i => (d, (d.length : Int), i, ())) (fun x => decide (0 ≤ x)) d (false, ()) (true, ()) (fun i a ha => by
    have hi' := lt_of_get ha
    simp only [impl_IsEffective_L26]
    simp (disch := omega) only [cond_pos, chk_pos, w64_of, atD_nat, getD_of ha]
    by_cases h : a < 0
    · rw [cond_pos h, cond_neg (by omega)]; rfl
    · rw [cond_neg h, cond_pos (by omega)]; rfl) (by
    simp only [impl_IsEffective_L26]
    simp (disch := omega) only [cond_neg, Option.map_some])
  rw [this]; unfold effB
  cases d.all fun x => decide (0 ≤ x) <;> rfl
theorem spec_IsEffective_spec (d : List Int) (hd : d.length ≤ 17592186044416) : spec_IsEffective (d, ()) = some (effB d, ()) := by
  simp only [spec_IsEffective]
  have := loop_forall (f := spec_IsEffective_L26) (fun i => (d, (d.length : Int), i, ())) (fun x => decide (0 ≤ x)) d (false, ()) (true, ()) (fun i a ha => by
    have hi' := lt_of_get ha
    simp only [spec_IsEffective_L26]
    simp (disch := omega) only [cond_pos, chk_pos, w64_of, atD_nat, getD_of ha]
    by_cases h : a < 0
    · rw [cond_pos h, cond_neg (by omega)]; rfl
    · rw [cond_neg h, cond_pos (by omega)]; rfl) (by
    simp only [spec_IsEffective_L26]
    simp (disch := omega) only [cond_neg, Option.map_some])
  rw [this]; unfold effB
  cases d.all fun x => decide (0 ≤ x) <;> rfl
/-- a vertex of a graph with so many vertices -/
def inB (q n : Int) : Bool := decide (0 ≤ q ∧ q < n)
theorem within_vertex {n : Int} (h : 1 ≤ n ∧ n ≤ 6) (q : Int) : decide (0 ≤ q ∧ q ≤ w64 (n - 1)) = inB q n := by
  rw [w64_of (by omega) (by omega), inB]
  exact decide_eq_decide.2 (by omega)
theorem gokB_n {n : Int} {es : Es} (h : gokB n es = true) : (1 ≤ n ∧ n ≤ 6) ∧ es.length ≤ 12 := by
  simp only [gokB, Bool.and_eq_true] at h
  have := edgesB_spec h.1.1
  exact ⟨this.1, this.2.1⟩
noncomputable def pileB (n : Int) (es : Es) (p : List Int) (q : Int) : Bool := divOkB n es p && (inB q n && (effB p && decide (at0 p q = 0)))
theorem divOkB_len {n : Int} {es : Es} {d : List Int} (h : divOkB n es d = true) : gokB n es = true ∧ (d.length : Int) = n ∧ ∀ x ∈ d, -60 ≤ x ∧ x ≤ 60 := by
  simp only [divOkB, Bool.and_eq_true, decide_eq_true_eq, allInB, List.all_eq_true] at h
  exact ⟨h.1, h.2.1, h.2.2⟩
theorem atD_at0 (l : List Int) (v : Int) : atD 0 l v = at0 l v := rfl
theorem impl_PileOk_spec (n : Int) (es : Es) (p : List Int) (q : Int) (hb : es.length ≤ 8796093022208) (hd : p.length ≤ 17592186044416) : impl_PileOk (n, es, p, q, ()) = some (pileB n es p q, ()) := by
  simp only [impl_PileOk, impl_DivisorOk_spec n es p hb hd, impl_within_spec, impl_IsEffective_spec p hd, Option.bind_some, pileB]
  cases h : divOkB n es p
  · rfl
  · obtain ⟨h1, h2, _⟩ := divOkB_len h
    rw [within_vertex (gokB_n h1).1]
    simp only [cond_true, Bool.true_and]
    cases h3 : inB q n
    · rfl
    · have h3 : 0 ≤ q ∧ q < n := by simpa [inB] using h3
      cases effB p
      · rfl
      · simp only [cond_true, Bool.true_and]
        rw [chk_pos (by omega), atD_at0, beq_dec]
theorem spec_PileOk_spec (n : Int) (es : Es) (p : List Int) (q : Int) (hb : es.length ≤ 8796093022208) (hd : p.length ≤ 17592186044416) : spec_PileOk (n, es, p, q, ()) = some (pileB n es p q, ()) := by
  simp only [spec_PileOk, spec_DivisorOk_spec n es p hb hd, spec_l01In_spec, spec_IsEffective_spec p hd, Option.bind_some, pileB]
  cases h : divOkB n es p
  · rfl
  · obtain ⟨h1, h2, _⟩ := divOkB_len h
    rw [within_vertex (gokB_n h1).1]
    simp only [cond_true, Bool.true_and]
    cases h3 : inB q n
    · rfl
    · have h3 : 0 ≤ q ∧ q < n := by simpa [inB] using h3
      cases effB p
      · rfl
      · simp only [cond_true, Bool.true_and]
        rw [chk_pos (by omega), atD_at0, beq_dec]
def incB (t : List Int) : Bool := (List.range (t.length - 1)).all fun i => decide (t.getD i 0 < t.getD (i + 1) 0)
noncomputable def treeB (n : Int) (es : Es) (t : List Int) : Bool := gokB n es && (decide ((t.length : Int) = n - 1) && (allInB t 0 (es.length - 1) && (incB t && connB n (t.map (edge es)))))
theorem atD_edge (es : Es) (k : Int) : atD (0, 0) es k = edge es k := rfl
theorem sub_ok {n : Int} {es : Es} (he : EOk n es) {t : List Int} (ht : ∀ k ∈ t, 0 ≤ k ∧ k < es.length) : EOk n (t.map (edge es)) := by
  intro e hm
  obtain ⟨k, hk, rfl⟩ := List.mem_map.1 hm
  exact he _ (edge_mem (ht k hk))
theorem allInB_spec {l : List Int} {lo hi : Int} (h : allInB l lo hi = true) : ∀ x ∈ l, lo ≤ x ∧ x ≤ hi := by
  simpa [allInB] using h
theorem impl_edgesOf_spec (n : Int) (es : Es) (t : List Int) (ht : ∀ k ∈ t, 0 ≤ k ∧ k < es.length) (hb : t.length ≤ 1000000000) : impl_edgesOf (n, es, t, ()) = some (t.map (edge es), ()) := by
  simp only [impl_edgesOf]
  have := loop_fold (f := impl_edgesOf_L58) (fun (o : Es) i => (o, t, (t.length : Int), i, n, es, ())) (fun o k => o ++ [edge es k]) (fun i o => o.length = i) t t.length rfl (fun o => (o, ())) [] rfl (fun o i k hk ho => by
    have hi := lt_of_get hk
    have hkk := ht k (List.mem_of_getElem? hk)
    refine ⟨?_, by simp [ho]⟩
    simp only [impl_edgesOf_L58]
    simp (disch := omega) only [cond_pos, chk_pos, w64_of, atD_nat, getD_of hk, atD_edge, List.length_singleton, Prod.eta]
    rfl) (fun o ho => by
    simp only [impl_edgesOf_L58]
    simp (disch := omega) only [cond_neg, Option.map_some])
  have hf : ∀ (t : List Int) (o : Es), t.foldl (fun o k => o ++ [edge es k]) o = o ++ t.map (edge es) := by
    intro t
    induction t with
    | nil => simp
    | cons k t ih => intro o; simp [ih]
  have h1 := this.1
  rw [hf] at h1
  simpa using h1
theorem incB_from (t : List Int) : ((List.range t.length).all fun i => decide (i = 0) || decide (t.getD (i - 1) 0 < t.getD i 0)) = incB t := by
  rw [Bool.eq_iff_iff]
  simp only [incB, List.all_eq_true, List.mem_range, Bool.or_eq_true, decide_eq_true_eq]
  constructor
  · intro h i hi
    rcases h (i + 1) (by omega) with h' | h'
    · omega
    · simpa using h'
  · intro h i hi
    by_cases h0 : i = 0
    · exact .inl h0
    · right
      have := h (i - 1) (by omega)
      rwa [show i - 1 + 1 = i by omega] at this
theorem impl_IsTree_spec (n : Int) (es : Es) (t : List Int) (hb : es.length ≤ 8796093022208) (ht : t.length ≤ 1000000000) : impl_IsTree (n, es, t, ()) = some (treeB n es t, ()) := by
  simp only [impl_IsTree, impl_GraphOk_spec n es hb, Option.bind_some, treeB]
  cases h : gokB n es
  · rfl
  · obtain ⟨h1, h2⟩ := gokB_n h
    obtain ⟨m, rfl, g⟩ := gokB_gr h
    simp only [Bool.not_true, cond_false, Bool.true_and]
    simp (disch := omega) only [w64_of, bne_false_iff, impl_allWithin_spec t _ _ (show t.length ≤ 17592186044416 by omega), Option.bind_some]
    by_cases h3 : (t.length : Int) = (m : Int) - 1
    · simp only [h3, decide_true, Bool.not_true, cond_false, joinB_inl, Bool.true_and]
      cases h4 : allInB t 0 ((es.length : Int) - 1)
      · rfl
      · have hk : ∀ k ∈ t, 0 ≤ k ∧ k < (es.length : Int) := fun k hk => by have := allInB_spec h4 k hk; omega
        simp only [impl_IsTree_J12, Bool.not_true, cond_false, Bool.true_and]
        have := loop_forallN (f := impl_IsTree_L58) (fun i => (t, i + 1, (m : Int), es, ())) (fun i => decide (t.getD i 0 < t.getD (i + 1) 0)) (t.length - 1) (false, ()) (connB m (t.map (edge es)), ()) (fun i hi => by
          simp only [impl_IsTree_L58]
          have e1 : (i : Int) + 1 - 1 = (i : Int) := by omega
          have e2 : (i : Int) + 1 = ((i + 1 : Nat) : Int) := by omega
          simp (disch := omega) only [cond_pos, chk_pos, w64_of, e1, atD_nat]
          rw [e2, atD_nat]
          by_cases a : t.getD i 0 ≥ t.getD (i + 1) 0
          · rw [cond_pos a, cond_neg (by omega)]; rfl
          · rw [cond_neg a, cond_pos (by omega)]) (by
          simp only [impl_IsTree_L58]
          have hlen : (t.map (edge es)).length = t.length := by simp
          simp (disch := omega) only [cond_neg, impl_edgesOf_spec (m : Int) es t hk ht, Option.bind_some, impl_connected_spec m (t.map (edge es)) (sub_ok g.ok hk) g.pos (show m ≤ 60 by omega) (show (t.map (edge es)).length ≤ 8796093022208 by omega), Option.map_some])
        have e0 : loopM impl_IsTree_L58 (t, 1, (m : Int), es, ()) = loopM impl_IsTree_L58 (t, 0 + 1, (m : Int), es, ()) := rfl
        rw [e0, this]
        unfold incB
        cases (List.range (t.length - 1)).all fun i => decide (t.getD i 0 < t.getD (i + 1) 0) <;> rfl
    · simp only [h3, decide_false, Bool.not_false, cond_true, joinB_inl, Bool.false_and]
      rfl
theorem spec_l12Joins_spec (m : Nat) (es : Es) (t : List Int) (g : Gr m es) (hk : ∀ k ∈ t, 0 ≤ k ∧ k < (es.length : Int)) (ht : t.length ≤ 100000000) : spec_l12Joins ((m : Int), es, t, ()) = some (connB m (t.map (edge es)), ()) := by
  have hle := g.le
  simp only [spec_l12Joins]
  have hf : ∀ (t : List Int) (o : Es), t.foldl (fun o k => o ++ [edge es k]) o = o ++ t.map (edge es) := by
    intro t
    induction t with
    | nil => simp
    | cons k t ih => intro o; simp [ih]
  obtain ⟨q, hq, hc⟩ := reach_conn (m : Int) m (t.map (edge es)) (sub_ok g.ok hk) g.pos (by omega) (by simp; omega)
  have := loop_for (f := spec_l12Joins_L58) (fun i => (t, (t.length : Int), (i : Int), (m : Int), es, (m : Int), (t.take i).map (edge es), ())) t.length (fun i hi => by
    have hg : t[i]? = some t[i] := List.getElem?_eq_getElem hi
    have hkk := hk t[i] (List.getElem_mem hi)
    have hl : ((t.take i).map (edge es)).length ≤ 100000000 := by simp; omega
    simp only [spec_l12Joins_L58]
    simp (disch := omega) only [cond_pos, chk_pos, w64_of, atD_nat, getD_of hg, atD_edge, List.length_singleton, Prod.eta]
    rw [List.take_succ_eq_append_getElem hi, List.map_append]
    rfl)
  have e0 : loopM spec_l12Joins_L58 (t, (t.length : Int), 0, (m : Int), es, (m : Int), ([] : List (Int × Int)), ()) = loopM spec_l12Joins_L58 (t, (t.length : Int), (t.length : Int), (m : Int), es, (m : Int), (t.take t.length).map (edge es), ()) := this
  rw [e0]
  apply loop_out
  rw [List.take_length]
  simp only [spec_l12Joins_L58]
  simp (disch := omega) only [cond_neg, hq, Option.bind_some, hc, Option.map_some]
theorem spec_IsTree_spec (n : Int) (es : Es) (t : List Int) (hb : es.length ≤ 8796093022208) (ht : t.length ≤ 100000000) : spec_IsTree (n, es, t, ()) = some (treeB n es t, ()) := by
  simp only [spec_IsTree, spec_GraphOk_spec n es hb, Option.bind_some, treeB]
  cases h : gokB n es
  · rfl
  · obtain ⟨h1, h2⟩ := gokB_n h
    obtain ⟨m, rfl, g⟩ := gokB_gr h
    simp only [Bool.not_true, cond_false, Bool.true_and, joinB_inl]
    simp (disch := omega) only [w64_of, bne_false_iff]
    by_cases h3 : (t.length : Int) = (m : Int) - 1
    · simp only [h3, decide_true, Bool.not_true, Bool.true_and, spec_IsTree_J12, cond_false]
      rw [← h3]
      cases h4 : allInB t 0 ((es.length : Int) - 1)
      · -- some index is none: the loop leaves
        have hgen : ∀ (k i : Nat), i + k = t.length → (∃ j, i ≤ j ∧ j < t.length ∧ ¬ (0 ≤ t.getD j 0 ∧ t.getD j 0 ≤ (es.length : Int) - 1)) → loopM spec_IsTree_L58 (t, t, (t.length : Int), (i : Int), (m : Int), es, ()) = some (false, ()) := by
          intro k
          induction k with
          | zero => intro i hi ⟨j, h1, h2, _⟩; omega
          | succ k ih =>
            intro i hi hex
            by_cases a : 0 ≤ t.getD i 0 ∧ t.getD i 0 ≤ (es.length : Int) - 1
            · have hex' : ∃ j, i + 1 ≤ j ∧ j < t.length ∧ ¬ (0 ≤ t.getD j 0 ∧ t.getD j 0 ≤ (es.length : Int) - 1) := by
                obtain ⟨j, j1, j2, j3⟩ := hex
                refine ⟨j, ?_, j2, j3⟩
                have : j ≠ i := by rintro rfl; exact j3 a
                omega
              have ih' := ih (i + 1) (by omega) hex'
              by_cases h0 : i = 0
              · subst h0
                rw [loop_in (s' := (t, t, (t.length : Int), ((0 + 1 : Nat) : Int), (m : Int), es, ()))]
                · exact ih'
                · simp only [spec_IsTree_L58, spec_l01In_spec, Option.bind_some]
                  simp (disch := omega) only [cond_pos, cond_neg, chk_pos, w64_of, atD_nat]
                  rw [decide_eq_true a]
                  rfl
              · have e1 : (i : Int) - 1 = ((i - 1 : Nat) : Int) := by omega
                by_cases b : t.getD i 0 ≤ t.getD (i - 1) 0
                · apply loop_out
                  simp only [spec_IsTree_L58, spec_l01In_spec, Option.bind_some]
                  simp (disch := omega) only [cond_pos, chk_pos, w64_of, atD_nat, e1]
                  rw [decide_eq_true a]; rfl
                · rw [loop_in (s' := (t, t, (t.length : Int), ((i + 1 : Nat) : Int), (m : Int), es, ()))]
                  · exact ih'
                  · simp only [spec_IsTree_L58, spec_l01In_spec, Option.bind_some]
                    simp (disch := omega) only [cond_pos, chk_pos, w64_of, atD_nat, e1]
                    rw [decide_eq_true a]
                    simp only [Bool.not_true, cond_false]
                    rw [cond_neg b]; rfl
            · apply loop_out
              simp only [spec_IsTree_L58, spec_l01In_spec, Option.bind_some]
              simp (disch := omega) only [cond_pos, chk_pos, w64_of, atD_nat]
              rw [decide_eq_false a]; rfl
        have hex : ∃ j, 0 ≤ j ∧ j < t.length ∧ ¬ (0 ≤ t.getD j 0 ∧ t.getD j 0 ≤ (es.length : Int) - 1) := by
          apply Classical.byContradiction
          intro hno
          have : allInB t 0 ((es.length : Int) - 1) = true := by
            simp only [allInB, List.all_eq_true, decide_eq_true_eq]
            intro x hx
            obtain ⟨j, hj, rfl⟩ := List.getElem_of_mem hx
            apply Classical.byContradiction
            intro hbad
            refine hno ⟨j, by omega, hj, ?_⟩
            simpa [List.getD, hj] using hbad
          rw [h4] at this; cases this
        have := hgen t.length 0 (by omega) hex
        simpa using this
      · have hk : ∀ k ∈ t, 0 ≤ k ∧ k < (es.length : Int) := fun k hk => by have := allInB_spec h4 k hk; omega
        simp only [Bool.true_and]
        have := loop_forallN (f := spec_IsTree_L58) (fun i => (t, t, (t.length : Int), i, (m : Int), es, ())) (fun i => decide (i = 0) || decide (t.getD (i - 1) 0 < t.getD i 0)) t.length (false, ()) (connB m (t.map (edge es)), ()) (fun i hi => by
          have hg : t[i]? = some t[i] := List.getElem?_eq_getElem hi
          have hkk := hk t[i] (List.getElem_mem hi)
          have a : 0 ≤ t.getD i 0 ∧ t.getD i 0 ≤ (es.length : Int) - 1 := by rw [getD_of hg]; omega
          simp only [spec_IsTree_L58, spec_l01In_spec, Option.bind_some]
          by_cases h0 : i = 0
          · subst h0
            simp (disch := omega) only [cond_pos, cond_neg, chk_pos, w64_of, atD_nat]
            rw [decide_eq_true a]
            rfl
          · have e1 : (i : Int) - 1 = ((i - 1 : Nat) : Int) := by omega
            simp (disch := omega) only [cond_pos, chk_pos, w64_of, atD_nat, e1]
            rw [decide_eq_true a]
            simp only [Bool.not_true, cond_false]
            by_cases b : t.getD i 0 ≤ t.getD (i - 1) 0
            · rw [cond_pos b]
              have : ¬ t.getD (i - 1) 0 < t.getD i 0 := by omega
              rw [decide_eq_false h0, decide_eq_false this]; rfl
            · rw [cond_neg b]
              have : t.getD (i - 1) 0 < t.getD i 0 := by omega
              rw [decide_eq_false h0, decide_eq_true this]; rfl) (by
          simp only [spec_IsTree_L58]
          simp (disch := omega) only [cond_neg, spec_l12Joins_spec m es t g hk ht, Option.bind_some, Option.map_some])
        rw [this, incB_from]
        cases incB t <;> rfl
    · simp only [h3, decide_false, Bool.not_false, Bool.false_and]
      rfl
end Go.Pm.Try

set_option linter.unusedVariables false
set_option linter.unusedSimpArgs false
namespace Go.Pm.Try
open Go.Pm Go.Pm.Th
def insRev (x : Int) : List Int → List Int
  | [] => [x]
  | y :: l => if x < y then y :: insRev x l else x :: y :: l
def srev (l : List Int) : List Int := l.foldl (fun acc x => insRev x acc) []
/-- insertion sort -/
def sortF (l : List Int) : List Int := (srev l).reverse
theorem insRev_len (x : Int) (l : List Int) : (insRev x l).length = l.length + 1 := by
  induction l with
  | nil => rfl
  | cons y l ih => unfold insRev; split <;> simp [ih]
theorem srev_snoc (l : List Int) (x : Int) : srev (l ++ [x]) = insRev x (srev l) := by simp [srev]
theorem srev_len (l : List Int) : (srev l).length = l.length := by
  have : ∀ (l acc : List Int), (l.foldl (fun acc x => insRev x acc) acc).length = l.length + acc.length := by
    intro l
    induction l with
    | nil => simp
    | cons x l ih => intro acc; simp only [List.foldl_cons, ih, insRev_len, List.length_cons]; omega
  simpa [srev] using this l []
theorem sortF_len (l : List Int) : (sortF l).length = l.length := by simp [sortF, srev_len]
theorem get_mid1 {A : List Int} {y x : Int} {B : List Int} {j : Nat} (h : j = A.length + 1) : ((y :: A).reverse ++ x :: B).getD j 0 = x := by
  subst h
  have : ((y :: A).reverse).length = A.length + 1 := by simp
  rw [List.getD_eq_getElem?_getD, List.getElem?_append_right (by omega), this]; simp
theorem get_mid0 {A : List Int} {y x : Int} {B : List Int} {j : Nat} (h : j = A.length) : ((y :: A).reverse ++ x :: B).getD j 0 = y := by
  subst h; simp
theorem ins_inner (n i : Int) : ∀ (A : List Int) (x : Int) (B : List Int), A.length + B.length ≤ 1000000 → 0 ≤ i → i ≤ 1000000 →
    loopM slices_insertionSortOrdered_int_L402 (0, n, i, (A.length : Int), A.reverse ++ x :: B, ()) = some (.inl (0, n, i + 1, (insRev x A).reverse ++ B, ()))
  | [], x, B, _, hi, hi' => by
    apply loop_out
    simp only [slices_insertionSortOrdered_int_L402, List.length_nil]
    rw [cond_neg (by omega)]
    simp only [joinB_inl, slices_insertionSortOrdered_int_J3216, cond_false]
    simp (disch := omega) only [w64_of, Option.map_some, insRev]
    rfl
  | y :: A, x, B, hA, hi, hi' => by
    have hlen : ((y :: A).reverse ++ x :: B).length = A.length + 1 + (B.length + 1) := by simp; omega
    have hA' : (y :: A).length = A.length + 1 := rfl
    have e1 : (((y :: A).length : Nat) : Int) - 1 = ((A.length : Nat) : Int) := by simp
    have g1 : ((y :: A).reverse ++ x :: B).getD (y :: A).length 0 = x := get_mid1 rfl
    have g0 : ((y :: A).reverse ++ x :: B).getD A.length 0 = y := get_mid0 rfl
    by_cases h : x < y
    · have hset : (((y :: A).reverse ++ x :: B).set (y :: A).length y).set A.length x = A.reverse ++ x :: (y :: B) := by
        have s1 : (y :: A).reverse ++ x :: B = A.reverse ++ (y :: x :: B) := by simp
        rw [s1, List.set_append, if_neg (by simp), List.set_append, if_neg (by simp)]
        simp
      rw [loop_in (s' := (0, n, i, (A.length : Int), A.reverse ++ x :: (y :: B), ()))]
      · rw [ins_inner n i A x (y :: B) (by simp at hA ⊢; omega) hi hi']
        simp [insRev, h]
      · simp only [slices_insertionSortOrdered_int_L402]
        simp (disch := omega) only [cond_pos, chk_pos, w64_of, e1, atD_nat, g1, g0, cmp_Less_int, cmp_isNaN_int, Option.bind_some, bne_self_eq_false, cond_false]
        rw [decide_eq_true h]
        simp only [joinB_inl, slices_insertionSortOrdered_int_J3216, cond_true]
        simp (disch := omega) only [chk_pos, w64_of, e1, List.length_set, atD_nat, g1, g0, Int.toNat_natCast, hset]
    · apply loop_out
      simp only [slices_insertionSortOrdered_int_L402]
      simp (disch := omega) only [cond_pos, chk_pos, w64_of, e1, atD_nat, g1, g0, cmp_Less_int, cmp_isNaN_int, Option.bind_some, bne_self_eq_false, cond_false]
      rw [decide_eq_false h]
      simp only [joinB_inl, slices_insertionSortOrdered_int_J3216, cond_false]
      simp (disch := omega) only [w64_of, Option.map_some]
      simp [insRev, h]
theorem insertionSort_spec (l : List Int) (hl : l.length ≤ 1000) : slices_insertionSortOrdered_int (l, 0, (l.length : Int), ()) = some (sortF l, ()) := by
  simp only [slices_insertionSortOrdered_int]
  rw [w64_of (by omega) (by omega)]
  by_cases h0 : l = []
  · subst h0
    apply loop_out
    simp only [slices_insertionSortOrdered_int_L6]
    rfl
  · have hpos : 0 < l.length := List.length_pos_iff.2 h0
    have key : ∀ (m i : Nat), i + m = l.length → loopM slices_insertionSortOrdered_int_L6 (0, (l.length : Int), (i : Int), (srev (l.take i)).reverse ++ l.drop i, ()) = some (sortF l, ()) := by
      intro m
      induction m with
      | zero =>
        intro i hi
        have : i = l.length := by omega
        subst this
        apply loop_out
        simp only [slices_insertionSortOrdered_int_L6]
        simp (disch := omega) only [cond_neg, Option.map_some, List.take_length, List.drop_length, List.append_nil]
        rfl
      | succ m ih =>
        intro i hi
        have hlt : i < l.length := by omega
        rw [loop_in (s' := (0, (l.length : Int), ((i + 1 : Nat) : Int), (srev (l.take (i + 1))).reverse ++ l.drop (i + 1), ()))]
        · exact ih (i + 1) (by omega)
        · simp only [slices_insertionSortOrdered_int_L6]
          have hsl : (srev (l.take i)).length = i := by rw [srev_len]; simp; omega
          have hd : (l.drop (i + 1)).length ≤ 1000 := by simp; omega
          have := ins_inner (l.length : Int) (i : Int) (srev (l.take i)) l[i] (l.drop (i + 1)) (by omega) (by omega) (by omega)
          rw [hsl] at this
          rw [cond_pos (by omega), List.drop_eq_getElem_cons hlt, this, List.take_succ_eq_append_getElem hlt, srev_snoc]
          rfl
    have := key (l.length - 1) 1 (by omega)
    have e2 : (srev (l.take 1)).reverse ++ l.drop 1 = l := by
      cases l with
      | nil => exact absurd rfl h0
      | cons a l => simp [srev, insRev]
    rw [e2] at this
    exact this
theorem Len_ok (k : Nat) (h : k ≤ 12) : ∃ r, math_bits_Len (IntKind.u64.wrap (k : Int), ()) = some (r, ()) := by
  have : k = 0 ∨ k = 1 ∨ k = 2 ∨ k = 3 ∨ k = 4 ∨ k = 5 ∨ k = 6 ∨ k = 7 ∨ k = 8 ∨ k = 9 ∨ k = 10 ∨ k = 11 ∨ k = 12 := by omega
  rcases this with h | h | h | h | h | h | h | h | h | h | h | h | h <;> subst h
  · exact ⟨0, by kernel_rfl⟩
  · exact ⟨1, by kernel_rfl⟩
  · exact ⟨2, by kernel_rfl⟩
  · exact ⟨2, by kernel_rfl⟩
  · exact ⟨3, by kernel_rfl⟩
  · exact ⟨3, by kernel_rfl⟩
  · exact ⟨3, by kernel_rfl⟩
  · exact ⟨3, by kernel_rfl⟩
  · exact ⟨4, by kernel_rfl⟩
  · exact ⟨4, by kernel_rfl⟩
  · exact ⟨4, by kernel_rfl⟩
  · exact ⟨4, by kernel_rfl⟩
  · exact ⟨4, by kernel_rfl⟩
theorem slices_Sort_spec (l : List Int) (hl : l.length ≤ 12) : slices_Sort_int_int (l, ()) = some (sortF l, ()) := by
  obtain ⟨r, hr⟩ := Len_ok l.length hl
  simp only [slices_Sort_int_int, hr, Option.bind_some]
  have : slices_pdqsortOrdered_int (l, 0, (l.length : Int), r, ()) = some (sortF l, ()) := by
    show slices_pdqsortOrdered_int_step (slices_pdqsortOrdered_int_rec 63) (l, 0, (l.length : Int), r, ()) = _
    simp only [slices_pdqsortOrdered_int_step]
    apply loop_out
    simp only [slices_pdqsortOrdered_int_L14]
    rw [Int.sub_zero, w64_of (by omega) (by omega), cond_pos (by omega), insertionSort_spec l (by omega)]
    rfl
  rw [this]; rfl
theorem l12_inner (t8 : List Int) (t9 t10 : Int) (h0 : 0 ≤ t10) (h1 : t10 ≤ 1000000) (x : Int) : ∀ (A : List Int) (g : Int) (B : List Int), A.length + B.length ≤ 1000000 →
    loopM spec_l12Sorted_L59804 (A.reverse ++ g :: B, x, (A.length : Int), t8, t9, t10, ()) = some (.inl ((insRev x A).reverse ++ B, t8, t9, t10 + 1, ()))
  | [], g, B, hB => by
    apply loop_out
    simp only [spec_l12Sorted_L59804, List.length_nil]
    rw [cond_neg (by omega)]
    simp only [joinB_inl, spec_l12Sorted_J478432, cond_false]
    have hlen : (([] : List Int).reverse ++ g :: B).length = B.length + 1 := by simp
    simp (disch := omega) only [chk_pos, w64_of, Option.map_some]
    rfl
  | y :: A, g, B, hA => by
    have hlen : ((y :: A).reverse ++ g :: B).length = A.length + 1 + (B.length + 1) := by simp; omega
    have hA' : (y :: A).length = A.length + 1 := rfl
    have e1 : (((y :: A).length : Nat) : Int) - 1 = ((A.length : Nat) : Int) := by simp
    have g0 : ((y :: A).reverse ++ g :: B).getD A.length 0 = y := get_mid0 rfl
    have s1 : (y :: A).reverse ++ g :: B = A.reverse ++ (y :: g :: B) := by simp
    by_cases h : x < y
    · have hset : ((y :: A).reverse ++ g :: B).set (y :: A).length y = A.reverse ++ y :: (y :: B) := by
        rw [s1, List.set_append, if_neg (by simp)]
        simp
      rw [loop_in (s' := (A.reverse ++ y :: (y :: B), x, (A.length : Int), t8, t9, t10, ()))]
      · rw [l12_inner t8 t9 t10 h0 h1 x A y (y :: B) (by simp at hA ⊢; omega)]
        simp [insRev, h]
      · simp only [spec_l12Sorted_L59804]
        simp (disch := omega) only [cond_pos, chk_pos, w64_of, e1, atD_nat, g0, joinB_inl, spec_l12Sorted_J478432]
        simp only [Int.toNat_natCast, hset]
    · apply loop_out
      simp only [spec_l12Sorted_L59804]
      simp (disch := omega) only [cond_pos, chk_pos, w64_of, e1, atD_nat, g0, joinB_inl, spec_l12Sorted_J478432, cond_neg]
      have hset : ((y :: A).reverse ++ g :: B).set (y :: A).length x = (y :: A).reverse ++ x :: B := by
        rw [List.set_append, if_neg (by simp)]
        simp
      simp only [Int.toNat_natCast, hset, Option.map_some]
      simp [insRev, h]
theorem spec_l12Sorted_spec (l : List Int) (hl : l.length ≤ 1000) : spec_l12Sorted (l, ()) = some (sortF l, ()) := by
  simp only [spec_l12Sorted]
  have := loop_all (f := spec_l12Sorted_L58) (fun i => ((srev (l.take i)).reverse, l, (l.length : Int), (i : Int), ())) l.length (r := (sortF l, ())) (fun i hi => by
    have hg : l[i]? = some l[i] := List.getElem?_eq_getElem hi
    have hsl : (srev (l.take i)).length = i := by rw [srev_len]; simp; omega
    have hl2 : ((srev (l.take i)).reverse).length = i := by simp [hsl]
    have hl3 : ((srev (l.take i)).reverse ++ [0]).length = i + 1 := by simp [hsl]
    simp only [spec_l12Sorted_L58]
    have e1 : ((((srev (l.take i)).reverse ++ ([0] : List Int)).length : Nat) : Int) - 1 = ((i : Nat) : Int) := by omega
    have hin := l12_inner l (l.length : Int) (i : Int) (by omega) (by omega) l[i] (srev (l.take i)) 0 [] (by simp; omega)
    rw [hsl] at hin
    simp (disch := omega) only [cond_pos, chk_pos, w64_of, e1, atD_nat, getD_of hg, List.length_singleton, hin]
    rw [List.take_succ_eq_append_getElem hi, srev_snoc]
    simp) (by
    simp only [spec_l12Sorted_L58]
    simp (disch := omega) only [cond_neg, List.take_length, Option.map_some]
    rfl)
  simpa [srev] using this
theorem slices_Contains_spec (l : List Int) (x : Int) (hb : l.length ≤ 17592186044416) : slices_Contains_int_int (l, x, ()) = some (decide (x ∈ l), ()) := by
  have key : ∀ (k i : Nat), i + k = l.length → ∃ r, loopM slices_Index_int_int_L26 (l, x, (l.length : Int), (i : Int), ()) = some (r, ()) ∧ decide (r ≥ 0) = decide (x ∈ l.drop i) := by
    intro k
    induction k with
    | zero =>
      intro i hi
      refine ⟨-1, ?_, ?_⟩
      · apply loop_out
        simp only [slices_Index_int_int_L26]
        simp (disch := omega) only [cond_neg, Option.map_some]
      · rw [List.drop_eq_nil_of_le (by omega)]; simp
    | succ k ih =>
      intro i hi
      have hlt : i < l.length := by omega
      have hg : l[i]? = some l[i] := List.getElem?_eq_getElem hlt
      by_cases e : x = l[i]
      · refine ⟨i, ?_, ?_⟩
        · apply loop_out
          simp only [slices_Index_int_int_L26]
          simp (disch := omega) only [cond_pos, chk_pos, atD_nat, getD_of hg]
          rw [← e]; simp
        · rw [List.drop_eq_getElem_cons hlt, ← e]; simp
      · obtain ⟨r, h1, h2⟩ := ih (i + 1) (by omega)
        refine ⟨r, ?_, ?_⟩
        · rw [← h1]
          apply loop_in
          simp only [slices_Index_int_int_L26]
          simp (disch := omega) only [cond_pos, chk_pos, w64_of, atD_nat, getD_of hg]
          have : (x == l[i]) = false := by simpa using e
          rw [this]; rfl
        · rw [h2, List.drop_eq_getElem_cons hlt]
          exact decide_eq_decide.2 (by rw [List.mem_cons]; exact ⟨.inr, fun h => h.resolve_left e⟩)
  obtain ⟨r, h1, h2⟩ := key l.length 0 (by omega)
  simp only [slices_Contains_int_int, slices_Index_int_int]
  have h1 : loopM slices_Index_int_int_L26 (l, x, (l.length : Int), 0, ()) = some (r, ()) := h1
  rw [h1]
  simp only [Option.bind_some, h2]
  simp
end Go.Pm.Try

set_option linter.unusedVariables false
set_option linter.unusedSimpArgs false
namespace Go.Pm.Try
open Go.Pm Go.Pm.Th
theorem small_edge {n : Nat} {es : Es} (g : Gr n es) {k : Int} (hk : 0 ≤ k ∧ k < es.length) : 0 ≤ (edge es k).1 ∧ (edge es k).1 < (edge es k).2 ∧ (edge es k).2 < n ∧ n ≤ 6 := by
  have := g.ok _ (edge_mem hk)
  exact ⟨this.1, this.2.1, this.2.2, g.le⟩
theorem impl_isAt_spec (n : Int) (es : Es) (k v : Int) (hl : 1 ≤ es.length) (hb : es.length ≤ 8796093022208) : impl_isAt (n, es, k, v, ()) = some (isAtB es k v, ()) := by
  simp only [impl_isAt, impl_within_spec, Option.bind_some]
  simp (disch := omega) only [w64_of]
  unfold isAtB atE
  by_cases h : 0 ≤ k ∧ k ≤ (es.length : Int) - 1
  · rw [decide_eq_true h, decide_eq_true (show 0 ≤ k ∧ k < (es.length : Int) by omega)]
    simp (disch := omega) only [cond_true, chk_pos, atD_edge, beq_dec, Bool.true_and]
    cases decide ((edge es k).1 = v) <;> rfl
  · rw [decide_eq_false h, decide_eq_false (show ¬ (0 ≤ k ∧ k < (es.length : Int)) by omega)]
    rfl
theorem impl_isAt_nil (n : Int) (k v : Int) : impl_isAt (n, [], k, v, ()) = some (isAtB [] k v, ()) := by
  simp only [impl_isAt, impl_within_spec, Option.bind_some]
  have : ¬ (0 ≤ k ∧ k ≤ w64 ((([] : List (Int × Int)).length : Int) - 1)) := by
    have e : w64 ((([] : List (Int × Int)).length : Int) - 1) = -1 := rfl
    rw [e]; omega
  rw [decide_eq_false this]
  have e2 : isAtB [] k v = false := by
    unfold isAtB
    rw [decide_eq_false (by show ¬ (0 ≤ k ∧ k < (0 : Int)); omega)]; rfl
  rw [e2]; rfl
theorem impl_isAt_any (n : Int) (es : Es) (k v : Int) (hb : es.length ≤ 8796093022208) : impl_isAt (n, es, k, v, ()) = some (isAtB es k v, ()) := by
  by_cases h : es = []
  · subst h; exact impl_isAt_nil n k v
  · exact impl_isAt_spec n es k v (List.length_pos_iff.2 h) hb
theorem impl_across_spec {n : Nat} {es : Es} (g : Gr n es) (m : Int) {k v : Int} (hk : 0 ≤ k ∧ k < es.length) (hv : 0 ≤ v ∧ v < n) : impl_across (m, es, k, v, ()) = some (other es k v, ()) := by
  have := small_edge g hk
  simp only [impl_across]
  simp (disch := omega) only [chk_pos, atD_edge, w64_of]
  rfl
theorem spec_l15Other_spec {n : Nat} {es : Es} (g : Gr n es) {k v : Int} (hk : 0 ≤ k ∧ k < es.length) (hv : 0 ≤ v ∧ v < n) : spec_l15Other ((edge es k).1, (edge es k).2, v, ()) = some (other es k v, ()) := by
  have := small_edge g hk
  simp only [spec_l15Other]
  simp (disch := omega) only [w64_of]
  rfl
theorem impl_State_inner {n : Nat} {es : Es} (g : Gr n es) (N : Int) (t : List Int) (ht : ∀ k ∈ t, 0 ≤ k ∧ k < (es.length : Int)) (hb : t.length ≤ 2000000) (s : OQ) (hs : SInv n s) (i : Nat) (x : Int) (hx : s.2[i]? = some x) :
    loopM impl_StateOfTree_L32402 (t, s.1, s.2, (i : Int), t, (t.length : Int), 0, N, es, ()) = some (.inl (t, (stPass es t x s).1, (stPass es t x s).2, ((i + 1 : Nat) : Int), N, es, ())) := by
  have hle := g.le
  have hil := lt_of_get hx
  have hq := hs.qlen
  have := loop_fold (f := impl_StateOfTree_L32402) (fun (s : OQ) j => (t, s.1, s.2, (i : Int), t, (t.length : Int), j, N, es, ())) (stT es x) (fun j s => SInv n s ∧ s.2[i]? = some x) t t.length rfl (fun s => .inl (t, s.1, s.2, ((i + 1 : Nat) : Int), N, es, ())) s ⟨hs, hx⟩ (fun s j k hk ⟨hs, hx⟩ => by
    have hj := lt_of_get hk
    have hkk := ht k (List.mem_of_getElem? hk)
    have hil := lt_of_get hx
    have hq := hs.qlen
    have hl := hs.len
    have hxv := hs.val x (List.mem_of_getElem? hx)
    refine ⟨?_, stT_inv g.ok hkk hs, ?_⟩
    · simp only [impl_StateOfTree_L32402]
      simp (disch := omega) only [cond_pos, chk_pos, atD_nat, getD_of hk, getD_of hx, impl_isAt_any N es k x (show es.length ≤ 8796093022208 by have := g.len; omega), Option.bind_some]
      unfold stT
      cases ha : atE es k x
      · have : isAtB es k x = false := by simp [isAtB, ha]
        rw [this]
        simp (disch := omega) only [Bool.not_false, cond_true, w64_of]
        simp
      · have hat : isAtB es k x = true := by simp [isAtB, ha]; omega
        have ho := other_in g.ok hkk ha
        rw [hat]
        simp (disch := omega) only [Bool.not_true, cond_false, impl_across_spec g N hkk hxv, Option.bind_some, slices_Contains_spec s.2 (other es k x) (show s.2.length ≤ 17592186044416 by omega)]
        by_cases hm : other es k x ∈ s.2
        · rw [decide_eq_true hm]
          simp (disch := omega) only [Bool.not_true, cond_false, w64_of]
          simp [hm]
        · rw [decide_eq_false hm]
          simp (disch := omega) only [Bool.not_false, cond_true, chk_pos, w64_of, List.length_singleton]
          simp [hm]
    · obtain ⟨u, hu⟩ := stT_pre es x s k
      rw [hu]; exact get_append hx u) (fun s ⟨hs, hx⟩ => by
    simp only [impl_StateOfTree_L32402]
    have e1 : (i : Int) + 1 = ((i + 1 : Nat) : Int) := by omega
    simp (disch := omega) only [cond_neg, w64_of, Option.map_some, e1])
  rw [this.1]; rfl
theorem impl_State_run {n : Nat} {es : Es} (g : Gr n es) (N : Int) (t : List Int) (ht : ∀ k ∈ t, 0 ≤ k ∧ k < (es.length : Int)) (hb : t.length ≤ 2000000) : ∀ (f i : Nat) (s : OQ), n ≤ i + f → SInv n s →
    loopM impl_StateOfTree_L506 (t, s.1, s.2, (i : Int), N, es, ()) = some ((stRun es t f i s).1, true, ())
  | 0, i, s, hf, hs => by
    have := hs.qlen
    have hle := g.le
    apply loop_out
    simp only [impl_StateOfTree_L506]
    rw [cond_neg (by omega)]; rfl
  | f + 1, i, s, hf, hs => by
    have hq := hs.qlen
    have hle := g.le
    unfold stRun
    split
    · rename_i hn
      have : s.2.length ≤ i := List.getElem?_eq_none_iff.1 hn
      apply loop_out
      simp only [impl_StateOfTree_L506]
      rw [cond_neg (by omega)]; rfl
    · rename_i x hx
      have hil := lt_of_get hx
      rw [loop_in (s' := (t, (stPass es t x s).1, (stPass es t x s).2, ((i + 1 : Nat) : Int), N, es, ()))]
      · exact impl_State_run g N t ht hb f (i + 1) _ (by omega) (stPass_inv g.ok t ht hs)
      · simp only [impl_StateOfTree_L506]
        rw [cond_pos (by omega)]
        exact impl_State_inner g N t ht hb s hs i x hx
theorem spec_State_inner {n : Nat} {es : Es} (g : Gr n es) (N : Int) (t : List Int) (ht : ∀ k ∈ t, 0 ≤ k ∧ k < (es.length : Int)) (hb : t.length ≤ 2000000) (s : OQ) (hs : SInv n s) (i : Nat) (x : Int) (hx : s.2[i]? = some x) :
    loopM spec_l15State_L16018 (t, s.1, s.2, (i : Int), t, (t.length : Int), 0, N, es, ()) = some (.inl (t, (stPass es t x s).1, (stPass es t x s).2, ((i + 1 : Nat) : Int), N, es, ())) := by
  have hle := g.le
  have hil := lt_of_get hx
  have hq := hs.qlen
  have := loop_fold (f := spec_l15State_L16018) (fun (s : OQ) j => (t, s.1, s.2, (i : Int), t, (t.length : Int), j, N, es, ())) (stT es x) (fun j s => SInv n s ∧ s.2[i]? = some x) t t.length rfl (fun s => .inl (t, s.1, s.2, ((i + 1 : Nat) : Int), N, es, ())) s ⟨hs, hx⟩ (fun s j k hk ⟨hs, hx⟩ => by
    have hj := lt_of_get hk
    have hkk := ht k (List.mem_of_getElem? hk)
    have hil := lt_of_get hx
    have hq := hs.qlen
    have hl := hs.len
    have hxv := hs.val x (List.mem_of_getElem? hx)
    refine ⟨?_, stT_inv g.ok hkk hs, ?_⟩
    · simp only [spec_l15State_L16018]
      simp (disch := omega) only [cond_pos, chk_pos, atD_nat, getD_of hk, getD_of hx, atD_edge, bne_false_iff]
      have fin : ∀ b : Bool, b = !atE es k x → spec_l15State_J8201420 (t, s.1, s.2, (i : Int), k, t, (t.length : Int), (j : Int), b, N, es, (edge es k).1, (edge es k).2, ()) = some (.inl (t, (stT es x s k).1, (stT es x s k).2, (i : Int), t, (t.length : Int), ((j + 1 : Nat) : Int), N, es, ())) := by
        intro b hb'
        simp only [spec_l15State_J8201420, stT]
        cases ha : atE es k x
        · rw [hb', ha]
          simp (disch := omega) only [Bool.not_false, cond_true, w64_of]
          simp
        · have ho := other_in g.ok hkk ha
          rw [hb', ha]
          simp (disch := omega) only [Bool.not_true, cond_false, chk_pos, atD_nat, getD_of hx, spec_l15Other_spec g hkk hxv, Option.bind_some, spec_l02Has_spec s.2 (other es k x) (show s.2.length ≤ 17592186044416 by omega)]
          by_cases hm : other es k x ∈ s.2
          · rw [decide_eq_true hm]
            simp (disch := omega) only [Bool.not_true, cond_false, w64_of]
            simp [hm]
          · rw [decide_eq_false hm]
            simp (disch := omega) only [Bool.not_false, cond_true, chk_pos, w64_of, List.length_singleton]
            simp [hm]
      by_cases h1 : (edge es k).1 = x
      · rw [decide_eq_true h1]
        simp only [Bool.not_true, cond_false, joinB_inl]
        exact fin _ (by simp [atE, h1])
      · rw [decide_eq_false h1]
        simp only [Bool.not_false, cond_true, joinB_inl]
        exact fin _ (by simp [atE, h1])
    · obtain ⟨u, hu⟩ := stT_pre es x s k
      rw [hu]; exact get_append hx u) (fun s ⟨hs, hx⟩ => by
    simp only [spec_l15State_L16018]
    have e1 : (i : Int) + 1 = ((i + 1 : Nat) : Int) := by omega
    simp (disch := omega) only [cond_neg, w64_of, Option.map_some, e1])
  rw [this.1]; rfl
theorem spec_State_run {n : Nat} {es : Es} (g : Gr n es) (N : Int) (t : List Int) (ht : ∀ k ∈ t, 0 ≤ k ∧ k < (es.length : Int)) (hb : t.length ≤ 2000000) : ∀ (f i : Nat) (s : OQ), n ≤ i + f → SInv n s →
    loopM spec_l15State_L250 (t, s.1, s.2, (i : Int), N, es, ()) = some ((stRun es t f i s).1, ())
  | 0, i, s, hf, hs => by
    have := hs.qlen
    have hle := g.le
    apply loop_out
    simp only [spec_l15State_L250]
    rw [cond_neg (by omega)]; rfl
  | f + 1, i, s, hf, hs => by
    have hq := hs.qlen
    have hle := g.le
    unfold stRun
    split
    · rename_i hn
      have : s.2.length ≤ i := List.getElem?_eq_none_iff.1 hn
      apply loop_out
      simp only [spec_l15State_L250]
      rw [cond_neg (by omega)]; rfl
    · rename_i x hx
      have hil := lt_of_get hx
      rw [loop_in (s' := (t, (stPass es t x s).1, (stPass es t x s).2, ((i + 1 : Nat) : Int), N, es, ()))]
      · exact spec_State_run g N t ht hb f (i + 1) _ (by omega) (stPass_inv g.ok t ht hs)
      · simp only [spec_l15State_L250]
        rw [cond_pos (by omega)]
        exact spec_State_inner g N t ht hb s hs i x hx
theorem treeB_spec {n : Int} {es : Es} {t : List Int} (h : treeB n es t = true) : gokB n es = true ∧ (t.length : Int) = n - 1 ∧ (∀ k ∈ t, 0 ≤ k ∧ k < (es.length : Int)) ∧ incB t = true ∧ connB n (t.map (edge es)) = true := by
  simp only [treeB, Bool.and_eq_true, decide_eq_true_eq] at h
  refine ⟨h.1, h.2.1, fun k hk => ?_, h.2.2.2.1, h.2.2.2.2⟩
  have := allInB_spec h.2.2.1 k hk
  omega
theorem impl_minus_ones (n : Nat) (t : List Int) (q N : Int) (es : Es) (hn : n ≤ 1000) : loopM impl_StateOfTree_L122 (t, q, List.replicate n 0, ((List.replicate n (0 : Int)).length : Int), 0, N, es, ()) = some (.inl (t, q, List.replicate n (-1), N, es, ())) := by
  have := loop_all (f := impl_StateOfTree_L122) (fun i => (t, q, List.replicate i (-1) ++ List.replicate (n - i) 0, (n : Int), (i : Int), N, es, ())) n (r := .inl (t, q, List.replicate n (-1), N, es, ())) (fun i hi => by
    have hl : (List.replicate i (-1 : Int) ++ List.replicate (n - i) 0).length = n := by simp; omega
    have hset : (List.replicate i (-1 : Int) ++ List.replicate (n - i) 0).set i (-1) = List.replicate (i + 1) (-1) ++ List.replicate (n - (i + 1)) 0 := by
      rw [List.set_append, if_neg (by simp), show n - i = (n - (i + 1)) + 1 by omega, List.length_replicate, Nat.sub_self, List.replicate_succ (n := n - (i + 1)), List.set_cons_zero, List.replicate_succ' (n := i), List.append_assoc]
      rfl
    simp only [impl_StateOfTree_L122]
    simp (disch := omega) only [cond_pos, chk_pos, w64_of, Int.toNat_natCast, hset]
    rfl) (by
    simp only [impl_StateOfTree_L122]
    simp (disch := omega) only [cond_neg, Option.map_some, Nat.sub_self]
    simp)
  simpa using this
theorem impl_StateOfTree_spec (n : Int) (es : Es) (t : List Int) (q : Int) (hb : es.length ≤ 8796093022208) (ht : t.length ≤ 2000000) :
    impl_StateOfTree (n, es, t, q, ()) = some (if treeB n es t && inB q n then stateF n.toNat es t q else [], treeB n es t && inB q n, ()) := by
  simp only [impl_StateOfTree, impl_IsTree_spec n es t hb (by omega), impl_within_spec, Option.bind_some]
  cases h : treeB n es t
  · rfl
  · obtain ⟨h1, h2, h3, _⟩ := treeB_spec h
    obtain ⟨hn, hl⟩ := gokB_n h1
    obtain ⟨m, rfl, g⟩ := gokB_gr h1
    rw [within_vertex hn]
    simp only [Bool.not_true, cond_false, joinB_inl, impl_StateOfTree_J12]
    cases hq : inB q m
    · rfl
    · have hq : 0 ≤ q ∧ q < m := by simpa [inB] using hq
      simp only [Bool.not_true, cond_false, Int.toNat_natCast]
      rw [chk_pos (show True ∧ (0 : Int) ≤ m ∧ (m : Int) ≤ 17592186044416 from ⟨trivial, by omega, by omega⟩), impl_minus_ones m t q (m : Int) es (by omega)]
      simp only [joinB_inl, impl_StateOfTree_J61]
      have := impl_State_run g (m : Int) t h3 ht m 0 (List.replicate m (-1), [q]) (by omega) (SInv.start hq)
      exact this
theorem spec_StateOfTree_spec (n : Int) (es : Es) (t : List Int) (q : Int) (hb : es.length ≤ 8796093022208) (ht : t.length ≤ 2000000) :
    spec_StateOfTree (n, es, t, q, ()) = some (if treeB n es t && inB q n then stateF n.toNat es t q else [], treeB n es t && inB q n, ()) := by
  simp only [spec_StateOfTree, spec_IsTree_spec n es t hb (by omega), spec_l01In_spec, Option.bind_some]
  cases h : treeB n es t
  · rfl
  · obtain ⟨h1, h2, h3, _⟩ := treeB_spec h
    obtain ⟨hn, hl⟩ := gokB_n h1
    obtain ⟨m, rfl, g⟩ := gokB_gr h1
    rw [within_vertex hn]
    simp only [Bool.not_true, cond_false]
    cases hq : inB q m
    · rfl
    · have hq : 0 ≤ q ∧ q < m := by simpa [inB] using hq
      have hst : spec_l15State ((m : Int), es, t, q, ()) = some (stateF m es t q, ()) := by
        simp only [spec_l15State]
        have := loop_all (f := spec_l15State_L58) (fun i => (t, q, List.replicate i (-1), (i : Int), (m : Int), es, ())) m (r := .inl (t, q, List.replicate m (-1), (m : Int), es, ())) (fun i hi => by
          simp only [spec_l15State_L58]
          have hlr : (List.replicate i (-1 : Int)).length = i := by simp
          simp (disch := omega) only [cond_pos, chk_pos, w64_of, List.length_singleton]
          rw [show List.replicate i (-1 : Int) ++ [-1] = List.replicate (i + 1) (-1) by simp [List.replicate_succ']]
          rfl) (by
          simp only [spec_l15State_L58]
          simp (disch := omega) only [cond_neg, Option.map_some])
        have e0 : loopM spec_l15State_L58 (t, q, ([] : List Int), 0, (m : Int), es, ()) = some (.inl (t, q, List.replicate m (-1), (m : Int), es, ())) := this
        rw [e0]
        simp only [joinB_inl, spec_l15State_J29]
        exact spec_State_run g (m : Int) t h3 ht m 0 (List.replicate m (-1), [q]) (by omega) (SInv.start hq)
      rw [hst]
      simp only [Bool.not_true, cond_false, Option.bind_some, Bool.and_self, if_true, Int.toNat_natCast]
end Go.Pm.Try

set_option linter.unusedVariables false
set_option linter.unusedSimpArgs false
namespace Go.Pm.Try
open Go.Pm Go.Pm.Th
noncomputable def rotB (n : Int) (es : Es) (r : List Int) (q : Int) : Bool :=
  gokB n es && (inB q n && (decide ((r.length : Int) = n) && (decide (at0 r q = -1) && (List.range r.length).all fun (v : Nat) => decide ((v : Int) = q) || isAtB es (r.getD v 0) v)))
theorem impl_isVertex_spec (n : Int) (es : Es) (v : Int) (hb : es.length ≤ 8796093022208) : impl_isVertex (n, es, v, ()) = some (gokB n es && inB v n, ()) := by
  simp only [impl_isVertex, impl_GraphOk_spec n es hb, impl_within_spec, Option.bind_some]
  cases h : gokB n es
  · rfl
  · rw [within_vertex (gokB_n h).1]; rfl
theorem inB_iff {q n : Int} : inB q n = true ↔ 0 ≤ q ∧ q < n := by simp [inB]
theorem impl_RotorsOk_spec (n : Int) (es : Es) (r : List Int) (q : Int) (hb : es.length ≤ 8796093022208) (hr : r.length ≤ 1000000) : impl_RotorsOk (n, es, r, q, ()) = some (rotB n es r q, ()) := by
  simp only [impl_RotorsOk, impl_isVertex_spec n es q hb, Option.bind_some, rotB, bne_false_iff]
  cases h : gokB n es
  · rfl
  · cases hq : inB q n
    · rfl
    · have hq := inB_iff.1 hq
      by_cases hl : (r.length : Int) = n
      · simp only [hl, decide_true, Bool.not_true, cond_false, Bool.true_and, Bool.and_self]
        rw [chk_pos (by omega), atD_at0]
        cases decide (at0 r q = -1)
        · rfl
        · simp only [joinB_inl, impl_RotorsOk_J12, Bool.not_true, cond_false, Bool.true_and]
          have := loop_forallN (f := impl_RotorsOk_L58) (fun i => (q, r, (r.length : Int), i, n, es, ())) (fun v => decide ((v : Int) = q) || isAtB es (r.getD v 0) v) r.length (false, ()) (true, ()) (fun i hi => by
            simp only [impl_RotorsOk_L58]
            simp (disch := omega) only [cond_pos, chk_pos, w64_of, atD_nat, bne_false_iff, impl_isAt_any n es _ _ hb, Option.bind_some]
            cases decide ((i : Int) = q)
            · cases isAtB es (r.getD i 0) i <;> rfl
            · rfl) (by
            simp only [impl_RotorsOk_L58]
            simp (disch := omega) only [cond_neg, Option.map_some])
          rw [this]
          cases (List.range r.length).all fun (v : Nat) => decide ((v : Int) = q) || isAtB es (r.getD v 0) v <;> rfl
      · simp only [hl, decide_false, Bool.not_false, cond_true, Bool.false_and]
        rfl
theorem spec_RotorsOk_spec (n : Int) (es : Es) (r : List Int) (q : Int) (hb : es.length ≤ 8796093022208) (hr : r.length ≤ 1000000) : spec_RotorsOk (n, es, r, q, ()) = some (rotB n es r q, ()) := by
  simp only [spec_RotorsOk, spec_GraphOk_spec n es hb, spec_l01In_spec, Option.bind_some, rotB, bne_false_iff]
  cases h : gokB n es
  · rfl
  · rw [within_vertex (gokB_n h).1]
    have hg := gokB_n h
    cases hq : inB q n
    · rfl
    · have hq := inB_iff.1 hq
      by_cases hl : (r.length : Int) = n
      · simp only [hl, decide_true, Bool.not_true, cond_false, Bool.true_and, Bool.and_self]
        rw [chk_pos (by omega), atD_at0]
        cases decide (at0 r q = -1)
        · rfl
        · simp only [joinB_inl, spec_RotorsOk_J12, Bool.not_true, cond_false, Bool.true_and]
          have := loop_forallN (f := spec_RotorsOk_L58) (fun i => (q, r, (r.length : Int), i, n, es, ())) (fun v => decide ((v : Int) = q) || isAtB es (r.getD v 0) v) r.length (false, ()) (true, ()) (fun i hi => by
            simp only [spec_RotorsOk_L58, spec_l01In_spec, Option.bind_some]
            simp (disch := omega) only [cond_pos, chk_pos, w64_of, atD_nat, bne_false_iff]
            cases decide ((i : Int) = q)
            · simp only [Bool.not_false, cond_true, Bool.false_or]
              generalize r.getD i 0 = k
              by_cases hk : 0 ≤ k ∧ k ≤ (es.length : Int) - 1
              · rw [decide_eq_true hk]
                have hk' : 0 ≤ k ∧ k < (es.length : Int) := by omega
                simp (disch := omega) only [Bool.not_true, cond_false, chk_pos, atD_edge, bne_false_iff, isAtB, decide_eq_true hk', Bool.true_and, atE]
                by_cases c1 : (edge es k).1 = (i : Int) <;> by_cases c2 : (edge es k).2 = (i : Int) <;> simp [c1, c2]
              · rw [decide_eq_false hk]
                simp only [isAtB, decide_eq_false (show ¬ (0 ≤ k ∧ k < (es.length : Int)) by omega), Bool.false_and]
                rfl
            · rfl) (by
            simp only [spec_RotorsOk_L58]
            simp (disch := omega) only [cond_neg, Option.map_some])
          rw [this]
          cases (List.range r.length).all fun (v : Nat) => decide ((v : Int) = q) || isAtB es (r.getD v 0) v <;> rfl
      · simp only [hl, decide_false, Bool.not_false, cond_true, Bool.false_and]
        rfl
theorem rotB_inv {n : Nat} {es : Es} {r : List Int} {q : Int} (h : rotB n es r q = true) : gokB n es = true ∧ (0 ≤ q ∧ q < n) ∧ at0 r q = -1 ∧ RInv n es q r := by
  simp only [rotB, Bool.and_eq_true, decide_eq_true_eq, List.all_eq_true, List.mem_range, Bool.or_eq_true] at h
  obtain ⟨h1, h2, h3, h4, h5⟩ := h
  refine ⟨h1, inB_iff.1 h2, h4, by omega, fun v a b c => ?_⟩
  rcases h5 v.toNat (by omega) with h' | h'
  · omega
  · have e : ((v.toNat : Nat) : Int) = v := by omega
    rw [e] at h'
    exact h'
theorem rotB_of {n : Nat} {es : Es} {r : List Int} {q : Int} (hg : gokB n es = true) (hq : 0 ≤ q ∧ q < n) (h0 : at0 r q = -1) (h : RInv n es q r) : rotB n es r q = true := by
  simp only [rotB, Bool.and_eq_true, decide_eq_true_eq, List.all_eq_true, List.mem_range, Bool.or_eq_true]
  refine ⟨hg, inB_iff.2 hq, by rw [h.len], h0, fun v hv => ?_⟩
  by_cases e : (v : Int) = q
  · exact .inl e
  · right
    have := h.rot v (by omega) (by rw [h.len] at hv; omega) e
    rwa [at0_nat] at this
theorem tmod_nonneg {a b : Int} (ha : 0 ≤ a) : a.tmod b = a % b := Int.tmod_eq_emod_of_nonneg ha
theorem next_find {es : Es} {v idx : Int} (h : isAtB es idx v = true) : ∃ j : Nat, j < es.length ∧ atE es ((idx + 1 + j) % es.length) v = true ∧ (∀ i : Nat, i < j → atE es ((idx + 1 + i) % es.length) v = false) ∧ nextF es v idx = (idx + 1 + j) % es.length := by
  obtain ⟨h1, h2⟩ := isAtB_iff.1 h
  have hex : ∃ j : Nat, j < es.length ∧ atE es ((idx + 1 + j) % es.length) v = true := by
    refine ⟨es.length - 1, by omega, ?_⟩
    have e : (idx + 1 + ((es.length - 1 : Nat) : Int)) % es.length = idx := by
      rw [show idx + 1 + ((es.length - 1 : Nat) : Int) = idx + es.length by omega, Int.add_emod_right]
      exact Int.emod_eq_of_lt h1.1 h1.2
    rw [e]
    simpa [atE] using h2
  unfold nextF
  cases hf : (List.range es.length).find? (fun (j : Nat) => atE es ((idx + 1 + j) % es.length) v) with
  | none =>
    obtain ⟨j, hj, ha⟩ := hex
    have := List.find?_eq_none.1 hf j (List.mem_range.2 hj)
    exact absurd ha this
  | some j =>
    obtain ⟨p1, p2, p3⟩ := List.find?_range_eq_some.1 hf
    exact ⟨j, List.mem_range.1 p2, p1, fun i hi => by simpa using p3 i hi, rfl⟩
theorem impl_NextRotor_spec {n : Nat} {es : Es} (hg : gokB n es = true) {v idx : Int} (hv : 0 ≤ v ∧ v < n) (h : isAtB es idx v = true) : impl_NextRotor ((n : Int), es, v, idx, ()) = some (nextF es v idx, ()) := by
  have hl := (gokB_n hg).2
  obtain ⟨h1, h2⟩ := isAtB_iff.1 h
  simp only [impl_NextRotor, impl_isVertex_spec (n : Int) es v (by omega), Option.bind_some, hg, inB_iff.2 hv, Bool.and_self, Bool.not_true, cond_false, impl_isAt_any (n : Int) es idx v (by omega), h, joinB_inl, impl_NextRotor_J12]
  rw [chk_pos (by omega), w64_of (by omega) (by omega), tmod_nonneg (by omega)]
  obtain ⟨j, j1, j2, j3, j4⟩ := next_find h
  have hmod : ∀ i : Nat, 0 ≤ (idx + 1 + (i : Int)) % es.length ∧ (idx + 1 + (i : Int)) % es.length < es.length := fun i => ⟨Int.emod_nonneg _ (by omega), Int.emod_lt_of_pos _ (by omega)⟩
  have hat : ∀ i : Nat, isAtB es ((idx + 1 + (i : Int)) % es.length) v = atE es ((idx + 1 + (i : Int)) % es.length) v := fun i => by
    unfold isAtB; rw [decide_eq_true (hmod i)]; rfl
  have := loop_for (f := impl_NextRotor_L124) (fun i => (v, (es.length : Int), (idx + 1 + (i : Int)) % es.length, (n : Int), es, ())) j (fun i hi => by
    simp only [impl_NextRotor_L124, impl_isAt_any (n : Int) es _ v (show es.length ≤ 8796093022208 by omega), hat, j3 i hi, Option.bind_some, Bool.not_false, cond_true]
    have hm := hmod i
    rw [chk_pos (by omega), w64_of (by omega) (by omega), tmod_nonneg (by omega), Int.emod_add_emod]
    have e : idx + 1 + (i : Int) + 1 = idx + 1 + ((i + 1 : Nat) : Int) := by omega
    rw [e])
  have e0 : (idx + 1) % (es.length : Int) = (idx + 1 + ((0 : Nat) : Int)) % es.length := by simp
  rw [e0, this]
  apply loop_out
  simp only [impl_NextRotor_L124, impl_isAt_any (n : Int) es _ v (show es.length ≤ 8796093022208 by omega), hat, j2, Option.bind_some, Bool.not_true, cond_false, Option.map_some, j4]
theorem spec_l15Next_spec {n : Nat} {es : Es} (hl : es.length ≤ 12) (N : Int) {v idx : Int} (h : isAtB es idx v = true) : spec_l15Next (N, es, v, idx, ()) = some (nextF es v idx, ()) := by
  obtain ⟨h1, h2⟩ := isAtB_iff.1 h
  obtain ⟨j, j1, j2, j3, j4⟩ := next_find h
  have hmod : ∀ i : Nat, 0 ≤ (idx + 1 + (i : Int)) % es.length ∧ (idx + 1 + (i : Int)) % es.length < es.length := fun i => ⟨Int.emod_nonneg _ (by omega), Int.emod_lt_of_pos _ (by omega)⟩
  simp only [spec_l15Next]
  have step : ∀ i : Nat, i < es.length - 1 → spec_l15Next_L58 (v, idx, (es.length : Int), (i : Int) + 1, N, es, ()) = some (cond (atE es ((idx + 1 + (i : Int)) % es.length) v) (.inr ((idx + 1 + (i : Int)) % es.length, ())) (.inl (v, idx, (es.length : Int), ((i + 1 : Nat) : Int) + 1, N, es, ()))) := by
    intro i hi
    have hm := hmod i
    simp only [spec_l15Next_L58]
    rw [cond_pos (by omega), chk_pos (by omega), w64_of (by omega) (by omega), tmod_nonneg (by omega), show idx + ((i : Int) + 1) = idx + 1 + (i : Int) by omega, chk_pos hm]
    simp (disch := omega) only [chk_pos, atD_edge, beq_dec, w64_of, atE]
    cases decide ((edge es ((idx + 1 + (i : Int)) % es.length)).1 = v)
    · cases decide ((edge es ((idx + 1 + (i : Int)) % es.length)).2 = v) <;> rfl
    · rfl
  have hfor := loop_for (f := spec_l15Next_L58) (fun i => (v, idx, (es.length : Int), (i : Int) + 1, N, es, ())) (min j (es.length - 1)) (fun i hi => by
    rw [step i (by omega), j3 i (by omega)]; rfl)
  have e0 : loopM spec_l15Next_L58 (v, idx, (es.length : Int), 1, N, es, ()) = loopM spec_l15Next_L58 (v, idx, (es.length : Int), ((min j (es.length - 1) : Nat) : Int) + 1, N, es, ()) := hfor
  rw [e0]
  apply loop_out
  by_cases hj : j < es.length - 1
  · rw [Nat.min_eq_left (by omega), step j hj, j2, j4]; rfl
  · have ej : j = es.length - 1 := by omega
    rw [Nat.min_eq_right (by omega)]
    simp only [spec_l15Next_L58]
    rw [cond_neg (by omega), j4, ej, show idx + 1 + ((es.length - 1 : Nat) : Int) = idx + es.length by omega, Int.add_emod_right, Int.emod_eq_of_lt h1.1 h1.2]
    rfl
noncomputable def walkR (n : Int) (es : Es) (r : List Int) (q v : Int) : List Int × Int × Bool × Unit :=
  match walkF es q 2000 v r with
  | some (r', k) => (r', (k : Int), true, ())
  | none => ([], 0, false, ())
theorem impl_Walk_run {n : Nat} {es : Es} (hg : gokB n es = true) {q : Int} : ∀ (m s : Nat) (v : Int) (r : List Int), s + m = 2000 → RInv n es q r → 0 ≤ v → v < n →
    loopM impl_WalkToSink_L124 (q, v, r, (s : Int), (n : Int), es, ()) = some (match walkF es q m v r with
      | some (r', k) => (r', ((s + k : Nat) : Int), true, ())
      | none => ([], 0, false, ()))
  | 0, s, v, r, hs, hr, h0, hv => by
    apply loop_out
    simp only [impl_WalkToSink_L124, bne_false_iff, walkF]
    by_cases e : v = q
    · rw [if_pos e, decide_eq_true e]; rfl
    · rw [if_neg e, decide_eq_false e, show ((s : Int) == 2000) = true by rw [beq_dec]; simp; omega]; rfl
  | m + 1, s, v, r, hs, hr, h0, hv => by
    by_cases e : v = q
    · apply loop_out
      simp only [impl_WalkToSink_L124, bne_false_iff, walkF]
      rw [if_pos e, decide_eq_true e]; rfl
    · obtain ⟨m', hm, g⟩ := gokB_gr hg
      have hm : m' = n := by omega
      subst hm
      have hat := hr.rot v h0 hv e
      have ht := hr.turn h0 hv e
      have hh := hr.hop g.ok h0 hv e
      have hl := hr.len
      have hk := (isAtB_iff.1 ht.2.1).1
      have ih := impl_Walk_run hg m (s + 1) (hop es v r) (turn es v r) (by omega) ht.1 hh.1 hh.2.1
      rw [loop_in (s' := (q, hop es v r, turn es v r, ((s + 1 : Nat) : Int), (m' : Int), es, ()))]
      · rw [ih]
        simp only [walkF, if_neg e]
        cases walkF es q m (hop es v r) (turn es v r) with
        | none => rfl
        | some p => simp only [Option.map_some]; rw [show s + 1 + p.2 = s + (p.2 + 1) by omega]
      · simp only [impl_WalkToSink_L124, bne_false_iff]
        rw [decide_eq_false e, show ((s : Int) == 2000) = false by rw [beq_dec]; simp; omega]
        simp only [Bool.not_false, cond_true, cond_false]
        rw [chk_pos (by omega), atD_at0, impl_NextRotor_spec hg ⟨h0, hv⟩ hat]
        simp only [Option.bind_some]
        have hlen : (r.set v.toNat (nextF es v (at0 r v))).length = r.length := by simp
        rw [chk_pos (by omega), chk_pos (by omega), atD_at0]
        show Option.bind (impl_across ((m' : Int), es, at0 (turn es v r) v, v, ())) _ = _
        rw [impl_across_spec g (m' : Int) hk ⟨h0, hv⟩]
        simp only [Option.bind_some]
        rw [w64_of (by omega) (by omega)]
        rfl
theorem spec_Walk_run {n : Nat} {es : Es} (g : Gr n es) (N : Int) {q : Int} : ∀ (m s : Nat) (v : Int) (r : List Int), s + m = 2000 → RInv n es q r → 0 ≤ v → v < n →
    loopM spec_l15Walk_L58 (q, v, r, (s : Int), N, es, ()) = some (match walkF es q m v r with
      | some (r', k) => (r', ((s + k : Nat) : Int), true, ())
      | none => ([], 0, false, ()))
  | 0, s, v, r, hs, hr, h0, hv => by
    by_cases e : v = q
    · apply loop_out
      simp only [spec_l15Walk_L58, beq_dec, walkF]
      rw [if_pos e, decide_eq_true e, cond_pos (by omega)]; rfl
    · have hat := hr.rot v h0 hv e
      have ht := hr.turn h0 hv e
      have hl := hr.len
      have hk := (isAtB_iff.1 ht.2.1).1
      have e1 := ht.2.2
      rw [loop_in (s' := (q, hop es v r, turn es v r, ((s + 1 : Nat) : Int), N, es, ()))]
      · apply loop_out
        simp only [spec_l15Walk_L58, walkF, if_neg e]
        rw [cond_neg (by omega)]; rfl
      · simp only [spec_l15Walk_L58, beq_dec]
        rw [decide_eq_false e, cond_pos (by omega)]
        simp only [cond_false]
        rw [chk_pos (by omega), atD_at0, spec_l15Next_spec (n := n) g.len N hat]
        simp only [Option.bind_some]
        have hlen : (r.set v.toNat (nextF es v (at0 r v))).length = r.length := by simp
        rw [chk_pos (by omega), chk_pos (by omega), atD_at0]
        show chk (0 ≤ at0 (turn es v r) v ∧ at0 (turn es v r) v < _) (Option.bind (spec_l15Other ((edge es (at0 (turn es v r) v)).1, (edge es (at0 (turn es v r) v)).2, v, ())) _) = _
        rw [chk_pos hk, spec_l15Other_spec g hk ⟨h0, hv⟩]
        simp only [Option.bind_some]
        rw [w64_of (by omega) (by omega)]
        rfl
  | m + 1, s, v, r, hs, hr, h0, hv => by
    by_cases e : v = q
    · apply loop_out
      simp only [spec_l15Walk_L58, beq_dec, walkF]
      rw [if_pos e, decide_eq_true e, cond_pos (by omega)]; rfl
    · have hat := hr.rot v h0 hv e
      have ht := hr.turn h0 hv e
      have hh := hr.hop g.ok h0 hv e
      have hl := hr.len
      have hk := (isAtB_iff.1 ht.2.1).1
      have ih := spec_Walk_run g N m (s + 1) (hop es v r) (turn es v r) (by omega) ht.1 hh.1 hh.2.1
      rw [loop_in (s' := (q, hop es v r, turn es v r, ((s + 1 : Nat) : Int), N, es, ()))]
      · rw [ih]
        simp only [walkF, if_neg e]
        cases walkF es q m (hop es v r) (turn es v r) with
        | none => rfl
        | some p => simp only [Option.map_some]; rw [show s + 1 + p.2 = s + (p.2 + 1) by omega]
      · simp only [spec_l15Walk_L58, beq_dec]
        rw [decide_eq_false e, cond_pos (by omega)]
        simp only [cond_false]
        rw [chk_pos (by omega), atD_at0, spec_l15Next_spec (n := n) g.len N hat]
        simp only [Option.bind_some]
        have hlen : (r.set v.toNat (nextF es v (at0 r v))).length = r.length := by simp
        rw [chk_pos (by omega), chk_pos (by omega), atD_at0]
        show chk (0 ≤ at0 (turn es v r) v ∧ at0 (turn es v r) v < _) (Option.bind (spec_l15Other ((edge es (at0 (turn es v r) v)).1, (edge es (at0 (turn es v r) v)).2, v, ())) _) = _
        rw [chk_pos hk, spec_l15Other_spec g hk ⟨h0, hv⟩]
        simp only [Option.bind_some]
        rw [w64_of (by omega) (by omega)]
        rfl
theorem impl_WalkToSink_spec {n : Nat} {es : Es} {q : Int} {r : List Int} (h : rotB n es r q = true) {v : Int} (hv : 0 ≤ v ∧ v < n) : impl_WalkToSink ((n : Int), es, r, q, v, ()) = some (walkR n es r q v) := by
  obtain ⟨hg, hq, h1, hr⟩ := rotB_inv h
  have hn := gokB_n hg
  have hl := hr.len
  simp only [impl_WalkToSink, impl_RotorsOk_spec (n : Int) es r q (by omega) (by omega), h, impl_within_spec, Option.bind_some, Bool.not_true, cond_false]
  rw [within_vertex hn.1, inB_iff.2 hv]
  simp only [joinB_inl, impl_WalkToSink_J12, Bool.not_true, cond_false, impl_copyInts]
  rw [chk_pos (by omega)]
  simp only [Option.bind_some]
  have := impl_Walk_run hg 2000 0 v r (by omega) hr hv.1 hv.2
  simpa [walkR] using this
theorem spec_l15Walk_spec {n : Nat} {es : Es} (g : Gr n es) {q : Int} {r : List Int} (hr : RInv n es q r) {v : Int} (hv : 0 ≤ v ∧ v < n) : spec_l15Walk ((n : Int), es, r, q, v, ()) = some (walkR n es r q v) := by
  have hl := hr.len
  have hle := g.le
  simp only [spec_l15Walk, List.length_nil, List.nil_append]
  rw [chk_pos (by omega)]
  have := spec_Walk_run g (n : Int) 2000 0 v r (by omega) hr hv.1 hv.2
  simpa [walkR] using this
end Go.Pm.Try

set_option linter.unusedVariables false
set_option linter.unusedSimpArgs false
namespace Go.Pm.Try
open Go.Pm Go.Pm.Th
noncomputable def tstB (n : Int) (es : Es) (r : List Int) (q : Int) : Bool := rotB n es r q && (List.range n.toNat).all fun (v : Nat) => decide (folF es r q n.toNat v = q)
theorem impl_fol {n : Nat} {es : Es} (g : Gr n es) {r : List Int} {q : Int} (hr : RInv n es q r) (L i : Int) : ∀ (m k : Nat) (v : Int), k + m = n → 0 ≤ v → v < n →
    loopM impl_IsTreeState_L59802 (r, q, v, (k : Int), L, i, (n : Int), es, ()) = some (cond (decide (folF es r q m v = q)) (.inl (r, q, L, w64 (i + 1), (n : Int), es, ())) (.inr (false, ())))
  | 0, k, v, hk, h0, hv => by
    apply loop_out
    simp only [impl_IsTreeState_L59802]
    rw [cond_neg (by omega)]
    simp only [joinB_inl, impl_IsTreeState_J478416, cond_false, bne_false_iff, folF]
    by_cases e : v = q
    · simp [e]
    · simp [e]
  | m + 1, k, v, hk, h0, hv => by
    have hle := g.le
    by_cases e : v = q
    · apply loop_out
      simp only [impl_IsTreeState_L59802]
      rw [cond_pos (by omega)]
      simp only [joinB_inl, impl_IsTreeState_J478416, bne_false_iff, folF, if_pos e, decide_eq_true e, Bool.not_true, cond_false]
      rfl
    · have hat := hr.rot v h0 hv e
      obtain ⟨h1, h2⟩ := isAtB_iff.1 hat
      have hae : atE es (at0 r v) v = true := by simpa [atE] using h2
      have ho := other_in g.ok h1 hae
      have hl := hr.len
      have ih := impl_fol g hr L i m (k + 1) (other es (at0 r v) v) (by omega) ho.1 ho.2.1
      rw [loop_in (s' := (r, q, other es (at0 r v) v, ((k + 1 : Nat) : Int), L, i, (n : Int), es, ()))]
      · rw [ih]; simp only [folF, if_neg e]
      · simp only [impl_IsTreeState_L59802]
        rw [cond_pos (by omega)]
        simp only [joinB_inl, impl_IsTreeState_J478416, bne_false_iff, decide_eq_false e, Bool.not_false, cond_true]
        rw [chk_pos (by omega), atD_at0, impl_across_spec g (n : Int) h1 ⟨h0, hv⟩]
        simp only [Option.bind_some]
        rw [w64_of (by omega) (by omega)]
        rfl
theorem spec_fol {n : Nat} {es : Es} (g : Gr n es) {r : List Int} {q : Int} (hr : RInv n es q r) (i : Int) : ∀ (m k : Nat) (v : Int), k + m = n → 0 ≤ v → v < n →
    loopM spec_IsTreeState_L14922 (r, q, i, v, (k : Int), (n : Int), es, ()) = some (cond (decide (folF es r q m v = q)) (.inl (r, q, w64 (i + 1), (n : Int), es, ())) (.inr (false, ())))
  | 0, k, v, hk, h0, hv => by
    apply loop_out
    simp only [spec_IsTreeState_L14922]
    rw [cond_neg (by omega)]
    simp only [joinB_inl, spec_IsTreeState_J119376, cond_false, bne_false_iff, folF]
    by_cases e : v = q
    · simp [e]
    · simp [e]
  | m + 1, k, v, hk, h0, hv => by
    have hle := g.le
    by_cases e : v = q
    · apply loop_out
      simp only [spec_IsTreeState_L14922]
      rw [cond_pos (by omega)]
      simp only [joinB_inl, spec_IsTreeState_J119376, bne_false_iff, folF, if_pos e, decide_eq_true e, Bool.not_true, cond_false]
      rfl
    · have hat := hr.rot v h0 hv e
      obtain ⟨h1, h2⟩ := isAtB_iff.1 hat
      have hae : atE es (at0 r v) v = true := by simpa [atE] using h2
      have ho := other_in g.ok h1 hae
      have hl := hr.len
      have ih := spec_fol g hr i m (k + 1) (other es (at0 r v) v) (by omega) ho.1 ho.2.1
      rw [loop_in (s' := (r, q, i, other es (at0 r v) v, ((k + 1 : Nat) : Int), (n : Int), es, ()))]
      · rw [ih]; simp only [folF, if_neg e]
      · simp only [spec_IsTreeState_L14922]
        rw [cond_pos (by omega)]
        simp only [joinB_inl, spec_IsTreeState_J119376, bne_false_iff, decide_eq_false e, Bool.not_false, cond_true]
        rw [chk_pos (by omega), atD_at0, chk_pos h1, atD_edge, spec_l15Other_spec g h1 ⟨h0, hv⟩]
        simp only [Option.bind_some]
        rw [w64_of (by omega) (by omega)]
        rfl
theorem impl_IsTreeState_spec (n : Int) (es : Es) (r : List Int) (q : Int) (hb : es.length ≤ 8796093022208) (hl : r.length ≤ 1000000) : impl_IsTreeState (n, es, r, q, ()) = some (tstB n es r q, ()) := by
  simp only [impl_IsTreeState, impl_RotorsOk_spec n es r q hb hl, Option.bind_some, tstB]
  cases h : rotB n es r q
  · rfl
  · have hgk : gokB n es = true := by simp only [rotB, Bool.and_eq_true] at h; exact h.1
    obtain ⟨m, rfl, g⟩ := gokB_gr hgk
    obtain ⟨_, hq, h1, hr⟩ := rotB_inv h
    have hlen := hr.len
    have hle := g.le
    simp only [Bool.not_true, cond_false, Bool.true_and, Int.toNat_natCast, hlen]
    have := loop_forallN (f := impl_IsTreeState_L58) (fun i => (r, q, (m : Int), i, (m : Int), es, ())) (fun v => decide (folF es r q m v = q)) m (false, ()) (true, ()) (fun i hi => by
      simp only [impl_IsTreeState_L58]
      have hf := impl_fol g hr (m : Int) (i : Int) m 0 (i : Int) (by omega) (by omega) (by omega)
      have e0 : loopM impl_IsTreeState_L59802 (r, q, (i : Int), 0, (m : Int), (i : Int), (m : Int), es, ()) = _ := hf
      rw [cond_pos (by omega), e0, w64_of (by omega) (by omega)]
      rfl) (by
      simp only [impl_IsTreeState_L58]
      simp (disch := omega) only [cond_neg, Option.map_some])
    rw [this]
    cases (List.range m).all fun (v : Nat) => decide (folF es r q m v = q) <;> rfl
theorem spec_IsTreeState_spec (n : Int) (es : Es) (r : List Int) (q : Int) (hb : es.length ≤ 8796093022208) (hl : r.length ≤ 1000000) : spec_IsTreeState (n, es, r, q, ()) = some (tstB n es r q, ()) := by
  simp only [spec_IsTreeState, spec_RotorsOk_spec n es r q hb hl, Option.bind_some, tstB]
  cases h : rotB n es r q
  · rfl
  · have hgk : gokB n es = true := by simp only [rotB, Bool.and_eq_true] at h; exact h.1
    obtain ⟨m, rfl, g⟩ := gokB_gr hgk
    obtain ⟨_, hq, h1, hr⟩ := rotB_inv h
    have hlen := hr.len
    have hle := g.le
    simp only [Bool.not_true, cond_false, Bool.true_and, Int.toNat_natCast]
    have := loop_forallN (f := spec_IsTreeState_L58) (fun i => (r, q, i, (m : Int), es, ())) (fun v => decide (folF es r q m v = q)) m (false, ()) (true, ()) (fun i hi => by
      simp only [spec_IsTreeState_L58]
      have hf := spec_fol g hr (i : Int) m 0 (i : Int) (by omega) (by omega) (by omega)
      have e0 : loopM spec_IsTreeState_L14922 (r, q, (i : Int), (i : Int), 0, (m : Int), es, ()) = _ := hf
      rw [cond_pos (by omega), e0, w64_of (by omega) (by omega)]
      rfl) (by
      simp only [spec_IsTreeState_L58]
      simp (disch := omega) only [cond_neg, Option.map_some])
    rw [this]
    cases (List.range m).all fun (v : Nat) => decide (folF es r q m v = q) <;> rfl
def treePre (r : List Int) (q : Int) (i : Nat) : List Int := ((List.range i).filter fun (v : Nat) => decide ((v : Int) ≠ q)).map fun v => r.getD v 0
theorem treePre_succ (r : List Int) (q : Int) (i : Nat) : treePre r q (i + 1) = if (i : Int) = q then treePre r q i else treePre r q i ++ [r.getD i 0] := by
  unfold treePre
  rw [List.range_succ, List.filter_append, List.map_append]
  by_cases h : (i : Int) = q
  · simp [h]
  · simp [h]
theorem treePre_len (r : List Int) (q : Int) (i : Nat) : (treePre r q i).length ≤ i := by
  unfold treePre
  rw [List.length_map]
  exact Nat.le_trans (List.length_filter_le _ _) (by simp)
noncomputable def treeOfR (n : Int) (es : Es) (r : List Int) (q : Int) : List Int × Bool × Unit := if tstB n es r q then (sortF (treeL r q), true, ()) else ([], false, ())
theorem tstB_len {n : Int} {es : Es} {r : List Int} {q : Int} (h : tstB n es r q = true) : r.length ≤ 6 := by
  have h1 : rotB n es r q = true := by simp only [tstB, Bool.and_eq_true] at h; exact h.1
  have hgk : gokB n es = true := by simp only [rotB, Bool.and_eq_true] at h1; exact h1.1
  obtain ⟨m, rfl, g⟩ := gokB_gr hgk
  have := (rotB_inv h1).2.2.2.len
  have := g.le
  omega
theorem impl_TreeOfState_spec (n : Int) (es : Es) (r : List Int) (q : Int) (hb : es.length ≤ 8796093022208) (hl : r.length ≤ 1000000) : impl_TreeOfState (n, es, r, q, ()) = some (treeOfR n es r q) := by
  simp only [impl_TreeOfState, impl_IsTreeState_spec n es r q hb hl, Option.bind_some, treeOfR]
  cases h : tstB n es r q
  · rfl
  · have h6 := tstB_len h
    have := loop_all (f := impl_TreeOfState_L122) (fun i => (q, treePre r q i, r, (r.length : Int), (i : Int), ())) r.length (r := (sortF (treeL r q), true, ())) (fun i hi => by
      have hp := treePre_len r q i
      simp only [impl_TreeOfState_L122]
      simp (disch := omega) only [cond_pos, chk_pos, w64_of, atD_nat, bne_false_iff, List.length_singleton]
      rw [treePre_succ]
      by_cases e : (i : Int) = q
      · rw [decide_eq_true e, if_pos e]; rfl
      · rw [decide_eq_false e, if_neg e]; rfl) (by
      have hp := treePre_len r q r.length
      simp only [impl_TreeOfState_L122]
      simp (disch := omega) only [cond_neg, slices_Sort_spec (treePre r q r.length) (show (treePre r q r.length).length ≤ 12 by omega), Option.bind_some, Option.map_some]
      rfl)
    simp only [Bool.not_true, cond_false, if_true]
    exact this
theorem spec_TreeOfState_spec (n : Int) (es : Es) (r : List Int) (q : Int) (hb : es.length ≤ 8796093022208) (hl : r.length ≤ 1000000) : spec_TreeOfState (n, es, r, q, ()) = some (treeOfR n es r q) := by
  simp only [spec_TreeOfState, spec_IsTreeState_spec n es r q hb hl, Option.bind_some, treeOfR]
  cases h : tstB n es r q
  · rfl
  · have h6 := tstB_len h
    have := loop_all (f := spec_TreeOfState_L122) (fun i => (q, treePre r q i, r, (r.length : Int), (i : Int), ())) r.length (r := (sortF (treeL r q), true, ())) (fun i hi => by
      have hp := treePre_len r q i
      simp only [spec_TreeOfState_L122]
      simp (disch := omega) only [cond_pos, chk_pos, w64_of, atD_nat, bne_false_iff, List.length_singleton]
      rw [treePre_succ]
      by_cases e : (i : Int) = q
      · rw [decide_eq_true e, if_pos e]; rfl
      · rw [decide_eq_false e, if_neg e]; rfl) (by
      have hp := treePre_len r q r.length
      simp only [spec_TreeOfState_L122]
      simp (disch := omega) only [cond_neg, spec_l12Sorted_spec (treePre r q r.length) (show (treePre r q r.length).length ≤ 1000 by omega), Option.bind_some, Option.map_some]
      rfl)
    simp only [Bool.not_true, cond_false, if_true]
    exact this
noncomputable def actR (n : Int) (es : Es) (t : List Int) (q : Int) (p : List Int) : List Int × Bool × Unit :=
  if treeB n es t && inB q n && pileB n es p q then
    match actF es q p (List.range n.toNat) (stateF n.toNat es t q) with
    | none => ([], false, ())
    | some r => treeOfR n es r q
  else ([], false, ())
/-- the state of a tree is a state of rotors: kept as a premise of what follows, proved below -/
theorem pileB_spec {n : Int} {es : Es} {p : List Int} {q : Int} (h : pileB n es p q = true) : gokB n es = true ∧ (p.length : Int) = n ∧ (∀ x ∈ p, 0 ≤ x ∧ x ≤ 60) ∧ inB q n = true ∧ at0 p q = 0 := by
  simp only [pileB, Bool.and_eq_true, decide_eq_true_eq, effB, List.all_eq_true] at h
  obtain ⟨h1, h2, h3, h4⟩ := h
  obtain ⟨d1, d2, d3⟩ := divOkB_len h1
  exact ⟨d1, d2, fun x hx => ⟨h3 x hx, (d3 x hx).2⟩, h2, h4⟩
theorem getD_mem {l : List Int} {i : Nat} (h : i < l.length) (d : Int) : l.getD i d ∈ l := by
  rw [List.getD_eq_getElem?_getD, List.getElem?_eq_getElem h]; exact List.getElem_mem _
end Go.Pm.Try

set_option linter.unusedVariables false
set_option linter.unusedSimpArgs false
namespace Go.Pm.Try
open Go.Pm Go.Pm.Th
theorem walksR_impl {n : Nat} {es : Es} (hg : gokB n es = true) {q : Int} (hq : 0 ≤ q ∧ q < n) (p : List Int) (i L V : Int) {v : Int} (h0 : 0 ≤ v) (hv : v < n) (c : Nat) (hc : c ≤ 60) : ∀ (m k : Nat) (r : List Int), k + m = c → RInv n es q r → at0 r q = -1 →
    loopM impl_ActOnTree_L31334 (q, r, v, (c : Int), (k : Int), p, L, V, (n : Int), es, ()) = some (match walksF es q v m r with
      | none => .inr ([], false, ())
      | some r' => .inl (q, r', p, L, w64 (V + 1), (n : Int), es, ()))
  | 0, k, r, hk, hr, hs => by
    apply loop_out
    simp only [impl_ActOnTree_L31334, walksF]
    rw [cond_neg (by omega)]; rfl
  | m + 1, k, r, hk, hr, hs => by
    obtain ⟨n', hn, g⟩ := gokB_gr hg
    have hn : n' = n := by omega
    subst hn
    have hw := impl_WalkToSink_spec (rotB_of hg hq hs hr) ⟨h0, hv⟩
    cases hf : walkF es q 2000 v r with
    | none =>
      apply loop_out
      simp only [impl_ActOnTree_L31334, walksF, hf]
      rw [cond_pos (by omega), hw]
      simp only [walkR, hf, Option.bind_some]
      rfl
    | some pr =>
      have hr' := (walkF_inv g.ok 2000 v r pr.1 pr.2 hr h0 hv hf).1
      have hs' := walkF_sink g.ok hq.1 2000 v r pr.1 pr.2 hr h0 hv hf
      rw [loop_in (s' := (q, pr.1, v, (c : Int), ((k + 1 : Nat) : Int), p, L, V, (n' : Int), es, ()))]
      · rw [walksR_impl hg hq p i L V h0 hv c hc m (k + 1) pr.1 (by omega) hr' (by rw [hs', hs])]
        simp only [walksF, hf]
      · simp only [impl_ActOnTree_L31334]
        rw [cond_pos (by omega), hw]
        simp only [walkR, hf, Option.bind_some, Bool.not_true, cond_false]
        rw [w64_of (by omega) (by omega)]
        rfl
theorem actR_impl {n : Nat} {es : Es} (hg : gokB n es = true) {q : Int} (hq : 0 ≤ q ∧ q < n) {p : List Int} (hp : p.length = n) (hpv : ∀ x ∈ p, 0 ≤ x ∧ x ≤ 60) : ∀ (m i : Nat) (r : List Int), i + m = n → RInv n es q r → at0 r q = -1 →
    loopM impl_ActOnTree_L122 (q, r, p, (n : Int), (i : Int), (n : Int), es, ()) = some (match actF es q p (List.range' i m) r with
      | none => ([], false, ())
      | some r' => treeOfR n es r' q)
  | 0, i, r, hi, hr, hs => by
    have hl := hr.len
    have hn := (gokB_n hg)
    apply loop_out
    simp only [impl_ActOnTree_L122, List.range', actF]
    rw [cond_neg (by omega), impl_TreeOfState_spec (n : Int) es r q (by omega) (by omega)]
    rfl
  | m + 1, i, r, hi, hr, hs => by
    obtain ⟨n', hn, g⟩ := gokB_gr hg
    have hn : n' = n := by omega
    subst hn
    have hpi := hpv _ (getD_mem (show i < p.length by omega) 0)
    have e1 : (((p.getD i 0).toNat : Nat) : Int) = p.getD i 0 := by omega
    have hle := g.le
    have hin := walksR_impl hg hq p (i : Int) (n' : Int) (i : Int) (v := (i : Int)) (by omega) (by omega) (p.getD i 0).toNat (by omega) (p.getD i 0).toNat 0 r (by omega) hr hs
    rw [e1] at hin
    simp only [List.range', actF]
    cases hw : walksF es q (i : Int) (p.getD i 0).toNat r with
    | none =>
      rw [hw] at hin
      apply loop_out
      simp only [impl_ActOnTree_L122]
      rw [cond_pos (by omega), chk_pos (by omega), atD_nat]
      exact hin
    | some r' =>
      rw [hw] at hin
      have hr' := walksF_inv g.ok (by omega) (by omega) _ r r' hr hw
      have hs' := walksF_sink g.ok hq.1 (by omega) (by omega) _ r r' hr hw
      rw [loop_in (s' := (q, r', p, (n' : Int), ((i + 1 : Nat) : Int), (n' : Int), es, ()))]
      · exact actR_impl hg hq hp hpv m (i + 1) r' (by omega) hr' (by rw [hs', hs])
      · simp only [impl_ActOnTree_L122]
        rw [cond_pos (by omega), chk_pos (by omega), atD_nat]
        refine hin.trans ?_
        rw [w64_of (by omega) (by omega)]
        rfl
theorem impl_ActOnTree_spec (n : Int) (es : Es) (t : List Int) (q : Int) (p : List Int) (hb : es.length ≤ 8796093022208) (ht' : t.length ≤ 2000000) (hp : p.length ≤ 17592186044416) :
    impl_ActOnTree (n, es, t, q, p, ()) = some (actR n es t q p) := by
  simp only [impl_ActOnTree, impl_StateOfTree_spec n es t q hb ht', impl_PileOk_spec n es p q hb hp, Option.bind_some, actR]
  cases h : treeB n es t && inB q n
  · rfl
  · cases h2 : pileB n es p q
    · rfl
    · rw [Bool.and_eq_true] at h
      obtain ⟨h3, h4⟩ := h
      obtain ⟨t1, t2, t3, t4, t5⟩ := treeB_spec h3
      obtain ⟨p1, p2, p3, _, _⟩ := pileB_spec h2
      obtain ⟨m, rfl, g⟩ := gokB_gr t1
      have hq := inB_iff.1 h4
      obtain ⟨s1, s2, s3, _⟩ := stateF_spec g t3 (by simpa [connB] using t5) hq
      simp only [Bool.not_true, cond_false, joinB_inl, impl_ActOnTree_J28, Bool.and_self, if_true, Int.toNat_natCast]
      rw [p2]
      have := actR_impl t1 hq (show p.length = m by omega) p3 m 0 _ (by omega) s1 s2
      rw [List.range_eq_range']
      exact this
theorem walksR_spec {n : Nat} {es : Es} (g : Gr n es) {q : Int} (hq : 0 ≤ q ∧ q < n) (p : List Int) (L V : Int) {v : Int} (h0 : 0 ≤ v) (hv : v < n) (c : Nat) (hc : c ≤ 60) : ∀ (m k : Nat) (r : List Int), k + m = c → RInv n es q r →
    loopM spec_ActOnTree_L31334 (q, r, v, (c : Int), (k : Int), p, L, V, (n : Int), es, ()) = some (match walksF es q v m r with
      | none => .inr ([], false, ())
      | some r' => .inl (q, r', p, L, w64 (V + 1), (n : Int), es, ()))
  | 0, k, r, hk, hr => by
    apply loop_out
    simp only [spec_ActOnTree_L31334, walksF]
    rw [cond_neg (by omega)]; rfl
  | m + 1, k, r, hk, hr => by
    have hw := spec_l15Walk_spec g hr ⟨h0, hv⟩
    cases hf : walkF es q 2000 v r with
    | none =>
      apply loop_out
      simp only [spec_ActOnTree_L31334, walksF, hf]
      rw [cond_pos (by omega), hw]
      simp only [walkR, hf, Option.bind_some]
      rfl
    | some pr =>
      have hr' := (walkF_inv g.ok 2000 v r pr.1 pr.2 hr h0 hv hf).1
      rw [loop_in (s' := (q, pr.1, v, (c : Int), ((k + 1 : Nat) : Int), p, L, V, (n : Int), es, ()))]
      · rw [walksR_spec g hq p L V h0 hv c hc m (k + 1) pr.1 (by omega) hr']
        simp only [walksF, hf]
      · simp only [spec_ActOnTree_L31334]
        rw [cond_pos (by omega), hw]
        simp only [walkR, hf, Option.bind_some, Bool.not_true, cond_false]
        rw [w64_of (by omega) (by omega)]
        rfl
theorem actR_spec {n : Nat} {es : Es} (g : Gr n es) {q : Int} (hq : 0 ≤ q ∧ q < n) {p : List Int} (hp : p.length = n) (hpv : ∀ x ∈ p, 0 ≤ x ∧ x ≤ 60) : ∀ (m i : Nat) (r : List Int), i + m = n → RInv n es q r →
    loopM spec_ActOnTree_L122 (q, r, p, (n : Int), (i : Int), (n : Int), es, ()) = some (match actF es q p (List.range' i m) r with
      | none => ([], false, ())
      | some r' => treeOfR n es r' q)
  | 0, i, r, hi, hr => by
    have hl := hr.len
    have hn := g.le
    have hn2 := g.len
    apply loop_out
    simp only [spec_ActOnTree_L122, List.range', actF]
    rw [cond_neg (by omega), spec_TreeOfState_spec (n : Int) es r q (by omega) (by omega)]
    rfl
  | m + 1, i, r, hi, hr => by
    have hpi := hpv _ (getD_mem (show i < p.length by omega) 0)
    have e1 : (((p.getD i 0).toNat : Nat) : Int) = p.getD i 0 := by omega
    have hle := g.le
    have hin := walksR_spec g hq p (n : Int) (i : Int) (v := (i : Int)) (by omega) (by omega) (p.getD i 0).toNat (by omega) (p.getD i 0).toNat 0 r (by omega) hr
    rw [e1] at hin
    simp only [List.range', actF]
    cases hw : walksF es q (i : Int) (p.getD i 0).toNat r with
    | none =>
      rw [hw] at hin
      apply loop_out
      simp only [spec_ActOnTree_L122]
      rw [cond_pos (by omega), chk_pos (by omega), atD_nat]
      exact hin
    | some r' =>
      rw [hw] at hin
      have hr' := walksF_inv g.ok (by omega) (by omega) _ r r' hr hw
      rw [loop_in (s' := (q, r', p, (n : Int), ((i + 1 : Nat) : Int), (n : Int), es, ()))]
      · exact actR_spec g hq hp hpv m (i + 1) r' (by omega) hr'
      · simp only [spec_ActOnTree_L122]
        rw [cond_pos (by omega), chk_pos (by omega), atD_nat]
        refine hin.trans ?_
        rw [w64_of (by omega) (by omega)]
        rfl
theorem spec_ActOnTree_spec (n : Int) (es : Es) (t : List Int) (q : Int) (p : List Int) (hb : es.length ≤ 8796093022208) (ht' : t.length ≤ 2000000) (hp : p.length ≤ 17592186044416) :
    spec_ActOnTree (n, es, t, q, p, ()) = some (actR n es t q p) := by
  simp only [spec_ActOnTree, spec_StateOfTree_spec n es t q hb ht', spec_PileOk_spec n es p q hb hp, Option.bind_some, actR]
  cases h : treeB n es t && inB q n
  · rfl
  · cases h2 : pileB n es p q
    · rfl
    · rw [Bool.and_eq_true] at h
      obtain ⟨h3, h4⟩ := h
      obtain ⟨t1, t2, t3, t4, t5⟩ := treeB_spec h3
      obtain ⟨p1, p2, p3, _, _⟩ := pileB_spec h2
      obtain ⟨m, rfl, g⟩ := gokB_gr t1
      have hq := inB_iff.1 h4
      obtain ⟨s1, s2, s3, _⟩ := stateF_spec g t3 (by simpa [connB] using t5) hq
      simp only [Bool.not_true, cond_false, joinB_inl, spec_ActOnTree_J28, Bool.and_self, if_true, Int.toNat_natCast]
      rw [p2]
      have := actR_spec g hq (show p.length = m by omega) p3 m 0 _ (by omega) s1
      rw [List.range_eq_range']
      exact this
theorem treePre_len' (r : List Int) (q : Int) : (treeL r q).length ≤ r.length := treePre_len r q r.length
theorem actR_len (n : Int) (es : Es) (t : List Int) (q : Int) (p : List Int) : (actR n es t q p).1.length ≤ 6 := by
  unfold actR
  split
  · split
    · simp
    · unfold treeOfR
      split
      · rename_i r _ h
        have := tstB_len h
        have := treePre_len' r q
        simp only [sortF_len]
        omega
      · simp
  · simp
theorem not_decide_eq (a : Bool) : (!(a == a)) = false := by cases a <;> rfl
/-- the law of ActOnTree -/
theorem law_ActOnTree (n : Int) (es : Es) (t : List Int) (q : Int) (p : List Int) (hlen : es.length ≤ 9223372036854775807) :
    laws_FnExactActOnTree (n, es, t, q, p, ()) = some (true, ()) := by
  simp only [laws_FnExactActOnTree]
  by_cases h1 : (t.length : Int) > 1048576
  · rw [cond_pos h1]
  rw [cond_neg h1]
  by_cases h2 : (p.length : Int) > 1048576
  · rw [cond_pos h2]
  rw [cond_neg h2, laws_szGraph_spec n es 1048576 (by omega) (by omega) hlen]
  simp only [Option.bind_some]
  by_cases h3 : (1048576 : Int) < es.length
  · rw [if_pos h3, cond_pos (by omega)]
  rw [if_neg h3, cond_neg (by omega)]
  have hb : es.length ≤ 8796093022208 := by omega
  have hA := actR_len n es t q p
  have e1 := laws_toGraph_spec n es hb
  have e2 := laws_toIntS_spec t (by omega)
  have e3 := laws_toIntS_spec p (by omega)
  have e4 := spec_ActOnTree_spec n es t q p hb (by omega) (by omega)
  have e5 := impl_ActOnTree_spec n es t q p hb (by omega) (by omega)
  generalize hgen : actR n es t q p = A at hA e4 e5
  obtain ⟨a, b, u⟩ := A
  have hA : a.length ≤ 6 := hA
  have e6 := laws_eqIntS_refl a (by omega)
  have e7 := laws_eqGraph_refl n es hb
  have e8 := laws_eqIntS_refl t (by omega)
  have e9 := laws_eqIntS_refl p (by omega)
  obtain ⟨ys, e10⟩ := laws_markGraph_spec n es 1 (by omega) (by omega) hb
  have e11 := laws_markIntS_spec t (1 + 2 * es.length) (by omega) (by omega) (by omega)
  have e12 := laws_markIntS_spec p (1 + 2 * es.length + t.length) (by omega) (by omega) (by omega)
  have e13 := laws_markIntS_spec a 1 (by omega) (by omega) (by omega)
  have e14 := laws_heldIntS_marks a.length 1 (by omega) (by omega) (by omega)
  simp only [e1, e2, e3, e4, e5, e6, Option.bind_some, Bool.not_true, cond_false, not_decide_eq, joinB_inl, laws_FnExactActOnTree_J16380, e7, e8, e9, e10, e11, e12]
  rw [cond_neg (by omega)]
  simp only [joinB_inl, laws_FnExactActOnTree_J4194300, cond_false, e13, e14, Option.bind_some]
  rw [cond_neg (by omega)]
  simp only [bne_self_eq_false, cond_false, e1, e2, e3, e5, e6, Option.bind_some, Bool.not_true, not_decide_eq, e14]
  rw [cond_neg (by omega)]
end Go.Pm.Try

