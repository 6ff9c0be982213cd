/-
  Plain laws: what the typed functions answer. Conditions: see each.
-/
import Derived.Test.YteplfcgofnfciaaG3
import Derived.Test.YteplfcgofnfciaaTa
set_option linter.unusedVariables false
set_option linter.unusedSimpArgs false
namespace Go.Pm.Try
open Go.Pm Go.Pm.Th
section
variable {α S R : Type} {f : S → Option (S ⊕ R)}
theorem loop_forall (mk : Int → S) (p : α → Bool) (l : List α) (bad good : R) (hstep : ∀ (i : Nat) (a : α), l[i]? = some a → f (mk i) = some (cond (p a) (.inl (mk (i + 1 : Nat))) (.inr bad))) (hfin : f (mk l.length) = some (.inr good)) :
    loopM f (mk 0) = some (cond (l.all p) good bad) := by
  have key := loop_list (f := f) (fun (_ : Unit) i => mk i) (fun _ a => cond (p a) (.inl ()) (.inr bad)) (fun _ _ => True) l l.length rfl (fun _ => good) () trivial (fun s i a ha _ => ⟨by rw [hstep i a ha]; cases p a <;> rfl, fun _ _ => trivial⟩) (fun _ _ => hfin)
  rw [key]
  congr 1
  clear key hstep hfin
  induction l with
  | nil => rfl
  | cons a l ih =>
    simp only [runL, List.all_cons]
    cases h : p a with
    | true => simpa using ih
    | false => rfl
theorem loop_forallN (mk : Int → S) (p : Nat → Bool) (n : Nat) (bad good : R) (hstep : ∀ (i : Nat), i < n → f (mk i) = some (cond (p i) (.inl (mk (i + 1 : Nat))) (.inr bad))) (hfin : f (mk n) = some (.inr good)) :
    loopM f (mk 0) = some (cond ((List.range n).all p) good bad) := by
  refine loop_forall mk p (List.range n) bad good (fun i a ha => ?_) (by simpa using hfin)
  have hi : i < n := by have := (List.getElem?_eq_some_iff.1 ha).1; simpa using this
  have : a = i := by rw [List.getElem?_range hi] at ha; cases ha; rfl
  subst this
  exact hstep a hi
/-- downwards from n to 0; at 0 it ends -/
theorem loop_downN (mk : Int → S) (p : Nat → Bool) (bad good : R) : ∀ (n : Nat), (∀ i, i < n → f (mk (i + 1 : Nat)) = some (cond (p (i + 1)) (.inl (mk i)) (.inr bad))) → f (mk 0) = some (.inr good) →
    loopM f (mk n) = some (cond ((List.range n).all (fun i => p (i + 1))) good bad)
  | 0, _, h0 => loop_out h0
  | n + 1, hs, h0 => by
    have h1 := hs n (by omega)
    have ih := loop_downN mk p bad good n (fun i hi => hs i (by omega)) h0
    rw [List.range_succ, List.all_append]
    cases h : p (n + 1) with
    | true =>
      rw [h] at h1
      rw [loop_in h1, ih]
      simp [h]
    | false =>
      rw [h] at h1
      rw [loop_out h1]
      simp [h]
end
/-- a list written place by place -/
def upto {α : Type} (d : α) (l : List α) (i : Nat) : List α := l.take i ++ List.replicate (l.length - i) d
theorem upto_len {α : Type} (d : α) (l : List α) (i : Nat) (h : i ≤ l.length) : (upto d l i).length = l.length := by simp [upto]; omega
theorem upto_set {α : Type} (d : α) (l : List α) (i : Nat) (a : α) (h : l[i]? = some a) : (upto d l i).set i a = upto d l (i + 1) := by
  apply List.ext_getElem?
  intro k
  have h' := lt_of_get h
  have hl : (l.take i).length = i := by simp; omega
  rw [List.getElem?_set]
  by_cases hk : i = k
  · subst hk
    rw [if_pos rfl, if_pos (by rw [upto_len d l i (by omega)]; exact h')]
    unfold upto
    rw [List.getElem?_append_left (by simp; omega), List.getElem?_take, if_pos (by omega), h]
  · rw [if_neg hk]
    unfold upto
    rw [List.getElem?_append, List.getElem?_append, hl]
    have hl' : (l.take (i + 1)).length = i + 1 := by simp; omega
    rw [hl']
    by_cases h1 : k < i
    · rw [if_pos h1, if_pos (by omega), List.getElem?_take, List.getElem?_take, if_pos h1, if_pos (by omega)]
    · rw [if_neg h1, if_neg (by omega), List.getElem?_replicate, List.getElem?_replicate]
      by_cases h2 : k < l.length
      · rw [if_pos (by omega), if_pos (by omega)]
      · rw [if_neg (by omega), if_neg (by omega)]
theorem upto_zero {α : Type} (d : α) (l : List α) : upto d l 0 = List.replicate l.length d := by simp [upto]
theorem upto_all {α : Type} (d : α) (l : List α) : upto d l l.length = l := by simp [upto]
theorem laws_toEdgeS_spec (es : List (Int × Int)) (h : es.length ≤ 8796093022208) : laws_toEdgeS (es, ()) = some (es, ()) := by
  unfold laws_toEdgeS
  dsimp only
  rw [chk_pos ⟨rfl, by omega, by omega⟩]
  have := loop_all (f := laws_toEdgeS_L58) (fun i => (es, upto (0, 0) es i, (i : Int), ())) es.length (r := (es, ())) (fun i hi => by
    have hg : es[i]? = some es[i] := List.getElem?_eq_getElem hi
    have hu := upto_len (0, 0) es i (by omega)
    simp only [laws_toEdgeS_L58, laws_toEdge, Option.bind_some]
    simp (disch := omega) only [cond_pos, chk_pos, w64_of, atD_nat, getD_of hg, Int.toNat_natCast, Prod.eta, upto_set (0, 0) es i _ hg]
    rfl) (by
    simp only [laws_toEdgeS_L58]
    simp (disch := omega) only [cond_neg, upto_all, Option.map_some])
  rw [upto_zero] at this
  simpa using this
theorem laws_toGraph_spec (n : Int) (es : List (Int × Int)) (h : es.length ≤ 8796093022208) : laws_toGraph (n, es, ()) = some (n, es, ()) := by
  simp only [laws_toGraph, laws_toEdgeS_spec es h, Option.bind_some]
theorem laws_szGraph_spec (n : Int) (es : List (Int × Int)) (left : Int) (h0 : 0 ≤ left) (h1 : left ≤ 1048576) (h : es.length ≤ 9223372036854775807) :
    laws_szGraph (n, es, left, ()) = some (if left < es.length then -1 else left - es.length, ()) := by
  simp only [laws_szGraph, laws_szEdgeS]
  by_cases hlt : left < es.length
  · simp (disch := omega) only [w64_of, cond_pos, Option.bind_some, if_pos hlt]
  · simp (disch := omega) only [w64_of, cond_neg, Option.bind_some, if_neg hlt]
theorem laws_eqEdgeS_refl (xs : List (Int × Int)) (h : xs.length ≤ 8796093022208) : laws_eqEdgeS (xs, xs, ()) = some (true, ()) := by
  simp only [laws_eqEdgeS, bne_self_eq_false, cond_false]
  refine loop_all (f := laws_eqEdgeS_L58) (fun i => (xs, xs, (i : Int), ())) xs.length (r := (true, ())) (fun i hi => ?_) ?_
  · simp only [laws_eqEdgeS_L58, laws_eqEdge, bne_self_eq_false, cond_false, Option.bind_some, Bool.not_true]
    simp (disch := omega) only [cond_pos, chk_pos, w64_of]
    rfl
  · simp only [laws_eqEdgeS_L58]
    simp (disch := omega) only [cond_neg, Option.map_some]
theorem laws_eqGraph_refl (n : Int) (xs : List (Int × Int)) (h : xs.length ≤ 8796093022208) : laws_eqGraph (n, xs, n, xs, ()) = some (true, ()) := by
  simp only [laws_eqGraph, bne_self_eq_false, cond_false, laws_eqEdgeS_refl xs h, Option.bind_some, Bool.not_true]
end Go.Pm.Try

set_option linter.unusedVariables false
set_option linter.unusedSimpArgs false
namespace Go.Pm.Try
open Go.Pm Go.Pm.Th
def sortedB (es : Es) : Bool := (List.range (es.length - 1)).all fun i => !ltB (es.getD (i + 1) (0, 0)) (es.getD i (0, 0))
def edgesB (n : Int) (es : Es) : Bool := decide (1 ≤ n ∧ n ≤ 6) && decide (es.length ≤ 12) && es.all (fun e => decide (0 ≤ e.1 ∧ e.1 < e.2 ∧ e.2 < n))
open Classical in
noncomputable def connB (n : Int) (es : Es) : Bool := decide (Conn n es)
noncomputable def gokB (n : Int) (es : Es) : Bool := edgesB n es && sortedB es && connB n es
theorem edgesB_spec {n : Int} {es : Es} (h : edgesB n es = true) : (1 ≤ n ∧ n ≤ 6) ∧ es.length ≤ 12 ∧ EOk n es := by
  simp only [edgesB, Bool.and_eq_true, decide_eq_true_eq, List.all_eq_true] at h
  exact ⟨h.1.1, h.1.2, h.2⟩
theorem impl_within_spec (x lo hi : Int) : impl_within (x, lo, hi, ()) = some (decide (lo ≤ x ∧ x ≤ hi), ()) := by
  simp only [impl_within]
  by_cases h : x ≥ lo
  · rw [cond_pos h]; simp [show lo ≤ x from h]
  · rw [cond_neg h]; simp [show ¬ lo ≤ x from h]
theorem spec_l01In_spec (x lo hi : Int) : spec_l01In (x, lo, hi, ()) = some (decide (lo ≤ x ∧ x ≤ hi), ()) := by
  simp only [spec_l01In]
  by_cases h : x ≥ lo
  · rw [cond_pos h]; simp [show lo ≤ x from h]
  · rw [cond_neg h]; simp [show ¬ lo ≤ x from h]
theorem impl_EdgesOk_spec (n : Int) (es : Es) (hb : es.length ≤ 8796093022208) : impl_EdgesOk (n, es, ()) = some (edgesB n es, ()) := by
  simp only [impl_EdgesOk, impl_within_spec, Option.bind_some]
  by_cases h1 : 1 ≤ n ∧ n ≤ 6
  · by_cases h2 : es.length ≤ 12
    · have hl := loop_forall (f := impl_EdgesOk_L58) (fun i => (es, (es.length : Int), i, n, es, ())) (fun e => decide (0 ≤ e.1 ∧ e.1 < e.2 ∧ e.2 < n)) es (false, ()) (true, ()) (fun i a ha => by
        have hi := lt_of_get ha
        simp only [impl_EdgesOk_L58]
        simp (disch := omega) only [cond_pos, chk_pos, w64_of, atD_nat, getD_of ha]
        by_cases a1 : a.1 < 0
        · rw [cond_pos a1, cond_neg (by omega)]; rfl
        · rw [cond_neg a1]
          by_cases a2 : a.1 ≥ a.2
          · rw [cond_pos a2, cond_neg (by omega)]; rfl
          · rw [cond_neg a2]
            by_cases a3 : a.2 ≥ n
            · rw [cond_pos a3, cond_neg (by omega)]; rfl
            · rw [cond_neg a3, cond_pos (by omega)]; rfl) (by
        simp only [impl_EdgesOk_L58]
        simp (disch := omega) only [cond_neg, Option.map_some])
      simp only [edgesB, h1, h2, and_self, decide_true, Bool.not_true, cond_false, joinB_inl, impl_EdgesOk_J12]
      rw [cond_neg (by omega), hl]
      cases es.all fun e => decide (0 ≤ e.1 ∧ e.1 < e.2 ∧ e.2 < n) <;> rfl
    · simp only [edgesB, h1, h2, and_self, decide_true, decide_false, Bool.not_true, cond_false, joinB_inl, impl_EdgesOk_J12]
      rw [cond_pos (by omega)]; rfl
  · simp only [edgesB, h1, decide_false, Bool.not_false, cond_true, joinB_inl, impl_EdgesOk_J12]; rfl
theorem spec_EdgesOk_spec (n : Int) (es : Es) (hb : es.length ≤ 8796093022208) : spec_EdgesOk (n, es, ()) = some (edgesB n es, ()) := by
  simp only [spec_EdgesOk, spec_l01In_spec, Option.bind_some]
  by_cases h1 : 1 ≤ n ∧ n ≤ 6
  · by_cases h2 : es.length ≤ 12
    · have hl := loop_forall (f := spec_EdgesOk_L58) (fun i => (es, (es.length : Int), i, n, es, ())) (fun e => decide (0 ≤ e.1 ∧ e.1 < e.2 ∧ e.2 < n)) es (false, ()) (true, ()) (fun i a ha => by
        have hi := lt_of_get ha
        simp only [spec_EdgesOk_L58, spec_l01In_spec, Option.bind_some]
        simp (disch := omega) only [cond_pos, chk_pos, w64_of, atD_nat, getD_of ha]
        by_cases a1 : 0 ≤ a.1 ∧ a.1 ≤ n - 1
        · rw [decide_eq_true a1]
          simp only [Bool.not_true, cond_false]
          rw [w64_of (by omega) (by omega)]
          by_cases a2 : a.1 + 1 ≤ a.2 ∧ a.2 ≤ n - 1
          · rw [decide_eq_true a2, cond_pos (by omega)]; rfl
          · rw [decide_eq_false a2, cond_neg (by omega)]; rfl
        · rw [decide_eq_false a1, cond_neg (by omega)]; rfl) (by
        simp only [spec_EdgesOk_L58]
        simp (disch := omega) only [cond_neg, Option.map_some])
      simp only [edgesB, h1, h2, and_self, decide_true, Bool.not_true, cond_false, joinB_inl, spec_EdgesOk_J12]
      rw [cond_neg (by omega), hl]
      cases es.all fun e => decide (0 ≤ e.1 ∧ e.1 < e.2 ∧ e.2 < n) <;> rfl
    · simp only [edgesB, h1, h2, and_self, decide_true, decide_false, Bool.not_true, cond_false, joinB_inl, spec_EdgesOk_J12]
      rw [cond_pos (by omega)]; rfl
  · simp only [edgesB, h1, decide_false, Bool.not_false, cond_true, joinB_inl, spec_EdgesOk_J12]; rfl
theorem cmp_Compare_int_spec (a b : Int) : cmp_Compare_int (a, b, ()) = some (if a < b then -1 else if b < a then 1 else 0, ()) := by
  simp only [cmp_Compare_int, cmp_isNaN_int, Option.bind_some, bne_self_eq_false, cond_false]
  by_cases h1 : a < b
  · rw [cond_pos h1, if_pos h1]
  · rw [cond_neg h1, if_neg h1]
    by_cases h2 : b < a
    · rw [cond_pos h2, if_pos h2]
    · rw [cond_neg h2, if_neg h2]
theorem impl_compareEdges_neg (a b : Int × Int) : ∃ c, impl_compareEdges (a.1, a.2, b.1, b.2, ()) = some (c, ()) ∧ decide (c < 0) = ltB a b := by
  simp only [impl_compareEdges, cmp_Compare_int_spec, Option.bind_some]
  by_cases h1 : a.1 < b.1
  · refine ⟨-1, ?_, ?_⟩
    · rw [if_pos h1]; rfl
    · simp [ltB, h1]
  · by_cases h2 : b.1 < a.1
    · refine ⟨1, ?_, ?_⟩
      · rw [if_neg h1, if_pos h2]; rfl
      · have : ¬ a.1 = b.1 := by omega
        simp [ltB, h1, this]
    · have e : a.1 = b.1 := by omega
      refine ⟨if a.2 < b.2 then -1 else if b.2 < a.2 then 1 else 0, ?_, ?_⟩
      · rw [if_neg h1, if_neg h2]; rfl
      · by_cases h3 : a.2 < b.2
        · simp [ltB, h3, e]
        · rw [if_neg h3]
          have : ¬ (if b.2 < a.2 then (1 : Int) else 0) < 0 := by split <;> omega
          simp [ltB, h3, h1, this]
theorem impl_sorted_spec (es : Es) (hb : es.length ≤ 8796093022208) : slices_IsSortedFunc_impl_Edge_impl_Edge (es, ()) = some (sortedB es, ()) := by
  simp only [slices_IsSortedFunc_impl_Edge_impl_Edge]
  rw [w64_of (by omega) (by omega)]
  by_cases h0 : es.length = 0
  · have : es = [] := List.eq_nil_of_length_eq_zero h0
    subst this
    apply loop_out
    simp only [slices_IsSortedFunc_impl_Edge_impl_Edge_L26]
    rfl
  · have e1 : (es.length : Int) - 1 = ((es.length - 1 : Nat) : Int) := by omega
    rw [e1]
    have := loop_downN (f := slices_IsSortedFunc_impl_Edge_impl_Edge_L26) (fun i => (es, i, ())) (fun i => !ltB (es.getD i (0, 0)) (es.getD (i - 1) (0, 0))) (false, ()) (true, ()) (es.length - 1) (fun i hi => by
      simp only [slices_IsSortedFunc_impl_Edge_impl_Edge_L26]
      have e2 : ((i + 1 : Nat) : Int) - 1 = (i : Int) := by omega
      obtain ⟨c, hc, hd⟩ := impl_compareEdges_neg (es.getD (i + 1) (0, 0)) (es.getD i (0, 0))
      simp (disch := omega) only [cond_pos, chk_pos, w64_of, e2, atD_nat, hc, Option.bind_some, hd, Nat.add_sub_cancel]
      cases ltB (es.getD (i + 1) (0, 0)) (es.getD i (0, 0)) <;> rfl) (by
      simp only [slices_IsSortedFunc_impl_Edge_impl_Edge_L26]
      rfl)
    rw [this]
    simp only [sortedB, Nat.add_sub_cancel]
    cases (List.range (es.length - 1)).all fun i => !ltB (es.getD (i + 1) (0, 0)) (es.getD i (0, 0)) <;> rfl
theorem impl_connected_spec (n : Nat) (es : Es) (he : EOk n es) (hn : 0 < n) (h6 : n ≤ 60) (hb : es.length ≤ 8796093022208) : impl_connected ((n : Int), es, ()) = some (connB n es, ()) := by
  have h1 : (1 : Nat) < 2 ^ n := Nat.one_lt_two_pow (by omega)
  have h2 : (2 : Nat) ^ n ≤ 2 ^ 60 := Nat.pow_le_pow_right (by omega) h6
  have inner : ∀ (r k : Nat), r < 2 ^ n → k < n → impl_connected_L58 ((n : Int), es, (r : Int), (n : Int), (k : Int), ()) = some (.inl ((n : Int), es, ((bpass es r : Nat) : Int), (n : Int), ((k + 1 : Nat) : Int), ())) := by
    intro r k hr hk
    simp only [impl_connected_L58]
    rw [cond_pos (by omega)]
    have := loop_fold (f := impl_connected_L7474) (fun (r : Nat) i => ((n : Int), es, (r : Int), (n : Int), (k : Int), es, (es.length : Int), i, ())) bstep (fun i r => r < 2 ^ n) es es.length rfl (fun r => .inl ((n : Int), es, (r : Int), (n : Int), ((k + 1 : Nat) : Int), ())) r hr (fun r i e hi hr => by
      have hlt := lt_of_get hi
      have hok := he e (List.mem_of_getElem? hi)
      refine ⟨?_, bstep_lt hok hr⟩
      have hr62 : r < 2 ^ 62 := by omega
      simp only [impl_connected_L7474]
      simp (disch := omega) only [cond_pos, chk_pos, w64_of, atD_nat, getD_of hi, bit_test r e.1 hr62, bit_test r e.2 hr62, bit_join r e.1 e.2 hr62]
      cases b1 : bset r e.1
      · cases b2 : bset r e.2
        · simp [bstep, b1, b2]
        · simp [bstep, b1, b2]
      · simp [bstep, b1]) (fun r hr => by
      simp only [impl_connected_L7474]
      simp (disch := omega) only [cond_neg, w64_of, Option.map_some]
      rfl)
    rw [this.1]; rfl
  simp only [impl_connected]
  have := loop_count (f := impl_connected_L58) (fun (r : Nat) k => ((n : Int), es, (r : Int), (n : Int), k, ())) (fun _ r => bpass es r) (fun _ r => r < 2 ^ n) n (fun r => (connB n es, ())) 1 h1 (fun r k hk hr => ⟨inner r k hr hk, bpass_lt es r he hr⟩)
  have hfold : ∀ k r, (List.range k).foldl (fun s i => bpass es s) r = iter (bpass es) k r := by
    intro k
    induction k with
    | zero => exact fun r => rfl
    | succ k ih => intro r; rw [List.range_succ, List.foldl_append, ih, iter_succ]; rfl
  -- the end is reached at the last set alone
  have hall := loop_for (f := impl_connected_L58) (fun k => ((n : Int), es, ((iter (bpass es) k 1 : Nat) : Int), (n : Int), (k : Int), ())) n (fun k hk => by
    rw [inner _ k (iter_lt he h1 k) hk, iter_succ])
  have e0 : loopM impl_connected_L58 ((n : Int), es, 1, (n : Int), 0, ()) = loopM impl_connected_L58 ((n : Int), es, ((iter (bpass es) n 1 : Nat) : Int), (n : Int), (n : Int), ()) := hall
  rw [e0]
  apply loop_out
  have hlt := iter_lt he h1 n
  simp only [impl_connected_L58]
  rw [cond_neg (by omega), chk_pos (by omega), ishl_one (n : Int) (by omega) (by omega)]
  rw [Int.toNat_natCast, Nat.one_shiftLeft, w64_of (by omega) (by omega)]
  have e3 : (((iter (bpass es) n 1 : Nat) : Int) == ((2 ^ n : Nat) : Int) - 1) = connB n es := by
    rw [Bool.eq_iff_iff, beq_iff_eq]
    simp only [connB, decide_eq_true_eq]
    rw [← bits_conn he hn]
    omega
  rw [e3]; rfl
theorem impl_GraphOk_spec (n : Int) (es : Es) (hb : es.length ≤ 8796093022208) : impl_GraphOk (n, es, ()) = some (gokB n es, ()) := by
  simp only [impl_GraphOk, impl_EdgesOk_spec n es hb, Option.bind_some, gokB]
  cases h : edgesB n es
  · rfl
  · simp only [cond_true, impl_sorted_spec es hb, Option.bind_some]
    cases h2 : sortedB es
    · rfl
    · obtain ⟨h3, h4, h5⟩ := edgesB_spec h
      obtain ⟨m, rfl⟩ := Int.eq_ofNat_of_zero_le (show 0 ≤ n by omega)
      simp only [cond_true, impl_connected_spec m es h5 (by omega) (by omega) hb, Option.bind_some, Bool.true_and]
end Go.Pm.Try

set_option linter.unusedVariables false
set_option linter.unusedSimpArgs false
namespace Go.Pm.Try
open Go.Pm Go.Pm.Th
theorem all_has (l : List Int) (x : Int) : (l.all fun a => !(a == x)) = !decide (x ∈ l) := by
  rw [Bool.eq_iff_iff]
  simp only [List.all_eq_true, Bool.not_eq_true', beq_eq_false_iff_ne, decide_eq_false_iff_not]
  exact ⟨fun h hx => h x hx rfl, fun h a ha e => h (e ▸ ha)⟩
theorem spec_l02Has_spec (l : List Int) (x : Int) (hb : l.length ≤ 17592186044416) : spec_l02Has (l, x, ()) = some (decide (x ∈ l), ()) := by
  simp only [spec_l02Has]
  have := loop_forall (f := spec_l02Has_L26) (fun i => (x, l, (l.length : Int), i, ())) (fun a => !(a == x)) l (true, ()) (false, ()) (fun i a ha => by
    have hi := lt_of_get ha
    simp only [spec_l02Has_L26]
    simp (disch := omega) only [cond_pos, chk_pos, w64_of, atD_nat, getD_of ha]
    cases a == x <;> rfl) (by
    simp only [spec_l02Has_L26]
    simp (disch := omega) only [cond_neg, Option.map_some])
  rw [this, all_has]
  cases decide (x ∈ l) <;> rfl
theorem get_append {α : Type} {l : List α} {i : Nat} {x : α} (h : l[i]? = some x) (t : List α) : (l ++ t)[i]? = some x := by
  rw [List.getElem?_append_left (lt_of_get h)]; exact h
theorem qadd_get {q : List Int} {i : Nat} {x : Int} (h : q[i]? = some x) (y : Int) : (qadd q y)[i]? = some x := by
  unfold qadd; split
  · exact h
  · exact get_append h _
theorem qadd_len (q : List Int) (y : Int) : (qadd q y).length ≤ q.length + 1 := by
  unfold qadd; split <;> simp
theorem spec_l02Reach_inner (n : Int) (es : Es) (hb : es.length ≤ 1000000000) (q : List Int) (at_ : Nat) (x : Int) (hx : q[at_]? = some x) (hq : q.length ≤ 1000000000) :
    loopM spec_l02Reach_L3730 (q, (at_ : Int), es, (es.length : Int), 0, n, es, ()) = some (.inl (qpass x es q, ((at_ + 1 : Nat) : Int), n, es, ())) := by
  have := loop_fold (f := spec_l02Reach_L3730) (fun q i => (q, (at_ : Int), es, (es.length : Int), i, n, es, ())) (qstep x) (fun i q => q[at_]? = some x ∧ q.length ≤ 1000000000 + 2 * i) es es.length rfl (fun q => .inl (q, ((at_ + 1 : Nat) : Int), n, es, ())) q ⟨hx, by omega⟩ (fun q i e hi ⟨hx, hq⟩ => by
    have hlt := lt_of_get hi
    have hat := lt_of_get hx
    have h1 : (if e.1 = x then qadd q e.2 else q)[at_]? = some x ∧ (if e.1 = x then qadd q e.2 else q).length ≤ q.length + 1 := by
      split
      · exact ⟨qadd_get hx _, qadd_len _ _⟩
      · exact ⟨hx, by omega⟩
    have h2 : (qstep x q e)[at_]? = some x ∧ (qstep x q e).length ≤ q.length + 2 := by
      unfold qstep; dsimp only; split
      · exact ⟨qadd_get h1.1 _, by have := qadd_len (if e.1 = x then qadd q e.2 else q) e.1; omega⟩
      · exact ⟨h1.1, by omega⟩
    refine ⟨?_, h2.1, by omega⟩
    simp only [spec_l02Reach_L3730]
    simp (disch := omega) only [cond_pos, chk_pos, w64_of, atD_nat, getD_of hi, getD_of hx, spec_l02Has_spec q e.2 (by omega), Option.bind_some]
    have step2 : ∀ q1 : List Int, q1[at_]? = some x → q1.length ≤ 2000000000000 → spec_l02Reach_J954981 (q1, (at_ : Int), es, (es.length : Int), (i : Int), n, es, e.1, e.2, ()) = some (.inl (if e.2 = x then qadd q1 e.1 else q1, (at_ : Int), es, (es.length : Int), ((i + 1 : Nat) : Int), n, es, ())) := by
      intro q1 hq1 hl1
      have := lt_of_get hq1
      simp only [spec_l02Reach_J954981]
      simp (disch := omega) only [chk_pos, w64_of, atD_nat, getD_of hq1, spec_l02Has_spec q1 e.1 (by omega), Option.bind_some]
      by_cases a1 : e.2 = x
      · rw [if_pos a1, a1]
        simp only [beq_self_eq_true, cond_true]
        by_cases a2 : e.1 ∈ q1
        · simp [a2, qadd]
        · simp only [a2, decide_false, Bool.not_false, cond_true, List.length_singleton]
          rw [chk_pos (by omega)]
          simp [a2, qadd]
      · rw [if_neg a1]
        have b1 : (e.2 == x) = false := by simpa using a1
        simp [b1]
    by_cases a1 : e.1 = x
    · simp only [a1, beq_self_eq_true, cond_true, joinB_inl, spec_l02Reach_J954980]
      simp only [a1, if_true] at h1
      by_cases a2 : e.2 ∈ q
      · simp only [a2, decide_true, Bool.not_true, cond_false, joinB_inl]
        rw [← a1, step2 q hx (by omega)]
        simp [qstep, a1, qadd, a2]
      · have e1 : qadd q e.2 = q ++ [e.2] := by simp [qadd, a2]
        simp only [a2, decide_false, Bool.not_false, cond_true, List.length_singleton]
        rw [chk_pos (by omega)]
        simp only [joinB_inl]
        rw [← e1, ← a1, step2 (qadd q e.2) h1.1 (by omega)]
        simp [qstep, a1]
    · have e1 : (e.1 == x) = false := by simpa using a1
      simp only [e1, cond_false, joinB_inl, spec_l02Reach_J954980]
      rw [step2 q hx (by omega)]
      simp [qstep, a1]) (fun q _ => by
    simp only [spec_l02Reach_L3730]
    have hat : (at_ : Int) + 1 = ((at_ + 1 : Nat) : Int) := by omega
    have := lt_of_get hx
    simp (disch := omega) only [cond_neg, w64_of, Option.map_some, hat])
  rw [this.1]; rfl
theorem spec_l02Reach_spec (g : Int) (n : Nat) (es : Es) (he : EOk n es) (hn : 0 < n) (h6 : n ≤ 1000) (hb : es.length ≤ 1000000000) : ∃ q, spec_l02Reach (g, es, ()) = some (q, ()) ∧ QInv n es 0 q ∧ QDone es q q.length := by
  have h0 : (0 : Int) ≤ 0 ∧ (0 : Int) < n := by omega
  have key : ∀ (m : Nat) (q : List Int) (at_ : Nat), n - at_ = m → QInv n es 0 q → QDone es q at_ → at_ ≤ q.length → ∃ q', loopM spec_l02Reach_L58 (q, (at_ : Int), g, es, ()) = some (q', ()) ∧ QInv n es 0 q' ∧ QDone es q' q'.length := by
    intro m
    induction m with
    | zero =>
      intro q at_ hm hi hd hle
      have hl := hi.len he h0
      refine ⟨q, ?_, hi, ?_⟩
      · apply loop_out
        simp only [spec_l02Reach_L58]
        simp (disch := omega) only [cond_neg, Option.map_some]
      · intro i hi'; exact hd i (by omega)
    | succ m ih =>
      intro q at_ hm hi hd hle
      have hl := hi.len he h0
      by_cases hlt : at_ < q.length
      · have hx : q[at_]? = some q[at_] := List.getElem?_eq_getElem hlt
        obtain ⟨i1, i2⟩ := qround hi hd hx
        obtain ⟨t, ht⟩ := qpass_pre q[at_] es q
        obtain ⟨q', h1, h2⟩ := ih (qpass q[at_] es q) (at_ + 1) (by omega) i1 i2 (by rw [ht]; simp; omega)
        refine ⟨q', ?_, h2⟩
        rw [← h1]
        apply loop_in
        simp only [spec_l02Reach_L58]
        simp (disch := omega) only [cond_pos, spec_l02Reach_inner g es hb q at_ _ hx (by omega)]
      · refine ⟨q, ?_, hi, ?_⟩
        · apply loop_out
          simp only [spec_l02Reach_L58]
          simp (disch := omega) only [cond_neg, Option.map_some]
        · intro i hi'; exact hd i (by omega)
  simp only [spec_l02Reach]
  exact key n [0] 0 (by omega) ⟨by simp, by simpa using .refl, rfl⟩ (fun i hi => by omega) (by simp)
theorem reach_conn (g : Int) (n : Nat) (es : Es) (he : EOk n es) (hn : 0 < n) (h6 : n ≤ 1000) (hb : es.length ≤ 1000000000) : ∃ q, spec_l02Reach (g, es, ()) = some (q, ()) ∧ ((q.length : Int) == (n : Int)) = connB n es := by
  obtain ⟨q, h1, h2, h3⟩ := spec_l02Reach_spec g n es he hn h6 hb
  refine ⟨q, h1, ?_⟩
  have := queue_conn he hn h2 h3
  rw [Bool.eq_iff_iff, beq_iff_eq]
  simp only [connB, decide_eq_true_eq]
  rw [← this]
  omega
theorem spec_GraphOk_spec (n : Int) (es : Es) (hb : es.length ≤ 8796093022208) : spec_GraphOk (n, es, ()) = some (gokB n es, ()) := by
  simp only [spec_GraphOk, spec_EdgesOk_spec n es hb, Option.bind_some, gokB]
  cases h : edgesB n es
  · rfl
  · simp only [Bool.not_true, cond_false, Bool.true_and]
    obtain ⟨h3, h4, h5⟩ := edgesB_spec h
    obtain ⟨m, rfl⟩ := Int.eq_ofNat_of_zero_le (show 0 ≤ n by omega)
    obtain ⟨q, hq, hc⟩ := reach_conn (m : Int) m es h5 (by omega) (by omega) (by omega)
    have := loop_forallN (f := spec_GraphOk_L58) (fun i => (es, (es.length : Int), i, (m : Int), es, ())) (fun i => decide (i = 0) || !ltB (es.getD i (0, 0)) (es.getD (i - 1) (0, 0))) es.length (false, ()) (connB m es, ()) (fun i hi => by
      simp only [spec_GraphOk_L58]
      by_cases h0 : i = 0
      · subst h0
        simp (disch := omega) only [cond_pos, cond_neg, chk_pos, w64_of]
        rfl
      · have e1 : (i : Int) - 1 = ((i - 1 : Nat) : Int) := by omega
        simp (disch := omega) only [cond_pos, chk_pos, w64_of, e1, atD_nat]
        generalize es.getD i (0, 0) = a
        generalize es.getD (i - 1) (0, 0) = b
        by_cases a1 : a.1 < b.1
        · simp [ltB, a1, h0]
        · rw [cond_neg a1]
          by_cases a2 : a.1 = b.1
          · by_cases a3 : a.2 < b.2
            · simp [ltB, a1, a2, a3, h0]
            · simp [ltB, a1, a2, a3, h0]
          · have b2 : (a.1 == b.1) = false := by simpa using a2
            simp [ltB, a1, a2, b2, h0]) (by
      simp only [spec_GraphOk_L58]
      simp (disch := omega) only [cond_neg, hq, Option.bind_some, hc, Option.map_some])
    rw [this]
    have e2 : ((List.range es.length).all fun i => decide (i = 0) || !ltB (es.getD i (0, 0)) (es.getD (i - 1) (0, 0))) = sortedB es := by
      rw [Bool.eq_iff_iff]
      simp only [sortedB, List.all_eq_true, List.mem_range, Bool.or_eq_true, decide_eq_true_eq]
      constructor
      · intro hh i hi
        rcases hh (i + 1) (by omega) with h' | h'
        · omega
        · simpa using h'
      · intro hh i hi
        by_cases h0 : i = 0
        · exact .inl h0
        · right
          have := hh (i - 1) (by omega)
          rw [show i - 1 + 1 = i by omega] at this
          exact this
    rw [e2]
    cases sortedB es <;> rfl
end Go.Pm.Try

set_option linter.unusedVariables false
set_option linter.unusedSimpArgs false
namespace Go.Pm.Try
open Go.Pm Go.Pm.Th
theorem bne_false_iff (a b : Int) : (a != b) = !decide (a = b) := by
  by_cases h : a = b
  · simp [h]
  · have : (a == b) = false := by simpa using h
    simp [bne, this, h]
theorem beq_dec (a b : Int) : (a == b) = decide (a = b) := by
  by_cases h : a = b
  · simp [h]
  · have : (a == b) = false := by simpa using h
    simp [this, h]
def allInB (l : List Int) (lo hi : Int) : Bool := l.all fun x => decide (lo ≤ x ∧ x ≤ hi)
theorem impl_allWithin_spec (l : List Int) (lo hi : Int) (hb : l.length ≤ 17592186044416) : impl_allWithin (l, lo, hi, ()) = some (allInB l lo hi, ()) := by
  simp only [impl_allWithin]
  have := loop_forall (f := impl_allWithin_L26) (fun i => (lo, hi, l, (l.length : Int), i, ())) (fun x => decide (lo ≤ x ∧ x ≤ hi)) l (false, ()) (true, ()) (fun i a ha => by
    have hi' := lt_of_get ha
    simp only [impl_allWithin_L26, impl_within_spec, Option.bind_some]
    simp (disch := omega) only [cond_pos, chk_pos, w64_of, atD_nat, getD_of ha]
    cases decide (lo ≤ a ∧ a ≤ hi) <;> rfl) (by
    simp only [impl_allWithin_L26]
    simp (disch := omega) only [cond_neg, Option.map_some])
  rw [this]
  show _ = some (allInB l lo hi, ())
  unfold allInB
  cases l.all fun x => decide (lo ≤ x ∧ x ≤ hi) <;> rfl
theorem gokB_n {n : Int} {es : Es} (h : gokB n es = true) : (1 ≤ n ∧ n ≤ 6) ∧ es.length ≤ 12 := by
  simp only [gokB, Bool.and_eq_true] at h
  have := edgesB_spec h.1.1
  exact ⟨this.1, this.2.1⟩
theorem atD_at0 (l : List Int) (v : Int) : atD 0 l v = at0 l v := rfl
theorem atD_edge (es : Es) (k : Int) : atD (0, 0) es k = edge es k := rfl
end Go.Pm.Try

set_option linter.unusedVariables false
set_option linter.unusedSimpArgs false
set_option linter.unusedSectionVars false
namespace Go.Pm.Try
open Go.Pm Go.Pm.Th
section
variable {α σ S R : Type} {f : S → Option (S ⊕ R)}
def nxt (mk : σ → Int → S) (i : Nat) : σ ⊕ R → S ⊕ R
  | .inl s' => .inl (mk s' (i : Int))
  | .inr r => .inr r
def fino (fin : σ → R) : σ ⊕ R → R
  | .inl s => fin s
  | .inr r => r
theorem loop_run (mk : σ → Int → S) (g : σ → α → σ ⊕ R) (P : Nat → σ → Prop) (l : List α) (n : Nat) (hn : n = l.length) (fin : σ → R) (s : σ) (h0 : P 0 s)
    (hstep : ∀ (s : σ) (i : Nat) (a : α), l[i]? = some a → P i s → f (mk s i) = some (nxt mk (i + 1) (g s a)) ∧ ∀ s', g s a = .inl s' → P (i + 1) s')
    (hfin : ∀ s, P n s → f (mk s n) = some (.inr (fin s))) : loopM f (mk s 0) = some (fino fin (runL g l s)) := by
  rw [loop_list (f := f) mk g P l n hn fin s h0 (fun s i a ha hp => ⟨by rw [(hstep s i a ha hp).1]; cases g s a <;> rfl, (hstep s i a ha hp).2⟩) hfin]
  cases runL g l s <;> rfl
end
/-- edges with their images -/
abbrev Zs := List ((Int × Int) × Int)
def edgeMapB (hs : Es) (vs : List Int) (a : (Int × Int) × Int) : Bool :=
  if a.2 = -1 then decide (at0 vs a.1.1 = at0 vs a.1.2)
  else decide (0 ≤ a.2 ∧ a.2 < hs.length) && (decide ((edge hs a.2).1 = min2 (at0 vs a.1.1) (at0 vs a.1.2)) && decide ((edge hs a.2).2 = max2 (at0 vs a.1.1) (at0 vs a.1.2)))
noncomputable def morB (n : Int) (es : Es) (N : Int) (hs : Es) (vs ks : List Int) : Bool :=
  gokB n es && (gokB N hs && (decide ((vs.length : Int) = n) && (decide ((ks.length : Int) = es.length) && (allInB vs 0 (N - 1) && (es.zip ks).all (edgeMapB hs vs)))))
theorem zip_get {es : Es} {ks : List Int} {i : Nat} {a : (Int × Int) × Int} (h : (es.zip ks)[i]? = some a) : es[i]? = some a.1 ∧ ks[i]? = some a.2 := by
  rw [List.getElem?_zip_eq_some] at h
  exact h
theorem spec_MorphismOk_spec (n : Int) (es : Es) (N : Int) (hs : Es) (vs ks : List Int) (hb : es.length ≤ 8796093022208) (hc : hs.length ≤ 8796093022208) (hv : vs.length ≤ 17592186044416) (hk : ks.length ≤ 17592186044416) :
    spec_MorphismOk (n, es, N, hs, vs, ks, ()) = some (morB n es N hs vs ks, ()) := by
  simp only [spec_MorphismOk, spec_GraphOk_spec n es hb, spec_GraphOk_spec N hs hc, Option.bind_some, bne_false_iff, morB]
  cases hg : gokB n es
  · rfl
  cases hh : gokB N hs
  · rfl
  by_cases h1 : (vs.length : Int) = n
  rotate_left
  · simp [h1, spec_MorphismOk_J12]
  by_cases h2 : (ks.length : Int) = es.length
  rotate_left
  · simp [h1, h2, spec_MorphismOk_J12]
  simp only [h1, h2, decide_true, Bool.not_true, cond_false, joinB_inl, spec_MorphismOk_J12, Bool.true_and]
  have hN := gokB_n hh
  have he : EOk n es := (edgesB_spec (by simp only [gokB, Bool.and_eq_true] at hg; exact hg.1.1)).2.2
  have l1 := loop_forall (f := spec_MorphismOk_L58) (fun i => (vs, (vs.length : Int), i, n, es, N, hs, vs, ks, ())) (fun x => decide (0 ≤ x ∧ x ≤ N - 1)) vs (.inr (false, ())) (.inl (n, es, N, hs, vs, ks, ())) (fun i a ha => by
    have hi' := lt_of_get ha
    simp only [spec_MorphismOk_L58, spec_l01In_spec, Option.bind_some]
    simp (disch := omega) only [cond_pos, chk_pos, w64_of, atD_nat, getD_of ha]
    cases decide (0 ≤ a ∧ a ≤ N - 1) <;> rfl) (by
    simp only [spec_MorphismOk_L58]
    simp (disch := omega) only [cond_neg, Option.map_some])
  rw [h1] at l1
  rw [l1]
  unfold allInB
  cases vs.all fun x => decide (0 ≤ x ∧ x ≤ N - 1)
  · rfl
  simp only [cond_true, joinB_inl, spec_MorphismOk_J29, Bool.true_and]
  have hz : (es.zip ks).length = es.length := by rw [List.length_zip]; omega
  have l2 := loop_forall (f := spec_MorphismOk_L122) (fun i => (es, (es.length : Int), i, N, hs, vs, ks, ())) (edgeMapB hs vs) (es.zip ks) (false, ()) (true, ()) (fun i a ha => by
    obtain ⟨g1, g2⟩ := zip_get ha
    have hi := lt_of_get g1
    have ho := he a.1 (List.mem_of_getElem? g1)
    simp only [spec_MorphismOk_L122, atD_nat, getD_of g1, getD_of g2, spec_l01In_spec, Option.bind_some]
    simp (disch := omega) only [cond_pos, chk_pos, w64_of, beq_dec, bne_false_iff]
    unfold edgeMapB
    by_cases c1 : a.2 = -1
    · rw [if_pos c1, decide_eq_true c1]
      by_cases q : at0 vs a.1.1 = at0 vs a.1.2 <;> simp [q, atD_at0]
    · rw [if_neg c1, decide_eq_false c1]
      by_cases c2 : 0 ≤ a.2 ∧ a.2 < hs.length
      · rw [decide_eq_true c2, decide_eq_true (show 0 ≤ a.2 ∧ a.2 ≤ (hs.length : Int) - 1 by omega)]
        simp only [cond_false, Bool.not_true, Bool.true_and, chk_pos c2, atD_at0, atD_edge]
        by_cases q : (edge hs a.2).1 = min2 (at0 vs a.1.1) (at0 vs a.1.2) <;> by_cases q2 : (edge hs a.2).2 = max2 (at0 vs a.1.1) (at0 vs a.1.2) <;> simp [q, q2]
      · rw [decide_eq_false c2, decide_eq_false (show ¬ (0 ≤ a.2 ∧ a.2 ≤ (hs.length : Int) - 1) by omega)]
        rfl) (by
    rw [hz]
    simp only [spec_MorphismOk_L122]
    simp (disch := omega) only [cond_neg, Option.map_some])
  have l2' : loopM spec_MorphismOk_L122 (es, (es.length : Int), 0, N, hs, vs, ks, ()) = _ := l2
  rw [l2']
  cases (es.zip ks).all (edgeMapB hs vs) <;> rfl
theorem impl_MorphismOk_spec (n : Int) (es : Es) (N : Int) (hs : Es) (vs ks : List Int) (hb : es.length ≤ 8796093022208) (hc : hs.length ≤ 8796093022208) (hv : vs.length ≤ 17592186044416) (hk : ks.length ≤ 17592186044416) :
    impl_MorphismOk (n, es, N, hs, vs, ks, ()) = some (morB n es N hs vs ks, ()) := by
  simp only [impl_MorphismOk, impl_GraphOk_spec n es hb, impl_GraphOk_spec N hs hc, impl_allWithin_spec vs _ _ hv, impl_allWithin_spec ks _ _ hk, Option.bind_some, bne_false_iff, morB]
  cases hg : gokB n es
  · rfl
  cases hh : gokB N hs
  · rfl
  by_cases h1 : (vs.length : Int) = n
  rotate_left
  · simp [h1, impl_MorphismOk_J12]
  by_cases h2 : (ks.length : Int) = es.length
  rotate_left
  · simp [h1, h2, impl_MorphismOk_J12]
  have hN := gokB_n hh
  have he : EOk n es := (edgesB_spec (by simp only [gokB, Bool.and_eq_true] at hg; exact hg.1.1)).2.2
  have hz : (es.zip ks).length = es.length := by rw [List.length_zip]; omega
  simp only [h1, h2, decide_true, Bool.not_true, cond_false, Bool.true_and]
  rw [w64_of (x := N - 1) (by omega) (by omega), w64_of (x := (hs.length : Int) - 1) (by omega) (by omega)]
  cases allInB vs 0 (N - 1)
  · rfl
  cases hall : allInB ks (-1) ((hs.length : Int) - 1)
  · simp only [Bool.not_true, Bool.not_false, cond_false, joinB_inl, impl_MorphismOk_J12, cond_true, Bool.true_and]
    have : (es.zip ks).all (edgeMapB hs vs) = false := by
      rw [Bool.eq_false_iff]
      intro hall'
      rw [List.all_eq_true] at hall'
      rw [allInB, List.all_eq_false] at hall
      obtain ⟨x, hx, hno⟩ := hall
      obtain ⟨i, hi⟩ := List.getElem?_of_mem hx
      have hlt := lt_of_get hi
      have hget : (es.zip ks)[i]? = some (es[i]'(by omega), x) := List.getElem?_zip_eq_some.2 ⟨List.getElem?_eq_getElem (by omega), hi⟩
      have := hall' _ (List.mem_of_getElem? hget)
      unfold edgeMapB at this
      simp only [] at this
      simp only [decide_eq_true_eq] at hno
      split at this
      · omega
      · simp only [Bool.and_eq_true, decide_eq_true_eq] at this
        omega
    rw [this]
  simp only [Bool.not_true, cond_false, joinB_inl, impl_MorphismOk_J12, Bool.true_and]
  have hall' : ∀ x ∈ ks, -1 ≤ x ∧ x ≤ (hs.length : Int) - 1 := by simpa [allInB] using hall
  have l2 := loop_forall (f := impl_MorphismOk_L58) (fun i => (ks, (ks.length : Int), i, n, es, N, hs, vs, ks, ())) (edgeMapB hs vs) (es.zip ks) (false, ()) (true, ()) (fun i a ha => by
    obtain ⟨g1, g2⟩ := zip_get ha
    have hi := lt_of_get g1
    have ho := he a.1 (List.mem_of_getElem? g1)
    have hr := hall' a.2 (List.mem_of_getElem? g2)
    simp only [impl_MorphismOk_L58, atD_nat, getD_of g1, getD_of g2]
    simp (disch := omega) only [cond_pos, chk_pos, w64_of, beq_dec, bne_false_iff]
    unfold edgeMapB
    by_cases c1 : a.2 = -1
    · rw [if_pos c1, decide_eq_true c1, decide_eq_false (show ¬ a.2 ≥ 0 by omega)]
      by_cases q : at0 vs a.1.1 = at0 vs a.1.2 <;> simp [q, atD_at0]
    · rw [if_neg c1, decide_eq_false c1]
      have c2 : 0 ≤ a.2 ∧ a.2 < hs.length := by omega
      rw [decide_eq_true c2, decide_eq_true (show a.2 ≥ 0 by omega)]
      simp only [cond_false, cond_true, Bool.not_true, Bool.true_and, chk_pos c2, atD_at0, atD_edge]
      by_cases q : (edge hs a.2).1 = min2 (at0 vs a.1.1) (at0 vs a.1.2) <;> by_cases q2 : (edge hs a.2).2 = max2 (at0 vs a.1.1) (at0 vs a.1.2) <;> simp [q, q2]) (by
    rw [hz]
    simp only [impl_MorphismOk_L58]
    simp (disch := omega) only [cond_neg, Option.map_some])
  have l2' : loopM impl_MorphismOk_L58 (ks, (ks.length : Int), 0, n, es, N, hs, vs, ks, ()) = _ := l2
  rw [l2']
  cases (es.zip ks).all (edgeMapB hs vs) <;> rfl
def over1 (v k : Int) (a : (Int × Int) × Int) : Int := if (a.1.1 = v ∨ a.1.2 = v) ∧ a.2 = k then 1 else 0
def overZ (z : Zs) (v k : Int) : Int := z.foldl (fun s a => s + over1 v k a) 0
theorem over1_01 (v k : Int) (a : (Int × Int) × Int) : 0 ≤ over1 v k a ∧ over1 v k a ≤ 1 := by unfold over1; split <;> omega
theorem over_fold (v k : Int) : ∀ (z : Zs) (s : Int), 0 ≤ s → 0 ≤ z.foldl (fun s a => s + over1 v k a) s
  | [], s, h => h
  | a :: z, s, h => over_fold v k z (s + over1 v k a) (by have := over1_01 v k a; omega)
theorem overZ_nonneg (z : Zs) (v k : Int) : 0 ≤ overZ z v k := over_fold v k z 0 (Int.le_refl _)
def atImg (hs : Es) (vs : List Int) (v : Int) (j : Nat) : Bool := decide ((edge hs j).1 = at0 vs v) || decide ((edge hs j).2 = at0 vs v)
def mults (z : Zs) (hs : Es) (vs : List Int) (v : Int) : List Int := ((List.range hs.length).filter (atImg hs vs v)).map fun (j : Nat) => overZ z v (j : Int)
def allEqB : List Int → Bool
  | [] => true
  | a :: t => t.all fun x => decide (x = a)
theorem spec_l16Over_spec (n : Int) (es : Es) (vs ks : List Int) (v k : Int) (hz : ks.length = es.length) (hb : es.length ≤ 1000000) : spec_l16Over (n, es, vs, ks, v, k, ()) = some (overZ (es.zip ks) v k, ()) := by
  simp only [spec_l16Over]
  have hzl : (es.zip ks).length = es.length := by rw [List.length_zip]; omega
  have := loop_fold (f := spec_l16Over_L58) (fun s i => (v, k, s, es, (es.length : Int), i, vs, ks, ())) (fun (s : Int) a => s + over1 v k a) (fun i s => 0 ≤ s ∧ s ≤ i) (es.zip ks) es.length hzl.symm (fun s => (s, ())) 0 ⟨Int.le_refl _, Int.le_refl _⟩ (fun s i a ha hs => by
    obtain ⟨g1, g2⟩ := zip_get ha
    have hi := lt_of_get g1
    have ho := over1_01 v k a
    refine ⟨?_, show 0 ≤ s + over1 v k a ∧ s + over1 v k a ≤ ((i + 1 : Nat) : Int) by omega⟩
    simp only [spec_l16Over_L58, atD_nat, getD_of g1, getD_of g2]
    simp (disch := omega) only [cond_pos, chk_pos, w64_of, beq_dec]
    unfold over1
    by_cases h1 : a.1.1 = v
    · by_cases h2 : a.2 = k
      · simp [h1, h2]
      · simp [h1, h2]
    · by_cases h3 : a.1.2 = v
      · by_cases h2 : a.2 = k
        · simp [h1, h2, h3]
        · simp [h1, h2, h3]
      · simp [h1, h3]) (fun s hs => by
    simp only [spec_l16Over_L58]
    simp (disch := omega) only [cond_neg, Option.map_some])
  exact this.1
/-- a run that compares -/
def horG (p : Nat → Bool) (f : Nat → Int) (s : Int × Bool) (j : Nat) : (Int × Bool) ⊕ (Int × Unit) :=
  if p j then (if s.2 then .inl (f j, false) else if f j = s.1 then .inl (f j, false) else .inr (-1, ())) else .inl s
theorem horRun (p : Nat → Bool) (f : Nat → Int) : ∀ (l : List Nat) (b : Int), runL (horG p f) l (b, false) = if ((l.filter p).map f).all (fun x => decide (x = b)) then .inl (b, false) else .inr (-1, ())
  | [], b => rfl
  | j :: l, b => by
    simp only [runL]
    by_cases h : p j = true
    · by_cases h2 : f j = b
      · rw [show horG p f (b, false) j = .inl (b, false) by simp [horG, h, h2]]
        simp only []
        rw [horRun p f l b, List.filter_cons_of_pos h]
        simp [h2]
      · rw [show horG p f (b, false) j = .inr (-1, ()) by simp [horG, h, h2]]
        rw [List.filter_cons_of_pos h]
        simp [h2]
    · rw [show horG p f (b, false) j = .inl (b, false) by simp [horG, h]]
      simp only []
      rw [horRun p f l b, List.filter_cons_of_neg h]
theorem horRun0 (p : Nat → Bool) (f : Nat → Int) : ∀ (l : List Nat), fino (fun s => (s.1, ())) (runL (horG p f) l (0, true)) = (if allEqB ((l.filter p).map f) then ((l.filter p).map f).headD 0 else -1, ())
  | [] => rfl
  | j :: l => by
    simp only [runL]
    by_cases h : p j = true
    · rw [show horG p f (0, true) j = .inl (f j, false) by simp [horG, h]]
      simp only []
      rw [horRun p f l (f j), List.filter_cons_of_pos h]
      simp only [List.map_cons, allEqB, List.headD_cons]
      cases ((l.filter p).map f).all (fun x => decide (x = f j)) <;> rfl
    · rw [show horG p f (0, true) j = .inl (0, true) by simp [horG, h]]
      simp only []
      rw [List.filter_cons_of_neg h]
      exact horRun0 p f l
theorem spec_l16Horizontal_spec (n : Int) (es : Es) (N : Int) (hs : Es) (vs ks : List Int) (v : Int) (hz : ks.length = es.length) (hb : es.length ≤ 1000000) (hc : hs.length ≤ 1000000) (hv : 0 ≤ v ∧ v < vs.length) :
    spec_l16Horizontal (n, es, N, hs, vs, ks, v, ()) = some (if allEqB (mults (es.zip ks) hs vs v) then (mults (es.zip ks) hs vs v).headD 0 else -1, ()) := by
  simp only [spec_l16Horizontal]
  have hr : (List.range hs.length).length = hs.length := List.length_range
  have := loop_run (f := spec_l16Horizontal_L122) (fun (s : Int × Bool) i => (v, s.1, s.2, hs, (hs.length : Int), i, n, es, vs, ks, ())) (horG (atImg hs vs v) (fun j => overZ (es.zip ks) v (j : Int))) (fun _ _ => True) (List.range hs.length) hs.length hr.symm (fun s => (s.1, ())) (0, true) trivial (fun s i a ha _ => by
    have hi : i < hs.length := by have := lt_of_get ha; omega
    have ea : a = i := by rw [List.getElem?_range hi] at ha; cases ha; rfl
    subst ea
    refine ⟨?_, fun _ _ => trivial⟩
    simp only [spec_l16Horizontal_L122]
    simp (disch := omega) only [cond_pos, chk_pos, bne_false_iff, atD_at0, atD_edge]
    have fin : ∀ t39 : Bool, t39 = !atImg hs vs v a → spec_l16Horizontal_J31332 (v, s.1, s.2, (a : Int), hs, (hs.length : Int), (a : Int), t39, n, es, vs, ks, ()) = some (nxt (fun (s : Int × Bool) i => (v, s.1, s.2, hs, (hs.length : Int), i, n, es, vs, ks, ())) (a + 1) (horG (atImg hs vs v) (fun j => overZ (es.zip ks) v (j : Int)) s a)) := by
      intro t39 ht
      subst ht
      simp only [spec_l16Horizontal_J31332, spec_l16Over_spec n es vs ks v (a : Int) hz hb, Option.bind_some, bne_false_iff]
      unfold horG
      cases h1 : atImg hs vs v a
      · simp (disch := omega) only [Bool.not_false, cond_true, w64_of]
        rfl
      · cases h2 : s.2
        · by_cases h3 : overZ (es.zip ks) v (a : Int) = s.1
          · simp (disch := omega) [h3, w64_of, nxt]
          · simp (disch := omega) [h3, w64_of, nxt]
        · simp (disch := omega) [w64_of, nxt]
    by_cases c1 : (edge hs (a : Int)).1 = at0 vs v
    · rw [decide_eq_true c1]
      simp only [Bool.not_true, cond_false, joinB_inl]
      exact fin false (by simp [atImg, c1])
    · rw [decide_eq_false c1]
      simp only [Bool.not_false, cond_true, joinB_inl]
      exact fin (!decide ((edge hs (a : Int)).2 = at0 vs v)) (by simp [atImg, c1])) (fun s _ => by
    simp only [spec_l16Horizontal_L122]
    simp (disch := omega) only [cond_neg, Option.map_some])
  have this' : loopM spec_l16Horizontal_L122 (v, 0, true, hs, (hs.length : Int), 0, n, es, vs, ks, ()) = _ := this
  rw [this', horRun0]
  rfl
theorem impl_isAt_spec (n : Int) (es : Es) (k : Nat) (v : Int) (hk : k < es.length) (hb : es.length ≤ 1000000) : impl_isAt (n, es, (k : Int), v, ()) = some (decide ((edge es k).1 = v) || decide ((edge es k).2 = v), ()) := by
  simp only [impl_isAt, impl_within_spec, Option.bind_some]
  rw [w64_of (by omega) (by omega), decide_eq_true (show (0 : Int) ≤ (k : Int) ∧ (k : Int) ≤ (es.length : Int) - 1 by omega)]
  simp (disch := omega) only [cond_true, chk_pos, beq_dec, atD_edge]
  cases decide ((edge es (k : Int)).1 = v) <;> rfl
theorem foldl_filter {α β : Type} (p : α → Bool) (f : α → β) : ∀ (l : List α) (out : List β), l.foldl (fun s j => if p j then s ++ [f j] else s) out = out ++ (l.filter p).map f
  | [], out => by simp
  | j :: l, out => by
    simp only [List.foldl_cons]
    rw [foldl_filter p f l]
    by_cases h : p j = true
    · rw [if_pos h, List.filter_cons_of_pos h]; simp
    · rw [if_neg h, List.filter_cons_of_neg h]
theorem impl_multiplicities_spec (n : Int) (es : Es) (N : Int) (hs : Es) (vs ks : List Int) (v : Int) (hz : ks.length = es.length) (hb : es.length ≤ 1000000) (hc : hs.length ≤ 1000000) (hv : 0 ≤ v ∧ v < vs.length) :
    impl_multiplicities (n, es, N, hs, vs, ks, v, ()) = some (mults (es.zip ks) hs vs v, ()) := by
  simp only [impl_multiplicities]
  have hzl : (es.zip ks).length = ks.length := by rw [List.length_zip]; omega
  have inner : ∀ (out : List Int) (j : Nat), out.length ≤ 1000000 → j ≤ 1000000 → loopM impl_multiplicities_L119610 (v, out, (j : Int), 0, (hs.length : Int), (j : Int), ks, (ks.length : Int), 0, n, es, N, hs, vs, ks, ()) = some (.inl (v, out ++ [overZ (es.zip ks) v (j : Int)], (hs.length : Int), ((j + 1 : Nat) : Int), n, es, N, hs, vs, ks, ())) := by
    intro out j ho hj
    have := loop_fold (f := impl_multiplicities_L119610) (fun s i => (v, out, (j : Int), s, (hs.length : Int), (j : Int), ks, (ks.length : Int), i, n, es, N, hs, vs, ks, ())) (fun (s : Int) a => s + over1 v (j : Int) a) (fun i s => 0 ≤ s ∧ s ≤ i) (es.zip ks) ks.length hzl.symm (fun s => .inl (v, out ++ [s], (hs.length : Int), ((j + 1 : Nat) : Int), n, es, N, hs, vs, ks, ())) 0 ⟨Int.le_refl _, Int.le_refl _⟩ (fun s i a ha hs' => by
      obtain ⟨g1, g2⟩ := zip_get ha
      have hi := lt_of_get g1
      have ho := over1_01 v (j : Int) a
      refine ⟨?_, show 0 ≤ s + over1 v (j : Int) a ∧ s + over1 v (j : Int) a ≤ ((i + 1 : Nat) : Int) by omega⟩
      have hed : edge es (i : Int) = a.1 := by rw [← atD_edge, atD_nat, getD_of g1]
      simp only [impl_multiplicities_L119610, atD_nat, getD_of g2, impl_isAt_spec n es i v hi hb, Option.bind_some, hed]
      simp (disch := omega) only [cond_pos, chk_pos, w64_of, beq_dec]
      unfold over1
      by_cases h2 : a.2 = (j : Int)
      · by_cases h1 : a.1.1 = v
        · simp [h1, h2]
        · by_cases h3 : a.1.2 = v
          · simp [h1, h2, h3]
          · simp [h1, h2, h3]
      · simp [h2]) (fun s hs' => by
      simp only [impl_multiplicities_L119610]
      rw [cond_neg (by omega), chk_pos (by simp; omega), w64_of (by omega) (by omega)]
      rfl)
    exact this.1
  have := loop_count (f := impl_multiplicities_L58) (fun s i => (v, s, (hs.length : Int), i, n, es, N, hs, vs, ks, ())) (fun j (s : List Int) => if atImg hs vs v j then s ++ [overZ (es.zip ks) v (j : Int)] else s) (fun i s => s.length ≤ i) hs.length (fun s => (s, ())) [] (by simp) (fun s i hi hs' => by
    refine ⟨?_, ?_⟩
    rotate_left
    · show (if atImg hs vs v i = true then s ++ [overZ (es.zip ks) v (i : Int)] else s).length ≤ i + 1
      split
      · simp; omega
      · omega
    simp only [impl_multiplicities_L58]
    rw [cond_pos (by omega), chk_pos (by omega), atD_at0, impl_isAt_spec N hs i (at0 vs v) hi hc]
    simp only [Option.bind_some]
    cases h1 : atImg hs vs v i
    · rw [show (decide ((edge hs (i : Int)).1 = at0 vs v) || decide ((edge hs (i : Int)).2 = at0 vs v)) = false from h1]
      simp (disch := omega) only [Bool.not_false, cond_true, w64_of]
      rfl
    · rw [show (decide ((edge hs (i : Int)).1 = at0 vs v) || decide ((edge hs (i : Int)).2 = at0 vs v)) = true from h1]
      simp only [Bool.not_true, cond_false, if_true]
      exact inner s i (by omega) (by omega)) (fun s hs' => by
    simp only [impl_multiplicities_L58]
    rw [cond_neg (by omega)]; rfl)
  have h1 := this.1
  rw [foldl_filter (atImg hs vs v) (fun (j : Nat) => overZ (es.zip ks) v (j : Int))] at h1
  exact h1
def minL (a : Int) (t : List Int) : Int := t.foldl min2 a
def maxL (a : Int) (t : List Int) : Int := t.foldl max2 a
theorem slices_Min_spec (a : Int) (t : List Int) (hb : t.length ≤ 1000000) : slices_Min_int_int (a :: t, ()) = some (minL a t, ()) := by
  simp only [slices_Min_int_int]
  rw [cond_neg (by simp; omega)]
  simp only [joinB_inl, slices_Min_int_int_J13]
  rw [chk_pos ⟨Int.le_refl _, by simp⟩]
  have := loop_fold (f := slices_Min_int_int_L122) (fun s i => (a :: t, s, i + 1, ())) min2 (fun _ _ => True) t t.length rfl (fun s => (s, ())) a trivial (fun s i x hi _ => by
    have hlt := lt_of_get hi
    refine ⟨?_, trivial⟩
    have e : (i : Int) + 1 = ((i + 1 : Nat) : Int) := by omega
    have hg : (a :: t)[i + 1]? = some x := by simpa using hi
    have hl : (a :: t).length = t.length + 1 := rfl
    simp only [slices_Min_int_int_L122, e, atD_nat, getD_of hg, hl]
    rw [cond_pos (by omega), chk_pos (by omega), w64_of (by omega) (by omega)]) (fun s _ => by
    have hl : (a :: t).length = t.length + 1 := rfl
    simp only [slices_Min_int_int_L122, hl]
    rw [cond_neg (by omega)]; rfl)
  exact this.1
theorem slices_Max_spec (a : Int) (t : List Int) (hb : t.length ≤ 1000000) : slices_Max_int_int (a :: t, ()) = some (maxL a t, ()) := by
  simp only [slices_Max_int_int]
  rw [cond_neg (by simp; omega)]
  simp only [joinB_inl, slices_Max_int_int_J13]
  rw [chk_pos ⟨Int.le_refl _, by simp⟩]
  have := loop_fold (f := slices_Max_int_int_L122) (fun s i => (a :: t, s, i + 1, ())) max2 (fun _ _ => True) t t.length rfl (fun s => (s, ())) a trivial (fun s i x hi _ => by
    have hlt := lt_of_get hi
    refine ⟨?_, trivial⟩
    have e : (i : Int) + 1 = ((i + 1 : Nat) : Int) := by omega
    have hg : (a :: t)[i + 1]? = some x := by simpa using hi
    have hl : (a :: t).length = t.length + 1 := rfl
    simp only [slices_Max_int_int_L122, e, atD_nat, getD_of hg, hl]
    rw [cond_pos (by omega), chk_pos (by omega), w64_of (by omega) (by omega)]) (fun s _ => by
    have hl : (a :: t).length = t.length + 1 := rfl
    simp only [slices_Max_int_int_L122, hl]
    rw [cond_neg (by omega)]; rfl)
  exact this.1
theorem minL_le : ∀ (t : List Int) (a : Int), minL a t ≤ a ∧ ∀ x ∈ t, minL a t ≤ x
  | [], a => ⟨Int.le_refl _, fun x h => by simp at h⟩
  | b :: t, a => by
    have ih := minL_le t (min2 a b)
    have hm : min2 a b ≤ a ∧ min2 a b ≤ b := by unfold min2; split <;> omega
    show minL (min2 a b) t ≤ a ∧ ∀ x ∈ b :: t, minL (min2 a b) t ≤ x
    refine ⟨by omega, fun x hx => ?_⟩
    rcases List.mem_cons.1 hx with rfl | hx
    · omega
    · exact ih.2 x hx
theorem maxL_ge : ∀ (t : List Int) (a : Int), a ≤ maxL a t ∧ ∀ x ∈ t, x ≤ maxL a t
  | [], a => ⟨Int.le_refl _, fun x h => by simp at h⟩
  | b :: t, a => by
    have ih := maxL_ge t (max2 a b)
    have hm : a ≤ max2 a b ∧ b ≤ max2 a b := by unfold max2; split <;> omega
    show a ≤ maxL (max2 a b) t ∧ ∀ x ∈ b :: t, x ≤ maxL (max2 a b) t
    refine ⟨by omega, fun x hx => ?_⟩
    rcases List.mem_cons.1 hx with rfl | hx
    · omega
    · exact ih.2 x hx
theorem minL_const : ∀ (t : List Int) (a : Int), (∀ x ∈ t, x = a) → minL a t = a ∧ maxL a t = a
  | [], a, _ => ⟨rfl, rfl⟩
  | b :: t, a, h => by
    have hb : b = a := h b (by simp)
    subst hb
    have ih := minL_const t b fun x hx => h x (by simp [hx])
    have h1 : min2 b b = b := by simp [min2]
    have h2 : max2 b b = b := by simp [max2]
    show minL (min2 b b) t = b ∧ maxL (max2 b b) t = b
    rw [h1, h2]; exact ih
theorem minL_maxL (a : Int) (t : List Int) : minL a t = maxL a t ↔ allEqB (a :: t) = true := by
  simp only [allEqB, List.all_eq_true, decide_eq_true_eq]
  constructor
  · intro h x hx
    have := minL_le t a
    have := maxL_ge t a
    have := (minL_le t a).2 x hx
    have := (maxL_ge t a).2 x hx
    omega
  · intro h
    obtain ⟨h1, h2⟩ := minL_const t a h
    rw [h1, h2]
noncomputable def harmB (n : Int) (es : Es) (N : Int) (hs : Es) (vs ks : List Int) : Bool := morB n es N hs vs ks && (List.range n.toNat).all fun (v : Nat) => allEqB (mults (es.zip ks) hs vs (v : Int))
theorem morB_len {n : Int} {es : Es} {N : Int} {hs : Es} {vs ks : List Int} (h : morB n es N hs vs ks = true) : gokB n es = true ∧ gokB N hs = true ∧ (vs.length : Int) = n ∧ ks.length = es.length ∧ (∀ x ∈ vs, 0 ≤ x ∧ x ≤ N - 1) ∧ ∀ a ∈ es.zip ks, edgeMapB hs vs a = true := by
  simp only [morB, Bool.and_eq_true, decide_eq_true_eq, allInB, List.all_eq_true] at h
  exact ⟨h.1, h.2.1, h.2.2.1, by have := h.2.2.2.1; omega, h.2.2.2.2.1, h.2.2.2.2.2⟩
theorem spec_IsHarmonic_spec (n : Int) (es : Es) (N : Int) (hs : Es) (vs ks : List Int) (hb : es.length ≤ 8796093022208) (hc : hs.length ≤ 8796093022208) (hv : vs.length ≤ 17592186044416) (hk : ks.length ≤ 17592186044416) :
    spec_IsHarmonic (n, es, N, hs, vs, ks, ()) = some (harmB n es N hs vs ks, ()) := by
  simp only [spec_IsHarmonic, spec_MorphismOk_spec n es N hs vs ks hb hc hv hk, Option.bind_some, harmB]
  cases hm : morB n es N hs vs ks
  · rfl
  obtain ⟨hg, hh, h1, h2, h3, h4⟩ := morB_len hm
  have hn := gokB_n hg
  have hN := gokB_n hh
  simp only [Bool.not_true, cond_false, Bool.true_and]
  have := loop_forallN (f := spec_IsHarmonic_L58) (fun i => (i, n, es, N, hs, vs, ks, ())) (fun (v : Nat) => allEqB (mults (es.zip ks) hs vs (v : Int))) n.toNat (false, ()) (true, ()) (fun i hi => by
    simp only [spec_IsHarmonic_L58]
    rw [cond_pos (by omega), spec_l16Horizontal_spec n es N hs vs ks (i : Int) h2 (by omega) (by omega) ⟨by omega, by omega⟩]
    simp only [Option.bind_some]
    cases hq : allEqB (mults (es.zip ks) hs vs (i : Int))
    · rfl
    · have : 0 ≤ (mults (es.zip ks) hs vs (i : Int)).headD 0 := by
        unfold mults
        cases (List.range hs.length).filter (atImg hs vs (i : Int)) with
        | nil => exact Int.le_refl _
        | cons j l => exact overZ_nonneg _ _ _
      rw [if_pos rfl, cond_neg (by omega), w64_of (by omega) (by omega)]
      rfl) (by
    simp only [spec_IsHarmonic_L58]
    rw [cond_neg (by omega)]; rfl)
  have this' : loopM spec_IsHarmonic_L58 (0, n, es, N, hs, vs, ks, ()) = _ := this
  rw [this']
  cases (List.range n.toNat).all fun (v : Nat) => allEqB (mults (es.zip ks) hs vs (v : Int)) <;> rfl
theorem mults_len (z : Zs) (hs : Es) (vs : List Int) (v : Int) : (mults z hs vs v).length ≤ hs.length := by
  unfold mults
  rw [List.length_map]
  have := List.length_filter_le (atImg hs vs v) (List.range hs.length)
  simpa using this
theorem impl_IsHarmonic_spec (n : Int) (es : Es) (N : Int) (hs : Es) (vs ks : List Int) (hb : es.length ≤ 8796093022208) (hc : hs.length ≤ 8796093022208) (hv : vs.length ≤ 17592186044416) (hk : ks.length ≤ 17592186044416) :
    impl_IsHarmonic (n, es, N, hs, vs, ks, ()) = some (harmB n es N hs vs ks, ()) := by
  simp only [impl_IsHarmonic, impl_MorphismOk_spec n es N hs vs ks hb hc hv hk, Option.bind_some, harmB]
  cases hm : morB n es N hs vs ks
  · rfl
  obtain ⟨hg, hh, h1, h2, h3, h4⟩ := morB_len hm
  have hn := gokB_n hg
  have hN := gokB_n hh
  simp only [Bool.not_true, cond_false, Bool.true_and]
  have := loop_forallN (f := impl_IsHarmonic_L58) (fun i => ((vs.length : Int), i, n, es, N, hs, vs, ks, ())) (fun (v : Nat) => allEqB (mults (es.zip ks) hs vs (v : Int))) n.toNat (false, ()) (true, ()) (fun i hi => by
    simp only [impl_IsHarmonic_L58]
    rw [cond_pos (by omega), impl_multiplicities_spec n es N hs vs ks (i : Int) h2 (by omega) (by omega) ⟨by omega, by omega⟩]
    simp only [Option.bind_some]
    have hl := mults_len (es.zip ks) hs vs (i : Int)
    cases hq : mults (es.zip ks) hs vs (i : Int) with
    | nil =>
      rw [cond_neg (by simp), w64_of (by omega) (by omega)]
      rfl
    | cons a t =>
      rw [hq] at hl
      have hl' : t.length + 1 ≤ hs.length := hl
      rw [cond_pos (by simp), slices_Min_spec a t (by omega), slices_Max_spec a t (by omega)]
      simp only [Option.bind_some, bne_false_iff]
      by_cases he : minL a t = maxL a t
      · rw [decide_eq_true he, (minL_maxL a t).1 he, w64_of (by omega) (by omega)]
        rfl
      · have : allEqB (a :: t) = false := by rw [Bool.eq_false_iff]; exact fun h => he ((minL_maxL a t).2 h)
        rw [decide_eq_false he, this]
        rfl) (by
    simp only [impl_IsHarmonic_L58]
    rw [cond_neg (by omega)]; rfl)
  have this' : loopM impl_IsHarmonic_L58 ((vs.length : Int), 0, n, es, N, hs, vs, ks, ()) = _ := this
  rw [this']
  cases (List.range n.toNat).all fun (v : Nat) => allEqB (mults (es.zip ks) hs vs (v : Int)) <;> rfl
end Go.Pm.Try

set_option linter.unusedVariables false
set_option linter.unusedSimpArgs false
set_option linter.unusedSectionVars false
namespace Go.Pm.Try
open Go.Pm Go.Pm.Th
def lsum (l : List Int) (f : Int → Int) : Int := (l.map f).sum
theorem lsum_cons (a : Int) (l : List Int) (f : Int → Int) : lsum (a :: l) f = f a + lsum l f := by simp [lsum]
theorem lsum_nil (f : Int → Int) : lsum [] f = 0 := rfl
theorem lsum_append (l m : List Int) (f : Int → Int) : lsum (l ++ m) f = lsum l f + lsum m f := by simp [lsum]
theorem lsum_bound {l : List Int} {f : Int → Int} {B : Int} (hl : l.length ≤ 3) (h : ∀ k, 0 ≤ f k ∧ f k ≤ B) (hB : 0 ≤ B) : 0 ≤ lsum l f ∧ lsum l f ≤ 3 * B := by
  match l, hl with
  | [], _ => simp only [lsum_nil]; omega
  | [a], _ => simp only [lsum_nil, lsum_cons]; have := h a; omega
  | [a, b], _ => simp only [lsum_nil, lsum_cons]; have := h a; have := h b; omega
  | [a, b, c], _ => simp only [lsum_nil, lsum_cons]; have := h a; have := h b; have := h c; omega
theorem lsum_nonneg {f : Int → Int} (h : ∀ k, 0 ≤ f k) : ∀ l : List Int, 0 ≤ lsum l f
  | [] => Int.le_refl _
  | a :: l => by rw [lsum_cons]; have := lsum_nonneg h l; have := h a; omega
theorem filter_map_cons (p : Nat → Bool) (f : Nat → Int) (i : Nat) (l : List Nat) : ((i :: l).filter p).map f = if p i then f i :: (l.filter p).map f else (l.filter p).map f := by
  by_cases h : p i = true
  · rw [if_pos h, List.filter_cons_of_pos h, List.map_cons]
  · rw [if_neg h, List.filter_cons_of_neg h]
/-- the images that an edge may have -/
def fitB (hs : Es) (vs : List Int) (e : Int × Int) (k : Int) : Bool := decide ((edge hs k).1 = min2 (at0 vs e.1) (at0 vs e.2)) && decide ((edge hs k).2 = max2 (at0 vs e.1) (at0 vs e.2))
def imgs (hs : Es) (vs : List Int) (e : Int × Int) : List Int := if at0 vs e.1 = at0 vs e.2 then [-1] else ((List.range hs.length).filter fun (j : Nat) => fitB hs vs e (j : Int)).map fun (j : Nat) => (j : Int)
/-- all choices, edge by edge -/
def cntM (leaf : List Int → Int) (choose : Int × Int → List Int) : Es → List Int → Int
  | [], pre => leaf pre
  | e :: rest, pre => lsum (choose e) fun k => cntM leaf choose rest (pre ++ [k])
def pw : Nat → Int
  | 0 => 1
  | k + 1 => 3 * pw k
theorem pw_bound {k : Nat} (h : k ≤ 5) : pw k ≤ 243 := by
  match k, h with
  | 0, _ => decide
  | 1, _ => decide
  | 2, _ => decide
  | 3, _ => decide
  | 4, _ => decide
  | 5, _ => decide
theorem pw_pos : ∀ k, 0 < pw k
  | 0 => by decide
  | k + 1 => by simp only [pw]; have := pw_pos k; omega
theorem cntM_bound {leaf : List Int → Int} {choose : Int × Int → List Int} (h : ∀ p, 0 ≤ leaf p ∧ leaf p ≤ 1) (hc : ∀ e, (choose e).length ≤ 3) : ∀ (rest : Es) (pre : List Int), 0 ≤ cntM leaf choose rest pre ∧ cntM leaf choose rest pre ≤ pw rest.length
  | [], pre => h pre
  | e :: rest, pre => by
    have := lsum_bound (hc e) (fun k => cntM_bound h hc rest (pre ++ [k])) (Int.le_of_lt (pw_pos _))
    exact this
theorem imgs_len {hs : Es} (h3 : hs.length ≤ 3) (vs : List Int) (e : Int × Int) : (imgs hs vs e).length ≤ 3 := by
  unfold imgs
  split
  · simp
  · rw [List.length_map]
    have := List.length_filter_le (fun (j : Nat) => fitB hs vs e (j : Int)) (List.range hs.length)
    rw [List.length_range] at this
    omega
theorem foldl_lsum (p : Nat → Bool) (f : Int → Int) : ∀ (l : List Nat) (s : Int), l.foldl (fun s j => if p j then s + f (j : Int) else s) s = s + lsum ((l.filter p).map fun (j : Nat) => (j : Int)) f
  | [], s => by simp [lsum_nil]
  | j :: l, s => by
    simp only [List.foldl_cons]
    rw [foldl_lsum p f l]
    by_cases h : p j = true
    · rw [if_pos h, List.filter_cons_of_pos h, List.map_cons, lsum_cons]; omega
    · rw [if_neg h, List.filter_cons_of_neg h]
theorem drop_get {es : Es} {k : Nat} {e : Int × Int} {rest : Es} (h : es.drop k = e :: rest) : es[k]? = some e ∧ es.drop (k + 1) = rest ∧ es.length = k + 1 + rest.length := by
  have hlt : k < es.length := by
    apply Classical.byContradiction; intro hn
    rw [List.drop_eq_nil_of_le (by omega)] at h; cases h
  rw [List.drop_eq_getElem_cons hlt] at h
  injection h with h1 h2
  refine ⟨by rw [List.getElem?_eq_getElem hlt, h1], h2, ?_⟩
  have : (es.drop (k + 1)).length = rest.length := by rw [h2]
  rw [List.length_drop] at this
  omega
section
variable {n N : Nat} {es hs : Es} (hg : gokB n es = true) (hh : gokB N hs = true) (h5 : es.length ≤ 5) (h3 : hs.length ≤ 3)
include hg hh h5 h3
noncomputable def leafS (n : Nat) (es : Es) (N : Nat) (hs : Es) (vs : List Int) (ks : List Int) : Int := if harmB n es N hs vs ks then 1 else 0
omit hg hh h5 h3 in
theorem leafS_01 (vs ks : List Int) : 0 ≤ leafS n es N hs vs ks ∧ leafS n es N hs vs ks ≤ 1 := by unfold leafS; split <;> omega
omit hh in
theorem spec_l16Count_rec_spec (vs : List Int) (hv : vs.length = n) : ∀ (rest : Es) (pre : List Int) (fuel : Nat), es.drop pre.length = rest → pre.length ≤ es.length → rest.length < fuel →
    spec_l16Count_rec fuel ((n : Int), es, (N : Int), hs, vs, pre, ()) = some (cntM (leafS n es N hs vs) (imgs hs vs) rest pre, ())
  | [], pre, 0, _, _, hf => absurd hf (Nat.not_lt_zero _)
  | _ :: _, pre, 0, _, _, hf => absurd hf (Nat.not_lt_zero _)
  | [], pre, fuel + 1, hd, hp, hf => by
    have hl : pre.length = es.length := by have := List.drop_eq_nil_iff.1 hd; omega
    have hn := gokB_n hg
    simp only [spec_l16Count_rec, spec_l16Count_step, beq_dec]
    rw [cond_pos (by omega), spec_IsHarmonic_spec (n : Int) es (N : Int) hs vs pre (by omega) (by omega) (by omega) (by omega)]
    simp only [Option.bind_some, cntM, leafS]
    cases harmB (n : Int) es (N : Int) hs vs pre <;> rfl
  | e :: rest, pre, fuel + 1, hd, hp, hf => by
    obtain ⟨g1, g2, g3⟩ := drop_get hd
    have hn := gokB_n hg
    have he : EOk n es := (edgesB_spec (by simp only [gokB, Bool.and_eq_true] at hg; exact hg.1.1)).2.2
    have ho := he e (List.mem_of_getElem? g1)
    have hr : rest.length < fuel := by simp at hf; omega
    have self : ∀ k : Int, spec_l16Count_rec fuel ((n : Int), es, (N : Int), hs, vs, pre ++ [k], ()) = some (cntM (leafS n es N hs vs) (imgs hs vs) rest (pre ++ [k]), ()) := fun k => spec_l16Count_rec_spec vs hv rest (pre ++ [k]) fuel (by rw [List.length_append]; exact g2) (by simp; omega) hr
    have hbd : ∀ k : Int, 0 ≤ cntM (leafS n es N hs vs) (imgs hs vs) rest (pre ++ [k]) ∧ cntM (leafS n es N hs vs) (imgs hs vs) rest (pre ++ [k]) ≤ 243 := fun k => by
      have h1 := cntM_bound (leaf := leafS n es N hs vs) (choose := imgs hs vs) (leafS_01 vs) (imgs_len h3 vs) rest (pre ++ [k])
      have := pw_bound (k := rest.length) (by omega)
      omega
    simp only [spec_l16Count_rec, spec_l16Count_step, beq_dec, atD_nat, getD_of g1, atD_at0]
    rw [cond_neg (by omega), chk_pos (by omega), chk_pos (by omega), chk_pos (by omega), chk_pos (by omega)]
    simp only [cntM, imgs]
    by_cases hab : at0 vs e.1 = at0 vs e.2
    · rw [if_pos hab, cond_pos hab, chk_pos (by simp; omega), chk_pos (by simp; omega)]
      simp only [List.nil_append, self, Option.bind_some, lsum_cons, lsum_nil]
      rw [Int.add_zero]
    · rw [if_neg hab, cond_neg hab]
      have := loop_count (f := spec_l16Count_L2042 (spec_l16Count_rec fuel)) (fun s i => (at0 vs e.1, at0 vs e.2, s, hs, (hs.length : Int), i, (n : Int), es, (N : Int), hs, vs, pre, ())) (fun j (s : Int) => if fitB hs vs e (j : Int) then s + cntM (leafS n es N hs vs) (imgs hs vs) rest (pre ++ [(j : Int)]) else s) (fun i s => 0 ≤ s ∧ s ≤ i * 243) hs.length (fun s => (s, ())) 0 ⟨Int.le_refl _, by omega⟩ (fun s i hi hs' => by
        have hb1 := hbd (i : Int)
        refine ⟨?_, ?_⟩
        · have fin : ∀ t : Bool, t = fitB hs vs e (i : Int) → spec_l16Count_J261426 (spec_l16Count_rec fuel) (at0 vs e.1, at0 vs e.2, s, (i : Int), hs, (hs.length : Int), (i : Int), t, (n : Int), es, (N : Int), hs, vs, pre, ()) = some (.inl (at0 vs e.1, at0 vs e.2, (if fitB hs vs e (i : Int) then s + cntM (leafS n es N hs vs) (imgs hs vs) rest (pre ++ [(i : Int)]) else s), hs, (hs.length : Int), ((i + 1 : Nat) : Int), (n : Int), es, (N : Int), hs, vs, pre, ())) := by
            intro t ht
            subst ht
            simp only [spec_l16Count_J261426]
            cases fitB hs vs e (i : Int)
            · rw [w64_of (x := (i : Int) + 1) (by omega) (by omega)]; rfl
            · simp only [cond_true, if_true]
              rw [chk_pos (by simp; omega), chk_pos (by simp; omega)]
              simp only [List.nil_append, self, Option.bind_some]
              rw [w64_of (by omega) (by omega), w64_of (by omega) (by omega)]
              rfl
          simp only [spec_l16Count_L2042, beq_dec, atD_edge]
          rw [cond_pos (by omega), chk_pos (by omega)]
          by_cases q : (edge hs (i : Int)).1 = min2 (at0 vs e.1) (at0 vs e.2)
          · rw [decide_eq_true q]
            simp only [cond_true, joinB_inl]
            exact fin (decide ((edge hs (i : Int)).2 = max2 (at0 vs e.1) (at0 vs e.2))) (by simp [fitB, q])
          · rw [decide_eq_false q]
            simp only [cond_false, joinB_inl]
            exact fin false (by simp [fitB, q])
        · show 0 ≤ (if fitB hs vs e (i : Int) then s + cntM (leafS n es N hs vs) (imgs hs vs) rest (pre ++ [(i : Int)]) else s) ∧ (if fitB hs vs e (i : Int) then s + cntM (leafS n es N hs vs) (imgs hs vs) rest (pre ++ [(i : Int)]) else s) ≤ ((i + 1 : Nat) : Int) * 243
          split <;> omega) (fun s hs' => by
        simp only [spec_l16Count_L2042]
        rw [cond_neg (by omega)]; rfl)
      have h1 := this.1
      rw [foldl_lsum (fun (j : Nat) => fitB hs vs e (j : Int)) (fun k => cntM (leafS n es N hs vs) (imgs hs vs) rest (pre ++ [k]))] at h1
      rw [Int.zero_add] at h1
      exact h1
def okI (hs : Es) (vs : List Int) (e : Int × Int) (k : Int) : Bool := if k = -1 then decide (at0 vs e.1 = at0 vs e.2) else fitB hs vs e k
noncomputable def leafI (n : Nat) (es : Es) (N : Nat) (hs : Es) (vs : List Int) (ks : List Int) : Int := if harmB n es N hs vs ks && !allEqB vs then 1 else 0
omit hg hh h5 h3 in
theorem leafI_01 (vs ks : List Int) : 0 ≤ leafI n es N hs vs ks ∧ leafI n es N hs vs ks ≤ 1 := by unfold leafI; split <;> omega
/-- the images from a place on -/
def okFrom (hs : Es) (vs : List Int) (e : Int × Int) (i m : Nat) : List Int := ((List.range' i m).filter fun (j : Nat) => okI hs vs e ((j : Int) - 1)).map fun (j : Nat) => (j : Int) - 1
omit hg hh h5 h3 in
theorem okFrom_cons (vs : List Int) (e : Int × Int) (i m : Nat) : okFrom hs vs e i (m + 1) = if okI hs vs e ((i : Int) - 1) then ((i : Int) - 1) :: okFrom hs vs e (i + 1) m else okFrom hs vs e (i + 1) m := by
  unfold okFrom
  rw [List.range'_succ]
  exact filter_map_cons (fun (j : Nat) => okI hs vs e ((j : Int) - 1)) (fun (j : Nat) => (j : Int) - 1) i (List.range' (i + 1) m)
omit hg h5 h3 in
theorem okFrom_imgs (vs : List Int) (e : Int × Int) : okFrom hs vs e 0 (hs.length + 1) = imgs hs vs e := by
  have hho : EOk N hs := (edgesB_spec (by simp only [gokB, Bool.and_eq_true] at hh; exact hh.1.1)).2.2
  rw [okFrom_cons]
  have h0 : ((0 : Nat) : Int) - 1 = -1 := rfl
  have key : ∀ (m i : Nat), okFrom hs vs e (i + 1) m = ((List.range' i m).filter fun (j : Nat) => fitB hs vs e (j : Int)).map fun (j : Nat) => (j : Int) := by
    intro m
    induction m with
    | zero => intro i; rfl
    | succ m ih =>
      intro i
      rw [okFrom_cons, List.range'_succ, ih (i + 1)]
      have e1 : ((i + 1 : Nat) : Int) - 1 = (i : Int) := by omega
      have e2 : okI hs vs e (i : Int) = fitB hs vs e (i : Int) := by unfold okI; rw [if_neg (by omega)]
      rw [e1, e2]
      exact (filter_map_cons (fun (j : Nat) => fitB hs vs e (j : Int)) (fun (j : Nat) => (j : Int)) i (List.range' (i + 1) m)).symm
  rw [h0, key hs.length 0, ← List.range_eq_range']
  unfold imgs
  by_cases hab : at0 vs e.1 = at0 vs e.2
  · rw [if_pos hab]
    have e1 : okI hs vs e (-1) = true := by unfold okI; rw [if_pos rfl]; exact decide_eq_true hab
    rw [if_pos e1]
    have : ((List.range hs.length).filter fun (j : Nat) => fitB hs vs e (j : Int)) = [] := by
      rw [List.filter_eq_nil_iff]
      intro j hj
      have hj := List.mem_range.1 hj
      have hm := hho (edge hs (j : Int)) (by
        rw [← atD_edge, atD_nat]
        have : hs[j]? = some hs[j] := List.getElem?_eq_getElem hj
        rw [getD_of this]; exact List.getElem_mem hj)
      simp only [fitB, Bool.and_eq_true, decide_eq_true_eq, hab]
      intro ⟨c1, c2⟩
      have : min2 (at0 vs e.2) (at0 vs e.2) = max2 (at0 vs e.2) (at0 vs e.2) := by simp [min2, max2]
      omega
    rw [this]; rfl
  · rw [if_neg hab]
    have e1 : okI hs vs e (-1) = false := by unfold okI; rw [if_pos rfl]; exact decide_eq_false hab
    rw [e1]; rfl
theorem impl_edges_spec (vs : List Int) (hv : vs.length = n) : ∀ (rest : Es) (k : Nat) (ks : List Int) (cnt : Int) (fuel : Nat), es.drop k = rest → k ≤ es.length → ks.length = es.length → rest.length < fuel → 0 ≤ cnt → cnt ≤ 1000000 - cntM (leafI n es N hs vs) (imgs hs vs) rest (ks.take k) →
    ∃ ks', impl_CountMorphisms_1_rec fuel ((k : Int), vs, ks, (n : Int), es, (N : Int), hs, cnt, ()) = some ((n : Int), es, (N : Int), hs, cnt + cntM (leafI n es N hs vs) (imgs hs vs) rest (ks.take k), vs, ks', ()) ∧ ks'.length = es.length ∧ ks'.take k = ks.take k
  | [], k, ks, cnt, 0, _, _, _, hf, _, _ => absurd hf (Nat.not_lt_zero _)
  | _ :: _, k, ks, cnt, 0, _, _, _, hf, _, _ => absurd hf (Nat.not_lt_zero _)
  | [], k, ks, cnt, fuel + 1, hd, hk, hkl, hf, h0, hb => by
    have hl : k = es.length := by have := List.drop_eq_nil_iff.1 hd; omega
    subst hl
    have hn := gokB_n hg
    have ht : ks.take es.length = ks := by rw [← hkl, List.take_length]
    rw [ht] at hb ⊢
    refine ⟨ks, ?_, hkl, ht⟩
    simp only [cntM] at hb ⊢
    simp only [impl_CountMorphisms_1_rec, impl_CountMorphisms_1_step, beq_dec]
    rw [cond_pos (by omega), impl_IsHarmonic_spec (n : Int) es (N : Int) hs vs ks (by omega) (by omega) (by omega) (by omega)]
    simp only [Option.bind_some]
    have hne : ∃ a t, vs = a :: t := by
      cases vs with
      | nil => simp at hv; omega
      | cons a t => exact ⟨a, t, rfl⟩
    obtain ⟨a, t, rfl⟩ := hne
    have hl : t.length + 1 = n := hv
    unfold leafI at hb ⊢
    cases hq : harmB (n : Int) es (N : Int) hs (a :: t) ks
    · simp
    · rw [hq] at hb
      simp only [cond_true]
      rw [slices_Min_spec a t (by omega), slices_Max_spec a t (by omega)]
      simp only [Option.bind_some, bne_false_iff]
      by_cases hm : minL a t = maxL a t
      · rw [(minL_maxL a t).1 hm, decide_eq_true hm]
        simp
      · have : allEqB (a :: t) = false := by rw [Bool.eq_false_iff]; exact fun h => hm ((minL_maxL a t).2 h)
        rw [this] at hb ⊢
        rw [decide_eq_false hm]
        simp only [Bool.not_false, Bool.and_self, if_true] at hb
        simp only [Bool.not_false, Bool.and_self, if_true, cond_true]
        rw [w64_of (by omega) (by omega)]
  | e :: rest, k, ks, cnt, fuel + 1, hd, hk, hkl, hf, h0, hb => by
    obtain ⟨g1, g2, g3⟩ := drop_get hd
    have hn := gokB_n hg
    have he : EOk n es := (edgesB_spec (by simp only [gokB, Bool.and_eq_true] at hg; exact hg.1.1)).2.2
    have ho := he e (List.mem_of_getElem? g1)
    have hr : rest.length < fuel := by simp at hf; omega
    have self := fun ks cnt h1 h2 h3 => impl_edges_spec vs hv rest (k + 1) ks cnt fuel g2 (by omega) h1 hr h2 h3
    have hbd : ∀ p : List Int, 0 ≤ cntM (leafI n es N hs vs) (imgs hs vs) rest p := fun p =>
      (cntM_bound (leaf := leafI n es N hs vs) (choose := imgs hs vs) (leafI_01 vs) (imgs_len h3 vs) rest p).1
    -- the loop over the images
    have loop : ∀ (m i : Nat) (ks' : List Int) (c : Int), i + m = hs.length + 1 → ks'.length = es.length → ks'.take k = ks.take k → 0 ≤ c → c ≤ 1000000 - lsum (okFrom hs vs e i m) (fun x => cntM (leafI n es N hs vs) (imgs hs vs) rest (ks.take k ++ [x])) →
        ∃ ks'', loopM (impl_CountMorphisms_1_L14 (impl_CountMorphisms_1_rec fuel)) ((k : Int), (i : Int) - 1, (n : Int), es, (N : Int), hs, c, vs, ks', ()) = some ((n : Int), es, (N : Int), hs, c + lsum (okFrom hs vs e i m) (fun x => cntM (leafI n es N hs vs) (imgs hs vs) rest (ks.take k ++ [x])), vs, ks'', ()) ∧ ks''.length = es.length ∧ ks''.take k = ks.take k := by
      intro m
      induction m with
      | zero =>
        intro i ks' c hi hl ht hc0 hc1
        refine ⟨ks', ?_, hl, ht⟩
        apply loop_out
        simp only [impl_CountMorphisms_1_L14]
        rw [cond_neg (by omega)]
        simp [okFrom, lsum_nil]
      | succ m ih =>
        intro i ks' c hi hl ht hc0 hc1
        have hmem : (edge es (k : Int)) = e := by rw [← atD_edge, atD_nat, getD_of g1]
        rw [okFrom_cons] at hc1 ⊢
        have fin0 : ∀ (x : Bool), x = okI hs vs e ((i : Int) - 1) → ∀ R, impl_CountMorphisms_1_J914 (impl_CountMorphisms_1_rec fuel) ((k : Int), (i : Int) - 1, x, (n : Int), es, (N : Int), hs, c, vs, ks', ()) = R → impl_CountMorphisms_1_L14 (impl_CountMorphisms_1_rec fuel) ((k : Int), (i : Int) - 1, (n : Int), es, (N : Int), hs, c, vs, ks', ()) = R := by
          intro x hx R hR
          rw [← hR, hx]
          simp only [impl_CountMorphisms_1_L14, atD_nat, getD_of g1, beq_dec, atD_at0, atD_edge]
          rw [cond_pos (by omega), chk_pos (by omega), chk_pos (by omega), chk_pos (by omega), chk_pos (by omega)]
          by_cases c1 : (i : Int) - 1 = -1
          · rw [decide_eq_true c1, decide_eq_false (show ¬ (i : Int) - 1 ≥ 0 by omega)]
            simp only [cond_true, cond_false]
            unfold okI
            rw [if_pos c1]
            by_cases q : at0 vs e.1 = at0 vs e.2
            · simp only [q, decide_true, cond_true, joinB_inl]
            · simp only [q, decide_false, cond_false, joinB_inl]
          · rw [decide_eq_false c1, decide_eq_true (show (i : Int) - 1 ≥ 0 by omega)]
            simp only [cond_true, cond_false]
            rw [chk_pos (by omega)]
            unfold okI
            rw [if_neg c1]
            rfl
        by_cases hok : okI hs vs e ((i : Int) - 1) = true
        · rw [if_pos hok, lsum_cons] at hc1
          rw [if_pos hok, lsum_cons]
          have htk : (ks'.set k ((i : Int) - 1)).take (k + 1) = ks.take k ++ [(i : Int) - 1] := by
            rw [List.take_add_one, ← ht]
            congr 1
            · rw [List.take_set_of_le (by omega)]
            · rw [List.getElem?_set_self (by omega)]; rfl
          have hrest := lsum_nonneg (f := fun x => cntM (leafI n es N hs vs) (imgs hs vs) rest (ks.take k ++ [x])) (fun x => hbd _) (okFrom hs vs e (i + 1) m)
          have hthis := hbd (ks.take k ++ [(i : Int) - 1])
          obtain ⟨ks1, e1, l1, t1⟩ := self (ks'.set k ((i : Int) - 1)) c (by rw [List.length_set]; exact hl) hc0 (by rw [htk]; omega)
          rw [htk] at e1 t1
          have t1' : ks1.take k = ks.take k := by
            have := congrArg (List.take k) t1
            rw [List.take_take, Nat.min_eq_left (by omega), List.take_append_of_le_length (by rw [List.length_take]; omega), List.take_take, Nat.min_self] at this
            exact this
          obtain ⟨ks2, e2, l2, t2⟩ := ih (i + 1) ks1 (c + cntM (leafI n es N hs vs) (imgs hs vs) rest (ks.take k ++ [(i : Int) - 1])) (by omega) l1 t1' (by omega) (by omega)
          refine ⟨ks2, ?_, l2, t2⟩
          rw [← Int.add_assoc, ← e2]
          apply loop_in
          refine fin0 true hok.symm _ ?_
          simp only [impl_CountMorphisms_1_J914, cond_true]
          rw [chk_pos (by omega), w64_of (by omega) (by omega), w64_of (by omega) (by omega)]
          rw [show (k : Int) + 1 = ((k + 1 : Nat) : Int) by omega, Int.toNat_natCast, e1]
          simp only [Option.bind_some]
          rw [show (i : Int) - 1 + 1 = ((i + 1 : Nat) : Int) - 1 by omega]
        · rw [if_neg hok] at hc1
          rw [if_neg hok]
          obtain ⟨ks2, e2, l2, t2⟩ := ih (i + 1) ks' c (by omega) hl ht hc0 hc1
          refine ⟨ks2, ?_, l2, t2⟩
          rw [← e2]
          apply loop_in
          refine fin0 false (by simpa using hok) _ ?_
          simp only [impl_CountMorphisms_1_J914, cond_false]
          rw [w64_of (by omega) (by omega), show (i : Int) - 1 + 1 = ((i + 1 : Nat) : Int) - 1 by omega]
    have hL := loop (hs.length + 1) 0 ks cnt (by omega) hkl rfl h0 (by rw [okFrom_imgs hh]; simpa only [cntM] using hb)
    rw [okFrom_imgs hh] at hL
    obtain ⟨ks', e1, l1, t1⟩ := hL
    refine ⟨ks', ?_, l1, t1⟩
    simp only [impl_CountMorphisms_1_rec, impl_CountMorphisms_1_step, beq_dec, cntM]
    rw [cond_neg (by omega)]
    exact e1
end
end Go.Pm.Try

set_option linter.unusedVariables false
set_option linter.unusedSimpArgs false
set_option linter.unusedSectionVars false
namespace Go.Pm.Try
open Go.Pm Go.Pm.Th
theorem sumV_split (a : Nat) (f : Int → Int) : ∀ b : Nat, sumV (a + b) f = sumV a f + sumV b (fun x => f ((a : Int) + x))
  | 0 => by simp [sumV]
  | b + 1 => by
    rw [← Nat.add_assoc]
    simp only [sumV]
    rw [sumV_split a f b, show ((a + b : Nat) : Int) = (a : Int) + b by omega]
    omega
theorem sumV_digit {N : Nat} (hN : 0 < N) (G : Int → Int → Int) : ∀ M : Nat, sumV (N * M) (fun k => G (k.tmod N) (k.tdiv N)) = sumV N fun x => sumV M (G x)
  | 0 => by simp [sumV, sumV_zero]
  | M + 1 => by
    rw [Nat.mul_succ, sumV_split, sumV_digit hN G M]
    simp only [sumV]
    rw [sumV_add]
    congr 1
    refine sumV_congr N fun x h0 h1 => ?_
    have hp : (0 : Int) ≤ ((N * M : Nat) : Int) + x := by omega
    have e : ((N * M : Nat) : Int) + x = x + (N : Int) * (M : Int) := by rw [Int.natCast_mul]; omega
    rw [Int.tmod_eq_emod_of_nonneg hp, Int.tdiv_eq_ediv_of_nonneg hp, e, Int.add_mul_emod_self_left, Int.add_mul_ediv_left _ _ (by omega : (N : Int) ≠ 0), Int.emod_eq_of_lt h0 h1, Int.ediv_eq_zero_of_lt h0 h1, Int.zero_add]
def treeS (N : Nat) (F : List Int → Int) : Nat → List Int → Int
  | 0, p => F p
  | m + 1, p => sumV N fun x => treeS N F m (p ++ [x])
def digs (N : Nat) : Nat → Int → List Int
  | 0, _ => []
  | m + 1, k => k.tmod N :: digs N m (k.tdiv N)
theorem treeS_sum {N : Nat} (hN : 0 < N) (F : List Int → Int) : ∀ (m : Nat) (p : List Int), sumV (N ^ m) (fun k => F (p ++ digs N m k)) = treeS N F m p
  | 0, p => by simp [sumV, digs, treeS]
  | m + 1, p => by
    rw [Nat.pow_succ, Nat.mul_comm]
    simp only [digs, treeS]
    rw [sumV_digit hN (fun x k => F (p ++ x :: digs N m k)) (N ^ m)]
    refine sumV_congr N fun x _ _ => ?_
    rw [← treeS_sum hN F m (p ++ [x])]
    refine sumV_congr _ fun k _ _ => ?_
    rw [List.append_assoc]; rfl
theorem treeS_bound {N : Nat} (hN : N ≤ 3) {F : List Int → Int} {B : Int} (hB : 0 ≤ B) (hF : ∀ p, 0 ≤ F p ∧ F p ≤ B) : ∀ (m : Nat) (p : List Int), 0 ≤ treeS N F m p ∧ treeS N F m p ≤ pw m * B
  | 0, p => by simp only [treeS, pw, Int.one_mul]; exact hF p
  | m + 1, p => by
    have ih := fun x => treeS_bound hN hB hF m (p ++ [x])
    simp only [treeS, pw]
    refine ⟨sumV_nonneg N fun v _ _ => (ih v).1, Int.le_trans (sumV_le N fun v _ _ => (ih v).2) ?_⟩
    rw [sumV_const, Int.mul_assoc]
    exact Int.mul_le_mul_of_nonneg_right (by omega) (Int.mul_nonneg (Int.le_of_lt (pw_pos m)) hB)
theorem cntM_zero (choose : Int × Int → List Int) {leaf : List Int → Int} (h : ∀ p, leaf p = 0) : ∀ (rest : Es) (pre : List Int), cntM leaf choose rest pre = 0
  | [], pre => h pre
  | e :: rest, pre => by
    simp only [cntM]
    have : (fun k => cntM leaf choose rest (pre ++ [k])) = fun _ => 0 := funext fun k => cntM_zero choose h rest (pre ++ [k])
    rw [this]
    induction choose e with
    | nil => rfl
    | cons a l ih => rw [lsum_cons, ih]; rfl
/-- the harmonic morphisms over given images of the vertices -/
noncomputable def overV (n : Nat) (es : Es) (N : Nat) (hs : Es) (vs : List Int) : Int := if allEqB vs then 0 else cntM (leafS n es N hs vs) (imgs hs vs) es []
theorem overV_I (n : Nat) (es : Es) (N : Nat) (hs : Es) (vs : List Int) : cntM (leafI n es N hs vs) (imgs hs vs) es [] = overV n es N hs vs := by
  unfold overV
  cases h : allEqB vs
  · have : leafI n es N hs vs = leafS n es N hs vs := funext fun ks => by unfold leafI leafS; rw [h]; simp
    rw [this]; rfl
  · rw [if_pos rfl]
    exact cntM_zero _ (fun p => by unfold leafI; rw [h]; simp) es []
section
variable {n N : Nat} {es hs : Es} (hg : gokB n es = true) (hh : gokB N hs = true) (h5 : es.length ≤ 5) (h3 : hs.length ≤ 3)
include hg hh h5 h3
omit hg hh in
theorem overV_bound (vs : List Int) : 0 ≤ overV n es N hs vs ∧ overV n es N hs vs ≤ 243 := by
  unfold overV
  split
  · omega
  · have h1 := cntM_bound (leaf := leafS n es N hs vs) (choose := imgs hs vs) (leafS_01 vs) (imgs_len h3 vs) es []
    have := pw_bound h5
    omega
omit hg hh h5 h3 in
theorem lsum_range' (G : Int → Int) : ∀ (j x : Nat), lsum ((List.range' x j).map fun (i : Nat) => (i : Int)) G = sumV j (fun k => G ((x : Int) + k)) := by
  intro j
  induction j with
  | zero => intro x; rfl
  | succ j ih =>
    intro x
    rw [List.range'_1_concat, List.map_append, lsum_append, ih]
    simp only [sumV, List.map_cons, List.map_nil, lsum_cons, lsum_nil]
    rw [show ((x + j : Nat) : Int) = (x : Int) + j by omega]
    omega
theorem impl_vertices_spec (h3' : N ≤ 3) : ∀ (m v : Nat) (vs ks : List Int) (cnt : Int) (fuel : Nat), v + m = n → vs.length = n → ks.length = es.length → m < fuel → 0 ≤ cnt → cnt ≤ 1000000 - treeS N (overV n es N hs) m (vs.take v) →
    ∃ vs' ks', impl_CountMorphisms_2_rec fuel ((v : Int), (n : Int), es, vs, ks, (N : Int), hs, cnt, ()) = some ((n : Int), es, (N : Int), hs, cnt + treeS N (overV n es N hs) m (vs.take v), vs', ks', ()) ∧ vs'.length = n ∧ ks'.length = es.length ∧ vs'.take v = vs.take v
  | m, v, vs, ks, cnt, 0, _, _, _, hf, _, _ => absurd hf (Nat.not_lt_zero _)
  | 0, v, vs, ks, cnt, fuel + 1, hv, hvl, hkl, hf, h0, hb => by
    have e : v = n := by omega
    subst e
    have ht : vs.take v = vs := by rw [← hvl, List.take_length]
    rw [ht] at hb ⊢
    simp only [treeS] at hb ⊢
    rw [← overV_I] at hb ⊢
    obtain ⟨ks', e1, l1, _⟩ := impl_edges_spec hg hh h5 h3 vs hvl es 0 ks cnt 64 rfl (by omega) hkl (by omega) h0 (by rw [List.take_zero]; exact hb)
    rw [List.take_zero] at e1
    refine ⟨vs, ks', ?_, hvl, l1, ht⟩
    simp only [impl_CountMorphisms_2_rec, impl_CountMorphisms_2_step, beq_dec]
    rw [cond_pos trivial]
    have e1' : impl_CountMorphisms_1 (0, vs, ks, (v : Int), es, (N : Int), hs, cnt, ()) = _ := e1
    rw [e1']
    rfl
  | m + 1, v, vs, ks, cnt, fuel + 1, hv, hvl, hkl, hf, h0, hb => by
    have hn := gokB_n hg
    have self := fun vs ks cnt h1 h2 h3 h4 => impl_vertices_spec h3' m (v + 1) vs ks cnt fuel (by omega) h1 h2 (by omega) h3 h4
    have hbd : ∀ p : List Int, 0 ≤ treeS N (overV n es N hs) m p := fun p => (treeS_bound h3' (B := 243) (by omega) (fun p => overV_bound h5 h3 p) m p).1
    have loop : ∀ (j x : Nat) (vs' ks' : List Int) (c : Int), x + j = N → vs'.length = n → ks'.length = es.length → vs'.take v = vs.take v → vs'[v]? = some (x : Int) → 0 ≤ c → c ≤ 1000000 - lsum ((List.range' x j).map fun (i : Nat) => (i : Int)) (fun y => treeS N (overV n es N hs) m (vs.take v ++ [y])) →
        ∃ vs'' ks'', loopM (impl_CountMorphisms_2_L14 (impl_CountMorphisms_2_rec fuel)) ((v : Int), (N : Int), hs, (n : Int), es, c, vs', ks', ()) = some ((n : Int), es, (N : Int), hs, c + lsum ((List.range' x j).map fun (i : Nat) => (i : Int)) (fun y => treeS N (overV n es N hs) m (vs.take v ++ [y])), vs'', ks'', ()) ∧ vs''.length = n ∧ ks''.length = es.length ∧ vs''.take v = vs.take v := by
      intro j
      induction j with
      | zero =>
        intro x vs' ks' c hx hl hk ht hget hc0 hc1
        refine ⟨vs', ks', ?_, hl, hk, ht⟩
        apply loop_out
        simp only [impl_CountMorphisms_2_L14, atD_nat, getD_of hget]
        rw [chk_pos (by omega), cond_neg (by omega)]
        simp [lsum_nil]
      | succ j ih =>
        intro x vs' ks' c hx hl hk ht hget hc0 hc1
        rw [List.range'_succ, List.map_cons, lsum_cons] at hc1 ⊢
        have htk : vs'.take (v + 1) = vs.take v ++ [(x : Int)] := by
          rw [List.take_add_one, ht, hget]; rfl
        have hrest := lsum_nonneg (f := fun y => treeS N (overV n es N hs) m (vs.take v ++ [y])) (fun y => hbd _) ((List.range' (x + 1) j).map fun (i : Nat) => (i : Int))
        have hthis := hbd (vs.take v ++ [(x : Int)])
        obtain ⟨vs1, ks1, e1, l1, k1, t1⟩ := self vs' ks' c hl hk hc0 (by rw [htk]; omega)
        rw [htk] at e1 t1
        have t1' : vs1.take v = vs.take v := by
          have := congrArg (List.take v) t1
          rw [List.take_take, Nat.min_eq_left (by omega), List.take_append_of_le_length (by rw [List.length_take]; omega), List.take_take, Nat.min_self] at this
          exact this
        have hget1 : vs1[v]? = some (x : Int) := by
          have : (vs1.take (v + 1))[v]? = (vs.take v ++ [(x : Int)])[v]? := by rw [t1]
          rw [List.getElem?_take_of_lt (by omega), List.getElem?_append_right (by rw [List.length_take]; omega), List.length_take, Nat.min_eq_left (by omega), Nat.sub_self] at this
          exact this
        obtain ⟨vs2, ks2, e2, l2, k2, t2⟩ := ih (x + 1) (vs1.set v ((x + 1 : Nat) : Int)) ks1 (c + treeS N (overV n es N hs) m (vs.take v ++ [(x : Int)])) (by omega) (by rw [List.length_set]; exact l1) k1 (by rw [List.take_set_of_le (by omega)]; exact t1') (by rw [List.getElem?_set_self (by omega)]) (by omega) (by omega)
        refine ⟨vs2, ks2, ?_, l2, k2, t2⟩
        rw [← Int.add_assoc, ← e2]
        apply loop_in
        simp only [impl_CountMorphisms_2_L14, atD_nat, getD_of hget]
        rw [chk_pos (by omega), cond_pos (by omega), w64_of (x := (v : Int) + 1) (by omega) (by omega), show (v : Int) + 1 = ((v + 1 : Nat) : Int) by omega, e1]
        simp only [Option.bind_some, atD_nat, getD_of hget1]
        rw [chk_pos (by omega), chk_pos (by omega), w64_of (by omega) (by omega), Int.toNat_natCast, show (x : Int) + 1 = ((x + 1 : Nat) : Int) by omega]
    have e0 : lsum ((List.range' 0 N).map fun (i : Nat) => (i : Int)) (fun y => treeS N (overV n es N hs) m (vs.take v ++ [y])) = treeS N (overV n es N hs) (m + 1) (vs.take v) := by
      rw [lsum_range']
      simp only [treeS]
      refine sumV_congr N fun k _ _ => ?_
      rw [show ((0 : Nat) : Int) + k = k by omega]
    have hL := loop N 0 (vs.set v 0) ks cnt (by omega) (by rw [List.length_set]; exact hvl) hkl (by rw [List.take_set_of_le (by omega)]) (by rw [List.getElem?_set_self (by omega)]; rfl) h0 (by rw [e0]; exact hb)
    rw [e0] at hL
    obtain ⟨vs', ks', e1, l1, k1, t1⟩ := hL
    refine ⟨vs', ks', ?_, l1, k1, t1⟩
    simp only [impl_CountMorphisms_2_rec, impl_CountMorphisms_2_step, beq_dec]
    rw [cond_neg (by omega), chk_pos (by omega), Int.toNat_natCast]
    exact e1
omit hg hh h5 h3 in
theorem allEq_snoc (l : List Int) (d : Int) : allEqB (l ++ [d]) = (allEqB l && decide ((l ++ [d]).getD l.length 0 = (l ++ [d]).getD 0 0)) := by
  cases l with
  | nil => simp [allEqB]
  | cons a t => simp [allEqB, List.getD]
theorem spec_digits (hN : 0 < N) (hn4 : n ≤ 4) (all s k : Int) (hs0 : 0 ≤ s ∧ s ≤ 1000000) (hk : 0 ≤ k ∧ k ≤ 1000) : ∀ (m v : Nat) (list : List Int) (q : Int), v + m = n → list.length = v → 0 ≤ q → q ≤ 1000 →
    loopM spec_CountMorphisms_L518458 (all, s, k, list, q, allEqB list, (v : Int), (n : Int), es, (N : Int), hs, ()) = some (.inl (all, s + overV n es N hs (list ++ digs N m q), k + 1, (n : Int), es, (N : Int), hs, ()))
  | 0, v, list, q, hv, hl, hq0, hq1 => by
    have e : v = n := by omega
    subst e
    apply loop_out
    have hb := overV_bound (n := v) (N := N) (es := es) (hs := hs) h5 h3 list
    simp only [spec_CountMorphisms_L518458, digs, List.append_nil]
    rw [cond_neg (by omega)]
    have hr := spec_l16Count_rec_spec (N := N) hg h5 h3 list hl es [] 64 rfl (by simp) (by omega)
    have hr' : spec_l16Count ((v : Int), es, (N : Int), hs, list, [], ()) = _ := hr
    unfold overV at hb ⊢
    cases hq : allEqB list
    · rw [hq] at hb
      simp only [Bool.not_false, cond_true, hr', Option.bind_some]
      rw [w64_of (x := k + 1) (by omega) (by omega)]
      simp only [if_neg (show ¬ (false = true) by simp)] at hb ⊢
      rw [w64_of (by omega) (by omega)]
      rfl
    · simp only [Bool.not_true, cond_false, if_true]
      rw [w64_of (x := k + 1) (by omega) (by omega), Int.add_zero]
      rfl
  | m + 1, v, list, q, hv, hl, hq0, hq1 => by
    have hd : 0 ≤ q.tdiv N ∧ q.tdiv N ≤ 1000 := by
      rw [Int.tdiv_eq_ediv_of_nonneg hq0]
      have h1 : q / N ≤ q := Int.ediv_le_self _ hq0
      have h2 : 0 ≤ q / N := Int.ediv_nonneg hq0 (by omega)
      omega
    have ih := spec_digits hN hn4 all s k hs0 hk m (v + 1) (list ++ [q.tmod N]) (q.tdiv N) (by omega) (by simp; omega) hd.1 hd.2
    rw [List.append_assoc] at ih
    have ih' : loopM spec_CountMorphisms_L518458 (all, s, k, list ++ [q.tmod N], q.tdiv N, allEqB (list ++ [q.tmod N]), ((v + 1 : Nat) : Int), (n : Int), es, (N : Int), hs, ()) = some (.inl (all, s + overV n es N hs (list ++ digs N (m + 1) q), k + 1, (n : Int), es, (N : Int), hs, ())) := ih
    rw [← ih']
    apply loop_in
    have hl1 : (list ++ [q.tmod N]).length = v + 1 := by simp; omega
    have hl2 : ([q.tmod N] : List Int).length = 1 := rfl
    simp only [spec_CountMorphisms_L518458, beq_dec, hl1, hl2]
    rw [cond_pos (by omega), chk_pos (by omega), chk_pos (by omega), chk_pos (by omega), chk_pos (by omega), chk_pos (by omega), w64_of (x := q.tdiv N) (by omega) (by omega), w64_of (x := (v : Int) + 1) (by omega) (by omega)]
    rw [allEq_snoc]
    have e0 : atD 0 (list ++ [q.tmod N]) (v : Int) = (list ++ [q.tmod N]).getD list.length 0 := by rw [atD_nat, hl]
    have e1 : atD 0 (list ++ [q.tmod N]) 0 = (list ++ [q.tmod N]).getD 0 0 := atD_nat 0 _ 0
    simp only [e0, e1]
    cases allEqB list
    · rfl
    · rfl
end
end Go.Pm.Try

set_option linter.unusedVariables false
set_option linter.unusedSimpArgs false
set_option linter.unusedSectionVars false
namespace Go.Pm.Try
open Go.Pm Go.Pm.Th
noncomputable def countB (n : Int) (es : Es) (N : Int) (hs : Es) : Bool := gokB n es && (gokB N hs && (!decide (n > 4) && (!decide ((es.length : Int) > 5) && (!decide (N > 3) && !decide ((hs.length : Int) > 3)))))
noncomputable def countM (n : Int) (es : Es) (N : Int) (hs : Es) : Int := if countB n es N hs then treeS N.toNat (overV n.toNat es N.toNat hs) n.toNat [] else -1
theorem foldl_sumV (f : Int → Int) : ∀ (m : Nat) (s : Int), (List.range m).foldl (fun s (i : Nat) => s + f (i : Int)) s = s + sumV m f
  | 0, s => by simp [sumV]
  | m + 1, s => by
    rw [List.range_succ, List.foldl_append, foldl_sumV f m s]
    simp only [List.foldl_cons, List.foldl_nil, sumV]
    omega
theorem pow_small {N i : Nat} (hN : N ≤ 3) (hi : i ≤ 4) : N ^ i ≤ 81 :=
  Nat.le_trans (Nat.pow_le_pow_left hN i) (Nat.le_trans (Nat.pow_le_pow_right (by omega) hi) (by decide))
theorem countB_spec {n : Int} {es : Es} {N : Int} {hs : Es} (h : countB n es N hs = true) : ∃ (m M : Nat), n = m ∧ N = M ∧ gokB m es = true ∧ gokB M hs = true ∧ m ≤ 4 ∧ 0 < m ∧ es.length ≤ 5 ∧ M ≤ 3 ∧ 0 < M ∧ hs.length ≤ 3 := by
  simp only [countB, Bool.and_eq_true, Bool.not_eq_true', decide_eq_false_iff_not] at h
  obtain ⟨h1, h2, h3, h4, h5, h6⟩ := h
  have := gokB_n h1
  have := gokB_n h2
  refine ⟨n.toNat, N.toNat, by omega, by omega, ?_, ?_, by omega, by omega, by omega, by omega, by omega, by omega⟩
  · rw [Int.toNat_of_nonneg (by omega)]; exact h1
  · rw [Int.toNat_of_nonneg (by omega)]; exact h2
theorem spec_CountMorphisms_spec (n : Int) (es : Es) (N : Int) (hs : Es) (hb : es.length ≤ 8796093022208) (hc : hs.length ≤ 8796093022208) :
    spec_CountMorphisms (n, es, N, hs, ()) = some (countM n es N hs, ()) := by
  simp only [spec_CountMorphisms, spec_GraphOk_spec n es hb, spec_GraphOk_spec N hs hc, Option.bind_some]
  have pre : ∀ (c : Bool), countB n es N hs = !c → spec_CountMorphisms_J12 (c, n, es, N, hs, ()) = some (countM n es N hs, ()) := by
    intro c hcb
    cases c
    · have hcb : countB n es N hs = true := hcb
      unfold countM
      rw [if_pos hcb]
      obtain ⟨m, M, rfl, rfl, hg, hh, h4, h0, h5, h3', h0', h3⟩ := countB_spec hcb
      simp only [Int.toNat_natCast]
      simp only [spec_CountMorphisms_J12, cond_false]
      have l1 := loop_count (f := spec_CountMorphisms_L122) (fun s i => (s, i, (m : Int), es, (M : Int), hs, ())) (fun _ (s : Int) => s * (M : Int)) (fun i s => s = ((M ^ i : Nat) : Int)) m (fun s => .inl (s, (m : Int), es, (M : Int), hs, ())) 1 (by simp) (fun s i hi hP => by
        subst hP
        have hp := pow_small (N := M) (i := i + 1) h3' (by omega)
        have e : ((M ^ i : Nat) : Int) * (M : Int) = ((M ^ (i + 1) : Nat) : Int) := by rw [Nat.pow_succ, Int.natCast_mul]
        refine ⟨?_, e⟩
        simp only [spec_CountMorphisms_L122, e]
        rw [cond_pos (by omega), w64_of (by omega) (by omega), w64_of (by omega) (by omega)]
        rfl) (fun s hP => by
        simp only [spec_CountMorphisms_L122]
        rw [cond_neg (by omega)]; rfl)
      obtain ⟨l1, l1'⟩ := l1
      have l1a : loopM spec_CountMorphisms_L122 (1, 0, (m : Int), es, (M : Int), hs, ()) = _ := l1
      rw [l1a, l1']
      simp only [joinB_inl, spec_CountMorphisms_J61]
      have hp := pow_small (N := M) (i := m) h3' h4
      have l2 := loop_count (f := spec_CountMorphisms_L506) (fun s i => (((M ^ m : Nat) : Int), s, i, (m : Int), es, (M : Int), hs, ())) (fun i (s : Int) => s + overV m es M hs (digs M m (i : Int))) (fun i s => 0 ≤ s ∧ s ≤ i * 243) (M ^ m) (fun s => (s, ())) 0 ⟨Int.le_refl _, by omega⟩ (fun s i hi hP => by
        have hov := overV_bound (n := m) (N := M) (es := es) (hs := hs) h5 h3 (digs M m (i : Int))
        refine ⟨?_, by show 0 ≤ s + overV m es M hs (digs M m (i : Int)) ∧ s + overV m es M hs (digs M m (i : Int)) ≤ ((i + 1 : Nat) : Int) * 243; omega⟩
        simp only [spec_CountMorphisms_L506]
        rw [cond_pos (by omega)]
        exact spec_digits hg hh h5 h3 h0' h4 ((M ^ m : Nat) : Int) s (i : Int) (by omega) (by omega) m 0 [] (i : Int) (by omega) rfl (by omega) (by omega)) (fun s hP => by
        simp only [spec_CountMorphisms_L506]
        rw [cond_neg (by omega)]; rfl)
      have l2a : loopM spec_CountMorphisms_L506 (((M ^ m : Nat) : Int), 0, 0, (m : Int), es, (M : Int), hs, ()) = _ := l2.1
      rw [l2a, foldl_sumV (fun k => overV m es M hs (digs M m k)), Int.zero_add]
      have := treeS_sum h0' (overV m es M hs) m []
      simp only [List.nil_append] at this
      rw [this]
    · have hcb : countB n es N hs = false := hcb
      unfold countM
      rw [hcb]; rfl
  unfold countB at pre
  cases h1 : gokB n es
  · exact pre true (by rw [h1]; rfl)
  cases h2 : gokB N hs
  · exact pre true (by rw [h1, h2]; rfl)
  rw [h1, h2] at pre
  simp only [Bool.not_true, cond_false, Bool.true_and] at pre ⊢
  cases h3 : decide (n > 4)
  · cases h4 : decide ((es.length : Int) > 5)
    · cases h5 : decide (N > 3)
      · exact pre (decide ((hs.length : Int) > 3)) (by rw [h3, h4, h5]; rfl)
      · exact pre true (by rw [h3, h4, h5]; rfl)
    · exact pre true (by rw [h3, h4]; rfl)
  · exact pre true (by rw [h3]; rfl)
theorem impl_CountMorphisms_spec (n : Int) (es : Es) (N : Int) (hs : Es) (hb : es.length ≤ 8796093022208) (hc : hs.length ≤ 8796093022208) :
    impl_CountMorphisms (n, es, N, hs, ()) = some (countM n es N hs, ()) := by
  simp only [impl_CountMorphisms, impl_GraphOk_spec n es hb, impl_GraphOk_spec N hs hc, Option.bind_some]
  have pre : ∀ (c : Bool), countB n es N hs = !c → impl_CountMorphisms_J12 (c, n, es, N, hs, ()) = some (countM n es N hs, ()) := by
    intro c hcb
    cases c
    · have hcb : countB n es N hs = true := hcb
      unfold countM
      rw [if_pos hcb]
      obtain ⟨m, M, rfl, rfl, hg, hh, h4, h0, h5, h3', h0', h3⟩ := countB_spec hcb
      simp only [Int.toNat_natCast]
      simp only [impl_CountMorphisms_J12, cond_false]
      rw [chk_pos ⟨trivial, by omega, by omega⟩, chk_pos ⟨trivial, by omega, by omega⟩, Int.toNat_natCast, Int.toNat_natCast]
      have hbd := treeS_bound h3' (B := 243) (by omega) (fun p => overV_bound (n := m) (N := M) (es := es) (hs := hs) h5 h3 p) m []
      have hpw := pw_bound (k := m) (by omega)
      obtain ⟨vs', ks', e1, _⟩ := impl_vertices_spec hg hh h5 h3 h3' m 0 (List.replicate m 0) (List.replicate es.length 0) 0 64 (by omega) (by simp) (by simp) (by omega) (Int.le_refl _) (by rw [List.take_zero]; omega)
      rw [List.take_zero, Int.zero_add] at e1
      have e1' : impl_CountMorphisms_2 (0, (m : Int), es, List.replicate m 0, List.replicate es.length 0, (M : Int), hs, 0, ()) = _ := e1
      rw [e1']
      rfl
    · have hcb : countB n es N hs = false := hcb
      unfold countM
      rw [hcb]; rfl
  unfold countB at pre
  cases h1 : gokB n es
  · exact pre true (by rw [h1]; rfl)
  cases h2 : gokB N hs
  · exact pre true (by rw [h1, h2]; rfl)
  rw [h1, h2] at pre
  simp only [Bool.not_true, cond_false, Bool.true_and] at pre ⊢
  cases h3 : decide (n > 4)
  · cases h4 : decide ((es.length : Int) > 5)
    · cases h5 : decide (N > 3)
      · exact pre (decide ((hs.length : Int) > 3)) (by rw [h3, h4, h5]; rfl)
      · exact pre true (by rw [h3, h4, h5]; rfl)
    · exact pre true (by rw [h3, h4]; rfl)
  · exact pre true (by rw [h3]; rfl)
/-- the law of CountMorphisms -/
theorem law_CountMorphisms (n : Int) (es : Es) (N : Int) (hs : Es) (hlen : es.length ≤ 9223372036854775807) (hlen2 : hs.length ≤ 9223372036854775807) :
    laws_FnExactCountMorphisms (n, es, N, hs, ()) = some (true, ()) := by
  simp only [laws_FnExactCountMorphisms]
  rw [laws_szGraph_spec n es 1048576 (by omega) (by omega) hlen]
  simp only [Option.bind_some]
  by_cases h3 : (1048576 : Int) < es.length
  · rw [if_pos h3, cond_pos (by omega)]
  rw [if_neg h3, cond_neg (by omega), laws_szGraph_spec N hs _ (by omega) (by omega) hlen2]
  simp only [Option.bind_some]
  by_cases h4 : (1048576 : Int) - es.length < hs.length
  · rw [if_pos h4, cond_pos (by omega)]
  rw [if_neg h4, cond_neg (by omega)]
  have hb : es.length ≤ 8796093022208 := by omega
  have hc : hs.length ≤ 8796093022208 := by omega
  simp only [laws_toGraph_spec n es hb, laws_toGraph_spec N hs hc, spec_CountMorphisms_spec n es N hs hb hc, impl_CountMorphisms_spec n es N hs hb hc, laws_eqGraph_refl n es hb, laws_eqGraph_refl N hs hc, Option.bind_some, bne_self_eq_false, cond_false, Bool.not_true]
end Go.Pm.Try

