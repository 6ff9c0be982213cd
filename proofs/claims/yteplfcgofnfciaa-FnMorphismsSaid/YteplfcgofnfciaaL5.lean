/-
  Plain laws: what the typed functions answer. Conditions: see each.
-/
import Derived.Test.YteplfcgofnfciaaG5
import Derived.Test.YteplfcgofnfciaaTa
set_option linter.unusedVariables false
set_option linter.unusedSimpArgs false
set_option linter.unusedSectionVars false
set_option linter.unusedVariables false
set_option linter.unusedSimpArgs false
namespace Go.Pm.Try
open Go.Pm Go.Pm.Th
section
variable {α S R : Type} {f : S → Option (S ⊕ R)}
theorem loop_forall (mk : Int → S) (p : α → Bool) (l : List α) (bad good : R) (hstep : ∀ (i : Nat) (a : α), l[i]? = some a → f (mk i) = some (cond (p a) (.inl (mk (i + 1 : Nat))) (.inr bad))) (hfin : f (mk l.length) = some (.inr good)) :
    loopM f (mk 0) = some (cond (l.all p) good bad) := by
  have key := loop_list (f := f) (fun (_ : Unit) i => mk i) (fun _ a => cond (p a) (.inl ()) (.inr bad)) (fun _ _ => True) l l.length rfl (fun _ => good) () trivial (fun s i a ha _ => ⟨by rw [hstep i a ha]; cases p a <;> rfl, fun _ _ => trivial⟩) (fun _ _ => hfin)
  rw [key]
  congr 1
  clear key hstep hfin
  induction l with
  | nil => rfl
  | cons a l ih =>
    simp only [runL, List.all_cons]
    cases h : p a with
    | true => simpa using ih
    | false => rfl
theorem loop_forallN (mk : Int → S) (p : Nat → Bool) (n : Nat) (bad good : R) (hstep : ∀ (i : Nat), i < n → f (mk i) = some (cond (p i) (.inl (mk (i + 1 : Nat))) (.inr bad))) (hfin : f (mk n) = some (.inr good)) :
    loopM f (mk 0) = some (cond ((List.range n).all p) good bad) := by
  refine loop_forall mk p (List.range n) bad good (fun i a ha => ?_) (by simpa using hfin)
  have hi : i < n := by have := (List.getElem?_eq_some_iff.1 ha).1; simpa using this
  have : a = i := by rw [List.getElem?_range hi] at ha; cases ha; rfl
  subst this
  exact hstep a hi
/-- downwards from n to 0; at 0 it ends -/
theorem loop_downN (mk : Int → S) (p : Nat → Bool) (bad good : R) : ∀ (n : Nat), (∀ i, i < n → f (mk (i + 1 : Nat)) = some (cond (p (i + 1)) (.inl (mk i)) (.inr bad))) → f (mk 0) = some (.inr good) →
    loopM f (mk n) = some (cond ((List.range n).all (fun i => p (i + 1))) good bad)
  | 0, _, h0 => loop_out h0
  | n + 1, hs, h0 => by
    have h1 := hs n (by omega)
    have ih := loop_downN mk p bad good n (fun i hi => hs i (by omega)) h0
    rw [List.range_succ, List.all_append]
    cases h : p (n + 1) with
    | true =>
      rw [h] at h1
      rw [loop_in h1, ih]
      simp [h]
    | false =>
      rw [h] at h1
      rw [loop_out h1]
      simp [h]
end
end Go.Pm.Try

set_option linter.unusedVariables false
set_option linter.unusedSimpArgs false
namespace Go.Pm.Try
open Go.Pm Go.Pm.Th
def sortedB (es : Es) : Bool := (List.range (es.length - 1)).all fun i => !ltB (es.getD (i + 1) (0, 0)) (es.getD i (0, 0))
def edgesB (n : Int) (es : Es) : Bool := decide (1 ≤ n ∧ n ≤ 6) && decide (es.length ≤ 12) && es.all (fun e => decide (0 ≤ e.1 ∧ e.1 < e.2 ∧ e.2 < n))
open Classical in
noncomputable def connB (n : Int) (es : Es) : Bool := decide (Conn n es)
noncomputable def gokB (n : Int) (es : Es) : Bool := edgesB n es && sortedB es && connB n es
theorem edgesB_spec {n : Int} {es : Es} (h : edgesB n es = true) : (1 ≤ n ∧ n ≤ 6) ∧ es.length ≤ 12 ∧ EOk n es := by
  simp only [edgesB, Bool.and_eq_true, decide_eq_true_eq, List.all_eq_true] at h
  exact ⟨h.1.1, h.1.2, h.2⟩
theorem gokB_gr {n : Int} {es : Es} (h : gokB n es = true) : ∃ m : Nat, n = m ∧ Gr m es := by
  simp only [gokB, Bool.and_eq_true, connB, decide_eq_true_eq] at h
  obtain ⟨⟨h1, h2⟩, h3⟩ := h
  obtain ⟨h4, h5, h6⟩ := edgesB_spec h1
  refine ⟨n.toNat, by omega, ?_⟩
  have e : ((n.toNat : Nat) : Int) = n := by omega
  exact ⟨by rw [e]; exact h6, by rw [e]; exact h3, by omega, by omega, h5⟩
theorem impl_within_spec (x lo hi : Int) : impl_within (x, lo, hi, ()) = some (decide (lo ≤ x ∧ x ≤ hi), ()) := by
  simp only [impl_within]
  by_cases h : x ≥ lo
  · rw [cond_pos h]; simp [show lo ≤ x from h]
  · rw [cond_neg h]; simp [show ¬ lo ≤ x from h]
theorem spec_l01In_spec (x lo hi : Int) : spec_l01In (x, lo, hi, ()) = some (decide (lo ≤ x ∧ x ≤ hi), ()) := by
  simp only [spec_l01In]
  by_cases h : x ≥ lo
  · rw [cond_pos h]; simp [show lo ≤ x from h]
  · rw [cond_neg h]; simp [show ¬ lo ≤ x from h]
theorem impl_EdgesOk_spec (n : Int) (es : Es) (hb : es.length ≤ 8796093022208) : impl_EdgesOk (n, es, ()) = some (edgesB n es, ()) := by
  simp only [impl_EdgesOk, impl_within_spec, Option.bind_some]
  by_cases h1 : 1 ≤ n ∧ n ≤ 6
  · by_cases h2 : es.length ≤ 12
    · have hl := loop_forall (f := impl_EdgesOk_L58) (fun i => (es, (es.length : Int), i, n, es, ())) (fun e => decide (0 ≤ e.1 ∧ e.1 < e.2 ∧ e.2 < n)) es (false, ()) (true, ()) (fun i a ha => by
        have hi := lt_of_get ha
        simp only [impl_EdgesOk_L58]
        simp (disch := omega) only [cond_pos, chk_pos, w64_of, atD_nat, getD_of ha]
        by_cases a1 : a.1 < 0
        · rw [cond_pos a1, cond_neg (by omega)]; rfl
        · rw [cond_neg a1]
          by_cases a2 : a.1 ≥ a.2
          · rw [cond_pos a2, cond_neg (by omega)]; rfl
          · rw [cond_neg a2]
            by_cases a3 : a.2 ≥ n
            · rw [cond_pos a3, cond_neg (by omega)]; rfl
            · rw [cond_neg a3, cond_pos (by omega)]; rfl) (by
        simp only [impl_EdgesOk_L58]
        simp (disch := omega) only [cond_neg, Option.map_some])
      simp only [edgesB, h1, h2, and_self, decide_true, Bool.not_true, cond_false, joinB_inl, impl_EdgesOk_J12]
      rw [cond_neg (by omega), hl]
      cases es.all fun e => decide (0 ≤ e.1 ∧ e.1 < e.2 ∧ e.2 < n) <;> rfl
    · simp only [edgesB, h1, h2, and_self, decide_true, decide_false, Bool.not_true, cond_false, joinB_inl, impl_EdgesOk_J12]
      rw [cond_pos (by omega)]; rfl
  · simp only [edgesB, h1, decide_false, Bool.not_false, cond_true, joinB_inl, impl_EdgesOk_J12]; rfl
theorem spec_EdgesOk_spec (n : Int) (es : Es) (hb : es.length ≤ 8796093022208) : spec_EdgesOk (n, es, ()) = some (edgesB n es, ()) := by
  simp only [spec_EdgesOk, spec_l01In_spec, Option.bind_some]
  by_cases h1 : 1 ≤ n ∧ n ≤ 6
  · by_cases h2 : es.length ≤ 12
    · have hl := loop_forall (f := spec_EdgesOk_L58) (fun i => (es, (es.length : Int), i, n, es, ())) (fun e => decide (0 ≤ e.1 ∧ e.1 < e.2 ∧ e.2 < n)) es (false, ()) (true, ()) (fun i a ha => by
        have hi := lt_of_get ha
        simp only [spec_EdgesOk_L58, spec_l01In_spec, Option.bind_some]
        simp (disch := omega) only [cond_pos, chk_pos, w64_of, atD_nat, getD_of ha]
        by_cases a1 : 0 ≤ a.1 ∧ a.1 ≤ n - 1
        · rw [decide_eq_true a1]
          simp only [Bool.not_true, cond_false]
          rw [w64_of (by omega) (by omega)]
          by_cases a2 : a.1 + 1 ≤ a.2 ∧ a.2 ≤ n - 1
          · rw [decide_eq_true a2, cond_pos (by omega)]; rfl
          · rw [decide_eq_false a2, cond_neg (by omega)]; rfl
        · rw [decide_eq_false a1, cond_neg (by omega)]; rfl) (by
        simp only [spec_EdgesOk_L58]
        simp (disch := omega) only [cond_neg, Option.map_some])
      simp only [edgesB, h1, h2, and_self, decide_true, Bool.not_true, cond_false, joinB_inl, spec_EdgesOk_J12]
      rw [cond_neg (by omega), hl]
      cases es.all fun e => decide (0 ≤ e.1 ∧ e.1 < e.2 ∧ e.2 < n) <;> rfl
    · simp only [edgesB, h1, h2, and_self, decide_true, decide_false, Bool.not_true, cond_false, joinB_inl, spec_EdgesOk_J12]
      rw [cond_pos (by omega)]; rfl
  · simp only [edgesB, h1, decide_false, Bool.not_false, cond_true, joinB_inl, spec_EdgesOk_J12]; rfl
theorem cmp_Compare_int_spec (a b : Int) : cmp_Compare_int (a, b, ()) = some (if a < b then -1 else if b < a then 1 else 0, ()) := by
  simp only [cmp_Compare_int, cmp_isNaN_int, Option.bind_some, bne_self_eq_false, cond_false]
  by_cases h1 : a < b
  · rw [cond_pos h1, if_pos h1]
  · rw [cond_neg h1, if_neg h1]
    by_cases h2 : b < a
    · rw [cond_pos h2, if_pos h2]
    · rw [cond_neg h2, if_neg h2]
theorem impl_compareEdges_neg (a b : Int × Int) : ∃ c, impl_compareEdges (a.1, a.2, b.1, b.2, ()) = some (c, ()) ∧ decide (c < 0) = ltB a b := by
  simp only [impl_compareEdges, cmp_Compare_int_spec, Option.bind_some]
  by_cases h1 : a.1 < b.1
  · refine ⟨-1, ?_, ?_⟩
    · rw [if_pos h1]; rfl
    · simp [ltB, h1]
  · by_cases h2 : b.1 < a.1
    · refine ⟨1, ?_, ?_⟩
      · rw [if_neg h1, if_pos h2]; rfl
      · have : ¬ a.1 = b.1 := by omega
        simp [ltB, h1, this]
    · have e : a.1 = b.1 := by omega
      refine ⟨if a.2 < b.2 then -1 else if b.2 < a.2 then 1 else 0, ?_, ?_⟩
      · rw [if_neg h1, if_neg h2]; rfl
      · by_cases h3 : a.2 < b.2
        · simp [ltB, h3, e]
        · rw [if_neg h3]
          have : ¬ (if b.2 < a.2 then (1 : Int) else 0) < 0 := by split <;> omega
          simp [ltB, h3, h1, this]
theorem impl_sorted_spec (es : Es) (hb : es.length ≤ 8796093022208) : slices_IsSortedFunc_impl_Edge_impl_Edge (es, ()) = some (sortedB es, ()) := by
  simp only [slices_IsSortedFunc_impl_Edge_impl_Edge]
  rw [w64_of (by omega) (by omega)]
  by_cases h0 : es.length = 0
  · have : es = [] := List.eq_nil_of_length_eq_zero h0
    subst this
    apply loop_out
    simp only [slices_IsSortedFunc_impl_Edge_impl_Edge_L26]
    rfl
  · have e1 : (es.length : Int) - 1 = ((es.length - 1 : Nat) : Int) := by omega
    rw [e1]
    have := loop_downN (f := slices_IsSortedFunc_impl_Edge_impl_Edge_L26) (fun i => (es, i, ())) (fun i => !ltB (es.getD i (0, 0)) (es.getD (i - 1) (0, 0))) (false, ()) (true, ()) (es.length - 1) (fun i hi => by
      simp only [slices_IsSortedFunc_impl_Edge_impl_Edge_L26]
      have e2 : ((i + 1 : Nat) : Int) - 1 = (i : Int) := by omega
      obtain ⟨c, hc, hd⟩ := impl_compareEdges_neg (es.getD (i + 1) (0, 0)) (es.getD i (0, 0))
      simp (disch := omega) only [cond_pos, chk_pos, w64_of, e2, atD_nat, hc, Option.bind_some, hd, Nat.add_sub_cancel]
      cases ltB (es.getD (i + 1) (0, 0)) (es.getD i (0, 0)) <;> rfl) (by
      simp only [slices_IsSortedFunc_impl_Edge_impl_Edge_L26]
      rfl)
    rw [this]
    simp only [sortedB, Nat.add_sub_cancel]
    cases (List.range (es.length - 1)).all fun i => !ltB (es.getD (i + 1) (0, 0)) (es.getD i (0, 0)) <;> rfl
theorem impl_connected_spec (n : Nat) (es : Es) (he : EOk n es) (hn : 0 < n) (h6 : n ≤ 60) (hb : es.length ≤ 8796093022208) : impl_connected ((n : Int), es, ()) = some (connB n es, ()) := by
  have h1 : (1 : Nat) < 2 ^ n := Nat.one_lt_two_pow (by omega)
  have h2 : (2 : Nat) ^ n ≤ 2 ^ 60 := Nat.pow_le_pow_right (by omega) h6
  have inner : ∀ (r k : Nat), r < 2 ^ n → k < n → impl_connected_L58 ((n : Int), es, (r : Int), (n : Int), (k : Int), ()) = some (.inl ((n : Int), es, ((bpass es r : Nat) : Int), (n : Int), ((k + 1 : Nat) : Int), ())) := by
    intro r k hr hk
    simp only [impl_connected_L58]
    rw [cond_pos (by omega)]
    have := loop_fold (f := impl_connected_L7474) (fun (r : Nat) i => ((n : Int), es, (r : Int), (n : Int), (k : Int), es, (es.length : Int), i, ())) bstep (fun i r => r < 2 ^ n) es es.length rfl (fun r => .inl ((n : Int), es, (r : Int), (n : Int), ((k + 1 : Nat) : Int), ())) r hr (fun r i e hi hr => by
      have hlt := lt_of_get hi
      have hok := he e (List.mem_of_getElem? hi)
      refine ⟨?_, bstep_lt hok hr⟩
      have hr62 : r < 2 ^ 62 := by omega
      simp only [impl_connected_L7474]
      simp (disch := omega) only [cond_pos, chk_pos, w64_of, atD_nat, getD_of hi, bit_test r e.1 hr62, bit_test r e.2 hr62, bit_join r e.1 e.2 hr62]
      cases b1 : bset r e.1
      · cases b2 : bset r e.2
        · simp [bstep, b1, b2]
        · simp [bstep, b1, b2]
      · simp [bstep, b1]) (fun r hr => by
      simp only [impl_connected_L7474]
      simp (disch := omega) only [cond_neg, w64_of, Option.map_some]
      rfl)
    rw [this.1]; rfl
  simp only [impl_connected]
  have := loop_count (f := impl_connected_L58) (fun (r : Nat) k => ((n : Int), es, (r : Int), (n : Int), k, ())) (fun _ r => bpass es r) (fun _ r => r < 2 ^ n) n (fun r => (connB n es, ())) 1 h1 (fun r k hk hr => ⟨inner r k hr hk, bpass_lt es r he hr⟩)
  have hfold : ∀ k r, (List.range k).foldl (fun s i => bpass es s) r = iter (bpass es) k r := by
    intro k
    induction k with
    | zero => exact fun r => rfl
    | succ k ih => intro r; rw [List.range_succ, List.foldl_append, ih, iter_succ]; rfl
  -- the end is reached at the last set alone
  have hall := loop_for (f := impl_connected_L58) (fun k => ((n : Int), es, ((iter (bpass es) k 1 : Nat) : Int), (n : Int), (k : Int), ())) n (fun k hk => by
    rw [inner _ k (iter_lt he h1 k) hk, iter_succ])
  have e0 : loopM impl_connected_L58 ((n : Int), es, 1, (n : Int), 0, ()) = loopM impl_connected_L58 ((n : Int), es, ((iter (bpass es) n 1 : Nat) : Int), (n : Int), (n : Int), ()) := hall
  rw [e0]
  apply loop_out
  have hlt := iter_lt he h1 n
  simp only [impl_connected_L58]
  rw [cond_neg (by omega), chk_pos (by omega), ishl_one (n : Int) (by omega) (by omega)]
  rw [Int.toNat_natCast, Nat.one_shiftLeft, w64_of (by omega) (by omega)]
  have e3 : (((iter (bpass es) n 1 : Nat) : Int) == ((2 ^ n : Nat) : Int) - 1) = connB n es := by
    rw [Bool.eq_iff_iff, beq_iff_eq]
    simp only [connB, decide_eq_true_eq]
    rw [← bits_conn he hn]
    omega
  rw [e3]; rfl
theorem impl_GraphOk_spec (n : Int) (es : Es) (hb : es.length ≤ 8796093022208) : impl_GraphOk (n, es, ()) = some (gokB n es, ()) := by
  simp only [impl_GraphOk, impl_EdgesOk_spec n es hb, Option.bind_some, gokB]
  cases h : edgesB n es
  · rfl
  · simp only [cond_true, impl_sorted_spec es hb, Option.bind_some]
    cases h2 : sortedB es
    · rfl
    · obtain ⟨h3, h4, h5⟩ := edgesB_spec h
      obtain ⟨m, rfl⟩ := Int.eq_ofNat_of_zero_le (show 0 ≤ n by omega)
      simp only [cond_true, impl_connected_spec m es h5 (by omega) (by omega) hb, Option.bind_some, Bool.true_and]
end Go.Pm.Try

set_option linter.unusedVariables false
set_option linter.unusedSimpArgs false
namespace Go.Pm.Try
open Go.Pm Go.Pm.Th
theorem all_has (l : List Int) (x : Int) : (l.all fun a => !(a == x)) = !decide (x ∈ l) := by
  rw [Bool.eq_iff_iff]
  simp only [List.all_eq_true, Bool.not_eq_true', beq_eq_false_iff_ne, decide_eq_false_iff_not]
  exact ⟨fun h hx => h x hx rfl, fun h a ha e => h (e ▸ ha)⟩
theorem spec_l02Has_spec (l : List Int) (x : Int) (hb : l.length ≤ 17592186044416) : spec_l02Has (l, x, ()) = some (decide (x ∈ l), ()) := by
  simp only [spec_l02Has]
  have := loop_forall (f := spec_l02Has_L26) (fun i => (x, l, (l.length : Int), i, ())) (fun a => !(a == x)) l (true, ()) (false, ()) (fun i a ha => by
    have hi := lt_of_get ha
    simp only [spec_l02Has_L26]
    simp (disch := omega) only [cond_pos, chk_pos, w64_of, atD_nat, getD_of ha]
    cases a == x <;> rfl) (by
    simp only [spec_l02Has_L26]
    simp (disch := omega) only [cond_neg, Option.map_some])
  rw [this, all_has]
  cases decide (x ∈ l) <;> rfl
theorem get_append {α : Type} {l : List α} {i : Nat} {x : α} (h : l[i]? = some x) (t : List α) : (l ++ t)[i]? = some x := by
  rw [List.getElem?_append_left (lt_of_get h)]; exact h
theorem qadd_get {q : List Int} {i : Nat} {x : Int} (h : q[i]? = some x) (y : Int) : (qadd q y)[i]? = some x := by
  unfold qadd; split
  · exact h
  · exact get_append h _
theorem qadd_len (q : List Int) (y : Int) : (qadd q y).length ≤ q.length + 1 := by
  unfold qadd; split <;> simp
theorem spec_l02Reach_inner (n : Int) (es : Es) (hb : es.length ≤ 1000000000) (q : List Int) (at_ : Nat) (x : Int) (hx : q[at_]? = some x) (hq : q.length ≤ 1000000000) :
    loopM spec_l02Reach_L3730 (q, (at_ : Int), es, (es.length : Int), 0, n, es, ()) = some (.inl (qpass x es q, ((at_ + 1 : Nat) : Int), n, es, ())) := by
  have := loop_fold (f := spec_l02Reach_L3730) (fun q i => (q, (at_ : Int), es, (es.length : Int), i, n, es, ())) (qstep x) (fun i q => q[at_]? = some x ∧ q.length ≤ 1000000000 + 2 * i) es es.length rfl (fun q => .inl (q, ((at_ + 1 : Nat) : Int), n, es, ())) q ⟨hx, by omega⟩ (fun q i e hi ⟨hx, hq⟩ => by
    have hlt := lt_of_get hi
    have hat := lt_of_get hx
    have h1 : (if e.1 = x then qadd q e.2 else q)[at_]? = some x ∧ (if e.1 = x then qadd q e.2 else q).length ≤ q.length + 1 := by
      split
      · exact ⟨qadd_get hx _, qadd_len _ _⟩
      · exact ⟨hx, by omega⟩
    have h2 : (qstep x q e)[at_]? = some x ∧ (qstep x q e).length ≤ q.length + 2 := by
      unfold qstep; dsimp only; split
      · exact ⟨qadd_get h1.1 _, by have := qadd_len (if e.1 = x then qadd q e.2 else q) e.1; omega⟩
      · exact ⟨h1.1, by omega⟩
    refine ⟨?_, h2.1, by omega⟩
    simp only [spec_l02Reach_L3730]
    simp (disch := omega) only [cond_pos, chk_pos, w64_of, atD_nat, getD_of hi, getD_of hx, spec_l02Has_spec q e.2 (by omega), Option.bind_some]
    have step2 : ∀ q1 : List Int, q1[at_]? = some x → q1.length ≤ 2000000000000 → spec_l02Reach_J954981 (q1, (at_ : Int), es, (es.length : Int), (i : Int), n, es, e.1, e.2, ()) = some (.inl (if e.2 = x then qadd q1 e.1 else q1, (at_ : Int), es, (es.length : Int), ((i + 1 : Nat) : Int), n, es, ())) := by
      intro q1 hq1 hl1
      have := lt_of_get hq1
      simp only [spec_l02Reach_J954981]
      simp (disch := omega) only [chk_pos, w64_of, atD_nat, getD_of hq1, spec_l02Has_spec q1 e.1 (by omega), Option.bind_some]
      by_cases a1 : e.2 = x
      · rw [if_pos a1, a1]
        simp only [beq_self_eq_true, cond_true]
        by_cases a2 : e.1 ∈ q1
        · simp [a2, qadd]
        · simp only [a2, decide_false, Bool.not_false, cond_true, List.length_singleton]
          rw [chk_pos (by omega)]
          simp [a2, qadd]
      · rw [if_neg a1]
        have b1 : (e.2 == x) = false := by simpa using a1
        simp [b1]
    by_cases a1 : e.1 = x
    · simp only [a1, beq_self_eq_true, cond_true, joinB_inl, spec_l02Reach_J954980]
      simp only [a1, if_true] at h1
      by_cases a2 : e.2 ∈ q
      · simp only [a2, decide_true, Bool.not_true, cond_false, joinB_inl]
        rw [← a1, step2 q hx (by omega)]
        simp [qstep, a1, qadd, a2]
      · have e1 : qadd q e.2 = q ++ [e.2] := by simp [qadd, a2]
        simp only [a2, decide_false, Bool.not_false, cond_true, List.length_singleton]
        rw [chk_pos (by omega)]
        simp only [joinB_inl]
        rw [← e1, ← a1, step2 (qadd q e.2) h1.1 (by omega)]
        simp [qstep, a1]
    · have e1 : (e.1 == x) = false := by simpa using a1
      simp only [e1, cond_false, joinB_inl, spec_l02Reach_J954980]
      rw [step2 q hx (by omega)]
      simp [qstep, a1]) (fun q _ => by
    simp only [spec_l02Reach_L3730]
    have hat : (at_ : Int) + 1 = ((at_ + 1 : Nat) : Int) := by omega
    have := lt_of_get hx
    simp (disch := omega) only [cond_neg, w64_of, Option.map_some, hat])
  rw [this.1]; rfl
theorem spec_l02Reach_spec (g : Int) (n : Nat) (es : Es) (he : EOk n es) (hn : 0 < n) (h6 : n ≤ 1000) (hb : es.length ≤ 1000000000) : ∃ q, spec_l02Reach (g, es, ()) = some (q, ()) ∧ QInv n es 0 q ∧ QDone es q q.length := by
  have h0 : (0 : Int) ≤ 0 ∧ (0 : Int) < n := by omega
  have key : ∀ (m : Nat) (q : List Int) (at_ : Nat), n - at_ = m → QInv n es 0 q → QDone es q at_ → at_ ≤ q.length → ∃ q', loopM spec_l02Reach_L58 (q, (at_ : Int), g, es, ()) = some (q', ()) ∧ QInv n es 0 q' ∧ QDone es q' q'.length := by
    intro m
    induction m with
    | zero =>
      intro q at_ hm hi hd hle
      have hl := hi.len he h0
      refine ⟨q, ?_, hi, ?_⟩
      · apply loop_out
        simp only [spec_l02Reach_L58]
        simp (disch := omega) only [cond_neg, Option.map_some]
      · intro i hi'; exact hd i (by omega)
    | succ m ih =>
      intro q at_ hm hi hd hle
      have hl := hi.len he h0
      by_cases hlt : at_ < q.length
      · have hx : q[at_]? = some q[at_] := List.getElem?_eq_getElem hlt
        obtain ⟨i1, i2⟩ := qround hi hd hx
        obtain ⟨t, ht⟩ := qpass_pre q[at_] es q
        obtain ⟨q', h1, h2⟩ := ih (qpass q[at_] es q) (at_ + 1) (by omega) i1 i2 (by rw [ht]; simp; omega)
        refine ⟨q', ?_, h2⟩
        rw [← h1]
        apply loop_in
        simp only [spec_l02Reach_L58]
        simp (disch := omega) only [cond_pos, spec_l02Reach_inner g es hb q at_ _ hx (by omega)]
      · refine ⟨q, ?_, hi, ?_⟩
        · apply loop_out
          simp only [spec_l02Reach_L58]
          simp (disch := omega) only [cond_neg, Option.map_some]
        · intro i hi'; exact hd i (by omega)
  simp only [spec_l02Reach]
  exact key n [0] 0 (by omega) ⟨by simp, by simpa using .refl, rfl⟩ (fun i hi => by omega) (by simp)
theorem reach_conn (g : Int) (n : Nat) (es : Es) (he : EOk n es) (hn : 0 < n) (h6 : n ≤ 1000) (hb : es.length ≤ 1000000000) : ∃ q, spec_l02Reach (g, es, ()) = some (q, ()) ∧ ((q.length : Int) == (n : Int)) = connB n es := by
  obtain ⟨q, h1, h2, h3⟩ := spec_l02Reach_spec g n es he hn h6 hb
  refine ⟨q, h1, ?_⟩
  have := queue_conn he hn h2 h3
  rw [Bool.eq_iff_iff, beq_iff_eq]
  simp only [connB, decide_eq_true_eq]
  rw [← this]
  omega
theorem spec_GraphOk_spec (n : Int) (es : Es) (hb : es.length ≤ 8796093022208) : spec_GraphOk (n, es, ()) = some (gokB n es, ()) := by
  simp only [spec_GraphOk, spec_EdgesOk_spec n es hb, Option.bind_some, gokB]
  cases h : edgesB n es
  · rfl
  · simp only [Bool.not_true, cond_false, Bool.true_and]
    obtain ⟨h3, h4, h5⟩ := edgesB_spec h
    obtain ⟨m, rfl⟩ := Int.eq_ofNat_of_zero_le (show 0 ≤ n by omega)
    obtain ⟨q, hq, hc⟩ := reach_conn (m : Int) m es h5 (by omega) (by omega) (by omega)
    have := loop_forallN (f := spec_GraphOk_L58) (fun i => (es, (es.length : Int), i, (m : Int), es, ())) (fun i => decide (i = 0) || !ltB (es.getD i (0, 0)) (es.getD (i - 1) (0, 0))) es.length (false, ()) (connB m es, ()) (fun i hi => by
      simp only [spec_GraphOk_L58]
      by_cases h0 : i = 0
      · subst h0
        simp (disch := omega) only [cond_pos, cond_neg, chk_pos, w64_of]
        rfl
      · have e1 : (i : Int) - 1 = ((i - 1 : Nat) : Int) := by omega
        simp (disch := omega) only [cond_pos, chk_pos, w64_of, e1, atD_nat]
        generalize es.getD i (0, 0) = a
        generalize es.getD (i - 1) (0, 0) = b
        by_cases a1 : a.1 < b.1
        · simp [ltB, a1, h0]
        · rw [cond_neg a1]
          by_cases a2 : a.1 = b.1
          · by_cases a3 : a.2 < b.2
            · simp [ltB, a1, a2, a3, h0]
            · simp [ltB, a1, a2, a3, h0]
          · have b2 : (a.1 == b.1) = false := by simpa using a2
            simp [ltB, a1, a2, b2, h0]) (by
      simp only [spec_GraphOk_L58]
      simp (disch := omega) only [cond_neg, hq, Option.bind_some, hc, Option.map_some])
    rw [this]
    have e2 : ((List.range es.length).all fun i => decide (i = 0) || !ltB (es.getD i (0, 0)) (es.getD (i - 1) (0, 0))) = sortedB es := by
      rw [Bool.eq_iff_iff]
      simp only [sortedB, List.all_eq_true, List.mem_range, Bool.or_eq_true, decide_eq_true_eq]
      constructor
      · intro hh i hi
        rcases hh (i + 1) (by omega) with h' | h'
        · omega
        · simpa using h'
      · intro hh i hi
        by_cases h0 : i = 0
        · exact .inl h0
        · right
          have := hh (i - 1) (by omega)
          rw [show i - 1 + 1 = i by omega] at this
          exact this
    rw [e2]
    cases sortedB es <;> rfl
end Go.Pm.Try

set_option linter.unusedVariables false
set_option linter.unusedSimpArgs false
namespace Go.Pm.Try
open Go.Pm Go.Pm.Th
theorem bne_false_iff (a b : Int) : (a != b) = !decide (a = b) := by
  by_cases h : a = b
  · simp [h]
  · have : (a == b) = false := by simpa using h
    simp [bne, this, h]
theorem beq_dec (a b : Int) : (a == b) = decide (a = b) := by
  by_cases h : a = b
  · simp [h]
  · have : (a == b) = false := by simpa using h
    simp [this, h]
def allInB (l : List Int) (lo hi : Int) : Bool := l.all fun x => decide (lo ≤ x ∧ x ≤ hi)
theorem impl_allWithin_spec (l : List Int) (lo hi : Int) (hb : l.length ≤ 17592186044416) : impl_allWithin (l, lo, hi, ()) = some (allInB l lo hi, ()) := by
  simp only [impl_allWithin]
  have := loop_forall (f := impl_allWithin_L26) (fun i => (lo, hi, l, (l.length : Int), i, ())) (fun x => decide (lo ≤ x ∧ x ≤ hi)) l (false, ()) (true, ()) (fun i a ha => by
    have hi' := lt_of_get ha
    simp only [impl_allWithin_L26, impl_within_spec, Option.bind_some]
    simp (disch := omega) only [cond_pos, chk_pos, w64_of, atD_nat, getD_of ha]
    cases decide (lo ≤ a ∧ a ≤ hi) <;> rfl) (by
    simp only [impl_allWithin_L26]
    simp (disch := omega) only [cond_neg, Option.map_some])
  rw [this]
  show _ = some (allInB l lo hi, ())
  unfold allInB
  cases l.all fun x => decide (lo ≤ x ∧ x ≤ hi) <;> rfl
noncomputable def divOkB (n : Int) (es : Es) (d : List Int) : Bool := gokB n es && (decide ((d.length : Int) = n) && allInB d (-60) 60)
theorem impl_DivisorOk_spec (n : Int) (es : Es) (d : List Int) (hb : es.length ≤ 8796093022208) (hd : d.length ≤ 17592186044416) : impl_DivisorOk (n, es, d, ()) = some (divOkB n es d, ()) := by
  simp only [impl_DivisorOk, impl_GraphOk_spec n es hb, impl_allWithin_spec d _ _ hd, Option.bind_some, divOkB, beq_dec]
  cases gokB n es <;> cases decide ((d.length : Int) = n) <;> rfl
/-- a vertex of a graph with so many vertices -/
def inB (q n : Int) : Bool := decide (0 ≤ q ∧ q < n)
theorem inB_iff {q n : Int} : inB q n = true ↔ 0 ≤ q ∧ q < n := by simp [inB]
theorem within_vertex {n : Int} (h : 1 ≤ n ∧ n ≤ 6) (q : Int) : decide (0 ≤ q ∧ q ≤ w64 (n - 1)) = inB q n := by
  rw [w64_of (by omega) (by omega), inB]
  exact decide_eq_decide.2 (by omega)
theorem gokB_n {n : Int} {es : Es} (h : gokB n es = true) : (1 ≤ n ∧ n ≤ 6) ∧ es.length ≤ 12 := by
  simp only [gokB, Bool.and_eq_true] at h
  have := edgesB_spec h.1.1
  exact ⟨this.1, this.2.1⟩
theorem divOkB_len {n : Int} {es : Es} {d : List Int} (h : divOkB n es d = true) : gokB n es = true ∧ (d.length : Int) = n ∧ ∀ x ∈ d, -60 ≤ x ∧ x ≤ 60 := by
  simp only [divOkB, Bool.and_eq_true, decide_eq_true_eq, allInB, List.all_eq_true] at h
  exact ⟨h.1, h.2.1, h.2.2⟩
theorem atD_at0 (l : List Int) (v : Int) : atD 0 l v = at0 l v := rfl
theorem atD_edge (es : Es) (k : Int) : atD (0, 0) es k = edge es k := rfl
end Go.Pm.Try

set_option linter.unusedVariables false
set_option linter.unusedSimpArgs false
set_option linter.unusedSectionVars false
namespace Go.Pm.Try
open Go.Pm Go.Pm.Th
section
variable {α σ S R : Type} {f : S → Option (S ⊕ R)}
def nxt (mk : σ → Int → S) (i : Nat) : σ ⊕ R → S ⊕ R
  | .inl s' => .inl (mk s' (i : Int))
  | .inr r => .inr r
def fino (fin : σ → R) : σ ⊕ R → R
  | .inl s => fin s
  | .inr r => r
theorem loop_run (mk : σ → Int → S) (g : σ → α → σ ⊕ R) (P : Nat → σ → Prop) (l : List α) (n : Nat) (hn : n = l.length) (fin : σ → R) (s : σ) (h0 : P 0 s)
    (hstep : ∀ (s : σ) (i : Nat) (a : α), l[i]? = some a → P i s → f (mk s i) = some (nxt mk (i + 1) (g s a)) ∧ ∀ s', g s a = .inl s' → P (i + 1) s')
    (hfin : ∀ s, P n s → f (mk s n) = some (.inr (fin s))) : loopM f (mk s 0) = some (fino fin (runL g l s)) := by
  rw [loop_list (f := f) mk g P l n hn fin s h0 (fun s i a ha hp => ⟨by rw [(hstep s i a ha hp).1]; cases g s a <;> rfl, (hstep s i a ha hp).2⟩) hfin]
  cases runL g l s <;> rfl
end
/-- edges with their images -/
abbrev Zs := List ((Int × Int) × Int)
def edgeMapB (hs : Es) (vs : List Int) (a : (Int × Int) × Int) : Bool :=
  if a.2 = -1 then decide (at0 vs a.1.1 = at0 vs a.1.2)
  else decide (0 ≤ a.2 ∧ a.2 < hs.length) && (decide ((edge hs a.2).1 = min2 (at0 vs a.1.1) (at0 vs a.1.2)) && decide ((edge hs a.2).2 = max2 (at0 vs a.1.1) (at0 vs a.1.2)))
noncomputable def morB (n : Int) (es : Es) (N : Int) (hs : Es) (vs ks : List Int) : Bool :=
  gokB n es && (gokB N hs && (decide ((vs.length : Int) = n) && (decide ((ks.length : Int) = es.length) && (allInB vs 0 (N - 1) && (es.zip ks).all (edgeMapB hs vs)))))
theorem zip_get {es : Es} {ks : List Int} {i : Nat} {a : (Int × Int) × Int} (h : (es.zip ks)[i]? = some a) : es[i]? = some a.1 ∧ ks[i]? = some a.2 := by
  rw [List.getElem?_zip_eq_some] at h
  exact h
theorem spec_MorphismOk_spec (n : Int) (es : Es) (N : Int) (hs : Es) (vs ks : List Int) (hb : es.length ≤ 8796093022208) (hc : hs.length ≤ 8796093022208) (hv : vs.length ≤ 17592186044416) (hk : ks.length ≤ 17592186044416) :
    spec_MorphismOk (n, es, N, hs, vs, ks, ()) = some (morB n es N hs vs ks, ()) := by
  simp only [spec_MorphismOk, spec_GraphOk_spec n es hb, spec_GraphOk_spec N hs hc, Option.bind_some, bne_false_iff, morB]
  cases hg : gokB n es
  · rfl
  cases hh : gokB N hs
  · rfl
  by_cases h1 : (vs.length : Int) = n
  rotate_left
  · simp [h1, spec_MorphismOk_J12]
  by_cases h2 : (ks.length : Int) = es.length
  rotate_left
  · simp [h1, h2, spec_MorphismOk_J12]
  simp only [h1, h2, decide_true, Bool.not_true, cond_false, joinB_inl, spec_MorphismOk_J12, Bool.true_and]
  have hN := gokB_n hh
  have he : EOk n es := (edgesB_spec (by simp only [gokB, Bool.and_eq_true] at hg; exact hg.1.1)).2.2
  have l1 := loop_forall (f := spec_MorphismOk_L58) (fun i => (vs, (vs.length : Int), i, n, es, N, hs, vs, ks, ())) (fun x => decide (0 ≤ x ∧ x ≤ N - 1)) vs (.inr (false, ())) (.inl (n, es, N, hs, vs, ks, ())) (fun i a ha => by
    have hi' := lt_of_get ha
    simp only [spec_MorphismOk_L58, spec_l01In_spec, Option.bind_some]
    simp (disch := omega) only [cond_pos, chk_pos, w64_of, atD_nat, getD_of ha]
    cases decide (0 ≤ a ∧ a ≤ N - 1) <;> rfl) (by
    simp only [spec_MorphismOk_L58]
    simp (disch := omega) only [cond_neg, Option.map_some])
  rw [h1] at l1
  rw [l1]
  unfold allInB
  cases vs.all fun x => decide (0 ≤ x ∧ x ≤ N - 1)
  · rfl
  simp only [cond_true, joinB_inl, spec_MorphismOk_J29, Bool.true_and]
  have hz : (es.zip ks).length = es.length := by rw [List.length_zip]; omega
  have l2 := loop_forall (f := spec_MorphismOk_L122) (fun i => (es, (es.length : Int), i, N, hs, vs, ks, ())) (edgeMapB hs vs) (es.zip ks) (false, ()) (true, ()) (fun i a ha => by
    obtain ⟨g1, g2⟩ := zip_get ha
    have hi := lt_of_get g1
    have ho := he a.1 (List.mem_of_getElem? g1)
    simp only [spec_MorphismOk_L122, atD_nat, getD_of g1, getD_of g2, spec_l01In_spec, Option.bind_some]
    simp (disch := omega) only [cond_pos, chk_pos, w64_of, beq_dec, bne_false_iff]
    unfold edgeMapB
    by_cases c1 : a.2 = -1
    · rw [if_pos c1, decide_eq_true c1]
      by_cases q : at0 vs a.1.1 = at0 vs a.1.2 <;> simp [q, atD_at0]
    · rw [if_neg c1, decide_eq_false c1]
      by_cases c2 : 0 ≤ a.2 ∧ a.2 < hs.length
      · rw [decide_eq_true c2, decide_eq_true (show 0 ≤ a.2 ∧ a.2 ≤ (hs.length : Int) - 1 by omega)]
        simp only [cond_false, Bool.not_true, Bool.true_and, chk_pos c2, atD_at0, atD_edge]
        by_cases q : (edge hs a.2).1 = min2 (at0 vs a.1.1) (at0 vs a.1.2) <;> by_cases q2 : (edge hs a.2).2 = max2 (at0 vs a.1.1) (at0 vs a.1.2) <;> simp [q, q2]
      · rw [decide_eq_false c2, decide_eq_false (show ¬ (0 ≤ a.2 ∧ a.2 ≤ (hs.length : Int) - 1) by omega)]
        rfl) (by
    rw [hz]
    simp only [spec_MorphismOk_L122]
    simp (disch := omega) only [cond_neg, Option.map_some])
  have l2' : loopM spec_MorphismOk_L122 (es, (es.length : Int), 0, N, hs, vs, ks, ()) = _ := l2
  rw [l2']
  cases (es.zip ks).all (edgeMapB hs vs) <;> rfl
theorem impl_MorphismOk_spec (n : Int) (es : Es) (N : Int) (hs : Es) (vs ks : List Int) (hb : es.length ≤ 8796093022208) (hc : hs.length ≤ 8796093022208) (hv : vs.length ≤ 17592186044416) (hk : ks.length ≤ 17592186044416) :
    impl_MorphismOk (n, es, N, hs, vs, ks, ()) = some (morB n es N hs vs ks, ()) := by
  simp only [impl_MorphismOk, impl_GraphOk_spec n es hb, impl_GraphOk_spec N hs hc, impl_allWithin_spec vs _ _ hv, impl_allWithin_spec ks _ _ hk, Option.bind_some, bne_false_iff, morB]
  cases hg : gokB n es
  · rfl
  cases hh : gokB N hs
  · rfl
  by_cases h1 : (vs.length : Int) = n
  rotate_left
  · simp [h1, impl_MorphismOk_J12]
  by_cases h2 : (ks.length : Int) = es.length
  rotate_left
  · simp [h1, h2, impl_MorphismOk_J12]
  have hN := gokB_n hh
  have he : EOk n es := (edgesB_spec (by simp only [gokB, Bool.and_eq_true] at hg; exact hg.1.1)).2.2
  have hz : (es.zip ks).length = es.length := by rw [List.length_zip]; omega
  simp only [h1, h2, decide_true, Bool.not_true, cond_false, Bool.true_and]
  rw [w64_of (x := N - 1) (by omega) (by omega), w64_of (x := (hs.length : Int) - 1) (by omega) (by omega)]
  cases allInB vs 0 (N - 1)
  · rfl
  cases hall : allInB ks (-1) ((hs.length : Int) - 1)
  · simp only [Bool.not_true, Bool.not_false, cond_false, joinB_inl, impl_MorphismOk_J12, cond_true, Bool.true_and]
    have : (es.zip ks).all (edgeMapB hs vs) = false := by
      rw [Bool.eq_false_iff]
      intro hall'
      rw [List.all_eq_true] at hall'
      rw [allInB, List.all_eq_false] at hall
      obtain ⟨x, hx, hno⟩ := hall
      obtain ⟨i, hi⟩ := List.getElem?_of_mem hx
      have hlt := lt_of_get hi
      have hget : (es.zip ks)[i]? = some (es[i]'(by omega), x) := List.getElem?_zip_eq_some.2 ⟨List.getElem?_eq_getElem (by omega), hi⟩
      have := hall' _ (List.mem_of_getElem? hget)
      unfold edgeMapB at this
      simp only [] at this
      simp only [decide_eq_true_eq] at hno
      split at this
      · omega
      · simp only [Bool.and_eq_true, decide_eq_true_eq] at this
        omega
    rw [this]
  simp only [Bool.not_true, cond_false, joinB_inl, impl_MorphismOk_J12, Bool.true_and]
  have hall' : ∀ x ∈ ks, -1 ≤ x ∧ x ≤ (hs.length : Int) - 1 := by simpa [allInB] using hall
  have l2 := loop_forall (f := impl_MorphismOk_L58) (fun i => (ks, (ks.length : Int), i, n, es, N, hs, vs, ks, ())) (edgeMapB hs vs) (es.zip ks) (false, ()) (true, ()) (fun i a ha => by
    obtain ⟨g1, g2⟩ := zip_get ha
    have hi := lt_of_get g1
    have ho := he a.1 (List.mem_of_getElem? g1)
    have hr := hall' a.2 (List.mem_of_getElem? g2)
    simp only [impl_MorphismOk_L58, atD_nat, getD_of g1, getD_of g2]
    simp (disch := omega) only [cond_pos, chk_pos, w64_of, beq_dec, bne_false_iff]
    unfold edgeMapB
    by_cases c1 : a.2 = -1
    · rw [if_pos c1, decide_eq_true c1, decide_eq_false (show ¬ a.2 ≥ 0 by omega)]
      by_cases q : at0 vs a.1.1 = at0 vs a.1.2 <;> simp [q, atD_at0]
    · rw [if_neg c1, decide_eq_false c1]
      have c2 : 0 ≤ a.2 ∧ a.2 < hs.length := by omega
      rw [decide_eq_true c2, decide_eq_true (show a.2 ≥ 0 by omega)]
      simp only [cond_false, cond_true, Bool.not_true, Bool.true_and, chk_pos c2, atD_at0, atD_edge]
      by_cases q : (edge hs a.2).1 = min2 (at0 vs a.1.1) (at0 vs a.1.2) <;> by_cases q2 : (edge hs a.2).2 = max2 (at0 vs a.1.1) (at0 vs a.1.2) <;> simp [q, q2]) (by
    rw [hz]
    simp only [impl_MorphismOk_L58]
    simp (disch := omega) only [cond_neg, Option.map_some])
  have l2' : loopM impl_MorphismOk_L58 (ks, (ks.length : Int), 0, n, es, N, hs, vs, ks, ()) = _ := l2
  rw [l2']
  cases (es.zip ks).all (edgeMapB hs vs) <;> rfl
def over1 (v k : Int) (a : (Int × Int) × Int) : Int := if (a.1.1 = v ∨ a.1.2 = v) ∧ a.2 = k then 1 else 0
def overZ (z : Zs) (v k : Int) : Int := z.foldl (fun s a => s + over1 v k a) 0
theorem over1_01 (v k : Int) (a : (Int × Int) × Int) : 0 ≤ over1 v k a ∧ over1 v k a ≤ 1 := by unfold over1; split <;> omega
theorem over_fold (v k : Int) : ∀ (z : Zs) (s : Int), 0 ≤ s → 0 ≤ z.foldl (fun s a => s + over1 v k a) s
  | [], s, h => h
  | a :: z, s, h => over_fold v k z (s + over1 v k a) (by have := over1_01 v k a; omega)
theorem overZ_nonneg (z : Zs) (v k : Int) : 0 ≤ overZ z v k := over_fold v k z 0 (Int.le_refl _)
def atImg (hs : Es) (vs : List Int) (v : Int) (j : Nat) : Bool := decide ((edge hs j).1 = at0 vs v) || decide ((edge hs j).2 = at0 vs v)
def mults (z : Zs) (hs : Es) (vs : List Int) (v : Int) : List Int := ((List.range hs.length).filter (atImg hs vs v)).map fun (j : Nat) => overZ z v (j : Int)
def allEqB : List Int → Bool
  | [] => true
  | a :: t => t.all fun x => decide (x = a)
theorem spec_l16Over_spec (n : Int) (es : Es) (vs ks : List Int) (v k : Int) (hz : ks.length = es.length) (hb : es.length ≤ 1000000) : spec_l16Over (n, es, vs, ks, v, k, ()) = some (overZ (es.zip ks) v k, ()) := by
  simp only [spec_l16Over]
  have hzl : (es.zip ks).length = es.length := by rw [List.length_zip]; omega
  have := loop_fold (f := spec_l16Over_L58) (fun s i => (v, k, s, es, (es.length : Int), i, vs, ks, ())) (fun (s : Int) a => s + over1 v k a) (fun i s => 0 ≤ s ∧ s ≤ i) (es.zip ks) es.length hzl.symm (fun s => (s, ())) 0 ⟨Int.le_refl _, Int.le_refl _⟩ (fun s i a ha hs => by
    obtain ⟨g1, g2⟩ := zip_get ha
    have hi := lt_of_get g1
    have ho := over1_01 v k a
    refine ⟨?_, show 0 ≤ s + over1 v k a ∧ s + over1 v k a ≤ ((i + 1 : Nat) : Int) by omega⟩
    simp only [spec_l16Over_L58, atD_nat, getD_of g1, getD_of g2]
    simp (disch := omega) only [cond_pos, chk_pos, w64_of, beq_dec]
    unfold over1
    by_cases h1 : a.1.1 = v
    · by_cases h2 : a.2 = k
      · simp [h1, h2]
      · simp [h1, h2]
    · by_cases h3 : a.1.2 = v
      · by_cases h2 : a.2 = k
        · simp [h1, h2, h3]
        · simp [h1, h2, h3]
      · simp [h1, h3]) (fun s hs => by
    simp only [spec_l16Over_L58]
    simp (disch := omega) only [cond_neg, Option.map_some])
  exact this.1
/-- a run that compares -/
def horG (p : Nat → Bool) (f : Nat → Int) (s : Int × Bool) (j : Nat) : (Int × Bool) ⊕ (Int × Unit) :=
  if p j then (if s.2 then .inl (f j, false) else if f j = s.1 then .inl (f j, false) else .inr (-1, ())) else .inl s
theorem horRun (p : Nat → Bool) (f : Nat → Int) : ∀ (l : List Nat) (b : Int), runL (horG p f) l (b, false) = if ((l.filter p).map f).all (fun x => decide (x = b)) then .inl (b, false) else .inr (-1, ())
  | [], b => rfl
  | j :: l, b => by
    simp only [runL]
    by_cases h : p j = true
    · by_cases h2 : f j = b
      · rw [show horG p f (b, false) j = .inl (b, false) by simp [horG, h, h2]]
        simp only []
        rw [horRun p f l b, List.filter_cons_of_pos h]
        simp [h2]
      · rw [show horG p f (b, false) j = .inr (-1, ()) by simp [horG, h, h2]]
        rw [List.filter_cons_of_pos h]
        simp [h2]
    · rw [show horG p f (b, false) j = .inl (b, false) by simp [horG, h]]
      simp only []
      rw [horRun p f l b, List.filter_cons_of_neg h]
theorem horRun0 (p : Nat → Bool) (f : Nat → Int) : ∀ (l : List Nat), fino (fun s => (s.1, ())) (runL (horG p f) l (0, true)) = (if allEqB ((l.filter p).map f) then ((l.filter p).map f).headD 0 else -1, ())
  | [] => rfl
  | j :: l => by
    simp only [runL]
    by_cases h : p j = true
    · rw [show horG p f (0, true) j = .inl (f j, false) by simp [horG, h]]
      simp only []
      rw [horRun p f l (f j), List.filter_cons_of_pos h]
      simp only [List.map_cons, allEqB, List.headD_cons]
      cases ((l.filter p).map f).all (fun x => decide (x = f j)) <;> rfl
    · rw [show horG p f (0, true) j = .inl (0, true) by simp [horG, h]]
      simp only []
      rw [List.filter_cons_of_neg h]
      exact horRun0 p f l
theorem spec_l16Horizontal_spec (n : Int) (es : Es) (N : Int) (hs : Es) (vs ks : List Int) (v : Int) (hz : ks.length = es.length) (hb : es.length ≤ 1000000) (hc : hs.length ≤ 1000000) (hv : 0 ≤ v ∧ v < vs.length) :
    spec_l16Horizontal (n, es, N, hs, vs, ks, v, ()) = some (if allEqB (mults (es.zip ks) hs vs v) then (mults (es.zip ks) hs vs v).headD 0 else -1, ()) := by
  simp only [spec_l16Horizontal]
  have hr : (List.range hs.length).length = hs.length := List.length_range
  have := loop_run (f := spec_l16Horizontal_L122) (fun (s : Int × Bool) i => (v, s.1, s.2, hs, (hs.length : Int), i, n, es, vs, ks, ())) (horG (atImg hs vs v) (fun j => overZ (es.zip ks) v (j : Int))) (fun _ _ => True) (List.range hs.length) hs.length hr.symm (fun s => (s.1, ())) (0, true) trivial (fun s i a ha _ => by
    have hi : i < hs.length := by have := lt_of_get ha; omega
    have ea : a = i := by rw [List.getElem?_range hi] at ha; cases ha; rfl
    subst ea
    refine ⟨?_, fun _ _ => trivial⟩
    simp only [spec_l16Horizontal_L122]
    simp (disch := omega) only [cond_pos, chk_pos, bne_false_iff, atD_at0, atD_edge]
    have fin : ∀ t39 : Bool, t39 = !atImg hs vs v a → spec_l16Horizontal_J31332 (v, s.1, s.2, (a : Int), hs, (hs.length : Int), (a : Int), t39, n, es, vs, ks, ()) = some (nxt (fun (s : Int × Bool) i => (v, s.1, s.2, hs, (hs.length : Int), i, n, es, vs, ks, ())) (a + 1) (horG (atImg hs vs v) (fun j => overZ (es.zip ks) v (j : Int)) s a)) := by
      intro t39 ht
      subst ht
      simp only [spec_l16Horizontal_J31332, spec_l16Over_spec n es vs ks v (a : Int) hz hb, Option.bind_some, bne_false_iff]
      unfold horG
      cases h1 : atImg hs vs v a
      · simp (disch := omega) only [Bool.not_false, cond_true, w64_of]
        rfl
      · cases h2 : s.2
        · by_cases h3 : overZ (es.zip ks) v (a : Int) = s.1
          · simp (disch := omega) [h3, w64_of, nxt]
          · simp (disch := omega) [h3, w64_of, nxt]
        · simp (disch := omega) [w64_of, nxt]
    by_cases c1 : (edge hs (a : Int)).1 = at0 vs v
    · rw [decide_eq_true c1]
      simp only [Bool.not_true, cond_false, joinB_inl]
      exact fin false (by simp [atImg, c1])
    · rw [decide_eq_false c1]
      simp only [Bool.not_false, cond_true, joinB_inl]
      exact fin (!decide ((edge hs (a : Int)).2 = at0 vs v)) (by simp [atImg, c1])) (fun s _ => by
    simp only [spec_l16Horizontal_L122]
    simp (disch := omega) only [cond_neg, Option.map_some])
  have this' : loopM spec_l16Horizontal_L122 (v, 0, true, hs, (hs.length : Int), 0, n, es, vs, ks, ()) = _ := this
  rw [this', horRun0]
  rfl
theorem impl_isAt_mspec (n : Int) (es : Es) (k : Nat) (v : Int) (hk : k < es.length) (hb : es.length ≤ 1000000) : impl_isAt (n, es, (k : Int), v, ()) = some (decide ((edge es k).1 = v) || decide ((edge es k).2 = v), ()) := by
  simp only [impl_isAt, impl_within_spec, Option.bind_some]
  rw [w64_of (by omega) (by omega), decide_eq_true (show (0 : Int) ≤ (k : Int) ∧ (k : Int) ≤ (es.length : Int) - 1 by omega)]
  simp (disch := omega) only [cond_true, chk_pos, beq_dec, atD_edge]
  cases decide ((edge es (k : Int)).1 = v) <;> rfl
theorem foldl_filter {α β : Type} (p : α → Bool) (f : α → β) : ∀ (l : List α) (out : List β), l.foldl (fun s j => if p j then s ++ [f j] else s) out = out ++ (l.filter p).map f
  | [], out => by simp
  | j :: l, out => by
    simp only [List.foldl_cons]
    rw [foldl_filter p f l]
    by_cases h : p j = true
    · rw [if_pos h, List.filter_cons_of_pos h]; simp
    · rw [if_neg h, List.filter_cons_of_neg h]
theorem impl_multiplicities_spec (n : Int) (es : Es) (N : Int) (hs : Es) (vs ks : List Int) (v : Int) (hz : ks.length = es.length) (hb : es.length ≤ 1000000) (hc : hs.length ≤ 1000000) (hv : 0 ≤ v ∧ v < vs.length) :
    impl_multiplicities (n, es, N, hs, vs, ks, v, ()) = some (mults (es.zip ks) hs vs v, ()) := by
  simp only [impl_multiplicities]
  have hzl : (es.zip ks).length = ks.length := by rw [List.length_zip]; omega
  have inner : ∀ (out : List Int) (j : Nat), out.length ≤ 1000000 → j ≤ 1000000 → loopM impl_multiplicities_L119610 (v, out, (j : Int), 0, (hs.length : Int), (j : Int), ks, (ks.length : Int), 0, n, es, N, hs, vs, ks, ()) = some (.inl (v, out ++ [overZ (es.zip ks) v (j : Int)], (hs.length : Int), ((j + 1 : Nat) : Int), n, es, N, hs, vs, ks, ())) := by
    intro out j ho hj
    have := loop_fold (f := impl_multiplicities_L119610) (fun s i => (v, out, (j : Int), s, (hs.length : Int), (j : Int), ks, (ks.length : Int), i, n, es, N, hs, vs, ks, ())) (fun (s : Int) a => s + over1 v (j : Int) a) (fun i s => 0 ≤ s ∧ s ≤ i) (es.zip ks) ks.length hzl.symm (fun s => .inl (v, out ++ [s], (hs.length : Int), ((j + 1 : Nat) : Int), n, es, N, hs, vs, ks, ())) 0 ⟨Int.le_refl _, Int.le_refl _⟩ (fun s i a ha hs' => by
      obtain ⟨g1, g2⟩ := zip_get ha
      have hi := lt_of_get g1
      have ho := over1_01 v (j : Int) a
      refine ⟨?_, show 0 ≤ s + over1 v (j : Int) a ∧ s + over1 v (j : Int) a ≤ ((i + 1 : Nat) : Int) by omega⟩
      have hed : edge es (i : Int) = a.1 := by rw [← atD_edge, atD_nat, getD_of g1]
      simp only [impl_multiplicities_L119610, atD_nat, getD_of g2, impl_isAt_mspec n es i v hi hb, Option.bind_some, hed]
      simp (disch := omega) only [cond_pos, chk_pos, w64_of, beq_dec]
      unfold over1
      by_cases h2 : a.2 = (j : Int)
      · by_cases h1 : a.1.1 = v
        · simp [h1, h2]
        · by_cases h3 : a.1.2 = v
          · simp [h1, h2, h3]
          · simp [h1, h2, h3]
      · simp [h2]) (fun s hs' => by
      simp only [impl_multiplicities_L119610]
      rw [cond_neg (by omega), chk_pos (by simp; omega), w64_of (by omega) (by omega)]
      rfl)
    exact this.1
  have := loop_count (f := impl_multiplicities_L58) (fun s i => (v, s, (hs.length : Int), i, n, es, N, hs, vs, ks, ())) (fun j (s : List Int) => if atImg hs vs v j then s ++ [overZ (es.zip ks) v (j : Int)] else s) (fun i s => s.length ≤ i) hs.length (fun s => (s, ())) [] (by simp) (fun s i hi hs' => by
    refine ⟨?_, ?_⟩
    rotate_left
    · show (if atImg hs vs v i = true then s ++ [overZ (es.zip ks) v (i : Int)] else s).length ≤ i + 1
      split
      · simp; omega
      · omega
    simp only [impl_multiplicities_L58]
    rw [cond_pos (by omega), chk_pos (by omega), atD_at0, impl_isAt_mspec N hs i (at0 vs v) hi hc]
    simp only [Option.bind_some]
    cases h1 : atImg hs vs v i
    · rw [show (decide ((edge hs (i : Int)).1 = at0 vs v) || decide ((edge hs (i : Int)).2 = at0 vs v)) = false from h1]
      simp (disch := omega) only [Bool.not_false, cond_true, w64_of]
      rfl
    · rw [show (decide ((edge hs (i : Int)).1 = at0 vs v) || decide ((edge hs (i : Int)).2 = at0 vs v)) = true from h1]
      simp only [Bool.not_true, cond_false, if_true]
      exact inner s i (by omega) (by omega)) (fun s hs' => by
    simp only [impl_multiplicities_L58]
    rw [cond_neg (by omega)]; rfl)
  have h1 := this.1
  rw [foldl_filter (atImg hs vs v) (fun (j : Nat) => overZ (es.zip ks) v (j : Int))] at h1
  exact h1
def minL (a : Int) (t : List Int) : Int := t.foldl min2 a
def maxL (a : Int) (t : List Int) : Int := t.foldl max2 a
theorem slices_Min_spec (a : Int) (t : List Int) (hb : t.length ≤ 1000000) : slices_Min_int_int (a :: t, ()) = some (minL a t, ()) := by
  simp only [slices_Min_int_int]
  rw [cond_neg (by simp; omega)]
  simp only [joinB_inl, slices_Min_int_int_J13]
  rw [chk_pos ⟨Int.le_refl _, by simp⟩]
  have := loop_fold (f := slices_Min_int_int_L122) (fun s i => (a :: t, s, i + 1, ())) min2 (fun _ _ => True) t t.length rfl (fun s => (s, ())) a trivial (fun s i x hi _ => by
    have hlt := lt_of_get hi
    refine ⟨?_, trivial⟩
    have e : (i : Int) + 1 = ((i + 1 : Nat) : Int) := by omega
    have hg : (a :: t)[i + 1]? = some x := by simpa using hi
    have hl : (a :: t).length = t.length + 1 := rfl
    simp only [slices_Min_int_int_L122, e, atD_nat, getD_of hg, hl]
    rw [cond_pos (by omega), chk_pos (by omega), w64_of (by omega) (by omega)]) (fun s _ => by
    have hl : (a :: t).length = t.length + 1 := rfl
    simp only [slices_Min_int_int_L122, hl]
    rw [cond_neg (by omega)]; rfl)
  exact this.1
theorem slices_Max_spec (a : Int) (t : List Int) (hb : t.length ≤ 1000000) : slices_Max_int_int (a :: t, ()) = some (maxL a t, ()) := by
  simp only [slices_Max_int_int]
  rw [cond_neg (by simp; omega)]
  simp only [joinB_inl, slices_Max_int_int_J13]
  rw [chk_pos ⟨Int.le_refl _, by simp⟩]
  have := loop_fold (f := slices_Max_int_int_L122) (fun s i => (a :: t, s, i + 1, ())) max2 (fun _ _ => True) t t.length rfl (fun s => (s, ())) a trivial (fun s i x hi _ => by
    have hlt := lt_of_get hi
    refine ⟨?_, trivial⟩
    have e : (i : Int) + 1 = ((i + 1 : Nat) : Int) := by omega
    have hg : (a :: t)[i + 1]? = some x := by simpa using hi
    have hl : (a :: t).length = t.length + 1 := rfl
    simp only [slices_Max_int_int_L122, e, atD_nat, getD_of hg, hl]
    rw [cond_pos (by omega), chk_pos (by omega), w64_of (by omega) (by omega)]) (fun s _ => by
    have hl : (a :: t).length = t.length + 1 := rfl
    simp only [slices_Max_int_int_L122, hl]
    rw [cond_neg (by omega)]; rfl)
  exact this.1
theorem minL_le : ∀ (t : List Int) (a : Int), minL a t ≤ a ∧ ∀ x ∈ t, minL a t ≤ x
  | [], a => ⟨Int.le_refl _, fun x h => by simp at h⟩
  | b :: t, a => by
    have ih := minL_le t (min2 a b)
    have hm : min2 a b ≤ a ∧ min2 a b ≤ b := by unfold min2; split <;> omega
    show minL (min2 a b) t ≤ a ∧ ∀ x ∈ b :: t, minL (min2 a b) t ≤ x
    refine ⟨by omega, fun x hx => ?_⟩
    rcases List.mem_cons.1 hx with rfl | hx
    · omega
    · exact ih.2 x hx
theorem maxL_ge : ∀ (t : List Int) (a : Int), a ≤ maxL a t ∧ ∀ x ∈ t, x ≤ maxL a t
  | [], a => ⟨Int.le_refl _, fun x h => by simp at h⟩
  | b :: t, a => by
    have ih := maxL_ge t (max2 a b)
    have hm : a ≤ max2 a b ∧ b ≤ max2 a b := by unfold max2; split <;> omega
    show a ≤ maxL (max2 a b) t ∧ ∀ x ∈ b :: t, x ≤ maxL (max2 a b) t
    refine ⟨by omega, fun x hx => ?_⟩
    rcases List.mem_cons.1 hx with rfl | hx
    · omega
    · exact ih.2 x hx
theorem minL_const : ∀ (t : List Int) (a : Int), (∀ x ∈ t, x = a) → minL a t = a ∧ maxL a t = a
  | [], a, _ => ⟨rfl, rfl⟩
  | b :: t, a, h => by
    have hb : b = a := h b (by simp)
    subst hb
    have ih := minL_const t b fun x hx => h x (by simp [hx])
    have h1 : min2 b b = b := by simp [min2]
    have h2 : max2 b b = b := by simp [max2]
    show minL (min2 b b) t = b ∧ maxL (max2 b b) t = b
    rw [h1, h2]; exact ih
theorem minL_maxL (a : Int) (t : List Int) : minL a t = maxL a t ↔ allEqB (a :: t) = true := by
  simp only [allEqB, List.all_eq_true, decide_eq_true_eq]
  constructor
  · intro h x hx
    have := minL_le t a
    have := maxL_ge t a
    have := (minL_le t a).2 x hx
    have := (maxL_ge t a).2 x hx
    omega
  · intro h
    obtain ⟨h1, h2⟩ := minL_const t a h
    rw [h1, h2]
noncomputable def harmB (n : Int) (es : Es) (N : Int) (hs : Es) (vs ks : List Int) : Bool := morB n es N hs vs ks && (List.range n.toNat).all fun (v : Nat) => allEqB (mults (es.zip ks) hs vs (v : Int))
theorem morB_len {n : Int} {es : Es} {N : Int} {hs : Es} {vs ks : List Int} (h : morB n es N hs vs ks = true) : gokB n es = true ∧ gokB N hs = true ∧ (vs.length : Int) = n ∧ ks.length = es.length ∧ (∀ x ∈ vs, 0 ≤ x ∧ x ≤ N - 1) ∧ ∀ a ∈ es.zip ks, edgeMapB hs vs a = true := by
  simp only [morB, Bool.and_eq_true, decide_eq_true_eq, allInB, List.all_eq_true] at h
  exact ⟨h.1, h.2.1, h.2.2.1, by have := h.2.2.2.1; omega, h.2.2.2.2.1, h.2.2.2.2.2⟩
theorem spec_IsHarmonic_spec (n : Int) (es : Es) (N : Int) (hs : Es) (vs ks : List Int) (hb : es.length ≤ 8796093022208) (hc : hs.length ≤ 8796093022208) (hv : vs.length ≤ 17592186044416) (hk : ks.length ≤ 17592186044416) :
    spec_IsHarmonic (n, es, N, hs, vs, ks, ()) = some (harmB n es N hs vs ks, ()) := by
  simp only [spec_IsHarmonic, spec_MorphismOk_spec n es N hs vs ks hb hc hv hk, Option.bind_some, harmB]
  cases hm : morB n es N hs vs ks
  · rfl
  obtain ⟨hg, hh, h1, h2, h3, h4⟩ := morB_len hm
  have hn := gokB_n hg
  have hN := gokB_n hh
  simp only [Bool.not_true, cond_false, Bool.true_and]
  have := loop_forallN (f := spec_IsHarmonic_L58) (fun i => (i, n, es, N, hs, vs, ks, ())) (fun (v : Nat) => allEqB (mults (es.zip ks) hs vs (v : Int))) n.toNat (false, ()) (true, ()) (fun i hi => by
    simp only [spec_IsHarmonic_L58]
    rw [cond_pos (by omega), spec_l16Horizontal_spec n es N hs vs ks (i : Int) h2 (by omega) (by omega) ⟨by omega, by omega⟩]
    simp only [Option.bind_some]
    cases hq : allEqB (mults (es.zip ks) hs vs (i : Int))
    · rfl
    · have : 0 ≤ (mults (es.zip ks) hs vs (i : Int)).headD 0 := by
        unfold mults
        cases (List.range hs.length).filter (atImg hs vs (i : Int)) with
        | nil => exact Int.le_refl _
        | cons j l => exact overZ_nonneg _ _ _
      rw [if_pos rfl, cond_neg (by omega), w64_of (by omega) (by omega)]
      rfl) (by
    simp only [spec_IsHarmonic_L58]
    rw [cond_neg (by omega)]; rfl)
  have this' : loopM spec_IsHarmonic_L58 (0, n, es, N, hs, vs, ks, ()) = _ := this
  rw [this']
  cases (List.range n.toNat).all fun (v : Nat) => allEqB (mults (es.zip ks) hs vs (v : Int)) <;> rfl
theorem mults_len (z : Zs) (hs : Es) (vs : List Int) (v : Int) : (mults z hs vs v).length ≤ hs.length := by
  unfold mults
  rw [List.length_map]
  have := List.length_filter_le (atImg hs vs v) (List.range hs.length)
  simpa using this
theorem impl_IsHarmonic_spec (n : Int) (es : Es) (N : Int) (hs : Es) (vs ks : List Int) (hb : es.length ≤ 8796093022208) (hc : hs.length ≤ 8796093022208) (hv : vs.length ≤ 17592186044416) (hk : ks.length ≤ 17592186044416) :
    impl_IsHarmonic (n, es, N, hs, vs, ks, ()) = some (harmB n es N hs vs ks, ()) := by
  simp only [impl_IsHarmonic, impl_MorphismOk_spec n es N hs vs ks hb hc hv hk, Option.bind_some, harmB]
  cases hm : morB n es N hs vs ks
  · rfl
  obtain ⟨hg, hh, h1, h2, h3, h4⟩ := morB_len hm
  have hn := gokB_n hg
  have hN := gokB_n hh
  simp only [Bool.not_true, cond_false, Bool.true_and]
  have := loop_forallN (f := impl_IsHarmonic_L58) (fun i => ((vs.length : Int), i, n, es, N, hs, vs, ks, ())) (fun (v : Nat) => allEqB (mults (es.zip ks) hs vs (v : Int))) n.toNat (false, ()) (true, ()) (fun i hi => by
    simp only [impl_IsHarmonic_L58]
    rw [cond_pos (by omega), impl_multiplicities_spec n es N hs vs ks (i : Int) h2 (by omega) (by omega) ⟨by omega, by omega⟩]
    simp only [Option.bind_some]
    have hl := mults_len (es.zip ks) hs vs (i : Int)
    cases hq : mults (es.zip ks) hs vs (i : Int) with
    | nil =>
      rw [cond_neg (by simp), w64_of (by omega) (by omega)]
      rfl
    | cons a t =>
      rw [hq] at hl
      have hl' : t.length + 1 ≤ hs.length := hl
      rw [cond_pos (by simp), slices_Min_spec a t (by omega), slices_Max_spec a t (by omega)]
      simp only [Option.bind_some, bne_false_iff]
      by_cases he : minL a t = maxL a t
      · rw [decide_eq_true he, (minL_maxL a t).1 he, w64_of (by omega) (by omega)]
        rfl
      · have : allEqB (a :: t) = false := by rw [Bool.eq_false_iff]; exact fun h => he ((minL_maxL a t).2 h)
        rw [decide_eq_false he, this]
        rfl) (by
    simp only [impl_IsHarmonic_L58]
    rw [cond_neg (by omega)]; rfl)
  have this' : loopM impl_IsHarmonic_L58 ((vs.length : Int), 0, n, es, N, hs, vs, ks, ()) = _ := this
  rw [this']
  cases (List.range n.toNat).all fun (v : Nat) => allEqB (mults (es.zip ks) hs vs (v : Int)) <;> rfl
end Go.Pm.Try

set_option linter.unusedVariables false
set_option linter.unusedSimpArgs false
set_option linter.unusedSectionVars false
namespace Go.Pm.Try
open Go.Pm Go.Pm.Th
def pw : Nat → Int
  | 0 => 1
  | k + 1 => 3 * pw k
section
variable {n N : Nat} {es hs : Es} (hg : gokB n es = true) (hh : gokB N hs = true) (h5 : es.length ≤ 5) (h3 : hs.length ≤ 3)
include hg hh h5 h3
omit hg hh h5 h3 in
omit hh in
omit hg hh h5 h3 in
omit hg hh h5 h3 in
omit hg h5 h3 in
end
end Go.Pm.Try

set_option linter.unusedVariables false
set_option linter.unusedSimpArgs false
namespace Go.Pm.Try
open Go.Pm Go.Pm.Th
theorem iand_255 (a : Int) : 0 ≤ iand .i64 a 255 ∧ iand .i64 a 255 ≤ 255 := by
  show 0 ≤ IntKind.i64.wrap (((BitVec.ofInt 64 a &&& BitVec.ofInt 64 255 : BitVec 64).toNat : Nat) : Int) ∧ IntKind.i64.wrap (((BitVec.ofInt 64 a &&& BitVec.ofInt 64 255 : BitVec 64).toNat : Nat) : Int) ≤ 255
  have h : (BitVec.ofInt 64 a &&& BitVec.ofInt 64 255 : BitVec 64).toNat ≤ 255 := by
    rw [BitVec.toNat_and]
    exact Nat.le_trans Nat.and_le_right (by decide)
  have := w64_of (x := (((BitVec.ofInt 64 a &&& BitVec.ofInt 64 255 : BitVec 64).toNat : Nat) : Int)) (by omega) (by omega)
  unfold w64 at this
  rw [this]
  omega
structure CurOk (b : List Int) (i : Int) : Prop where
  lo : 0 ≤ i
  hi : i ≤ b.length
  len : b.length ≤ 1048576
theorem spec_l01Byte_spec {b : List Int} {i : Int} (c : CurOk b i) (h : Int) : ∃ x i' h', spec_l01Byte (b, i, h, ()) = some (x, b, i', h', ()) ∧ 0 ≤ x ∧ x ≤ 255 ∧ CurOk b i' := by
  have h1 := c.lo
  have h2 := c.hi
  have h3 := c.len
  simp only [spec_l01Byte]
  rw [chk_pos (by decide), chk_pos (by decide)]
  by_cases hlt : i < (b.length : Int)
  · rw [cond_pos hlt, chk_pos ⟨h1, hlt⟩]
    refine ⟨_, _, _, rfl, (iand_255 _).1, (iand_255 _).2, ?_⟩
    rw [w64_of (by omega) (by omega)]
    exact ⟨by omega, by omega, h3⟩
  · rw [cond_neg hlt]
    exact ⟨_, _, _, rfl, (iand_255 _).1, (iand_255 _).2, c⟩
theorem tmod_range {x n : Int} (hx : 0 ≤ x) (hn : 0 < n) : 0 ≤ x.tmod n ∧ x.tmod n < n := by
  rw [Int.tmod_eq_emod_of_nonneg hx]
  exact ⟨Int.emod_nonneg _ (by omega), Int.emod_lt_of_pos _ hn⟩
theorem spec_l01Below_spec {b : List Int} {i : Int} (c : CurOk b i) (n h : Int) : ∃ x i' h', spec_l01Below (n, b, i, h, ()) = some (x, b, i', h', ()) ∧ 0 ≤ x ∧ (0 < n → x < n) ∧ CurOk b i' := by
  simp only [spec_l01Below]
  by_cases h0 : n ≤ 0
  · rw [cond_pos h0]
    exact ⟨0, i, h, rfl, Int.le_refl _, fun hn => by omega, c⟩
  · rw [cond_neg h0]
    by_cases h1 : n ≤ 256
    · rw [cond_pos h1]
      obtain ⟨x, i', h', e1, e2, e3, e4⟩ := spec_l01Byte_spec c h
      rw [e1]
      simp only [Option.bind_some]
      rw [chk_pos (by omega)]
      have ht := tmod_range e2 (show 0 < n by omega)
      exact ⟨_, _, _, rfl, ht.1, fun _ => ht.2, e4⟩
    · rw [cond_neg h1]
      obtain ⟨x, i1, h1', e1, a1, a2, c1⟩ := spec_l01Byte_spec c h
      obtain ⟨y, i2, h2', e2, b1, b2, c2⟩ := spec_l01Byte_spec c1 h1'
      obtain ⟨z, i3, h3', e3, d1, d2, c3⟩ := spec_l01Byte_spec c2 h2'
      obtain ⟨w, i4, h4', e4, f1, f2, c4⟩ := spec_l01Byte_spec c3 h3'
      rw [e1]
      simp only [Option.bind_some]
      rw [e2]
      simp only [Option.bind_some]
      rw [e3]
      simp only [Option.bind_some]
      rw [e4]
      simp only [Option.bind_some]
      rw [chk_pos (by omega)]
      simp (disch := omega) only [w64_of]
      have ht := tmod_range (x := x * 16777216 + y * 65536 + z * 256 + w) (by omega) (show 0 < n by omega)
      exact ⟨_, _, _, rfl, ht.1, fun _ => ht.2, c4⟩
theorem spec_l01New_spec (b : List Int) (hb : b.length ≤ 1048576) : ∃ h, spec_l01New (b, ()) = some (b, 0, h, ()) ∧ CurOk b 0 := by
  simp only [spec_l01New]
  have key : ∀ (m i : Nat) (h : Int), i + m = b.length → ∃ h', loopM spec_l01New_L58 (b, h, (i : Int), ()) = some (b, 0, h', ()) := by
    intro m
    induction m with
    | zero =>
      intro i h hi
      refine ⟨h, ?_⟩
      apply loop_out
      simp only [spec_l01New_L58]
      rw [cond_neg (by omega)]; rfl
    | succ m ih =>
      intro i h hi
      by_cases h4 : (i : Int) < 4000
      · obtain ⟨h', he⟩ := ih (i + 1) _ (by omega)
        refine ⟨h', ?_⟩
        rw [← he]
        apply loop_in
        simp only [spec_l01New_L58]
        rw [cond_pos (by omega), cond_pos h4, chk_pos (by omega)]
        rw [w64_of (x := (i : Int) + 1) (by omega) (by omega)]
        rfl
      · refine ⟨h, ?_⟩
        apply loop_out
        simp only [spec_l01New_L58]
        rw [cond_pos (by omega), cond_neg h4]; rfl
  obtain ⟨h', he⟩ := key b.length 0 _ (by omega)
  exact ⟨h', he, Int.le_refl _, by omega, hb⟩
theorem spec_l21New_spec (b : List Int) (hb : b.length ≤ 1048576) (n : Nat) (hn : n ≤ 1000) : ∃ i h, spec_l21New (b, (n : Int), ()) = some (b, i, h, ()) ∧ CurOk b i := by
  obtain ⟨h, h1, h2⟩ := spec_l01New_spec b hb
  simp only [spec_l21New, h1, Option.bind_some]
  have key : ∀ (m j : Nat) (i h : Int), j + m = n → CurOk b i → ∃ i' h', loopM spec_l21New_L58 ((n : Int), (j : Int), b, i, h, ()) = some (b, i', h', ()) ∧ CurOk b i' := by
    intro m
    induction m with
    | zero =>
      intro j i h hj c
      refine ⟨i, h, ?_, c⟩
      apply loop_out
      simp only [spec_l21New_L58]
      rw [cond_neg (by omega)]; rfl
    | succ m ih =>
      intro j i h hj c
      obtain ⟨x, i1, h1, e1, _, _, c1⟩ := spec_l01Byte_spec c h
      obtain ⟨i', h', e2, c2⟩ := ih (j + 1) i1 h1 (by omega) c1
      refine ⟨i', h', ?_, c2⟩
      rw [← e2]
      apply loop_in
      simp only [spec_l21New_L58]
      rw [cond_pos (by omega), e1]
      simp only [Option.bind_some]
      rw [w64_of (by omega) (by omega)]
      rfl
  exact key n 0 0 h (by omega) h2
end Go.Pm.Try

set_option linter.unusedVariables false
set_option linter.unusedSimpArgs false
set_option linter.unusedSectionVars false
namespace Go.Pm.Try
open Go.Pm Go.Pm.Th
theorem spec_l01Pick_spec {b : List Int} {i : Int} (c : CurOk b i) (l : List Int) (hl : 0 < l.length) (h : Int) : ∃ x i' h', spec_l01Pick (l, b, i, h, ()) = some (x, b, i', h', ()) ∧ x ∈ l ∧ CurOk b i' := by
  obtain ⟨x, i', h', e1, a1, a2, c1⟩ := spec_l01Below_spec c (l.length : Int) h
  have hx := a2 (by omega)
  obtain ⟨k, rfl⟩ := Int.eq_ofNat_of_zero_le a1
  refine ⟨atD 0 l (k : Int), i', h', ?_, ?_, c1⟩
  · simp only [spec_l01Pick, e1, Option.bind_some]
    rw [chk_pos ⟨a1, hx⟩]
  · have hk : k < l.length := by omega
    rw [atD_nat, List.getD_eq_getElem?_getD, List.getElem?_eq_getElem hk]
    exact List.getElem_mem hk
theorem spec_l04Draw_spec {b : List Int} {i : Int} (c : CurOk b i) (h : Int) (n : Nat) (hn : n ≤ 1000) (es : Es) : ∃ d i' h', spec_l04Draw ((n : Int), es, b, i, h, ()) = some (d, b, i', h', ()) ∧ d.length = n ∧ (∀ x ∈ d, -2 ≤ x ∧ x ≤ 6) ∧ CurOk b i' := by
  have key : ∀ (m v : Nat) (out : List Int) (i h : Int), v + m = n → out.length = v → (∀ x ∈ out, -2 ≤ x ∧ x ≤ 6) → CurOk b i → ∃ d i' h', loopM spec_l04Draw_L58 (out, (v : Int), b, i, h, (n : Int), es, ()) = some (d, b, i', h', ()) ∧ d.length = n ∧ (∀ x ∈ d, -2 ≤ x ∧ x ≤ 6) ∧ CurOk b i' := by
    intro m
    induction m with
    | zero =>
      intro v out i h hv hl ho c
      refine ⟨out, i, h, ?_, by omega, ho, c⟩
      apply loop_out
      simp only [spec_l04Draw_L58]
      rw [cond_neg (by omega)]; rfl
    | succ m ih =>
      intro v out i h hv hl ho c
      obtain ⟨x, i1, h1, e1, a1, a2, c1⟩ := spec_l01Below_spec c 7 h
      have hx := a2 (by omega)
      obtain ⟨y, i2, h2, e2, hy, c2⟩ := spec_l01Pick_spec c1 [0, 1, 2, -1, 3, -2, x] (by simp) h1
      have hy' : -2 ≤ y ∧ y ≤ 6 := by
        simp only [List.mem_cons, List.not_mem_nil, or_false] at hy
        omega
      obtain ⟨d, i', h', e3, r⟩ := ih (v + 1) (out ++ [y]) i2 h2 (by omega) (by simp; omega) (fun z hz => by
        rcases List.mem_append.1 hz with hz | hz
        · exact ho z hz
        · simp at hz; subst hz; exact hy') c2
      refine ⟨d, i', h', ?_, r⟩
      rw [← e3]
      apply loop_in
      simp only [spec_l04Draw_L58]
      rw [cond_pos (by omega), e1]
      simp only [Option.bind_some]
      rw [e2]
      simp only [Option.bind_some]
      rw [chk_pos (by simp; omega), w64_of (by omega) (by omega)]
      rfl
  exact key n 0 [] i h (by omega) rfl (fun x hx => by simp at hx) c
theorem spec_MakeDivisor_spec (b : List Int) (hb : b.length ≤ 1048576) (k : Nat) (hk : k ≤ 1000) (n : Nat) (hn : n ≤ 1000) (es : Es) : ∃ d, spec_MakeDivisor (b, (k : Int), (n : Int), es, ()) = some (d, ()) ∧ d.length = n ∧ (∀ x ∈ d, -2 ≤ x ∧ x ≤ 6) := by
  obtain ⟨i, h, e1, c⟩ := spec_l21New_spec b hb k hk
  obtain ⟨d, i', h', e2, a1, a2, _⟩ := spec_l04Draw_spec c h n hn es
  refine ⟨d, ?_, a1, a2⟩
  simp only [spec_MakeDivisor, e1, Option.bind_some, e2]
theorem divOkB_of {n : Int} {es : Es} {d : List Int} (hg : gokB n es = true) (hl : (d.length : Int) = n) (h : ∀ x ∈ d, -60 ≤ x ∧ x ≤ 60) : divOkB n es d = true := by
  simp only [divOkB, hg, hl, decide_true, Bool.true_and, allInB, List.all_eq_true, decide_eq_true_eq]
  exact h
def horV (es hs : Es) (vs ks : List Int) (v : Int) : Int := (mults (es.zip ks) hs vs v).headD 0
theorem overZ_le (v k : Int) : ∀ (z : Zs) (s : Int), z.foldl (fun s a => s + over1 v k a) s ≤ s + z.length
  | [], s => by simp
  | a :: z, s => by
    have := overZ_le v k z (s + over1 v k a)
    have := over1_01 v k a
    simp only [List.foldl_cons, List.length_cons]
    omega
theorem horV_bound (es hs : Es) (vs ks : List Int) (v : Int) : 0 ≤ horV es hs vs ks v ∧ horV es hs vs ks v ≤ es.length := by
  unfold horV mults
  cases (List.range hs.length).filter (atImg hs vs v) with
  | nil => simp
  | cons j l =>
    refine ⟨overZ_nonneg _ _ _, ?_⟩
    have := overZ_le v (j : Int) (es.zip ks) 0
    have hl : (es.zip ks).length ≤ es.length := by rw [List.length_zip]; omega
    show overZ (es.zip ks) v (j : Int) ≤ _
    unfold overZ
    omega
theorem impl_HorizontalOf_spec (n : Int) (es : Es) (N : Int) (hs : Es) (vs ks : List Int) (v : Int) (hb : es.length ≤ 8796093022208) (hc : hs.length ≤ 8796093022208) (hv : vs.length ≤ 17592186044416) (hk : ks.length ≤ 17592186044416) :
    impl_HorizontalOf (n, es, N, hs, vs, ks, v, ()) = some (if harmB n es N hs vs ks && inB v n then horV es hs vs ks v else -1, ()) := by
  simp only [impl_HorizontalOf, impl_IsHarmonic_spec n es N hs vs ks hb hc hv hk, impl_within_spec, Option.bind_some]
  cases hm : harmB n es N hs vs ks
  · rfl
  have hm' := hm
  simp only [harmB, Bool.and_eq_true] at hm'
  obtain ⟨hg, hh, h1, h2, h3, h4⟩ := morB_len hm'.1
  have hn := gokB_n hg
  have hN := gokB_n hh
  rw [within_vertex hn.1]
  cases hi : inB v n
  · rfl
  have hi' := inB_iff.1 hi
  simp only [Bool.not_true, cond_false, Bool.and_self, if_true]
  rw [impl_multiplicities_spec n es N hs vs ks v h2 (by omega) (by omega) (by omega)]
  simp only [Option.bind_some, horV]
  cases hq : mults (es.zip ks) hs vs v with
  | nil => rfl
  | cons a t =>
    rw [beq_dec, cond_neg (by simp; omega), chk_pos ⟨Int.le_refl _, by simp⟩]
    rfl
def degM (ks : List Int) : Int := ks.foldl (fun s k => s + if k = 0 then 1 else 0) 0
theorem impl_DegreeOfMorphism_spec (n : Int) (es : Es) (N : Int) (hs : Es) (vs ks : List Int) (hb : es.length ≤ 8796093022208) (hc : hs.length ≤ 8796093022208) (hv : vs.length ≤ 17592186044416) (hk : ks.length ≤ 17592186044416) :
    impl_DegreeOfMorphism (n, es, N, hs, vs, ks, ()) = some (if harmB n es N hs vs ks then degM ks else -1, ()) := by
  simp only [impl_DegreeOfMorphism, impl_IsHarmonic_spec n es N hs vs ks hb hc hv hk, Option.bind_some]
  cases hm : harmB n es N hs vs ks
  · rfl
  simp only [Bool.not_true, cond_false, if_true]
  have := loop_fold (f := impl_DegreeOfMorphism_L122) (fun s i => (s, ks, (ks.length : Int), i, ())) (fun (s : Int) k => s + if k = 0 then 1 else 0) (fun i s => 0 ≤ s ∧ s ≤ i) ks ks.length rfl (fun s => (s, ())) 0 ⟨Int.le_refl _, Int.le_refl _⟩ (fun s i a ha hs' => by
    have hi := lt_of_get ha
    refine ⟨?_, by show 0 ≤ s + (if a = 0 then 1 else 0) ∧ s + (if a = 0 then 1 else 0) ≤ ((i + 1 : Nat) : Int); split <;> omega⟩
    simp only [impl_DegreeOfMorphism_L122, atD_nat, getD_of ha, beq_dec]
    rw [cond_pos (by omega), chk_pos (by omega), w64_of (x := (i : Int) + 1) (by omega) (by omega), w64_of (x := s + 1) (by omega) (by omega)]
    by_cases h : a = 0
    · simp [h]
    · simp [h]) (fun s hs' => by
    simp only [impl_DegreeOfMorphism_L122]
    rw [cond_neg (by omega)]; rfl)
  exact this.1
def pushSum (z : List (Int × Int)) (w : Int) : Int := z.foldl (fun s a => s + if a.1 = w then a.2 else 0) 0
def pushF (s : List Int) (a : Int × Int) : List Int := s.set a.1.toNat (at0 s a.1 + a.2)
def pushL (N : Nat) (vs d : List Int) : List Int := (vs.zip d).foldl pushF (List.replicate N 0)
theorem pushSum_add (w : Int) : ∀ (z : List (Int × Int)) (s : Int), z.foldl (fun s a => s + if a.1 = w then a.2 else 0) s = s + pushSum z w
  | [], s => by simp [pushSum]
  | a :: z, s => by
    unfold pushSum
    simp only [List.foldl_cons]
    rw [pushSum_add w z, pushSum_add w z (0 + _)]
    omega
theorem pushSum_cons (w : Int) (a : Int × Int) (z : List (Int × Int)) : pushSum (a :: z) w = (if a.1 = w then a.2 else 0) + pushSum z w := by
  have : pushSum (a :: z) w = z.foldl (fun s a => s + if a.1 = w then a.2 else 0) (0 + if a.1 = w then a.2 else 0) := rfl
  rw [this, pushSum_add]; omega
theorem pushF_len (s : List Int) (a : Int × Int) : (pushF s a).length = s.length := by simp [pushF]
theorem pushF_at (s : List Int) (a : Int × Int) (w : Int) (h0 : 0 ≤ a.1) (h1 : a.1 < s.length) (hw : 0 ≤ w) : at0 (pushF s a) w = at0 s w + if a.1 = w then a.2 else 0 := by
  obtain ⟨x, y⟩ := a
  simp only at h0 h1 ⊢
  obtain ⟨i, rfl⟩ := Int.eq_ofNat_of_zero_le h0
  obtain ⟨j, rfl⟩ := Int.eq_ofNat_of_zero_le hw
  have e : ∀ l : List Int, ∀ k : Nat, at0 l (k : Int) = l.getD k 0 := fun l k => by simp [at0]
  simp only [pushF, e, Int.toNat_natCast]
  by_cases hij : i = j
  · subst hij
    rw [if_pos rfl, List.getD_eq_getElem?_getD, List.getElem?_set_self (by omega)]
    rfl
  · rw [if_neg (by omega), List.getD_eq_getElem?_getD, List.getElem?_set_ne hij, List.getD_eq_getElem?_getD]
    omega
theorem pushFold_at (w : Int) (hw : 0 ≤ w) : ∀ (z : List (Int × Int)) (s : List Int), (∀ a ∈ z, 0 ≤ a.1 ∧ a.1 < s.length) → at0 (z.foldl pushF s) w = at0 s w + pushSum z w ∧ (z.foldl pushF s).length = s.length
  | [], s, _ => by simp [pushSum]
  | a :: z, s, h => by
    simp only [List.foldl_cons]
    have ha := h a (by simp)
    obtain ⟨h1, h2⟩ := pushFold_at w hw z (pushF s a) (fun x hx => by rw [pushF_len]; exact h x (by simp [hx]))
    rw [h1, h2, pushF_at s a w ha.1 ha.2 hw, pushF_len, pushSum_cons]
    exact ⟨by omega, rfl⟩
theorem zip_get2 {vs d : List Int} {i : Nat} {a : Int × Int} (h : (vs.zip d)[i]? = some a) : vs[i]? = some a.1 ∧ d[i]? = some a.2 := by
  rw [List.getElem?_zip_eq_some] at h
  exact h
theorem at0_mem (s : List Int) (v : Int) : at0 s v = 0 ∨ at0 s v ∈ s := by
  unfold at0
  rw [List.getD_eq_getElem?_getD]
  cases h : s[v.toNat]? with
  | none => exact .inl rfl
  | some x => exact .inr (List.mem_of_getElem? h)
theorem impl_PushForward_spec (n : Int) (es : Es) (N : Int) (hs : Es) (vs ks d : List Int) (hb : es.length ≤ 8796093022208) (hc : hs.length ≤ 8796093022208) (hv : vs.length ≤ 17592186044416) (hk : ks.length ≤ 17592186044416) (hd : d.length ≤ 17592186044416) :
    impl_PushForward (n, es, N, hs, vs, ks, d, ()) = some (if harmB n es N hs vs ks && divOkB n es d then (pushL N.toNat vs d, true, ()) else ([], false, ())) := by
  simp only [impl_PushForward, impl_IsHarmonic_spec n es N hs vs ks hb hc hv hk, impl_DivisorOk_spec n es d hb hd, Option.bind_some]
  cases hm : harmB n es N hs vs ks
  · rfl
  cases hdo : divOkB n es d
  · rfl
  have hm' := hm
  simp only [harmB, Bool.and_eq_true] at hm'
  obtain ⟨hg, hh, h1, h2, h3, h4⟩ := morB_len hm'.1
  have hn := gokB_n hg
  have hN := gokB_n hh
  obtain ⟨_, hdl, hdv⟩ := divOkB_len hdo
  obtain ⟨M, rfl⟩ := Int.eq_ofNat_of_zero_le (show 0 ≤ N by omega)
  simp only [Bool.not_true, cond_false, joinB_inl, impl_PushForward_J12, Bool.and_self, if_true, Int.toNat_natCast]
  rw [chk_pos ⟨trivial, by omega, by omega⟩]
  have hzl : (vs.zip d).length = d.length := by rw [List.length_zip]; omega
  have := loop_fold (f := impl_PushForward_L122) (fun s i => (s, d, (d.length : Int), i, vs, ks, ())) pushF (fun i s => s.length = M ∧ ∀ x ∈ s, -60 * (i : Int) ≤ x ∧ x ≤ 60 * (i : Int)) (vs.zip d) d.length hzl.symm (fun s => (s, true, ())) (List.replicate M 0) ⟨by simp, fun x hx => by rw [List.eq_of_mem_replicate hx]; omega⟩ (fun s i a ha hs' => by
    obtain ⟨g1, g2⟩ := zip_get2 ha
    have hi := lt_of_get g2
    have r1 := h3 a.1 (List.mem_of_getElem? g1)
    have r2 := hdv a.2 (List.mem_of_getElem? g2)
    obtain ⟨s1, s2⟩ := hs'
    have r3 : -60 * (i : Int) ≤ at0 s a.1 ∧ at0 s a.1 ≤ 60 * (i : Int) := by
      rcases at0_mem s a.1 with h | h
      · rw [h]; omega
      · exact s2 _ h
    refine ⟨?_, by rw [pushF_len]; exact s1, fun x hx => ?_⟩
    · have hl : (vs.length : Int) = n := h1
      simp only [impl_PushForward_L122, atD_nat, getD_of g1, getD_of g2, atD_at0]
      rw [cond_pos (by omega), chk_pos (by omega), chk_pos (by omega), chk_pos (by omega), chk_pos (by omega), w64_of (x := (i : Int) + 1) (by omega) (by omega), w64_of (x := at0 s a.1 + a.2) (by omega) (by omega)]
      rfl
    · unfold pushF at hx
      rcases List.mem_or_eq_of_mem_set hx with hx | hx
      · have := s2 x hx; omega
      · subst hx; omega) (fun s hs' => by
    simp only [impl_PushForward_L122]
    rw [cond_neg (by omega)]; rfl)
  exact this.1
def pullL (es hs : Es) (vs ks d : List Int) : List Int := (List.range vs.length).map fun (v : Nat) => horV es hs vs ks (v : Int) * at0 d (at0 vs (v : Int))
theorem map_range_snoc (f : Nat → Int) (i : Nat) : (List.range i).map f ++ [f i] = (List.range (i + 1)).map f := by
  rw [List.range_succ, List.map_append]; rfl
theorem mul_small {a b A B : Int} (ha : 0 ≤ a ∧ a ≤ A) (hb : -B ≤ b ∧ b ≤ B) (hA : 0 ≤ A) (hB : 0 ≤ B) : -(A * B) ≤ a * b ∧ a * b ≤ A * B := by
  have h1 : a * b ≤ a * B := Int.mul_le_mul_of_nonneg_left hb.2 ha.1
  have h2 : a * B ≤ A * B := Int.mul_le_mul_of_nonneg_right ha.2 hB
  have h3 : a * (-B) ≤ a * b := Int.mul_le_mul_of_nonneg_left hb.1 ha.1
  rw [Int.mul_neg] at h3
  omega
theorem impl_PullBack_spec (n : Int) (es : Es) (N : Int) (hs : Es) (vs ks d : List Int) (hb : es.length ≤ 8796093022208) (hc : hs.length ≤ 8796093022208) (hv : vs.length ≤ 17592186044416) (hk : ks.length ≤ 17592186044416) (hd : d.length ≤ 17592186044416) :
    impl_PullBack (n, es, N, hs, vs, ks, d, ()) = some (if harmB n es N hs vs ks && divOkB N hs d then (pullL es hs vs ks d, true, ()) else ([], false, ())) := by
  simp only [impl_PullBack, impl_IsHarmonic_spec n es N hs vs ks hb hc hv hk, impl_DivisorOk_spec N hs d hc hd, Option.bind_some]
  cases hm : harmB n es N hs vs ks
  · rfl
  cases hdo : divOkB N hs d
  · rfl
  have hm' := hm
  simp only [harmB, Bool.and_eq_true] at hm'
  obtain ⟨hg, hh, h1, h2, h3, h4⟩ := morB_len hm'.1
  have hn := gokB_n hg
  have hN := gokB_n hh
  obtain ⟨_, hdl, hdv⟩ := divOkB_len hdo
  simp only [Bool.not_true, cond_false, joinB_inl, impl_PullBack_J12, Bool.and_self, if_true]
  have := loop_all (f := impl_PullBack_L122) (fun i => (d, (List.range i).map fun (v : Nat) => horV es hs vs ks (v : Int) * at0 d (at0 vs (v : Int)), vs, (vs.length : Int), (i : Int), n, es, N, hs, vs, ks, ())) vs.length (r := (pullL es hs vs ks d, true, ())) (fun i hi => by
    have hg' : vs[i]? = some vs[i] := List.getElem?_eq_getElem hi
    have ea : at0 vs (i : Int) = vs[i] := by rw [← atD_at0, atD_nat, getD_of hg']
    have r1 := h3 _ (List.getElem_mem hi)
    have r2 := horV_bound es hs vs ks (i : Int)
    have r3 : -60 ≤ at0 d (at0 vs (i : Int)) ∧ at0 d (at0 vs (i : Int)) ≤ 60 := by
      rcases at0_mem d (at0 vs (i : Int)) with h | h
      · rw [h]; omega
      · exact hdv _ h
    have r4 := mul_small (A := 12) (B := 60) (show 0 ≤ horV es hs vs ks (i : Int) ∧ horV es hs vs ks (i : Int) ≤ 12 by omega) r3 (by omega) (by omega)
    simp only [impl_PullBack_L122, impl_HorizontalOf_spec n es N hs vs ks (i : Int) hb hc hv hk, Option.bind_some, atD_at0]
    rw [hm, inB_iff.2 (show 0 ≤ (i : Int) ∧ (i : Int) < n by omega), cond_pos (by omega), chk_pos (by omega)]
    simp only [Bool.and_self, if_true]
    rw [chk_pos (by rw [ea]; omega), chk_pos (by simp; omega), w64_of (x := horV es hs vs ks (i : Int) * at0 d (at0 vs (i : Int))) (by omega) (by omega), w64_of (x := (i : Int) + 1) (by omega) (by omega)]
    rw [map_range_snoc (fun (v : Nat) => horV es hs vs ks (v : Int) * at0 d (at0 vs (v : Int)))]
    rfl) (by
    simp only [impl_PullBack_L122]
    rw [cond_neg (by omega)]; rfl)
  exact this
end Go.Pm.Try

set_option linter.unusedVariables false
set_option linter.unusedSimpArgs false
namespace Go.Pm.Try
open Go.Pm Go.Pm.Th
theorem foldl_add {α : Type} (f : α → Int) (l : List α) : ∀ s : Int, l.foldl (fun s a => s + f a) s = s + l.foldl (fun s a => s + f a) 0 := by
  induction l with
  | nil => simp
  | cons a l ih => intro s; simp only [List.foldl_cons]; rw [ih (s + f a), ih (0 + f a)]; omega
theorem foldl_mult (a b : Int) : ∀ es : Es, es.foldl (fun s e => s + multE a b e) 0 = mult es a b
  | [] => rfl
  | e :: es => by simp only [List.foldl_cons, mult]; rw [foldl_add, foldl_mult a b es]; omega
theorem foldl_deg (v : Int) : ∀ es : Es, es.foldl (fun s e => s + if e.1 = v ∨ e.2 = v then 1 else 0) 0 = deg es v
  | [] => rfl
  | e :: es => by simp only [List.foldl_cons, deg]; rw [foldl_add, foldl_deg v es]; omega
theorem l02Vert_spec (n : Int) (es : Es) (v : Int) : spec_l02Vert (n, es, v, ()) = some (inB v n, ()) := by
  simp only [spec_l02Vert, inB]
  by_cases h : v ≥ 0
  · rw [cond_pos h]; simp [show 0 ≤ v from h]
  · rw [cond_neg h]; simp [show ¬ 0 ≤ v from h]
theorem spec_Multiplicity_spec (n : Int) (es : Es) (a b : Int) (he : ∀ e ∈ es, e.1 < e.2) (hb : es.length ≤ 1000000) : spec_Multiplicity (n, es, a, b, ()) = some (if inB a n && inB b n && !decide (a = b) then mult es a b else 0, ()) := by
  simp only [spec_Multiplicity, l02Vert_spec, Option.bind_some, beq_dec]
  cases inB a n
  · rfl
  · cases inB b n
    · rfl
    · by_cases hab : a = b
      · simp [hab, spec_Multiplicity_J28]
      · simp only [hab, decide_false, Bool.not_true, cond_false, joinB_inl, spec_Multiplicity_J28, Bool.and_self, Bool.not_false, if_true]
        have := loop_fold (f := spec_Multiplicity_L122) (fun s i => (a, b, s, es, (es.length : Int), i, ())) (fun (s : Int) e => s + multE a b e) (fun i s => 0 ≤ s ∧ s ≤ i) es es.length rfl (fun s => (s, ())) 0 ⟨Int.le_refl _, Int.le_refl _⟩ (fun s i e hi hs => by
          have hlt := lt_of_get hi
          have hne := he e (List.mem_of_getElem? hi)
          refine ⟨?_, ?_⟩
          · simp only [spec_Multiplicity_L122]
            simp (disch := omega) only [cond_pos, chk_pos, w64_of, atD_nat, getD_of hi, beq_dec]
            unfold multE
            by_cases h1 : e.1 = min2 a b
            · by_cases h2 : e.2 = max2 a b
              · have hc : (e.1 = a ∧ e.2 = b) ∨ (e.1 = b ∧ e.2 = a) := by
                  unfold min2 at h1; unfold max2 at h2
                  split at h1 <;> split at h2 <;> omega
                rw [if_pos hc, decide_eq_true h1, decide_eq_true h2]; simp
              · have hc : ¬ ((e.1 = a ∧ e.2 = b) ∨ (e.1 = b ∧ e.2 = a)) := by
                  unfold min2 at h1; unfold max2 at h2
                  split at h1 <;> split at h2 <;> omega
                rw [if_neg hc, decide_eq_true h1, decide_eq_false h2]; simp
            · have hc : ¬ ((e.1 = a ∧ e.2 = b) ∨ (e.1 = b ∧ e.2 = a)) := by
                unfold min2 at h1
                split at h1 <;> omega
              rw [if_neg hc, decide_eq_false h1]; simp
          · unfold multE; split <;> omega) (fun s hs => by
          simp only [spec_Multiplicity_L122]
          simp (disch := omega) only [cond_neg, Option.map_some])
        rw [this.1, foldl_mult]
theorem sortedB_of {es : Es} (h : Srt es) : sortedB es = true := by
  simp only [sortedB, List.all_eq_true, List.mem_range]
  intro i hi
  have := List.pairwise_iff_getElem.1 h i (i + 1) (by omega) (by omega) (by omega)
  rw [List.getD_eq_getElem?_getD, List.getD_eq_getElem?_getD, List.getElem?_eq_getElem (by omega), List.getElem?_eq_getElem (by omega)]
  simpa using this
theorem gokB_of {n : Nat} {es : Es} (h1 : 1 ≤ n ∧ n ≤ 6) (h2 : es.length ≤ 12) (h3 : EOk n es) (h4 : Srt es) (h5 : Conn n es) : gokB n es = true := by
  simp only [gokB, edgesB, Bool.and_eq_true, decide_eq_true_eq, List.all_eq_true, connB]
  exact ⟨⟨⟨⟨by omega, h2⟩, h3⟩, sortedB_of h4⟩, h5⟩
/-- the edge put in -/
def putS (e : Int × Int) (s : Bool × Es) (x : Int × Int) : Bool × Es := if !s.1 && ltB e x then (true, s.2 ++ [e] ++ [x]) else (s.1, s.2 ++ [x])
theorem put_done (e : Int × Int) : ∀ (es out : Es), es.foldl (putS e) (true, out) = (true, out ++ es)
  | [], out => by simp
  | x :: es, out => by
    simp only [List.foldl_cons]
    rw [show putS e (true, out) x = (true, out ++ [x]) by simp [putS], put_done e es]
    simp
def putF (e : Int × Int) (s : Bool × Es) : Es := cond s.1 s.2 (s.2 ++ [e])
theorem put_ins (e : Int × Int) : ∀ (es out : Es), putF e (es.foldl (putS e) (false, out)) = out ++ insE e es
  | [], out => by simp [insE, putF]
  | x :: es, out => by
    simp only [List.foldl_cons]
    by_cases h : ltB e x = true
    · rw [show putS e (false, out) x = (true, out ++ [e] ++ [x]) by simp [putS, h], put_done]
      simp [insE, h, putF]
    · rw [show putS e (false, out) x = (false, out ++ [x]) by simp [putS, h], put_ins e es]
      simp [insE, h]
theorem spec_AddEdge_spec {n : Nat} {es : Es} (hg : gokB n es = true) {a b : Int} (ha : 0 ≤ a ∧ a < n) (hb : 0 ≤ b ∧ b < n) : spec_AddEdge ((n : Int), es, a, b, ()) = some (if a = b ∨ es.length = 12 then (0, [], false, ()) else ((n : Int), insE (min2 a b, max2 a b) es, true, ())) := by
  obtain ⟨hn, hl⟩ := gokB_n hg
  simp only [spec_AddEdge, spec_GraphOk_spec (n : Int) es (by omega), hg, spec_l01In_spec, Option.bind_some, Bool.not_true, cond_false, beq_dec]
  rw [within_vertex hn, within_vertex hn, inB_iff.2 ha, inB_iff.2 hb]
  simp only [Bool.not_true, cond_false]
  by_cases hab : a = b
  · simp [hab, spec_AddEdge_J12]
  · by_cases h12 : es.length = 12
    · have : (es.length : Int) = 12 := by omega
      simp only [hab, this, decide_false, decide_true, cond_false, joinB_inl, spec_AddEdge_J12, cond_true]
      rw [if_pos (.inr h12)]
    · have h12' : ¬ (es.length : Int) = 12 := by omega
      simp only [hab, h12', decide_false, cond_false, joinB_inl, spec_AddEdge_J12]
      rw [if_neg (show ¬ (False ∨ es.length = 12) from fun h => h.elim id h12)]
      have := loop_fold (f := spec_AddEdge_L506) (fun (s : Bool × Es) i => (s.1, es, (es.length : Int), i, 0, min2 a b, max2 a b, (n : Int), s.2, ())) (putS (min2 a b, max2 a b)) (fun i s => s.2.length ≤ i + 1 ∧ (s.1 = false → s.2.length ≤ i)) es es.length rfl (fun s => ((n : Int), putF (min2 a b, max2 a b) s, true, ())) (false, []) ⟨by simp, fun _ => by simp⟩ (fun s i x hi hs => by
        have hlt := lt_of_get hi
        obtain ⟨hs, hsf⟩ := hs
        refine ⟨?_, by
          unfold putS
          cases hs1 : s.1
          · have := hsf hs1
            cases ltB (min2 a b, max2 a b) x <;> simp <;> omega
          · simp; omega⟩
        have fin : spec_AddEdge_J129636 (s.1, es, (es.length : Int), (i : Int), !s.1 && ltB (min2 a b, max2 a b) x, 0, min2 a b, max2 a b, (n : Int), s.2, x.1, x.2, ()) = some (.inl ((putS (min2 a b, max2 a b) s x).1, es, (es.length : Int), ((i + 1 : Nat) : Int), 0, min2 a b, max2 a b, (n : Int), (putS (min2 a b, max2 a b) s x).2, ())) := by
          simp only [spec_AddEdge_J129636, putS]
          have hs2 : (!s.1 && ltB (min2 a b, max2 a b) x) = true → s.2.length ≤ i := fun h => hsf (by cases hh : s.1 <;> simp_all)
          cases hc : (!s.1 && ltB (min2 a b, max2 a b) x)
          · simp (disch := omega) only [cond_false, chk_pos, w64_of, List.length_singleton, Prod.eta]
            simp
          · have hs2 := hs2 hc
            simp (disch := omega) only [cond_true, chk_pos, w64_of, List.length_singleton, List.length_append, Prod.eta]
            simp
        simp only [spec_AddEdge_L506]
        simp (disch := omega) only [cond_pos, chk_pos, atD_nat, getD_of hi, beq_dec]
        cases h1 : s.1
        · rw [h1] at fin
          by_cases c1 : x.1 > min2 a b
          · have : ltB (min2 a b, max2 a b) x = true := ltB_iff.2 (.inl c1)
            rw [this] at fin
            simp only [Bool.not_false, cond_true]
            rw [cond_pos c1]
            simpa using fin
          · simp only [Bool.not_false, cond_true]
            rw [cond_neg c1]
            by_cases c2 : x.1 = min2 a b
            · have : ltB (min2 a b, max2 a b) x = decide (x.2 > max2 a b) := by
                rw [Bool.eq_iff_iff, ltB_iff, decide_eq_true_eq]
                show min2 a b < x.1 ∨ (min2 a b = x.1 ∧ max2 a b < x.2) ↔ _
                omega
              rw [this] at fin
              rw [decide_eq_true c2]
              simpa using fin
            · have : ltB (min2 a b, max2 a b) x = false := by
                rw [ltB_false]
                show ¬ (min2 a b < x.1 ∨ (min2 a b = x.1 ∧ max2 a b < x.2))
                omega
              rw [this] at fin
              rw [decide_eq_false c2]
              simpa using fin
        · rw [h1] at fin
          simpa using fin) (fun s hs => by
        obtain ⟨hs, hsf⟩ := hs
        simp only [spec_AddEdge_L506]
        rw [cond_neg (by omega)]
        unfold putF
        cases h1 : s.1
        · simp (disch := omega) only [Bool.not_false, cond_true, chk_pos, List.length_singleton, Option.map_some]
          rfl
        · rfl)
      have h1 := this.1
      have h2 := put_ins (min2 a b, max2 a b) es []
      rw [List.nil_append] at h2
      rw [← h2]
      exact h1
end Go.Pm.Try

set_option linter.unusedVariables false
set_option linter.unusedSimpArgs false
namespace Go.Pm.Try
open Go.Pm Go.Pm.Th
/-- a tree on the first vertices, an edge for each but the first -/
structure Tr (v : Nat) (es : Es) : Prop where
  len : es.length + 1 = v
  ok : ∀ e ∈ es, 0 ≤ e.1 ∧ e.1 < e.2 ∧ e.2 < v
  conn : ∀ w : Int, 0 ≤ w → w < v → Rch es 0 w
theorem Tr.step {v : Nat} {es : Es} (h : Tr v es) {x : Int} (h0 : 0 ≤ x) (hx : x < v) : Tr (v + 1) (es ++ [(x, (v : Int))]) := by
  have hsub : ∀ e ∈ es, e ∈ es ++ [(x, (v : Int))] := fun e he => List.mem_append_left _ he
  refine ⟨by simp [h.len], fun e he => ?_, fun w h1 h2 => ?_⟩
  · rcases List.mem_append.1 he with he | he
    · have := h.ok e he; omega
    · simp at he; subst he; exact ⟨h0, hx, by show (v : Int) < ((v + 1 : Nat) : Int); omega⟩
  · by_cases e : w = v
    · subst e
      refine (rch_mono hsub (h.conn x h0 hx)).step ⟨(x, (v : Int)), by simp, .inl ⟨rfl, rfl⟩⟩
    · exact rch_mono hsub (h.conn w h1 (by omega))
theorem draw_tree {b : List Int} (n : Nat) (hn : n ≤ 6) (q : Int) : ∀ (m v : Nat) (i h g : Int) (es : Es), v + m = n → 1 ≤ v → CurOk b i → Tr v es → ∃ i' h' g' es', loopM spec_l02Draw_L122 ((n : Int), (v : Int), b, i, h, q, g, es, ()) = some (.inl ((n : Int), b, i', h', q, g', es', ())) ∧ CurOk b i' ∧ Tr n es' ∧ (g = v → g' = n)
  | 0, v, i, h, g, es, hv, h1, c, ht => by
    have e : v = n := by omega
    subst e
    refine ⟨i, h, g, es, ?_, c, ht, fun h => h⟩
    apply loop_out
    simp only [spec_l02Draw_L122]
    rw [cond_neg (by omega)]; rfl
  | m + 1, v, i, h, g, es, hv, h1, c, ht => by
    obtain ⟨x, i1, h1', e1, a1, a2, c1⟩ := spec_l01Below_spec c (v : Int) h
    have hl := ht.len
    obtain ⟨i', h', g', es', e2, c2, t2, hg⟩ := draw_tree n hn q m (v + 1) i1 h1' ((v + 1 : Nat) : Int) (es ++ [(x, (v : Int))]) (by omega) (by omega) c1 (ht.step a1 (a2 (by omega)))
    refine ⟨i', h', g', es', ?_, c2, t2, fun _ => hg rfl⟩
    rw [← e2]
    apply loop_in
    simp only [spec_l02Draw_L122]
    rw [cond_pos (by omega), e1]
    simp only [Option.bind_some]
    rw [chk_pos (by simp; omega), w64_of (by omega) (by omega)]
    rfl
theorem draw_copy (n a c : Nat) (q : Int) (b : List Int) (i h g0 : Int) (es : Es) (g1 : Int) : ∀ (k : Nat) (out : Es), k ≤ 1000 → out.length ≤ 1000000 - k → c ≤ 1000 →
    loopM spec_l02Draw_L2073746 ((n : Int), (a : Int), (c : Int), (k : Int), b, i, h, q, g0, es, g1, out, ()) = some (.inl ((n : Int), (a : Int), ((c + 1 : Nat) : Int), b, i, h, q, g0, es, g1, out ++ List.replicate k ((a : Int), (c : Int)), ()))
  | 0, out, hk, ho, hc => by
    apply loop_out
    simp only [spec_l02Draw_L2073746]
    rw [cond_neg (by omega), w64_of (by omega) (by omega)]
    simp
  | k + 1, out, hk, ho, hc => by
    rw [loop_in (s' := ((n : Int), (a : Int), (c : Int), (k : Int), b, i, h, q, g0, es, g1, out ++ [((a : Int), (c : Int))], ()))]
    · rw [draw_copy n a c q b i h g0 es g1 k _ (by omega) (by simp; omega) hc]
      simp [List.replicate_succ]
    · simp only [spec_l02Draw_L2073746]
      rw [cond_pos (by omega), chk_pos (by simp; omega), w64_of (by omega) (by omega)]
      rw [show ((k + 1 : Nat) : Int) - 1 = (k : Int) by omega]
theorem draw_row (n a : Nat) (hn : n ≤ 6) (q : Int) (b : List Int) (i h : Int) (es : Es) (g1 : Int) (he : EOk n es) (hb : es.length ≤ 100) (ha : a < n) : ∀ (m c : Nat) (out : Es), c + m = n → a < c → out.length ≤ 100000 - 200 * m →
    loopM spec_l02Draw_L32402 ((n : Int), (a : Int), (c : Int), b, i, h, q, (n : Int), es, g1, out, ()) = some (.inl ((n : Int), ((a + 1 : Nat) : Int), b, i, h, q, (n : Int), es, g1, out ++ (List.range' c m).flatMap fun (c : Nat) => List.replicate (mult es a c).toNat ((a : Int), (c : Int)), ()))
  | 0, c, out, hc, hac, ho => by
    apply loop_out
    simp only [spec_l02Draw_L32402]
    rw [cond_neg (by omega), w64_of (by omega) (by omega)]
    simp
  | m + 1, c, out, hc, hac, ho => by
    have hm0 := mult_nonneg es a c
    have hm1 := mult_le es a c
    have ecast : (((mult es a c).toNat : Nat) : Int) = mult es a c := by omega
    have hcopy := draw_copy n a c q b i h (n : Int) es g1 (mult es a c).toNat out (by omega) (by omega) (by omega)
    rw [ecast] at hcopy
    rw [loop_in (s' := ((n : Int), (a : Int), ((c + 1 : Nat) : Int), b, i, h, q, (n : Int), es, g1, out ++ List.replicate (mult es a c).toNat ((a : Int), (c : Int)), ()))]
    · rw [draw_row n a hn q b i h es g1 he hb ha m (c + 1) _ (by omega) (by omega) (by simp; omega)]
      simp [List.range'_succ]
    · simp only [spec_l02Draw_L32402]
      rw [cond_pos (by omega), spec_Multiplicity_spec (n : Int) es (a : Int) (c : Int) (fun e h => (he e h).2.1) (by omega), inB_iff.2 (show 0 ≤ (a : Int) ∧ (a : Int) < n by omega), inB_iff.2 (show 0 ≤ (c : Int) ∧ (c : Int) < n by omega), decide_eq_false (show ¬ (a : Int) = (c : Int) by omega)]
      simp only [Bool.and_self, Bool.not_false, if_true, Option.bind_some]
      exact hcopy
theorem rowC_bound {n a : Nat} {es : Es} (hn : n ≤ 6) (hb : es.length ≤ 100) : (rowC n es a).length ≤ 600 := by
  have key : ∀ (m c : Nat), ((List.range' c m).flatMap fun (c : Nat) => List.replicate (mult es a c).toNat ((a : Int), (c : Int))).length ≤ m * 100 := by
    intro m
    induction m with
    | zero => intro c; simp
    | succ m ih =>
      intro c
      rw [List.range'_succ, List.flatMap_cons, List.length_append, List.length_replicate]
      have := ih (c + 1)
      have := mult_le es a c
      omega
  have := key (n - (a + 1)) (a + 1)
  unfold rowC
  omega
theorem draw_canon (n : Nat) (hn : n ≤ 6) (q : Int) (b : List Int) (i h : Int) (es : Es) (g1 : Int) (he : EOk n es) (hb : es.length ≤ 100) : ∀ (m a : Nat) (out : Es), a + m = n → out.length ≤ 10000 - 700 * m →
    loopM spec_l02Draw_L506 ((n : Int), (a : Int), b, i, h, q, (n : Int), es, g1, out, ()) = some (.inl ((n : Int), b, i, h, q, g1, out ++ (List.range' a m).flatMap (rowC n es), ()))
  | 0, a, out, ha, ho => by
    apply loop_out
    simp only [spec_l02Draw_L506]
    rw [cond_neg (by omega)]
    simp
  | m + 1, a, out, ha, ho => by
    have hr := rowC_bound (a := a) hn hb
    rw [loop_in (s' := ((n : Int), ((a + 1 : Nat) : Int), b, i, h, q, (n : Int), es, g1, out ++ rowC n es a, ()))]
    · rw [draw_canon n hn q b i h es g1 he hb m (a + 1) _ (by omega) (by simp; omega)]
      simp [List.range'_succ]
    · simp only [spec_l02Draw_L506]
      rw [cond_pos (by omega), w64_of (by omega) (by omega)]
      have := draw_row n a hn q b i h es g1 he hb (by omega) (n - (a + 1)) (a + 1) out (by omega) (by omega) (by omega)
      rw [show (a : Int) + 1 = ((a + 1 : Nat) : Int) by omega]
      exact this
/-- edges put in, so many at most -/
theorem draw_more {b : List Int} (n : Nat) (hn : 2 ≤ n ∧ n ≤ 6) (q : Int) (E : Nat) : ∀ (k : Nat) (i h : Int) (es : Es), k ≤ 6 → CurOk b i → EOk n es → Srt es → Conn n es → es.length ≤ 12 → es.length + k ≤ E → ∃ i' h' es', loopM spec_l02Draw_L1018 ((n : Int), (k : Int), b, i, h, q, (n : Int), es, ()) = some ((n : Int), es', b, i', h', ()) ∧ CurOk b i' ∧ EOk n es' ∧ Srt es' ∧ Conn n es' ∧ es'.length ≤ 12 ∧ es'.length ≤ E
  | 0, i, h, es, hk, c, he, hs, hc, hl, hE => by
    refine ⟨i, h, es, ?_, c, he, hs, hc, hl, by omega⟩
    apply loop_out
    simp only [spec_l02Draw_L1018]
    rw [cond_neg (by omega)]; rfl
  | k + 1, i, h, es, hk, c, he, hs, hc, hl, hE => by
    obtain ⟨x, i1, h1, e1, a1, a2, c1⟩ := spec_l01Below_spec c (n : Int) h
    obtain ⟨y, i2, h2, e2, b1, b2, c2⟩ := spec_l01Below_spec c1 ((n : Int) - 1) h1
    have hx := a2 (by omega)
    have hy := b2 (by omega)
    have hg := gokB_of (by omega) hl he hs hc
    have ht := tmod_range (x := x + 1 + y) (n := (n : Int)) (by omega) (by omega)
    have hadd := spec_AddEdge_spec hg ⟨a1, hx⟩ ht
    have ek : ((k + 1 : Nat) : Int) - 1 = (k : Int) := by omega
    by_cases hcond : x = (x + 1 + y).tmod n ∨ es.length = 12
    · rw [if_pos hcond] at hadd
      obtain ⟨i', h', es', e3, r⟩ := draw_more n hn q E k i2 h2 es (by omega) c2 he hs hc hl (by omega)
      refine ⟨i', h', es', ?_, r⟩
      rw [← e3]
      apply loop_in
      simp only [spec_l02Draw_L1018]
      rw [cond_pos (by omega), e1]
      simp only [Option.bind_some]
      rw [w64_of (x := (n : Int) - 1) (by omega) (by omega), e2]
      simp only [Option.bind_some]
      rw [chk_pos (by omega)]
      simp (disch := omega) only [w64_of]
      rw [hadd]
      simp only [Option.bind_some, cond_false, ek]
    · rw [if_neg hcond] at hadd
      have hlo : 0 ≤ min2 x ((x + 1 + y).tmod n) ∧ min2 x ((x + 1 + y).tmod n) < max2 x ((x + 1 + y).tmod n) ∧ max2 x ((x + 1 + y).tmod n) < n := by
        unfold min2 max2
        split <;> split <;> omega
      obtain ⟨i', h', es', e3, r⟩ := draw_more n hn q E k i2 h2 (insE (min2 x ((x + 1 + y).tmod n), max2 x ((x + 1 + y).tmod n)) es) (by omega) c2
        (fun e hm => by
          rcases (insE_mem _ e es).1 hm with rfl | hm
          · exact hlo
          · exact he e hm) (insE_srt _ es hs) (conn_mono (fun e hm => (insE_mem _ e es).2 (.inr hm)) hc) (by rw [insE_len]; omega) (by rw [insE_len]; omega)
      refine ⟨i', h', es', ?_, r⟩
      rw [← e3]
      apply loop_in
      simp only [spec_l02Draw_L1018]
      rw [cond_pos (by omega), e1]
      simp only [Option.bind_some]
      rw [w64_of (x := (n : Int) - 1) (by omega) (by omega), e2]
      simp only [Option.bind_some]
      rw [chk_pos (by omega)]
      simp (disch := omega) only [w64_of]
      rw [hadd]
      simp only [Option.bind_some, cond_true, ek]
/-- a drawn graph -/
structure Drawn (most n : Nat) (es : Es) : Prop where
  two : 2 ≤ n
  le : n ≤ most
  ok : EOk n es
  srt : Srt es
  conn : Conn n es
  len : es.length ≤ n + 3
theorem Drawn.gok {most n : Nat} {es : Es} (h : Drawn most n es) (hm : most ≤ 6) : gokB n es = true := gokB_of (by have := h.two; have := h.le; omega) (by have := h.len; have := h.le; omega) h.ok h.srt h.conn
theorem spec_l02Draw_spec {b : List Int} {i : Int} (c : CurOk b i) (h : Int) (most : Nat) (hm : 2 ≤ most ∧ most ≤ 6) : ∃ (n : Nat) (es : Es) (i' h' : Int), spec_l02Draw ((most : Int), b, i, h, ()) = some ((n : Int), es, b, i', h', ()) ∧ CurOk b i' ∧ Drawn most n es := by
  obtain ⟨x, i1, h1, e1, a1, a2, c1⟩ := spec_l01Below_spec c ((most : Int) - 1) h
  have hx := a2 (by omega)
  obtain ⟨n, hn⟩ : ∃ n : Nat, (n : Int) = 2 + x := ⟨(2 + x).toNat, by omega⟩
  have ht1 : Tr 1 [] := ⟨rfl, fun e he => by simp at he, fun w h1 h2 => by
    have : w = 0 := by omega
    rw [this]; exact .refl⟩
  obtain ⟨i2, h2, g2, es1, e2, c2, t2, hg2⟩ := draw_tree (b := b) n (by omega) 0 (n - 1) 1 i1 h1 1 [] (by omega) (by omega) c1 ht1
  have hg2 : g2 = n := hg2 rfl
  subst hg2
  have hl1 := t2.len
  have hok1 : EOk n es1 := t2.ok
  have e3 := draw_canon n (by omega) 0 b i2 h2 es1 (n : Int) hok1 (by omega) n 0 [] (by omega) (by simp)
  obtain ⟨y, i3, h3, e4, b1, b2, c3⟩ := spec_l01Below_spec c2 5 h2
  have hy := b2 (by omega)
  obtain ⟨k, hk⟩ : ∃ k : Nat, (k : Int) = y := ⟨y.toNat, by omega⟩
  have hcm : ∀ e, e ∈ canon n es1 ↔ e ∈ es1 := fun e => canon_mem hok1
  have hok2 : EOk n (canon n es1) := fun e he => hok1 e ((hcm e).1 he)
  have hcn : Conn n (canon n es1) := conn_mono (fun e he => (hcm e).2 he) t2.conn
  have hlen := canon_len hok1
  obtain ⟨i4, h4, es', e5, c4, r1, r2, r3, r4, r5⟩ := draw_more (b := b) n (by omega) 0 (n + 3) k i3 h3 (canon n es1) (by omega) c3 hok2 (canon_srt n es1) hcn (by omega) (by omega)
  refine ⟨n, es', i4, h4, ?_, c4, ⟨by omega, by omega, r1, r2, r3, r5⟩⟩
  simp only [spec_l02Draw]
  rw [w64_of (by omega) (by omega), e1]
  simp only [Option.bind_some]
  rw [w64_of (by omega) (by omega), ← hn]
  have e2' : loopM spec_l02Draw_L122 ((n : Int), 1, b, i1, h1, 0, 1, ([] : List (Int × Int)), ()) = _ := e2
  rw [e2']
  simp only [joinB_inl, spec_l02Draw_J61]
  have e3' : loopM spec_l02Draw_L506 ((n : Int), 0, b, i2, h2, 0, (n : Int), es1, (n : Int), ([] : List (Int × Int)), ()) = _ := e3
  rw [e3']
  simp only [joinB_inl, spec_l02Draw_J253]
  rw [e4]
  simp only [Option.bind_some]
  rw [← hk, List.nil_append, ← List.range_eq_range']
  exact e5
end Go.Pm.Try

set_option linter.unusedVariables false
set_option linter.unusedSimpArgs false
set_option linter.unusedSectionVars false
namespace Go.Pm.Try
open Go.Pm Go.Pm.Th
def idFrom (o m : Nat) : List Int := (List.range' o m).map fun (i : Nat) => (i : Int)
def idL (n : Nat) : List Int := (List.range n).map fun (i : Nat) => (i : Int)
theorem idL_from (n : Nat) : idL n = idFrom 0 n := by unfold idL idFrom; rw [List.range_eq_range']
theorem idFrom_succ (o m : Nat) : idFrom o (m + 1) = (o : Int) :: idFrom (o + 1) m := by unfold idFrom; rw [List.range'_succ]; rfl
theorem idL_len (n : Nat) : (idL n).length = n := by simp [idL]
theorem idL_get {n i : Nat} (h : i < n) : (idL n)[i]? = some (i : Int) := by
  unfold idL
  rw [List.getElem?_map, List.getElem?_range h]; rfl
theorem idL_at {n : Nat} {v : Int} (h0 : 0 ≤ v) (h : v < n) : at0 (idL n) v = v := by
  obtain ⟨k, rfl⟩ := Int.eq_ofNat_of_zero_le h0
  rw [← atD_at0, atD_nat, getD_of (idL_get (show k < n by omega))]
theorem idL_mem {n : Nat} {x : Int} (h : x ∈ idL n) : 0 ≤ x ∧ x < n := by
  unfold idL at h
  obtain ⟨i, hi, rfl⟩ := List.mem_map.1 h
  have := List.mem_range.1 hi
  omega
theorem ext_at0 {l m : List Int} (hl : l.length = m.length) (h : ∀ w : Nat, w < l.length → at0 l (w : Int) = at0 m (w : Int)) : l = m := by
  apply List.ext_getElem hl
  intro i h1 h2
  have := h i h1
  rw [← atD_at0, ← atD_at0, atD_nat, atD_nat, getD_of (List.getElem?_eq_getElem h1), getD_of (List.getElem?_eq_getElem h2)] at this
  exact this
abbrev atE (e : Int × Int) (v : Int) : Prop := e.1 = v ∨ e.2 = v
theorem over_id (v : Int) (j : Nat) : ∀ (es : Es) (o : Nat) (s : Int), (es.zip (idFrom o es.length)).foldl (fun s a => s + over1 v (j : Int) a) s = s + if o ≤ j ∧ j < o + es.length ∧ atE (edge es ((j - o : Nat) : Int)) v then 1 else 0
  | [], o, s => by simp; omega
  | e :: es, o, s => by
    rw [List.length_cons, idFrom_succ, List.zip_cons_cons, List.foldl_cons, over_id v j es (o + 1)]
    unfold over1
    by_cases hj : o = j
    · subst hj
      rw [if_neg (show ¬ (o + 1 ≤ o ∧ o < o + 1 + es.length ∧ atE (edge es ((o - (o + 1) : Nat) : Int)) v) by omega)]
      have e0 : edge (e :: es) ((o - o : Nat) : Int) = e := by rw [Nat.sub_self]; rfl
      rw [e0]
      by_cases h : atE e v
      · rw [if_pos ⟨h, rfl⟩, if_pos ⟨Nat.le_refl _, by omega, h⟩]; omega
      · rw [if_neg (fun q => h q.1), if_neg (fun q => h q.2.2)]; omega
    · rw [if_neg (fun q => hj (by have := q.2; simp at this; omega))]
      by_cases hlt : o < j
      · have e0 : edge (e :: es) ((j - o : Nat) : Int) = edge es ((j - (o + 1) : Nat) : Int) := by
          obtain ⟨k, hk⟩ : ∃ k, j - o = k + 1 := ⟨j - o - 1, by omega⟩
          have hk2 : j - (o + 1) = k := by omega
          rw [hk, hk2]
          rw [← atD_edge, ← atD_edge, atD_nat, atD_nat]
          simp [List.getD]
        rw [e0]
        by_cases h : atE (edge es ((j - (o + 1) : Nat) : Int)) v
        · by_cases h2 : j < o + 1 + es.length
          · rw [if_pos ⟨by omega, h2, h⟩, if_pos ⟨by omega, by omega, h⟩]; omega
          · rw [if_neg (fun q => h2 q.2.1), if_neg (fun q => h2 (by have := q.2.1; omega))]; omega
        · rw [if_neg (fun q => h q.2.2), if_neg (fun q => h q.2.2)]; omega
      · rw [if_neg (by omega), if_neg (by omega)]; omega
theorem overZ_id (es : Es) (v : Int) (j : Nat) (hj : j < es.length) : overZ (es.zip (idL es.length)) v (j : Int) = if atE (edge es (j : Int)) v then 1 else 0 := by
  unfold overZ
  rw [idL_from, over_id v j es 0 0]
  by_cases h : atE (edge es (j : Int)) v
  · rw [if_pos ⟨by omega, by omega, by rw [Nat.sub_zero]; exact h⟩, if_pos h]; omega
  · rw [if_neg (fun q => h (by have := q.2.2; rw [Nat.sub_zero] at this; exact this)), if_neg h]; omega
theorem mults_id {n : Nat} (es : Es) {v : Int} (h0 : 0 ≤ v) (hv : v < n) : ∀ x ∈ mults (es.zip (idL es.length)) es (idL n) v, x = 1 := by
  intro x hx
  unfold mults at hx
  obtain ⟨j, hj, rfl⟩ := List.mem_map.1 hx
  rw [List.mem_filter] at hj
  have hjl := List.mem_range.1 hj.1
  rw [overZ_id es v j hjl]
  have := hj.2
  simp only [atImg, Bool.or_eq_true, decide_eq_true_eq, idL_at h0 hv] at this
  exact if_pos this
theorem allEqB_const {l : List Int} {c : Int} (h : ∀ x ∈ l, x = c) : allEqB l = true := by
  cases l with
  | nil => rfl
  | cons a t =>
    simp only [allEqB, List.all_eq_true, decide_eq_true_eq]
    intro x hx
    rw [h x (by simp [hx]), h a (by simp)]
theorem zip_id_mem {es : Es} {a : (Int × Int) × Int} (h : a ∈ es.zip (idL es.length)) : ∃ i : Nat, i < es.length ∧ es[i]? = some a.1 ∧ a.2 = (i : Int) := by
  obtain ⟨i, hi⟩ := List.getElem?_of_mem h
  obtain ⟨g1, g2⟩ := zip_get hi
  have hl := lt_of_get g1
  rw [idL_get hl] at g2
  exact ⟨i, hl, g1, by simpa using g2.symm⟩
theorem edge_of {es : Es} {i : Nat} {e : Int × Int} (h : es[i]? = some e) : edge es (i : Int) = e := by rw [← atD_edge, atD_nat, getD_of h]
theorem min2_lt {a b : Int} (h : a < b) : min2 a b = a ∧ max2 a b = b := by unfold min2 max2; rw [if_neg (by omega), if_pos h]; exact ⟨rfl, rfl⟩
section
variable {n : Nat} {es : Es} (hg : gokB n es = true)
include hg
theorem gok_EOk : EOk n es := (edgesB_spec (by simp only [gokB, Bool.and_eq_true] at hg; exact hg.1.1)).2.2
theorem gok_conn : Conn n es := by
  obtain ⟨m, e, g⟩ := gokB_gr hg
  simp only [gokB, Bool.and_eq_true, connB, decide_eq_true_eq] at hg
  exact hg.2
theorem mor_id : morB n es n es (idL n) (idL es.length) = true := by
  have he := gok_EOk hg
  simp only [morB, hg, idL_len, decide_true, Bool.true_and, Bool.and_eq_true, allInB, List.all_eq_true, decide_eq_true_eq]
  refine ⟨fun x hx => by have := idL_mem hx; omega, fun a ha => ?_⟩
  obtain ⟨i, hi, g1, g2⟩ := zip_id_mem ha
  have ho := he a.1 (List.mem_of_getElem? g1)
  unfold edgeMapB
  rw [if_neg (by omega), idL_at (by omega) (by omega), idL_at (by omega) (by omega), g2, edge_of g1]
  have hm := min2_lt ho.2.1
  rw [hm.1, hm.2]
  simp only [decide_true, Bool.and_true, decide_eq_true_eq]
  omega
theorem harm_id : harmB n es n es (idL n) (idL es.length) = true := by
  simp only [harmB, mor_id hg, Bool.true_and, List.all_eq_true, List.mem_range, Int.toNat_natCast]
  intro v hv
  exact allEqB_const (mults_id es (by omega) (by omega))
theorem has_edge (h2 : 2 ≤ n) {v : Int} (h0 : 0 ≤ v) (hv : v < n) : ∃ e ∈ es, atE e v := by
  have hc := gok_conn hg
  obtain ⟨w, hw0, hw, hne⟩ : ∃ w : Int, 0 ≤ w ∧ w < n ∧ w ≠ v := by
    by_cases h : v = 0
    · exact ⟨1, by omega, by omega, by omega⟩
    · exact ⟨0, by omega, by omega, by omega⟩
  obtain ⟨e, he, hcut⟩ := hc.cut (fun x => x = v) ⟨h0, hv⟩ ⟨hw0, hw⟩ rfl hne
  refine ⟨e, he, ?_⟩
  apply Classical.byContradiction
  intro hno
  apply hcut
  constructor
  · intro h; exact absurd (.inl h) hno
  · intro h; exact absurd (.inr h) hno
theorem hor_id (h2 : 2 ≤ n) {v : Int} (h0 : 0 ≤ v) (hv : v < n) : horV es es (idL n) (idL es.length) v = 1 := by
  obtain ⟨e, he, ha⟩ := has_edge hg h2 h0 hv
  obtain ⟨i, hi⟩ := List.getElem?_of_mem he
  have hl := lt_of_get hi
  have hall := mults_id (n := n) es h0 hv
  unfold horV
  have hne : mults (es.zip (idL es.length)) es (idL n) v ≠ [] := by
    intro hnil
    unfold mults at hnil
    rw [List.map_eq_nil_iff, List.filter_eq_nil_iff] at hnil
    apply hnil i (List.mem_range.2 hl)
    simp only [atImg, Bool.or_eq_true, decide_eq_true_eq, idL_at h0 hv, edge_of hi]
    exact ha
  cases hq : mults (es.zip (idL es.length)) es (idL n) v with
  | nil => exact absurd hq hne
  | cons a t => rw [hq] at hall; exact hall a (by simp)
theorem len_pos (h2 : 2 ≤ n) : 0 < es.length := by
  obtain ⟨e, he, _⟩ := has_edge hg h2 (v := 0) (by omega) (by omega)
  exact List.length_pos_of_mem he
end
theorem deg_from (o : Nat) (ho : 0 < o) : ∀ (m : Nat) (o : Nat) (s : Int), 0 < o → (idFrom o m).foldl (fun s k => s + if k = 0 then 1 else 0) s = s
  | 0, o, s, _ => rfl
  | m + 1, o, s, ho => by
    rw [idFrom_succ, List.foldl_cons, if_neg (by omega), deg_from o ho m (o + 1) _ (by omega)]; omega
theorem deg_id {m : Nat} (hm : 0 < m) : degM (idL m) = 1 := by
  obtain ⟨k, rfl⟩ : ∃ k, m = k + 1 := ⟨m - 1, by omega⟩
  unfold degM
  rw [idL_from, idFrom_succ, List.foldl_cons, deg_from 1 (by omega) k 1 _ (by omega)]
  rfl
theorem pushSum_id (w : Nat) : ∀ (d : List Int) (o : Nat), pushSum ((idFrom o d.length).zip d) (w : Int) = if o ≤ w then d.getD (w - o) 0 else 0
  | [], o => by simp [pushSum, idFrom]
  | x :: d, o => by
    rw [List.length_cons, idFrom_succ, List.zip_cons_cons, pushSum_cons, pushSum_id w d (o + 1)]
    by_cases h : o = w
    · subst h
      rw [if_pos rfl, if_neg (by omega), if_pos (Nat.le_refl _), Nat.sub_self]
      simp
    · rw [if_neg (by omega)]
      by_cases h2 : o < w
      · rw [if_pos (by omega), if_pos (by omega), show w - o = (w - (o + 1)) + 1 by omega]
        simp [List.getD]
      · rw [if_neg (by omega), if_neg (by omega)]; omega
theorem push_id {n : Nat} {d : List Int} (hd : d.length = n) : pushL n (idL n) d = d := by
  have hz : ∀ a ∈ (idL n).zip d, 0 ≤ a.1 ∧ a.1 < ((List.replicate n (0 : Int)).length : Int) := fun a ha => by
    have := idL_mem (List.of_mem_zip (show (a.1, a.2) ∈ _ from ha)).1
    rw [List.length_replicate]; exact this
  have hlen : (pushL n (idL n) d).length = n := by
    have := (pushFold_at 0 (Int.le_refl _) ((idL n).zip d) (List.replicate n 0) hz).2
    unfold pushL; rw [this]; simp
  apply ext_at0 (by rw [hlen, hd])
  intro w hw
  rw [hlen] at hw
  unfold pushL
  rw [(pushFold_at (w : Int) (by omega) ((idL n).zip d) (List.replicate n 0) hz).1, idL_from]
  subst hd
  rw [pushSum_id w d 0, if_pos (Nat.zero_le _), Nat.sub_zero, ← atD_at0, ← atD_at0, atD_nat, atD_nat, List.getD_eq_getElem?_getD, List.getElem?_replicate]
  rw [if_pos hw]
  simp
end Go.Pm.Try

set_option linter.unusedVariables false
set_option linter.unusedSimpArgs false
set_option linter.unusedSectionVars false
namespace Go.Pm.Try
open Go.Pm Go.Pm.Th
theorem spec_l02Graph_spec {b : List Int} {i : Int} (c : CurOk b i) (h : Int) : ∃ (n : Nat) (es : Es) (i' h' : Int), spec_l02Graph (b, i, h, ()) = some ((n : Int), es, b, i', h', ()) ∧ CurOk b i' ∧ Drawn 5 n es := by
  obtain ⟨n, es, i', h', e, r⟩ := spec_l02Draw_spec c h 5 (by omega)
  refine ⟨n, es, i', h', ?_, r⟩
  have e' : spec_l02Draw (5, b, i, h, ()) = _ := e
  simp only [spec_l02Graph, e', Option.bind_some]
theorem spec_l01Near_spec {b : List Int} {i : Int} (c : CurOk b i) (lo hi h : Int) : ∃ x i' h', spec_l01Near (lo, hi, b, i, h, ()) = some (x, b, i', h', ()) ∧ CurOk b i' := by
  obtain ⟨x, i1, h1, e1, _, _, c1⟩ := spec_l01Below_spec c 12 h
  simp only [spec_l01Near, e1, Option.bind_some]
  cases x == 0
  · cases x == 1
    · cases x == 2
      · cases x == 3
        · cases x == 4
          · simp only [cond_false]
            by_cases hc : w64 (hi - lo) > 60000
            · rw [cond_pos hc]
              obtain ⟨y, i2, h2, e2, _, _, c2⟩ := spec_l01Below_spec c1 60000 h1
              rw [e2]
              exact ⟨_, _, _, rfl, c2⟩
            · rw [cond_neg hc]
              obtain ⟨y, i2, h2, e2, _, _, c2⟩ := spec_l01Below_spec c1 (w64 (w64 (hi - lo) + 1)) h1
              rw [e2]
              exact ⟨_, _, _, rfl, c2⟩
          · simp only [cond_false, cond_true]
            obtain ⟨y, i2, h2, e2, _, c2⟩ := spec_l01Pick_spec c1 [9223372036854775807, -9223372036854775808, -1, 0, 1000000000] (by simp) h1
            rw [e2]
            exact ⟨_, _, _, rfl, c2⟩
        · exact ⟨_, _, _, rfl, c1⟩
      · exact ⟨_, _, _, rfl, c1⟩
    · exact ⟨_, _, _, rfl, c1⟩
  · exact ⟨_, _, _, rfl, c1⟩
theorem spec_l03All_spec (n : Nat) (hn : n ≤ 1000000) : spec_l03All ((n : Int), ()) = some (idL n, ()) := by
  simp only [spec_l03All]
  have l1 := loop_all (f := spec_l03All_L58) (fun i => ((n : Int), idL i, (i : Int), ())) n (r := (idL n, ())) (fun i hi => by
    simp only [spec_l03All_L58]
    rw [cond_pos (by omega), chk_pos (by rw [idL_len]; simp; omega), w64_of (by omega) (by omega)]
    have : idL i ++ [(i : Int)] = idL (i + 1) := map_range_snoc (fun (i : Nat) => (i : Int)) i
    rw [this]; rfl) (by
    simp only [spec_l03All_L58]
    rw [cond_neg (by omega)]; rfl)
  exact l1
theorem spec_IdentityMorphism_spec {n : Nat} {es : Es} (hg : gokB n es = true) : spec_IdentityMorphism ((n : Int), es, ()) = some (idL n, idL es.length, true, ()) := by
  have hn := gokB_n hg
  simp only [spec_IdentityMorphism, spec_GraphOk_spec (n : Int) es (by omega), hg, Option.bind_some, Bool.not_true, cond_false, spec_l03All_spec n (by omega), spec_l03All_spec es.length (by omega)]
theorem winOf_len (l : Es) (p : Option (Int × Int)) : (winOf l p).length ≤ l.length := by
  unfold winOf
  split
  · exact Nat.le_refl _
  · rw [List.length_take, List.length_drop]; omega
theorem spec_l02Any_spec {b : List Int} {i : Int} (c : CurOk b i) (h : Int) : ∃ (N : Int) (hs : Es) (i' h' : Int), spec_l02Any (b, i, h, ()) = some (N, hs, b, i', h', ()) ∧ CurOk b i' ∧ hs.length ≤ 100 := by
  obtain ⟨n, es, i1, h1, e1, c1, hd⟩ := spec_l02Graph_spec c h
  have hlen := hd.len
  have hle := hd.le
  have hpos := len_pos (hd.gok (by omega)) hd.two
  obtain ⟨x, i2, h2, e2, _, _, c2⟩ := spec_l01Below_spec c1 14 h1
  simp only [spec_l02Any, e1, Option.bind_some, e2]
  cases x == 0
  · cases x == 1
    · cases x == 2
      · cases x == 3
        · exact ⟨_, _, _, _, rfl, c2, by omega⟩
        · simp only [cond_false, cond_true]
          rw [chk_pos ⟨Int.le_refl _, by omega⟩, chk_pos (by simp; omega)]
          exact ⟨_, _, _, _, rfl, c2, by simp; omega⟩
      · simp only [cond_false, cond_true]
        obtain ⟨y, i3, h3, e3, c3⟩ := spec_l01Near_spec c2 0 (w64 ((n : Int) - 1)) h2
        rw [e3]
        simp only [Option.bind_some]
        rw [chk_pos ⟨Int.le_refl _, by omega⟩]
        exact ⟨_, _, _, _, rfl, c3, by rw [List.length_set]; omega⟩
    · simp only [cond_false, cond_true]
      rw [chk_pos ⟨by omega, by omega, Int.le_refl _⟩]
      exact ⟨_, _, _, _, rfl, c2, by have := winOf_len es (some (1, (es.length : Int) - 1)); omega⟩
  · simp only [cond_true]
    obtain ⟨y, i3, h3, e3, c3⟩ := spec_l01Near_spec c2 1 6 h2
    rw [e3]
    exact ⟨_, _, _, _, rfl, c3, by omega⟩
/-- the morphisms that are drawn, before a change -/
inductive Base : Int → Es → Int → Es → List Int → List Int → Prop
  | id {n : Nat} {es : Es} (h : Drawn 5 n es) : Base n es n es (idL n) (idL es.length)
  | ban (k : Nat) (h : 1 ≤ k ∧ k ≤ 4) : Base 2 (List.replicate k (0, 1)) 2 [(0, 1)] [0, 1] (List.replicate k 0)
  | cyc : Base 4 [(0, 1), (0, 3), (1, 2), (2, 3)] 3 [(0, 1), (1, 2)] [0, 1, 2, 1] [0, 0, 1, 1]
/-- and after one -/
inductive Mod : Int → Es → Int → Es → List Int → List Int → Prop
  | no {n es N hs vs ks} (h : Base n es N hs vs ks) : Mod n es N hs vs ks
  | ver {n es N hs vs ks} (h : Base n es N hs vs ks) (x : Int) : Mod n es N hs (vs.set 0 x) ks
  | edg {n es N hs vs ks} (h : Base n es N hs vs ks) (x : Int) : Mod n es N hs vs (ks.set 0 x)
  | any {n es N hs vs ks} (h : Base n es N hs vs ks) (N' : Int) (hs' : Es) (hl : hs'.length ≤ 100) : Mod n es N' hs' vs ks
theorem Base.lens {n : Int} {es : Es} {N : Int} {hs : Es} {vs ks : List Int} (h : Base n es N hs vs ks) : 0 < vs.length ∧ 0 < ks.length ∧ es.length ≤ 8 ∧ hs.length ≤ 8 ∧ vs.length ≤ 5 ∧ ks.length ≤ 8 ∧ 1 ≤ N ∧ N ≤ 5 := by
  cases h with
  | id h =>
    have hl := h.len
    have h2 := h.two
    have hle := h.le
    have hpos := len_pos (h.gok (by omega)) h.two
    rw [idL_len, idL_len]
    omega
  | ban k h => simp; omega
  | cyc => simp
theorem Mod.lens {n : Int} {es : Es} {N : Int} {hs : Es} {vs ks : List Int} (h : Mod n es N hs vs ks) : es.length ≤ 8 ∧ hs.length ≤ 100 ∧ vs.length ≤ 5 ∧ ks.length ≤ 8 := by
  cases h with
  | no h => have := h.lens; omega
  | ver h x => have := h.lens; rw [List.length_set]; omega
  | edg h x => have := h.lens; rw [List.length_set]; omega
  | any h N' hs' hl => have := h.lens; omega
theorem l16Case_ban {b : List Int} (i h x y : Int) (q : Nat) : ∀ (m k : Nat), k + m = q → q ≤ 4 → loopM spec_l16Case_L64190 ((q : Int), (k : Int), b, i, h, x, y, 2, List.replicate k (0, 1), 2, [(0, 1)], [0, 1], List.replicate k 0, ()) = some (.inl (b, i, h, x, y, 2, List.replicate q (0, 1), 2, [(0, 1)], [0, 1], List.replicate q 0, ()))
  | 0, k, hk, hq => by
    have : k = q := by omega
    subst this
    apply loop_out
    simp only [spec_l16Case_L64190]
    rw [cond_neg (by omega)]; rfl
  | m + 1, k, hk, hq => by
    have ih := l16Case_ban (b := b) i h x y q m (k + 1) (by omega) hq
    rw [← ih]
    apply loop_in
    simp only [spec_l16Case_L64190]
    rw [cond_pos (by omega), chk_pos (by simp; omega), chk_pos (by simp; omega), w64_of (by omega) (by omega)]
    rw [List.replicate_succ', List.replicate_succ']
    rfl
theorem spec_l16Case_spec {b : List Int} {i : Int} (c : CurOk b i) (h : Int) : ∃ n es N hs vs ks i' h', spec_l16Case (b, i, h, ()) = some (n, es, N, hs, vs, ks, b, i', h', ()) ∧ CurOk b i' ∧ Mod n es N hs vs ks := by
  obtain ⟨n, es, i1, h1, e1, c1, hd⟩ := spec_l02Graph_spec c h
  obtain ⟨x, i2, h2, e2, _, _, c2⟩ := spec_l01Below_spec c1 4 h1
  have hg := hd.gok (by omega)
  have fin : ∀ (p q : Int) (i h : Int) (n : Int) (es : Es) (N : Int) (hs : Es) (vs ks : List Int), CurOk b i → Base n es N hs vs ks → ∃ n' es' N' hs' vs' ks' i' h', spec_l16Case_J125 (b, i, h, p, q, n, es, N, hs, vs, ks, ()) = some (n', es', N', hs', vs', ks', b, i', h', ()) ∧ CurOk b i' ∧ Mod n' es' N' hs' vs' ks' := by
    intro p q i h n es N hs vs ks c hb
    have hl := hb.lens
    obtain ⟨y, i3, h3, e3, _, _, c3⟩ := spec_l01Below_spec c 10 h
    simp only [spec_l16Case_J125, e3, Option.bind_some]
    cases y == 0
    · cases y == 1
      · cases y == 2
        · exact ⟨_, _, _, _, _, _, _, _, rfl, c3, .no hb⟩
        · simp only [cond_false, cond_true]
          obtain ⟨N', hs', i4, h4, e4, c4, hl4⟩ := spec_l02Any_spec c3 h3
          rw [e4]
          exact ⟨_, _, _, _, _, _, _, _, rfl, c4, .any hb N' hs' hl4⟩
      · simp only [cond_false, cond_true]
        obtain ⟨z, i4, h4, e4, c4⟩ := spec_l01Near_spec c3 (-1) (w64 ((hs.length : Int) - 1)) h3
        rw [e4]
        simp only [Option.bind_some]
        rw [chk_pos ⟨Int.le_refl _, by omega⟩]
        exact ⟨_, _, _, _, _, _, _, _, rfl, c4, .edg hb z⟩
    · simp only [cond_true]
      obtain ⟨z, i4, h4, e4, c4⟩ := spec_l01Near_spec c3 0 (w64 (N - 1)) h3
      rw [e4]
      simp only [Option.bind_some]
      rw [chk_pos ⟨Int.le_refl _, by omega⟩]
      exact ⟨_, _, _, _, _, _, _, _, rfl, c4, .ver hb z⟩
  simp only [spec_l16Case, e1, Option.bind_some, spec_IdentityMorphism_spec hg, e2]
  cases x == 0
  · cases x == 1
    · simp only [cond_false, joinB_inl]
      exact fin _ _ _ _ _ _ _ _ _ _ c2 (.id hd)
    · simp only [cond_false, cond_true, joinB_inl]
      exact fin _ _ _ _ _ _ _ _ _ _ c2 .cyc
  · simp only [cond_true]
    obtain ⟨y, i3, h3, e3, a1, a2, c3⟩ := spec_l01Below_spec c2 4 h2
    have hy := a2 (by omega)
    obtain ⟨k, hk⟩ : ∃ k : Nat, (k : Int) = 1 + y := ⟨(1 + y).toNat, by omega⟩
    rw [e3]
    simp only [Option.bind_some]
    rw [w64_of (x := 1 + y) (by omega) (by omega), ← hk]
    have hl := l16Case_ban (b := b) i3 h3 0 0 k k 0 (by omega) (by omega)
    have hl' : loopM spec_l16Case_L64190 ((k : Int), 0, b, i3, h3, 0, 0, 2, [], 2, [(0, 1)], [0, 1], [], ()) = _ := hl
    rw [hl']
    simp only [joinB_inl]
    exact fin _ _ _ _ _ _ _ _ _ _ c3 (.ban k (by omega))
theorem spec_MakeMorphism_spec (b : List Int) (hb : b.length ≤ 1048576) : ∃ n es N hs vs ks, spec_MakeMorphism (b, ()) = some (n, es, N, hs, vs, ks, ()) ∧ Mod n es N hs vs ks ∧ harmB n es N hs vs ks = true := by
  obtain ⟨h, e1, c⟩ := spec_l01New_spec b hb
  have key : ∀ (m k : Nat) (i h : Int), k + m = 9 → CurOk b i → ∃ n es N hs vs ks, loopM spec_MakeMorphism_L58 ((k : Int), 0, 0, b, i, h, ()) = some (n, es, N, hs, vs, ks, ()) ∧ Mod n es N hs vs ks ∧ harmB n es N hs vs ks = true := by
    intro m
    induction m with
    | zero =>
      intro k i h hk c
      obtain ⟨n, es, i1, h1, e1, c1, hd⟩ := spec_l02Graph_spec c h
      have hg := hd.gok (by omega)
      refine ⟨n, es, n, es, idL n, idL es.length, ?_, .no (.id hd), harm_id hg⟩
      apply loop_out
      simp only [spec_MakeMorphism_L58]
      rw [cond_neg (by omega), e1]
      simp only [Option.bind_some, spec_IdentityMorphism_spec hg]
      rfl
    | succ m ih =>
      intro k i h hk c
      obtain ⟨n, es, N, hs, vs, ks, i1, h1, e1, c1, hm⟩ := spec_l16Case_spec c h
      have hl := hm.lens
      have e2 := spec_IsHarmonic_spec n es N hs vs ks (by omega) (by omega) (by omega) (by omega)
      cases hh : harmB n es N hs vs ks
      · obtain ⟨n', es', N', hs', vs', ks', e3, r⟩ := ih (k + 1) i1 h1 (by omega) c1
        refine ⟨n', es', N', hs', vs', ks', ?_, r⟩
        rw [← e3]
        apply loop_in
        simp only [spec_MakeMorphism_L58, e1, e2, hh, Option.bind_some, cond_false]
        rw [cond_pos (by omega), w64_of (by omega) (by omega)]
        rfl
      · refine ⟨n, es, N, hs, vs, ks, ?_, hm, hh⟩
        apply loop_out
        simp only [spec_MakeMorphism_L58, e1, e2, hh, Option.bind_some, cond_true]
        rw [cond_pos (by omega)]
        rfl
  obtain ⟨n, es, N, hs, vs, ks, e2, r⟩ := key 9 0 0 h (by omega) c
  refine ⟨n, es, N, hs, vs, ks, ?_, r⟩
  simp only [spec_MakeMorphism, e1, Option.bind_some]
  exact e2
end Go.Pm.Try

set_option linter.unusedVariables false
set_option linter.unusedSimpArgs false
set_option linter.unusedSectionVars false
namespace Go.Pm.Try
open Go.Pm Go.Pm.Th
theorem allEqB_eq {l : List Int} (h : allEqB l = true) {x y : Int} (hx : x ∈ l) (hy : y ∈ l) : x = y := by
  cases l with
  | nil => cases hx
  | cons a t =>
    simp only [allEqB, List.all_eq_true, decide_eq_true_eq] at h
    have : ∀ z ∈ a :: t, z = a := fun z hz => by
      rcases List.mem_cons.1 hz with rfl | hz
      · rfl
      · exact h z hz
    rw [this x hx, this y hy]
theorem over_ge_fold (v k : Int) : ∀ (z : Zs) (s : Int), s ≤ z.foldl (fun s a => s + over1 v k a) s
  | [], s => Int.le_refl _
  | a :: z, s => by
    have := over_ge_fold v k z (s + over1 v k a)
    have := over1_01 v k a
    simp only [List.foldl_cons]; omega
theorem overZ_pos {v k : Int} : ∀ {z : Zs} {a : (Int × Int) × Int}, a ∈ z → over1 v k a = 1 → ∀ s : Int, s + 1 ≤ z.foldl (fun s a => s + over1 v k a) s
  | b :: z, a, ha, h1, s => by
    simp only [List.foldl_cons]
    rcases List.mem_cons.1 ha with rfl | ha
    · have := over_ge_fold v k z (s + over1 v k a); omega
    · have := overZ_pos ha h1 (s + over1 v k b)
      have := over1_01 v k b
      omega
theorem overZ_zero {v k : Int} : ∀ {z : Zs}, (∀ a ∈ z, over1 v k a = 0) → ∀ s : Int, z.foldl (fun s a => s + over1 v k a) s = s
  | [], _, s => rfl
  | a :: z, h, s => by
    simp only [List.foldl_cons]
    rw [h a (by simp), overZ_zero (fun b hb => h b (by simp [hb]))]; omega
theorem harm_parts {n : Nat} {es : Es} {N : Int} {hs : Es} {vs ks : List Int} (h : harmB n es N hs vs ks = true) : morB n es N hs vs ks = true ∧ ∀ v : Int, 0 ≤ v → v < n → allEqB (mults (es.zip ks) hs vs v) = true := by
  simp only [harmB, Bool.and_eq_true, List.all_eq_true, List.mem_range, Int.toNat_natCast] at h
  refine ⟨h.1, fun v h0 h1 => ?_⟩
  obtain ⟨k, rfl⟩ := Int.eq_ofNat_of_zero_le h0
  exact h.2 k (by omega)
theorem mults_mem {z : Zs} {hs : Es} {vs : List Int} {v : Int} {j : Nat} (hj : j < hs.length) (ha : atE (edge hs (j : Int)) (at0 vs v)) : overZ z v (j : Int) ∈ mults z hs vs v := by
  unfold mults
  refine List.mem_map.2 ⟨j, ?_, rfl⟩
  rw [List.mem_filter]
  refine ⟨List.mem_range.2 hj, ?_⟩
  unfold atImg
  rcases ha with h | h <;> simp [h]
/-- the edge at an index of the images -/
theorem img_edge {hs : Es} {vs : List Int} {a : (Int × Int) × Int} (h : edgeMapB hs vs a = true) (hk : a.2 ≠ -1) : 0 ≤ a.2 ∧ a.2 < hs.length ∧ (edge hs a.2).1 = min2 (at0 vs a.1.1) (at0 vs a.1.2) ∧ (edge hs a.2).2 = max2 (at0 vs a.1.1) (at0 vs a.1.2) := by
  unfold edgeMapB at h
  rw [if_neg hk] at h
  simp only [Bool.and_eq_true, decide_eq_true_eq] at h
  exact ⟨h.1.1, h.1.2, h.2.1, h.2.2⟩
theorem min_max_cases (a b : Int) : (min2 a b = a ∧ max2 a b = b) ∨ (min2 a b = b ∧ max2 a b = a) := by
  unfold min2 max2
  split <;> split <;> omega
section
variable {n : Nat} {es : Es} {N : Int} {hs : Es} {vs ks : List Int} (hm : harmB n es N hs vs ks = true) (h2 : 2 ≤ n) (hk : ∀ k ∈ ks, k ≠ -1)
include hm h2 hk
theorem sur_step {v : Int} (h0 : 0 ≤ v) (hv : v < n) {j : Nat} (hj : j < hs.length) (ha : atE (edge hs (j : Int)) (at0 vs v)) :
    (j : Int) ∈ ks ∧ (∃ u : Int, 0 ≤ u ∧ u < n ∧ at0 vs u = (edge hs (j : Int)).1) ∧ ∃ u : Int, 0 ≤ u ∧ u < n ∧ at0 vs u = (edge hs (j : Int)).2 := by
  obtain ⟨hmor, hall⟩ := harm_parts hm
  obtain ⟨hg, hh, l1, l2, r1, r2⟩ := morB_len hmor
  have he := gok_EOk hg
  obtain ⟨e, heI, hat⟩ := has_edge hg h2 h0 hv
  obtain ⟨i, hi⟩ := List.getElem?_of_mem heI
  have hil := lt_of_get hi
  have hki : ks[i]? = some ks[i] := List.getElem?_eq_getElem (by omega)
  have hz : (es.zip ks)[i]? = some (e, ks[i]) := List.getElem?_zip_eq_some.2 ⟨hi, hki⟩
  have hzm := List.mem_of_getElem? hz
  have hi2 := img_edge (r2 _ hzm) (hk _ (List.mem_of_getElem? hki))
  simp only at hi2
  obtain ⟨p0, p1, p2, p3⟩ := hi2
  obtain ⟨k, hkn⟩ := Int.eq_ofNat_of_zero_le p0
  rw [hkn] at p1 p2 p3
  have hatk : atE (edge hs (k : Int)) (at0 vs v) := by
    unfold atE
    rw [p2, p3]
    rcases hat with q | q <;> rcases min_max_cases (at0 vs e.1) (at0 vs e.2) with ⟨m1, m2⟩ | ⟨m1, m2⟩ <;> rw [m1, m2, q] <;> simp
  have heq := allEqB_eq (hall v h0 hv) (mults_mem (z := es.zip ks) (show k < hs.length by omega) hatk) (mults_mem (z := es.zip ks) hj ha)
  have hone : over1 v (k : Int) (e, ks[i]) = 1 := by
    unfold over1
    rw [if_pos ⟨hat, hkn⟩]
  have hpos : 1 ≤ overZ (es.zip ks) v (k : Int) := by
    have := overZ_pos hzm hone 0
    unfold overZ; omega
  rw [heq] at hpos
  have hex : ∃ a ∈ es.zip ks, over1 v (j : Int) a = 1 := by
    apply Classical.byContradiction
    intro hno
    have : overZ (es.zip ks) v (j : Int) = 0 := overZ_zero (fun a ha => by
      have h01 := over1_01 v (j : Int) a
      have : over1 v (j : Int) a ≠ 1 := fun h => hno ⟨a, ha, h⟩
      omega) 0
    omega
  obtain ⟨a, haz, ha1⟩ := hex
  have ha2 : a.2 = (j : Int) := by
    unfold over1 at ha1
    split at ha1
    · rename_i q; exact q.2
    · cases ha1
  have hmz := List.of_mem_zip (show (a.1, a.2) ∈ es.zip ks from haz)
  have hab := img_edge (r2 a haz) (by omega)
  have hao := he a.1 hmz.1
  rw [ha2] at hab
  refine ⟨ha2 ▸ hmz.2, ?_⟩
  rcases min_max_cases (at0 vs a.1.1) (at0 vs a.1.2) with ⟨m1, m2⟩ | ⟨m1, m2⟩
  · exact ⟨⟨a.1.1, by omega, by omega, by rw [hab.2.2.1, m1]⟩, ⟨a.1.2, by omega, by omega, by rw [hab.2.2.2, m2]⟩⟩
  · exact ⟨⟨a.1.2, by omega, by omega, by rw [hab.2.2.1, m1]⟩, ⟨a.1.1, by omega, by omega, by rw [hab.2.2.2, m2]⟩⟩
theorem sur : (∀ w : Int, 0 ≤ w → w < N → ∃ v : Int, 0 ≤ v ∧ v < n ∧ at0 vs v = w) ∧ ∀ j : Nat, j < hs.length → (j : Int) ∈ ks := by
  obtain ⟨hmor, hall⟩ := harm_parts hm
  obtain ⟨hg, hh, l1, l2, r1, r2⟩ := morB_len hmor
  have hNn := gokB_n hh
  obtain ⟨M, rfl⟩ := Int.eq_ofNat_of_zero_le (show 0 ≤ N by omega)
  have hc := gok_conn hh
  have hho := gok_EOk hh
  have hw0 : 0 ≤ at0 vs 0 ∧ at0 vs 0 < M := by
    have : at0 vs 0 ∈ vs := by
      have hl : 0 < vs.length := by omega
      have hg0 : vs[0]? = some vs[0] := List.getElem?_eq_getElem hl
      have : at0 vs ((0 : Nat) : Int) = vs[0] := by rw [at0_nat, getD_of hg0]
      have e : ((0 : Nat) : Int) = 0 := rfl
      rw [e] at this
      rw [this]; exact List.getElem_mem hl
    have := r1 _ this
    omega
  have p1 : ∀ w : Int, 0 ≤ w → w < M → ∃ v : Int, 0 ≤ v ∧ v < n ∧ at0 vs v = w := by
    intro w a b
    apply Classical.byContradiction
    intro hno
    obtain ⟨e, heI, hcut⟩ := hc.cut (fun w => ∃ v : Int, 0 ≤ v ∧ v < (n : Int) ∧ at0 vs v = w) hw0 ⟨a, b⟩ ⟨0, Int.le_refl _, by omega, rfl⟩ hno
    obtain ⟨j, hj⟩ := List.getElem?_of_mem heI
    have hjl := lt_of_get hj
    have hje := edge_of hj
    apply hcut
    constructor
    · rintro ⟨v, a0, a1, a2⟩
      have := (sur_step hm h2 hk a0 a1 hjl (by rw [hje]; exact .inl a2.symm)).2.2
      rw [hje] at this; exact this
    · rintro ⟨v, a0, a1, a2⟩
      have := (sur_step hm h2 hk a0 a1 hjl (by rw [hje]; exact .inr a2.symm)).2.1
      rw [hje] at this; exact this
  refine ⟨p1, fun j hj => ?_⟩
  have hjm : edge hs (j : Int) ∈ hs := by
    have : hs[j]? = some hs[j] := List.getElem?_eq_getElem hj
    rw [edge_of this]; exact List.getElem_mem hj
  have ho := hho _ hjm
  obtain ⟨v, a0, a1, a2⟩ := p1 (edge hs (j : Int)).1 ho.1 (by omega)
  exact (sur_step hm h2 hk a0 a1 hj (.inl a2.symm)).1
end
theorem edge_ext {es hs : Es} (hl : es.length = hs.length) (h : ∀ i : Nat, i < es.length → edge es (i : Int) = edge hs (i : Int)) : es = hs := by
  apply List.ext_getElem hl
  intro i h1 h2
  have := h i h1
  rw [edge_of (List.getElem?_eq_getElem h1), edge_of (List.getElem?_eq_getElem h2)] at this
  exact this
theorem at0_set0 {l : List Int} (x : Int) (h : 0 < l.length) (w : Int) (hw : 0 ≤ w) : at0 (l.set 0 x) w = if w = 0 then x else at0 l w := at0_set (l := l) (v := 0) x (Int.le_refl _) (by omega) w hw
/-- a first vertex moved -/
theorem base_ver {n : Int} {es : Es} {N : Int} {hs : Es} {vs ks : List Int} (hb : Base n es N hs vs ks) (x : Int) (hm : harmB n es N hs (vs.set 0 x) ks = true) : vs.set 0 x = vs := by
  have core : ∀ {n : Int} {es : Es} {N : Int} {hs : Es} {vs ks : List Int}, (hl : 0 < vs.length) → harmB n es N hs (vs.set 0 x) ks = true → ∀ (i : Nat) (e : Int × Int) (k : Int), es[i]? = some e → ks[i]? = some k → k ≠ -1 → e.1 = 0 → 0 < e.2 → 0 < at0 vs e.2 → (edge hs k).1 = 0 → (edge hs k).2 = at0 vs e.2 → at0 vs 0 = 0 → vs.set 0 x = vs := by
    intro n es N hs vs ks hl hm i e k g1 g2 hk e1 e2 e3 f1 f2 z
    simp only [harmB, Bool.and_eq_true] at hm
    obtain ⟨_, _, _, _, _, r2⟩ := morB_len hm.1
    have hz : (es.zip ks)[i]? = some (e, k) := List.getElem?_zip_eq_some.2 ⟨g1, g2⟩
    have := img_edge (r2 _ (List.mem_of_getElem? hz)) hk
    simp only at this
    obtain ⟨_, _, p2, p3⟩ := this
    rw [e1, at0_set0 x hl 0 (Int.le_refl _), if_pos rfl, at0_set0 x hl e.2 (by omega), if_neg (by omega)] at p2 p3
    have hx : x = 0 := by
      rw [f1] at p2
      rw [f2] at p3
      unfold min2 at p2
      unfold max2 at p3
      split at p2 <;> split at p3 <;> omega
    subst hx
    apply ext_at0 (by simp)
    intro w hw
    rw [at0_set0 0 hl _ (by omega)]
    split
    · rename_i h; rw [h, z]
    · rfl
  cases hb with
  | @id n es h =>
    have hg := h.gok (by omega)
    have h2 := h.two
    obtain ⟨e, heI, hat⟩ := has_edge hg h2 (v := 0) (by omega) (by omega)
    obtain ⟨i, hi⟩ := List.getElem?_of_mem heI
    have ho := gok_EOk hg e heI
    have h1 : e.1 = 0 := by rcases hat with q | q <;> omega
    have hv := idL_at (n := n) (v := e.2) (by omega) (by omega)
    exact core (by rw [idL_len]; omega) hm i e (i : Int) hi (idL_get (lt_of_get hi)) (by omega) h1 (by omega) (by rw [hv]; omega) (by rw [edge_of hi]; exact h1) (by rw [edge_of hi, hv]) (idL_at (by omega) (by omega))
  | ban k h =>
    obtain ⟨k', rfl⟩ : ∃ k', k = k' + 1 := ⟨k - 1, by omega⟩
    exact core (by simp) hm 0 (0, 1) 0 (by rw [List.replicate_succ]; rfl) (by rw [List.replicate_succ]; rfl) (by omega) rfl (by decide) (by decide) rfl rfl rfl
  | cyc => exact core (by simp) hm 0 (0, 1) 0 rfl rfl (by omega) rfl (by decide) (by decide) rfl rfl rfl
theorem base_edg {n : Int} {es : Es} {N : Int} {hs : Es} {vs ks : List Int} (hb : Base n es N hs vs ks) (y : Int) (hm : harmB n es N hs vs (ks.set 0 y) = true) : ks.set 0 y = ks := by
  cases hb with
  | @id n es h =>
    have hg := h.gok (by omega)
    have h2 := h.two
    have hpos := len_pos hg h2
    obtain ⟨hmor, hall⟩ := harm_parts hm
    obtain ⟨_, _, l1, l2, r1, r2⟩ := morB_len hmor
    have g0 : es[0]? = some es[0] := List.getElem?_eq_getElem hpos
    have hkl : 0 < (idL es.length).length := by rw [idL_len]; exact hpos
    have k0 : ((idL es.length).set 0 y)[0]? = some y := List.getElem?_set_self hkl
    have hz : (es.zip ((idL es.length).set 0 y))[0]? = some (es[0], y) := List.getElem?_zip_eq_some.2 ⟨g0, k0⟩
    have ho := gok_EOk hg es[0] (List.getElem_mem hpos)
    have hr := r2 _ (List.mem_of_getElem? hz)
    have hy1 : y ≠ -1 := by
      intro hy
      unfold edgeMapB at hr
      rw [if_pos hy] at hr
      simp only [decide_eq_true_eq] at hr
      rw [idL_at (by omega) (by omega), idL_at (by omega) (by omega)] at hr
      omega
    have hi := img_edge hr hy1
    simp only at hi
    obtain ⟨p0, p1, p2, p3⟩ := hi
    rw [idL_at (by omega) (by omega), idL_at (by omega) (by omega)] at p2 p3
    have hmm := min2_lt ho.2.1
    rw [hmm.1] at p2
    rw [hmm.2] at p3
    obtain ⟨j, rfl⟩ := Int.eq_ofNat_of_zero_le p0
    have hjl : j < es.length := by omega
    by_cases hj : j = 0
    · subst hj
      apply ext_at0 (by simp)
      intro w hw
      rw [at0_set0 _ hkl _ (by omega)]
      split
      · rename_i h; rw [h, idL_at (by omega) (by omega)]; rfl
      · rfl
    · exfalso
      have ev := idL_at (n := n) (v := es[0].1) (by omega) (by omega)
      have m0 := mults_mem (z := es.zip ((idL es.length).set 0 (j : Int))) (hs := es) (vs := idL n) (v := es[0].1) (j := 0) hpos (by rw [edge_of g0, ev]; exact .inl rfl)
      have mj := mults_mem (z := es.zip ((idL es.length).set 0 (j : Int))) (hs := es) (vs := idL n) (v := es[0].1) (j := j) hjl (by rw [ev]; exact .inl p2)
      have heq := allEqB_eq (hall es[0].1 (by omega) (by omega)) m0 mj
      have z0 : overZ (es.zip ((idL es.length).set 0 (j : Int))) es[0].1 ((0 : Nat) : Int) = 0 := overZ_zero (fun a ha => by
        unfold over1
        rw [if_neg]
        rintro ⟨_, q⟩
        obtain ⟨i, hi⟩ := List.getElem?_of_mem ha
        obtain ⟨q1, q2⟩ := zip_get hi
        have hil := lt_of_get q1
        by_cases h0 : i = 0
        · subst h0
          rw [k0] at q2
          have : (j : Int) = a.2 := by simpa using q2
          omega
        · rw [List.getElem?_set_ne (by omega), idL_get hil] at q2
          have : (i : Int) = a.2 := by simpa using q2
          omega) 0
      have gj : es[j]? = some es[j] := List.getElem?_eq_getElem hjl
      have kj : ((idL es.length).set 0 (j : Int))[j]? = some (j : Int) := by rw [List.getElem?_set_ne (by omega), idL_get hjl]
      have hzj : (es.zip ((idL es.length).set 0 (j : Int)))[j]? = some (es[j], (j : Int)) := List.getElem?_zip_eq_some.2 ⟨gj, kj⟩
      have z1 : 1 ≤ overZ (es.zip ((idL es.length).set 0 (j : Int))) es[0].1 (j : Int) := by
        have := overZ_pos (v := es[0].1) (k := (j : Int)) (List.mem_of_getElem? hzj) (by
          unfold over1
          rw [if_pos]
          refine ⟨.inl ?_, rfl⟩
          rw [edge_of gj] at p2
          exact p2) 0
        unfold overZ; omega
      omega
  | ban k h =>
    obtain ⟨k', rfl⟩ : ∃ k', k = k' + 1 := ⟨k - 1, by omega⟩
    simp only [harmB, Bool.and_eq_true] at hm
    obtain ⟨_, _, _, _, _, r2⟩ := morB_len hm.1
    have hr := r2 ((0, 1), y) (by rw [List.replicate_succ, List.replicate_succ]; simp)
    have hy1 : y ≠ -1 := by
      intro hy
      subst hy
      exact absurd hr (by decide)
    have hi := img_edge hr hy1
    simp only [List.length_singleton] at hi
    have : y = 0 := by omega
    subst this
    rw [List.replicate_succ]; rfl
  | cyc =>
    simp only [harmB, Bool.and_eq_true] at hm
    obtain ⟨_, _, _, _, _, r2⟩ := morB_len hm.1
    have hr := r2 ((0, 1), y) (by simp)
    have hy1 : y ≠ -1 := by
      intro hy
      subst hy
      exact absurd hr (by decide)
    have hi := img_edge hr hy1
    simp only [List.length_cons, List.length_nil] at hi
    obtain ⟨p0, p1, p2, p3⟩ := hi
    have : y = 0 ∨ y = 1 := by omega
    rcases this with rfl | rfl
    · rfl
    · exact absurd p2 (by decide)
theorem base_any {n : Int} {es : Es} {N : Int} {hs : Es} {vs ks : List Int} (hb : Base n es N hs vs ks) (N' : Int) (hs' : Es) (hm : harmB n es N' hs' vs ks = true) : N' = N ∧ hs' = hs := by
  cases hb with
  | @id n es h =>
    have hg := h.gok (by omega)
    have h2 := h.two
    obtain ⟨s1, s2⟩ := sur hm h2 (fun k hk => by have := idL_mem hk; omega)
    obtain ⟨hmor, hall⟩ := harm_parts hm
    obtain ⟨_, hh, l1, l2, r1, r2⟩ := morB_len hmor
    have hN1 := r1 ((n : Int) - 1) (by
      unfold idL
      exact List.mem_map.2 ⟨n - 1, List.mem_range.2 (by omega), by omega⟩)
    have hN : N' = n := by
      obtain ⟨v, a0, a1, a2⟩ := s1 (N' - 1) (by omega) (by omega)
      rw [idL_at a0 a1] at a2
      omega
    have hlen1 : hs'.length ≤ es.length := by
      by_cases h0 : hs'.length = 0
      · omega
      · have := s2 (hs'.length - 1) (by omega)
        have := idL_mem this
        omega
    have hall' : ∀ i : Nat, i < es.length → i < hs'.length ∧ edge hs' (i : Int) = edge es (i : Int) := by
      intro i hi
      have g1 : es[i]? = some es[i] := List.getElem?_eq_getElem hi
      have hz : (es.zip (idL es.length))[i]? = some (es[i], (i : Int)) := List.getElem?_zip_eq_some.2 ⟨g1, idL_get hi⟩
      have ho := gok_EOk hg es[i] (List.getElem_mem hi)
      have := img_edge (r2 _ (List.mem_of_getElem? hz)) (by simp)
      simp only at this
      obtain ⟨p0, p1, p2, p3⟩ := this
      rw [idL_at (by omega) (by omega), idL_at (by omega) (by omega)] at p2 p3
      have hmm := min2_lt ho.2.1
      rw [hmm.1] at p2
      rw [hmm.2] at p3
      exact ⟨by omega, by rw [edge_of g1]; exact Prod.ext p2 p3⟩
    have hlen2 : es.length ≤ hs'.length := by
      have hpos := len_pos hg h2
      have := (hall' (es.length - 1) (by omega)).1
      omega
    exact ⟨hN, edge_ext (by omega) fun i hi => (hall' i (by omega)).2⟩
  | ban k h =>
    have hm' : harmB ((2 : Nat) : Int) (List.replicate k (0, 1)) N' hs' [0, 1] (List.replicate k 0) = true := hm
    obtain ⟨s1, s2⟩ := sur hm' (by omega) (fun k hk => by rw [List.eq_of_mem_replicate hk]; omega)
    obtain ⟨hmor, hall⟩ := harm_parts hm'
    obtain ⟨_, hh, l1, l2, r1, r2⟩ := morB_len hmor
    have hN1 := r1 1 (by simp)
    have hN : N' = 2 := by
      obtain ⟨v, a0, a1, a2⟩ := s1 (N' - 1) (by omega) (by omega)
      have : v = 0 ∨ v = 1 := by omega
      rcases this with rfl | rfl
      · have : at0 [0, 1] 0 = 0 := rfl
        omega
      · have : at0 [0, 1] 1 = 1 := rfl
        omega
    have hr := r2 ((0, 1), 0) (by
      obtain ⟨k', rfl⟩ : ∃ k', k = k' + 1 := ⟨k - 1, by omega⟩
      rw [List.replicate_succ, List.replicate_succ]; simp)
    have hi := img_edge hr (by decide)
    simp only at hi
    obtain ⟨p0, p1, p2, p3⟩ := hi
    have hlen : hs'.length = 1 := by
      have := s2 (hs'.length - 1) (by omega)
      have := List.eq_of_mem_replicate this
      omega
    refine ⟨hN, ?_⟩
    match hs', hlen with
    | [e], _ =>
      have e1 : e.1 = 0 := p2
      have e2 : e.2 = 1 := p3
      rw [show e = (0, 1) from Prod.ext e1 e2]
  | cyc =>
    have hm' : harmB ((4 : Nat) : Int) [(0, 1), (0, 3), (1, 2), (2, 3)] N' hs' [0, 1, 2, 1] [0, 0, 1, 1] = true := hm
    obtain ⟨s1, s2⟩ := sur hm' (by omega) (fun k hk => by simp at hk; omega)
    obtain ⟨hmor, hall⟩ := harm_parts hm'
    obtain ⟨_, hh, l1, l2, r1, r2⟩ := morB_len hmor
    have hN1 := r1 2 (by simp)
    have hN : N' = 3 := by
      obtain ⟨v, a0, a1, a2⟩ := s1 (N' - 1) (by omega) (by omega)
      have hat : at0 [0, 1, 2, 1] v = 0 ∨ at0 [0, 1, 2, 1] v = 1 ∨ at0 [0, 1, 2, 1] v = 2 := by
        have : v = 0 ∨ v = 1 ∨ v = 2 ∨ v = 3 := by omega
        rcases this with rfl | rfl | rfl | rfl <;> decide
      omega
    have hi0 := img_edge (r2 ((0, 1), 0) (by simp)) (by decide)
    have hi1 := img_edge (r2 ((1, 2), 1) (by simp)) (by decide)
    simp only at hi0 hi1
    obtain ⟨p0, p1, p2, p3⟩ := hi0
    obtain ⟨q0, q1, q2, q3⟩ := hi1
    have hlen : hs'.length = 2 := by
      have := s2 (hs'.length - 1) (by omega)
      simp at this
      omega
    refine ⟨hN, ?_⟩
    match hs', hlen with
    | [e, f], _ =>
      have e1 : e.1 = 0 := p2
      have e2 : e.2 = 1 := p3
      have f1 : f.1 = 1 := q2
      have f2 : f.2 = 2 := q3
      rw [show e = (0, 1) from Prod.ext e1 e2, show f = (1, 2) from Prod.ext f1 f2]
/-- a drawn morphism that is harmonic is one of the drawn -/
theorem mod_base {n : Int} {es : Es} {N : Int} {hs : Es} {vs ks : List Int} (hd : Mod n es N hs vs ks) (hm : harmB n es N hs vs ks = true) : Base n es N hs vs ks := by
  cases hd with
  | no h => exact h
  | ver h x => rw [base_ver h x hm]; exact h
  | edg h x => rw [base_edg h x hm]; exact h
  | any h N' hs' hl => obtain ⟨rfl, rfl⟩ := base_any h _ _ hm; exact h
end Go.Pm.Try

set_option linter.unusedVariables false
set_option linter.unusedSimpArgs false
namespace Go.Pm.Try
open Go.Pm Go.Pm.Th
theorem slices_Contains_spec (l : List Int) (x : Int) (hb : l.length ≤ 17592186044416) : slices_Contains_int_int (l, x, ()) = some (decide (x ∈ l), ()) := by
  have key : ∀ (k i : Nat), i + k = l.length → ∃ r, loopM slices_Index_int_int_L26 (l, x, (l.length : Int), (i : Int), ()) = some (r, ()) ∧ decide (r ≥ 0) = decide (x ∈ l.drop i) := by
    intro k
    induction k with
    | zero =>
      intro i hi
      refine ⟨-1, ?_, ?_⟩
      · apply loop_out
        simp only [slices_Index_int_int_L26]
        simp (disch := omega) only [cond_neg, Option.map_some]
      · rw [List.drop_eq_nil_of_le (by omega)]; simp
    | succ k ih =>
      intro i hi
      have hlt : i < l.length := by omega
      have hg : l[i]? = some l[i] := List.getElem?_eq_getElem hlt
      by_cases e : x = l[i]
      · refine ⟨i, ?_, ?_⟩
        · apply loop_out
          simp only [slices_Index_int_int_L26]
          simp (disch := omega) only [cond_pos, chk_pos, atD_nat, getD_of hg]
          rw [← e]; simp
        · rw [List.drop_eq_getElem_cons hlt, ← e]; simp
      · obtain ⟨r, h1, h2⟩ := ih (i + 1) (by omega)
        refine ⟨r, ?_, ?_⟩
        · rw [← h1]
          apply loop_in
          simp only [slices_Index_int_int_L26]
          simp (disch := omega) only [cond_pos, chk_pos, w64_of, atD_nat, getD_of hg]
          have : (x == l[i]) = false := by simpa using e
          rw [this]; rfl
        · rw [h2, List.drop_eq_getElem_cons hlt]
          exact decide_eq_decide.2 (by rw [List.mem_cons]; exact ⟨.inr, fun h => h.resolve_left e⟩)
  obtain ⟨r, h1, h2⟩ := key l.length 0 (by omega)
  simp only [slices_Contains_int_int, slices_Index_int_int]
  have h1 : loopM slices_Index_int_int_L26 (l, x, (l.length : Int), 0, ()) = some (r, ()) := h1
  rw [h1]
  simp only [Option.bind_some, h2]
  simp
end Go.Pm.Try

set_option linter.unusedVariables false
set_option linter.unusedSimpArgs false
set_option linter.unusedSectionVars false
namespace Go.Pm.Try
open Go.Pm Go.Pm.Th
theorem min_max_in {n : Int} {a b : Int} (ha : 0 ≤ a ∧ a < n) (hb : 0 ≤ b ∧ b < n) : ¬ min2 a b < 0 ∧ ¬ max2 a b ≥ n := by
  unfold min2 max2
  split <;> split <;> omega
theorem impl_Multiplicity_spec {n : Int} {es : Es} (he : EOk n es) (hb : es.length ≤ 1000000) {a b : Int} (ha : 0 ≤ a ∧ a < n) (hbr : 0 ≤ b ∧ b < n) : impl_Multiplicity (n, es, a, b, ()) = some (mult es a b, ()) := by
  obtain ⟨h1, h2⟩ := min_max_in ha hbr
  simp only [impl_Multiplicity]
  rw [cond_neg h1, cond_neg h2]
  simp only [joinB_inl, impl_Multiplicity_J12, beq_dec]
  by_cases hab : a = b
  · subst hab
    rw [cond_pos rfl, mult_self he]
  · rw [cond_neg hab]
    have := loop_fold (f := impl_Multiplicity_L122) (fun s i => (a, b, s, es, (es.length : Int), i, ())) (fun (s : Int) e => s + multE a b e) (fun i s => 0 ≤ s ∧ s ≤ i) es es.length rfl (fun s => (s, ())) 0 ⟨Int.le_refl _, Int.le_refl _⟩ (fun s i e hi hs => by
      have hlt := lt_of_get hi
      have hne := he e (List.mem_of_getElem? hi)
      refine ⟨?_, ?_⟩
      · simp only [impl_Multiplicity_L122, atD_nat, getD_of hi, beq_dec]
        simp (disch := omega) only [cond_pos, chk_pos, w64_of]
        unfold multE
        by_cases h1 : e.1 = min2 a b
        · by_cases h2 : e.2 = max2 a b
          · have hc : (e.1 = a ∧ e.2 = b) ∨ (e.1 = b ∧ e.2 = a) := by
              unfold min2 at h1; unfold max2 at h2
              split at h1 <;> split at h2 <;> omega
            rw [if_pos hc, decide_eq_true h1, decide_eq_true h2]; simp
          · have hc : ¬ ((e.1 = a ∧ e.2 = b) ∨ (e.1 = b ∧ e.2 = a)) := by
              unfold min2 at h1; unfold max2 at h2
              split at h1 <;> split at h2 <;> omega
            rw [if_neg hc, decide_eq_true h1, decide_eq_false h2]; simp
        · have hc : ¬ ((e.1 = a ∧ e.2 = b) ∨ (e.1 = b ∧ e.2 = a)) := by
            unfold min2 at h1
            split at h1 <;> omega
          rw [if_neg hc, decide_eq_false h1]; simp
      · show 0 ≤ s + multE a b e ∧ s + multE a b e ≤ ((i + 1 : Nat) : Int)
        unfold multE; split <;> omega) (fun s hs => by
      simp only [impl_Multiplicity_L122]
      rw [cond_neg (by omega)]; rfl)
    rw [this.1, foldl_mult]
theorem impl_Valence_spec {n : Int} {es : Es} (hb : es.length ≤ 1000000) {v : Int} (hv : 0 ≤ v ∧ v < n) : impl_Valence (n, es, v, ()) = some (deg es v, ()) := by
  simp only [impl_Valence]
  rw [cond_neg (by omega), decide_eq_false (show ¬ v ≥ n by omega)]
  simp only [joinB_inl, impl_Valence_J12, cond_false]
  have := loop_fold (f := impl_Valence_L122) (fun s i => (v, s, es, (es.length : Int), i, ())) (fun (s : Int) e => s + if e.1 = v ∨ e.2 = v then 1 else 0) (fun i s => 0 ≤ s ∧ s ≤ i) es es.length rfl (fun s => (s, ())) 0 ⟨Int.le_refl _, Int.le_refl _⟩ (fun s i e hi hs => by
    have hlt := lt_of_get hi
    refine ⟨?_, by show 0 ≤ s + (if e.1 = v ∨ e.2 = v then 1 else 0) ∧ s + (if e.1 = v ∨ e.2 = v then 1 else 0) ≤ ((i + 1 : Nat) : Int); split <;> omega⟩
    simp only [impl_Valence_L122, atD_nat, getD_of hi, beq_dec]
    simp (disch := omega) only [cond_pos, chk_pos, w64_of]
    by_cases h1 : e.1 = v
    · simp [h1]
    · by_cases h2 : e.2 = v
      · simp [h1, h2]
      · simp [h1, h2]) (fun s hs => by
    simp only [impl_Valence_L122]
    rw [cond_neg (by omega)]; rfl)
  rw [this.1, foldl_deg]
def fireE (v t : Int) (l : List Int) (e : Int × Int) : List Int :=
  if v = e.1 then (l.set v.toNat (at0 l v - t)).set e.2.toNat (at0 (l.set v.toNat (at0 l v - t)) e.2 + t)
  else if v = e.2 then (l.set v.toNat (at0 l v - t)).set e.1.toNat (at0 (l.set v.toNat (at0 l v - t)) e.1 + t)
  else l
def fireL (es : Es) (l : List Int) (v t : Int) : List Int := es.foldl (fireE v t) l
theorem fireE_len (v t : Int) (l : List Int) (e : Int × Int) : (fireE v t l e).length = l.length := by unfold fireE; split <;> (try split) <;> simp
theorem fireE_at {n : Nat} {v t : Int} {l : List Int} {e : Int × Int} (hl : l.length = n) (he : 0 ≤ e.1 ∧ e.1 < e.2 ∧ e.2 < n) (hv : 0 ≤ v ∧ v < n) {x : Int} (hx : 0 ≤ x) : at0 (fireE v t l e) x = at0 l x + Th.part (single v t) x e := by
  unfold fireE Th.part single
  by_cases h1 : v = e.1
  · rw [if_pos h1]
    rw [at0_set _ (by omega) (by rw [List.length_set]; omega) x hx]
    have h2 : ¬ e.2 = v := by omega
    by_cases c2 : x = e.2
    · rw [if_pos c2, at0_set _ hv.1 (by omega) e.2 (by omega), if_neg h2]
      rw [if_neg (show ¬ e.1 = x by omega), if_pos c2.symm, if_pos h1.symm, if_neg h2, c2]
      omega
    · rw [if_neg c2, at0_set _ hv.1 (by omega) x hx]
      rw [if_neg (show ¬ e.2 = x by omega), if_pos h1.symm, if_neg h2]
      by_cases c1 : x = v
      · rw [if_pos c1, if_pos (show e.1 = x by omega), c1]; omega
      · rw [if_neg c1, if_neg (show ¬ e.1 = x by omega)]; omega
  · rw [if_neg h1]
    by_cases h2 : v = e.2
    · rw [if_pos h2]
      rw [at0_set _ (by omega) (by rw [List.length_set]; omega) x hx]
      have h3 : ¬ e.1 = v := by omega
      by_cases c2 : x = e.1
      · rw [if_pos c2, at0_set _ hv.1 (by omega) e.1 (by omega), if_neg h3]
        rw [if_neg (show ¬ e.2 = x by omega), if_pos c2.symm, if_pos h2.symm, if_neg h3, c2]
        omega
      · rw [if_neg c2, at0_set _ hv.1 (by omega) x hx]
        rw [if_neg (show ¬ e.1 = x by omega), if_pos h2.symm, if_neg h3]
        by_cases c1 : x = v
        · rw [if_pos c1, if_pos (show e.2 = x by omega), c1]; omega
        · rw [if_neg c1, if_neg (show ¬ e.2 = x by omega)]; omega
    · rw [if_neg h2, if_neg (show ¬ e.2 = v by omega), if_neg (show ¬ e.1 = v by omega)]
      split <;> split <;> omega
theorem fireL_at {n : Nat} {v t : Int} (hv : 0 ≤ v ∧ v < n) {x : Int} (hx : 0 ≤ x) : ∀ {es : Es}, EOk n es → ∀ {l : List Int}, l.length = n → at0 (fireL es l v t) x = at0 l x + flow es (single v t) x
  | [], _, l, _ => by simp [fireL, flow]
  | e :: es, he, l, hl => by
    have ih := fireL_at (t := t) hv hx he.tail (l := fireE v t l e) (by rw [fireE_len]; exact hl)
    unfold fireL at ih ⊢
    rw [List.foldl_cons, ih, fireE_at hl he.head hv hx]
    simp only [flow]; omega
theorem fireL_len (v t : Int) : ∀ (es : Es) (l : List Int), (fireL es l v t).length = l.length
  | [], l => rfl
  | e :: es, l => by
    have ih := fireL_len v t es (fireE v t l e)
    unfold fireL at ih ⊢
    rw [List.foldl_cons, ih, fireE_len]
theorem at0_bd {l : List Int} {B : Int} (hB : 0 ≤ B) (h : ∀ x ∈ l, -B ≤ x ∧ x ≤ B) (v : Int) : -B ≤ at0 l v ∧ at0 l v ≤ B := by
  unfold at0
  rw [List.getD_eq_getElem?_getD]
  cases hg : l[v.toNat]? with
  | none => simp; omega
  | some x => exact h x (List.mem_of_getElem? hg)
theorem set_bd {l : List Int} {B : Int} (h : ∀ x ∈ l, -B ≤ x ∧ x ≤ B) {i : Nat} {y : Int} (hy : -B ≤ y ∧ y ≤ B) : ∀ x ∈ l.set i y, -B ≤ x ∧ x ≤ B := by
  intro x hx
  rcases List.mem_or_eq_of_mem_set hx with hx | hx
  · exact h x hx
  · subst hx; exact hy
theorem bd_mono {l : List Int} {B C : Int} (h : ∀ x ∈ l, -B ≤ x ∧ x ≤ B) (hBC : B ≤ C) : ∀ x ∈ l, -C ≤ x ∧ x ≤ C := fun x hx => by have := h x hx; omega
theorem impl_fire_spec {n : Nat} {es : Es} (he : EOk n es) (hb : es.length ≤ 12) {d : List Int} (hd : d.length = n) {v t : Int} (hv : 0 ≤ v ∧ v < n) (hdb : ∀ x ∈ d, -10000000000000 ≤ x ∧ x ≤ 10000000000000) (ht : -10000000000000 ≤ t ∧ t ≤ 10000000000000) :
    impl_fire ((n : Int), es, d, v, t, ()) = some (fireL es d v t, ()) := by
  simp only [impl_fire]
  have := loop_fold (f := impl_fire_L14) (fun s i => (v, t, es, (es.length : Int), i, s, ())) (fireE v t) (fun i s => s.length = n ∧ ∀ x ∈ s, -(10000000000000 * ((i : Int) + 1)) ≤ x ∧ x ≤ 10000000000000 * ((i : Int) + 1)) es es.length rfl (fun s => (s, ())) d ⟨hd, fun x hx => by have := hdb x hx; omega⟩ (fun s i e hi hs => by
    have hlt := lt_of_get hi
    have ho := he e (List.mem_of_getElem? hi)
    obtain ⟨s1, s2⟩ := hs
    have ev : (((i + 1 : Nat) : Int) + 1) = (i : Int) + 2 := by omega
    have hcur : ∀ x, -(10000000000000 * ((i : Int) + 1)) ≤ at0 s x ∧ at0 s x ≤ 10000000000000 * ((i : Int) + 1) := at0_bd (by omega) s2
    have hmono := bd_mono s2 (C := 10000000000000 * (((i + 1 : Nat) : Int) + 1)) (by omega)
    have hv1 := hcur v
    have hset := set_bd hmono (i := v.toNat) (y := at0 s v - t) (by omega)
    have hone : ∀ w : Int, 0 ≤ w → w < n → w ≠ v → at0 (s.set v.toNat (at0 s v - t)) w = at0 s w := fun w h0 h1 h2 => by rw [at0_set _ hv.1 (by omega) w h0, if_neg h2]
    refine ⟨?_, by rw [fireE_len]; exact s1, ?_⟩
    · simp only [impl_fire_L14, atD_nat, getD_of hi, beq_dec, atD_at0]
      rw [cond_pos (by omega), chk_pos (by omega), w64_of (x := (i : Int) + 1) (by omega) (by omega), w64_of (x := at0 s v - t) (by omega) (by omega)]
      by_cases h1 : v = e.1
      · have h3 := hcur e.2
        rw [cond_pos h1, chk_pos (by omega), chk_pos (by omega), chk_pos (by rw [List.length_set]; omega), chk_pos (by rw [List.length_set]; omega), hone e.2 (by omega) (by omega) (by omega), w64_of (by omega) (by omega)]
        unfold fireE
        rw [if_pos h1, hone e.2 (by omega) (by omega) (by omega)]
        rfl
      · by_cases h2 : v = e.2
        · have h3 := hcur e.1
          rw [cond_neg h1, cond_pos h2, chk_pos (by omega), chk_pos (by omega), chk_pos (by rw [List.length_set]; omega), chk_pos (by rw [List.length_set]; omega), hone e.1 (by omega) (by omega) (by omega), w64_of (by omega) (by omega)]
          unfold fireE
          rw [if_neg h1, if_pos h2, hone e.1 (by omega) (by omega) (by omega)]
          rfl
        · rw [cond_neg h1, cond_neg h2]
          unfold fireE
          rw [if_neg h1, if_neg h2]
          rfl
    · unfold fireE
      by_cases h1 : v = e.1
      · have h3 := hcur e.2
        rw [if_pos h1, hone e.2 (by omega) (by omega) (by omega)]
        exact set_bd hset (by omega)
      · by_cases h2 : v = e.2
        · have h3 := hcur e.1
          rw [if_neg h1, if_pos h2, hone e.1 (by omega) (by omega) (by omega)]
          exact set_bd hset (by omega)
        · rw [if_neg h1, if_neg h2]; exact hmono) (fun s hs => by
    simp only [impl_fire_L14]
    rw [cond_neg (by omega)]; rfl)
  exact this.1
theorem foldl_eo (es : Es) (v : Int) : ∀ (l : List Int) (s : Int), l.foldl (fun s w => s + mult es v w) s = s + eo es l v
  | [], s => by simp [eo]
  | w :: l, s => by
    rw [List.foldl_cons, foldl_eo es v l]
    simp only [eo]; omega
theorem find_range' {p : Nat → Bool} (v m : Nat) : (List.range' v (m + 1)).find? p = if p v then some v else (List.range' (v + 1) m).find? p := by
  rw [List.range'_succ, List.find?_cons]
  cases p v <;> rfl
theorem burn_row {n : Nat} {es : Es} (g : Gr n es) {d : List Int} (hd : d.length = n) {q : Int} {out : List Int} (ho : BInv n es (at0 d) q out) : ∀ (m v : Nat), v + m = n →
    loopM impl_burn_L906 (d, out, -1, (v : Int), (n : Int), es, ()) = some (match (List.range' v m).find? (fun (v : Nat) => decide ((v : Int) ∉ out) && decide (at0 d v < eo es out v)) with | some w => .inl (d, out ++ [(w : Int)], (n : Int), es, ()) | none => .inr (out, ()))
  | 0, v, hv => by
    apply loop_out
    simp only [impl_burn_L906]
    rw [cond_neg (by omega)]
    simp only [joinB_inl, impl_burn_J7248, cond_false]
    rfl
  | m + 1, v, hv => by
    have ih := burn_row g hd ho m (v + 1) (by omega)
    have hol := ho.len
    have hle := g.le
    have hlen := g.len
    rw [find_range']
    have l1 := loop_fold (f := impl_burn_L232010) (fun s i => (d, out, (-1 : Int), (v : Int), s, (out.length : Int), i, (n : Int), es, ())) (fun (s : Int) w => s + mult es (v : Int) w) (fun i s => 0 ≤ s ∧ s ≤ 12 * (i : Int)) out out.length rfl (fun s => .inl (d, out, -1, (v : Int), s, (n : Int), es, ())) 0 ⟨Int.le_refl _, by omega⟩ (fun s i w hi hs => by
      have hlt := lt_of_get hi
      have hw := ho.val w (List.mem_of_getElem? hi)
      have hm0 := mult_nonneg es (v : Int) w
      have hm1 := mult_le es (v : Int) w
      refine ⟨?_, by show 0 ≤ s + mult es (v : Int) w ∧ s + mult es (v : Int) w ≤ 12 * ((i + 1 : Nat) : Int); omega⟩
      simp only [impl_burn_L232010, atD_nat, getD_of hi]
      rw [cond_pos (by omega), chk_pos (by omega), impl_Multiplicity_spec g.ok (by omega) (by omega) hw]
      simp only [Option.bind_some]
      rw [w64_of (by omega) (by omega), w64_of (by omega) (by omega)]
      rfl) (fun s hs => by
      simp only [impl_burn_L232010]
      rw [cond_neg (by omega)]; rfl)
    rw [foldl_eo es (v : Int) out 0, Int.zero_add] at l1
    obtain ⟨l1, _⟩ := l1
    have l1' : loopM impl_burn_L232010 (d, out, -1, (v : Int), 0, (out.length : Int), 0, (n : Int), es, ()) = _ := l1
    have step : impl_burn_L906 (d, out, -1, (v : Int), (n : Int), es, ()) = some (.inl (d, out, (if (decide ((v : Int) ∉ out) && decide (at0 d v < eo es out v)) = true then (v : Int) else -1), ((v + 1 : Nat) : Int), (n : Int), es, ())) := by
      simp only [impl_burn_L906]
      rw [cond_pos (by omega)]
      simp only [joinB_inl, impl_burn_J7248]
      rw [cond_pos (by decide), l1']
      simp only [joinB_inl, impl_burn_J116005, slices_Contains_spec out (v : Int) (by omega), Option.bind_some]
      by_cases h1 : (v : Int) ∈ out
      · simp (disch := omega) only [h1, decide_true, Bool.not_true, cond_false, w64_of, not_true_eq_false, decide_false, Bool.false_and, Bool.false_eq_true, if_false]
        rfl
      · simp only [h1, decide_false, Bool.not_false, cond_true, not_false_eq_true, decide_true, Bool.true_and]
        rw [chk_pos (by omega), w64_of (by omega) (by omega)]
        by_cases h2 : at0 d v < eo es out v
        · rw [cond_pos (show atD 0 d (v : Int) < eo es out (v : Int) from h2), if_pos (decide_eq_true h2)]; rfl
        · rw [cond_neg (show ¬ atD 0 d (v : Int) < eo es out (v : Int) from h2), if_neg (by simpa using h2)]; rfl
    by_cases hp : (decide ((v : Int) ∉ out) && decide (at0 d v < eo es out v)) = true
    · rw [if_pos hp] at step ⊢
      rw [loop_in step]
      apply loop_out
      simp only [impl_burn_L906]
      have fin : impl_burn_J7248 (d, out, (v : Int), ((v + 1 : Nat) : Int), false, (n : Int), es, ()) = some (.inr (.inl (d, out ++ [(v : Int)], (n : Int), es, ()))) := by
        simp only [impl_burn_J7248, cond_false]
        rw [cond_neg (by omega), chk_pos (by simp; omega)]
        rfl
      by_cases hlt : ((v + 1 : Nat) : Int) < n
      · rw [cond_pos hlt, decide_eq_false (show ¬ (v : Int) < 0 by omega)]
        simp only [joinB_inl]
        exact fin
      · rw [cond_neg hlt]
        simp only [joinB_inl]
        exact fin
    · rw [if_neg hp] at step ⊢
      rw [loop_in step]
      exact ih
theorem impl_burn_loop {n : Nat} {es : Es} (g : Gr n es) {d : List Int} (hd : d.length = n) {q : Int} : ∀ (k : Nat) (out : List Int), BInv n es (at0 d) q out → n ≤ out.length + k → loopM impl_burn_L14 (d, out, (n : Int), es, ()) = some (burnF n es (at0 d) k out, ()) := by
  intro k
  induction k with
  | zero =>
    intro out ho hk
    have hol := ho.len
    have hb := bnext_full ho (by omega)
    apply loop_out
    simp only [impl_burn_L14]
    have := burn_row g hd ho n 0 (by omega)
    rw [← List.range_eq_range'] at this
    unfold bnext at hb
    rw [hb] at this
    exact this
  | succ k ih =>
    intro out ho hk
    have := burn_row g hd ho n 0 (by omega)
    rw [← List.range_eq_range'] at this
    simp only [burnF]
    cases hb : bnext n es (at0 d) out with
    | none =>
      unfold bnext at hb
      rw [hb] at this
      exact loop_out this
    | some w =>
      have hadd := ho.add hb
      unfold bnext at hb
      rw [hb] at this
      rw [loop_in this]
      exact ih (out ++ [(w : Int)]) hadd (by simp; omega)
theorem impl_burn_spec {n : Nat} {es : Es} (g : Gr n es) {d : List Int} (hd : d.length = n) {q : Int} (hq : 0 ≤ q ∧ q < n) : impl_burn ((n : Int), es, d, q, ()) = some (burn n es (at0 d) q, ()) := by
  simp only [impl_burn]
  exact impl_burn_loop g hd n [q] (binv_one hq) (by simp)
theorem impl_inDebt_spec (d : List Int) (q : Int) (hb : d.length ≤ 1000000) : ∃ r, impl_inDebt (d, q, ()) = some (r, ()) ∧ ((r = -1 ∧ ∀ v : Int, 0 ≤ v → v < d.length → v ≠ q → 0 ≤ at0 d v) ∨ (0 ≤ r ∧ r < d.length ∧ r ≠ q ∧ at0 d r < 0)) := by
  have key : ∀ (m v : Nat), v + m = d.length → (∀ w : Int, 0 ≤ w → w < v → w ≠ q → 0 ≤ at0 d w) → ∃ r, loopM impl_inDebt_L26 (q, d, (d.length : Int), (v : Int), ()) = some (r, ()) ∧ ((r = -1 ∧ ∀ v : Int, 0 ≤ v → v < d.length → v ≠ q → 0 ≤ at0 d v) ∨ (0 ≤ r ∧ r < d.length ∧ r ≠ q ∧ at0 d r < 0)) := by
    intro m
    induction m with
    | zero =>
      intro v hv hw
      refine ⟨-1, ?_, .inl ⟨rfl, fun w h0 h1 h2 => hw w h0 (by omega) h2⟩⟩
      apply loop_out
      simp only [impl_inDebt_L26]
      rw [cond_neg (by omega)]; rfl
    | succ m ih =>
      intro v hv hw
      by_cases hc : (v : Int) ≠ q ∧ at0 d (v : Int) < 0
      · refine ⟨(v : Int), ?_, .inr ⟨by omega, by omega, hc.1, hc.2⟩⟩
        apply loop_out
        simp only [impl_inDebt_L26, bne_false_iff]
        rw [cond_pos (by omega), chk_pos (by omega), decide_eq_false hc.1]
        simp only [Bool.not_false, cond_true]
        rw [cond_pos (show atD 0 d (v : Int) < 0 from hc.2)]
        rfl
      · obtain ⟨r, e1, h1⟩ := ih (v + 1) (by omega) (fun w h0 h1 h2 => by
          by_cases e : w = v
          · subst e
            apply Classical.byContradiction
            intro hneg
            exact hc ⟨h2, by omega⟩
          · exact hw w h0 (by omega) h2)
        refine ⟨r, ?_, h1⟩
        rw [← e1]
        apply loop_in
        simp only [impl_inDebt_L26, bne_false_iff]
        rw [cond_pos (by omega), chk_pos (by omega), w64_of (by omega) (by omega)]
        by_cases hq : (v : Int) = q
        · rw [decide_eq_true hq]; rfl
        · rw [decide_eq_false hq]
          simp only [Bool.not_false, cond_true]
          rw [cond_neg (show ¬ atD 0 d (v : Int) < 0 from fun h => hc ⟨hq, h⟩)]; rfl
  exact key d.length 0 (by omega) (fun w h0 h1 _ => by omega)
end Go.Pm.Try

set_option linter.unusedVariables false
set_option linter.unusedSimpArgs false
namespace Go.Pm.Try
open Go.Pm Go.Pm.Th
theorem impl_isVertex_spec (n : Int) (es : Es) (v : Int) (hb : es.length ≤ 8796093022208) : impl_isVertex (n, es, v, ()) = some (gokB n es && inB v n, ()) := by
  simp only [impl_isVertex, impl_GraphOk_spec n es hb, impl_within_spec, Option.bind_some]
  cases h : gokB n es
  · rfl
  · rw [within_vertex (gokB_n h).1]; rfl
end Go.Pm.Try

set_option linter.unusedVariables false
set_option linter.unusedSimpArgs false
set_option linter.unusedSectionVars false
namespace Go.Pm.Try
open Go.Pm Go.Pm.Th
theorem mem_at0 {l : List Int} {x : Int} (h : x ∈ l) : ∃ v : Int, 0 ≤ v ∧ v < l.length ∧ at0 l v = x := by
  obtain ⟨i, hi⟩ := List.getElem?_of_mem h
  have := lt_of_get hi
  exact ⟨(i : Int), by omega, by omega, by rw [at0_nat, getD_of hi]⟩
theorem all_at0 {l : List Int} {B : Int} (h : ∀ v : Int, 0 ≤ v → v < l.length → -B ≤ at0 l v ∧ at0 l v ≤ B) : ∀ x ∈ l, -B ≤ x ∧ x ≤ B := fun x hx => by
  obtain ⟨v, h0, h1, h2⟩ := mem_at0 hx
  rw [← h2]; exact h v h0 h1
section
variable {n : Nat} {es : Es} {q : Int} {c : Int → Int} {U : Int} {d0 : List Int}
def Debt (d : List Int) (q r : Int) : Prop := (r = -1 ∧ ∀ v : Int, 0 ≤ v → v < d.length → v ≠ q → 0 ≤ at0 d v) ∨ (0 ≤ r ∧ r < d.length ∧ r ≠ q ∧ at0 d r < 0)
theorem red_pay (g : Gr n es) (w : Wt n es q c) (hq : 0 ≤ q ∧ q < n) (hU : 100 ≤ U ∧ U ≤ 50000) (h0 : ∀ v : Int, 0 ≤ v → v < n → -U ≤ at0 d0 v ∧ at0 d0 v ≤ U) : ∀ (K : Nat) (out s : List Int) (r : Int), out.length = n → s.length = n → St1 n es q U (at0 d0) (at0 out) (at0 s) → n * (271453 * U) - Phi n c (at0 out) ≤ K → Debt out q r →
    ∃ out' s', loopM impl_reduce_L122 (q, out, s, r, (n : Int), es, ()) = some (.inl (q, out', s', (n : Int), es, ())) ∧ out'.length = n ∧ s'.length = n ∧ St1 n es q U (at0 d0) (at0 out') (at0 s') ∧ ∀ v : Int, 0 ≤ v → v < n → v ≠ q → 0 ≤ at0 out' v := by
  intro K
  induction K with
  | zero =>
    intro out s r ho hs st hK hr
    rcases hr with ⟨rfl, hr⟩ | ⟨r0, r1, r2, r3⟩
    · refine ⟨out, s, ?_, ho, hs, st, fun v a b => hr v a (by omega)⟩
      apply loop_out
      simp only [impl_reduce_L122]
      rw [cond_neg (by omega)]; rfl
    · exfalso
      have hdp := deg_pos g.ok g.conn (by omega) r0 (show r < n by omega)
      have hdl := deg_le es r
      have hgl := g.len
      have := (st.step (t := 1) g w (v := r) r0 (by omega) r2 (Int.le_refl _) (by omega) (d' := fun x => at0 out x + flow es (single r (-1)) x) (s' := fun x => at0 s x + single r (-1) x) (fun x _ _ => rfl) (fun x _ _ => rfl) hq)
      have hp := phi_le w _ U (by omega) this.1.le
      omega
  | succ K ih =>
    intro out s r ho hs st hK hr
    rcases hr with ⟨rfl, hr⟩ | ⟨r0, r1, r2, r3⟩
    · refine ⟨out, s, ?_, ho, hs, st, fun v a b => hr v a (by omega)⟩
      apply loop_out
      simp only [impl_reduce_L122]
      rw [cond_neg (by omega)]; rfl
    · have hrn : r < n := by omega
      have hdp := deg_pos g.ok g.conn (by omega) r0 hrn
      have hdl := deg_le es r
      have hgl := g.len
      have habs := st.abs g w (by omega) h0 r r0 hrn
      have ht := fun t (h1 : 1 ≤ t) (h2 : at0 out r + t * deg es r ≤ U) (o' s' : List Int) (e1 : ∀ x : Int, 0 ≤ x → x < n → at0 o' x = at0 out x + flow es (single r (-t)) x) (e2 : ∀ x : Int, 0 ≤ x → x < n → at0 s' x = at0 s x + single r (-t) x) => st.step (t := t) g w (v := r) r0 hrn r2 h1 h2 e1 e2 hq
      obtain ⟨t, htd⟩ : ∃ t, t = (deg es r - 1 - at0 out r).tdiv (deg es r) := ⟨_, rfl⟩
      have hnn : 0 ≤ deg es r - 1 - at0 out r := by omega
      have hte : t = (deg es r - 1 - at0 out r) / deg es r := by rw [htd, Int.tdiv_eq_ediv_of_nonneg hnn]
      have t1 : 1 ≤ t := by
        rw [hte, Int.le_ediv_iff_mul_le (by omega)]; omega
      have t2 : t * deg es r ≤ deg es r - 1 - at0 out r := by rw [hte]; exact Int.ediv_mul_le _ (by omega)
      have t3 : t ≤ deg es r - 1 - at0 out r := by rw [hte]; exact Int.ediv_le_self _ hnn
      have hfl := fireL_len r (-t) es out
      obtain ⟨st', hphi⟩ := ht t t1 (by omega) (fireL es out r (-t)) (s.set r.toNat (at0 s r - t)) (fun x a b => fireL_at ⟨r0, hrn⟩ a g.ok ho) (fun x a b => by
        rw [at0_set _ r0 (by omega) x a, single]
        split
        · rename_i e; rw [e]; omega
        · omega)
      have hp := phi_le w _ U (by omega) st'.le
      obtain ⟨r', e1, hr'⟩ := impl_inDebt_spec (fireL es out r (-t)) q (by rw [hfl]; have := g.le; omega)
      obtain ⟨out', s', e2, rest⟩ := ih (fireL es out r (-t)) (s.set r.toNat (at0 s r - t)) r' (by rw [hfl]; exact ho) (by rw [List.length_set]; exact hs) st' (by omega) hr'
      refine ⟨out', s', ?_, rest⟩
      rw [← e2]
      apply loop_in
      have hob : ∀ x ∈ out, -10000000000000 ≤ x ∧ x ≤ 10000000000000 := all_at0 fun v a b => by
        have := (st.abs g w (by omega) h0 v a (by omega)).2; omega
      simp only [impl_reduce_L122, atD_at0]
      rw [cond_pos r0, impl_Valence_spec (n := (n : Int)) (by omega) ⟨r0, hrn⟩]
      simp only [Option.bind_some]
      rw [chk_pos (by omega), chk_pos (by omega), w64_of (x := deg es r - 1) (by omega) (by omega), w64_of (x := deg es r - 1 - at0 out r) (by omega) (by omega), ← htd, w64_of (x := t) (by omega) (by omega), w64_of (x := 0 - t) (by omega) (by omega), show (0 : Int) - t = -t by omega]
      rw [impl_fire_spec g.ok g.len ho ⟨r0, hrn⟩ hob (by omega)]
      simp only [Option.bind_some]
      rw [chk_pos (by omega), chk_pos (by omega), e1]
      simp only [Option.bind_some]
      rw [w64_of (x := at0 s r - t) (by omega) (by omega)]
def indU (order : List Int) (i : Nat) (w : Int) : Int := if w < i ∧ w ∉ order then 1 else 0
def setG (es : Es) (order : List Int) (v : Nat) (p : List Int × List Int) : List Int × List Int := if (v : Int) ∈ order then p else (fireL es p.1 (v : Int) 1, p.2.set v (at0 p.2 (v : Int) + 1))
theorem red_set (g : Gr n es) (hq : 0 ≤ q ∧ q < n) {out s order : List Int} (ho : out.length = n) (hs : s.length = n) (hol : order.length ≤ 6) (hob : ∀ v : Int, 0 ≤ v → v < n → -6000000000000 ≤ at0 out v ∧ at0 out v ≤ 6000000000000) (hsb : ∀ v : Int, 0 ≤ v → v < n → -6000000000000 ≤ at0 s v ∧ at0 s v ≤ 6000000000000) :
    ∃ out' s', loopM impl_reduce_L3982 (q, out, s, order, (n : Int), 0, (n : Int), es, ()) = some (.inl (q, out', s', (n : Int), es, ())) ∧ out'.length = n ∧ s'.length = n ∧ (∀ x : Int, 0 ≤ x → x < n → at0 out' x = at0 out x + flow es (indU order n) x) ∧ (∀ x : Int, 0 ≤ x → x < n → at0 s' x = at0 s x + indU order n x) := by
  have h := loop_count (f := impl_reduce_L3982) (fun (p : List Int × List Int) i => (q, p.1, p.2, order, (n : Int), i, (n : Int), es, ())) (setG es order) (fun i p => p.1.length = n ∧ p.2.length = n ∧ (∀ x : Int, 0 ≤ x → x < n → at0 p.1 x = at0 out x + flow es (indU order i) x) ∧ (∀ x : Int, 0 ≤ x → x < n → at0 p.2 x = at0 s x + indU order i x)) n (fun p => .inl (q, p.1, p.2, (n : Int), es, ())) (out, s)
    ⟨ho, hs, fun x a b => by
      rw [flow_congr g.ok (t := fun _ => 0) (fun y p r => by unfold indU; rw [if_neg (by omega)]), flow_const]; exact (Int.add_zero _).symm, fun x a b => by unfold indU; rw [if_neg (by omega)]; exact (Int.add_zero _).symm⟩
    (fun p i hi hP => by
      obtain ⟨p1, p2, p3, p4⟩ := hP
      have hle := g.le
      have hfb : ∀ x ∈ p.1, -10000000000000 ≤ x ∧ x ≤ 10000000000000 := all_at0 fun v a b => by
        rw [p3 v a (by omega)]
        have h1 := hob v a (by omega)
        have h2 := flow_bd g (M := 1) (by omega) (s := indU order i) (fun y _ _ => by unfold indU; split <;> omega) v
        omega
      have hs4 := p4 (i : Int) (by omega) (by omega)
      have hsb4 := hsb (i : Int) (by omega) (by omega)
      have hi4 : 0 ≤ indU order i (i : Int) ∧ indU order i (i : Int) ≤ 1 := by unfold indU; split <;> omega
      refine ⟨?_, ?_⟩
      · simp only [impl_reduce_L3982, slices_Contains_spec order (i : Int) (by omega), Option.bind_some, atD_at0]
        rw [cond_pos (by omega), w64_of (x := (i : Int) + 1) (by omega) (by omega), Int.toNat_natCast]
        unfold setG
        by_cases hm : (i : Int) ∈ order
        · rw [decide_eq_true hm, if_pos hm]; rfl
        · rw [decide_eq_false hm, if_neg hm]
          simp only [Bool.not_false, cond_true]
          rw [impl_fire_spec g.ok g.len p1 (by omega) hfb (by omega)]
          simp only [Option.bind_some]
          rw [chk_pos (by omega), chk_pos (by omega), w64_of (x := at0 p.2 (i : Int) + 1) (by omega) (by omega)]
          rfl
      · unfold setG
        by_cases hm : (i : Int) ∈ order
        · rw [if_pos hm]
          have e : ∀ y : Int, 0 ≤ y → y < n → indU order (i + 1) y = indU order i y := fun y a b => by
            unfold indU
            by_cases hy : y = i
            · subst hy; rw [if_neg (fun q => q.2 hm), if_neg (fun q => q.2 hm)]
            · by_cases c : y < i ∧ y ∉ order
              · rw [if_pos c, if_pos ⟨by omega, c.2⟩]
              · rw [if_neg c, if_neg (fun q => c ⟨by have := q.1; omega, q.2⟩)]
          exact ⟨p1, p2, fun x a b => by rw [p3 x a b, flow_congr g.ok e], fun x a b => by rw [p4 x a b, e x a b]⟩
        · rw [if_neg hm]
          have e : ∀ y : Int, 0 ≤ y → y < n → indU order (i + 1) y = indU order i y + single (i : Int) 1 y := fun y a b => by
            unfold indU single
            by_cases hy : y = i
            · subst hy; rw [if_pos ⟨by omega, hm⟩, if_neg (by omega), if_pos rfl]; omega
            · rw [if_neg hy]
              by_cases c : y < i ∧ y ∉ order
              · rw [if_pos c, if_pos ⟨by omega, c.2⟩]; omega
              · rw [if_neg c, if_neg (fun q => c ⟨by have := q.1; omega, q.2⟩)]; omega
          refine ⟨by rw [fireL_len]; exact p1, by rw [List.length_set]; exact p2, fun x a b => ?_, fun x a b => ?_⟩
          · rw [fireL_at (by omega) a g.ok p1, p3 x a b, flow_congr g.ok e, flow_add]; omega
          · rw [e x a b]
            have := at0_set (l := p.2) (v := (i : Int)) (at0 p.2 (i : Int) + 1) (by omega) (by omega) x a
            rw [Int.toNat_natCast] at this
            rw [this, single]
            split
            · rename_i hx; rw [hx, p4 (i : Int) (by omega) (by omega)]; omega
            · rw [p4 x a b]; omega)
    (fun p hP => by
      simp only [impl_reduce_L3982]
      rw [cond_neg (by omega)]; rfl)
  obtain ⟨h1, h2, h3, h4, h5⟩ := h
  exact ⟨_, _, h1, h2, h3, h4, h5⟩
theorem red_sets (g : Gr n es) (w : Wt n es q c) (hq : 0 ≤ q ∧ q < n) (hU : 100 ≤ U ∧ U ≤ 50000) (h0 : ∀ v : Int, 0 ≤ v → v < n → -U ≤ at0 d0 v ∧ at0 d0 v ≤ U) {d1 s1 : Int → Int} (h1 : St1 n es q U (at0 d0) d1 s1) : ∀ (K : Nat) (out s : List Int), out.length = n → s.length = n → St2 n es q (at0 d0) s1 (at0 out) (at0 s) → Phi n c (at0 out) ≤ K →
    ∃ out' s', loopM impl_reduce_L62 (q, out, s, (n : Int), es, ()) = some (out', s', ()) ∧ RedOf n es q d0 out' s' := by
  intro K
  induction K with
  | zero =>
    intro out s ho hs st hK
    have hnn := phi_nonneg w _ st.pos
    obtain ⟨b1, b2⟩ := burn_spec (es := es) (d := at0 out) hq
    by_cases hf : (burn n es (at0 out) q).length = n
    · refine ⟨out, s, ?_, ⟨ho, hs, st.zero, st.eq, (burn_red g.ok hq st.pos).1 hf⟩⟩
      apply loop_out
      simp only [impl_reduce_L62, impl_burn_spec g ho hq, Option.bind_some, beq_dec]
      rw [cond_pos (by omega)]; rfl
    · exfalso
      have hne : ∃ v : Int, 0 ≤ v ∧ v < n ∧ decide (v ∉ burn n es (at0 out) q) = true := by
        apply Classical.byContradiction
        intro hno
        refine hf ((nodup_full b1.nd b1.val).2 fun v a b => ?_)
        apply Classical.byContradiction
        intro hv
        exact hno ⟨v, a, b, by simpa using hv⟩
      have := st.step g w (S := fun x => decide (x ∉ burn n es (at0 out) q)) (by simpa using List.mem_of_getElem? b1.zero) hne (fun v a b cc => unburnt g.ok b1 b2 v a b (by simpa using cc)) (d' := fun x => at0 out x + flow es (ind (fun x => decide (x ∉ burn n es (at0 out) q))) x) (s' := fun x => at0 s x + ind (fun x => decide (x ∉ burn n es (at0 out) q)) x) (fun x _ _ => rfl) (fun x _ _ => rfl) hq
      have hp := phi_nonneg w _ this.1.pos
      omega
  | succ K ih =>
    intro out s ho hs st hK
    obtain ⟨b1, b2⟩ := burn_spec (es := es) (d := at0 out) hq
    by_cases hf : (burn n es (at0 out) q).length = n
    · refine ⟨out, s, ?_, ⟨ho, hs, st.zero, st.eq, (burn_red g.ok hq st.pos).1 hf⟩⟩
      apply loop_out
      simp only [impl_reduce_L62, impl_burn_spec g ho hq, Option.bind_some, beq_dec]
      rw [cond_pos (by omega)]; rfl
    · have hne : ∃ v : Int, 0 ≤ v ∧ v < n ∧ decide (v ∉ burn n es (at0 out) q) = true := by
        apply Classical.byContradiction
        intro hno
        refine hf ((nodup_full b1.nd b1.val).2 fun v a b => ?_)
        apply Classical.byContradiction
        intro hv
        exact hno ⟨v, a, b, by simpa using hv⟩
      have hbl := b1.len
      have hle := g.le
      obtain ⟨o', s', e1, l1, l2, a1, a2⟩ := red_set g hq (order := burn n es (at0 out) q) ho hs (by omega) (fun v a b => by have := (st.abs g w h1 (by omega) h0 v a b).2; omega) (fun v a b => by have := (st.abs g w h1 (by omega) h0 v a b).1; omega)
      have ei : ∀ x : Int, 0 ≤ x → x < n → indU (burn n es (at0 out) q) n x = ind (fun x => decide (x ∉ burn n es (at0 out) q)) x := fun x a b => by
        unfold indU ind
        by_cases c : x ∈ burn n es (at0 out) q
        · rw [if_neg (fun q => q.2 c), if_neg (by simpa using c)]
        · rw [if_pos ⟨b, c⟩, if_pos (by simpa using c)]
      have hst := st.step g w (S := fun x => decide (x ∉ burn n es (at0 out) q)) (by simpa using List.mem_of_getElem? b1.zero) hne (fun v a b cc => unburnt g.ok b1 b2 v a b (by simpa using cc)) (d' := at0 o') (s' := at0 s') (fun x a b => by rw [a1 x a b, flow_congr g.ok ei]) (fun x a b => by rw [a2 x a b, ei x a b]) hq
      obtain ⟨o2, s2, e2, r2⟩ := ih o' s' l1 l2 hst.1 (by omega)
      refine ⟨o2, s2, ?_, r2⟩
      rw [← e2]
      apply loop_in
      simp only [impl_reduce_L62, impl_burn_spec g ho hq, Option.bind_some, beq_dec]
      rw [cond_neg (by omega), hs]
      exact e1
/-- reducing -/
theorem impl_reduce_ex (g : Gr n es) (hq : 0 ≤ q ∧ q < n) (hd : d0.length = n) (h0 : ∀ x ∈ d0, -50000 ≤ x ∧ x ≤ 50000) : ∃ out s, impl_reduce ((n : Int), es, d0, q, ()) = some (out, s, ()) ∧ RedOf n es q d0 out s := by
  obtain ⟨c, w⟩ := g.wt hq
  have hle := g.le
  have h0' : ∀ v : Int, 0 ≤ v → v < n → -50000 ≤ at0 d0 v ∧ at0 d0 v ≤ 50000 := fun v _ _ => at0_bd (by omega) h0 v
  have hz : ∀ v, at0 (List.replicate n 0) v = 0 := at0_replicate n
  have st : St1 n es q 50000 (at0 d0) (at0 d0) (at0 (List.replicate n 0)) := ⟨fun v a b => by
    rw [flow_congr g.ok (t := fun _ => 0) (fun x _ _ => hz x), flow_const]; omega, hz q, fun v _ _ => by rw [hz]; exact Int.le_refl _, fun v a b _ => (h0' v a b).2⟩
  obtain ⟨r, e1, hr⟩ := impl_inDebt_spec d0 q (by omega)
  obtain ⟨o1, s1, e2, l1, l2, st1, hp⟩ := red_pay (U := 50000) g w hq (by omega) h0' (n * (271453 * 50000) - Phi n c (at0 d0)).toNat d0 (List.replicate n 0) r hd (by simp) st (by omega) hr
  obtain ⟨o2, s2, e3, hR⟩ := red_sets (U := 50000) g w hq (by omega) h0' st1 (Phi n c (at0 o1)).toNat o1 s1 l1 l2 (st1.two hp) (by omega)
  refine ⟨o2, s2, ?_, hR⟩
  simp only [impl_reduce, impl_copyInts]
  rw [chk_pos (by omega)]
  simp only [Option.bind_some]
  rw [chk_pos ⟨trivial, by omega, by omega⟩, e1, Int.toNat_natCast]
  simp only [Option.bind_some]
  rw [e2]
  simp only [joinB_inl, impl_reduce_J61]
  exact e3
end
/-- the reduced divisor that the program finds -/
noncomputable def redL (n : Nat) (es : Es) (q : Int) (d : List Int) : List Int := (redP n es q d).1
noncomputable def redS (n : Nat) (es : Es) (q : Int) (d : List Int) : List Int := (redP n es q d).2
theorem impl_reduce_spec {n : Nat} {es : Es} {q : Int} {d : List Int} (g : Gr n es) (hq : 0 ≤ q ∧ q < n) (hd : d.length = n) (h0 : ∀ x ∈ d, -50000 ≤ x ∧ x ≤ 50000) : impl_reduce ((n : Int), es, d, q, ()) = some (redL n es q d, redS n es q d, ()) ∧ RedOf n es q d (redL n es q d) (redS n es q d) := by
  obtain ⟨out, s, e1, hR⟩ := impl_reduce_ex g hq hd h0
  have := hR.redP g.ok hq
  unfold redL redS
  rw [this]
  exact ⟨e1, hR⟩
theorem slices_Equal_spec (a b : List Int) (hb : a.length ≤ 17592186044416) : slices_Equal_int_int (a, b, ()) = some (decide (a = b), ()) := by
  simp only [slices_Equal_int_int, bne_false_iff]
  by_cases hl : (a.length : Int) = b.length
  rotate_left
  · rw [decide_eq_false hl, decide_eq_false (fun h => hl (by rw [h]))]; rfl
  · rw [decide_eq_true hl]
    simp only [Bool.not_true, cond_false]
    have hl' : a.length = b.length := by omega
    have := loop_forallN (f := slices_Equal_int_int_L58) (fun i => (a, b, (a.length : Int), i, ())) (fun i => decide (a.getD i 0 = b.getD i 0)) a.length (false, ()) (true, ()) (fun i hi => by
      simp only [slices_Equal_int_int_L58, atD_nat, bne_false_iff]
      rw [cond_pos (by omega), chk_pos (by omega), chk_pos (by omega), w64_of (by omega) (by omega)]
      by_cases h : a.getD i 0 = b.getD i 0
      · rw [decide_eq_true h]; rfl
      · rw [decide_eq_false h]; rfl) (by
      simp only [slices_Equal_int_int_L58]
      rw [cond_neg (by omega)]; rfl)
    have this' : loopM slices_Equal_int_int_L58 (a, b, (a.length : Int), 0, ()) = _ := this
    rw [this']
    by_cases h : a = b
    · subst h
      rw [decide_eq_true rfl]
      have : ((List.range a.length).all fun i => decide (a.getD i 0 = a.getD i 0)) = true := by simp
      rw [this]; rfl
    · rw [decide_eq_false h]
      have : ((List.range a.length).all fun i => decide (a.getD i 0 = b.getD i 0)) = false := by
        rw [Bool.eq_false_iff]
        intro hall
        rw [List.all_eq_true] at hall
        apply h
        apply List.ext_getElem hl'
        intro i h1 h2
        have := hall i (List.mem_range.2 h1)
        rw [decide_eq_true_eq, getD_of (List.getElem?_eq_getElem h1), getD_of (List.getElem?_eq_getElem h2)] at this
        exact this
      rw [this]; rfl
end Go.Pm.Try

set_option linter.unusedVariables false
set_option linter.unusedSimpArgs false
set_option linter.unusedSectionVars false
namespace Go.Pm.Try
open Go.Pm Go.Pm.Th
theorem sumV_shift : ∀ (m : Nat) (f : Int → Int), sumV (m + 1) f = f 0 + sumV m (fun x => f (x + 1))
  | 0, f => by simp [sumV]
  | m + 1, f => by
    rw [sumV, sumV_shift m f]
    simp only [sumV]
    rw [show ((m + 1 : Nat) : Int) = (m : Int) + 1 by omega]
    omega
def sumL (d : List Int) : Int := sumV d.length (at0 d)
theorem foldl_sumL : ∀ (d : List Int) (s : Int), d.foldl (fun s x => s + x) s = s + sumL d := by
  intro d
  have key : ∀ (l : List Int) (s : Int), l.foldl (fun s x => s + x) s = s + l.sum := by
    intro l
    induction l with
    | nil => intro s; simp
    | cons a l ih => intro s; rw [List.foldl_cons, ih, List.sum_cons]; omega
  have k2 : ∀ (l : List Int), sumV l.length (at0 l) = l.sum := by
    intro l
    induction l with
    | nil => rfl
    | cons a l ih =>
      rw [List.length_cons, sumV_shift, List.sum_cons, ← ih]
      congr 1
      exact sumV_congr _ fun v h0 h1 => by
        obtain ⟨k, rfl⟩ := Int.eq_ofNat_of_zero_le h0
        rw [show (k : Int) + 1 = ((k + 1 : Nat) : Int) by omega, at0_nat, at0_nat]
        simp [List.getD]
  intro s
  rw [key, sumL]
  rw [k2 d]
theorem impl_DegreeOf_spec (d : List Int) (hb : d.length ≤ 1000) (h : ∀ x ∈ d, -1000000 ≤ x ∧ x ≤ 1000000) : impl_DegreeOf (d, ()) = some (sumL d, ()) := by
  simp only [impl_DegreeOf, impl_sumOf]
  have := loop_fold (f := impl_sumOf_L58) (fun s i => (s, d, (d.length : Int), i, ())) (fun (s : Int) x => s + x) (fun i s => -1000000 * (i : Int) ≤ s ∧ s ≤ 1000000 * (i : Int)) d d.length rfl (fun s => (s, ())) 0 ⟨by omega, by omega⟩ (fun s i a ha hs => by
    have hi := lt_of_get ha
    have hx := h a (List.mem_of_getElem? ha)
    refine ⟨?_, show -1000000 * ((i + 1 : Nat) : Int) ≤ s + a ∧ s + a ≤ 1000000 * ((i + 1 : Nat) : Int) by omega⟩
    simp only [impl_sumOf_L58, atD_nat, getD_of ha]
    rw [cond_pos (by omega), chk_pos (by omega), w64_of (by omega) (by omega), w64_of (by omega) (by omega)]
    rfl) (fun s hs => by
    simp only [impl_sumOf_L58]
    rw [cond_neg (by omega)]; rfl)
  have h1 : loopM impl_sumOf_L58 (0, d, (d.length : Int), 0, ()) = _ := this.1
  rw [h1, foldl_sumL, Int.zero_add]
  rfl
theorem gokB_Gr {n : Nat} {es : Es} (hg : gokB n es = true) : Gr n es := by
  obtain ⟨m, e, g⟩ := gokB_gr hg
  have : n = m := by omega
  subst this
  exact g
theorem impl_ReducedOf_spec {n : Nat} {es : Es} (hg : gokB n es = true) {d : List Int} (hd : divOkB n es d = true) {q : Int} (hq : 0 ≤ q ∧ q < n) : impl_ReducedOf ((n : Int), es, d, q, ()) = some (redL n es q d, true, ()) ∧ RedOf n es q d (redL n es q d) (redS n es q d) := by
  obtain ⟨_, hl, hv⟩ := divOkB_len hd
  have hn := gokB_n hg
  obtain ⟨h1, h2⟩ := impl_reduce_spec (gokB_Gr hg) hq (show d.length = n by omega) (fun x hx => by have := hv x hx; omega)
  refine ⟨?_, h2⟩
  simp only [impl_ReducedOf, impl_DivisorOk_spec (n : Int) es d (by omega) (by omega), impl_isVertex_spec (n : Int) es q (by omega), hd, hg, inB_iff.2 hq, Option.bind_some, Bool.not_true, cond_false, Bool.and_self, h1]
/-- what differs by a script is equivalent, as the program finds -/
theorem impl_AreEquivalent_of {n : Nat} {es : Es} (hg : gokB n es = true) {a b : List Int} (ha : divOkB n es a = true) (hb : divOkB n es b = true) {t : Int → Int} (ht : ∀ v : Int, 0 ≤ v → v < n → at0 b v = at0 a v + flow es t v) : impl_AreEquivalent ((n : Int), es, a, b, ()) = some (true, ()) := by
  have hn := gokB_n hg
  have hq : 0 ≤ (0 : Int) ∧ (0 : Int) < n := by omega
  obtain ⟨e1, r1⟩ := impl_ReducedOf_spec hg ha hq
  obtain ⟨e2, r2⟩ := impl_ReducedOf_spec hg hb hq
  have hs := r1.same (gokB_Gr hg).ok hq r2 ht
  simp only [impl_AreEquivalent, impl_RepresentativeOf, e1, e2, Option.bind_some, cond_true, impl_SameDivisor]
  rw [slices_Equal_spec _ _ (by rw [r1.lo]; omega), decide_eq_true hs]
  rfl
def cutS (s : Int → Int) (i : Nat) (w : Int) : Int := if w < i then s w else 0
theorem impl_fired_spec {n : Nat} {es : Es} (g : Gr n es) {d s : List Int} (hd : d.length = n) (hs : s.length = n) (hdb : ∀ x ∈ d, -1000000 ≤ x ∧ x ≤ 1000000) (hsb : ∀ x ∈ s, -100000 ≤ x ∧ x ≤ 100000) :
    ∃ o, impl_fired ((n : Int), es, d, s, ()) = some (o, ()) ∧ o.length = n ∧ ∀ x : Int, 0 ≤ x → x < n → at0 o x = at0 d x + flow es (at0 s) x := by
  have hle := g.le
  simp only [impl_fired, impl_copyInts]
  rw [chk_pos (by omega)]
  simp only [Option.bind_some]
  have hs0 : ∀ v, -100000 ≤ at0 s v ∧ at0 s v ≤ 100000 := at0_bd (by omega) hsb
  have hd0 : ∀ v, -1000000 ≤ at0 d v ∧ at0 d v ≤ 1000000 := at0_bd (by omega) hdb
  have hm := loop_count (f := impl_fired_L58) (fun l i => (l, s, (s.length : Int), i, (n : Int), es, ())) (fun v l => fireL es l (v : Int) (at0 s (v : Int))) (fun i l => l.length = n ∧ ∀ x : Int, 0 ≤ x → x < n → at0 l x = at0 d x + flow es (cutS (at0 s) i) x) s.length (fun l => (l, ())) d ⟨hd, fun x a b => by
      rw [flow_congr g.ok (t := fun _ => 0) (fun y p r => by unfold cutS; rw [if_neg (by omega)]), flow_const]; exact (Int.add_zero _).symm⟩ (fun l i hi hP => by
    obtain ⟨p1, p2⟩ := hP
    have hfb : ∀ x ∈ l, -10000000000000 ≤ x ∧ x ≤ 10000000000000 := all_at0 fun v a b => by
      rw [p2 v a (by omega)]
      have h2 := flow_bd g (M := 100000) (by omega) (s := cutS (at0 s) i) (fun y _ _ => by unfold cutS; have := hs0 y; split <;> omega) v
      have := hd0 v
      omega
    have hsi := hs0 (i : Int)
    refine ⟨?_, by rw [fireL_len]; exact p1, fun x a b => ?_⟩
    · simp only [impl_fired_L58, atD_at0]
      rw [cond_pos (by omega), chk_pos (by omega), impl_fire_spec g.ok g.len p1 (by omega) hfb (by omega)]
      simp only [Option.bind_some]
      rw [w64_of (by omega) (by omega)]
      rfl
    · rw [fireL_at (by omega) a g.ok p1, p2 x a b]
      have e : ∀ y : Int, 0 ≤ y → y < n → cutS (at0 s) (i + 1) y = cutS (at0 s) i y + single (i : Int) (at0 s (i : Int)) y := fun y p r => by
        unfold cutS single
        by_cases hy : y = i
        · subst hy; rw [if_pos (by omega), if_neg (by omega), if_pos rfl]; omega
        · rw [if_neg hy]
          by_cases c : y < i
          · rw [if_pos c, if_pos (by omega)]; omega
          · rw [if_neg c, if_neg (by omega)]; omega
      rw [flow_congr g.ok e, flow_add]; omega) (fun l hP => by
    simp only [impl_fired_L58]
    rw [cond_neg (by omega)]; rfl)
  obtain ⟨h1, h2, h3⟩ := hm
  refine ⟨_, h1, h2, fun x a b => ?_⟩
  rw [h3 x a b]
  rw [flow_congr g.ok (t := at0 s) (fun y p r => by unfold cutS; rw [if_pos (by omega)])]
theorem impl_FireScript_spec {n : Nat} {es : Es} (hg : gokB n es = true) {d s : List Int} (hd : divOkB n es d = true) (hs : s.length = n) (hsb : ∀ x ∈ s, -100000 ≤ x ∧ x ≤ 100000) :
    ∃ o, impl_FireScript ((n : Int), es, d, s, ()) = some (o, true, ()) ∧ o.length = n ∧ ∀ x : Int, 0 ≤ x → x < n → at0 o x = at0 d x + flow es (at0 s) x := by
  have hn := gokB_n hg
  obtain ⟨_, hdl, hdv⟩ := divOkB_len hd
  obtain ⟨o, e1, h1, h2⟩ := impl_fired_spec (gokB_Gr hg) (show d.length = n by omega) hs (fun x hx => by have := hdv x hx; omega) hsb
  refine ⟨o, ?_, h1, h2⟩
  have ha : allInB s (-100000) 100000 = true := by simpa [allInB] using hsb
  simp only [impl_FireScript, impl_ScriptOk, impl_DivisorOk_spec (n : Int) es d (by omega) (by omega), impl_GraphOk_spec (n : Int) es (by omega), impl_allWithin_spec s (-100000) 100000 (by omega), hd, hg, ha, Option.bind_some, Bool.not_true, cond_false, cond_true, beq_dec]
  rw [cond_pos (by omega)]
  simp only [Option.bind_some, Bool.not_true, cond_false, e1]
theorem spec_MakeScript_spec (b : List Int) (hb : b.length ≤ 1048576) (k : Nat) (hk : k ≤ 1000) (n : Nat) (hn : n ≤ 1000) (es : Es) : ∃ s, spec_MakeScript (b, (k : Int), (n : Int), es, ()) = some (s, ()) ∧ s.length = n ∧ (∀ x ∈ s, -3 ≤ x ∧ x ≤ 3) := by
  obtain ⟨i, h, e1, c⟩ := spec_l21New_spec b hb k hk
  have key : ∀ (m v : Nat) (out : List Int) (i h : Int), v + m = n → out.length = v → (∀ x ∈ out, -3 ≤ x ∧ x ≤ 3) → CurOk b i → ∃ s, loopM spec_MakeScript_L122 (out, (v : Int), (n : Int), es, b, i, h, ()) = some (s, ()) ∧ s.length = n ∧ (∀ x ∈ s, -3 ≤ x ∧ x ≤ 3) := by
    intro m
    induction m with
    | zero =>
      intro v out i h hv hl ho c
      refine ⟨out, ?_, by omega, ho⟩
      apply loop_out
      simp only [spec_MakeScript_L122]
      rw [cond_neg (by omega)]; rfl
    | succ m ih =>
      intro v out i h hv hl ho c
      obtain ⟨x, i1, h1, e1, a1, a2, c1⟩ := spec_l01Below_spec c 7 h
      have hx := a2 (by omega)
      obtain ⟨s, e3, r⟩ := ih (v + 1) (out ++ [x - 3]) i1 h1 (by omega) (by simp; omega) (fun z hz => by
        rcases List.mem_append.1 hz with hz | hz
        · exact ho z hz
        · simp at hz; omega) c1
      refine ⟨s, ?_, r⟩
      rw [← e3]
      apply loop_in
      simp only [spec_MakeScript_L122]
      rw [cond_pos (by omega), e1]
      simp only [Option.bind_some]
      rw [chk_pos (by simp; omega), w64_of (by omega) (by omega), w64_of (by omega) (by omega)]
      rfl
  obtain ⟨s, e2, r⟩ := key n 0 [] i h (by omega) rfl (fun x hx => by simp at hx) c
  refine ⟨s, ?_, r⟩
  simp only [spec_MakeScript, e1, Option.bind_some]
  exact e2
end Go.Pm.Try

set_option linter.unusedVariables false
set_option linter.unusedSimpArgs false
set_option linter.unusedSectionVars false
namespace Go.Pm.Try
open Go.Pm Go.Pm.Th
theorem sumV_comm (f : Int → Int → Int) (n : Nat) : ∀ N : Nat, sumV N (fun w => sumV n (fun v => f w v)) = sumV n (fun v => sumV N (fun w => f w v))
  | 0 => by simp only [sumV]; rw [sumV_zero]
  | N + 1 => by simp only [sumV]; rw [sumV_comm f n N, ← sumV_add]
theorem pushSum_sumV (w : Int) : ∀ (vs d : List Int), vs.length = d.length → pushSum (vs.zip d) w = sumV d.length (fun v => if at0 vs v = w then at0 d v else 0)
  | [], [], _ => rfl
  | [], _ :: _, h => by simp at h
  | _ :: _, [], h => by simp at h
  | a :: vs, b :: d, h => by
    rw [List.zip_cons_cons, pushSum_cons, pushSum_sumV w vs d (by simpa using h), List.length_cons, sumV_shift]
    have e0 : ∀ (x : Int) (l : List Int), at0 (x :: l) 0 = x := fun x l => rfl
    rw [e0, e0]
    congr 1
    refine sumV_congr _ fun v h0 h1 => ?_
    obtain ⟨k, rfl⟩ := Int.eq_ofNat_of_zero_le h0
    have e1 : ∀ (x : Int) (l : List Int), at0 (x :: l) ((k : Int) + 1) = at0 l (k : Int) := fun x l => by
      rw [show (k : Int) + 1 = ((k + 1 : Nat) : Int) by omega, at0_nat, at0_nat]
      simp [List.getD]
    rw [e1, e1]
section
variable {n N : Nat} {vs : List Int} (hv : vs.length = n) (hr : ∀ x ∈ vs, 0 ≤ x ∧ x < N)
include hv hr
theorem zip_in (d : List Int) : ∀ a ∈ vs.zip d, 0 ≤ a.1 ∧ a.1 < ((List.replicate N (0 : Int)).length : Int) := fun a ha => by
  have := hr _ (List.of_mem_zip (show (a.1, a.2) ∈ _ from ha)).1
  rw [List.length_replicate]; exact this
theorem pushL_len (d : List Int) : (pushL N vs d).length = N := by
  have := (pushFold_at 0 (Int.le_refl _) (vs.zip d) (List.replicate N 0) (zip_in hv hr d)).2
  unfold pushL; rw [this]; simp
theorem pushL_at {d : List Int} (hd : d.length = n) {w : Int} (hw : 0 ≤ w) : at0 (pushL N vs d) w = sumV n (fun v => if at0 vs v = w then at0 d v else 0) := by
  unfold pushL
  rw [(pushFold_at w hw (vs.zip d) (List.replicate N 0) (zip_in hv hr d)).1, at0_replicate, pushSum_sumV w vs d (by omega), hd]
  omega
theorem vs_in {v : Int} (h0 : 0 ≤ v) (h1 : v < n) : 0 ≤ at0 vs v ∧ at0 vs v < N := by
  obtain ⟨k, rfl⟩ := Int.eq_ofNat_of_zero_le h0
  have hk : k < vs.length := by omega
  rw [at0_nat, getD_of (List.getElem?_eq_getElem hk)]
  exact hr _ (List.getElem_mem hk)
theorem sumL_push {d : List Int} (hd : d.length = n) : sumL (pushL N vs d) = sumL d := by
  unfold sumL
  rw [pushL_len hv hr, hd]
  rw [sumV_congr N (g := fun w => sumV n (fun v => if at0 vs v = w then at0 d v else 0)) fun w h0 _ => pushL_at hv hr hd h0]
  rw [sumV_comm (fun w v => if at0 vs v = w then at0 d v else 0)]
  refine sumV_congr n fun v h0 h1 => ?_
  have := vs_in hv hr h0 h1
  exact sumV_single N (at0 vs v) (at0 d v) _ this.1 this.2 (fun w _ _ hne => if_neg (fun h => hne h.symm)) (if_pos rfl)
end
/-- what the law needs of a morphism -/
structure GM (n : Nat) (es : Es) (N : Nat) (hs : Es) (vs ks : List Int) (D : Int) : Prop where
  harm : harmB n es N hs vs ks = true
  hpos : 0 < hs.length
  deg : degM ks = D
  Dn : 0 ≤ D ∧ D ≤ 4
  hor : ∀ v : Int, 0 ≤ v → v < n → 0 ≤ horV es hs vs ks v ∧ horV es hs vs ks v ≤ 4
  sum : ∀ w : Int, 0 ≤ w → w < N → sumV n (fun v => if at0 vs v = w then horV es hs vs ks v else 0) = D
  eqv : ∀ d s x : List Int, d.length = n → s.length = n → x.length = n → (∀ y ∈ d, -2 ≤ y ∧ y ≤ 6) → (∀ y ∈ s, -3 ≤ y ∧ y ≤ 3) → (∀ v : Int, 0 ≤ v → v < n → at0 x v = at0 d v + flow es (at0 s) v) →
    (∀ y ∈ x, -60 ≤ y ∧ y ≤ 60) ∧ (∀ y ∈ pushL N vs d, -60 ≤ y ∧ y ≤ 60) ∧ (∀ y ∈ pushL N vs x, -60 ≤ y ∧ y ≤ 60) ∧ ∃ t : Int → Int, ∀ w : Int, 0 ≤ w → w < N → at0 (pushL N vs x) w = at0 (pushL N vs d) w + flow hs t w
section
variable {n : Nat} {es : Es} {N : Nat} {hs : Es} {vs ks : List Int} {D : Int} (G : GM n es N hs vs ks D)
include G
theorem GM.parts : gokB n es = true ∧ gokB N hs = true ∧ vs.length = n ∧ ks.length = es.length ∧ ∀ x ∈ vs, 0 ≤ x ∧ x < N := by
  obtain ⟨hmor, _⟩ := harm_parts G.harm
  obtain ⟨hg, hh, l1, l2, r1, r2⟩ := morB_len hmor
  exact ⟨hg, hh, by omega, l2, fun x hx => by have := r1 x hx; omega⟩
theorem pullL_at {e : List Int} {v : Int} (h0 : 0 ≤ v) (h1 : v < n) : at0 (pullL es hs vs ks e) v = horV es hs vs ks v * at0 e (at0 vs v) := by
  obtain ⟨_, _, l1, _, _⟩ := G.parts
  obtain ⟨k, rfl⟩ := Int.eq_ofNat_of_zero_le h0
  unfold pullL
  rw [at0_nat, List.getD_eq_getElem?_getD, List.getElem?_map, List.getElem?_range (by omega)]
  rfl
theorem pullL_len (e : List Int) : (pullL es hs vs ks e).length = n := by
  obtain ⟨_, _, l1, _, _⟩ := G.parts
  simp [pullL, l1]
theorem push_pull (e : List Int) {w : Int} (h0 : 0 ≤ w) (h1 : w < N) : at0 (pushL N vs (pullL es hs vs ks e)) w = D * at0 e w := by
  obtain ⟨_, _, l1, _, r1⟩ := G.parts
  rw [pushL_at l1 r1 (pullL_len G e) h0]
  rw [sumV_congr n (g := fun v => at0 e w * (if at0 vs v = w then horV es hs vs ks v else 0)) fun v a b => by
    rw [pullL_at G a b]
    by_cases h : at0 vs v = w
    · rw [if_pos h, if_pos h, h, Int.mul_comm]
    · rw [if_neg h, if_neg h, Int.mul_zero]]
  rw [sumV_mul, G.sum w h0 h1, Int.mul_comm]
theorem sumL_pull {e : List Int} (he : e.length = N) : sumL (pullL es hs vs ks e) = D * sumL e := by
  obtain ⟨_, _, l1, _, r1⟩ := G.parts
  rw [← sumL_push l1 r1 (pullL_len G e)]
  unfold sumL
  rw [pushL_len l1 r1, he, ← sumV_mul]
  exact sumV_congr N fun w a b => push_pull G e a b
theorem GM.row {b : List Int} : ∀ w : Nat, w < N → loopM laws_FnMorphisms_L129610 (b, D, (w : Int), 0, 0, (n : Int), es, (N : Int), hs, vs, ks, ()) = some (.inl (b, D, ((w + 1 : Nat) : Int), (n : Int), es, (N : Int), hs, vs, ks, ())) := by
  intro w hw
  obtain ⟨hg, hh, l1, l2, r1⟩ := G.parts
  have hn := gokB_n hg
  have hNn := gokB_n hh
  have l := loop_count (f := laws_FnMorphisms_L129610) (fun s i => (b, D, (w : Int), s, i, (n : Int), es, (N : Int), hs, vs, ks, ())) (fun v (s : Int) => s + if at0 vs (v : Int) = (w : Int) then horV es hs vs ks (v : Int) else 0) (fun i s => (0 ≤ s ∧ s ≤ 4 * (i : Int)) ∧ s = sumV i (fun v => if at0 vs v = (w : Int) then horV es hs vs ks v else 0)) n (fun s => .inl (b, D, ((w + 1 : Nat) : Int), (n : Int), es, (N : Int), hs, vs, ks, ())) 0 ⟨⟨Int.le_refl _, by omega⟩, rfl⟩ (fun s i hi hs' => by
    obtain ⟨hs1, hs2⟩ := hs'
    have hh4 := G.hor (i : Int) (by omega) (by omega)
    refine ⟨?_, ?_, ?_⟩
    · simp only [laws_FnMorphisms_L129610, beq_dec, impl_HorizontalOf_spec (n : Int) es (N : Int) hs vs ks (i : Int) (by omega) (by omega) (by omega) (by omega), G.harm, inB_iff.2 (show 0 ≤ (i : Int) ∧ (i : Int) < n by omega), Option.bind_some, Bool.and_self, if_true]
      rw [cond_pos (by omega), chk_pos (by omega), w64_of (x := (i : Int) + 1) (by omega) (by omega), w64_of (x := s + horV es hs vs ks (i : Int)) (by omega) (by omega)]
      by_cases h : at0 vs (i : Int) = (w : Int)
      · rw [cond_pos (show atD 0 vs (i : Int) = (w : Int) from h), if_pos h]; rfl
      · rw [cond_neg (show ¬ atD 0 vs (i : Int) = (w : Int) from h), if_neg h, Int.add_zero]; rfl
    · show 0 ≤ (s + if at0 vs (i : Int) = (w : Int) then horV es hs vs ks (i : Int) else 0) ∧ (s + if at0 vs (i : Int) = (w : Int) then horV es hs vs ks (i : Int) else 0) ≤ 4 * ((i + 1 : Nat) : Int)
      split <;> omega
    · simp only [sumV]; rw [← hs2]) (fun s hs' => by
    obtain ⟨hs1, hs2⟩ := hs'
    rw [G.sum (w : Int) (by omega) (by omega)] at hs2
    simp only [laws_FnMorphisms_L129610, bne_false_iff]
    rw [cond_neg (by omega), decide_eq_true hs2, w64_of (x := (w : Int) + 1) (by omega) (by omega)]
    rfl)
  exact l.1
theorem GM.law {b : List Int} (hb : b.length ≤ 1048576) : laws_FnMorphisms_J253 (b, D, (n : Int), es, (N : Int), hs, vs, ks, ()) = some (true, ()) := by
  obtain ⟨hg, hh, l1, l2, r1⟩ := G.parts
  have hn := gokB_n hg
  have hNn := gokB_n hh
  obtain ⟨d, e1, dl, dv⟩ := spec_MakeDivisor_spec b hb 20 (by omega) n (by omega) es
  have e1' : spec_MakeDivisor (b, 20, (n : Int), es, ()) = _ := e1
  obtain ⟨s, e2, sl, sv⟩ := spec_MakeScript_spec b hb 40 (by omega) n (by omega) es
  have e2' : spec_MakeScript (b, 40, (n : Int), es, ()) = _ := e2
  have hdo : divOkB n es d = true := divOkB_of hg (by omega) (fun x hx => by have := dv x hx; omega)
  obtain ⟨x, e3, xl, xv⟩ := impl_FireScript_spec hg hdo sl (fun y hy => by have := sv y hy; omega)
  obtain ⟨b1, b2, b3, t, ht⟩ := G.eqv d s x dl sl xl dv sv xv
  have hxo : divOkB n es x = true := divOkB_of hg (by omega) b1
  have e4 := impl_PushForward_spec (n : Int) es (N : Int) hs vs ks d (by omega) (by omega) (by omega) (by omega) (by omega)
  have e5 := impl_PushForward_spec (n : Int) es (N : Int) hs vs ks x (by omega) (by omega) (by omega) (by omega) (by omega)
  rw [G.harm, hdo] at e4
  rw [G.harm, hxo] at e5
  obtain ⟨e, e6, el, ev⟩ := spec_MakeDivisor_spec b hb 30 (by omega) N (by omega) hs
  have e6' : spec_MakeDivisor (b, 30, (N : Int), hs, ()) = _ := e6
  have heo : divOkB N hs e = true := divOkB_of hh (by omega) (fun x hx => by have := ev x hx; omega)
  have e7 := impl_PullBack_spec (n : Int) es (N : Int) hs vs ks e (by omega) (by omega) (by omega) (by omega) (by omega)
  rw [G.harm, heo] at e7
  have hpl := pullL_len G e
  have he0 : ∀ v, -6 ≤ at0 e v ∧ at0 e v ≤ 6 := at0_bd (by omega) (fun x hx => by have := ev x hx; omega)
  have hpb : ∀ y ∈ pullL es hs vs ks e, -24 ≤ y ∧ y ≤ 24 := all_at0 fun v a c => by
    rw [pullL_at G a (by omega)]
    exact mul_small (A := 4) (B := 6) (G.hor v a (by omega)) (he0 _) (by omega) (by omega)
  have hpo : divOkB n es (pullL es hs vs ks e) = true := divOkB_of hg (by omega) (fun x hx => by have := hpb x hx; omega)
  have e8 := impl_PushForward_spec (n : Int) es (N : Int) hs vs ks (pullL es hs vs ks e) (by omega) (by omega) (by omega) (by omega) (by omega)
  rw [G.harm, hpo] at e8
  simp only [Bool.and_self, if_true, Int.toNat_natCast] at e4 e5 e7 e8
  have la := pushL_len l1 r1 d
  have lb := pushL_len l1 r1 x
  have lq := pushL_len l1 r1 (pullL es hs vs ks e)
  have hao : divOkB N hs (pushL N vs d) = true := divOkB_of hh (by omega) b2
  have hbo : divOkB N hs (pushL N vs x) = true := divOkB_of hh (by omega) b3
  have e9 := impl_AreEquivalent_of hh hao hbo ht
  have e10 := impl_DegreeOf_spec (pullL es hs vs ks e) (by omega) (fun x hx => by have := hpb x hx; omega)
  have e11 := impl_DegreeOf_spec e (by omega) (fun x hx => by have := ev x hx; omega)
  have e12 := impl_DegreeOf_spec (pushL N vs d) (by omega) (fun x hx => by have := b2 x hx; omega)
  have e13 := impl_DegreeOf_spec d (by omega) (fun x hx => by have := dv x hx; omega)
  have hsum : -36 ≤ sumL e ∧ sumL e ≤ 36 := by
    unfold sumL
    have h1 := sumV_le e.length (f := at0 e) (g := fun _ => 6) fun v _ _ => (he0 v).2
    have h2 := sumV_le e.length (f := fun _ => -6) (g := at0 e) fun v _ _ => (he0 v).1
    rw [sumV_const] at h1 h2
    omega
  have hDs := mul_small (A := 4) (B := 36) G.Dn hsum (by omega) (by omega)
  simp only [laws_FnMorphisms_J253, e1', e2', e3, e4, e5, e6', e7, e8, e9, e10, e11, Option.bind_some, Bool.not_true, cond_false, bne_false_iff]
  rw [decide_eq_true (show ((pushL N vs (pullL es hs vs ks e)).length : Int) = N by omega), cond_pos (show (hs.length : Int) > 0 by have := G.hpos; omega), sumL_pull G el, w64_of (x := D * sumL e) (by omega) (by omega), decide_eq_true rfl]
  simp only [Bool.not_true, cond_false, joinB_inl, laws_FnMorphisms_J65532]
  have lp := loop_all (f := laws_FnMorphisms_L262138) (fun i => (D, d, pushL N vs d, e, pushL N vs (pullL es hs vs ks e), ((pushL N vs (pullL es hs vs ks e)).length : Int), (i : Int), (N : Int), hs, ())) N (r := (true, ())) (fun i hi => by
    have h1 := push_pull G e (w := (i : Int)) (by omega) (by omega)
    have h2 := mul_small (A := 4) (B := 6) G.Dn (he0 (i : Int)) (by omega) (by omega)
    simp only [laws_FnMorphisms_L262138, bne_false_iff, atD_at0]
    rw [cond_pos (by omega), cond_pos (show (hs.length : Int) > 0 by have := G.hpos; omega), chk_pos (by omega), chk_pos (by omega), h1, w64_of (x := D * at0 e (i : Int)) (by omega) (by omega), decide_eq_true rfl, w64_of (x := (i : Int) + 1) (by omega) (by omega)]
    rfl) (by
    simp only [laws_FnMorphisms_L262138, e12, e13, Option.bind_some]
    rw [cond_neg (by omega), sumL_push l1 r1 dl, beq_dec, decide_eq_true rfl]
    rfl)
  exact lp
theorem GM.all {b : List Int} (hb : b.length ≤ 1048576) : laws_FnMorphisms_J124 (b, D, false, (n : Int), es, (N : Int), hs, vs, ks, ()) = some (true, ()) := by
  obtain ⟨hg, hh, l1, l2, r1⟩ := G.parts
  have hNn := gokB_n hh
  have hpos := G.hpos
  simp only [laws_FnMorphisms_J124, cond_false]
  have l := loop_all (f := laws_FnMorphisms_L506) (fun i => (b, D, (i : Int), (n : Int), es, (N : Int), hs, vs, ks, ())) N (r := .inl (b, D, (n : Int), es, (N : Int), hs, vs, ks, ())) (fun i hi => by
    simp only [laws_FnMorphisms_L506]
    rw [cond_pos (by omega), decide_eq_true (show (hs.length : Int) > 0 by omega)]
    simp only [joinB_inl, laws_FnMorphisms_J4048, cond_true]
    exact G.row i hi) (by
    simp only [laws_FnMorphisms_L506]
    rw [cond_neg (by omega)]
    rfl)
  have l' : loopM laws_FnMorphisms_L506 (b, D, 0, (n : Int), es, (N : Int), hs, vs, ks, ()) = _ := l
  rw [l']
  simp only [joinB_inl]
  exact G.law hb
end
theorem gm_id {n : Nat} {es : Es} (h : Drawn 5 n es) : GM n es n es (idL n) (idL es.length) 1 := by
  have hg := h.gok (by omega)
  have h2 := h.two
  have hlen := h.len
  have hle := h.le
  have he := gok_EOk hg
  refine ⟨harm_id hg, len_pos hg h2, deg_id (len_pos hg h2), by omega, fun v a b => by rw [hor_id hg h2 a b]; omega, fun w a b => ?_, fun d s x dl sl xl dv sv xv => ?_⟩
  · refine sumV_single n w 1 _ a b (fun v p q hne => ?_) ?_
    · rw [idL_at p q, if_neg hne]
    · rw [idL_at a b, if_pos rfl, hor_id hg h2 a b]
  · rw [push_id dl, push_id xl]
    have hx : ∀ y ∈ x, -60 ≤ y ∧ y ≤ 60 := all_at0 fun v a b => by
      rw [xv v a (by omega)]
      have h1 := at0_bd (l := d) (B := 6) (by omega) (fun y hy => by have := dv y hy; omega) v
      have h3 := flow_abs (s := at0 s) (M := 3) (fun v _ _ => at0_bd (by omega) sv v) (by omega) he v
      omega
    exact ⟨hx, fun y hy => by have := dv y hy; omega, hx, at0 s, fun w a b => xv w a b⟩
theorem fl_ban (s : Int → Int) : flow [(0, 1)] s 0 = s 1 - s 0 ∧ flow [(0, 1)] s 1 = s 0 - s 1 := by
  constructor <;> simp [flow, Th.part]
theorem fl_ban_k (s : Int → Int) (w : Int) : ∀ k : Nat, flow (List.replicate k (0, 1)) s w = k * flow [(0, 1)] s w
  | 0 => by simp [flow]
  | k + 1 => by
    rw [List.replicate_succ]
    simp only [flow]
    rw [fl_ban_k s w k]
    simp only [flow]
    rw [show ((k + 1 : Nat) : Int) = (k : Int) + 1 by omega, Int.add_mul]
    omega
theorem gm_ban (k : Nat) (h : 1 ≤ k ∧ k ≤ 4) (hm : harmB ((2 : Nat) : Int) (List.replicate k (0, 1)) ((2 : Nat) : Int) [(0, 1)] [0, 1] (List.replicate k 0) = true) : GM 2 (List.replicate k (0, 1)) 2 [(0, 1)] [0, 1] (List.replicate k 0) k := by
  have hk : k = 1 ∨ k = 2 ∨ k = 3 ∨ k = 4 := by omega
  have c1 : degM (List.replicate k 0) = k := by rcases hk with rfl | rfl | rfl | rfl <;> rfl
  have c2 : horV (List.replicate k (0, 1)) [(0, 1)] [0, 1] (List.replicate k 0) 0 = k ∧ horV (List.replicate k (0, 1)) [(0, 1)] [0, 1] (List.replicate k 0) 1 = k := by rcases hk with rfl | rfl | rfl | rfl <;> exact ⟨rfl, rfl⟩
  have two : ∀ v : Int, 0 ≤ v → v < ((2 : Nat) : Int) → v = 0 ∨ v = 1 := fun v a b => by omega
  have hid : ([0, 1] : List Int) = idL 2 := rfl
  refine ⟨hm, by simp, c1, by omega, fun v a b => ?_, fun w a b => ?_, fun d s x dl sl xl dv sv xv => ?_⟩
  · rcases two v a b with rfl | rfl
    · rw [c2.1]; omega
    · rw [c2.2]; omega
  · have e : ∀ f : Int → Int, sumV 2 f = f 0 + f 1 := fun f => by simp [sumV]
    rw [e, c2.1, c2.2]
    rcases two w a b with rfl | rfl
    · show (k : Int) + 0 = k; omega
    · show 0 + (k : Int) = k; omega
  · rw [hid, push_id dl, push_id xl]
    have hx : ∀ y ∈ x, -60 ≤ y ∧ y ≤ 60 := all_at0 fun v a b => by
      rw [xv v a (by omega), fl_ban_k]
      have h1 := at0_bd (l := d) (B := 6) (by omega) (fun y hy => by have := dv y hy; omega) v
      have s0 := at0_bd (l := s) (B := 3) (by omega) sv 0
      have s1 := at0_bd (l := s) (B := 3) (by omega) sv 1
      have h3 : -6 ≤ flow [(0, 1)] (at0 s) v ∧ flow [(0, 1)] (at0 s) v ≤ 6 := by
        rcases two v a (by omega) with rfl | rfl
        · rw [(fl_ban _).1]; omega
        · rw [(fl_ban _).2]; omega
      have h4 := mul_small (a := (k : Int)) (A := 4) (B := 6) (by omega) h3 (by omega) (by omega)
      omega
    refine ⟨hx, fun y hy => by have := dv y hy; omega, hx, fun v => (k : Int) * at0 s v, fun w a b => ?_⟩
    rw [xv w a b, fl_ban_k, flow_mul]
theorem gm_cyc (hm : harmB ((4 : Nat) : Int) [(0, 1), (0, 3), (1, 2), (2, 3)] ((3 : Nat) : Int) [(0, 1), (1, 2)] [0, 1, 2, 1] [0, 0, 1, 1] = true) : GM 4 [(0, 1), (0, 3), (1, 2), (2, 3)] 3 [(0, 1), (1, 2)] [0, 1, 2, 1] [0, 0, 1, 1] 2 := by
  have four : ∀ v : Int, 0 ≤ v → v < ((4 : Nat) : Int) → v = 0 ∨ v = 1 ∨ v = 2 ∨ v = 3 := fun v a b => by omega
  have three : ∀ v : Int, 0 ≤ v → v < ((3 : Nat) : Int) → v = 0 ∨ v = 1 ∨ v = 2 := fun v a b => by omega
  have e4 : ∀ f : Int → Int, sumV 4 f = f 0 + f 1 + f 2 + f 3 := fun f => by simp [sumV]
  have l1 : ([0, 1, 2, 1] : List Int).length = 4 := rfl
  have r1 : ∀ x ∈ ([0, 1, 2, 1] : List Int), 0 ≤ x ∧ x < ((3 : Nat) : Int) := by decide
  refine ⟨hm, by simp, rfl, by omega, fun v a b => ?_, fun w a b => ?_, fun d s x dl sl xl dv sv xv => ?_⟩
  · rcases four v a b with rfl | rfl | rfl | rfl <;> decide
  · rcases three w a b with rfl | rfl | rfl <;> decide
  · have p0 : ∀ {d : List Int}, d.length = 4 → at0 (pushL 3 [0, 1, 2, 1] d) 0 = at0 d 0 := fun hd => by
      rw [pushL_at l1 r1 hd (by omega), e4]
      show at0 _ 0 + 0 + 0 + 0 = _
      omega
    have p1 : ∀ {d : List Int}, d.length = 4 → at0 (pushL 3 [0, 1, 2, 1] d) 1 = at0 d 1 + at0 d 3 := fun hd => by
      rw [pushL_at l1 r1 hd (by omega), e4]
      show 0 + at0 _ 1 + 0 + at0 _ 3 = _
      omega
    have p2 : ∀ {d : List Int}, d.length = 4 → at0 (pushL 3 [0, 1, 2, 1] d) 2 = at0 d 2 := fun hd => by
      rw [pushL_at l1 r1 hd (by omega), e4]
      show 0 + 0 + at0 _ 2 + 0 = _
      omega
    have sb := at0_bd (l := s) (B := 3) (by omega) sv
    have db := at0_bd (l := d) (B := 6) (by omega) (fun y hy => by have := dv y hy; omega)
    have f0 : flow [(0, 1), (0, 3), (1, 2), (2, 3)] (at0 s) 0 = at0 s 1 + at0 s 3 - 2 * at0 s 0 := by simp [flow, Th.part]; omega
    have f1 : flow [(0, 1), (0, 3), (1, 2), (2, 3)] (at0 s) 1 = at0 s 0 + at0 s 2 - 2 * at0 s 1 := by simp [flow, Th.part]; omega
    have f2 : flow [(0, 1), (0, 3), (1, 2), (2, 3)] (at0 s) 2 = at0 s 1 + at0 s 3 - 2 * at0 s 2 := by simp [flow, Th.part]; omega
    have f3 : flow [(0, 1), (0, 3), (1, 2), (2, 3)] (at0 s) 3 = at0 s 0 + at0 s 2 - 2 * at0 s 3 := by simp [flow, Th.part]; omega
    have x0 := xv 0 (by omega) (by omega)
    have x1 := xv 1 (by omega) (by omega)
    have x2 := xv 2 (by omega) (by omega)
    have x3 := xv 3 (by omega) (by omega)
    have s0 := sb 0
    have s1 := sb 1
    have s2 := sb 2
    have s3 := sb 3
    have d0 := db 0
    have d1 := db 1
    have d2 := db 2
    have d3 := db 3
    refine ⟨all_at0 fun v a b => ?_, all_at0 fun v a b => ?_, all_at0 fun v a b => ?_, fun v => if v = 0 then 2 * at0 s 0 else if v = 1 then at0 s 1 + at0 s 3 else 2 * at0 s 2, fun w a b => ?_⟩
    · rw [xl] at b
      rcases four v a b with rfl | rfl | rfl | rfl <;> omega
    · rw [pushL_len l1 r1] at b
      rcases three v a b with rfl | rfl | rfl
      · rw [p0 dl]; omega
      · rw [p1 dl]; omega
      · rw [p2 dl]; omega
    · rw [pushL_len l1 r1] at b
      rcases three v a b with rfl | rfl | rfl
      · rw [p0 xl]; omega
      · rw [p1 xl]; omega
      · rw [p2 xl]; omega
    · have g0 : ∀ t : Int → Int, flow [(0, 1), (1, 2)] t 0 = t 1 - t 0 := fun t => by simp [flow, Th.part]
      have g1 : ∀ t : Int → Int, flow [(0, 1), (1, 2)] t 1 = t 0 + t 2 - 2 * t 1 := fun t => by simp [flow, Th.part]; omega
      have g2 : ∀ t : Int → Int, flow [(0, 1), (1, 2)] t 2 = t 1 - t 2 := fun t => by simp [flow, Th.part]
      rcases three w a b with rfl | rfl | rfl
      · rw [p0 xl, p0 dl, g0]
        show _ = at0 d 0 + ((at0 s 1 + at0 s 3) - 2 * at0 s 0)
        omega
      · rw [p1 xl, p1 dl, g1]
        show _ = at0 d 1 + at0 d 3 + (2 * at0 s 0 + 2 * at0 s 2 - 2 * (at0 s 1 + at0 s 3))
        omega
      · rw [p2 xl, p2 dl, g2]
        show _ = at0 d 2 + ((at0 s 1 + at0 s 3) - 2 * at0 s 2)
        omega
theorem base_gm {n : Int} {es : Es} {N : Int} {hs : Es} {vs ks : List Int} (hb : Base n es N hs vs ks) (hm : harmB n es N hs vs ks = true) : ∃ (m M : Nat) (D : Int), n = m ∧ N = M ∧ GM m es M hs vs ks D := by
  cases hb with
  | @id n es h => exact ⟨n, n, 1, rfl, rfl, gm_id h⟩
  | ban k h => exact ⟨2, 2, k, rfl, rfl, gm_ban k h hm⟩
  | cyc => exact ⟨4, 3, 2, rfl, rfl, gm_cyc hm⟩
/-- the law of Morphisms -/
theorem law_Morphisms (b : List Int) : laws_FnMorphisms (b, ()) = some (true, ()) := by
  simp only [laws_FnMorphisms]
  by_cases h1 : (b.length : Int) > 1048576
  · rw [cond_pos h1]
  rw [cond_neg h1]
  obtain ⟨n, es, N, hs, vs, ks, e1, hmod, hm⟩ := spec_MakeMorphism_spec b (by omega)
  have hl := hmod.lens
  obtain ⟨m, M, D, rfl, rfl, G⟩ := base_gm (mod_base hmod hm) hm
  have e2 := impl_DegreeOfMorphism_spec (m : Int) es (M : Int) hs vs ks (by omega) (by omega) (by omega) (by omega)
  have e3 := impl_MorphismOk_spec (m : Int) es (M : Int) hs vs ks (by omega) (by omega) (by omega) (by omega)
  have e4 := impl_IsHarmonic_spec (m : Int) es (M : Int) hs vs ks (by omega) (by omega) (by omega) (by omega)
  rw [hm] at e2 e4
  rw [(harm_parts hm).1] at e3
  have hD := G.Dn
  simp only [e1, e2, e3, e4, Option.bind_some, if_true, G.deg, Bool.not_true, cond_false, joinB_inl]
  rw [decide_eq_false (show ¬ D < 0 by omega)]
  exact G.all (by omega)
end Go.Pm.Try

